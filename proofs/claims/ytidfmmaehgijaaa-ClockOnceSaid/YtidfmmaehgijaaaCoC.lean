/- Steps of the walk and of the plain law (RunD to RunQ). Conditions: as each lemma says. -/
import Derived.Test.YtidfmmaehgijaaaCoB
namespace Go.Proofs.Ytidfmmaehgijaaa
section
open Go Go.TJ Go.Conc Go.Proofs
section
variable {X : Us} {i : Nat} {γ : GG X} {u : X.U} {L : List (Nat × Obj)} {h : Hp}
theorem hset_block {h : Hp} {b o : Nat} {c : Array Value} {e : TypeId} {f : Nat × Nat} (hb : h[b]? = some (.cells c e f)) (v : Value) : hset h ⟨b, o, none⟩ v = h.setIfInBounds b (.cells (c.setIfInBounds o v) e f) := by
  apply Array.ext_getElem?
  intro j
  by_cases hj : b = j
  · subst hj
    rw [get_set_same hb]
    exact hset_same h ⟨b, o, none⟩ v hb rfl
  · rw [get_set_ne _ hj, hset_ne _ _ _ hj]
theorem AtOk.form {s : Ph} {v : Value} {a : List Value} (x : AtOk i s v a) : (∃ y, v = .pointer y) /\ ∃ t o c b n w x k, a = accL t o c b n w x k := by
  cases s with
  | born => exact ⟨⟨_, x.1⟩, _, _, _, _, _, _, _, _, x.2⟩
  | stands r => exact ⟨⟨_, x.1⟩, _, _, _, _, _, _, _, _, x.2⟩
  | over => exact x
theorem AtOk.form' {s : Ph} {v : Value} {a : List Value} (x : AtOk i s v a) : AtOk i .over v a := x.form
theorem still_of {a : Addr} (hr : γ.run = i) (x : (PX X).still (i + 1) γ a) : a = ⟨γ.p.tb i, 3, none⟩ \/ ∃ j, j ≠ i /\ j < γ.p.num /\ (a = ⟨γ.p.tb j, 2, none⟩ \/ a = ⟨γ.p.bx j, 0, none⟩) := by
  obtain ⟨j, h1, h2, h3, h4⟩ := x
  cases j with
  | zero =>
    change (cM γ a).isSome = true at h4
    unfold cM at h4
    split at h4
    · rename_i e; rw [e, hr]; exact .inl rfl
    · cases h4
  | succ j =>
    change (cT γ j a).isSome = true at h4
    have hj : j < γ.p.num := by have : j + 1 < γ.p.num + 1 := h2; omega
    refine .inr ⟨j, by omega, hj, ?_⟩
    unfold cT at h4
    split at h4
    · rename_i e; exact .inl e
    · split at h4
      · rename_i e; exact .inr e
      · cases h4
theorem Thr.fresh (T : Thr X i γ u L h) {W : Nat -> Prop} {p : PS X.U} {ns : List Nat} {s : Sls} {M : Mem Nm} (g : GI X W p ns s M h) (hp : p.num = γ.p.num /\ p.tb = γ.p.tb /\ p.bx = γ.p.bx) {b o : Nat} (hb : ∀ k, M.ok k -> (∃ j, k = .t j \/ k = .bx j) -> M.B k ≠ b) : ¬ (PX X).still (i + 1) γ ⟨b, o, none⟩ := by
  intro x
  obtain ⟨p1, p2, p3⟩ := hp
  rcases still_of T.run x with e | ⟨j, _, hj, e | e⟩
  · have := g.all (.t i) (by rw [p1]; exact T.lt)
    refine hb _ this.1 ⟨_, .inl rfl⟩ ?_
    rw [this.2.1, p2]; injection e with e; exact e.symm
  · have := g.all (.t j) (by rw [p1]; exact hj)
    refine hb _ this.1 ⟨_, .inl rfl⟩ ?_
    rw [this.2.1, p2]; injection e with e; exact e.symm
  · have := g.all (.bx j) (by rw [p1]; exact hj)
    refine hb _ this.1 ⟨_, .inr rfl⟩ ?_
    rw [this.2.1, p3]; injection e with e; exact e.symm
theorem acc_three : ({ γ.p.acc i with u := u, prv := ut (γ.p.acc i).prv i L } : PS X.U).num = γ.p.num /\ ({ γ.p.acc i with u := u, prv := ut (γ.p.acc i).prv i L } : PS X.U).tb = γ.p.tb /\ ({ γ.p.acc i with u := u, prv := ut (γ.p.acc i).prv i L } : PS X.U).bx = γ.p.bx := by
  obtain ⟨a1, a2, a3, a4, a5, a6, a7, _⟩ := acc_same γ.p i
  exact ⟨a3, a4, a7⟩
theorem Thr.free (T : Thr X i γ u L h) {b o : Nat} (hb : X.Dom u b \/ X.isC b \/ (∃ q, q ∈ L /\ q.1 = b) \/ h.size <= b) : ¬ (SitT Try.prog (PX X) (i + 1)).still γ ⟨b, o, none⟩ := by
  obtain ⟨s, M, g⟩ := T.gi
  refine T.fresh g acc_three (fun k hk _ e => ?_)
  rcases hb with y | y | ⟨q, y, rfl⟩ | y
  · exact (g.apart k hk).2 (e ▸ y)
  · exact (g.apart k hk).1 (e ▸ y)
  · exact (g.prv i (by rw [acc_three.1]; exact T.lt) q (by show q ∈ ut (γ.p.acc i).prv i L i; rw [ut_same]; exact y)).2.2.1 k hk e
  · have := g.lt hk; omega
theorem Thr.freeRow (T : Thr X i γ u L h) {o : Nat} (ho : o ≠ 3) : ¬ (SitT Try.prog (PX X) (i + 1)).still γ ⟨γ.p.tb i, o, none⟩ := by
  obtain ⟨s, M, g⟩ := T.gi
  intro x
  have hi := g.all (.t i) (by rw [acc_three.1]; exact T.lt)
  have ei : M.B (.t i) = γ.p.tb i := hi.2.1.trans (congrFun acc_three.2.1 i)
  rcases still_of T.run x with e | ⟨j, hji, hj, e | e⟩
  · injection e with _ e _; exact ho e
  · have hj' := g.all (.t j) (by rw [acc_three.1]; exact hj)
    have ej : M.B (.t j) = γ.p.tb j := hj'.2.1.trans (congrFun acc_three.2.1 j)
    injection e with e _ _
    exact g.ne hi.1 hj'.1 (fun y => hji (by injection y with y; exact y.symm)) (ei.trans (e.trans ej.symm))
  · have hj' := g.all (.bx j) (by rw [acc_three.1]; exact hj)
    have ej : M.B (.bx j) = γ.p.bx j := hj'.2.1.trans (congrFun acc_three.2.2 j)
    injection e with e _ _
    exact g.ne hi.1 hj'.1 nofun (ei.trans (e.trans ej.symm))
theorem hset_ne_cell {h : Hp} {b o b' o' : Nat} {v : Value} (hne : b' ≠ b) : hcell (hset h ⟨b, o, none⟩ v) ⟨b', o', none⟩ = hcell h ⟨b', o', none⟩ := by
  unfold hcell
  rw [hset_ne _ _ _ (Ne.symm hne)]
theorem Thr.row (T : Thr X i γ u L h) : ∃ v t o c b n w x k, AtOk i (γ.p.st i) v (accL t o c b n w x k) /\ h[γ.p.tb i]? = some (thrO γ.p.R i (γ.p.wk i) (γ.p.sd i) v (accL t o c b n w x k) false) := by
  obtain ⟨s, M, g⟩ := T.gi
  obtain ⟨a1, a2, a3, a4, a5, a6, a7, a8, a9, a10, a11, a12, _⟩ := acc_same γ.p i
  obtain ⟨v, a, h1, h2⟩ := g.thrAt (i := i) (by rw [acc_three.1]; exact T.lt)
  obtain ⟨_, t, o, c, b, n, w, x, k, rfl⟩ := h1.form
  refine ⟨v, t, o, c, b, n, w, x, k, ?_, ?_⟩
  · rw [<- a11]; exact h1
  · rw [<- a4, <- a1, <- a5, <- a6, <- T.live, <- a12]; exact h2
theorem Thr.runB (T : Thr X i γ u L h) : ∃ s, h[γ.p.R]? = some (runO s γ.p.mb false) := by
  obtain ⟨s, M, g⟩ := T.gi
  obtain ⟨a1, a2, a3, a4, a5, a6, a7, a8, a9, a10, a11, a12, a13, a14, a15, a16, _⟩ := acc_same γ.p i
  refine ⟨s, ?_⟩
  rw [<- a1, <- a2, <- T.go, <- a16]; exact g.runAt
abbrev stopV : Value := .iface 247 (.agg #[])
set_option maxRecDepth 8000 in
set_option maxHeartbeats 4000000 in
theorem stands_ok {r : Rq} (hX : X.Ok) (T : Thr X i γ u L h) (hr : RqOk X r) (hQ : X.Q i (ownOf i (γ.p.acc i).log) (.stands r) u) (hJ : X.J (γ.p.acc i).log u (γ.p.acc i).val) :
    CallW Try.prog false (SitT Try.prog (PX X) (i + 1)) 118 #[ptr (γ.p.tb i), ptr r.b, .agg (rqL i r).toArray] h ⟨0, γ⟩ (RetP (fun _ h' δ' => ∃ γ', δ' = ⟨0, γ'⟩ /\ γ'.p.stops = false /\ View X i (γ.p.turn i u L (.stands r) false) γ'.p /\ P1 X i γ' h')
      (fun ps h' δ' => ∃ γ', δ' = ⟨0, γ'⟩ /\ Stp X i γ' h' /\ View X i (γ.p.turn i u L (.stands r) false) γ'.p /\ ps = [{ v := stopV, recovered := false }])) := by
  refine CallW.start (n := 41) rfl rfl ?_
  (repeat (first | refine EK.seq ?_ | refine EK.region ?_ | refine ER.done ?_ | refine ER.move rfl rfl rfl ?_ | refine ER.nilCheck rfl rfl rfl ?_ | refine ER.fieldAddr rfl rfl rfl ?_ | refine ER.boxA rfl rfl rfl ?_))
  refine ER.gen (fun h' => Thr X i γ u L h' /\ hrow h' h.size 0 (rqL i r)) ⟨T.upd0 hX (Upd.push _ _), hrow_block (rest := []) (by rw [List.append_nil]; exact get_push_new _ _)⟩ ?_
  generalize h.size = x
  clear T
  rintro h0 ⟨T, bx⟩
  obtain ⟨v, t, o, c, b, n, w, y, k, hat, hrow1⟩ := T.row
  obtain ⟨s0, hrun⟩ := T.runB
  have c0 : hcell h0 ⟨γ.p.tb i, 0, none⟩ = some (ptr γ.p.R) := hcell_of hrow1 rfl
  have c6 : hcell h0 ⟨γ.p.R, 6, none⟩ = some (.bool false) := hcell_of hrun rfl
  (repeat (first | refine EK.seq ?_ | refine ER.done ?_ | refine ER.nilCheck rfl rfl rfl ?_ | refine ER.fieldAddr rfl rfl rfl ?_ | refine ER.load1 rfl rfl rfl (hcell_of (by assumption) rfl) ?_ | refine ER.notB rfl rfl rfl ?_ | refine EK.condT rfl ?_))
  have live : γ.p.st i ≠ .over \/ True := .inr trivial
  refine EK.regionAny (fun h' => hrow h' x 0 (rqL i r)) ?_
  have hxt : x ≠ γ.p.tb i := fun e => by
    have h1 := bx 0 _ rfl
    rw [e] at h1
    have h2 : hcell h0 ⟨γ.p.tb i, 0 + 0, none⟩ = some (ptr γ.p.R) := hcell_of hrow1 rfl
    rw [h2] at h1
    cases h1
  have hZ := bx
  refine EA.tMove 0 rfl (by kernel_rfl) rfl rfl rfl rfl hZ ?_
  refine EA.tMove 1 rfl (by kernel_rfl) rfl rfl rfl rfl hZ ?_
  refine EA.tMove 2 rfl (by kernel_rfl) rfl rfl rfl rfl hZ ?_
  refine EA.tLoadN (vs := rqL i r) 3 rfl (by kernel_rfl) rfl rfl rfl rfl rfl (fun _ hz => hz) hZ ?_
  refine EA.tNil 4 rfl (by kernel_rfl) rfl rfl rfl rfl hZ ?_
  refine EA.tField 5 rfl (by kernel_rfl) rfl rfl rfl rfl hZ ?_
  have hS : ∀ o, o ≠ 3 -> ¬ (SitT Try.prog (PX X) (i + 1)).still γ ⟨γ.p.tb i, o, none⟩ := fun o ho => T.freeRow ho
  refine EA.unit (h' := hset h0 ⟨γ.p.tb i, 4, none⟩ (ptr r.b)) 6 rfl (by kernel_rfl) rfl rfl (fun ρ Q X hρ hq => sem_store1 (hρ _ _ rfl) (hρ _ _ rfl) ⟨nofun, nofun⟩ ⟨_, hcell_of hrow1 rfl⟩ (hfroz_of hrow1) (hS _ (by decide)) hq) ?_ ?_
  · exact fun j v hj => (hset_ne_cell hxt).trans (bx j v hj)
  have hZ : hrow (hset h0 ⟨γ.p.tb i, 4, none⟩ (ptr r.b)) x 0 (rqL i r) := fun j v hj => (hset_ne_cell hxt).trans (bx j v hj)
  rw [hset_block hrow1] at hZ ⊢
  have hrow2 := get_set_same hrow1 (o' := .cells ((ptr γ.p.R :: .int .i64 i :: .chan (some (γ.p.wk i)) :: .chan (some (γ.p.sd i)) :: v :: (accL t o c b n w y k ++ [.bool false])).toArray.setIfInBounds 4 (ptr r.b)) 144 (0, 0))
  refine EA.tNil 7 rfl (by kernel_rfl) rfl rfl rfl rfl hZ ?_
  refine EA.tField 8 rfl (by kernel_rfl) rfl rfl rfl rfl hZ ?_
  have er : hsetRow (h0.setIfInBounds (γ.p.tb i) (.cells ((ptr γ.p.R :: .int .i64 i :: .chan (some (γ.p.wk i)) :: .chan (some (γ.p.sd i)) :: v :: (accL t o c b n w y k ++ [.bool false])).toArray.setIfInBounds 4 (ptr r.b)) 144 (0, 0))) (γ.p.tb i) 5 (rqL i r) = h0.setIfInBounds (γ.p.tb i) (thrO γ.p.R i (γ.p.wk i) (γ.p.sd i) (ptr r.b) (rqL i r) false) := by
    rw [hsetRow_block (rqL i r) 5 _ (ptr γ.p.R :: .int .i64 i :: .chan (some (γ.p.wk i)) :: .chan (some (γ.p.sd i)) :: ptr r.b :: (accL t o c b n w y k ++ [.bool false])) hrow2 (by show 5 + 8 <= 14; omega)]
    exact Array.setIfInBounds_setIfInBounds _
  refine EA.unit (h' := h0.setIfInBounds (γ.p.tb i) (thrO γ.p.R i (γ.p.wk i) (γ.p.sd i) (ptr r.b) (rqL i r) false)) 9 rfl (by kernel_rfl) rfl rfl (fun ρ Q X hρ hq => sem_storeN (vs := rqL i r) (hρ _ _ rfl) (hρ _ _ rfl) rfl (by simp [rqL, accL, OneCell]) (fun j hj => ⟨?_, hfroz_of hrow2, hS _ (by omega)⟩) (by rw [er]; exact hq)) ?_ ?_
  · have hj' : j < 8 := hj
    rcases (show j = 0 \/ j = 1 \/ j = 2 \/ j = 3 \/ j = 4 \/ j = 5 \/ j = 6 \/ j = 7 by omega) with rfl | rfl | rfl | rfl | rfl | rfl | rfl | rfl <;> exact ⟨_, hcell_of hrow2 rfl⟩
  · exact fun j v hj => (hcell_set_ne _ (Ne.symm hxt)).trans (bx j v hj)
  refine EA.done (by kernel_rfl) ?_
  obtain ⟨s, M, g⟩ := T.gi
  obtain ⟨a1, a2, a3, a4, a5, a6, a7, a8, a9, a10, a11, a12, a13, a14, a15, a16, a17⟩ := acc_same γ.p i
  have hlt : i < ({ γ.p.acc i with u := u, prv := ut (γ.p.acc i).prv i L } : PS X.U).num := by rw [acc_three.1]; exact T.lt
  have g1 := g.row hlt (t := .stands r) (v := ptr r.b) (a := rqL i r) ⟨rfl, rfl⟩ false
  have g2 : GI X (Wide γ.W γ.base) (γ.p.turn i u L (.stands r) false) (nums (γ.p.turn i u L (.stands r) false).log) s (M.set (.t i) (thrO (γ.p.acc i).R i ((γ.p.acc i).wk i) ((γ.p.acc i).sd i) (ptr r.b) (rqL i r) false)) (h0.setIfInBounds ((γ.p.acc i).tb i) (thrO (γ.p.acc i).R i ((γ.p.acc i).wk i) ((γ.p.acc i).sd i) (ptr r.b) (rqL i r) false)) := g1
  clear g1
  rw [a1, a4, a5, a6] at g2
  have x1 := g.all (.t i) hlt
  have et : M.B (.t i) = γ.p.tb i := x1.2.1.trans (congrFun acc_three.2.1 i)
  have I2 : X.I u (h0.setIfInBounds (γ.p.tb i) (thrO γ.p.R i (γ.p.wk i) (γ.p.sd i) (ptr r.b) (rqL i r) false)) := hX.loc _ _ _ (fun b hb => get_set_ne _ (fun e => (g.apart _ x1.1).2 (by rw [et, e]; exact hb))) T.I
  have u2 : Upd γ.W γ.base (h0.setIfInBounds (γ.p.tb i) (thrO γ.p.R i (γ.p.wk i) (γ.p.sd i) (ptr r.b) (rqL i r) false)) := updW T.upd _ (et ▸ g.wide _ x1.1)
  have r2 := get_set_same hrow1 (o' := thrO γ.p.R i (γ.p.wk i) (γ.p.sd i) (ptr r.b) (rqL i r) false)
  clear hZ hrow2 er hrow1 c0 c6 bx
  generalize h0.setIfInBounds (γ.p.tb i) (thrO γ.p.R i (γ.p.wk i) (γ.p.sd i) (ptr r.b) (rqL i r) false) = h1 at g2 I2 u2 r2 ⊢
  have c3 : hcell h1 ⟨γ.p.tb i, 3, none⟩ = some (.chan (some (γ.p.sd i))) := hcell_of r2 rfl
  have c2 : hcell h1 ⟨γ.p.tb i, 2, none⟩ = some (.chan (some (γ.p.wk i))) := hcell_of r2 rfl
  (repeat (first | refine EK.seq ?_ | refine EK.region ?_ | refine ER.move rfl rfl rfl ?_ | refine ER.nilCheck rfl rfl rfl ?_ | refine ER.fieldAddr rfl rfl rfl ?_ | refine ER.load1 rfl rfl rfl (hcell_of (by assumption) rfl) ?_))
  refine ER.buildS (cells := #[]) rfl rfl rfl rfl ?_
  have hB : ∀ a, (cT γ i a).isSome = true -> a.block < γ.p.tb i + γ.p.bx i + 1 := fun a ha => by
    unfold cT at ha
    split at ha
    · rename_i e; rw [e]; dsimp only; omega
    · split at ha
      · rename_i e; rw [e]; dsimp only; omega
      · cases ha
  have ec : cT { γ with p := γ.p.turn i u L (.stands r) false } i = cT γ i := by
    funext a
    unfold cT
    show (if a = ⟨(γ.p.acc i).tb i, 2, none⟩ then some (Value.chan (some ((γ.p.acc i).wk i))) else if a = ⟨(γ.p.acc i).bx i, 0, none⟩ then some (.pointer (some ⟨(γ.p.acc i).tb i, 0, none⟩)) else none) = _
    rw [a4, a5, a7]
  have hlt2 : i < (γ.p.turn i u L (.stands r) false).num := hlt
  refine ER.gives (X := PX X) (i := i + 1) (j := 0) (c := γ.p.sd i) (c' := γ.p.wk i) (B := γ.p.tb i + γ.p.bx i + 1) (γ₁ := { γ with p := γ.p.turn i u L (.stands r) false }) rfl (fun _ _ _ _ x => x) rfl rfl rfl rfl (by omega) (Nat.succ_pos _) ?a1 ?a2 ?a3 ?a4 ?a5 ?a6 ?a7 ?a8 ?way
  case a1 => show some (γ.p.sd γ.run) = _; rw [T.run]
  case a2 => show (γ.p.acc i).num + 1 = γ.p.num + 1; rw [a3]
  case a3 =>
    intro x hx hl
    cases x with
    | zero =>
      refine ⟨?_, ?_, rfl, rfl, rfl, rfl⟩
      · show some ((γ.p.acc i).sd γ.run) = some (γ.p.sd γ.run); rw [a6]
      · show cM _ = cM γ
        funext a
        show (if a = ⟨(γ.p.acc i).tb γ.run, 3, none⟩ then some (Value.chan (some ((γ.p.acc i).sd γ.run))) else none) = (if a = ⟨γ.p.tb γ.run, 3, none⟩ then some (Value.chan (some (γ.p.sd γ.run))) else none)
        rw [a4, a6]
    | succ j =>
      have hj : j ≠ i := fun e => hx (by rw [e])
      refine ⟨?_, ?_, view_turn hj (T.V j hj) _ _ _⟩
      · show (if ut (γ.p.acc i).gone i false j = true then none else some ((γ.p.acc i).wk j)) = (if γ.p.gone j = true then none else some (γ.p.wk j))
        rw [ut_ne _ _ hj, a12, a5]
      · show cT _ j = cT γ j
        funext a
        show (if a = ⟨(γ.p.acc i).tb j, 2, none⟩ then some (Value.chan (some ((γ.p.acc i).wk j))) else if a = ⟨(γ.p.acc i).bx j, 0, none⟩ then some (.pointer (some ⟨(γ.p.acc i).tb j, 0, none⟩)) else none) = (if a = ⟨γ.p.tb j, 2, none⟩ then some (Value.chan (some (γ.p.wk j))) else if a = ⟨γ.p.bx j, 0, none⟩ then some (.pointer (some ⟨γ.p.tb j, 0, none⟩)) else none)
        rw [a4, a5, a7]
  case a4 =>
    refine ⟨by show γ.run < _; rw [T.run]; exact hlt2, .inl ⟨by rw [T.was]; exact T.go, u, L, .stands r, ?_, nofun, fun r' e => ?_⟩, ⟨s, _, g2⟩, I2, hJ, fun x => ?_, u2⟩
    · show γ.p.turn i u L (.stands r) false = γ.was.turn γ.run u L (.stands r) false
      rw [T.was, T.run]
    · cases e; exact hr
    · show X.Q x (ownOf x (γ.p.acc i).log) (ut (γ.p.acc i).st i (.stands r) x) u
      by_cases e : x = i
      · subst e; rw [ut_same]; exact hQ
      · rw [ut_ne _ _ e, acc_own _ _ e, a11]
        exact hX.stab _ _ _ _ _ (T.V x e) (T.Q x)
  case a5 => show (if ut (γ.p.acc i).gone i false i = true then none else some ((γ.p.acc i).wk i)) = _; rw [ut_same, a5]; rfl
  case a6 =>
    intro a v hv
    change cT _ i a = some v at hv
    rw [ec] at hv
    unfold cT at hv
    split at hv
    · rename_i e; rw [e]; cases hv; exact c2
    · split at hv
      · rename_i e; rw [e]; cases hv
        have := g2.bxAt hlt2
        change h1[(γ.p.acc i).bx i]? = some (.cells #[ptr ((γ.p.acc i).tb i)] _ _) at this
        rw [a7, a4] at this
        exact hcell_of this rfl
      · cases hv
  case a7 => have := g2.wkAt hlt2; change ∃ k, h1[(γ.p.acc i).wk i]? = _ at this; rw [a5] at this; exact this
  case a8 =>
    intro x hx hl e
    have wi := g2.all (.wk i) hlt2
    cases x with
    | zero =>
      have e' : (γ.p.acc i).sd γ.run = γ.p.wk i := Option.some.inj e
      rw [T.run] at e'
      have si := g2.all (.sd i) hlt2
      refine g2.ne wi.1 si.1 nofun (wi.2.1.trans (Eq.trans ?_ si.2.1.symm))
      show (γ.p.acc i).wk i = (γ.p.acc i).sd i
      rw [e', a5]
    | succ j =>
      change (if ut (γ.p.acc i).gone i false j = true then none else some ((γ.p.acc i).wk j)) = some (γ.p.wk i) at e
      split at e
      · cases e
      · have e' := Option.some.inj e
        have hj : j ≠ i := fun e => hx (by rw [e])
        have hl' : j < (γ.p.turn i u L (.stands r) false).num := Nat.lt_of_succ_lt_succ hl
        have wj := g2.all (.wk j) hl'
        refine g2.ne wj.1 wi.1 (fun z => hj (by injection z)) (wj.2.1.trans (Eq.trans ?_ wi.2.1.symm))
        show (γ.p.acc i).wk j = (γ.p.acc i).wk i
        rw [e', a5]
  case way =>
    intro kind hk cs
    rw [show (PX X).cells { γ with p := γ.p.turn i u L (.stands r) false } (i + 1) = cT γ i from ec]
    refine RY.done hB (EY.region hB ?_)
    refine RY.move hB hk rfl rfl rfl ?_
    refine RY.nilCheck hB hk rfl rfl rfl ?_
    refine RY.fieldAddr hB hk rfl rfl rfl ?_
    refine RY.load1 (v := .chan (some (γ.p.wk i))) hB hk rfl rfl rfl (by unfold cT; exact if_pos rfl) ?_
    refine RY.recvE hB hk rfl rfl rfl ?_
    intro γ₂ h₂ hR hP
    have hV : View X i (γ.p.turn i u L (.stands r) false) γ₂.p := hR
    have hP1 : P1 X i γ₂ h₂ := hP
    obtain ⟨q1, q2, q3, q4, q5, q6, q7⟩ := hP1
    obtain ⟨s2, M2, k2⟩ := q5.gi
    obtain ⟨v2, z2, hz, row2⟩ := k2.thrAt q2
    have run2 := k2.runAt
    have eR : γ₂.p.R = γ.p.R := hV.R.trans a1
    have eT : γ₂.p.tb i = γ.p.tb i := hV.tb.trans (congrFun a4 i)
    rw [eT, eR] at row2
    rw [eR] at run2
    have d0 : hcell h₂ ⟨γ.p.tb i, 0, none⟩ = some (ptr γ.p.R) := hcell_of row2 rfl
    have d6 : hcell h₂ ⟨γ.p.R, 6, none⟩ = some (.bool γ₂.p.stops) := hcell_of run2 rfl
    cases es : γ₂.p.stops with
    | false =>
      rw [es] at d6 run2
      (repeat (first | refine EK.seq ?_ | refine EK.region ?_ | refine ER.done ?_ | refine EK.skip ?_ | refine ER.move rfl rfl rfl ?_ | refine ER.nilCheck rfl rfl rfl ?_ | refine ER.fieldAddr rfl rfl rfl ?_ | refine ER.load1 rfl rfl rfl (hcell_of (by assumption) rfl) ?_ | refine EK.condF rfl ?_))
      exact EK.done (EU.ret0 rfl ⟨γ₂, rfl, es, hV, q1, q2, q3, q4, q5, q6, q7⟩)
    | true =>
      rw [es] at d6 run2
      (repeat (first | refine EK.seq ?_ | refine EK.region ?_ | refine ER.done ?_ | refine ER.move rfl rfl rfl ?_ | refine ER.nilCheck rfl rfl rfl ?_ | refine ER.fieldAddr rfl rfl rfl ?_ | refine ER.load1 rfl rfl rfl (hcell_of (by assumption) rfl) ?_ | refine EK.condT rfl ?_))
      refine ER.buildS (cells := #[]) rfl rfl rfl rfl ?_
      refine ER.mkIface Try.underlying247 rfl rfl rfl (fun _ e => by cases e) ?_
      exact ER.panics rfl rfl ⟨γ₂, rfl, ⟨es, q1, q2, q3, q4, q5, q6, q7⟩, hV, rfl⟩
end
end
section
open Go Go.TJ Go.Conc Go.Proofs
section
variable {X : Us} {W : Nat -> Prop} {p : PS X.U} {ns : List Nat} {s : Sls} {M : Mem Nm} {h h' : Hp} {i : Nat} {γ : GG X} {u : X.U} {L : List (Nat × Obj)}
theorem live_ok {Γ : Type} {main : Bool} {S : Sit Γ} {δ : Ix Γ} {t R : Nat} (h0 : hcell h ⟨t, 0, none⟩ = some (ptr R)) (h1 : hcell h ⟨t, 13, none⟩ = some (.bool false)) : CallW Try.prog main S 89 #[ptr t] h δ (Ret (Det (.bool true) h δ)) := by
  refine CallW.start (n := 19) rfl rfl ?_
  (repeat (first | refine EK.seq ?_ | refine EK.region ?_ | refine ER.done ?_ | refine ER.move rfl rfl rfl ?_ | refine ER.assign rfl rfl rfl ?_ | refine ER.nilCheck rfl rfl rfl ?_ | refine ER.fieldAddr rfl rfl rfl ?_ | refine ER.neqV rfl rfl rfl rfl rfl ?_ | refine ER.notB rfl rfl rfl ?_ | refine ER.pickT rfl rfl rfl rfl ?_ | refine EK.ret ?_ | refine ER.load1 rfl rfl rfl (by assumption) ?_))
  exact EU.ret1 rfl rfl det
theorem GI.loose (g : GI X W p ns s M h) {x : Nat} (h1 : ∀ k, M.ok k -> M.B k ≠ x) (h2 : ¬ X.isC x) (h3 : ∀ j, j < p.num -> ∀ q, q ∈ p.prv j -> q.1 ≠ x) (o : Obj) : GI X W p ns s M (h.setIfInBounds x o) := by
  refine ⟨g.rep.upd (Upd.set (T := fun y => y = x) h x o rfl) h1, g.all, g.wide, fun b hb => ?_, g.apart, fun b hb => ?_, g.num, g.isin, fun j hj q hq => ?_, g.cross⟩
  · rw [get_set_ne _ (fun e : x = b => h2 (by rw [e]; exact hb))]; exact g.cel b hb
  · rw [Array.size_setIfInBounds]; exact g.dom b hb
  · rw [get_set_ne _ (Ne.symm (h3 j hj q hq))]; exact g.prv j hj q hq
theorem fill_acc (t o c a n w x : Int) (k : Bool) : Instr.fill (fun i => some (i * 8, 8)) #[.int .i64 0, .int .i8 0, .int .i64 0, .int .i64 0, .int .i64 0, .int .i64 0, .int .i64 0, .bool false] [(0, .agg (accL t o c a n w x k).toArray)] = some (accL t o c a n w x k).toArray := by
  kernel_rfl
abbrev accO (o : List Value) : Obj := .cells o.toArray 142 (0, 0)
structure Mid (X : Us) (γ : GG X) (i : Nat) (p : PS X.U) (ns : List Nat) (x : Nat) (o : List Value) (h : Hp) : Prop where
  gi : ∃ s M, GI X (Wide γ.W γ.base) p ns s M h /\ ∀ k, M.ok k -> M.B k ≠ x
  lx : h[x]? = some (accO o)
  nc : ¬ X.isC x
  nd : ¬ X.Dom p.u x
  np : ∀ j, j < p.num -> ∀ q, q ∈ p.prv j -> q.1 ≠ x
  wx : Wide γ.W γ.base x
  I : X.I p.u h
  upd : Upd γ.W γ.base h
  run : γ.run = i
  lt : i < γ.p.num
  st : p.num = γ.p.num /\ p.tb = γ.p.tb /\ p.bx = γ.p.bx
  R : p.R = γ.p.R
  mb : p.mb = γ.p.mb
  go : p.stops = false
variable {x : Nat} {o : List Value}
theorem Mid.still (m : Mid X γ i p ns x o h) {b c : Nat} (hb : b = x \/ X.isC b \/ b = γ.p.R \/ b = γ.p.mb \/ h.size <= b) : ¬ (SitT Try.prog (PX X) (i + 1)).still γ ⟨b, c, none⟩ := by
  obtain ⟨s, M, g, nx⟩ := m.gi
  intro y
  have key : ∀ k, M.ok k -> (∃ j, k = .t j \/ k = .bx j) -> M.B k ≠ b := fun k hk hj e => by
    rcases hb with rfl | hb | hb | hb | hb
    · exact nx k hk e
    · exact (g.apart k hk).1 (by rw [e]; exact hb)
    · have := g.all .run
      refine g.ne hk this.1 ?_ (e.trans (hb.trans (m.R.symm.trans this.2.1.symm)))
      rcases hj with ⟨j, rfl | rfl⟩ <;> exact nofun
    · have := g.all .map
      refine g.ne hk this.1 ?_ (e.trans (hb.trans (m.mb.symm.trans this.2.1.symm)))
      rcases hj with ⟨j, rfl | rfl⟩ <;> exact nofun
    · have := g.lt hk; omega
  obtain ⟨p1, p2, p3⟩ := m.st
  rcases still_of m.run y with e | ⟨j, _, hj, e | e⟩
  · have := g.all (.t i) (by rw [p1]; exact m.lt)
    refine key _ this.1 ⟨_, .inl rfl⟩ ?_
    rw [this.2.1, p2]; injection e with e; exact e.symm
  · have := g.all (.t j) (by rw [p1]; exact hj)
    refine key _ this.1 ⟨_, .inl rfl⟩ ?_
    rw [this.2.1, p2]; injection e with e; exact e.symm
  · have := g.all (.bx j) (by rw [p1]; exact hj)
    refine key _ this.1 ⟨_, .inr rfl⟩ ?_
    rw [this.2.1, p3]; injection e with e; exact e.symm
theorem Mid.row (m : Mid X γ i p ns x o h) : hcell h ⟨γ.p.tb i, 0, none⟩ = some (ptr γ.p.R) := by
  obtain ⟨s, M, g, nx⟩ := m.gi
  obtain ⟨v, a, _, hr⟩ := g.thrAt (i := i) (by rw [m.st.1]; exact m.lt)
  rw [m.st.2.1, m.R] at hr
  exact hcell_of hr rfl
theorem Mid.cel (m : Mid X γ i p ns x o h) {b : Nat} (hb : X.isC b) : h[b]? = some (cellO (p.val b)) := by
  obtain ⟨s, M, g, nx⟩ := m.gi
  exact (g.cel b hb).1
theorem Mid.setx (m : Mid X γ i p ns x o h) (hX : X.Ok) (o' : List Value) : Mid X γ i p ns x o' (h.setIfInBounds x (accO o')) := by
  obtain ⟨s, M, g, nx⟩ := m.gi
  exact ⟨⟨s, M, g.loose nx m.nc m.np _, nx⟩, get_set_same m.lx, m.nc, m.nd, m.np, m.wx, hX.loc _ _ _ (fun b hb => get_set_ne _ (fun e : x = b => m.nd (by rw [e]; exact hb))) m.I, updW m.upd _ m.wx, m.run, m.lt, m.st, m.R, m.mb, m.go⟩
theorem Mid.cell (m : Mid X γ i p ns x o h) (hX : X.Ok) {b : Nat} (hb : X.isC b) (v : Int) : Mid X γ i { p with val := ut p.val b v } ns x o (h.setIfInBounds b (cellO v)) := by
  obtain ⟨s, M, g, nx⟩ := m.gi
  exact ⟨⟨s, M, g.cell hb v, nx⟩, (get_set_ne _ (fun e : b = x => m.nc (by rw [<- e]; exact hb))).trans m.lx, m.nc, m.nd, m.np, m.wx, hX.loc _ _ _ (fun c hc => get_set_ne _ (fun e : b = c => hX.dis _ _ hc (by rw [<- e]; exact hb))) m.I, updW m.upd _ (g.cel b hb).2, m.run, m.lt, m.st, m.R, m.mb, m.go⟩
theorem Mid.same (m : Mid X γ i p ns x o h) {b : Nat} : Mid X γ i { p with val := ut p.val b (p.val b) } ns x o h := by
  rw [ut_self]; exact m
theorem Mid.map (m : Mid X γ i p ns x o h) : ∃ es c, h[γ.p.mb]? = some (.map es c) /\ Keyed es (keysFrom ns 0) /\ (∀ q, q ∈ keysFrom ns 0 -> Plain h q.1.block) := by
  obtain ⟨s, M, g, nx⟩ := m.gi
  obtain ⟨x1, x2, es, c, x3, x4⟩ := g.all .map
  refine ⟨es, c, ?_, x4, fun q hq => ?_⟩
  · rw [<- m.mb, <- x2, <- x3]; exact g.rep.has _ x1
  · exact ⟨_, _, (g.cel _ (g.num _ (keysFrom_mem _ _ _ hq))).1⟩
theorem Mid.mapNew (m : Mid X γ i p ns x o h) (hX : X.Ok) {b : Nat} (hb : X.isC b) {es : Array MapEntry} {c : Nat} (hm : h[γ.p.mb]? = some (.map es c)) (hk : Keyed es (keysFrom ns 0)) :
    Mid X γ i p (ns ++ [b]) x o (h.setIfInBounds γ.p.mb (.map (es.push { key := .pointer (some ⟨b, 0, none⟩), val := .int .i64 (ns.length : Int), born := c }) (c + 1))) := by
  obtain ⟨s, M, g, nx⟩ := m.gi
  obtain ⟨x1, x2, es', c', x3, x4⟩ := g.all .map
  have hM : M.O .map = .map es c := by
    have := g.rep.has _ x1
    rw [x2, m.mb, hm] at this
    exact (Option.some.inj this).symm
  have g' := g.mapNew hb hM hk
  rw [m.mb] at g'
  have nR : γ.p.mb ≠ x := fun e => nx .map x1 (x2.trans (m.mb.trans e))
  exact ⟨⟨s, _, g', nx⟩, (get_set_ne _ nR).trans m.lx, m.nc, m.nd, m.np, m.wx, hX.loc _ _ _ (fun d hd => get_set_ne _ (fun e : γ.p.mb = d => (g.apart .map x1).2 (by rw [x2, m.mb, e]; exact hd))) m.I, updW m.upd _ (by rw [<- m.mb, <- x2]; exact g.wide _ x1), m.run, m.lt, m.st, m.R, m.mb, m.go⟩
theorem keyed_size {es : Array MapEntry} {l : List (Addr × Value)} (hk : Keyed es l) : es.size = l.length := by
  have := congrArg List.length hk
  simpa using this
theorem keysFrom_length : ∀ (l : List Nat) (j : Nat), (keysFrom l j).length = l.length
  | [], _ => rfl
  | _ :: l, j => by simp [keysFrom, keysFrom_length l]
theorem Mid.runC (m : Mid X γ i p ns x o h) : ∃ s, h[γ.p.R]? = some (runO s γ.p.mb false) := by
  obtain ⟨s, M, g, nx⟩ := m.gi
  refine ⟨s, ?_⟩
  rw [<- m.R, <- m.mb, <- m.go]; exact g.runAt
theorem thr_of {r : Rq} {γ' : GG X} (hX : X.Ok) (hs : γ'.p.stops = false) (hP : P1 X i γ' h') (hst : γ'.p.st i = .stands r)
    (g : ∃ s M, GI X (Wide γ'.W γ'.base) { γ'.p with prv := ut γ'.p.prv i L, val := ut γ'.p.val r.b (behind r.op (γ'.p.val r.b) r.arg r.new).1, log := γ'.p.log ++ [evOf i r (γ'.p.val r.b)] } (nums (γ'.p.log ++ [evOf i r (γ'.p.val r.b)])) s M h) (hI : X.I γ'.p.u h) (hu : Upd γ'.W γ'.base h) : Thr X i γ' γ'.p.u L h := by
  refine ⟨hP.run, hP.lt, hP.live, hs, hP.was, ?_, hI, hP.held.J, hP.held.Q, fun _ _ => hX.vrefl _ _, hu, hP.len hs⟩
  rw [acc_stands _ _ hst]
  exact g
structure Stood (X : Us) (i : Nat) (γ : GG X) (u : X.U) (r : Rq) (γ' : GG X) : Prop where
  st : γ'.p.st i = .stands r
  al : Along X i γ.p γ'.p
  own : ownOf i γ'.p.log = ownOf i (γ.p.acc i).log
  V : X.V i u γ'.p.u
theorem Stood.of {r : Rq} {γ' : GG X} (hV : View X i (γ.p.turn i u L (.stands r) false) γ'.p) : Stood X i γ u r γ' :=
  ⟨hV.st.trans (ut_same _ _ _), ⟨hV.tb.trans (congrFun (acc_same γ.p i).2.2.2.1 i), hV.bx.trans (congrFun (acc_same γ.p i).2.2.2.2.2.2.1 i), hV.br.trans (congrFun (acc_same γ.p i).2.2.2.2.2.2.2.2.1 i), hV.R.trans (acc_same γ.p i).1⟩, hV.own, hV.V⟩
theorem Stood.tb {r : Rq} {γ' : GG X} (x : Stood X i γ u r γ') : γ'.p.tb i = γ.p.tb i := x.al.tb
theorem Stood.after {r : Rq} {γ' : GG X} (x : Stood X i γ u r γ') : ownOf i (γ'.p.acc i).log = ownOf i (γ.p.acc i).log ++ [evOf i r (γ'.p.val r.b)] := by
  rw [acc_stands _ _ x.st]
  show ownOf i (γ'.p.log ++ [_]) = _
  rw [own_snoc, if_pos (show (evOf i r (γ'.p.val r.b)).thr = i from rfl), x.own]
theorem Thr.alloc (hX : X.Ok) (T : Thr X i γ u L h) (o : Obj) : Thr X i γ u ((h.size, o) :: L) (h.push o) := by
  obtain ⟨s, M, g⟩ := T.gi
  have hdom : ∀ b, X.Dom u b -> b < h.size := fun b hb => (g.dom b hb).1
  refine T.user hX (Upd.push h o) (fun b hb => ⟨.inl hb, by rw [Array.size_push]; have := hdom b hb; omega⟩) (fun q hq => ?_) (hX.loc _ _ _ (fun b hb => (Upd.push (T := fun _ => False) h o).2 b (hdom b hb) (fun x => x)) T.I) (fun _ _ => hX.vrefl _ _)
  rcases List.mem_cons.1 hq with rfl | hq
  · exact ⟨get_push_new _ _, .inr (Nat.le_refl _), fun y => by have := hdom _ y; dsimp only at this; omega⟩
  · have := g.prv i (by rw [acc_three.1]; exact T.lt) q (by show q ∈ ut (γ.p.acc i).prv i L i; rw [ut_same]; exact hq)
    exact ⟨get_push _ this.1, .inl ⟨q, hq, rfl⟩, this.2.2.2.2⟩
theorem Mid.of {γ' : GG X} {r : Rq} (hX : X.Ok) (hx : ∀ q, q ∈ L -> q.1 ≠ x) (hs : γ'.p.stops = false) (hV : View X i (γ.p.turn i u ((x, accO o) :: L) (.stands r) false) γ'.p) (hP : P1 X i γ' h) : Mid X γ' i { γ'.p with prv := ut γ'.p.prv i L } (nums γ'.p.log) x o h := by
  obtain ⟨q1, q2, q3, q4, q5, q6, q7⟩ := hP
  obtain ⟨s, M, g⟩ := q5.gi
  have eL : γ'.p.prv i = (x, accO o) :: L := hV.prv.trans (ut_same _ _ _)
  obtain ⟨y1, y2, y3, y4, y5⟩ := g.prv i q2 (x, accO o) (by rw [eL]; simp)
  have g' := g.user q2 (u' := γ'.p.u) (L' := L) (h' := h) (Upd.refl _ _) (fun b hb => ⟨.inl hb, (g.dom b hb).1⟩) (fun q hq => by
    have := g.prv i q2 q (by rw [eL]; simp [hq])
    exact ⟨this.1, .inl ⟨q, by rw [eL]; simp [hq], rfl⟩, this.2.2.2.2⟩) hX
  refine ⟨⟨s, M, g', y3⟩, y1, y4, y5, fun j hj q hq => ?_, y2, q5.I, q5.upd, q1, q2, ⟨rfl, rfl, rfl⟩, rfl, rfl, hs⟩
  change q ∈ ut γ'.p.prv i L j at hq
  by_cases e : j = i
  · subst e; rw [ut_same] at hq; exact hx q hq
  · rw [ut_ne _ _ e] at hq
    exact fun ex => g.cross i j q2 hj (Ne.symm e) (x, accO o) q (by rw [eL]; simp) hq ex.symm
end
end
section
open Go Go.TJ Go.Conc Go.Proofs
section
variable {X : Us} {h : Hp} {i : Nat} {γ : GG X} {u : X.U} {L : List (Nat × Obj)}
theorem still_nm {W : Nat -> Prop} {p : PS X.U} {ns : List Nat} {s : Sls} {M : Mem Nm} (hr : γ.run = i) (hl : i < γ.p.num) (g : GI X W p ns s M h) (st : p.num = γ.p.num /\ p.tb = γ.p.tb /\ p.bx = γ.p.bx) {k : Nm} (hk : M.ok k) (hne : ∀ j, k ≠ .t j /\ k ≠ .bx j) {c : Nat} : ¬ (SitT Try.prog (PX X) (i + 1)).still γ ⟨M.B k, c, none⟩ := by
  intro y
  obtain ⟨p1, p2, p3⟩ := st
  rcases still_of hr y with e | ⟨j, _, hj, e | e⟩
  · have := g.all (.t i) (by rw [p1]; exact hl)
    refine g.ne hk this.1 (hne i).1 ?_
    rw [this.2.1, p2]; injection e with e
  · have := g.all (.t j) (by rw [p1]; exact hj)
    refine g.ne hk this.1 (hne j).1 ?_
    rw [this.2.1, p2]; injection e with e
  · have := g.all (.bx j) (by rw [p1]; exact hj)
    refine g.ne hk this.1 (hne j).2 ?_
    rw [this.2.1, p3]; injection e with e
theorem nums_pos {l : List Ev} {e : Ev} (h : e.b ∈ nums l) : nums (l ++ [e]) = nums l := by rw [nums_snoc, if_pos h]
theorem nums_neg {l : List Ev} {e : Ev} (h : e.b ∉ nums l) : nums (l ++ [e]) = nums l ++ [e.b] := by rw [nums_snoc, if_neg h]
theorem idxOf_snoc {b : Nat} : ∀ {l : List Nat}, b ∉ l -> (l ++ [b]).idxOf b = l.length
  | [], _ => by simp
  | x :: l, h => by
    have e' : (x == b) = false := by
      have : x ≠ b := fun y => h (by simp [y])
      simpa using this
    rw [List.cons_append, List.idxOf_cons, e']
    simp only [cond_false, List.length_cons]
    rw [idxOf_snoc (fun y => h (by simp [y]))]
theorem Thr.lts (T : Thr X i γ u L h) : ∀ q, q ∈ L -> q.1 < h.size := fun q hq => by
  obtain ⟨s, M, g⟩ := T.gi
  exact lt_of_get (g.prv i (by rw [acc_three.1]; exact T.lt) q (by show q ∈ ut (γ.p.acc i).prv i L i; rw [ut_same]; exact hq)).1
theorem EK.fork {Γ : Type} {P : Program} {main : Bool} {S : Sit Γ} {f : FuncId} {n : Nat} {c : Item} {k : List Item} {env : Env} {ds : List Deferred} {h : Hp} {δ : Ix Γ} {R : Post Γ} {σ : Type} (E : σ -> Env) (I : σ -> Hp -> Ix Γ -> Prop) (h1 : ∀ k, (∀ s h' δ', I s h' δ' -> EK P main S f n k (E s) ds h' δ' R) -> EK P main S f n (c :: k) env ds h δ R) (h2 : ∀ s h' δ', I s h' δ' -> EK P main S f n k (E s) ds h' δ' R) : EK P main S f n (c :: k) env ds h δ R := h1 k h2
set_option maxRecDepth 8000 in
set_option maxHeartbeats 8000000 in
theorem step_ok {r : Rq} (hX : X.Ok) (T : Thr X i γ u L h) (hr : RqOk X r) (hQ : X.Q i (ownOf i (γ.p.acc i).log) (.stands r) u) (hJ : X.J (γ.p.acc i).log u (γ.p.acc i).val) :
    CallW Try.prog false (SitT Try.prog (PX X) (i + 1)) 90 #[ptr (γ.p.tb i), ptr r.b, .int .i8 r.op, .int .i64 r.arg, .int .i64 r.new] h ⟨0, γ⟩
      (RetP (fun w h' δ' => ∃ γ', δ' = ⟨0, γ'⟩ /\ Thr X i γ' γ'.p.u L h' /\ Stood X i γ u r γ' /\ w = .tuple #[.int .i64 (γ'.p.val r.b), .int .i64 (behind r.op (γ'.p.val r.b) r.arg r.new).1, .bool (behind r.op (γ'.p.val r.b) r.arg r.new).2])
        (fun ps h' δ' => ∃ γ', δ' = ⟨0, γ'⟩ /\ Stp X i γ' h' /\ Stood X i γ u r γ' /\ ps = [{ v := stopV, recovered := false }])) := by
  obtain ⟨op, b, arg, new⟩ := r
  obtain ⟨hC, h1, h2, h3, h4⟩ := id hr
  dsimp only at hC h1 h2 h3 h4 ⊢
  obtain ⟨v, t, o, c, b0, n, w, y, k, hat, hrow1⟩ := T.row
  have c0 : hcell h ⟨γ.p.tb i, 0, none⟩ = some (ptr γ.p.R) := hcell_of hrow1 rfl
  have c1 : hcell h ⟨γ.p.tb i, 1, none⟩ = some (.int .i64 i) := hcell_of hrow1 rfl
  have c13 : hcell h ⟨γ.p.tb i, 13, none⟩ = some (.bool false) := hcell_of hrow1 rfl
  refine CallW.start (n := 127) rfl rfl ?_
  (repeat (first | refine EK.seq ?_ | refine EK.region ?_ | refine ER.done ?_ | refine ER.move rfl rfl rfl ?_ | refine ER.assign rfl rfl rfl ?_))
  refine ER.callD rfl rfl rfl rfl rfl (live_ok c0 c13) ?_
  (repeat (first | refine EK.seq ?_ | refine EK.region ?_ | refine ER.done ?_ | refine EK.skip ?_ | refine ER.move rfl rfl rfl ?_ | refine ER.eqV rfl rfl rfl rfl rfl ?_ | refine ER.notB rfl rfl rfl ?_ | refine ER.pickF rfl rfl rfl rfl ?_ | refine ER.cmpF rfl rfl rfl rfl rfl (by first | (dsimp only [cmpP]; omega) | exact rfl | exact Int.le_refl _) ?_ | refine EK.condF rfl ?_))
  refine ER.cmpB rfl rfl rfl rfl rfl rfl ?_
  (repeat (first | refine ER.done ?_ | refine EK.seq ?_))
  refine EK.fork (fun _ : Unit => [(4, .int .i64 new), (3, .int .i64 arg), (2, .int .i8 op), (1, ptr b), (0, ptr (γ.p.tb i))]) (fun _ h' δ' => h = h' /\ δ' = ⟨0, γ⟩) (fun _ key => ?_) ?_
  · refine EK.condS rfl (fun e => ?_) (fun _ => ?_)
    · have e1 : op = 1 := of_decide_eq_true e
      obtain rfl := h3 e1
      (repeat (first | refine EK.region ?_ | refine ER.done ?_ | refine ER.assign rfl rfl rfl ?_))
      exact EK.back (key () _ _ ⟨rfl, rfl⟩) ⟨rfl, rfl, rfl, rfl, rfl, trivial⟩
    · (repeat refine EK.skip ?_)
      exact EK.back (key () _ _ ⟨rfl, rfl⟩) ⟨rfl, rfl, rfl, rfl, rfl, trivial⟩
  rintro _ _ _ ⟨rfl, rfl⟩
  (repeat (first | refine EK.seq ?_ | refine EK.region ?_ | refine ER.move rfl rfl rfl ?_))
  refine ER.cmpB rfl rfl rfl rfl rfl rfl ?_
  (repeat (first | refine ER.done ?_ | refine EK.seq ?_))
  refine EK.fork (fun _ : Unit => [(4, .int .i64 new), (3, .int .i64 arg), (2, .int .i8 op), (1, ptr b), (0, ptr (γ.p.tb i))]) (fun _ h' δ' => h = h' /\ δ' = ⟨0, γ⟩) (fun _ key => ?_) ?_
  · refine EK.condS rfl (fun e => ?_) (fun _ => ?_)
    · have e1 : op ≠ 3 := of_decide_eq_true e
      obtain rfl := h4 e1
      (repeat (first | refine EK.region ?_ | refine ER.done ?_ | refine ER.assign rfl rfl rfl ?_))
      exact EK.back (key () _ _ ⟨rfl, rfl⟩) ⟨rfl, rfl, rfl, rfl, rfl, trivial⟩
    · (repeat refine EK.skip ?_)
      exact EK.back (key () _ _ ⟨rfl, rfl⟩) ⟨rfl, rfl, rfl, rfl, rfl, trivial⟩
  rintro _ _ _ ⟨rfl, rfl⟩
  (repeat (first | refine EK.seq ?_ | refine EK.region ?_ | refine ER.move rfl rfl rfl ?_ | refine ER.nilCheck rfl rfl rfl ?_ | refine ER.fieldAddr rfl rfl rfl ?_ | refine ER.load1 rfl rfl rfl (hcell_of (by assumption) rfl) ?_))
  refine ER.buildS (cells := (rqL i ⟨op, b, arg, new⟩).toArray) rfl rfl rfl rfl ?_
  (repeat refine ER.allocA rfl rfl ?_)
  refine ER.storeN (vs := rqL i ⟨op, b, arg, new⟩) rfl rfl rfl rfl (by simp [rqL, accL, OneCell]) (fun j hj => ⟨?_, hfroz_of (get_push_new _ _), T.free (.inr (.inr (.inr (Nat.le_refl _))))⟩) ?_
  · have hj' : j < 8 := hj
    rcases (show j = 0 \/ j = 1 \/ j = 2 \/ j = 3 \/ j = 4 \/ j = 5 \/ j = 6 \/ j = 7 by omega) with rfl | rfl | rfl | rfl | rfl | rfl | rfl | rfl <;> exact ⟨_, hcell_of (get_push_new _ _) rfl⟩
  rw [hsetRow_push (c := [.int .i64 0, .int .i8 0, .int .i64 0, .int .i64 0, .int .i64 0, .int .i64 0, .int .i64 0, .bool false]) (vs := rqL i ⟨op, b, arg, new⟩) rfl]
  have T1 := T.alloc hX (accO (rqL i ⟨op, b, arg, new⟩))
  have hx := T.lts
  (repeat (first | refine EK.seq ?_ | refine EK.region ?_ | refine ER.done ?_ | refine ER.move rfl rfl rfl ?_))
  refine ER.loadN (vs := rqL i ⟨op, b, arg, new⟩) rfl rfl rfl rfl (hrow_block (rest := []) (by rw [List.append_nil]; exact get_push_new _ _)) ?_
  refine ER.callP rfl rfl rfl rfl rfl (stands_ok hX T1 hr hQ hJ) ?_ ?_
  · rintro ps h' δ' ⟨γ', rfl, hS, hV, rfl⟩
    exact ⟨γ', rfl, hS, Stood.of hV, rfl⟩
  rintro w h1 δ1 ⟨γ', rfl, hs, hV, hP⟩
  have m := Mid.of hX (fun q hq => Nat.ne_of_lt (hx q hq)) hs hV hP
  have et : γ'.p.tb i = γ.p.tb i := (Stood.of hV).tb
  have hst : γ'.p.st i = .stands ⟨op, b, arg, new⟩ := (Stood.of hV).st
  generalize h.size = x at m hV ⊢
  have cb : h1[b]? = some (cellO (γ'.p.val b)) := m.cel hC
  (repeat (first | refine EK.seq ?_ | refine EK.region ?_ | refine ER.done ?_ | refine ER.move rfl rfl rfl ?_))
  refine ER.callD rfl rfl rfl rfl rfl (aload_ok (v := γ'.p.val b) (hcell_of cb rfl)) ?_
  (repeat refine ER.fieldAddr rfl rfl rfl ?_)
  refine ER.store1 rfl rfl rfl ⟨nofun, nofun⟩ ⟨_, hcell_of m.lx rfl⟩ (hfroz_of m.lx) (m.still (.inl rfl)) ?_
  refine ER.gen (fun h' => Mid X γ' i { γ'.p with prv := ut γ'.p.prv i L } (nums γ'.p.log) x (accL i op (-1) arg new (γ'.p.val b) 0 false) h') (by rw [hset_block m.lx]; exact m.setx hX _) ?_
  clear m cb
  rintro h2 m
  have cb : h2[b]? = some (cellO (γ'.p.val b)) := m.cel hC
  (repeat (first | refine ER.done ?_ | refine EK.seq ?_ | refine EK.region ?_ | refine ER.move rfl rfl rfl ?_))
  refine EK.fork (fun _ : Int × Bool => [(13, ptr x), (4, .int .i64 new), (3, .int .i64 arg), (2, .int .i8 op), (1, ptr b), (0, ptr (γ.p.tb i))]) (fun w h' δ' => δ' = ⟨0, γ'⟩ /\ behind op (γ'.p.val b) arg new = w /\ Mid X γ' i { γ'.p with prv := ut γ'.p.prv i L, val := ut γ'.p.val b w.1 } (nums γ'.p.log) x (accL i op (-1) arg new (γ'.p.val b) 0 w.2) h') (fun _ key => ?_) ?_
  · rcases (show op = 1 \/ op = 2 \/ op = 3 \/ op = 4 \/ op = 5 by omega) with rfl | rfl | rfl | rfl | rfl
    · obtain rfl := h3 rfl
      obtain rfl := h4 (by decide)
      replace m := m.same (b := b)
      (repeat (first | refine EK.seq ?_ | refine EK.region ?_ | refine ER.done ?_ | refine EK.skip ?_ | refine EK.block ?_ | refine EK.inBlock ?_ | refine ER.assign rfl rfl rfl ?_ | refine ER.cmpF rfl rfl rfl rfl rfl (by first | (dsimp only [cmpP]; omega) | exact rfl | exact Int.le_refl _) ?_ | refine EK.condF rfl ?_))
      exact EK.back (key (γ'.p.val b, false) _ _ ⟨rfl, rfl, m⟩) ⟨rfl, rfl, rfl, rfl, rfl, rfl, trivial⟩
    · obtain rfl := h4 (by decide)
      (repeat (first | refine EK.seq ?_ | refine EK.region ?_ | refine ER.done ?_ | refine EK.skip ?_ | refine EK.block ?_ | refine ER.move rfl rfl rfl ?_ | refine ER.assign rfl rfl rfl ?_ | refine ER.cmpT rfl rfl rfl rfl rfl (by first | (dsimp only [cmpP]; omega) | exact rfl | exact Int.le_refl _) ?_ | refine EK.condT rfl ?_))
      refine ER.callD rfl rfl rfl rfl rfl (astore_ok (v := γ'.p.val b) (x := arg) (hcell_of cb rfl) (hfroz_of cb) (m.still (.inr (.inl hC)))) ?_
      replace m := m.cell hX hC arg
      (repeat (first | refine ER.done ?_ | refine EK.inBlock ?_))
      exact EK.back (key (arg, false) _ _ ⟨rfl, rfl, by rw [cellO_set cb]; exact m⟩) ⟨rfl, rfl, rfl, rfl, rfl, rfl, trivial⟩
    · skip
      (repeat (first | refine EK.seq ?_ | refine EK.region ?_ | refine ER.done ?_ | refine EK.block ?_ | refine ER.move rfl rfl rfl ?_ | refine ER.assign rfl rfl rfl ?_ | refine ER.cmpT rfl rfl rfl rfl rfl (by first | (dsimp only [cmpP]; omega) | exact rfl | exact Int.le_refl _) ?_ | refine ER.cmpF rfl rfl rfl rfl rfl (by first | (dsimp only [cmpP]; omega) | exact rfl | exact Int.le_refl _) ?_ | refine EK.condT rfl ?_ | refine EK.condF rfl ?_))
      by_cases hc : γ'.p.val b = arg
      · subst hc
        refine ER.callD rfl rfl rfl rfl rfl (acas_yes (v := γ'.p.val b) (x := new) (hcell_of cb rfl) (hfroz_of cb) (m.still (.inr (.inl hC)))) ?_
        refine ER.gen (fun h' => Mid X γ' i { γ'.p with prv := ut γ'.p.prv i L, val := ut γ'.p.val b new } (nums γ'.p.log) x (accL i 3 (-1) (γ'.p.val b) new (γ'.p.val b) 0 false) h') (by rw [cellO_set cb]; exact m.cell hX hC _) ?_
        clear m
        rintro h3 m
        (repeat refine ER.fieldAddr rfl rfl rfl ?_)
        refine ER.store1 rfl rfl rfl ⟨nofun, nofun⟩ ⟨_, hcell_of m.lx rfl⟩ (hfroz_of m.lx) (m.still (.inl rfl)) ?_
        (repeat (first | refine ER.done ?_ | refine EK.inBlock ?_))
        exact EK.back (key (new, true) _ _ ⟨rfl, by simp [behind], by rw [hset_block m.lx]; exact m.setx hX _⟩) ⟨rfl, rfl, rfl, rfl, rfl, rfl, trivial⟩
      · refine ER.callD rfl rfl rfl rfl rfl (acas_no (v := γ'.p.val b) (x := new) hc (hcell_of cb rfl) (hfroz_of cb) (m.still (.inr (.inl hC)))) ?_
        replace m := m.same (b := b)
        (repeat refine ER.fieldAddr rfl rfl rfl ?_)
        refine ER.store1 rfl rfl rfl ⟨nofun, nofun⟩ ⟨_, hcell_of m.lx rfl⟩ (hfroz_of m.lx) (m.still (.inl rfl)) ?_
        (repeat (first | refine ER.done ?_ | refine EK.inBlock ?_))
        exact EK.back (key (γ'.p.val b, false) _ _ ⟨rfl, by simp [behind, hc], by rw [hset_block m.lx]; exact m.setx hX _⟩) ⟨rfl, rfl, rfl, rfl, rfl, rfl, trivial⟩
    · obtain rfl := h4 (by decide)
      (repeat (first | refine EK.seq ?_ | refine EK.region ?_ | refine ER.done ?_ | refine EK.block ?_ | refine ER.move rfl rfl rfl ?_ | refine ER.assign rfl rfl rfl ?_ | refine ER.cmpT rfl rfl rfl rfl rfl (by first | (dsimp only [cmpP]; omega) | exact rfl | exact Int.le_refl _) ?_ | refine ER.cmpF rfl rfl rfl rfl rfl (by first | (dsimp only [cmpP]; omega) | exact rfl | exact Int.le_refl _) ?_ | refine EK.condT rfl ?_ | refine EK.condF rfl ?_))
      refine ER.callD rfl rfl rfl rfl rfl (aadd_ok (v := γ'.p.val b) (x := arg) (r := IntKind.i64.wrap (γ'.p.val b + arg)) rfl (hcell_of cb rfl) (hfroz_of cb) (m.still (.inr (.inl hC)))) ?_
      replace m := m.cell hX hC (IntKind.i64.wrap (γ'.p.val b + arg))
      (repeat (first | refine ER.done ?_ | refine EK.inBlock ?_))
      exact EK.back (key (IntKind.i64.wrap (γ'.p.val b + arg), false) _ _ ⟨rfl, rfl, by rw [cellO_set cb]; exact m⟩) ⟨rfl, rfl, rfl, rfl, rfl, rfl, trivial⟩
    · obtain rfl := h4 (by decide)
      (repeat (first | refine EK.seq ?_ | refine EK.region ?_ | refine ER.done ?_ | refine EK.block ?_ | refine ER.move rfl rfl rfl ?_ | refine ER.assign rfl rfl rfl ?_ | refine ER.cmpT rfl rfl rfl rfl rfl (by first | (dsimp only [cmpP]; omega) | exact rfl | exact Int.le_refl _) ?_ | refine ER.cmpF rfl rfl rfl rfl rfl (by first | (dsimp only [cmpP]; omega) | exact rfl | exact Int.le_refl _) ?_ | refine EK.condT rfl ?_ | refine EK.condF rfl ?_))
      refine ER.callD rfl rfl rfl rfl rfl (astore_ok (v := γ'.p.val b) (x := arg) (hcell_of cb rfl) (hfroz_of cb) (m.still (.inr (.inl hC)))) ?_
      replace m := m.cell hX hC arg
      (repeat (first | refine ER.done ?_ | refine EK.inBlock ?_))
      exact EK.back (key (arg, false) _ _ ⟨rfl, rfl, by rw [cellO_set cb]; exact m⟩) ⟨rfl, rfl, rfl, rfl, rfl, rfl, trivial⟩
  clear cb
  rintro w h3 _ ⟨rfl, hbh, m⟩
  have cb : h3[b]? = some (cellO w.1) := (m.cel hC).trans (congrArg (fun v => some (cellO v)) (ut_same _ _ _))
  (repeat (first | refine EK.seq ?_ | refine EK.region ?_ | refine ER.move rfl rfl rfl ?_))
  refine ER.callD rfl rfl rfl rfl rfl (aload_ok (v := w.1) (hcell_of cb rfl)) ?_
  (repeat refine ER.fieldAddr rfl rfl rfl ?_)
  refine ER.store1 rfl rfl rfl ⟨nofun, nofun⟩ ⟨_, hcell_of m.lx rfl⟩ (hfroz_of m.lx) (m.still (.inl rfl)) ?_
  refine ER.gen (fun h' => Mid X γ' i { γ'.p with prv := ut γ'.p.prv i L, val := ut γ'.p.val b w.1 } (nums γ'.p.log) x (accL i op (-1) arg new (γ'.p.val b) w.1 w.2) h') (by rw [hset_block m.lx]; exact m.setx hX _) ?_
  clear m cb
  rintro h4 m
  have cb : h4[b]? = some (cellO w.1) := (m.cel hC).trans (congrArg (fun v => some (cellO v)) (ut_same _ _ _))
  have d0 := m.row
  obtain ⟨s1, d1⟩ := m.runC
  rw [et] at d0
  obtain ⟨es, c', hm, hk, hpl⟩ := m.map
  (repeat (first | refine EK.seq ?_ | refine EK.region ?_ | refine ER.done ?_ | refine ER.move rfl rfl rfl ?_ | refine ER.nilCheck rfl rfl rfl ?_ | refine ER.fieldAddr rfl rfl rfl ?_ | refine ER.load1 rfl rfl rfl (hcell_of (by assumption) rfl) ?_ | refine ER.load1 rfl rfl rfl (by assumption) ?_))
  by_cases hb : b ∈ nums γ'.p.log
  · refine ER.lookupOk (v := .tuple #[.int .i64 ((nums γ'.p.log).idxOf b : Int), .bool true]) rfl rfl rfl rfl (by decide) hm ⟨_, _, cb⟩ hpl hk (by rw [pfind_keys, if_pos hb]; simp) ?_
    clear d1 hm hk hpl
    (repeat (first | refine EK.seq ?_ | refine EK.region ?_ | refine ER.done ?_ | refine EK.skip ?_ | refine ER.move rfl rfl rfl ?_ | refine ER.assign rfl rfl rfl ?_ | refine ER.fieldAddr rfl rfl rfl ?_ | refine ER.notB rfl rfl rfl ?_ | refine ER.extract rfl rfl rfl rfl ?_ | refine EK.condF rfl ?_))
    have hN := nums_pos (e := evOf i ⟨op, b, arg, new⟩ (γ'.p.val b)) hb
    have he := hb
    revert m hN he
    generalize h4 = h5, eNS : nums γ'.p.log = NS
    intro m hN he
    clear cb eNS
    refine ER.store1 rfl rfl rfl ⟨nofun, nofun⟩ ⟨_, hcell_of m.lx rfl⟩ (hfroz_of m.lx) (m.still (.inl rfl)) ?_
    refine ER.gen (fun h' => Mid X γ' i { γ'.p with prv := ut γ'.p.prv i L, val := ut γ'.p.val b w.1 } NS x (accL i op (NS.idxOf b) arg new (γ'.p.val b) w.1 w.2) h') (by rw [hset_block m.lx]; exact m.setx hX _) ?_
    clear m d0
    rintro h6 m
    obtain ⟨s2, M2, g2, nx2⟩ := m.gi
    have d0 := m.row
    rw [et] at d0
    have d1 : h6[γ'.p.R]? = some (runO s2 γ'.p.mb γ'.p.stops) := g2.runAt
    have lx := m.lx
    (repeat (first | refine EK.seq ?_ | refine ER.done ?_))
    refine EK.regionAnyL (fun h' => hcell h' ⟨γ.p.tb i, 0, none⟩ = some (ptr γ'.p.R) /\ hcell h' ⟨γ'.p.R, 2, none⟩ = some s2.L /\ hrow h' x 0 (accL i op (NS.idxOf b) arg new (γ'.p.val b) w.1 w.2)) 16 ?_
    have lrow : hrow h6 x 0 (accL i op (NS.idxOf b) arg new (γ'.p.val b) w.1 w.2) := hrow_block (rest := []) (by rw [List.append_nil]; exact lx)
    have hZ := And.intro d0 (And.intro (hcell_of d1 rfl : hcell h6 ⟨γ'.p.R, 2, none⟩ = some s2.L) lrow)
    refine EA.tMove 0 rfl (by kernel_rfl) rfl rfl rfl rfl hZ ?_
    refine EA.tNil 1 rfl (by kernel_rfl) rfl rfl rfl rfl hZ ?_
    refine EA.tField 2 rfl (by kernel_rfl) rfl rfl rfl rfl hZ ?_
    refine EA.tLoad 3 rfl (by kernel_rfl) rfl rfl rfl rfl (fun _ hz => hz.1) hZ ?_
    refine EA.tMove 4 rfl (by kernel_rfl) rfl rfl rfl rfl hZ ?_
    refine EA.tNil 5 rfl (by kernel_rfl) rfl rfl rfl rfl hZ ?_
    refine EA.tField 6 rfl (by kernel_rfl) rfl rfl rfl rfl hZ ?_
    refine EA.tLoad 7 rfl (by kernel_rfl) rfl rfl rfl rfl (fun _ hz => hz.1) hZ ?_
    refine EA.tNil 8 rfl (by kernel_rfl) rfl rfl rfl rfl hZ ?_
    refine EA.tField 9 rfl (by kernel_rfl) rfl rfl rfl rfl hZ ?_
    refine EA.tLoad 10 rfl (by kernel_rfl) rfl rfl rfl rfl (fun _ hz => hz.2.1) hZ ?_
    refine EA.tLoadN (vs := accL i op (NS.idxOf b) arg new (γ'.p.val b) w.1 w.2) 11 rfl (by kernel_rfl) rfl rfl rfl rfl rfl (fun _ hz => hz.2.2) hZ ?_
    have hZ3 : _ /\ _ /\ _ := ⟨hcell_push (o := accO (accL i op (NS.idxOf b) arg new (γ'.p.val b) w.1 w.2)) hZ.1, hcell_push (o := accO (accL i op (NS.idxOf b) arg new (γ'.p.val b) w.1 w.2)) hZ.2.1, fun j v hj => hcell_push (o := accO (accL i op (NS.idxOf b) arg new (γ'.p.val b) w.1 w.2)) (hZ.2.2 j v hj)⟩
    refine EA.val (v := .slice (some ⟨h6.size, 0, none⟩) 1 1) (h' := h6.push (accO (accL i op (NS.idxOf b) arg new (γ'.p.val b) w.1 w.2))) 12 rfl (by kernel_rfl) rfl rfl rfl (fun ρ Q X hρ hq => sem_slice1 (z := .agg #[.int .i64 0, .int .i8 0, .int .i64 0, .int .i64 0, .int .i64 0, .int .i64 0, .int .i64 0, .bool false]) (sz := 8) hρ rfl (by omega) (by omega) rfl (fill_acc _ _ _ _ _ _ _ _) hq) hZ3 ?_
    have g3 := g2.upd0 (Upd.push h6 (accO (accL i op (NS.idxOf b) arg new (γ'.p.val b) w.1 w.2)))
    have hlen := hP.len hs
    have d3 := (Upd.push (T := fun _ => False) h6 (accO (accL i op (NS.idxOf b) arg new (γ'.p.val b) w.1 w.2))).get d1 (fun x => x)
    have lx3 := (Upd.push (T := fun _ => False) h6 (accO (accL i op (NS.idxOf b) arg new (γ'.p.val b) w.1 w.2))).get lx (fun x => x)
    have u3 := upd_then m.upd (Upd.push (T := fun _ => False) h6 (accO (accL i op (NS.idxOf b) arg new (γ'.p.val b) w.1 w.2))) (fun _ _ x => x.elim)
    have I3 := hX.loc _ _ _ (fun c hc => (Upd.push (T := fun _ => False) h6 (accO (accL i op (NS.idxOf b) arg new (γ'.p.val b) w.1 w.2))).2 c (g2.dom c hc).1 (fun x => x)) m.I
    have hlog : M2.Sl .log s2.L 142 8 γ'.p.log.length (γ'.p.log.flatMap (entL NS)) := g3.all .log
    have hrun := g3.all .run
    refine EA.append1 (new := accL i op (NS.idxOf b) arg new (γ'.p.val b) w.1 w.2) 13 rfl (by kernel_rfl) rfl rfl rfl rfl rfl (hlog.slice g3.rep) (get_push_new _ _) rfl (by simp [accL, OneCell]) (by omega) (by omega) rfl (fun c o hc => ?_) ?_
    · obtain ⟨hk, e⟩ := hlog.blk hc
      rw [e]; exact still_nm m.run m.lt g3 m.st hk (fun j => ⟨nofun, nofun⟩)
    intro s' h7 hs7 u7 hb7
    have nl : ∀ k, k ≠ .log -> M2.ok k -> ¬ blk s2.L = some (M2.B k) := fun k hk ok e => by
      obtain ⟨hk', e'⟩ := hlog.blk e
      exact g3.ne ok hk' hk e'
    have hti := g3.all (.t i) (by show i < γ'.p.num; exact hP.lt)
    have nti : ¬ blk s2.L = some (γ.p.tb i) := by rw [<- et]; have := nl (.t i) nofun hti.1; rwa [hti.2.1] at this
    have nR : ¬ blk s2.L = some γ'.p.R := by have := nl .run nofun hrun.1; rwa [hrun.2.1] at this
    have nx3 : ¬ blk s2.L = some x := fun e => by
      obtain ⟨hk', e'⟩ := hlog.blk e
      exact nx2 _ hk' e'.symm
    have d7 := u7.get d3 nR
    have lx7 := u7.get lx3 nx3
    have hZ7 : hcell h7 ⟨γ.p.tb i, 0, none⟩ = some (ptr γ'.p.R) /\ hcell h7 ⟨γ'.p.R, 2, none⟩ = some s2.L /\ hrow h7 x 0 (accL i op (NS.idxOf b) arg new (γ'.p.val b) w.1 w.2) := ⟨u7.hcell hZ3.1 nti, hcell_of d7 rfl, fun j v hj => u7.hcell (hZ3.2.2 j v hj) nx3⟩
    refine ⟨hZ7, ?_⟩
    refine EA.val 14 rfl (by kernel_rfl) rfl rfl rfl (fun ρ Q X hρ hq => sem_nilCheck (hρ _ _ rfl) hq) hZ7 ?_
    have hZ := hZ7
    refine EA.tField 15 rfl (by kernel_rfl) rfl rfl rfl rfl hZ ?_
    have hent : entL NS (evOf i ⟨op, b, arg, new⟩ (γ'.p.val b)) = accL i op (NS.idxOf b) arg new (γ'.p.val b) w.1 w.2 := by
      show accL _ _ _ _ _ _ (behind op (γ'.p.val b) arg new).1 (behind op (γ'.p.val b) arg new).2 = _
      rw [hbh]
      rfl
    obtain ⟨as7, ks7, es7⟩ := hs7.val
    have hOne : OneCell s' := by rw [es7]; exact ⟨nofun, nofun⟩
    rw [<- hent] at hs7
    obtain ⟨M', g8⟩ := g3.logApp (e := evOf i ⟨op, b, arg, new⟩ (γ'.p.val b)) he hs7 u7 hb7 (fun c hc => .inr (Nat.le_trans u3.size hc))
    have I7 : X.I γ'.p.u h7 := hX.loc _ _ _ (fun c hc => u7.2 c (g3.dom c hc).1 (fun e => by
      obtain ⟨hk', e'⟩ := hlog.blk e
      exact (g3.apart _ hk').2 (by rw [<- e']; exact hc))) I3
    have I8 : X.I γ'.p.u (h7.setIfInBounds γ'.p.R (runO { s2 with L := s' } γ'.p.mb γ'.p.stops)) := hX.loc _ _ _ (fun c hc => get_set_ne _ (fun e : γ'.p.R = c => (g3.apart _ hrun.1).2 (by rw [hrun.2.1]; show X.Dom γ'.p.u γ'.p.R; rw [e]; exact hc))) I7
    have u8 : Upd γ'.W γ'.base (h7.setIfInBounds γ'.p.R (runO { s2 with L := s' } γ'.p.mb γ'.p.stops)) := updW (upd_then u3 u7 (fun c hc e => by
      obtain ⟨hk', e'⟩ := hlog.blk e
      have := g3.wide _ hk'
      rw [<- e'] at this
      exact this.resolve_right (by omega))) _ (by have := g3.wide _ hrun.1; rw [hrun.2.1] at this; exact this)
    have lx8 : (h7.setIfInBounds γ'.p.R (runO { s2 with L := s' } γ'.p.mb γ'.p.stops))[x]? = some (accO (accL i op (NS.idxOf b) arg new (γ'.p.val b) w.1 w.2)) := (get_set_ne _ (fun e : γ'.p.R = x => nx2 _ hrun.1 (hrun.2.1.trans e))).trans lx7
    refine EA.unitL (h' := h7.setIfInBounds γ'.p.R (runO { s2 with L := s' } γ'.p.mb γ'.p.stops)) 16 rfl (by kernel_rfl) rfl rfl rfl (fun ρ Q X hρ hq => sem_store1 (hρ _ _ rfl) (hρ _ _ rfl) hOne ⟨_, hcell_of d7 rfl⟩ (hfroz_of d7) (m.still (.inr (.inr (.inl rfl)))) (by rw [hset_block d7]; exact hq)) ?_
    refine EA.done (by kernel_rfl) ?_
    clear hZ hZ7 hZ3 u7 d7 lx7 I7 hs7 hb7 nl nti nR nx3 d3 lx3 u3 I3
    generalize h7.setIfInBounds γ'.p.R (runO { s2 with L := s' } γ'.p.mb γ'.p.stops) = h8 at g8 I8 u8 lx8 ⊢
    (repeat refine EK.seq ?_)
    refine EK.regionAny (fun h' => hrow h' x 0 (accL i op (NS.idxOf b) arg new (γ'.p.val b) w.1 w.2)) ?_
    have hZ : hrow h8 x 0 (accL i op (NS.idxOf b) arg new (γ'.p.val b) w.1 w.2) := hrow_block (rest := []) (by rw [List.append_nil]; exact lx8)
    refine EA.tField 0 rfl (by kernel_rfl) rfl rfl rfl rfl hZ ?_
    refine EA.tLoad 1 rfl (by kernel_rfl) rfl rfl rfl rfl (fun _ hz => hz 5 _ rfl) hZ ?_
    refine EA.tField 2 rfl (by kernel_rfl) rfl rfl rfl rfl hZ ?_
    refine EA.tLoad 3 rfl (by kernel_rfl) rfl rfl rfl rfl (fun _ hz => hz 6 _ rfl) hZ ?_
    refine EA.tField 4 rfl (by kernel_rfl) rfl rfl rfl rfl hZ ?_
    refine EA.tLoad 5 rfl (by kernel_rfl) rfl rfl rfl rfl (fun _ hz => hz 7 _ rfl) hZ ?_
    refine EA.tAssign 6 rfl (by kernel_rfl) rfl rfl rfl rfl hZ ?_
    refine EA.tAssign 7 rfl (by kernel_rfl) rfl rfl rfl rfl hZ ?_
    refine EA.tAssign 8 rfl (by kernel_rfl) rfl rfl rfl rfl hZ ?_
    refine EA.done (by kernel_rfl) ?_
    (repeat refine EK.ret ?_)
    refine EU.ret3 rfl rfl rfl rfl ⟨γ', rfl, thr_of hX hs hP hst ⟨{ s2 with L := s' }, M', ?_⟩ I8 u8, Stood.of hV, ?_⟩
    · show GI X _ { γ'.p with prv := ut γ'.p.prv i L, val := ut γ'.p.val b (behind op (γ'.p.val b) arg new).1, log := _ } _ _ _ _
      rw [hbh, hN]
      exact g8
    · show _ = Value.tuple #[.int .i64 (γ'.p.val b), .int .i64 (behind op (γ'.p.val b) arg new).1, .bool (behind op (γ'.p.val b) arg new).2]
      rw [hbh]
  · refine ER.lookupOk (v := .tuple #[.int .i64 0, .bool false]) rfl rfl rfl rfl (by decide) hm ⟨_, _, cb⟩ hpl hk (by rw [pfind_keys, if_neg hb]) ?_
    (repeat (first | refine EK.seq ?_ | refine EK.region ?_ | refine ER.done ?_ | refine ER.move rfl rfl rfl ?_ | refine ER.assign rfl rfl rfl ?_ | refine ER.nilCheck rfl rfl rfl ?_ | refine ER.fieldAddr rfl rfl rfl ?_ | refine ER.load1 rfl rfl rfl (hcell_of (by assumption) rfl) ?_ | refine ER.notB rfl rfl rfl ?_ | refine ER.extract rfl rfl rfl rfl ?_ | refine EK.condT rfl ?_ | refine ER.load1 rfl rfl rfl (by assumption) ?_))
    have hi := idxOf_snoc hb
    refine ER.lenMap (v := (nums γ'.p.log ++ [b]).idxOf b) rfl rfl rfl hm (by rw [keyed_size hk, keysFrom_length, hi]) ?_
    (repeat (first | refine EK.region ?_ | refine ER.done ?_ | refine ER.move rfl rfl rfl ?_ | refine ER.assign rfl rfl rfl ?_ | refine ER.nilCheck rfl rfl rfl ?_ | refine ER.fieldAddr rfl rfl rfl ?_ | refine ER.load1 rfl rfl rfl (hcell_of (by assumption) rfl) ?_ | refine ER.load1 rfl rfl rfl (by assumption) ?_))
    refine ER.mapNew rfl rfl rfl rfl (by decide) hm ⟨_, _, cb⟩ hpl hk (by rw [pfind_keys, if_neg hb]) ?_
    refine ER.gen (fun h' => Mid X γ' i { γ'.p with prv := ut γ'.p.prv i L, val := ut γ'.p.val b w.1 } (nums γ'.p.log ++ [b]) x (accL i op (-1) arg new (γ'.p.val b) w.1 w.2) h') (by rw [hi]; exact m.mapNew hX hC hm hk) ?_
    clear m d1 hm hk hpl d0 hi cb
    rintro h5 m
    have hN := nums_neg (e := evOf i ⟨op, b, arg, new⟩ (γ'.p.val b)) hb
    have he : b ∈ nums γ'.p.log ++ [b] := by simp
    change nums (γ'.p.log ++ [evOf i ⟨op, b, arg, new⟩ (γ'.p.val b)]) = nums γ'.p.log ++ [b] at hN
    revert m hN he
    generalize nums γ'.p.log ++ [b] = NS
    intro m he hN
    have d0 := m.row
    rw [et] at d0
    (repeat (first | refine EK.seq ?_ | refine EK.region ?_ | refine ER.done ?_ | refine ER.move rfl rfl rfl ?_ | refine ER.fieldAddr rfl rfl rfl ?_))
    refine ER.store1 rfl rfl rfl ⟨nofun, nofun⟩ ⟨_, hcell_of m.lx rfl⟩ (hfroz_of m.lx) (m.still (.inl rfl)) ?_
    refine ER.gen (fun h' => Mid X γ' i { γ'.p with prv := ut γ'.p.prv i L, val := ut γ'.p.val b w.1 } NS x (accL i op (NS.idxOf b) arg new (γ'.p.val b) w.1 w.2) h') (by rw [hset_block m.lx]; exact m.setx hX _) ?_
    clear m d0
    rintro h6 m
    obtain ⟨s2, M2, g2, nx2⟩ := m.gi
    have d0 := m.row
    rw [et] at d0
    have d1 : h6[γ'.p.R]? = some (runO s2 γ'.p.mb γ'.p.stops) := g2.runAt
    have lx := m.lx
    (repeat (first | refine EK.seq ?_ | refine ER.done ?_))
    refine EK.regionAnyL (fun h' => hcell h' ⟨γ.p.tb i, 0, none⟩ = some (ptr γ'.p.R) /\ hcell h' ⟨γ'.p.R, 2, none⟩ = some s2.L /\ hrow h' x 0 (accL i op (NS.idxOf b) arg new (γ'.p.val b) w.1 w.2)) 16 ?_
    have lrow : hrow h6 x 0 (accL i op (NS.idxOf b) arg new (γ'.p.val b) w.1 w.2) := hrow_block (rest := []) (by rw [List.append_nil]; exact lx)
    have hZ := And.intro d0 (And.intro (hcell_of d1 rfl : hcell h6 ⟨γ'.p.R, 2, none⟩ = some s2.L) lrow)
    refine EA.tMove 0 rfl (by kernel_rfl) rfl rfl rfl rfl hZ ?_
    refine EA.tNil 1 rfl (by kernel_rfl) rfl rfl rfl rfl hZ ?_
    refine EA.tField 2 rfl (by kernel_rfl) rfl rfl rfl rfl hZ ?_
    refine EA.tLoad 3 rfl (by kernel_rfl) rfl rfl rfl rfl (fun _ hz => hz.1) hZ ?_
    refine EA.tMove 4 rfl (by kernel_rfl) rfl rfl rfl rfl hZ ?_
    refine EA.tNil 5 rfl (by kernel_rfl) rfl rfl rfl rfl hZ ?_
    refine EA.tField 6 rfl (by kernel_rfl) rfl rfl rfl rfl hZ ?_
    refine EA.tLoad 7 rfl (by kernel_rfl) rfl rfl rfl rfl (fun _ hz => hz.1) hZ ?_
    refine EA.tNil 8 rfl (by kernel_rfl) rfl rfl rfl rfl hZ ?_
    refine EA.tField 9 rfl (by kernel_rfl) rfl rfl rfl rfl hZ ?_
    refine EA.tLoad 10 rfl (by kernel_rfl) rfl rfl rfl rfl (fun _ hz => hz.2.1) hZ ?_
    refine EA.tLoadN (vs := accL i op (NS.idxOf b) arg new (γ'.p.val b) w.1 w.2) 11 rfl (by kernel_rfl) rfl rfl rfl rfl rfl (fun _ hz => hz.2.2) hZ ?_
    have hZ3 : _ /\ _ /\ _ := ⟨hcell_push (o := accO (accL i op (NS.idxOf b) arg new (γ'.p.val b) w.1 w.2)) hZ.1, hcell_push (o := accO (accL i op (NS.idxOf b) arg new (γ'.p.val b) w.1 w.2)) hZ.2.1, fun j v hj => hcell_push (o := accO (accL i op (NS.idxOf b) arg new (γ'.p.val b) w.1 w.2)) (hZ.2.2 j v hj)⟩
    refine EA.val (v := .slice (some ⟨h6.size, 0, none⟩) 1 1) (h' := h6.push (accO (accL i op (NS.idxOf b) arg new (γ'.p.val b) w.1 w.2))) 12 rfl (by kernel_rfl) rfl rfl rfl (fun ρ Q X hρ hq => sem_slice1 (z := .agg #[.int .i64 0, .int .i8 0, .int .i64 0, .int .i64 0, .int .i64 0, .int .i64 0, .int .i64 0, .bool false]) (sz := 8) hρ rfl (by omega) (by omega) rfl (fill_acc _ _ _ _ _ _ _ _) hq) hZ3 ?_
    have g3 := g2.upd0 (Upd.push h6 (accO (accL i op (NS.idxOf b) arg new (γ'.p.val b) w.1 w.2)))
    have hlen := hP.len hs
    have d3 := (Upd.push (T := fun _ => False) h6 (accO (accL i op (NS.idxOf b) arg new (γ'.p.val b) w.1 w.2))).get d1 (fun x => x)
    have lx3 := (Upd.push (T := fun _ => False) h6 (accO (accL i op (NS.idxOf b) arg new (γ'.p.val b) w.1 w.2))).get lx (fun x => x)
    have u3 := upd_then m.upd (Upd.push (T := fun _ => False) h6 (accO (accL i op (NS.idxOf b) arg new (γ'.p.val b) w.1 w.2))) (fun _ _ x => x.elim)
    have I3 := hX.loc _ _ _ (fun c hc => (Upd.push (T := fun _ => False) h6 (accO (accL i op (NS.idxOf b) arg new (γ'.p.val b) w.1 w.2))).2 c (g2.dom c hc).1 (fun x => x)) m.I
    have hlog : M2.Sl .log s2.L 142 8 γ'.p.log.length (γ'.p.log.flatMap (entL NS)) := g3.all .log
    have hrun := g3.all .run
    refine EA.append1 (new := accL i op (NS.idxOf b) arg new (γ'.p.val b) w.1 w.2) 13 rfl (by kernel_rfl) rfl rfl rfl rfl rfl (hlog.slice g3.rep) (get_push_new _ _) rfl (by simp [accL, OneCell]) (by omega) (by omega) rfl (fun c o hc => ?_) ?_
    · obtain ⟨hk, e⟩ := hlog.blk hc
      rw [e]; exact still_nm m.run m.lt g3 m.st hk (fun j => ⟨nofun, nofun⟩)
    intro s' h7 hs7 u7 hb7
    have nl : ∀ k, k ≠ .log -> M2.ok k -> ¬ blk s2.L = some (M2.B k) := fun k hk ok e => by
      obtain ⟨hk', e'⟩ := hlog.blk e
      exact g3.ne ok hk' hk e'
    have hti := g3.all (.t i) (by show i < γ'.p.num; exact hP.lt)
    have nti : ¬ blk s2.L = some (γ.p.tb i) := by rw [<- et]; have := nl (.t i) nofun hti.1; rwa [hti.2.1] at this
    have nR : ¬ blk s2.L = some γ'.p.R := by have := nl .run nofun hrun.1; rwa [hrun.2.1] at this
    have nx3 : ¬ blk s2.L = some x := fun e => by
      obtain ⟨hk', e'⟩ := hlog.blk e
      exact nx2 _ hk' e'.symm
    have d7 := u7.get d3 nR
    have lx7 := u7.get lx3 nx3
    have hZ7 : hcell h7 ⟨γ.p.tb i, 0, none⟩ = some (ptr γ'.p.R) /\ hcell h7 ⟨γ'.p.R, 2, none⟩ = some s2.L /\ hrow h7 x 0 (accL i op (NS.idxOf b) arg new (γ'.p.val b) w.1 w.2) := ⟨u7.hcell hZ3.1 nti, hcell_of d7 rfl, fun j v hj => u7.hcell (hZ3.2.2 j v hj) nx3⟩
    refine ⟨hZ7, ?_⟩
    refine EA.val 14 rfl (by kernel_rfl) rfl rfl rfl (fun ρ Q X hρ hq => sem_nilCheck (hρ _ _ rfl) hq) hZ7 ?_
    have hZ := hZ7
    refine EA.tField 15 rfl (by kernel_rfl) rfl rfl rfl rfl hZ ?_
    have hent : entL NS (evOf i ⟨op, b, arg, new⟩ (γ'.p.val b)) = accL i op (NS.idxOf b) arg new (γ'.p.val b) w.1 w.2 := by
      show accL _ _ _ _ _ _ (behind op (γ'.p.val b) arg new).1 (behind op (γ'.p.val b) arg new).2 = _
      rw [hbh]
      rfl
    obtain ⟨as7, ks7, es7⟩ := hs7.val
    have hOne : OneCell s' := by rw [es7]; exact ⟨nofun, nofun⟩
    rw [<- hent] at hs7
    obtain ⟨M', g8⟩ := g3.logApp (e := evOf i ⟨op, b, arg, new⟩ (γ'.p.val b)) he hs7 u7 hb7 (fun c hc => .inr (Nat.le_trans u3.size hc))
    have I7 : X.I γ'.p.u h7 := hX.loc _ _ _ (fun c hc => u7.2 c (g3.dom c hc).1 (fun e => by
      obtain ⟨hk', e'⟩ := hlog.blk e
      exact (g3.apart _ hk').2 (by rw [<- e']; exact hc))) I3
    have I8 : X.I γ'.p.u (h7.setIfInBounds γ'.p.R (runO { s2 with L := s' } γ'.p.mb γ'.p.stops)) := hX.loc _ _ _ (fun c hc => get_set_ne _ (fun e : γ'.p.R = c => (g3.apart _ hrun.1).2 (by rw [hrun.2.1]; show X.Dom γ'.p.u γ'.p.R; rw [e]; exact hc))) I7
    have u8 : Upd γ'.W γ'.base (h7.setIfInBounds γ'.p.R (runO { s2 with L := s' } γ'.p.mb γ'.p.stops)) := updW (upd_then u3 u7 (fun c hc e => by
      obtain ⟨hk', e'⟩ := hlog.blk e
      have := g3.wide _ hk'
      rw [<- e'] at this
      exact this.resolve_right (by omega))) _ (by have := g3.wide _ hrun.1; rw [hrun.2.1] at this; exact this)
    have lx8 : (h7.setIfInBounds γ'.p.R (runO { s2 with L := s' } γ'.p.mb γ'.p.stops))[x]? = some (accO (accL i op (NS.idxOf b) arg new (γ'.p.val b) w.1 w.2)) := (get_set_ne _ (fun e : γ'.p.R = x => nx2 _ hrun.1 (hrun.2.1.trans e))).trans lx7
    refine EA.unitL (h' := h7.setIfInBounds γ'.p.R (runO { s2 with L := s' } γ'.p.mb γ'.p.stops)) 16 rfl (by kernel_rfl) rfl rfl rfl (fun ρ Q X hρ hq => sem_store1 (hρ _ _ rfl) (hρ _ _ rfl) hOne ⟨_, hcell_of d7 rfl⟩ (hfroz_of d7) (m.still (.inr (.inr (.inl rfl)))) (by rw [hset_block d7]; exact hq)) ?_
    refine EA.done (by kernel_rfl) ?_
    clear hZ hZ7 hZ3 u7 d7 lx7 I7 hs7 hb7 nl nti nR nx3 d3 lx3 u3 I3
    generalize h7.setIfInBounds γ'.p.R (runO { s2 with L := s' } γ'.p.mb γ'.p.stops) = h8 at g8 I8 u8 lx8 ⊢
    (repeat refine EK.seq ?_)
    refine EK.regionAny (fun h' => hrow h' x 0 (accL i op (NS.idxOf b) arg new (γ'.p.val b) w.1 w.2)) ?_
    have hZ : hrow h8 x 0 (accL i op (NS.idxOf b) arg new (γ'.p.val b) w.1 w.2) := hrow_block (rest := []) (by rw [List.append_nil]; exact lx8)
    refine EA.tField 0 rfl (by kernel_rfl) rfl rfl rfl rfl hZ ?_
    refine EA.tLoad 1 rfl (by kernel_rfl) rfl rfl rfl rfl (fun _ hz => hz 5 _ rfl) hZ ?_
    refine EA.tField 2 rfl (by kernel_rfl) rfl rfl rfl rfl hZ ?_
    refine EA.tLoad 3 rfl (by kernel_rfl) rfl rfl rfl rfl (fun _ hz => hz 6 _ rfl) hZ ?_
    refine EA.tField 4 rfl (by kernel_rfl) rfl rfl rfl rfl hZ ?_
    refine EA.tLoad 5 rfl (by kernel_rfl) rfl rfl rfl rfl (fun _ hz => hz 7 _ rfl) hZ ?_
    refine EA.tAssign 6 rfl (by kernel_rfl) rfl rfl rfl rfl hZ ?_
    refine EA.tAssign 7 rfl (by kernel_rfl) rfl rfl rfl rfl hZ ?_
    refine EA.tAssign 8 rfl (by kernel_rfl) rfl rfl rfl rfl hZ ?_
    refine EA.done (by kernel_rfl) ?_
    (repeat refine EK.ret ?_)
    refine EU.ret3 rfl rfl rfl rfl ⟨γ', rfl, thr_of hX hs hP hst ⟨{ s2 with L := s' }, M', ?_⟩ I8 u8, Stood.of hV, ?_⟩
    · show GI X _ { γ'.p with prv := ut γ'.p.prv i L, val := ut γ'.p.val b (behind op (γ'.p.val b) arg new).1, log := _ } _ _ _ _
      rw [hbh, hN]
      exact g8
    · show _ = Value.tuple #[.int .i64 (γ'.p.val b), .int .i64 (behind op (γ'.p.val b) arg new).1, .bool (behind op (γ'.p.val b) arg new).2]
      rw [hbh]
end
end
section
open Go Go.TJ Go.Conc Go.Proofs
section
variable {X : Us} {h : Hp} {i : Nat} {γ : GG X} {u : X.U} {L : List (Nat × Obj)}
instance : Und Try.prog 20 (.interface #[]) := ⟨Try.underlying20⟩
theorem tellsG {γ₁ : GG X} {f n : Nat} {k : List Item} {env : Env} {cs : List Frame} {ops : Array Oper} {x y : Operand} {ty : TypeId} {pos : String} {af : Array Edge} {g : Option (Nat × Bool)} (hr : γ.run = i) (hw : wantE ops env g = some true) (hx : ev env x = some (.chan (some (γ.p.sd i)))) (hy : ev env y = some tok)
    (hn : γ₁.p.num = γ.p.num) (ho : Others (PX X) (i + 1) γ γ₁) (hp : P0 X γ₁ h) (hc : γ₁.p.gone i = true) (hq : ∀ a, Kn n env [] a -> QuitsD Try.prog 5 0 (G ((fb f .deferred).at a (.inRegion ops [] :: k)) cs)) :
    TR Try.prog false (SitT Try.prog (PX X) (i + 1)) (EndT Try.prog (PX X) (i + 1)) f n .deferred cs ops [⟨none, .send x y, ty, pos, af, g⟩] k env [] h ⟨0, γ⟩ := by
  intro rest hr' a ka
  obtain ⟨m, r, rfl, ho', hr'⟩ := ER.uncons hr'
  have : r = [] := by simpa using hr'
  subst this
  refine .stop ⟨rfl, γ₁, γ.p.sd i, _, by omega, Nat.succ_pos _, by show some (γ.p.sd γ.run) = _; rw [hr], at_send ho' (wantE_ok ka (o := ⟨none, .send x y, ty, pos, af, g⟩) hw) (by decide) (ka.eval hx) (ka.eval hy), by show γ₁.p.num + 1 = γ.p.num + 1; rw [hn], ho, hp, ?_, 5, ?_⟩
  · show (if γ₁.p.gone i = true then none else some (γ₁.p.wk i)) = none
    rw [if_pos hc]
  · rw [served_none ho' rfl]; exact hq a ka
theorem Thr.drop (hX : X.Ok) (T : Thr X i γ u L h) : Thr X i γ u [] h := by
  obtain ⟨s, M, g⟩ := T.gi
  exact T.user hX (Upd.refl _ _) (fun b hb => ⟨.inl hb, (g.dom b hb).1⟩) (fun q hq => by cases hq) T.I (fun _ _ => hX.vrefl _ _)
theorem others_over (T : Thr X i γ u L h) : Others (PX X) (i + 1) γ { γ with p := γ.p.turn i u L .over true } := by
  obtain ⟨a1, a2, a3, a4, a5, a6, a7, a8, a9, a10, a11, a12, a13, a14, a15, a16, a17⟩ := acc_same γ.p i
  intro x hx hl
  cases x with
  | zero =>
    refine ⟨?_, ?_, rfl, rfl, rfl, rfl⟩
    · show some ((γ.p.acc i).sd γ.run) = some (γ.p.sd γ.run); rw [a6]
    · show cM _ = cM γ
      funext a
      show (if a = ⟨(γ.p.acc i).tb γ.run, 3, none⟩ then some (Value.chan (some ((γ.p.acc i).sd γ.run))) else none) = (if a = ⟨γ.p.tb γ.run, 3, none⟩ then some (Value.chan (some (γ.p.sd γ.run))) else none)
      rw [a4, a6]
  | succ j =>
    have hj : j ≠ i := fun e => hx (by rw [e])
    refine ⟨?_, ?_, view_turn hj (T.V j hj) _ _ _⟩
    · show (if ut (γ.p.acc i).gone i true j = true then none else some ((γ.p.acc i).wk j)) = (if γ.p.gone j = true then none else some (γ.p.wk j))
      rw [ut_ne _ _ hj, a12, a5]
    · show cT _ j = cT γ j
      funext a
      show (if a = ⟨(γ.p.acc i).tb j, 2, none⟩ then some (Value.chan (some ((γ.p.acc i).wk j))) else if a = ⟨(γ.p.acc i).bx j, 0, none⟩ then some (.pointer (some ⟨(γ.p.acc i).tb j, 0, none⟩)) else none) = (if a = ⟨γ.p.tb j, 2, none⟩ then some (Value.chan (some (γ.p.wk j))) else if a = ⟨γ.p.bx j, 0, none⟩ then some (.pointer (some ⟨γ.p.tb j, 0, none⟩)) else none)
      rw [a4, a5, a7]
theorem others_stop (hX : X.Ok) : Others (PX X) (i + 1) γ { γ with p := { γ.p with gone := ut γ.p.gone i true } } := by
  intro x hx hl
  cases x with
  | zero => exact ⟨rfl, rfl, rfl, rfl, rfl, rfl⟩
  | succ j =>
    have hj : j ≠ i := fun e => hx (by rw [e])
    have e1 : ut γ.p.gone i true j = γ.p.gone j := ut_ne _ _ hj
    refine ⟨?_, rfl, ⟨Nat.le_refl _, rfl, rfl, rfl, rfl, rfl, rfl, rfl, rfl, rfl, e1, rfl, rfl, hX.vrefl _ _⟩⟩
    show (if ut γ.p.gone i true j = true then none else some (γ.p.wk j)) = _
    rw [e1]; rfl
theorem Thr.ends (hX : X.Ok) (T : Thr X i γ u L h) (hQ : X.Q i (ownOf i (γ.p.acc i).log) .over u) (hJ : X.J (γ.p.acc i).log u (γ.p.acc i).val) :
    P0 X { γ with p := γ.p.turn i u L .over true } (hset h ⟨γ.p.tb i, 13, none⟩ (.bool true)) /\ hcell (hset h ⟨γ.p.tb i, 13, none⟩ (.bool true)) ⟨γ.p.tb i, 3, none⟩ = some (.chan (some (γ.p.sd i))) /\ hcell (hset h ⟨γ.p.tb i, 13, none⟩ (.bool true)) ⟨γ.p.bx i, 0, none⟩ = some (ptr (γ.p.tb i)) := by
  obtain ⟨v, t, o, c, b, n, w, y, k, hat, hrow⟩ := T.row
  have er : hset h ⟨γ.p.tb i, 13, none⟩ (.bool true) = h.setIfInBounds (γ.p.tb i) (thrO γ.p.R i (γ.p.wk i) (γ.p.sd i) v (accL t o c b n w y k) true) := hset_block hrow _
  rw [er]
  obtain ⟨s, M, g⟩ := T.gi
  obtain ⟨a1, a2, a3, a4, a5, a6, a7, a8, a9, a10, a11, a12, a13, a14, a15, a16, a17⟩ := acc_same γ.p i
  have hlt : i < ({ γ.p.acc i with u := u, prv := ut (γ.p.acc i).prv i L } : PS X.U).num := by rw [acc_three.1]; exact T.lt
  have g1 := g.row hlt (t := .over) (v := v) (a := accL t o c b n w y k) hat.form' true
  have g2 : GI X (Wide γ.W γ.base) (γ.p.turn i u L .over true) (nums (γ.p.turn i u L .over true).log) s (M.set (.t i) (thrO (γ.p.acc i).R i ((γ.p.acc i).wk i) ((γ.p.acc i).sd i) v (accL t o c b n w y k) true)) (h.setIfInBounds ((γ.p.acc i).tb i) (thrO (γ.p.acc i).R i ((γ.p.acc i).wk i) ((γ.p.acc i).sd i) v (accL t o c b n w y k) true)) := g1
  clear g1
  rw [a1, a4, a5, a6] at g2
  have x1 := g.all (.t i) hlt
  have et : M.B (.t i) = γ.p.tb i := x1.2.1.trans (congrFun acc_three.2.1 i)
  have r2 := get_set_same hrow (o' := thrO γ.p.R i (γ.p.wk i) (γ.p.sd i) v (accL t o c b n w y k) true)
  have bx2 : (h.setIfInBounds (γ.p.tb i) (thrO γ.p.R i (γ.p.wk i) (γ.p.sd i) v (accL t o c b n w y k) true))[(γ.p.acc i).bx i]? = some (Obj.cells #[ptr ((γ.p.acc i).tb i)] 30 (0, 0)) := g2.bxAt (i := i) hlt
  rw [a7, a4] at bx2
  refine ⟨⟨by show γ.run < _; rw [T.run]; exact hlt, .inl ⟨by rw [T.was]; exact T.go, u, L, .over, ?_, nofun, nofun⟩, ⟨s, _, g2⟩, hX.loc _ _ _ (fun b hb => get_set_ne _ (fun e => (g.apart _ x1.1).2 (by rw [et, e]; exact hb))) T.I, hJ, fun x => ?_, updW T.upd _ (et ▸ g.wide _ x1.1)⟩, hcell_of r2 rfl, hcell_of bx2 rfl⟩
  · show γ.p.turn i u L .over true = γ.was.turn γ.run u L .over true
    rw [T.was, T.run]
  · show X.Q x (ownOf x (γ.p.acc i).log) (ut (γ.p.acc i).st i .over x) u
    by_cases e : x = i
    · subst e; rw [ut_same]; exact hQ
    · rw [ut_ne _ _ e, acc_own _ _ e, a11]
      exact hX.stab _ _ _ _ _ (T.V x e) (T.Q x)
theorem Stp.row (T : Stp X i γ h) : ∃ v t o c b n w x k, AtOk i (γ.p.st i) v (accL t o c b n w x k) /\ h[γ.p.tb i]? = some (thrO γ.p.R i (γ.p.wk i) (γ.p.sd i) v (accL t o c b n w x k) false) := by
  obtain ⟨s, M, g⟩ := T.P.held.gi
  obtain ⟨v, a, h1, h2⟩ := g.thrAt T.P.lt
  obtain ⟨_, t, o, c, b, n, w, x, k, rfl⟩ := h1.form
  exact ⟨v, t, o, c, b, n, w, x, k, h1, by rw [<- T.P.live]; exact h2⟩
theorem Stp.ends (hX : X.Ok) (T : Stp X i γ h) :
    P0 X { γ with p := { γ.p with gone := ut γ.p.gone i true } } (hset h ⟨γ.p.tb i, 13, none⟩ (.bool true)) /\ hcell (hset h ⟨γ.p.tb i, 13, none⟩ (.bool true)) ⟨γ.p.tb i, 3, none⟩ = some (.chan (some (γ.p.sd i))) /\ hcell (hset h ⟨γ.p.tb i, 13, none⟩ (.bool true)) ⟨γ.p.bx i, 0, none⟩ = some (ptr (γ.p.tb i)) := by
  obtain ⟨v, t, o, c, b, n, w, y, k, hat, hrow⟩ := T.row
  have er : hset h ⟨γ.p.tb i, 13, none⟩ (.bool true) = h.setIfInBounds (γ.p.tb i) (thrO γ.p.R i (γ.p.wk i) (γ.p.sd i) v (accL t o c b n w y k) true) := hset_block hrow _
  rw [er]
  obtain ⟨s, M, g⟩ := T.P.held.gi
  have g1 := g.row T.P.lt (t := γ.p.st i) (v := v) (a := accL t o c b n w y k) hat true
  rw [ut_self] at g1
  have x1 := g.all (.t i) T.P.lt
  have et : M.B (.t i) = γ.p.tb i := x1.2.1
  have r2 := get_set_same hrow (o' := thrO γ.p.R i (γ.p.wk i) (γ.p.sd i) v (accL t o c b n w y k) true)
  have bx2 := g1.bxAt (i := i) T.P.lt
  refine ⟨⟨by show γ.run < _; rw [T.P.run]; exact T.P.lt, .inr ⟨by rw [T.P.was]; exact T.stops, ?_⟩, ⟨s, _, g1⟩, hX.loc _ _ _ (fun b hb => get_set_ne _ (fun e => (g.apart _ x1.1).2 (by rw [et, e]; exact hb))) T.P.held.I, T.P.held.J, T.P.held.Q, updW T.P.held.upd _ (et ▸ g.wide _ x1.1)⟩, hcell_of r2 rfl, hcell_of bx2 rfl⟩
  show ({ γ.p with gone := ut γ.p.gone i true } : PS X.U) = { γ.was with gone := ut γ.was.gone γ.run true }
  rw [T.P.was, T.P.run]
end
end
section
open Go Go.TJ Go.Conc Go.Proofs
section
variable {X : Us} {h : Hp} {i : Nat} {γ : GG X} {u : X.U} {L : List (Nat × Obj)}
theorem Thr.bxC (T : Thr X i γ u L h) : hcell h ⟨γ.p.bx i, 0, none⟩ = some (ptr (γ.p.tb i)) := by
  obtain ⟨s, M, g⟩ := T.gi
  have := g.bxAt (i := i) (by rw [acc_three.1]; exact T.lt)
  rw [acc_three.2.2, acc_three.2.1] at this
  exact hcell_of this rfl
set_option maxHeartbeats 1000000 in
set_option maxRecDepth 8000 in
theorem over_okG (hX : X.Ok) {a1 : Act} {todo : List Item} {rb bx : Nat} (hd : a1.defers = []) (T : Thr X i γ u L h) (hb : bx = γ.p.bx i) (hQ : X.Q i (ownOf i (γ.p.acc i).log) .over u) (hJ : X.J (γ.p.acc i).log u (γ.p.acc i).val) :
    Runs Try.prog false (SitT Try.prog (PX X) (i + 1)) (EndT Try.prog (PX X) (i + 1)) (G (Frame.enter Try.prog 143 #[ptr rb, ptr bx] .deferred) [{ (fb 142 .deferred).at a1 todo with mode := .returning }, rootFr Try.prog]) h ⟨0, γ⟩ := by
  subst hb
  have hk : CallKind.deferred ≠ .early := by decide
  obtain ⟨v, t, o, c, b, n, w, y, k, hat, hrow⟩ := T.row
  obtain ⟨p0, e1, e0⟩ := T.ends hX hQ hJ
  have w0 := T.bxC
  refine TK.start (n := 30) rfl rfl ?_
  repeat' refine TK.seq ?_
  refine TK.region ?_
  refine TR.recover0 rfl rfl rfl rfl rfl ?_
  refine TR.val hk rfl rfl (fun ρ Q X hρ hq => sem_assign (hρ _ _ rfl) hq) ?_
  refine TR.done (TK.seq (TK.region ?_))
  refine TR.val hk rfl rfl (fun ρ Q X hρ hq => sem_move (hρ _ _ rfl) hq) ?_
  refine TR.val hk rfl rfl (fun ρ Q X hρ hq => sem_neqIf (hρ _ _ rfl) (hρ _ _ rfl) (.inl ⟨rfl, rfl⟩) hq) ?_
  refine TR.val hk rfl rfl (fun ρ Q X hρ hq => sem_move (hρ _ _ rfl) hq) ?_
  refine TR.no rfl rfl (TR.no rfl rfl (TR.no rfl rfl (TR.no rfl rfl (TR.no rfl rfl ?_))))
  refine TR.val (v := .bool false) hk rfl rfl (fun ρ Q X hρ hq => sem_pick (b := false) (hρ _ _ rfl) (by show ρ _ = _; exact hρ _ _ rfl) hq) ?_
  refine TR.done (TK.cond (t := false) rfl (TK.skip (TK.seq (TK.region ?_))))
  refine TR.val hk rfl rfl (fun ρ Q X hρ hq => sem_load1 (hρ _ _ rfl) w0 hq) ?_
  refine TR.val hk rfl rfl (fun ρ Q X hρ hq => sem_nilCheck (hρ _ _ rfl) hq) ?_
  refine TR.val hk rfl rfl (fun ρ Q X hρ hq => sem_fieldAddr (hρ _ _ rfl) hq) ?_
  refine TR.unit (h' := hset h ⟨γ.p.tb i, 13, none⟩ (.bool true)) hk rfl (fun ρ Q X hρ hq => sem_store1 (hρ _ _ rfl) (hρ _ _ rfl) (by simp [OneCell]) ⟨_, hcell_of hrow rfl⟩ (hfroz_of hrow) (T.freeRow (by decide)) hq) ?_
  refine TR.done (TK.region ?_)
  refine TR.val hk rfl rfl (fun ρ Q X hρ hq => sem_load1 (hρ _ _ rfl) e0 hq) ?_
  refine TR.val hk rfl rfl (fun ρ Q X hρ hq => sem_nilCheck (hρ _ _ rfl) hq) ?_
  refine TR.val hk rfl rfl (fun ρ Q X hρ hq => sem_fieldAddr (hρ _ _ rfl) hq) ?_
  refine TR.val hk rfl rfl (fun ρ Q X hρ hq => sem_load1 (hρ _ _ rfl) e1 hq) ?_
  refine TR.val hk rfl rfl (fun ρ Q X hρ hq => sem_buildS (cells := #[]) hρ rfl rfl hq) ?_
  exact tellsG T.run rfl rfl rfl (acc_same γ.p i).2.2.1 (others_over T) p0 (ut_same _ _ _) (fun a ka => quits_end rfl rfl ka.defers hd (.inl rfl))
set_option maxHeartbeats 1000000 in
set_option maxRecDepth 8000 in
theorem stop_okG (hX : X.Ok) {a1 : Act} {todo : List Item} {rb bx : Nat} (hd : a1.defers = []) (T : Stp X i γ h) (hb : bx = γ.p.bx i) (hb' : rb = γ.p.br i) :
    Runs Try.prog false (SitT Try.prog (PX X) (i + 1)) (EndT Try.prog (PX X) (i + 1)) (G (Frame.enter Try.prog 143 #[ptr rb, ptr bx] .deferred) [{ (fb 142 .deferred).at a1 todo with mode := .panicking [{ v := stopV, recovered := false }] }, rootFr Try.prog]) h ⟨0, γ⟩ := by
  subst hb hb'
  have hk : CallKind.deferred ≠ .early := by decide
  obtain ⟨v, t, o, c, b, n, w, y, k, hat, hrow⟩ := T.row
  obtain ⟨p0, e1, e0⟩ := T.ends hX
  obtain ⟨s, M, g⟩ := T.P.held.gi
  have w0 : hcell h ⟨γ.p.bx i, 0, none⟩ = some (ptr (γ.p.tb i)) := hcell_of (g.bxAt T.P.lt) rfl
  have w1 : hcell h ⟨γ.p.br i, 0, none⟩ = some (ptr γ.p.R) := hcell_of (g.brAt T.P.lt) rfl
  have hrun := g.runAt
  rw [T.stops] at hrun
  have w2 : hcell h ⟨γ.p.R, 6, none⟩ = some (.bool true) := hcell_of hrun rfl
  have hst : ¬ (SitT Try.prog (PX X) (i + 1)).still γ ⟨γ.p.tb i, 13, none⟩ := by
    intro x
    have hi := g.all (.t i) T.P.lt
    rcases still_of T.P.run x with e | ⟨j, hji, hj, e | e⟩
    · injection e with _ e _; exact absurd e (by decide)
    · have hj' := g.all (.t j) hj
      injection e with e _ _
      exact g.ne hi.1 hj'.1 (fun y => hji (by injection y with y; exact y.symm)) (hi.2.1.trans (e.trans hj'.2.1.symm))
    · have hj' := g.all (.bx j) hj
      injection e with e _ _
      exact g.ne hi.1 hj'.1 nofun (hi.2.1.trans (e.trans hj'.2.1.symm))
  refine TK.start (n := 30) rfl rfl ?_
  repeat' refine TK.seq ?_
  refine TK.region ?_
  refine TR.recover1 rfl rfl rfl rfl rfl ?_
  refine TR.val hk rfl rfl (fun ρ Q X hρ hq => sem_assign (hρ _ _ rfl) hq) ?_
  refine TR.done (TK.seq (TK.region ?_))
  refine TR.val hk rfl rfl (fun ρ Q X hρ hq => sem_move (hρ _ _ rfl) hq) ?_
  refine TR.val hk rfl rfl (fun ρ Q X hρ hq => sem_neqIf (b := true) (hρ _ _ rfl) (hρ _ _ rfl) (.inr ⟨_, _, rfl, rfl⟩) hq) ?_
  refine TR.val hk rfl rfl (fun ρ Q X hρ hq => sem_move (hρ _ _ rfl) hq) ?_
  refine TR.val hk rfl rfl (fun ρ Q X hρ hq => sem_load1 (hρ _ _ rfl) w1 hq) ?_
  refine TR.val hk rfl rfl (fun ρ Q X hρ hq => sem_nilCheck (hρ _ _ rfl) hq) ?_
  refine TR.val hk rfl rfl (fun ρ Q X hρ hq => sem_fieldAddr (hρ _ _ rfl) hq) ?_
  refine TR.val hk rfl rfl (fun ρ Q X hρ hq => sem_load1 (hρ _ _ rfl) w2 hq) ?_
  refine TR.val hk rfl rfl (fun ρ Q X hρ hq => sem_notB (hρ _ _ rfl) hq) ?_
  refine TR.val (v := .bool false) hk rfl rfl (fun ρ Q X hρ hq => sem_pick (b := true) (hρ _ _ rfl) (by show ρ _ = _; exact hρ _ _ rfl) hq) ?_
  refine TR.done (TK.cond (t := false) rfl (TK.skip (TK.seq (TK.region ?_))))
  refine TR.val hk rfl rfl (fun ρ Q X hρ hq => sem_load1 (hρ _ _ rfl) w0 hq) ?_
  refine TR.val hk rfl rfl (fun ρ Q X hρ hq => sem_nilCheck (hρ _ _ rfl) hq) ?_
  refine TR.val hk rfl rfl (fun ρ Q X hρ hq => sem_fieldAddr (hρ _ _ rfl) hq) ?_
  refine TR.unit (h' := hset h ⟨γ.p.tb i, 13, none⟩ (.bool true)) hk rfl (fun ρ Q X hρ hq => sem_store1 (hρ _ _ rfl) (hρ _ _ rfl) (by simp [OneCell]) ⟨_, hcell_of hrow rfl⟩ (hfroz_of hrow) hst hq) ?_
  refine TR.done (TK.region ?_)
  refine TR.val hk rfl rfl (fun ρ Q X hρ hq => sem_load1 (hρ _ _ rfl) e0 hq) ?_
  refine TR.val hk rfl rfl (fun ρ Q X hρ hq => sem_nilCheck (hρ _ _ rfl) hq) ?_
  refine TR.val hk rfl rfl (fun ρ Q X hρ hq => sem_fieldAddr (hρ _ _ rfl) hq) ?_
  refine TR.val hk rfl rfl (fun ρ Q X hρ hq => sem_load1 (hρ _ _ rfl) e1 hq) ?_
  refine TR.val hk rfl rfl (fun ρ Q X hρ hq => sem_buildS (cells := #[]) hρ rfl rfl hq) ?_
  exact tellsG (γ₁ := { γ with p := { γ.p with gone := ut γ.p.gone i true } }) T.P.run rfl rfl rfl rfl (others_stop hX) p0 (ut_same _ _ _) (fun a ka => quits_end (b1 := 142) (b2 := 143) (a1 := a1) (todo := todo) (mode := .panicking [{ v := stopV, recovered := true }]) rfl rfl ka.defers hd (.inr ⟨_, rfl⟩))
def Body (X : Us) (i : Nat) (b : FuncId) (cap : Array Value) : Prop :=
  ∀ h γ, Thr X i γ γ.p.u [] h -> γ.p.st i = .born -> ownOf i γ.p.log = [] -> CallW Try.prog false (SitT Try.prog (PX X) (i + 1)) b (#[ptr (γ.p.tb i)] ++ cap) h ⟨0, γ⟩
    (RetP (fun _ h' δ' => ∃ γ' u L, δ' = ⟨0, γ'⟩ /\ Along X i γ.p γ'.p /\ Thr X i γ' u L h' /\ X.Q i (ownOf i (γ'.p.acc i).log) .over u /\ X.J (γ'.p.acc i).log u (γ'.p.acc i).val)
      (fun ps h' δ' => ∃ γ', δ' = ⟨0, γ'⟩ /\ Along X i γ.p γ'.p /\ Stp X i γ' h' /\ ps = [{ v := stopV, recovered := false }]))
theorem thr_born {γ : GG X} {h : Hp} (hX : X.Ok) (hP : P1 X i γ h) (hb : γ.p.st i = .born) (hL : γ.p.prv i = []) : Thr X i γ γ.p.u [] h := by
  refine ⟨hP.run, hP.lt, hP.live, hP.born hb, hP.was, ?_, hP.held.I, hP.held.J, hP.held.Q, fun _ _ => hX.vrefl _ _, hP.held.upd, hP.len (hP.born hb)⟩
  rw [acc_born _ _ hb]
  have : ut γ.p.prv i [] = γ.p.prv := by rw [<- hL]; exact ut_self _ _
  rw [this]
  exact hP.held.gi
set_option maxHeartbeats 1000000 in
set_option maxRecDepth 8000 in
theorem childG (hX : X.Ok) {W : Nat -> Prop} {ns : List Nat} {s : Sls} {M : Mem Nm} {b : FuncId} {cap : Array Value} [HasBody Try.prog b] (g : GI X W γ.p ns s M h) (hi : i < γ.p.num) (hl : γ.p.gone i = false) (hb : γ.p.st i = .born) (hL : γ.p.prv i = []) (ho : ownOf i γ.p.log = []) (hf : γ.p.fn i = .func (.func b) #[] cap)
    (hne : ∀ x, x ≠ i + 1 -> x < γ.p.num + 1 -> (PX X).ch γ x ≠ some (γ.p.wk i)) (hbody : Body X i b cap) :
    SitsAt Try.prog (PX X) (i + 1) γ h (born Try.prog { target := .fn (.func 142) #[ptr (γ.p.br i), ptr (γ.p.bx i), ptr (γ.p.bf i)], args := #[] })
      (Runs Try.prog false (SitT Try.prog (PX X) (i + 1)) (EndT Try.prog (PX X) (i + 1))) := by
  have hB : ∀ a, ((PX X).cells γ (i + 1) a).isSome = true -> a.block < γ.p.tb i + γ.p.bx i + 1 := fun a ha => by
    change (cT γ i a).isSome = true at ha
    unfold cT at ha
    split at ha
    · rename_i e; rw [e]; dsimp only; omega
    · split at ha
      · rename_i e; rw [e]; dsimp only; omega
      · cases ha
  have hx : γ.p.bx i ≠ γ.p.tb i := by
    have x1 := g.all (.bx i) hi
    have x2 := g.all (.t i) hi
    exact fun e => g.ne x1.1 x2.1 nofun (x1.2.1.trans (e.trans x2.2.1.symm))
  have k0 : (PX X).cells γ (i + 1) ⟨γ.p.bx i, 0, none⟩ = some (ptr (γ.p.tb i)) := by
    show cT γ i _ = _
    unfold cT
    rw [if_neg (by simp), if_pos rfl]
  have k1 : (PX X).cells γ (i + 1) ⟨γ.p.tb i, 2, none⟩ = some (.chan (some (γ.p.wk i))) := by
    show cT γ i _ = _
    unfold cT
    rw [if_pos rfl]
  have hk : CallKind.deferred ≠ .early := by decide
  obtain ⟨v, a, hat, hrow⟩ := g.thrAt hi
  refine Way.sits (main := false) (c := γ.p.wk i) (B := γ.p.tb i + γ.p.bx i + 1) rfl (by show (if γ.p.gone i = true then none else some (γ.p.wk i)) = _; rw [hl]; rfl) (fun a v hv => ?_) (g.wkAt hi) hne (Way.born hB (Way.enter (n := 14) rfl rfl ?_))
  · change cT γ i a = some v at hv
    unfold cT at hv
    split at hv
    · rename_i e; rw [e]; cases hv; exact hcell_of hrow rfl
    · split at hv
      · rename_i e; rw [e]; cases hv; exact hcell_of (g.bxAt hi) rfl
      · cases hv
  refine EY.seq hB (EY.region hB ?_)
  refine RY.makeFunc hB hk rfl rfl (fun ρ hρ => ⟨map_ofL hρ (vs := []) rfl, map_ofL hρ (vs := [ptr (γ.p.br i), ptr (γ.p.bx i)]) rfl⟩) ?_
  refine RY.defer (dd := { target := .fn (.func 143) #[ptr (γ.p.br i), ptr (γ.p.bx i)], args := #[] }) hB hk rfl (fun ρ hρ => ?_) ?_
  · show SemR _ _ (Deferred.ofValue (ρ (.tmp 3)) ((#[] : Array Operand).map ρ) >>= fun d => pure (Next.defer d)) _
    rw [hρ (.tmp 3) _ rfl]
    show Next.defer { target := .fn (.func 143) #[ptr (γ.p.br i), ptr (γ.p.bx i)], args := #[] ++ (#[] : Array Operand).map ρ } = _
    simp
  refine RY.done hB (EY.seq hB (EY.region hB ?_))
  refine RY.load1 hB hk rfl rfl rfl k0 ?_
  refine RY.nilCheck hB hk rfl rfl rfl ?_
  refine RY.fieldAddr hB hk rfl rfl rfl ?_
  refine RY.load1 hB hk rfl rfl rfl k1 ?_
  refine RY.recv (Und.out (P := Try.prog)) hB hk rfl rfl rfl fun rest hr a ka γ₂ h₂ hR hP => ?_
  refine (?_ : TR Try.prog false (SitT Try.prog (PX X) (i + 1)) (EndT Try.prog (PX X) (i + 1)) _ _ .deferred _ _ _ _ _ _ h₂ ⟨0, γ₂⟩) rest hr a ka
  have hV : View X i γ.p γ₂.p := hR
  have hP1 : P1 X i γ₂ h₂ := hP
  have T : Thr X i γ₂ γ₂.p.u [] h₂ := thr_born hX hP1 (hV.st.trans hb) (hV.prv.trans hL)
  obtain ⟨s2, M2, g2⟩ := hP1.held.gi
  have wf : hcell h₂ ⟨γ.p.bf i, 0, none⟩ = some (.func (.func b) #[] cap) := by
    have := g2.bfAt hP1.lt
    rw [hV.bf, hV.fn, hf] at this
    exact hcell_of this rfl
  have w0 : hcell h₂ ⟨γ.p.bx i, 0, none⟩ = some (ptr (γ.p.tb i)) := by
    have := g2.bxAt hP1.lt
    rw [hV.bx, hV.tb] at this
    exact hcell_of this rfl
  refine TR.done (TK.seq (TK.region ?_))
  refine TR.val hk rfl rfl (fun ρ Q X hρ hq => sem_load1 (hρ _ _ rfl) wf hq) ?_
  refine TR.val hk rfl rfl (fun ρ Q X hρ hq => sem_neqV (r := false) (hρ _ _ rfl) (hρ _ _ rfl) rfl hq) ?_
  refine TR.done (TK.cond (t := true) rfl (TK.region ?_))
  refine TR.val hk rfl rfl (fun ρ Q X hρ hq => sem_load1 (hρ _ _ rfl) wf hq) ?_
  refine TR.val hk rfl rfl (fun ρ Q X hρ hq => sem_load1 (hρ _ _ rfl) w0 hq) ?_
  have hbd := hbody h₂ γ₂ T (hV.st.trans hb) (hV.own.trans ho)
  rw [hV.tb] at hbd
  refine TR.call hk rfl rfl (fun ρ Q X hρ hq => semW_callF rfl (hρ _ _ rfl) (map_ofL hρ (vs := [ptr (γ.p.tb i)]) rfl) (by rw [Array.empty_append]; exact hq)) hbd ?_ ?_
  · rintro v h₃ δ₃ ⟨γ', u', L', rfl, al, T', hQ, hJ⟩
    refine TR.done (TK.done (TU.defer (by simp) fun a todo ka => ?_))
    exact over_okG hX ka.defers T' (hV.bx.symm.trans al.bx.symm) hQ hJ
  · rintro ps h₃ δ₃ ⟨γ', rfl, al, T', rfl⟩
    refine TU.defer (by simp) fun a todo ka => ?_
    exact stop_okG hX ka.defers T' (hV.bx.symm.trans al.bx.symm) (hV.br.symm.trans al.br.symm)
end
end
section
open Go Go.TJ Go.Conc Go.Proofs
section
variable {X : Us} {W : Nat -> Prop} {p : PS X.U} {ns : List Nat} {s : Sls} {M : Mem Nm} {h : Hp} {γ : GG X} {j : Nat}
def Mine (X : Us) (p0 p : PS X.U) : Prop := (∃ a b c, p = { p0 with went := a, rdy := b, stops := c }) \/ (p0.num = 0 /\ p.num = 0)
theorem Mine.refl (p : PS X.U) : Mine X p p := .inl ⟨p.went, p.rdy, p.stops, rfl⟩
theorem Mine.num {p0 : PS X.U} (m : Mine X p0 p) : p.num = p0.num := by
  rcases m with ⟨a, b, c, rfl⟩ | ⟨h1, h2⟩
  · rfl
  · rw [h1, h2]
theorem Mine.more {p0 p' : PS X.U} (m : Mine X p0 p) {a b : List Nat} {c : Bool} (e : p' = { p with went := a, rdy := b, stops := c }) : Mine X p0 p' := by
  subst e
  rcases m with ⟨_, _, _, rfl⟩ | ⟨h1, h2⟩
  · exact .inl ⟨a, b, c, rfl⟩
  · exact .inr ⟨h1, h2⟩
theorem Mine.view (hX : X.Ok) {p0 : PS X.U} (m : Mine X p0 p) {x : Nat} (hx : x < p0.num) : View X x p0 p := by
  rcases m with ⟨a, b, c, rfl⟩ | ⟨h1, _⟩
  · exact ⟨Nat.le_refl _, rfl, rfl, rfl, rfl, rfl, rfl, rfl, rfl, rfl, rfl, rfl, rfl, hX.vrefl _ _⟩
  · omega
theorem stillM_of {a : Addr} (x : (PX X).still 0 γ a) : ∃ j, j < γ.p.num /\ γ.p.gone j = false /\ (a = ⟨γ.p.tb j, 2, none⟩ \/ a = ⟨γ.p.bx j, 0, none⟩) := by
  obtain ⟨j, h1, h2, h3, h4⟩ := x
  cases j with
  | zero => exact absurd rfl h1
  | succ j =>
    change (cT γ j a).isSome = true at h4
    change (if γ.p.gone j = true then none else some (γ.p.wk j)).isSome = true at h3
    have hj : j < γ.p.num := Nat.lt_of_succ_lt_succ h2
    have hg : γ.p.gone j = false := by
      cases e : γ.p.gone j with
      | false => rfl
      | true => rw [e] at h3; cases h3
    refine ⟨j, hj, hg, ?_⟩
    unfold cT at h4
    split at h4
    · rename_i e; exact .inl e
    · split at h4
      · rename_i e; exact .inr e
      · cases h4
theorem stillM_nm (hv : Mine X γ.p p) (g : GI X W p ns s M h) {k : Nm} (hk : M.ok k) (hne : ∀ j, k ≠ .t j /\ k ≠ .bx j) {c : Nat} : ¬ (SitM Try.prog (PX X)).still γ ⟨M.B k, c, none⟩ := by
  intro y
  obtain ⟨j, hj, _, e⟩ := stillM_of y
  obtain ⟨a, b, d, rfl⟩ := hv.resolve_right (fun x => by omega)
  rcases e with e | e
  · have := g.all (.t j) hj
    refine g.ne hk this.1 (hne j).1 ?_
    rw [this.2.1]; injection e with e
  · have := g.all (.bx j) hj
    refine g.ne hk this.1 (hne j).2 ?_
    rw [this.2.1]; injection e with e
theorem stillM_out (hv : Mine X γ.p p) (g : GI X W p ns s M h) {b : Nat} (hb : ∀ k, M.ok k -> M.B k ≠ b) {c : Nat} : ¬ (SitM Try.prog (PX X)).still γ ⟨b, c, none⟩ := by
  intro y
  obtain ⟨j, hj, _, e⟩ := stillM_of y
  obtain ⟨a, b', d, rfl⟩ := hv.resolve_right (fun x => by omega)
  rcases e with e | e
  · have := g.all (.t j) hj
    exact hb _ this.1 (this.2.1.trans (by injection e with e; exact e.symm))
  · have := g.all (.bx j) hj
    exact hb _ this.1 (this.2.1.trans (by injection e with e; exact e.symm))
theorem stillM_new (hv : Mine X γ.p p) (g : GI X W p ns s M h) {b : Nat} (hb : h.size <= b) {c : Nat} : ¬ (SitM Try.prog (PX X)).still γ ⟨b, c, none⟩ :=
  stillM_out hv g (fun k hk e => by have := g.lt hk; omega)
def Ours (X : Us) (p : PS X.U) (M : Mem Nm) (b : Nat) : Prop := (∃ k, M.ok k /\ M.B k = b) \/ X.isC b \/ X.Dom p.u b \/ ∃ i, i < p.num /\ ∃ q, q ∈ p.prv i /\ q.1 = b
theorem GI.ours (g : GI X W p ns s M h) : GI X (Ours X p M) p ns s M h :=
  ⟨g.rep, g.all, fun k hk => .inl ⟨k, hk, rfl⟩, fun b hb => ⟨(g.cel b hb).1, .inr (.inl hb)⟩, g.apart, fun b hb => ⟨(g.dom b hb).1, .inr (.inr (.inl hb))⟩, g.num, g.isin, fun i hi q hq => ⟨(g.prv i hi q hq).1, .inr (.inr (.inr ⟨i, hi, q, hq, rfl⟩)), (g.prv i hi q hq).2.2⟩, g.cross⟩
theorem turned_same {was p : PS X.U} {i : Nat} (x : Turned X was p i) : p.R = was.R /\ p.mb = was.mb /\ p.num = was.num /\ p.fl = was.fl /\ p.tb = was.tb /\ p.wk = was.wk /\ p.sd = was.sd /\ p.bx = was.bx /\ p.bf = was.bf /\ p.br = was.br /\ p.fn = was.fn /\ p.went = was.went /\ p.rdy = was.rdy /\ p.stops = was.stops := by
  rcases x with ⟨_, u, L, t, rfl, _⟩ | ⟨_, rfl⟩
  · obtain ⟨a1, a2, a3, a4, a5, a6, a7, a8, a9, a10, a11, a12, a13, a14, a15, a16, a17, a18⟩ := acc_same was i
    exact ⟨a1, a2, a3, a18, a4, a5, a6, a7, a8, a9, a10, a14, a15, a16⟩
  · exact ⟨rfl, rfl, rfl, rfl, rfl, rfl, rfl, rfl, rfl, rfl, rfl, rfl, rfl, rfl⟩
set_option maxHeartbeats 1000000 in
set_option maxRecDepth 8000 in
theorem goesG (hX : X.Ok) (hv : Mine X γ.p p) (g : GI X W p (nums p.log) s M h) (hI : X.I p.u h) (hJ : X.J p.log p.u p.val) (hQ : ∀ x, X.Q x (ownOf x p.log) (p.st x) p.u) (hj : j < p.num) (hl : p.gone j = false) (hlen : p.stops = false -> p.log.length < 65536) (hbn : p.st j = .born -> p.stops = false) :
    CallW Try.prog true (SitM Try.prog (PX X)) 112 #[ptr (p.tb j)] h ⟨0, γ⟩ (Ret fun _ h' δ' => ∃ γ', δ' = ⟨0, γ'⟩ /\ γ'.was = p /\ γ'.base = h /\ γ'.W = W /\ γ'.run = j /\ P0 X γ' h') := by
  have hB : ∀ a, (cM { p := p, was := p, base := h, W := W, run := j } a).isSome = true -> a.block < p.tb j + 1 := fun a ha => by
    unfold cM at ha
    split at ha
    · rename_i e; rw [e]; exact Nat.lt_succ_self _
    · cases ha
  obtain ⟨v, a, hat, hrow⟩ := g.thrAt hj
  have w1 : hcell h ⟨p.tb j, 2, none⟩ = some (.chan (some (p.wk j))) := hcell_of hrow rfl
  have w2 : hcell h ⟨p.tb j, 3, none⟩ = some (.chan (some (p.sd j))) := hcell_of hrow rfl
  clear hrow hat
  have hview := fun {x} => hv.view hX (x := x)
  have hv := hv.resolve_right (fun x => by omega)
  have hvn : p.num = γ.p.num /\ p.gone = γ.p.gone /\ p.wk = γ.p.wk /\ p.tb = γ.p.tb /\ p.bx = γ.p.bx := by
    obtain ⟨a, b, c, rfl⟩ := hv
    exact ⟨rfl, rfl, rfl, rfl, rfl⟩
  obtain ⟨v1, v2, v3, v4, v5⟩ := hvn
  refine CallW.start (n := 12) rfl rfl ?_
  (repeat (first | refine EK.seq ?_ | refine EK.region ?_ | refine ER.move rfl rfl rfl ?_ | refine ER.nilCheck rfl rfl rfl ?_ | refine ER.fieldAddr rfl rfl rfl ?_))
  refine ER.load1 rfl rfl rfl w1 ?_
  refine ER.buildS (cells := #[]) rfl rfl rfl rfl ?_
  refine ER.gives (X := PX X) (i := 0) (j := j + 1) (c := p.wk j) (c' := p.sd j) (B := p.tb j + 1) (γ₁ := { p := p, was := p, base := h, W := W, run := j }) rfl (fun _ _ _ _ x => Or.inl ⟨j + 1, x⟩) rfl rfl rfl rfl (Nat.succ_ne_zero _) ?a1 ?a2 ?a3 ?a4 ?a5 rfl ?a6 (g.sdAt hj) ?a7 ?way
  case a1 => show j + 1 < γ.p.num + 1; rw [<- v1]; exact Nat.succ_lt_succ hj
  case a2 => show (if γ.p.gone j = true then none else some (γ.p.wk j)) = _; rw [<- v2, <- v3, hl]; rfl
  case a3 => show p.num + 1 = γ.p.num + 1; rw [v1]
  case a4 =>
    intro x hx hlt
    cases x with
    | zero => exact absurd rfl hx
    | succ k =>
      refine ⟨?_, ?_, hview (Nat.lt_of_succ_lt_succ hlt)⟩
      · show (if p.gone k = true then none else some (p.wk k)) = (if γ.p.gone k = true then none else some (γ.p.wk k)); rw [v2, v3]
      · show cT _ k = cT γ k
        funext a
        show (if a = ⟨p.tb k, 2, none⟩ then some (Value.chan (some (p.wk k))) else if a = ⟨p.bx k, 0, none⟩ then some (.pointer (some ⟨p.tb k, 0, none⟩)) else none) = (if a = ⟨γ.p.tb k, 2, none⟩ then some (Value.chan (some (γ.p.wk k))) else if a = ⟨γ.p.bx k, 0, none⟩ then some (.pointer (some ⟨γ.p.tb k, 0, none⟩)) else none)
        rw [v3, v4, v5]
  case a5 => exact ⟨rfl, hj, hl, rfl, ⟨⟨s, M, g.monoW (fun _ x => .inl x)⟩, hI, hJ, hQ, Upd.refl _ _⟩, hlen, hbn⟩
  case a6 =>
    intro a v hv
    change cM _ a = some v at hv
    unfold cM at hv
    split at hv
    · rename_i e; rw [e]; cases hv; exact w2
    · cases hv
  case a7 =>
    intro x hx hlt e
    cases x with
    | zero => exact absurd rfl hx
    | succ k =>
      change (if p.gone k = true then none else some (p.wk k)) = some (p.sd j) at e
      split at e
      · cases e
      · have e' := Option.some.inj e
        have wi := g.all (.wk k) (Nat.lt_of_succ_lt_succ hlt)
        have si := g.all (.sd j) hj
        exact g.ne wi.1 si.1 nofun (wi.2.1.trans (e'.trans si.2.1.symm))
  case way =>
    intro kind hk cs
    refine RY.done hB (EY.region hB ?_)
    refine RY.move hB hk rfl rfl rfl ?_
    refine RY.nilCheck hB hk rfl rfl rfl ?_
    refine RY.fieldAddr hB hk rfl rfl rfl ?_
    refine RY.load1 (v := .chan (some (p.sd j))) hB hk rfl rfl rfl (by show cM _ _ = _; unfold cM; rw [if_pos rfl]) ?_
    refine RY.recvE hB hk rfl rfl rfl ?_
    intro γ₂ h₂ hR hP
    obtain ⟨r1, r2, r3, r4⟩ := hR
    (repeat refine ER.done ?_)
    exact EK.done (EU.ret0 rfl ⟨γ₂, rfl, r1, r2, r3, r4, hP⟩)
end
end
section
open Go Go.TJ Go.Conc Go.Proofs
def PS.newT {U : Type} (p : PS U) (t w sd bx bf br : Nat) (fv : Value) : PS U := { p with num := p.num + 1, tb := ut p.tb p.num t, wk := ut p.wk p.num w, sd := ut p.sd p.num sd, bx := ut p.bx p.num bx, bf := ut p.bf p.num bf, br := ut p.br p.num br, fn := ut p.fn p.num fv, st := ut p.st p.num .born, gone := ut p.gone p.num false, prv := ut p.prv p.num [] }
section
variable {X : Us} {W : Nat -> Prop} {p : PS X.U} {ns : List Nat} {s : Sls} {M : Mem Nm} {h : Hp} {n0 : Nat}
structure NewNm (p : PS X.U) (M : Mem Nm) (t w sd bx bf br : Nat) (fv : Value) : Prop where
  nt : M.ok (.t p.num) /\ M.B (.t p.num) = t /\ M.O (.t p.num) = thrO p.R p.num w sd (.pointer none) (accL 0 0 0 0 0 0 0 false) false
  nwk : M.ok (.wk p.num) /\ M.B (.wk p.num) = w /\ M.O (.wk p.num) = chan0
  nsd : M.ok (.sd p.num) /\ M.B (.sd p.num) = sd /\ M.O (.sd p.num) = chan0
  nbx : M.ok (.bx p.num) /\ M.B (.bx p.num) = bx /\ M.O (.bx p.num) = .cells #[ptr t] 30 (0, 0)
  nbf : M.ok (.bf p.num) /\ M.B (.bf p.num) = bf /\ M.O (.bf p.num) = .cells #[fv] 35 (0, 0)
  nbr : M.ok (.br p.num) /\ M.B (.br p.num) = br /\ M.O (.br p.num) = .cells #[ptr p.R] 132 (0, 0)
theorem put_at {M : Mem Nm} {k : Nm} {b : Nat} {o : Obj} : (M.put k b o).ok k /\ (M.put k b o).B k = b /\ (M.put k b o).O k = o := ⟨.inl rfl, ut_same M.B _ _, ut_same M.O _ _⟩
theorem put_ne {M : Mem Nm} {k k' : Nm} {b b' : Nat} {o o' : Obj} (hk : k' ≠ k) (x : M.ok k' /\ M.B k' = b' /\ M.O k' = o') : (M.put k b o).ok k' /\ (M.put k b o).B k' = b' /\ (M.put k b o).O k' = o' := ⟨.inr x.1, (ut_ne M.B _ hk).trans x.2.1, (ut_ne M.O _ hk).trans x.2.2⟩
theorem GI.newThr (g : GI X W p ns s M h) {t w sd bx bf br : Nat} {fv : Value} (o1 : h[t]? = some (thrO p.R p.num w sd (.pointer none) (accL 0 0 0 0 0 0 0 false) false)) (o2 : h[w]? = some chan0) (o3 : h[sd]? = some chan0) (o4 : h[bx]? = some (.cells #[ptr t] 30 (0, 0))) (o5 : h[bf]? = some (.cells #[fv] 35 (0, 0))) (o6 : h[br]? = some (.cells #[ptr p.R] 132 (0, 0)))
    (hne : w ≠ sd) (f1 : n0 <= t) (f2 : n0 <= w) (f3 : n0 <= sd) (f4 : n0 <= bx) (f5 : n0 <= bf) (f6 : n0 <= br) (old : ∀ k, M.ok k -> M.B k < n0) (oC : ∀ b, X.isC b -> b < n0) (oD : ∀ b, X.Dom p.u b -> b < n0) (oP : ∀ i, i < p.num -> ∀ q, q ∈ p.prv i -> q.1 < n0) (hW : ∀ b, n0 <= b -> W b) :
    ∃ M', GI X W p ns s M' h /\ NewNm p M' t w sd bx bf br fv := by
  have irr : ∀ {P : Prop}, p.num < p.num -> P := fun x => absurd x (Nat.lt_irrefl _)
  have nC : ∀ b, n0 <= b -> ¬ X.isC b := fun b hb x => by have := oC b x; omega
  have nD : ∀ b, n0 <= b -> ¬ X.Dom p.u b := fun b hb x => by have := oD b x; omega
  have nP : ∀ b, n0 <= b -> ∀ i, i < p.num -> ∀ q, q ∈ p.prv i -> q.1 ≠ b := fun b hb i hi q hq e => by have := oP i hi q hq; omega
  have obj : ∀ {a b : Nat} {x y : Obj}, h[a]? = some x -> h[b]? = some y -> x ≠ y -> a ≠ b := fun {a b x y} ha hb hxy e => hxy (Option.some.inj (ha.symm.trans ((congrArg (h[·]?) e).trans hb)))
  have bk : ∀ {N : Mem Nm} {k : Nm} {b : Nat} {o : Obj} {c : Nat}, (∀ k', N.ok k' -> N.B k' ≠ c) -> b ≠ c -> ∀ k', (N.put k b o).ok k' -> (N.put k b o).B k' ≠ c := fun {N k b o c} hN hb k' hk' => by
    by_cases e : k' = k
    · subst e; rw [show (N.put k' b o).B k' = b from ut_same N.B _ _]; exact hb
    · rw [show (N.put k b o).B k' = N.B k' from ut_ne N.B _ e]; exact hN k' (hk'.resolve_left e)
  have b0 : ∀ c, n0 <= c -> ∀ k', M.ok k' -> M.B k' ≠ c := fun c hc k' hk' e => by have := old k' hk'; omega
  have g1 := g.putAt (k := .t p.num) o1 (fun k' hk' _ => b0 t f1 k' hk') (hW _ f1) (nC _ f1) (nD _ f1) (nP _ f1) irr
  have g2 := g1.putAt (k := .wk p.num) o2 (fun k' hk' _ => bk (b0 w f2) (obj o1 o2 nofun) k' hk') (hW _ f2) (nC _ f2) (nD _ f2) (nP _ f2) irr
  have g3 := g2.putAt (k := .sd p.num) o3 (fun k' hk' _ => bk (bk (b0 sd f3) (obj o1 o3 nofun)) hne k' hk') (hW _ f3) (nC _ f3) (nD _ f3) (nP _ f3) irr
  have g4 := g3.putAt (k := .bx p.num) o4 (fun k' hk' _ => bk (bk (bk (b0 bx f4) (obj o1 o4 (by unfold thrO; intro e; injection e with _ e _; revert e; decide))) (obj o2 o4 nofun)) (obj o3 o4 nofun) k' hk') (hW _ f4) (nC _ f4) (nD _ f4) (nP _ f4) irr
  have g5 := g4.putAt (k := .bf p.num) o5 (fun k' hk' _ => bk (bk (bk (bk (b0 bf f5) (obj o1 o5 (by unfold thrO; intro e; injection e with _ e _; revert e; decide))) (obj o2 o5 nofun)) (obj o3 o5 nofun)) (obj o4 o5 (by intro e; injection e with _ e _; revert e; decide)) k' hk') (hW _ f5) (nC _ f5) (nD _ f5) (nP _ f5) irr
  have g6 := g5.putAt (k := .br p.num) o6 (fun k' hk' _ => bk (bk (bk (bk (bk (b0 br f6) (obj o1 o6 (by unfold thrO; intro e; injection e with _ e _; revert e; decide))) (obj o2 o6 nofun)) (obj o3 o6 nofun)) (obj o4 o6 (by intro e; injection e with _ e _; revert e; decide))) (obj o5 o6 (by intro e; injection e with _ e _; revert e; decide)) k' hk') (hW _ f6) (nC _ f6) (nD _ f6) (nP _ f6) irr
  refine ⟨_, g6, ?_, ?_, ?_, ?_, ?_, put_at⟩
  · exact put_ne nofun (put_ne nofun (put_ne nofun (put_ne nofun (put_ne nofun put_at))))
  · exact put_ne nofun (put_ne nofun (put_ne nofun (put_ne nofun put_at)))
  · exact put_ne nofun (put_ne nofun (put_ne nofun put_at))
  · exact put_ne nofun (put_ne nofun put_at)
  · exact put_ne nofun put_at
theorem nm_newT (g : GI X W p ns s M h) {t w sd bx bf br : Nat} {fv : Value} (N : NewNm p M t w sd bx bf br fv) (s' : Value) (k' : Nm) (h1 : k' ≠ .thr) (h2 : k' ≠ .run) : NmOk (p.newT t w sd bx bf br fv) ns { s with T := s' } M k' := by
  have y := g.all k'
  have sp : ∀ {i}, i < p.num + 1 -> i = p.num \/ (i < p.num /\ i ≠ p.num) := fun {i} hi => by omega
  cases k' with
  | thr => exact absurd rfl h1
  | run => exact absurd rfl h2
  | t i =>
    intro hi
    rcases sp hi with rfl | ⟨hl, hn⟩
    · refine ⟨N.nt.1, N.nt.2.1.trans (ut_same _ _ _).symm, .pointer none, accL 0 0 0 0 0 0 0 false, ?_, ?_⟩
      · show AtOk _ (ut p.st p.num .born p.num) _ _; rw [ut_same]; exact ⟨rfl, rfl⟩
      · show _ = thrO p.R p.num (ut p.wk p.num w p.num) (ut p.sd p.num sd p.num) _ _ (ut p.gone p.num false p.num)
        rw [ut_same, ut_same, ut_same]; exact N.nt.2.2
    · obtain ⟨y1, y2, v, a, y3, y4⟩ := y hl
      refine ⟨y1, y2.trans (ut_ne _ _ hn).symm, v, a, ?_, ?_⟩
      · show AtOk _ (ut p.st p.num .born i) _ _; rw [ut_ne _ _ hn]; exact y3
      · show _ = thrO p.R i (ut p.wk p.num w i) (ut p.sd p.num sd i) _ _ (ut p.gone p.num false i)
        rw [ut_ne _ _ hn, ut_ne _ _ hn, ut_ne _ _ hn]; exact y4
  | wk i =>
    intro hi
    rcases sp hi with rfl | ⟨hl, hn⟩
    · exact ⟨N.nwk.1, N.nwk.2.1.trans (ut_same _ _ _).symm, 0, N.nwk.2.2⟩
    · obtain ⟨y1, y2, y3⟩ := y hl; exact ⟨y1, y2.trans (ut_ne _ _ hn).symm, y3⟩
  | sd i =>
    intro hi
    rcases sp hi with rfl | ⟨hl, hn⟩
    · exact ⟨N.nsd.1, N.nsd.2.1.trans (ut_same _ _ _).symm, 0, N.nsd.2.2⟩
    · obtain ⟨y1, y2, y3⟩ := y hl; exact ⟨y1, y2.trans (ut_ne _ _ hn).symm, y3⟩
  | bx i =>
    intro hi
    rcases sp hi with rfl | ⟨hl, hn⟩
    · refine ⟨N.nbx.1, N.nbx.2.1.trans (ut_same _ _ _).symm, ?_⟩
      show _ = Obj.cells #[ptr (ut p.tb p.num t p.num)] _ _
      rw [ut_same]; exact N.nbx.2.2
    · obtain ⟨y1, y2, y3⟩ := y hl
      refine ⟨y1, y2.trans (ut_ne _ _ hn).symm, ?_⟩
      show _ = Obj.cells #[ptr (ut p.tb p.num t i)] _ _
      rw [ut_ne _ _ hn]; exact y3
  | bf i =>
    intro hi
    rcases sp hi with rfl | ⟨hl, hn⟩
    · refine ⟨N.nbf.1, N.nbf.2.1.trans (ut_same _ _ _).symm, ?_⟩
      show _ = Obj.cells #[ut p.fn p.num fv p.num] _ _
      rw [ut_same]; exact N.nbf.2.2
    · obtain ⟨y1, y2, y3⟩ := y hl
      refine ⟨y1, y2.trans (ut_ne _ _ hn).symm, ?_⟩
      show _ = Obj.cells #[ut p.fn p.num fv i] _ _
      rw [ut_ne _ _ hn]; exact y3
  | br i =>
    intro hi
    rcases sp hi with rfl | ⟨hl, hn⟩
    · exact ⟨N.nbr.1, N.nbr.2.1.trans (ut_same _ _ _).symm, N.nbr.2.2⟩
    · obtain ⟨y1, y2, y3⟩ := y hl; exact ⟨y1, y2.trans (ut_ne _ _ hn).symm, y3⟩
  | _ => exact y
end
end
section
open Go Go.TJ Go.Conc Go.Proofs
theorem ev_sub' {e env : Env} (hs : subE e env) {x : Operand} {v : Value} (hx : ev e x = some v) : ev env x = some v := by
  cases x with
  | tmp t => exact subE_look hs hx
  | const c => exact hx
  | global g => exact hx
  | func f => exact hx
section
variable {X : Us} {W : Nat -> Prop} {s : Sls} {M : Mem Nm} {h : Hp} {γ : GG X}
set_option maxHeartbeats 4000000 in
set_option maxRecDepth 8000 in
theorem beginG (hX : X.Ok) {p0 : PS X.U} (hv : Mine X γ.p p0) {b : FuncId} {cap : Array Value} [HasBody Try.prog b] (g : GI X W p0 (nums p0.log) s M h) (hI : X.I p0.u h) (hJ : X.J p0.log p0.u p0.val) (hQ : ∀ x, X.Q x (ownOf x p0.log) (p0.st x) p0.u) (hs : p0.stops = false) (hlog : p0.log = []) (hn : p0.num < 64) (hfl : p0.fl = p0.num) (hW : ∀ c, h.size <= c -> W c)
    (hbody : Body X p0.num b cap) (hQ0 : p0.st p0.num = .born) :
    CallW Try.prog true (SitM Try.prog (PX X)) 110 #[ptr p0.R, .func (.func b) #[] cap] h ⟨0, γ⟩ (Ret fun _ h' δ' => ∃ γ' t w sd bx bf br, δ' = ⟨0, γ'⟩ /\ γ'.was = { p0.newT t w sd bx bf br (.func (.func b) #[] cap) with fl := p0.fl + 1 } /\ γ'.W = W /\ γ'.run = p0.num /\ P0 X γ' h' /\ Upd W h h' /\ h.size <= γ'.base.size) := by
  obtain ⟨n, hnn⟩ : ∃ n, n = p0.num := ⟨_, rfl⟩
  obtain ⟨R, hRR⟩ : ∃ R, R = p0.R := ⟨_, rfl⟩
  have hrun := g.runAt
  have hthr := g.all .thr
  obtain ⟨aT, kT, eT⟩ := Mem.Sl.val hthr
  have hfell := g.all .fell
  obtain ⟨aF, kF, eF⟩ := Mem.Sl.val hfell
  have hnew : ∀ {c o}, h.size <= c -> ¬ (SitM Try.prog (PX X)).still γ ⟨c, o, none⟩ := fun {c o} hc => stillM_new hv g hc
  have hRs : ∀ o, ¬ (SitM Try.prog (PX X)).still γ ⟨R, o, none⟩ := fun o => by
    have x := g.all .run
    rw [hRR, <- x.2.1]; exact stillM_nm hv g x.1 (fun j => ⟨nofun, nofun⟩)
  have hTs : ∀ c o, blk s.T = some c -> ¬ (SitM Try.prog (PX X)).still γ ⟨c, o, none⟩ := fun c o hc => by
    obtain ⟨x1, x2⟩ := Mem.Sl.blk hthr hc
    rw [x2]; exact stillM_nm hv g x1 (fun j => ⟨nofun, nofun⟩)
  have hFs : ∀ c o, blk s.F = some c -> ¬ (SitM Try.prog (PX X)).still γ ⟨c, o, none⟩ := fun c o hc => by
    obtain ⟨x1, x2⟩ := Mem.Sl.blk hfell hc
    rw [x2]; exact stillM_nm hv g x1 (fun j => ⟨nofun, nofun⟩)
  rw [<- hRR] at hrun ⊢
  have hR0 : hcell h ⟨R, 0, none⟩ = some (.slice aT n kT) := by rw [hnn, <- eT]; exact hcell_of hrun rfl
  have hRlt := lt_of_get hrun
  refine CallW.start (n := 39) rfl rfl ?_
  clear hthr hfell
  (repeat (first | refine EK.seq ?_ | refine EK.region ?_ | refine ER.done ?_ | refine ER.assign rfl rfl rfl ?_ | refine ER.box rfl rfl rfl ?_))
  refine EK.regionAnyL (fun h' => hcell h' ⟨h.size, 0, none⟩ = some (ptr R) /\ hcell h' ⟨R, 0, none⟩ = some (.slice aT n kT)) 11 ?_
  have hZ : hcell ((h.push (.cells (ptr R).cells 132)).push (.cells (Value.func (.func b) #[] cap).cells 35)) ⟨h.size, 0, none⟩ = some (ptr R) /\ hcell ((h.push (.cells (ptr R).cells 132)).push (.cells (Value.func (.func b) #[] cap).cells 35)) ⟨R, 0, none⟩ = some (.slice aT n kT) :=
    ⟨hcell_push (hcell_of (get_push_new _ _) rfl), hcell_push (hcell_push hR0)⟩
  refine EA.tLoad 0 rfl (by kernel_rfl) rfl rfl rfl rfl (fun _ hz => hz.1) hZ ?_
  refine EA.tLoad 1 rfl (by kernel_rfl) rfl rfl rfl rfl (fun _ hz => hz.1) hZ ?_
  refine EA.tNil 2 rfl (by kernel_rfl) rfl rfl rfl rfl hZ ?_
  refine EA.tField 3 rfl (by kernel_rfl) rfl rfl rfl rfl hZ ?_
  refine EA.tLoad 4 rfl (by kernel_rfl) rfl rfl rfl rfl (fun _ hz => hz.2) hZ ?_
  refine EA.tLen1 5 rfl (by kernel_rfl) rfl rfl rfl rfl hZ ?_
  refine EA.listed (l' := lst false false false false false) (by kernel_rfl) ?_
  refine EA.chans2 (h0 := (h.push (.cells (ptr R).cells 132)).push (.cells (Value.func (.func b) #[] cap).cells 35)) (D := fun i => if i = 10 then 5 else i + 6) (e0 := fun i => if i = 2 then some (ptr h.size) else if i = 3 then some (ptr (h.size + 1)) else if i = 6 then some (ptr R) else if i = 11 then some (.int .i64 n) else none) (F := fun _ => none) (tc := 139) (ts := 144) (ta := 30)
    (cells := fun w q => #[ptr R, .int .i64 n, .chan (some w), .chan (some q), .pointer none, .int .i64 0, .int .i8 0, .int .i64 0, .int .i64 0, .int .i64 0, .int .i64 0, .int .i64 0, .bool false, .bool false])
    (by exact rfl) (by exact rfl) (by exact rfl) (by exact rfl) (by exact rfl) ?hr ?hD ?hDn ?he0 ?hZ ?hb ?fin 6 false false false false false _ _ rfl ?inv hZ
  case hr => intro a b c d e; cases a <;> cases b <;> cases c <;> cases d <;> cases e <;> kernel_rfl
  case hD => intro i j a1 a2 a3 a4 e; split at e <;> split at e <;> omega
  case hDn => intro i a1 a2; rcases (show i = 6 \/ i = 7 \/ i = 8 \/ i = 9 \/ i = 10 by omega) with rfl | rfl | rfl | rfl | rfl <;> rfl
  case he0 => intro i a1 a2; rcases (show i = 6 \/ i = 7 \/ i = 8 \/ i = 9 \/ i = 10 by omega) with rfl | rfl | rfl | rfl | rfl <;> rfl
  case hZ => exact fun h o x => ⟨hcell_push x.1, hcell_push x.2⟩
  case inv =>
    refine ⟨Made.none _, fun i v e => ?_, fun x => (by cases x), fun x => (by cases x), fun x => (by cases x), fun x => (by cases x), fun x => (by cases x), fun x => (by cases x), fun x => (by cases x)⟩
    split at e
    · rename_i e'; subst e'; exact e
    · split at e
      · rename_i e'; subst e'; rw [<- e, show h.size + 1 = (h.push (.cells (ptr R).cells 132)).size by simp]; rfl
      · split at e
        · rename_i e'; subst e'; exact e
        · split at e
          · rename_i e'; subst e'; exact e
          · cases e
  case hb =>
    intro env w q ho hw hs ρ h' Q X hρ hq
    have hsub : subE [(6, ptr R), (11, .int .i64 n), (12, .chan (some w)), (13, .chan (some q))] env := ⟨ho 6 _ rfl, ho 11 _ rfl, hw, hs, trivial⟩
    exact sem_buildS (env := [(6, ptr R), (11, .int .i64 n), (12, .chan (some w)), (13, .chan (some q))]) (fun x v hx => hρ x v (ev_sub' hsub hx)) rfl rfl hq
  case fin =>
    intro env h1 F I hz
    obtain ⟨w, q, t, f6, f7, f9, l9⟩ := I.d1 rfl
    obtain ⟨p, f10, l10⟩ := I.e1 rfl
    have hsub : subE [(2, ptr h.size), (3, ptr (h.size + 1)), (5, ptr p), (15, ptr t)] env := ⟨I.old 2 _ rfl, I.old 3 _ rfl, l10, l9, trivial⟩
    refine EA.sub hsub ?_
    obtain ⟨g6, b6⟩ := I.made.has _ _ _ f6
    obtain ⟨g7, b7⟩ := I.made.has _ _ _ f7
    obtain ⟨g9, b9⟩ := I.made.has _ _ _ f9
    obtain ⟨g10, b10⟩ := I.made.has _ _ _ f10
    have n67 : w ≠ q := fun e => absurd (I.made.inj 6 7 _ _ _ f6 (by rw [e]; exact f7)) (by decide)
    have n610 : w ≠ p := fun e => absurd (I.made.inj 6 10 _ _ _ f6 (by rw [e]; exact f10)) (by decide)
    have n710 : q ≠ p := fun e => absurd (I.made.inj 7 10 _ _ _ f7 (by rw [e]; exact f10)) (by decide)
    have n910 : t ≠ p := fun e => absurd (I.made.inj 9 10 _ _ _ f9 (by rw [e]; exact f10)) (by decide)
    simp only [Array.size_push] at g6 g7 g9 g10
    have uA : Upd (fun _ => False) h h1 := ((Upd.push h _).trans (Upd.push _ _)).trans I.made.upd
    have c1 : h1[h.size]? = some (.cells #[ptr R] 132 (0, 0)) := I.made.upd.get (get_push _ (get_push_new _ _)) (fun x => x)
    have c2 : h1[h.size + 1]? = some (.cells #[.func (.func b) #[] cap] 35 (0, 0)) := I.made.upd.get (by
      have := get_push_new (h.push (.cells (ptr R).cells 132)) (.cells (Value.func (.func b) #[] cap).cells 35)
      rw [Array.size_push] at this
      exact this) (fun x => x)
    have hno : ∀ {c o}, h.size <= c -> ¬ (SitM Try.prog (PX X)).still γ ⟨c, o, none⟩ := hnew
    refine EA.unitL (h' := hset h1 ⟨p, 0, none⟩ (ptr t)) 11 rfl (by kernel_rfl) rfl rfl rfl (fun ρ Q X hρ hq => sem_store1 (hρ _ _ rfl) (hρ _ _ rfl) ⟨nofun, nofun⟩ ⟨_, hcell_of b10 rfl⟩ (hfroz_of b10) (hno (by omega)) hq) ?_
    refine EA.done (by kernel_rfl) ?_
    rw [hset_block b10]
    have oldK : ∀ k, M.ok k -> M.B k < h.size := fun k hk => g.lt hk
    have oC : ∀ b, X.isC b -> b < h.size := fun b hb => lt_of_get (g.cel b hb).1
    have oD : ∀ b, X.Dom p0.u b -> b < h.size := fun b hb => (g.dom b hb).1
    have oP : ∀ i, i < p0.num -> ∀ q, q ∈ p0.prv i -> q.1 < h.size := fun i hi q hq => lt_of_get (g.prv i hi q hq).1
    have gA := (g.upd0 uA).loose (x := p) (fun k hk e => by have := oldK k hk; omega) (fun hc => by have := oC _ hc; omega) (fun i hi q hq e => by have := oP i hi q hq; omega) (.cells (#[.pointer none].setIfInBounds 0 (ptr t)) 30 (0, 0))
    have uB := uA.over (Upd.set (T := fun b => b = p) h1 p (.cells (#[.pointer none].setIfInBounds 0 (ptr t)) 30 (0, 0)) rfl) (fun b hb => by omega)
    have d6 := (get_set_ne (.cells (#[.pointer none].setIfInBounds 0 (ptr t)) 30 (0, 0)) (Ne.symm n610)).trans b6
    have d7 := (get_set_ne (.cells (#[.pointer none].setIfInBounds 0 (ptr t)) 30 (0, 0)) (Ne.symm n710)).trans b7
    have d9 := (get_set_ne (.cells (#[.pointer none].setIfInBounds 0 (ptr t)) 30 (0, 0)) (Ne.symm n910)).trans b9
    have d1 := (get_set_ne (.cells (#[.pointer none].setIfInBounds 0 (ptr t)) 30 (0, 0)) (show p ≠ h.size by omega)).trans c1
    have d2 := (get_set_ne (.cells (#[.pointer none].setIfInBounds 0 (ptr t)) 30 (0, 0)) (show p ≠ h.size + 1 by omega)).trans c2
    have d10 : (h1.setIfInBounds p (.cells (#[.pointer none].setIfInBounds 0 (ptr t)) 30 (0, 0)))[p]? = some (.cells #[ptr t] 30 (0, 0)) := get_set_same b10
    generalize h1.setIfInBounds p (.cells (#[.pointer none].setIfInBounds 0 (ptr t)) 30 (0, 0)) = h2 at gA uB d6 d7 d9 d1 d2 d10 ⊢
    rw [hRR] at d1
    have e9 : h2[t]? = some (thrO p0.R p0.num w q (.pointer none) (accL 0 0 0 0 0 0 0 false) false) := by rw [<- hRR, <- hnn]; exact d9
    obtain ⟨M1, gB, N⟩ := gA.newThr (n0 := h.size) e9 d6 d7 d10 d2 d1 n67 (by omega) (by omega) (by omega) (by omega) (by omega) (by omega) oldK oC oD oP hW
    rw [<- hRR] at d1
    clear hz c1 c2 b6 b7 b9 b10 uA I d6 d7 d9 e9 gA
    (repeat refine EK.seq ?_)
    have hrunB := gB.runAt
    rw [<- hRR] at hrunB
    have z1 : hcell h2 ⟨h.size, 0, none⟩ = some (ptr R) := hcell_of d1 rfl
    have z2 : hcell h2 ⟨R, 0, none⟩ = some (.slice aT n kT) := by rw [hnn, <- eT]; exact hcell_of hrunB rfl
    have z3 : hcell h2 ⟨p, 0, none⟩ = some (ptr t) := hcell_of d10 rfl
    refine EK.regionAnyL (fun h' => hcell h' ⟨h.size, 0, none⟩ = some (ptr R) /\ hcell h' ⟨R, 0, none⟩ = some (.slice aT n kT) /\ hcell h' ⟨p, 0, none⟩ = some (ptr t)) 10 ?_
    have hZ : hcell h2 ⟨h.size, 0, none⟩ = some (ptr R) /\ hcell h2 ⟨R, 0, none⟩ = some (.slice aT n kT) /\ hcell h2 ⟨p, 0, none⟩ = some (ptr t) := ⟨z1, z2, z3⟩
    refine EA.tLoad 0 rfl (by kernel_rfl) rfl rfl rfl rfl (fun _ hz => hz.1) hZ ?_
    refine EA.tLoad 1 rfl (by kernel_rfl) rfl rfl rfl rfl (fun _ hz => hz.1) hZ ?_
    refine EA.tNil 2 rfl (by kernel_rfl) rfl rfl rfl rfl hZ ?_
    refine EA.tField 3 rfl (by kernel_rfl) rfl rfl rfl rfl hZ ?_
    refine EA.tLoad 4 rfl (by kernel_rfl) rfl rfl rfl rfl (fun _ hz => hz.2.1) hZ ?_
    refine EA.tLoad 5 rfl (by kernel_rfl) rfl rfl rfl rfl (fun _ hz => hz.2.2) hZ ?_
    have hZ3 : _ /\ _ /\ _ := ⟨hcell_push (o := .cells #[ptr t] 30) z1, hcell_push (o := .cells #[ptr t] 30) z2, hcell_push (o := .cells #[ptr t] 30) z3⟩
    refine EA.val (v := .slice (some ⟨h2.size, 0, none⟩) 1 1) (h' := h2.push (.cells #[ptr t] 30)) 6 rfl (by kernel_rfl) rfl rfl rfl (fun ρ Q X hρ hq => sem_slice1 (sz := 1) hρ rfl (by omega) (by omega) rfl rfl hq) hZ3 ?_
    have gB2 := gB.upd0 (Upd.push h2 (.cells #[ptr t] 30))
    have uB2 := uB.trans (Upd.push h2 (.cells #[ptr t] 30))
    have hthr : M1.Sl .thr (.slice aT n kT) 30 1 n ((List.range n).map fun i => ptr (p0.tb i)) := by
      have := gB.all .thr
      rw [hnn, <- eT]; exact this
    have hsz2 := uB.size
    have hblk : ∀ c, blk (.slice aT n kT) = some c -> ∃ k, M.ok k /\ M.B k = c /\ ∀ j, k ≠ .t j /\ k ≠ .bx j := fun c hc => by
      have h0 : M.Sl .thr s.T 30 1 p0.num ((List.range p0.num).map fun i => ptr (p0.tb i)) := g.all .thr
      rw [eT, <- hnn] at h0
      obtain ⟨y1, y2⟩ := h0.blk hc
      exact ⟨_, y1, y2.symm, fun j => ⟨nofun, nofun⟩⟩
    refine EA.append1 (new := [ptr t]) 7 rfl (by kernel_rfl) rfl rfl rfl rfl rfl (hthr.slice gB2.rep) (get_push_new _ _) rfl (by simp [OneCell]) (by omega) (by omega) rfl (fun c o hc => ?_) ?_
    · obtain ⟨k, hk, e, hne⟩ := hblk c hc
      rw [<- e]; exact stillM_nm hv g hk hne
    intro s3 h3 sl3 u3 hb3
    have nb3 : ∀ c, (∀ k, M1.ok k -> k ≠ .thr -> M1.B k = c -> ¬ blk (.slice aT n kT) = some c) := fun c k hk hne e hc => by
      obtain ⟨y1, y2⟩ := hthr.blk hc
      exact gB2.ne hk y1 hne (e.trans y2)
    have hrB := gB2.all .run
    have nR3 : ¬ blk (.slice aT n kT) = some R := nb3 R .run hrB.1 nofun (hrB.2.1.trans hRR.symm)
    have nbr3 : ¬ blk (.slice aT n kT) = some h.size := nb3 _ _ N.nbr.1 nofun N.nbr.2.1
    have nbx3 : ¬ blk (.slice aT n kT) = some p := nb3 _ _ N.nbx.1 nofun N.nbx.2.1
    have z1' := u3.hcell hZ3.1 nbr3
    have z2' := u3.hcell hZ3.2.1 nR3
    have z3' := u3.hcell hZ3.2.2 nbx3
    have hrun3 := u3.get ((Upd.push (T := fun _ => False) h2 (.cells #[ptr t] 30)).get hrunB (fun x => x)) nR3
    refine ⟨⟨z1', z2', z3'⟩, ?_⟩
    obtain ⟨aA, kA, eA⟩ := sl3.val
    refine EA.val 8 rfl (by kernel_rfl) rfl rfl rfl (fun ρ Q X hρ hq => sem_nilCheck (hρ _ _ rfl) hq) ⟨z1', z2', z3'⟩ ?_
    have hZ := And.intro z1' (And.intro z2' z3')
    refine EA.tField 9 rfl (by kernel_rfl) rfl rfl rfl rfl hZ ?_
    refine EA.unitL (h' := hset h3 ⟨R, 0, none⟩ s3) 10 rfl (by kernel_rfl) rfl rfl rfl (fun ρ Q X hρ hq => sem_store1 (hρ _ _ rfl) (hρ _ _ rfl) (by rw [eA]; exact ⟨nofun, nofun⟩) ⟨_, z2'⟩ (hfroz_of hrun3) (hRs _) hq) ?_
    refine EA.done (by kernel_rfl) ?_
    obtain ⟨M2, gC⟩ := gB2.app (p' := p0.newT t w q p (h.size + 1) h.size (.func (.func b) #[] cap)) (sl := { s with T := s3 }) .thr hthr sl3 u3 hb3 (fun c hc => hW c (Nat.le_trans uB2.size hc)) nofun rfl rfl (fun i hi x hx => by
      change x ∈ ut p0.prv p0.num [] i at hx
      have hi' : i < p0.num + 1 := hi
      by_cases e : i = p0.num
      · rw [e, ut_same] at hx; cases hx
      · rw [ut_ne _ _ e] at hx; exact ⟨by omega, hx⟩) rfl rfl rfl (fun k' h1 h2 => nm_newT gB2 N s3 k' h1 h2) (fun N' y => by
      show N'.Sl .thr s3 30 1 (p0.num + 1) ((List.range (p0.num + 1)).map fun i => ptr (ut p0.tb p0.num t i))
      rw [List.range_succ, List.map_append, List.map_singleton, ut_same]
      rw [hnn] at y
      have : (List.range p0.num).map (fun i => ptr (ut p0.tb p0.num t i)) = (List.range p0.num).map fun i => ptr (p0.tb i) := List.map_congr_left fun i hi => by
        rw [ut_ne _ _ (by have := List.mem_range.1 hi; omega)]
      rw [this]; exact y) g.isin
    rw [<- hRR] at gC
    have eC : hset h3 ⟨R, 0, none⟩ s3 = h3.setIfInBounds R (runO { s with T := s3 } p0.mb p0.stops) := hset_block hrun3 _
    rw [eC]
    have u4 : Upd (fun c => blk (.slice aT n kT) = some c \/ c = R) h (h3.setIfInBounds R (runO { s with T := s3 } p0.mb p0.stops)) := ((uB2.mono (T' := fun c => blk (.slice aT n kT) = some c \/ c = R) fun _ _ x => x.elim).trans (u3.mono fun _ _ x => .inl x)).trans (Upd.set _ _ _ (.inr rfl))
    generalize h3.setIfInBounds R (runO { s with T := s3 } p0.mb p0.stops) = h4 at gC u4 ⊢
    clear hZ hZ3 z1 z2 z3 z1' z2' z3' gB gB2 uB uB2 sl3 u3 hb3 hrunB hrun3 eC d1 d10 N nb3 nR3 nbr3 nbx3 hrB eA hthr
    (repeat refine EK.seq ?_)
    have hrunC : h4[R]? = some (runO { s with T := s3 } p0.mb p0.stops) := by rw [hRR]; exact gC.runAt
    have hbrC : h4[h.size]? = some (.cells #[ptr R] 132 (0, 0)) := by
      have := gC.brAt (i := p0.num) (Nat.lt_succ_self _)
      rw [show (p0.newT t w q p (h.size + 1) h.size (.func (.func b) #[] cap)).br p0.num = h.size from ut_same _ _ _] at this
      rw [hRR]; exact this
    have z1 : hcell h4 ⟨h.size, 0, none⟩ = some (ptr R) := hcell_of hbrC rfl
    have z2 : hcell h4 ⟨R, 5, none⟩ = some (.slice aF n kF) := by rw [hnn, <- hfl, <- eF]; exact hcell_of hrunC rfl
    refine EK.regionAnyL (fun h' => hcell h' ⟨h.size, 0, none⟩ = some (ptr R) /\ hcell h' ⟨R, 5, none⟩ = some (.slice aF n kF)) 9 ?_
    have hZ := And.intro z1 z2
    refine EA.tLoad 0 rfl (by kernel_rfl) rfl rfl rfl rfl (fun _ hz => hz.1) hZ ?_
    refine EA.tLoad 1 rfl (by kernel_rfl) rfl rfl rfl rfl (fun _ hz => hz.1) hZ ?_
    refine EA.tNil 2 rfl (by kernel_rfl) rfl rfl rfl rfl hZ ?_
    refine EA.tField 3 rfl (by kernel_rfl) rfl rfl rfl rfl hZ ?_
    refine EA.tLoad 4 rfl (by kernel_rfl) rfl rfl rfl rfl (fun _ hz => hz.2) hZ ?_
    have hZ3 : _ /\ _ := ⟨hcell_push (o := .cells #[.bool false] 4) z1, hcell_push (o := .cells #[.bool false] 4) z2⟩
    refine EA.val (v := .slice (some ⟨h4.size, 0, none⟩) 1 1) (h' := h4.push (.cells #[.bool false] 4)) 5 rfl (by kernel_rfl) rfl rfl rfl (fun ρ Q X hρ hq => sem_slice1 (sz := 1) hρ rfl (by omega) (by omega) rfl rfl hq) hZ3 ?_
    have gD := gC.upd0 (Upd.push h4 (.cells #[.bool false] 4))
    have uD := u4.trans (Upd.push h4 (.cells #[.bool false] 4))
    have hfell : M2.Sl .fell (.slice aF n kF) 4 1 n (List.replicate n (.bool false)) := by
      have := gC.all .fell
      rw [hnn, <- hfl, <- eF]; exact this
    have hblkF : ∀ c, blk (.slice aF n kF) = some c -> ∃ k, M.ok k /\ M.B k = c /\ ∀ j, k ≠ .t j /\ k ≠ .bx j := fun c hc => by
      have h0 : M.Sl .fell s.F 4 1 p0.fl (List.replicate p0.fl (.bool false)) := g.all .fell
      rw [eF, hfl, <- hnn] at h0
      obtain ⟨y1, y2⟩ := h0.blk hc
      exact ⟨_, y1, y2.symm, fun j => ⟨nofun, nofun⟩⟩
    refine EA.append1 (new := [.bool false]) 6 rfl (by kernel_rfl) rfl rfl rfl rfl rfl (hfell.slice gD.rep) (get_push_new _ _) rfl (by simp [OneCell]) (by omega) (by omega) rfl (fun c o hc => ?_) ?_
    · obtain ⟨k, hk, e, hne⟩ := hblkF c hc
      rw [<- e]; exact stillM_nm hv g hk hne
    intro s5 h5 sl5 u5 hb5
    have nb5 : ∀ c, (∀ k, M2.ok k -> k ≠ .fell -> M2.B k = c -> ¬ blk (.slice aF n kF) = some c) := fun c k hk hne e hc => by
      obtain ⟨y1, y2⟩ := hfell.blk hc
      exact gD.ne hk y1 hne (e.trans y2)
    have hrD := gD.all .run
    have hbrD := gD.all (.br p0.num) (Nat.lt_succ_self _)
    have nR5 : ¬ blk (.slice aF n kF) = some R := nb5 R .run hrD.1 nofun (hrD.2.1.trans hRR.symm)
    have nbr5 : ¬ blk (.slice aF n kF) = some h.size := nb5 _ _ hbrD.1 nofun (hbrD.2.1.trans (ut_same _ _ _))
    have z1' := u5.hcell hZ3.1 nbr5
    have z2' := u5.hcell hZ3.2 nR5
    have hrun5 := u5.get ((Upd.push (T := fun _ => False) h4 (.cells #[.bool false] 4)).get hrunC (fun x => x)) nR5
    refine ⟨⟨z1', z2'⟩, ?_⟩
    obtain ⟨aA, kA, eA⟩ := sl5.val
    refine EA.val 7 rfl (by kernel_rfl) rfl rfl rfl (fun ρ Q X hρ hq => sem_nilCheck (hρ _ _ rfl) hq) ⟨z1', z2'⟩ ?_
    have hZ := And.intro z1' z2'
    refine EA.tField 8 rfl (by kernel_rfl) rfl rfl rfl rfl hZ ?_
    refine EA.unitL (h' := hset h5 ⟨R, 5, none⟩ s5) 9 rfl (by kernel_rfl) rfl rfl rfl (fun ρ Q X hρ hq => sem_store1 (hρ _ _ rfl) (hρ _ _ rfl) (by rw [eA]; exact ⟨nofun, nofun⟩) ⟨_, z2'⟩ (hfroz_of hrun5) (hRs _) hq) ?_
    refine EA.done (by kernel_rfl) ?_
    obtain ⟨M3, gE⟩ := gD.app (p' := { p0.newT t w q p (h.size + 1) h.size (.func (.func b) #[] cap) with fl := p0.fl + 1 }) (sl := { s with T := s3, F := s5 }) .fell hfell sl5 u5 hb5 (fun c hc => hW c (Nat.le_trans uD.size hc)) nofun rfl rfl (fun i hi x hx => ⟨hi, hx⟩) rfl rfl rfl (fun k' h1 h2 => by
      have y := gD.all k'
      cases k' with
      | fell => exact absurd rfl h1
      | run => exact absurd rfl h2
      | _ => exact y) (fun N' y => by
      show N'.Sl .fell s5 4 1 (p0.fl + 1) (List.replicate (p0.fl + 1) (.bool false))
      rw [List.replicate_succ', hfl, <- hnn]; exact y) gD.isin
    have eE : hset h5 ⟨R, 5, none⟩ s5 = h5.setIfInBounds R (runO { s with T := s3, F := s5 } p0.mb p0.stops) := hset_block hrun5 _
    have eRn : (p0.newT t w q p (h.size + 1) h.size (.func (.func b) #[] cap)).R = R := hRR.symm
    have e6 : h5.setIfInBounds (p0.newT t w q p (h.size + 1) h.size (.func (.func b) #[] cap)).R (runO { s with T := s3, F := s5 } (p0.newT t w q p (h.size + 1) h.size (.func (.func b) #[] cap)).mb (p0.newT t w q p (h.size + 1) h.size (.func (.func b) #[] cap)).stops) = h5.setIfInBounds R (runO { s with T := s3, F := s5 } p0.mb p0.stops) := by rw [eRn]; rfl
    rw [e6] at gE
    rw [eE]
    have u6 : Upd (fun c => (∃ k, M.ok k /\ M.B k = c)) h (h5.setIfInBounds R (runO { s with T := s3, F := s5 } p0.mb p0.stops)) := by
      have hR' : ∃ k, M.ok k /\ M.B k = R := ⟨.run, (g.all .run).1, (g.all .run).2.1.trans hRR.symm⟩
      refine ((uD.mono fun c _ hc => ?_).trans (u5.mono fun c _ hc => ?_)).trans (Upd.set _ _ _ hR')
      · rcases hc with hc | rfl
        · obtain ⟨k, hk, e, _⟩ := hblk c hc; exact ⟨k, hk, e⟩
        · exact hR'
      · obtain ⟨k, hk, e, _⟩ := hblkF c hc; exact ⟨k, hk, e⟩
    generalize h5.setIfInBounds R (runO { s with T := s3, F := s5 } p0.mb p0.stops) = h6 at gE u6 ⊢
    clear hZ hZ3 z1 z2 z1' z2' gC gD uD sl5 u5 hb5 hrunC hrun5 eE nb5 nR5 nbr5 hrD hbrD eA hfell hblk hblkF u4 hbrC
    obtain ⟨p2, hp2⟩ : ∃ p2 : PS X.U, p2 = { p0.newT t w q p (h.size + 1) h.size (.func (.func b) #[] cap) with fl := p0.fl + 1 } := ⟨_, rfl⟩
    have k1 : p2.num = p0.num + 1 := by rw [hp2]; rfl
    have k2 : p2.R = p0.R := by rw [hp2]; rfl
    have k3 : p2.tb = ut p0.tb p0.num t := by rw [hp2]; rfl
    have k4 : p2.wk = ut p0.wk p0.num w := by rw [hp2]; rfl
    have k5 : p2.sd = ut p0.sd p0.num q := by rw [hp2]; rfl
    have k6 : p2.bx = ut p0.bx p0.num p := by rw [hp2]; rfl
    have k7 : p2.bf = ut p0.bf p0.num (h.size + 1) := by rw [hp2]; rfl
    have k8 : p2.br = ut p0.br p0.num h.size := by rw [hp2]; rfl
    have k9 : p2.fn = ut p0.fn p0.num (.func (.func b) #[] cap) := by rw [hp2]; rfl
    have k10 : p2.st = ut p0.st p0.num .born := by rw [hp2]; rfl
    have k11 : p2.gone = ut p0.gone p0.num false := by rw [hp2]; rfl
    have k12 : p2.prv = ut p0.prv p0.num [] := by rw [hp2]; rfl
    have k13 : p2.log = p0.log := by rw [hp2]; rfl
    have k14 : p2.u = p0.u := by rw [hp2]; rfl
    have k15 : p2.val = p0.val := by rw [hp2]; rfl
    have k16 : p2.stops = p0.stops := by rw [hp2]; rfl
    have gF : GI X W p2 (nums p2.log) { s with T := s3, F := s5 } M3 h6 := by rw [hp2]; exact gE
    have hP2 : p2 = { p0.newT t w q p (h.size + 1) h.size (.func (.func b) #[] cap) with fl := p0.fl + 1 } := hp2
    clear gE hp2
    have hlt2 : p0.num < p2.num := by rw [k1]; exact Nat.lt_succ_self _
    (repeat (first | refine EK.seq ?_ | refine EK.region ?_))
    refine ER.makeFunc (fv := #[]) (cv := #[ptr h.size, ptr p, ptr (h.size + 1)]) rfl rfl (fun ρ hρ => ⟨map_ofL hρ (vs := []) rfl, map_ofL hρ (vs := [ptr h.size, ptr p, ptr (h.size + 1)]) rfl⟩) ?_
    refine ER.goes (X := PX X) (γ₁ := { γ with p := p2, run := p0.num }) rfl rfl rfl (by show p2.num + 1 = γ.p.num + 1 + 1; rw [k1, hv.num]) ?oth ?sit ?_
    case oth =>
      intro x hx hl
      cases x with
      | zero => exact absurd rfl hx
      | succ j =>
        have hjl : j < γ.p.num := Nat.lt_of_succ_lt_succ hl
        have hj : j ≠ p0.num := by rw [hv.num]; omega
        have v1 := hv.view hX hjl
        have v2 : View X j p0 p2 := ⟨by rw [k1]; omega, k2, (congrFun k3 j).trans (ut_ne _ _ hj), (congrFun k4 j).trans (ut_ne _ _ hj), (congrFun k5 j).trans (ut_ne _ _ hj), (congrFun k6 j).trans (ut_ne _ _ hj), (congrFun k7 j).trans (ut_ne _ _ hj), (congrFun k8 j).trans (ut_ne _ _ hj), (congrFun k9 j).trans (ut_ne _ _ hj), (congrFun k10 j).trans (ut_ne _ _ hj), (congrFun k11 j).trans (ut_ne _ _ hj), (congrFun k12 j).trans (ut_ne _ _ hj), by rw [k13], by rw [k14]; exact hX.vrefl _ _⟩
        have v := v1.trans hX v2
        refine ⟨?_, ?_, v⟩
        · show (if p2.gone j = true then none else some (p2.wk j)) = (if γ.p.gone j = true then none else some (γ.p.wk j))
          rw [v.gone, v.wk]
        · show cT _ j = cT γ j
          funext a
          show (if a = ⟨p2.tb j, 2, none⟩ then some (Value.chan (some (p2.wk j))) else if a = ⟨p2.bx j, 0, none⟩ then some (.pointer (some ⟨p2.tb j, 0, none⟩)) else none) = (if a = ⟨γ.p.tb j, 2, none⟩ then some (Value.chan (some (γ.p.wk j))) else if a = ⟨γ.p.bx j, 0, none⟩ then some (.pointer (some ⟨γ.p.tb j, 0, none⟩)) else none)
          rw [v.tb, v.wk, v.bx]
    case sit =>
      rw [show (PX X).num γ = p0.num + 1 by show γ.p.num + 1 = _; rw [hv.num]]
      have := childG (γ := { γ with p := p2, run := p0.num }) (i := p0.num) (b := b) (cap := cap) hX gF hlt2 (by show p2.gone _ = _; rw [k11, ut_same]) (by show p2.st _ = _; rw [k10, ut_same]) (by show p2.prv _ = _; rw [k12, ut_same]) (by show ownOf _ p2.log = _; rw [k13, hlog]; rfl) (by show p2.fn _ = _; rw [k9, ut_same]) ?_ hbody
      · dsimp only at this
        rw [k8, k6, k7, ut_same, ut_same, ut_same] at this
        exact this
      · intro x hx hl e
        have wn := gF.all (.wk p0.num) hlt2
        cases x with
        | zero =>
          have e' : p2.sd p0.num = p2.wk p0.num := Option.some.inj e
          have sn := gF.all (.sd p0.num) hlt2
          exact gF.ne wn.1 sn.1 nofun (wn.2.1.trans (e'.symm.trans sn.2.1.symm))
        | succ j =>
          change (if p2.gone j = true then none else some (p2.wk j)) = some (p2.wk p0.num) at e
          split at e
          · cases e
          · have e' := Option.some.inj e
            have hj : j ≠ p0.num := fun e => hx (by rw [e])
            have wj := gF.all (.wk j) (Nat.lt_of_succ_lt_succ hl)
            exact gF.ne wj.1 wn.1 (fun z => hj (by injection z)) (wj.2.1.trans (e'.trans wn.2.1.symm))
    have z5 : hcell h6 ⟨p, 0, none⟩ = some (ptr (p2.tb p0.num)) := by
      have := gF.bxAt hlt2
      rw [k6, ut_same] at this
      exact hcell_of this rfl
    have I6 : X.I p2.u h6 := by
      rw [k14]
      exact hX.loc _ _ _ (fun c hc => u6.2 c (g.dom c hc).1 (fun ⟨k, hk, e⟩ => (g.apart k hk).2 (e ▸ hc))) hI
    (repeat (first | refine EK.seq ?_ | refine EK.region ?_ | refine ER.done ?_))
    refine ER.load1 rfl rfl rfl z5 ?_
    refine ER.callR rfl rfl rfl rfl rfl (goesG (γ := { γ with p := p2, run := p0.num }) (j := p0.num) hX (Mine.refl _) gF I6 (by rw [k13, k14, k15]; exact hJ) (fun x => ?_) hlt2 (by rw [k11, ut_same]) (fun _ => by rw [k13, hlog]; decide) (fun _ => k16.trans hs)) ?_
    · have e : ut p0.st p0.num .born = p0.st := by rw [<- hQ0]; exact ut_self _ _
      rw [k13, k10, k14, e]; exact hQ x
    rintro v h7 δ7 ⟨γ', rfl, e1, e2, e3, e4, hP⟩
    have hP' := hP
    obtain ⟨y1, y2, y3⟩ := hP'
    obtain ⟨s7, M7, g7⟩ := y3.gi
    obtain ⟨t1, t2, t3, t4, t5, t6, t7, t8, _⟩ := turned_same y2
    have z7 : hcell h7 ⟨p, 0, none⟩ = some (ptr (γ'.p.tb p0.num)) := by
      have := g7.bxAt (i := p0.num) (by rw [t3, e1]; exact hlt2)
      rw [t8, e1, k6, ut_same] at this
      exact hcell_of this rfl
    (repeat (first | refine EK.seq ?_ | refine EK.region ?_ | refine ER.done ?_))
    refine ER.load1 rfl rfl rfl z7 ?_
    (repeat (first | refine ER.done ?_ | refine ER.assign rfl rfl rfl ?_ | refine EK.ret ?_))
    refine EU.ret1 rfl rfl ⟨γ', t, w, q, p, h.size + 1, h.size, rfl, e1.trans hP2, e3, e4, hP, ?_, by rw [e2]; exact u6.size⟩
    have u7 := y3.upd
    rw [e2, e3] at u7
    exact (u6.mono fun c _ ⟨k, hk, e⟩ => e ▸ g.wide k hk).trans u7
end
end
section
open Go Go.TJ Go.Conc Go.Proofs
section
variable {X : Us} {W : Nat -> Prop} {p : PS X.U} {ns : List Nat} {s : Sls} {M : Mem Nm} {h : Hp} {γ : GG X}
def PS.live {U : Type} (p : PS U) (k : Nat) : List Nat := (List.range k).filter (fun j => !p.gone j)
theorem live_yes {U : Type} {p : PS U} {k : Nat} (hg : p.gone k = false) : p.live (k + 1) = p.live k ++ [k] := by
  unfold PS.live
  rw [List.range_succ, List.filter_append]
  simp [hg]
theorem live_no {U : Type} {p : PS U} {k : Nat} (hg : p.gone k = true) : p.live (k + 1) = p.live k := by
  unfold PS.live
  rw [List.range_succ, List.filter_append]
  simp [hg]
section
variable {Γ : Type} {main : Bool} {S : Sit Γ} {δ : Ix Γ}
set_option maxHeartbeats 1000000 in
theorem can_gone {t : Nat} (h1 : hcell h ⟨t, 13, none⟩ = some (.bool true)) : CallW Try.prog main S 144 #[ptr t] h δ (Ret (Det (.bool false) h δ)) := by
  refine CallW.start (n := 29) rfl rfl ?_
  (repeat (first | refine EK.seq ?_ | refine EK.region ?_ | refine ER.done ?_ | refine ER.assign rfl rfl rfl ?_))
  refine EK.regionAnyL (fun h' => hcell h' ⟨t, 13, none⟩ = some (.bool true)) 26 ?_
  have hZ := h1
  refine EA.tMove 0 rfl (by kernel_rfl) rfl rfl rfl rfl hZ ?_
  refine EA.tNil 1 rfl (by kernel_rfl) rfl rfl rfl rfl hZ ?_
  refine EA.tField 2 rfl (by kernel_rfl) rfl rfl rfl rfl hZ ?_
  refine EA.tLoad 3 rfl (by kernel_rfl) rfl rfl rfl rfl (fun _ hz => hz) hZ ?_
  refine EA.tNot 4 rfl (by kernel_rfl) rfl rfl rfl rfl hZ ?_
  refine EA.tMove 5 rfl (by kernel_rfl) rfl rfl rfl rfl hZ ?_
  refine EA.takeNo 6 rfl (by kernel_rfl) rfl rfl rfl hZ ?_
  refine EA.takeNo 7 rfl (by kernel_rfl) rfl rfl rfl hZ ?_
  refine EA.takeNo 8 rfl (by kernel_rfl) rfl rfl rfl hZ ?_
  refine EA.takeNo 9 rfl (by kernel_rfl) rfl rfl rfl hZ ?_
  refine EA.takeNo 10 rfl (by kernel_rfl) rfl rfl rfl hZ ?_
  refine EA.takeNo 11 rfl (by kernel_rfl) rfl rfl rfl hZ ?_
  refine EA.takeNo 12 rfl (by kernel_rfl) rfl rfl rfl hZ ?_
  refine EA.takeNo 13 rfl (by kernel_rfl) rfl rfl rfl hZ ?_
  refine EA.takeNo 14 rfl (by kernel_rfl) rfl rfl rfl hZ ?_
  refine EA.takeNo 15 rfl (by kernel_rfl) rfl rfl rfl hZ ?_
  refine EA.takeNo 16 rfl (by kernel_rfl) rfl rfl rfl hZ ?_
  refine EA.takeNo 17 rfl (by kernel_rfl) rfl rfl rfl hZ ?_
  refine EA.takeNo 18 rfl (by kernel_rfl) rfl rfl rfl hZ ?_
  refine EA.takeNo 19 rfl (by kernel_rfl) rfl rfl rfl hZ ?_
  refine EA.takeNo 20 rfl (by kernel_rfl) rfl rfl rfl hZ ?_
  refine EA.takeNo 21 rfl (by kernel_rfl) rfl rfl rfl hZ ?_
  refine EA.takeNo 22 rfl (by kernel_rfl) rfl rfl rfl hZ ?_
  refine EA.takeNo 23 rfl (by kernel_rfl) rfl rfl rfl hZ ?_
  refine EA.takeNo 24 rfl (by kernel_rfl) rfl rfl rfl hZ ?_
  refine EA.tPickF 25 rfl (by kernel_rfl) rfl rfl rfl rfl rfl hZ ?_
  refine EA.tAssign 26 rfl (by kernel_rfl) rfl rfl rfl rfl hZ ?_
  refine EA.done (by kernel_rfl) ?_
  (repeat refine EK.ret ?_)
  exact EU.ret1 rfl rfl det
set_option maxHeartbeats 1000000 in
theorem can_live {t : Nat} {o : Int} (h1 : hcell h ⟨t, 13, none⟩ = some (.bool false)) (h2 : hcell h ⟨t, 6, none⟩ = some (.int .i8 o)) (ho : o ≠ 6) : CallW Try.prog main S 144 #[ptr t] h δ (Ret (Det (.bool true) h δ)) := by
  refine CallW.start (n := 29) rfl rfl ?_
  (repeat (first | refine EK.seq ?_ | refine EK.region ?_ | refine ER.done ?_ | refine ER.assign rfl rfl rfl ?_))
  refine EK.regionAnyL (fun h' => hcell h' ⟨t, 13, none⟩ = some (.bool false) /\ hcell h' ⟨t, 6, none⟩ = some (.int .i8 o)) 26 ?_
  have hZ := And.intro h1 h2
  refine EA.tMove 0 rfl (by kernel_rfl) rfl rfl rfl rfl hZ ?_
  refine EA.tNil 1 rfl (by kernel_rfl) rfl rfl rfl rfl hZ ?_
  refine EA.tField 2 rfl (by kernel_rfl) rfl rfl rfl rfl hZ ?_
  refine EA.tLoad 3 rfl (by kernel_rfl) rfl rfl rfl rfl (fun _ hz => hz.1) hZ ?_
  refine EA.tNot 4 rfl (by kernel_rfl) rfl rfl rfl rfl hZ ?_
  refine EA.tMove 5 rfl (by kernel_rfl) rfl rfl rfl rfl hZ ?_
  refine EA.tMove 6 rfl (by kernel_rfl) rfl rfl rfl rfl hZ ?_
  refine EA.tNil 7 rfl (by kernel_rfl) rfl rfl rfl rfl hZ ?_
  refine EA.tField 8 rfl (by kernel_rfl) rfl rfl rfl rfl hZ ?_
  refine EA.tField 9 rfl (by kernel_rfl) rfl rfl rfl rfl hZ ?_
  refine EA.tLoad 10 rfl (by kernel_rfl) rfl rfl rfl rfl (fun _ hz => hz.2) hZ ?_
  refine EA.tCmpT 11 rfl (by kernel_rfl) rfl rfl rfl rfl rfl rfl (by first | (dsimp only [cmpP]; omega) | exact rfl | exact Int.le_refl _) hZ ?_
  refine EA.tMove 12 rfl (by kernel_rfl) rfl rfl rfl rfl hZ ?_
  refine EA.takeNo 13 rfl (by kernel_rfl) rfl rfl rfl hZ ?_
  refine EA.takeNo 14 rfl (by kernel_rfl) rfl rfl rfl hZ ?_
  refine EA.takeNo 15 rfl (by kernel_rfl) rfl rfl rfl hZ ?_
  refine EA.takeNo 16 rfl (by kernel_rfl) rfl rfl rfl hZ ?_
  refine EA.takeNo 17 rfl (by kernel_rfl) rfl rfl rfl hZ ?_
  refine EA.takeNo 18 rfl (by kernel_rfl) rfl rfl rfl hZ ?_
  refine EA.takeNo 19 rfl (by kernel_rfl) rfl rfl rfl hZ ?_
  refine EA.takeNo 20 rfl (by kernel_rfl) rfl rfl rfl hZ ?_
  refine EA.takeNo 21 rfl (by kernel_rfl) rfl rfl rfl hZ ?_
  refine EA.takeNo 22 rfl (by kernel_rfl) rfl rfl rfl hZ ?_
  refine EA.takeNo 23 rfl (by kernel_rfl) rfl rfl rfl hZ ?_
  refine EA.tPickT 24 rfl (by kernel_rfl) rfl rfl rfl rfl rfl hZ ?_
  refine EA.tPickT 25 rfl (by kernel_rfl) rfl rfl rfl rfl rfl hZ ?_
  refine EA.tAssign 26 rfl (by kernel_rfl) rfl rfl rfl rfl hZ ?_
  refine EA.done (by kernel_rfl) ?_
  (repeat refine EK.ret ?_)
  exact EU.ret1 rfl rfl det
end
theorem GI.thrCell (g : GI X W p ns s M h) {i : Nat} (hi : i < p.num) : ∃ b k, s.T = .slice (some ⟨b, 0, none⟩) p.num k /\ hcell h ⟨b, 0 + i * 1, none⟩ = some (ptr (p.tb i)) /\ M.ok .thr /\ b = M.B .thr := by
  have x : M.Sl .thr s.T 30 1 p.num ((List.range p.num).map fun i => ptr (p.tb i)) := g.all .thr
  obtain ⟨cap, e, hk, hc, _⟩ := x.cell g.rep (by omega)
  refine ⟨_, cap, e, ?_, hk, rfl⟩
  rw [Nat.zero_add, Nat.mul_one]
  refine hc i _ ?_
  simp [hi]
set_option maxHeartbeats 4000000 in
set_option maxRecDepth 8000 in
theorem ableG (hv : Mine X γ.p p) (g : GI X W p ns s M h) (hn : p.num <= 64) (hst : ∀ j, j < p.num -> p.gone j = false -> ∃ r, p.st j = .stands r /\ RqOk X r) :
    CallW Try.prog true (SitM Try.prog (PX X)) 111 #[ptr p.R] h ⟨0, γ⟩ (Ret fun v h' δ' => δ' = ⟨0, γ⟩ /\ ∃ lv, v = .tuple #[lv, .bool (p.live p.num).isEmpty] /\ Upd (fun _ => False) h h' /\ SliceO h' lv 30 1 (p.live p.num).length ((p.live p.num).map fun j => ptr (p.tb j)) /\ ∀ b, blk lv = some b -> h.size <= b) := by
  obtain ⟨aT, kT, eT⟩ := Mem.Sl.val (show M.Sl .thr s.T 30 1 p.num ((List.range p.num).map fun i => ptr (p.tb i)) from g.all .thr)
  have hrun := g.runAt
  have hR0 : hcell h ⟨p.R, 0, none⟩ = some (.slice aT p.num kT) := by rw [<- eT]; exact hcell_of hrun rfl
  refine CallW.start (n := 31) rfl rfl ?_
  clear hrun
  (repeat (first | refine EK.seq ?_ | refine EK.region ?_ | refine ER.done ?_ | refine EK.block ?_ | refine ER.move rfl rfl rfl ?_ | refine ER.assign rfl rfl rfl ?_ | refine ER.nilCheck rfl rfl rfl ?_ | refine ER.fieldAddr rfl rfl rfl ?_ | refine ER.len1 rfl rfl rfl ?_ | refine ER.load1 rfl rfl rfl (by assumption) ?_))
  refine EK.loopInv (fun q : Nat × Value => [(11, .int .i64 q.1), (2, q.2), (3, .bool (p.live q.1).isEmpty), (9, .slice aT p.num kT), (10, .int .i64 p.num)]) (fun q h' δ' => q.1 <= p.num /\ δ' = ⟨0, γ⟩ /\ Upd (fun _ => False) h h' /\ SliceO h' q.2 30 1 (p.live q.1).length ((p.live q.1).map fun j => ptr (p.tb j)) /\ ∀ b, blk q.2 = some b -> h.size <= b) (fun q => p.num - q.1) (0, nilS) ⟨rfl, rfl, rfl, rfl, rfl, trivial⟩ ⟨Nat.zero_le _, rfl, Upd.refl _ _, SliceO.nil, fun b hb => by cases hb⟩ ?_
  rintro ⟨i, lv⟩ h1 δ1 ⟨hi, hδ, u1, sl, hb⟩ again
  dsimp only at hi sl hb again hδ ⊢
  subst hδ
  by_cases hin : i < p.num
  · obtain ⟨b, k, eT', hc, hk, ebT⟩ := g.thrCell hin
    rw [eT] at eT'
    injection eT' with e1 e2 e3
    subst e1
    obtain ⟨v, a, hat, hrow⟩ := g.thrAt hin
    have hc1 := u1.hcell hc (fun x => x)
    have hrow1 := u1.get hrow (fun x => x)
    obtain ⟨_, t, o, c, b0, n, w, x, kk, rfl⟩ := hat.form
    have d13 : hcell h1 ⟨p.tb i, 13, none⟩ = some (.bool (p.gone i)) := hcell_of hrow1 rfl
    have hlen : (p.live i).length <= i := by
      unfold PS.live
      have := List.length_filter_le (fun j => !p.gone j) (List.range i)
      simpa using this
    have hSl : ∀ c o, blk lv = some c -> ¬ (SitM Try.prog (PX X)).still γ ⟨c, o, none⟩ := fun c o hc => stillM_new hv g (hb c hc)
    cases hg : p.gone i with
    | true =>
      rw [hg] at d13 hrow1
      rw [<- live_no hg] at sl
      have el := live_no hg
      cases hl : (p.live i).isEmpty with
      | true =>
        (repeat (first | refine EK.seq ?_ | refine EK.region ?_ | refine ER.done ?_ | refine EK.skip ?_ | refine EK.block ?_ | refine ER.move rfl rfl rfl ?_ | refine ER.assign rfl rfl rfl ?_ | refine ER.nilCheck rfl rfl rfl ?_ | refine ER.fieldAddr rfl rfl rfl ?_ | refine ER.load1 rfl rfl rfl (hcell_of (by assumption) rfl) ?_ | refine ER.pickT rfl rfl rfl rfl ?_ | refine ER.cmpT rfl rfl rfl rfl rfl (by first | (dsimp only [cmpP]; omega) | exact rfl | exact Int.le_refl _) ?_ | refine ER.indexSl rfl rfl rfl rfl (by omega) (by omega) ?_ | refine EK.condT rfl ?_ | refine ER.load1 rfl rfl rfl (by assumption) ?_))
        refine ER.callD rfl rfl rfl rfl rfl (can_gone d13) ?_
        (repeat (first | refine EK.region ?_ | refine ER.done ?_ | refine EK.skip ?_ | refine EK.inBlock ?_ | refine ER.move rfl rfl rfl ?_ | refine ER.add (kd := .i64) rfl rfl rfl rfl (i64_in (by omega) (by omega)) ?_ | refine EK.condF rfl ?_))
        refine EK.back (again (i + 1, lv) _ _ (by dsimp only; omega) ⟨by dsimp only; omega, rfl, u1, sl, hb⟩) ⟨rfl, rfl, ?_, rfl, rfl, trivial⟩
        dsimp only; rw [el, hl]; rfl
      | false =>
        (repeat (first | refine EK.seq ?_ | refine EK.region ?_ | refine ER.done ?_ | refine EK.skip ?_ | refine EK.block ?_ | refine ER.move rfl rfl rfl ?_ | refine ER.assign rfl rfl rfl ?_ | refine ER.no rfl rfl ?_ | refine ER.pickF rfl rfl rfl rfl ?_ | refine ER.cmpT rfl rfl rfl rfl rfl (by first | (dsimp only [cmpP]; omega) | exact rfl | exact Int.le_refl _) ?_ | refine ER.indexSl rfl rfl rfl rfl (by omega) (by omega) ?_ | refine EK.condT rfl ?_ | refine ER.load1 rfl rfl rfl (by assumption) ?_))
        refine ER.callD rfl rfl rfl rfl rfl (can_gone d13) ?_
        (repeat (first | refine EK.region ?_ | refine ER.done ?_ | refine EK.skip ?_ | refine EK.inBlock ?_ | refine ER.move rfl rfl rfl ?_ | refine ER.add (kd := .i64) rfl rfl rfl rfl (i64_in (by omega) (by omega)) ?_ | refine EK.condF rfl ?_))
        refine EK.back (again (i + 1, lv) _ _ (by dsimp only; omega) ⟨by dsimp only; omega, rfl, u1, sl, hb⟩) ⟨rfl, rfl, ?_, rfl, rfl, trivial⟩
        dsimp only; rw [el, hl]; rfl
    | false =>
      rw [hg] at d13 hrow1
      obtain ⟨r, hr1, hr2⟩ := hst i hin hg
      rw [hr1] at hat
      have eo : o = r.op := by have := hat.2; unfold rqL accL at this; injection this with _ this; injection this with this _; injection this
      have d6 : hcell h1 ⟨p.tb i, 6, none⟩ = some (.int .i8 o) := hcell_of hrow1 rfl
      have ho : o ≠ 6 := by have := hr2.op2; omega
      have el := live_yes hg
      have em : (p.live (i + 1)).isEmpty = false := by rw [el]; simp
      cases hl : (p.live i).isEmpty with
      | true =>
        (repeat (first | refine EK.seq ?_ | refine EK.region ?_ | refine ER.done ?_ | refine EK.skip ?_ | refine EK.block ?_ | refine ER.move rfl rfl rfl ?_ | refine ER.assign rfl rfl rfl ?_ | refine ER.nilCheck rfl rfl rfl ?_ | refine ER.fieldAddr rfl rfl rfl ?_ | refine ER.load1 rfl rfl rfl (hcell_of (by assumption) rfl) ?_ | refine ER.pickT rfl rfl rfl rfl ?_ | refine ER.cmpT rfl rfl rfl rfl rfl (by first | (dsimp only [cmpP]; omega) | exact rfl | exact Int.le_refl _) ?_ | refine ER.indexSl rfl rfl rfl rfl (by omega) (by omega) ?_ | refine EK.condT rfl ?_ | refine ER.load1 rfl rfl rfl (by assumption) ?_))
        refine ER.callD rfl rfl rfl rfl rfl (can_live d13 d6 ho) ?_
        (repeat (first | refine EK.region ?_ | refine ER.done ?_ | refine ER.move rfl rfl rfl ?_ | refine EK.condT rfl ?_))
        refine ER.slice1 (cells := #[ptr (p.tb i)]) rfl rfl rfl (by omega) (by omega) (by rfl) rfl ?_
        refine ER.append1 (new := [ptr (p.tb i)]) rfl rfl rfl rfl (sl.upd (Upd.push (T := fun _ => False) h1 _) (fun _ _ x => x)) (get_push_new _ _) rfl (by simp [OneCell]) (by omega) (by omega) (by rfl) hSl ?_
        intro s2 h2 sl2 u2 hb2
        have u12 : Upd (fun _ => False) h h2 := (u1.trans (Upd.push h1 _)).over u2 hb
        (repeat (first | refine EK.region ?_ | refine ER.done ?_ | refine EK.inBlock ?_ | refine ER.move rfl rfl rfl ?_ | refine ER.assign rfl rfl rfl ?_ | refine ER.add (kd := .i64) rfl rfl rfl rfl (i64_in (by omega) (by omega)) ?_))
        refine EK.back (again (i + 1, s2) _ _ (by dsimp only; omega) ⟨by dsimp only; omega, rfl, u12, ?_, fun b' hb' => ?_⟩) ⟨rfl, rfl, ?_, rfl, rfl, trivial⟩
        · dsimp only; rw [el]; simpa using sl2
        · rcases hb2 b' hb' with y | y
          · exact hb _ y
          · have := u1.size; rw [Array.size_push] at y; omega
        · dsimp only; rw [em]; rfl
      | false =>
        (repeat (first | refine EK.seq ?_ | refine EK.region ?_ | refine ER.done ?_ | refine EK.skip ?_ | refine EK.block ?_ | refine ER.move rfl rfl rfl ?_ | refine ER.assign rfl rfl rfl ?_ | refine ER.no rfl rfl ?_ | refine ER.pickF rfl rfl rfl rfl ?_ | refine ER.cmpT rfl rfl rfl rfl rfl (by first | (dsimp only [cmpP]; omega) | exact rfl | exact Int.le_refl _) ?_ | refine ER.indexSl rfl rfl rfl rfl (by omega) (by omega) ?_ | refine EK.condT rfl ?_ | refine ER.load1 rfl rfl rfl (by assumption) ?_))
        refine ER.callD rfl rfl rfl rfl rfl (can_live d13 d6 ho) ?_
        (repeat (first | refine EK.region ?_ | refine ER.done ?_ | refine ER.move rfl rfl rfl ?_ | refine EK.condT rfl ?_))
        refine ER.slice1 (cells := #[ptr (p.tb i)]) rfl rfl rfl (by omega) (by omega) (by rfl) rfl ?_
        refine ER.append1 (new := [ptr (p.tb i)]) rfl rfl rfl rfl (sl.upd (Upd.push (T := fun _ => False) h1 _) (fun _ _ x => x)) (get_push_new _ _) rfl (by simp [OneCell]) (by omega) (by omega) (by rfl) hSl ?_
        intro s2 h2 sl2 u2 hb2
        have u12 : Upd (fun _ => False) h h2 := (u1.trans (Upd.push h1 _)).over u2 hb
        (repeat (first | refine EK.region ?_ | refine ER.done ?_ | refine EK.inBlock ?_ | refine ER.move rfl rfl rfl ?_ | refine ER.assign rfl rfl rfl ?_ | refine ER.add (kd := .i64) rfl rfl rfl rfl (i64_in (by omega) (by omega)) ?_))
        refine EK.back (again (i + 1, s2) _ _ (by dsimp only; omega) ⟨by dsimp only; omega, rfl, u12, ?_, fun b' hb' => ?_⟩) ⟨rfl, rfl, ?_, rfl, rfl, trivial⟩
        · dsimp only; rw [el]; simpa using sl2
        · rcases hb2 b' hb' with y | y
          · exact hb _ y
          · have := u1.size; rw [Array.size_push] at y; omega
        · dsimp only; rw [em]; rfl
  · obtain rfl : i = p.num := by omega
    clear again
    (repeat (first | refine EK.seq ?_ | refine EK.region ?_ | refine ER.done ?_ | refine ER.move rfl rfl rfl ?_ | refine ER.assign rfl rfl rfl ?_ | refine ER.cmpF rfl rfl rfl rfl rfl (by first | (dsimp only [cmpP]; omega) | exact rfl | exact Int.le_refl _) ?_ | refine EK.condF rfl ?_ | refine EK.ret ?_ | refine EK.exit rfl ?_))
    exact EU.ret2 rfl rfl rfl ⟨rfl, lv, rfl, u1, sl, hb⟩
end
end
section
open Go Go.TJ Go.Conc Go.Proofs
def placed (x : Int) (l : List Nat) : Nat := l.getD (x % (l.length : Int)).toNat 0
def roundOf (l : List Nat) (last : Int) : Nat := (l.find? (fun (j : Nat) => decide (last < (j : Int)))).getD (l.headD 0)
def lastOf (went : List Nat) : Int := match went.getLast? with
  | some j => j
  | none => -1
def pickOf (picks : List Int) (went l : List Nat) : Nat := match picks[went.length]? with
  | some x => placed x l
  | none => roundOf l (lastOf went)
theorem tmod_twice (x : Int) {m : Int} (hm : 0 < m) : (x.tmod m + m).tmod m = x % m := by
  have h1 := Int.lt_tmod_of_pos x hm
  rw [Int.tmod_eq_emod_of_nonneg (by omega), Int.add_emod_right]
  have h := Int.mul_tdiv_add_tmod x m
  have : x.tmod m = x - m * x.tdiv m := by omega
  rw [this, Int.sub_mul_emod_self_left]
theorem placed_mem (x : Int) {l : List Nat} (hl : l ≠ []) : ∃ k, k < l.length /\ l[k]? = some (placed x l) /\ (x % (l.length : Int)).toNat = k := by
  have hp : 0 < l.length := List.length_pos_iff.2 hl
  have h1 := Int.emod_nonneg x (b := (l.length : Int)) (by omega)
  have h2 := Int.emod_lt_of_pos x (b := (l.length : Int)) (by omega)
  refine ⟨(x % (l.length : Int)).toNat, by omega, ?_, rfl⟩
  unfold placed
  rw [List.getD_eq_getElem?_getD, List.getElem?_eq_getElem (show (x % (l.length : Int)).toNat < l.length by omega)]
  rfl
theorem round_at {l : List Nat} {last : Int} {i j : Nat} (hi : l[i]? = some j) (hj : last < (j : Int)) (hb : ∀ (k x : Nat), k < i -> l[k]? = some x -> (x : Int) <= last) : roundOf l last = j := by
  unfold roundOf
  have : l.find? (fun (j : Nat) => decide (last < (j : Int))) = some j := by
    have hlt : i < l.length := by
      rcases Nat.lt_or_ge i l.length with y | y
      · exact y
      · rw [List.getElem?_eq_none y] at hi; cases hi
    refine List.find?_eq_some_iff_append.2 ⟨by simpa using hj, l.take i, l.drop (i + 1), ?_, fun a ha => ?_⟩
    · have e : l[i] = j := by rw [List.getElem?_eq_getElem hlt] at hi; exact Option.some.inj hi
      rw [<- e, List.getElem_cons_drop, List.take_append_drop]
    · obtain ⟨k, hk, rfl⟩ := List.mem_iff_getElem.1 ha
      have hk' : k < i := by simp at hk; omega
      have := hb k l[k] hk' (List.getElem?_eq_getElem (by omega))
      simp only [List.getElem_take]
      simpa using this
  rw [this]; rfl
theorem round_none {l : List Nat} {last : Int} (hb : ∀ (k x : Nat), l[k]? = some x -> (x : Int) <= last) : roundOf l last = l.headD 0 := by
  unfold roundOf
  have : l.find? (fun (j : Nat) => decide (last < (j : Int))) = none := List.find?_eq_none.2 fun x hx => by
    obtain ⟨k, hk, rfl⟩ := List.mem_iff_getElem.1 hx
    have := hb k _ (List.getElem?_eq_getElem hk)
    simpa using this
  rw [this]; rfl
structure RdS (h : Hp) (s : Value) (vs : List Value) : Prop where
  val : ∃ a k, s = .slice a vs.length k
  cell : ∀ i v, vs[i]? = some v -> ∃ b o k, s = .slice (some ⟨b, o, none⟩) vs.length k /\ TJ.hcell h ⟨b, o + i * 1, none⟩ = some v
theorem RdS.lt {h : Hp} {s : Value} {vs : List Value} (x : RdS h s vs) (hn : vs ≠ []) : ∀ b, blk s = some b -> b < h.size := by
  intro b hb
  cases vs with
  | nil => exact absurd rfl hn
  | cons v vs =>
    obtain ⟨b', o, k, e, hc⟩ := x.cell 0 v rfl
    rw [e] at hb
    cases hb
    obtain ⟨c, e', f, h1, -⟩ := hcell_some hc
    exact lt_of_get h1
theorem RdS.upd {h h' : Hp} {s : Value} {vs : List Value} (x : RdS h s vs) {T : Nat -> Prop} (u : Upd T h h') (hT : vs ≠ [] -> ∀ b, blk s = some b -> ¬ T b) : RdS h' s vs := by
  refine ⟨x.val, fun i v hv => ?_⟩
  obtain ⟨b, o, k, e, hc⟩ := x.cell i v hv
  refine ⟨b, o, k, e, u.hcell hc (hT (fun y => by rw [y] at hv; cases hv) b (by rw [e]; rfl))⟩
theorem SliceO.rds {h : Hp} {s : Value} {e n : Nat} {vs : List Value} (x : SliceO h s e 1 n vs) : RdS h s vs := by
  have hl : vs.length = n := by have := x.1; omega
  obtain ⟨a, k, ev⟩ := x.val
  refine ⟨⟨a, k, by rw [hl]; exact ev⟩, fun i v hv => ?_⟩
  have hi : i < vs.length := by
    rcases Nat.lt_or_ge i vs.length with y | y
    · exact y
    · rw [List.getElem?_eq_none y] at hv; cases hv
  obtain ⟨b, k', e', hc, -⟩ := x.cell (by omega)
  exact ⟨b, 0, k', by rw [hl]; exact e', by rw [Nat.zero_add, Nat.mul_one]; exact hc i v hv⟩
section
variable {Γ : Type} {main : Bool} {S : Sit Γ} {δ : Ix Γ} {h : Hp}
set_option maxHeartbeats 4000000 in
set_option maxRecDepth 8000 in
theorem schedG {picks : List Int} {went l : List Nat} {tb : Nat -> Nat} {sP sW lv : Value} {bP bR R : Nat} (hP : RdS h sP (picks.map fun x => .int .i64 x)) (hbox : hcell h ⟨bP, 0, none⟩ = some sP) (hr : hcell h ⟨bR, 0, none⟩ = some (ptr R)) (hw : hcell h ⟨R, 3, none⟩ = some sW)
    (hW : SliceO h sW 3 1 went.length (went.map fun (n : Nat) => Value.int .i64 (n : Int))) (hl : SliceO h lv 30 1 l.length (l.map fun j => ptr (tb j))) (hne : l ≠ []) (hlen : l.length <= 64) (hwl : went.length <= 65536) (hnum : ∀ j, j ∈ l -> hcell h ⟨tb j, 1, none⟩ = some (.int .i64 (j : Int))) :
    CallW Try.prog main S 75 #[.int .i64 went.length, lv, ptr bP, ptr bR] h δ (Ret (Det (ptr (tb (pickOf picks went l))) h δ)) := by
  have hpos : 0 < l.length := List.length_pos_iff.2 hne
  obtain ⟨aP, kP, eP⟩ := hP.val
  rw [List.length_map] at eP
  subst eP
  obtain ⟨bL, kL, rfl, hL, _⟩ := hl.cell hpos
  have hLc : ∀ k j, l[k]? = some j -> hcell h ⟨bL, 0 + k * 1, none⟩ = some (ptr (tb j)) := fun k j hk => by
    rw [Nat.zero_add, Nat.mul_one]; exact hL k _ (by rw [List.getElem?_map, hk]; rfl)
  refine CallW.start (n := 57) rfl rfl ?_
  by_cases hlt : went.length < picks.length
  · obtain ⟨x, hx⟩ : ∃ x, picks[went.length]? = some x := ⟨_, List.getElem?_eq_getElem hlt⟩
    obtain ⟨bq, oq, kq, e, hxc⟩ := hP.cell went.length (.int .i64 x) (by rw [List.getElem?_map, hx]; rfl)
    injection e with e1 e2 e3
    subst e1 e3
    obtain ⟨k, hk, hk2, hk3⟩ := placed_mem x hne
    have h1 := Int.lt_tmod_of_pos x (b := (l.length : Int)) (by omega)
    have h2 := Int.tmod_lt_of_pos x (b := (l.length : Int)) (by omega)
    have h3 := Int.emod_nonneg x (b := (l.length : Int)) (by omega)
    have h4 := Int.emod_lt_of_pos x (b := (l.length : Int)) (by omega)
    have hc := hLc k _ hk2
    (repeat (first | refine EK.seq ?_ | refine EK.region ?_ | refine ER.done ?_ | refine ER.move rfl rfl rfl ?_ | refine ER.assign rfl rfl rfl ?_ | refine ER.cmpT rfl rfl rfl rfl rfl (by first | (dsimp only [cmpP]; omega) | exact rfl | exact Int.le_refl _) ?_ | refine ER.len1 rfl rfl rfl ?_ | refine ER.indexSl rfl rfl rfl rfl (by omega) (by omega) ?_ | refine EK.condT rfl ?_ | refine ER.load1 rfl rfl rfl (by assumption) ?_))
    refine ER.rem (r := x.tmod (l.length : Int)) rfl rfl rfl rfl (by omega) rfl ?_
    (repeat (first | refine ER.move rfl rfl rfl ?_ | refine ER.add (kd := .i64) rfl rfl rfl rfl (i64_in (by omega) (by omega)) ?_ | refine ER.len1 rfl rfl rfl ?_))
    refine ER.rem (r := x % (l.length : Int)) rfl rfl rfl rfl (by omega) (tmod_twice x (by omega)) ?_
    refine ER.indexSl rfl rfl rfl rfl h3 h4 ?_
    rw [hk3]
    (repeat (first | refine ER.done ?_ | refine ER.assign rfl rfl rfl ?_ | refine EK.ret ?_ | refine ER.load1 rfl rfl rfl (by assumption) ?_))
    refine EU.ret1 rfl rfl ?_
    rw [show pickOf picks went l = placed x l by unfold pickOf; rw [hx]]
    exact det
  · have hx : picks[went.length]? = none := List.getElem?_eq_none (by omega)
    have hpick : pickOf picks went l = roundOf l (lastOf went) := by unfold pickOf; rw [hx]
    rw [hpick]
    have e0 : l[0]? = some (l.headD 0) := by cases l with | nil => exact absurd rfl hne | cons a t => rfl
    have hc0 := hLc 0 _ e0
    obtain ⟨last, hlast⟩ : ∃ last, last = lastOf went := ⟨_, rfl⟩
    rw [<- hlast]
    by_cases hw0 : 0 < went.length
    · obtain ⟨bw, kw, rfl, hWc, _⟩ := hW.cell hw0
      have hwc : hcell h ⟨bw, 0 + ((went.length : Int) - 1).toNat * 1, none⟩ = some (.int .i64 last) := by
        rw [Nat.zero_add, Nat.mul_one, show ((went.length : Int) - 1).toNat = went.length - 1 by omega]
        refine hWc _ _ ?_
        rw [List.getElem?_map, hlast]
        unfold lastOf
        rw [List.getLast?_eq_getElem?, List.getElem?_eq_getElem (show went.length - 1 < went.length by omega)]
        rfl
      (repeat (first | refine EK.seq ?_ | refine EK.region ?_ | refine ER.done ?_ | refine EK.skip ?_ | refine EK.block ?_ | refine ER.move rfl rfl rfl ?_ | refine ER.assign rfl rfl rfl ?_ | refine ER.nilCheck rfl rfl rfl ?_ | refine ER.fieldAddr rfl rfl rfl ?_ | refine ER.cmpT rfl rfl rfl rfl rfl (by first | (dsimp only [cmpP]; omega) | exact rfl | exact Int.le_refl _) ?_ | refine ER.cmpF rfl rfl rfl rfl rfl (by first | (dsimp only [cmpP]; omega) | exact rfl | exact Int.le_refl _) ?_ | refine ER.sub' (kd := .i64) rfl rfl rfl rfl (i64_in (by omega) (by omega)) ?_ | refine ER.len1 rfl rfl rfl ?_ | refine ER.indexSl rfl rfl rfl rfl (by omega) (by omega) ?_ | refine EK.condT rfl ?_ | refine EK.condF rfl ?_ | refine ER.load1 rfl rfl rfl (by assumption) ?_))
      refine EK.loopInv (fun i : Nat => [(42, .int .i64 i), (41, .int .i64 l.length), (40, .slice (some ⟨bL, 0, none⟩) l.length kL), (7, .int .i64 last), (1, .slice (some ⟨bL, 0, none⟩) l.length kL)]) (fun i h' δ' => i <= l.length /\ h' = h /\ δ' = δ /\ ∀ (k x : Nat), k < i -> l[k]? = some x -> (x : Int) <= last) (fun i => l.length - i) 0 ⟨rfl, rfl, rfl, rfl, rfl, trivial⟩ ⟨Nat.zero_le _, rfl, rfl, fun k x hk => by omega⟩ ?_
      rintro i h1 δ1 ⟨hi, rfl, rfl, hb⟩ again
      by_cases hin : i < l.length
      · obtain ⟨j, hj⟩ : ∃ j, l[i]? = some j := ⟨_, List.getElem?_eq_getElem hin⟩
        have hc := hLc i j hj
        have hn := hnum j (List.mem_of_getElem? hj)
        by_cases hgt : last < (j : Int)
        · (repeat (first | refine EK.seq ?_ | refine EK.region ?_ | refine ER.done ?_ | refine EK.skip ?_ | refine EK.block ?_ | refine ER.move rfl rfl rfl ?_ | refine ER.assign rfl rfl rfl ?_ | refine ER.nilCheck rfl rfl rfl ?_ | refine ER.fieldAddr rfl rfl rfl ?_ | refine ER.cmpT rfl rfl rfl rfl rfl (by first | (dsimp only [cmpP]; omega) | exact rfl | exact Int.le_refl _) ?_ | refine ER.indexSl rfl rfl rfl rfl (by omega) (by omega) ?_ | refine EK.condT rfl ?_ | refine EK.ret ?_ | refine ER.load1 rfl rfl rfl (by assumption) ?_))
          refine EU.ret1 rfl rfl ?_
          rw [round_at hj hgt hb]
          exact det
        · (repeat (first | refine EK.seq ?_ | refine EK.region ?_ | refine ER.done ?_ | refine EK.skip ?_ | refine EK.block ?_ | refine EK.inBlock ?_ | refine ER.move rfl rfl rfl ?_ | refine ER.assign rfl rfl rfl ?_ | refine ER.nilCheck rfl rfl rfl ?_ | refine ER.fieldAddr rfl rfl rfl ?_ | refine ER.cmpT rfl rfl rfl rfl rfl (by first | (dsimp only [cmpP]; omega) | exact rfl | exact Int.le_refl _) ?_ | refine ER.cmpF rfl rfl rfl rfl rfl (by first | (dsimp only [cmpP]; omega) | exact rfl | exact Int.le_refl _) ?_ | refine ER.add (kd := .i64) rfl rfl rfl rfl (i64_in (by omega) (by omega)) ?_ | refine ER.indexSl rfl rfl rfl rfl (by omega) (by omega) ?_ | refine EK.condT rfl ?_ | refine EK.condF rfl ?_ | refine ER.load1 rfl rfl rfl (by assumption) ?_))
          refine EK.back (again (i + 1) _ _ (by omega) ⟨by omega, rfl, rfl, fun k x hk hx => ?_⟩) ⟨rfl, rfl, rfl, rfl, rfl, trivial⟩
          by_cases e : k = i
          · subst e
            rw [hj] at hx; cases hx; omega
          · exact hb k x (by omega) hx
      · obtain rfl : i = l.length := by omega
        clear again
        (repeat (first | refine EK.seq ?_ | refine EK.region ?_ | refine ER.done ?_ | refine ER.move rfl rfl rfl ?_ | refine ER.assign rfl rfl rfl ?_ | refine ER.cmpF rfl rfl rfl rfl rfl (by first | (dsimp only [cmpP]; omega) | exact rfl | exact Int.le_refl _) ?_ | refine ER.indexSl rfl rfl rfl rfl (by omega) (by omega) ?_ | refine EK.condF rfl ?_ | refine EK.ret ?_ | refine EK.exit rfl ?_ | refine ER.load1 rfl rfl rfl (by assumption) ?_))
        refine EU.ret1 rfl rfl ?_
        rw [round_none (fun k x hx => hb k x (by
          rcases Nat.lt_or_ge k l.length with y | y
          · exact y
          · rw [List.getElem?_eq_none y] at hx; cases hx) hx)]
        exact det
    · have : went = [] := by
        cases went with
        | nil => rfl
        | cons a t => simp at hw0
      subst this
      have hl1 : last = -1 := hlast
      subst hl1
      (repeat (first | refine EK.seq ?_ | refine EK.region ?_ | refine ER.done ?_ | refine EK.skip ?_ | refine EK.block ?_ | refine ER.move rfl rfl rfl ?_ | refine ER.assign rfl rfl rfl ?_ | refine ER.cmpF rfl rfl rfl rfl rfl (by first | (dsimp only [cmpP]; omega) | exact rfl | exact Int.le_refl _) ?_ | refine ER.len1 rfl rfl rfl ?_ | refine EK.condF rfl ?_ | refine ER.load1 rfl rfl rfl (by assumption) ?_))
      generalize (-1 : Int) = last
      refine EK.loopInv (fun i : Nat => [(42, .int .i64 i), (41, .int .i64 l.length), (40, .slice (some ⟨bL, 0, none⟩) l.length kL), (7, .int .i64 last), (1, .slice (some ⟨bL, 0, none⟩) l.length kL)]) (fun i h' δ' => i <= l.length /\ h' = h /\ δ' = δ /\ ∀ (k x : Nat), k < i -> l[k]? = some x -> (x : Int) <= last) (fun i => l.length - i) 0 ⟨rfl, rfl, rfl, rfl, rfl, trivial⟩ ⟨Nat.zero_le _, rfl, rfl, fun k x hk => by omega⟩ ?_
      rintro i h1 δ1 ⟨hi, rfl, rfl, hb⟩ again
      by_cases hin : i < l.length
      · obtain ⟨j, hj⟩ : ∃ j, l[i]? = some j := ⟨_, List.getElem?_eq_getElem hin⟩
        have hc := hLc i j hj
        have hn := hnum j (List.mem_of_getElem? hj)
        by_cases hgt : last < (j : Int)
        · (repeat (first | refine EK.seq ?_ | refine EK.region ?_ | refine ER.done ?_ | refine EK.skip ?_ | refine EK.block ?_ | refine ER.move rfl rfl rfl ?_ | refine ER.assign rfl rfl rfl ?_ | refine ER.nilCheck rfl rfl rfl ?_ | refine ER.fieldAddr rfl rfl rfl ?_ | refine ER.cmpT rfl rfl rfl rfl rfl (by first | (dsimp only [cmpP]; omega) | exact rfl | exact Int.le_refl _) ?_ | refine ER.indexSl rfl rfl rfl rfl (by omega) (by omega) ?_ | refine EK.condT rfl ?_ | refine EK.ret ?_ | refine ER.load1 rfl rfl rfl (by assumption) ?_))
          refine EU.ret1 rfl rfl ?_
          rw [round_at hj hgt hb]
          exact det
        · (repeat (first | refine EK.seq ?_ | refine EK.region ?_ | refine ER.done ?_ | refine EK.skip ?_ | refine EK.block ?_ | refine EK.inBlock ?_ | refine ER.move rfl rfl rfl ?_ | refine ER.assign rfl rfl rfl ?_ | refine ER.nilCheck rfl rfl rfl ?_ | refine ER.fieldAddr rfl rfl rfl ?_ | refine ER.cmpT rfl rfl rfl rfl rfl (by first | (dsimp only [cmpP]; omega) | exact rfl | exact Int.le_refl _) ?_ | refine ER.cmpF rfl rfl rfl rfl rfl (by first | (dsimp only [cmpP]; omega) | exact rfl | exact Int.le_refl _) ?_ | refine ER.add (kd := .i64) rfl rfl rfl rfl (i64_in (by omega) (by omega)) ?_ | refine ER.indexSl rfl rfl rfl rfl (by omega) (by omega) ?_ | refine EK.condT rfl ?_ | refine EK.condF rfl ?_ | refine ER.load1 rfl rfl rfl (by assumption) ?_))
          refine EK.back (again (i + 1) _ _ (by omega) ⟨by omega, rfl, rfl, fun k x hk hx => ?_⟩) ⟨rfl, rfl, rfl, rfl, rfl, trivial⟩
          by_cases e : k = i
          · subst e
            rw [hj] at hx; cases hx; omega
          · exact hb k x (by omega) hx
      · obtain rfl : i = l.length := by omega
        clear again
        (repeat (first | refine EK.seq ?_ | refine EK.region ?_ | refine ER.done ?_ | refine ER.move rfl rfl rfl ?_ | refine ER.assign rfl rfl rfl ?_ | refine ER.cmpF rfl rfl rfl rfl rfl (by first | (dsimp only [cmpP]; omega) | exact rfl | exact Int.le_refl _) ?_ | refine ER.indexSl rfl rfl rfl rfl (by omega) (by omega) ?_ | refine EK.condF rfl ?_ | refine EK.ret ?_ | refine EK.exit rfl ?_ | refine ER.load1 rfl rfl rfl (by assumption) ?_))
        refine EU.ret1 rfl rfl ?_
        rw [round_none (fun k x hx => hb k x (by
          rcases Nat.lt_or_ge k l.length with y | y
          · exact y
          · rw [List.getElem?_eq_none y] at hx; cases hx) hx)]
        exact det
end
end
section
open Go Go.TJ Go.Conc Go.Proofs
inductive Chain (X : Us) (v0 : Nat -> Int) : List Ev -> (Nat -> Int) -> Prop
  | nil : Chain X v0 [] v0
  | snoc {l : List Ev} {v : Nat -> Int} (i : Nat) (r : Rq) : Chain X v0 l v -> RqOk X r -> Chain X v0 (l ++ [evOf i r (v r.b)]) (ut v r.b (behind r.op (v r.b) r.arg r.new).1)
def aliveAt {U : Type} (p : PS U) (k : Nat) : List Nat := (List.range p.num).filter (fun j => !p.gone j || (p.log.drop k).any (fun e => e.thr == j))
structure Reg (X : Us) (v0 : Nat -> Int) (picks : List Int) (nb : Nat) (p : PS X.U) : Prop where
  num : p.num = nb
  fl : p.fl = nb
  stops : p.stops = false
  went : p.went = p.log.map (·.thr)
  rdy : p.rdy.length = p.log.length
  alive : ∀ j, j < nb -> (p.gone j = false /\ ∃ r, p.st j = .stands r /\ RqOk X r) \/ (p.gone j = true /\ p.st j = .over)
  chain : Chain X v0 p.log p.val
  turns : ∀ (k : Nat) (e : Ev), p.log[k]? = some e -> p.rdy[k]? = some (aliveAt p k).length /\ e.thr = pickOf picks ((p.log.take k).map (·.thr)) (aliveAt p k) /\ e.thr ∈ aliveAt p k
section
variable {X : Us} {v0 : Nat -> Int} {picks : List Int} {nb : Nat} {p : PS X.U}
theorem aliveAt_end {U : Type} {p : PS U} {k : Nat} (hk : p.log.length <= k) : aliveAt p k = p.live p.num := by
  unfold aliveAt PS.live
  rw [List.drop_eq_nil_of_le hk]
  simp
theorem mem_live {U : Type} {p : PS U} {n j : Nat} : j ∈ p.live n ↔ j < n /\ p.gone j = false := by
  unfold PS.live
  simp
theorem pick_mem {l : List Nat} (hl : l ≠ []) (picks : List Int) (went : List Nat) : pickOf picks went l ∈ l := by
  unfold pickOf
  split
  · rename_i x _
    obtain ⟨k, _, h, _⟩ := placed_mem x hl
    exact List.mem_of_getElem? h
  · unfold roundOf
    cases h : l.find? (fun (j : Nat) => decide (lastOf went < (j : Int))) with
    | some y => exact List.mem_of_find?_eq_some h
    | none => cases l with
      | nil => exact absurd rfl hl
      | cons a t => simp
theorem Reg.turn (R : Reg X v0 picks nb p) {j : Nat} (hj : j = pickOf picks p.went (p.live nb)) (hl : p.live nb ≠ []) {u : X.U} {L : List (Nat × Obj)} {t : Ph} (ht : t ≠ .born) (ht' : ∀ r, t = .stands r -> RqOk X r) :
    Reg X v0 picks nb (PS.turn { p with went := p.went ++ [j], rdy := p.rdy ++ [(p.live nb).length] } j u L t (isOver t)) := by
  have hjm : j ∈ p.live nb := by rw [hj]; exact pick_mem hl _ _
  obtain ⟨hjn, hjg⟩ := mem_live.1 hjm
  obtain ⟨r, hr, hrok⟩ : ∃ r, p.st j = .stands r /\ RqOk X r := by
    rcases R.alive j hjn with ⟨_, r, h1, h2⟩ | ⟨h1, _⟩
    · exact ⟨r, h1, h2⟩
    · rw [hjg] at h1; cases h1
  have ea : PS.acc { p with went := p.went ++ [j], rdy := p.rdy ++ [(p.live nb).length] } j = { p with went := p.went ++ [j], rdy := p.rdy ++ [(p.live nb).length], log := p.log ++ [evOf j r (p.val r.b)], val := ut p.val r.b (behind r.op (p.val r.b) r.arg r.new).1 } := acc_stands _ _ hr
  unfold PS.turn
  rw [ea]
  dsimp only
  have hg : ∀ x, ut p.gone j (isOver t) x = if x = j then isOver t else p.gone x := fun x => rfl
  have al : ∀ k, k <= p.log.length -> aliveAt { p with u := u, prv := ut p.prv j L, st := ut p.st j t, gone := ut p.gone j (isOver t), went := p.went ++ [j], rdy := p.rdy ++ [(p.live nb).length], log := p.log ++ [evOf j r (p.val r.b)], val := ut p.val r.b (behind r.op (p.val r.b) r.arg r.new).1 } k = aliveAt p k := fun k hk => by
    unfold aliveAt
    dsimp only
    refine List.filter_congr fun x hx => ?_
    rw [List.drop_append_of_le_length hk, List.any_append, hg]
    by_cases e : x = j
    · subst e
      rw [hjg]
      simp [evOf]
    · rw [if_neg e]
      have : (([evOf j r (p.val r.b)] : List Ev).any fun e => e.thr == x) = false := by
        simp only [List.any_cons, List.any_nil, Bool.or_false]
        show (j == x) = false
        simpa using Ne.symm e
      rw [this, Bool.or_false]
  refine ⟨R.num, R.fl, R.stops, ?_, ?_, fun x hx => ?_, Chain.snoc j r R.chain hrok, fun k e hk => ?_⟩
  · rw [List.map_append, R.went]; rfl
  · simp [R.rdy]
  · dsimp only
    by_cases e : x = j
    · subst e
      rw [ut_same, ut_same]
      cases t with
      | born => exact absurd rfl ht
      | stands r => exact .inl ⟨rfl, r, rfl, ht' r rfl⟩
      | over => exact .inr ⟨rfl, rfl⟩
    · rw [ut_ne _ _ e, ut_ne _ _ e]; exact R.alive x hx
  · dsimp only at hk
    rcases Nat.lt_or_ge k p.log.length with y | y
    · rw [List.getElem?_append_left y] at hk
      obtain ⟨h1, h2, h3⟩ := R.turns k e hk
      rw [al k (by omega)]
      dsimp only
      rw [List.getElem?_append_left (by rw [R.rdy]; exact y), List.take_append_of_le_length (by omega)]
      exact ⟨h1, h2, h3⟩
    · have hk2 : k < (p.log ++ [evOf j r (p.val r.b)]).length := by
        rcases Nat.lt_or_ge k (p.log ++ [evOf j r (p.val r.b)]).length with z | z
        · exact z
        · rw [List.getElem?_eq_none z] at hk; cases hk
      obtain rfl : k = p.log.length := by simp at hk2; omega
      rw [List.getElem?_append_right (Nat.le_refl _), Nat.sub_self] at hk
      obtain rfl : evOf j r (p.val r.b) = e := by simpa using hk
      rw [al _ (Nat.le_refl _), aliveAt_end (Nat.le_refl _), R.num]
      dsimp only
      refine ⟨?_, ?_, hjm⟩
      · rw [<- R.rdy, List.getElem?_append_right (Nat.le_refl _), Nat.sub_self]; rfl
      · rw [List.take_left, <- R.went]; exact hj
end
end
section
open Go Go.TJ Go.Conc Go.Proofs
section
variable {X : Us} {h : Hp} {γ : GG X}
structure Sta (X : Us) (W : Nat -> Prop) (h0 : Hp) (R : Nat) (p : PS X.U) (h : Hp) : Prop where
  gi : ∃ s M, GI X W p (nums p.log) s M h
  I : X.I p.u h
  J : X.J p.log p.u p.val
  Q : ∀ x, X.Q x (ownOf x p.log) (p.st x) p.u
  R : p.R = R
  upd : Upd W h0 h
theorem I_upd (hX : X.Ok) {W T : Nat -> Prop} {p : PS X.U} {ns : List Nat} {s : Sls} {M : Mem Nm} {h h' : Hp} (g : GI X W p ns s M h) (u : Upd T h h') (hT : ∀ c, T c -> ∃ k, M.ok k /\ M.B k = c) (hI : X.I p.u h) : X.I p.u h' :=
  hX.loc _ _ _ (fun b hb => u.2 b (g.dom b hb).1 (fun x => by
    obtain ⟨k, hk, e⟩ := hT b x
    exact (g.apart k hk).2 (by rw [e]; exact hb))) hI
theorem Sta.of {W : Nat -> Prop} {h0 h' : Hp} {R : Nat} {γ' : GG X} (hW : ∀ c, h0.size <= c -> W c) (hP : P0 X γ' h') (e3 : γ'.W = W) (hb : h0.size <= γ'.base.size) (u : Upd W h0 h') (eR : γ'.was.R = R) : Sta X W h0 R γ'.p h' := by
  obtain ⟨y1, y2, y3⟩ := hP
  obtain ⟨s, M, g⟩ := y3.gi
  have hwd : ∀ b, Wide γ'.W γ'.base b -> W b := fun b hb' => by
    rw [e3] at hb'
    exact hb'.elim id fun y => hW b (Nat.le_trans hb y)
  exact ⟨⟨s, M, g.monoW hwd⟩, y3.I, y3.J, y3.Q, (turned_same y2).1.trans eR, u⟩
theorem begun {γ' : GG X} {i : Nat} {p : PS X.U} {t w sd bx bf br : Nat} {fv : Value} (hi : p.num = i) (hs : p.stops = false) (hl : p.log = []) (ew : γ'.was = { p.newT t w sd bx bf br fv with fl := p.fl + 1 }) (hT : Turned X γ'.was γ'.p i) :
    γ'.p.num = i + 1 /\ γ'.p.fl = p.fl + 1 /\ γ'.p.log = [] /\ γ'.p.went = p.went /\ γ'.p.rdy = p.rdy /\ γ'.p.stops = false /\ γ'.p.val = p.val /\ (∀ j, i + 1 <= j -> γ'.p.st j = p.st j) /\ (∀ j, j < i -> γ'.p.st j = p.st j /\ γ'.p.gone j = p.gone j) /\ ((γ'.p.gone i = false /\ ∃ r, γ'.p.st i = .stands r /\ RqOk X r) \/ (γ'.p.gone i = true /\ γ'.p.st i = .over)) := by
  subst hi
  rcases hT with ⟨_, u, L, z, e, hz, hr⟩ | ⟨h1, _⟩
  · have hb : γ'.was.st p.num = .born := by rw [ew]; exact ut_same _ _ _
    have ea := acc_born γ'.was p.num hb
    unfold PS.turn at e
    rw [ea, ew] at e
    rw [e]
    refine ⟨rfl, rfl, hl, rfl, rfl, hs, rfl, fun j hj => ?_, fun j hj => ⟨?_, ?_⟩, ?_⟩
    · show ut (ut p.st p.num .born) p.num z j = _
      rw [ut_ne _ _ (by omega), ut_ne _ _ (by omega)]
    · show ut (ut p.st p.num .born) p.num z j = _
      rw [ut_ne _ _ (by omega), ut_ne _ _ (by omega)]
    · show ut (ut p.gone p.num false) p.num (isOver z) j = _
      rw [ut_ne _ _ (by omega), ut_ne _ _ (by omega)]
    · show (ut (ut p.gone p.num false) p.num (isOver z) p.num = false /\ ∃ r, ut (ut p.st p.num .born) p.num z p.num = .stands r /\ RqOk X r) \/ (ut (ut p.gone p.num false) p.num (isOver z) p.num = true /\ ut (ut p.st p.num .born) p.num z p.num = .over)
      rw [ut_same, ut_same]
      cases z with
      | born => exact absurd rfl hz
      | stands r => exact .inl ⟨rfl, r, rfl, hr r rfl⟩
      | over => exact .inr ⟨rfl, rfl⟩
  · rw [ew] at h1
    have h1' : p.stops = true := h1
    rw [hs] at h1'; cases h1'
set_option maxHeartbeats 8000000 in
set_option maxRecDepth 8000 in
theorem untilG (hX : X.Ok) {p0 : PS X.U} (hv0 : Mine X γ.p p0) {W : Nat -> Prop} {R bP bR : Nat} {sP : Value} {picks : List Int} {most : Nat} {bods : List (FuncId × Array Value)} {sB : Value} (hW : ∀ c, h.size <= c -> W c) (s0 : Sta X W h R p0 h)
    (hst : p0.num = 0 /\ p0.fl = 0 /\ p0.log = [] /\ p0.went = [] /\ p0.rdy = [] /\ p0.stops = false /\ ∀ j, p0.st j = .born) (hm : most <= 65536) (hnb : bods.length <= 64)
    (hB : SliceO h sB 35 1 bods.length (bods.map fun q => .func (.func q.1) #[] q.2)) (hBW : ∀ c, blk sB = some c -> ¬ W c) (hP : ∀ u h', X.I u h' -> Upd W h h' -> RdS h' sP (picks.map fun x => .int .i64 x))
    (hbP : hcell h ⟨bP, 0, none⟩ = some sP) (hbPW : ¬ W bP) (hbR : hcell h ⟨bR, 0, none⟩ = some (ptr R)) (hbRW : ¬ W bR) (hbody : ∀ (k : Nat) (q : FuncId × Array Value), bods[k]? = some q -> HasBody Try.prog q.1 /\ Body X k q.1 q.2) :
    CallW Try.prog true (SitM Try.prog (PX X)) 74 #[ptr R, .int .i64 most, sB, .func (.func 75) #[] #[ptr bP, ptr bR]] h ⟨0, γ⟩
      (Ret fun v h' δ' => ∃ γ' p' e, δ' = ⟨0, γ'⟩ /\ Mine X γ'.p p' /\ Sta X W h R p' h' /\ Reg X p0.val picks bods.length p' /\ v = .tuple #[.int .i8 e, .bool true] /\ ((e = 1 /\ p'.live bods.length = [] /\ p'.log.length <= most) \/ (e = 2 /\ p'.live bods.length ≠ [] /\ p'.log.length = most))) := by
  obtain ⟨b1, b2, b3, b4, b5, b6, b7⟩ := hst
  obtain ⟨aB, kB, eB⟩ := hB.val
  subst eB
  refine CallW.start (n := 80) rfl rfl ?_
  (repeat (first | refine EK.seq ?_ | refine EK.region ?_ | refine ER.done ?_ | refine EK.block ?_ | refine ER.move rfl rfl rfl ?_ | refine ER.assign rfl rfl rfl ?_ | refine ER.len1 rfl rfl rfl ?_))
  refine EK.loopInv (fun q : Nat × GG X × PS X.U => [(17, .int .i64 q.1), (15, .slice aB bods.length kB), (16, .int .i64 bods.length), (0, ptr R), (1, .int .i64 most), (3, .func (.func 75) #[] #[ptr bP, ptr bR])]) (fun q h' δ' => q.1 <= bods.length /\ δ' = ⟨0, q.2.1⟩ /\ Mine X q.2.1.p q.2.2 /\ Sta X W h R q.2.2 h' /\ q.2.2.num = q.1 /\ q.2.2.fl = q.1 /\ q.2.2.log = [] /\ q.2.2.went = [] /\ q.2.2.rdy = [] /\ q.2.2.stops = false /\ q.2.2.val = p0.val /\ (∀ j, q.1 <= j -> q.2.2.st j = .born) /\ ∀ j, j < q.1 -> (q.2.2.gone j = false /\ ∃ r, q.2.2.st j = .stands r /\ RqOk X r) \/ (q.2.2.gone j = true /\ q.2.2.st j = .over))
    (fun q => bods.length - q.1) (0, γ, p0) ⟨rfl, rfl, rfl, rfl, rfl, rfl, trivial⟩ ⟨Nat.zero_le _, rfl, hv0, s0, b1, b2, b3, b4, b5, b6, rfl, fun j _ => b7 j, fun j hj => by omega⟩ ?_
  rintro ⟨i, γ1, p1⟩ h1 δ1 ⟨hi, hδ, hv, sa, c1, c2, c3, c4, c5, c6, c7, c8, c9⟩ again
  dsimp only at hi hv sa c1 c2 c3 c4 c5 c6 c7 c8 c9 again hδ ⊢
  subst hδ
  by_cases hin : i < bods.length
  · obtain ⟨bb, kk, e, hBc, _⟩ := hB.cell (by omega)
    injection e with e1 e2 e3
    subst e1 e3
    obtain ⟨⟨fb, cap⟩, hq⟩ : ∃ q, bods[i]? = some q := ⟨_, List.getElem?_eq_getElem hin⟩
    obtain ⟨hasB, hbd⟩ := hbody i _ hq
    have hc : hcell h1 ⟨bb, 0 + i * 1, none⟩ = some (.func (.func fb) #[] cap) := by
      rw [Nat.zero_add, Nat.mul_one]
      exact sa.upd.hcell (hBc i _ (by rw [List.getElem?_map, hq]; rfl)) (hBW bb rfl)
    obtain ⟨s, M, g⟩ := sa.gi
    have hbegin := beginG (γ := γ1) (p0 := p1) hX hv (b := fb) (cap := cap) g sa.I sa.J sa.Q c6 c3 (by omega) (by rw [c1, c2]) (fun c hc => hW c (Nat.le_trans sa.upd.size hc)) (by rw [c1]; exact hbd) (by rw [c1]; exact c8 i (Nat.le_refl _))
    rw [sa.R] at hbegin
    (repeat (first | refine EK.seq ?_ | refine EK.region ?_ | refine ER.done ?_ | refine EK.skip ?_ | refine EK.block ?_ | refine ER.move rfl rfl rfl ?_ | refine ER.assign rfl rfl rfl ?_ | refine ER.cmpT rfl rfl rfl rfl rfl (by first | (dsimp only [cmpP]; omega) | exact rfl | exact Int.le_refl _) ?_ | refine ER.indexSl rfl rfl rfl rfl (by omega) (by omega) ?_ | refine EK.condT rfl ?_ | refine ER.load1 rfl rfl rfl (by assumption) ?_))
    refine ER.callR rfl rfl rfl rfl rfl hbegin ?_
    rintro v h2 δ2 ⟨γ2, t, w, sd, bx, bf, br, rfl, ew, eW, er, hP0, u2, hbs⟩
    have hT := hP0.2.1
    rw [er, c1] at hT
    obtain ⟨d1, d2, d3, d4, d5, d6, d7, d8, d9, d10⟩ := begun c1 c6 c3 ew hT
    have sb : Sta X W h R γ2.p h2 := Sta.of hW hP0 eW (Nat.le_trans sa.upd.size hbs) (sa.upd.trans u2) (by rw [ew]; exact sa.R)
    (repeat (first | refine EK.region ?_ | refine ER.done ?_ | refine EK.inBlock ?_ | refine ER.move rfl rfl rfl ?_ | refine ER.add (kd := .i64) rfl rfl rfl rfl (i64_in (by omega) (by omega)) ?_))
    refine EK.back (again (i + 1, γ2, γ2.p) _ _ (by dsimp only; omega) ⟨by dsimp only; omega, rfl, Mine.refl _, sb, d1, by rw [d2, c2], d3, d4.trans c4, d5.trans c5, d6, d7.trans c7, fun j hj => (d8 j hj).trans (c8 j (by dsimp only at hj; omega)), fun j hj => ?_⟩) ⟨rfl, rfl, rfl, rfl, rfl, rfl, trivial⟩
    dsimp only at hj ⊢
    by_cases e : j = i
    · subst e; exact d10
    · obtain ⟨q1, q2⟩ := d9 j (by omega)
      rw [q1, q2]; exact c9 j (by omega)
  · obtain rfl : i = bods.length := by omega
    clear again
    (repeat (first | refine EK.seq ?_ | refine EK.region ?_ | refine ER.done ?_ | refine EK.block ?_ | refine ER.cmpF rfl rfl rfl rfl rfl (by first | (dsimp only [cmpP]; omega) | exact rfl | exact Int.le_refl _) ?_ | refine EK.condF rfl ?_ | refine EK.exit rfl ?_))
    have reg0 : Reg X p0.val picks bods.length p1 := ⟨c1, c2, c6, by rw [c4, c3]; rfl, by rw [c5, c3]; rfl, c9, by rw [c3, c7]; exact Chain.nil, fun k e hk => by rw [c3] at hk; simp at hk⟩
    refine EK.loopInv (fun _ : GG X × PS X.U => [(0, ptr R), (1, .int .i64 most), (3, .func (.func 75) #[] #[ptr bP, ptr bR])]) (fun q h' δ' => δ' = ⟨0, q.1⟩ /\ Mine X q.1.p q.2 /\ Sta X W h R q.2 h' /\ Reg X p0.val picks bods.length q.2 /\ q.2.log.length <= most)
      (fun q => most - q.2.log.length) (γ1, p1) ⟨rfl, rfl, rfl, trivial⟩ ⟨rfl, hv, sa, reg0, by rw [c3]; exact Nat.zero_le _⟩ ?_
    clear sa reg0 c1 c2 c3 c4 c5 c6 c7 c8 c9 hi hin hv h1 p1 γ1
    rintro ⟨γ1, p1⟩ h1 δ1 ⟨hδ, hv, sa, rg, hlm⟩ again
    dsimp only at hv sa rg hlm again hδ ⊢
    subst hδ
    obtain ⟨s, M, g⟩ := sa.gi
    have hnum := rg.num
    have hable := ableG (p := p1) (γ := γ1) hv g (by rw [hnum]; exact hnb) (fun j hj hg => by
      rcases rg.alive j (by rw [<- hnum]; exact hj) with ⟨_, r, y1, y2⟩ | ⟨y, _⟩
      · exact ⟨r, y1, y2⟩
      · rw [hg] at y; cases y)
    rw [sa.R, hnum] at hable
    (repeat (first | refine EK.seq ?_ | refine EK.region ?_ | refine EK.block ?_ | refine ER.move rfl rfl rfl ?_))
    refine ER.callR rfl rfl rfl rfl rfl hable ?_
    rintro _ h2 δ2 ⟨rfl, lv, rfl, u2, sl, hlb⟩
    obtain ⟨aL, kL, eL⟩ := sl.val
    subst eL
    have g2 := g.upd0 u2
    have uh2 : Upd W h h2 := sa.upd.trans (u2.mono fun _ _ x => x.elim)
    have I2 : X.I p1.u h2 := hX.loc _ _ _ (fun b hb => u2.2 b (g.dom b hb).1 (fun x => x)) sa.I
    have sb : Sta X W h R p1 h2 := ⟨⟨s, M, g2⟩, I2, sa.J, sa.Q, sa.R, uh2⟩
    cases hl : p1.live bods.length with
    | nil =>
      rw [hl] at sl hlb
      (repeat (first | refine EK.seq ?_ | refine EK.region ?_ | refine ER.done ?_ | refine EK.block ?_ | refine ER.move rfl rfl rfl ?_ | refine ER.assign rfl rfl rfl ?_ | refine ER.extract rfl rfl rfl rfl ?_ | refine EK.condT rfl ?_ | refine EK.ret ?_))
      exact EU.ret2 rfl rfl rfl ⟨γ1, p1, 1, rfl, hv, sb, rg, rfl, .inl ⟨rfl, hl, hlm⟩⟩
    | cons j0 lt =>
      have hlne : p1.live bods.length ≠ [] := by rw [hl]; exact nofun
      have hlen0 : 0 < (p1.live bods.length).length := List.length_pos_iff.2 hlne
      have hemp : (j0 :: lt).isEmpty = false := rfl
      rw [hemp]
      rw [<- hl]
      have hlen64 : (p1.live bods.length).length <= 64 := by
        unfold PS.live
        have := List.length_filter_le (fun j => !p1.gone j) (List.range bods.length)
        rw [List.length_range] at this; omega
      obtain ⟨aW, kW, eW⟩ := Mem.Sl.val (show M.Sl .went s.W 3 1 p1.went.length (p1.went.map fun (n : Nat) => Value.int .i64 (n : Int)) from g.all .went)
      have hrun2 := g2.runAt
      rw [sa.R] at hrun2
      have w3 : hcell h2 ⟨R, 3, none⟩ = some (.slice aW p1.went.length kW) := by rw [<- eW]; exact hcell_of hrun2 rfl
      have hwl : p1.went.length = p1.log.length := by rw [rg.went, List.length_map]
      clear hrun2
      by_cases hcut : p1.went.length = most
      · (repeat (first | refine EK.seq ?_ | refine EK.region ?_ | refine ER.done ?_ | refine EK.block ?_ | refine ER.move rfl rfl rfl ?_ | refine ER.assign rfl rfl rfl ?_ | refine ER.nilCheck rfl rfl rfl ?_ | refine ER.fieldAddr rfl rfl rfl ?_ | refine ER.extract rfl rfl rfl rfl ?_ | refine ER.cmpT rfl rfl rfl rfl rfl (by first | (dsimp only [cmpP]; omega) | exact rfl | exact Int.le_refl _) ?_ | refine ER.cmpF rfl rfl rfl rfl rfl (by first | (dsimp only [cmpP]; omega) | exact rfl | exact Int.le_refl _) ?_ | refine ER.len1 rfl rfl rfl ?_ | refine EK.condT rfl ?_ | refine EK.condF rfl ?_ | refine EK.ret ?_ | refine ER.load1 rfl rfl rfl (by assumption) ?_))
        exact EU.ret2 rfl rfl rfl ⟨γ1, p1, 2, rfl, hv, sb, rg, rfl, .inr ⟨rfl, hlne, hwl.symm.trans hcut⟩⟩
      · have hjm := pick_mem hlne picks p1.went
        have hsch := schedG (main := true) (S := SitM Try.prog (PX X)) (δ := ⟨0, γ1⟩) (picks := picks) (went := p1.went) (l := p1.live bods.length) (tb := p1.tb) (hP _ _ I2 uh2) (uh2.hcell hbP hbPW) (uh2.hcell hbR hbRW) w3 (by rw [<- eW]; exact Mem.Sl.slice g2.rep (g2.all .went)) sl hlne hlen64 (by omega) (fun j hj => by
          obtain ⟨v, a, _, hrow⟩ := g2.thrAt (i := j) (by rw [hnum]; exact (mem_live.1 hj).1)
          exact hcell_of hrow rfl)
        obtain ⟨j, hj⟩ : ∃ j, j = pickOf picks p1.went (p1.live bods.length) := ⟨_, rfl⟩
        rw [<- hj] at hsch hjm
        obtain ⟨hjn, hjg⟩ := mem_live.1 hjm
        have hjn' : j < p1.num := by rw [hnum]; exact hjn
        have wj : hcell h2 ⟨p1.tb j, 1, none⟩ = some (.int .i64 j) := by
          obtain ⟨v, a, _, hrow⟩ := g2.thrAt hjn'
          exact hcell_of hrow rfl
        have hRs : ∀ o, ¬ (SitM Try.prog (PX X)).still γ1 ⟨R, o, none⟩ := fun o => by
          have x := g2.all .run
          rw [<- sa.R, <- x.2.1]; exact stillM_nm hv g2 x.1 (fun j => ⟨nofun, nofun⟩)
        have hwent : M.Sl .went (.slice aW p1.went.length kW) 3 1 p1.went.length (p1.went.map fun (n : Nat) => Value.int .i64 (n : Int)) := by
          have := g2.all .went
          rw [<- eW]; exact this
        (repeat (first | refine EK.seq ?_ | refine EK.region ?_ | refine ER.done ?_ | refine EK.skip ?_ | refine EK.block ?_ | refine EK.inBlock ?_ | refine ER.move rfl rfl rfl ?_ | refine ER.assign rfl rfl rfl ?_ | refine ER.nilCheck rfl rfl rfl ?_ | refine ER.fieldAddr rfl rfl rfl ?_ | refine ER.extract rfl rfl rfl rfl ?_ | refine ER.cmpF rfl rfl rfl rfl rfl (by first | (dsimp only [cmpP]; omega) | exact rfl | exact Int.le_refl _) ?_ | refine ER.len1 rfl rfl rfl ?_ | refine EK.condF rfl ?_ | refine ER.load1 rfl rfl rfl (by assumption) ?_))
        refine ER.callD rfl rfl rfl rfl rfl hsch ?_
        (repeat (first | refine EK.seq ?_ | refine EK.region ?_ | refine ER.done ?_ | refine EK.skip ?_ | refine ER.move rfl rfl rfl ?_ | refine ER.assign rfl rfl rfl ?_ | refine ER.eqV rfl rfl rfl rfl rfl ?_ | refine EK.condF rfl ?_))
        refine EK.regionAnyL (fun h' => hcell h' ⟨R, 3, none⟩ = some (.slice aW p1.went.length kW) /\ hcell h' ⟨p1.tb j, 1, none⟩ = some (.int .i64 j)) 13 ?_
        have hZ := And.intro w3 wj
        refine EA.tMove 0 rfl (by kernel_rfl) rfl rfl rfl rfl hZ ?_
        refine EA.tMove 1 rfl (by kernel_rfl) rfl rfl rfl rfl hZ ?_
        refine EA.tNil 2 rfl (by kernel_rfl) rfl rfl rfl rfl hZ ?_
        refine EA.tField 3 rfl (by kernel_rfl) rfl rfl rfl rfl hZ ?_
        refine EA.tLoad 4 rfl (by kernel_rfl) rfl rfl rfl rfl (fun _ hz => hz.1) hZ ?_
        refine EA.tMove 5 rfl (by kernel_rfl) rfl rfl rfl rfl hZ ?_
        refine EA.tNil 6 rfl (by kernel_rfl) rfl rfl rfl rfl hZ ?_
        refine EA.tField 7 rfl (by kernel_rfl) rfl rfl rfl rfl hZ ?_
        refine EA.tLoad 8 rfl (by kernel_rfl) rfl rfl rfl rfl (fun _ hz => hz.2) hZ ?_
        have hZ3 : _ /\ _ := ⟨hcell_push (o := .cells #[.int .i64 j] 3) w3, hcell_push (o := .cells #[.int .i64 j] 3) wj⟩
        refine EA.val (v := .slice (some ⟨h2.size, 0, none⟩) 1 1) (h' := h2.push (.cells #[.int .i64 j] 3)) 9 rfl (by kernel_rfl) rfl rfl rfl (fun ρ Q X hρ hq => sem_slice1 (sz := 1) hρ rfl (by omega) (by omega) rfl rfl hq) hZ3 ?_
        have g3 := g2.upd0 (Upd.push h2 (.cells #[.int .i64 j] 3))
        refine EA.append1 (new := [.int .i64 j]) 10 rfl (by kernel_rfl) rfl rfl rfl rfl rfl (hwent.slice g3.rep) (get_push_new _ _) rfl (by simp [OneCell]) (by omega) (by omega) rfl (fun c o hc => ?_) ?_
        · obtain ⟨y1, y2⟩ := hwent.blk hc
          rw [y2]; exact stillM_nm hv g2 y1 (fun j => ⟨nofun, nofun⟩)
        intro s4 h4 sl4 u4 hb4
        have nW : ∀ k, M.ok k -> k ≠ .went -> ¬ blk (.slice aW p1.went.length kW) = some (M.B k) := fun k hk hne e => by
          obtain ⟨y1, y2⟩ := hwent.blk e
          exact g3.ne hk y1 hne y2
        have hr3 := g3.all .run
        have hrun3 : (h2.push (.cells #[.int .i64 j] 3))[R]? = some (runO s p1.mb p1.stops) := by rw [<- sa.R]; exact g3.runAt
        have nR : ¬ blk (.slice aW p1.went.length kW) = some R := by have := nW .run hr3.1 nofun; rwa [hr3.2.1, sa.R] at this
        have ht3 := g3.all (.t j) hjn'
        have nT : ¬ blk (.slice aW p1.went.length kW) = some (p1.tb j) := by have := nW (.t j) ht3.1 nofun; rwa [ht3.2.1] at this
        have hrun4 := u4.get hrun3 nR
        have hZ4 := And.intro (u4.hcell hZ3.1 nR) (u4.hcell hZ3.2 nT)
        refine ⟨hZ4, ?_⟩
        obtain ⟨aQ, kQ, eQ⟩ := sl4.val
        refine EA.val 11 rfl (by kernel_rfl) rfl rfl rfl (fun ρ Q X hρ hq => sem_nilCheck (hρ _ _ rfl) hq) hZ4 ?_
        have hZ := hZ4
        refine EA.tField 12 rfl (by kernel_rfl) rfl rfl rfl rfl hZ ?_
        refine EA.unitL (h' := hset h4 ⟨R, 3, none⟩ s4) 13 rfl (by kernel_rfl) rfl rfl rfl (fun ρ Q X hρ hq => sem_store1 (hρ _ _ rfl) (hρ _ _ rfl) (by rw [eQ]; exact ⟨nofun, nofun⟩) ⟨_, hZ4.1⟩ (hfroz_of hrun4) (hRs _) hq) ?_
        refine EA.done (by kernel_rfl) ?_
        have uP2 := uh2.trans (Upd.push (T := W) h2 (.cells #[.int .i64 j] 3))
        obtain ⟨M5, g5⟩ := g3.app (p' := { p1 with went := p1.went ++ [j] }) (sl := { s with W := s4 }) .went hwent sl4 u4 hb4 (fun c hc => hW c (Nat.le_trans uP2.size hc)) nofun rfl rfl (fun i hi x hx => ⟨hi, hx⟩) rfl rfl rfl (fun k' h1 h2 => by
          have y := g3.all k'
          cases k' with
          | went => exact absurd rfl h1
          | run => exact absurd rfl h2
          | _ => exact y) (fun N' y => by
          show N'.Sl .went s4 3 1 (p1.went ++ [j]).length ((p1.went ++ [j]).map fun (n : Nat) => Value.int .i64 (n : Int))
          rw [List.length_append, List.map_append]; exact y) g3.isin
        rw [show h4.setIfInBounds p1.R (runO { s with W := s4 } p1.mb p1.stops) = h4.setIfInBounds R (runO { s with W := s4 } p1.mb p1.stops) by rw [sa.R]] at g5
        have e5 : hset h4 ⟨R, 3, none⟩ s4 = h4.setIfInBounds R (runO { s with W := s4 } p1.mb p1.stops) := hset_block hrun4 _
        rw [e5]
        have hWk : ∀ c, blk (.slice aW p1.went.length kW) = some c -> W c := fun c hc => by
          obtain ⟨y1, y2⟩ := hwent.blk hc
          rw [y2]; exact g3.wide _ y1
        have hWR : W R := by have := g3.wide _ hr3.1; rwa [hr3.2.1, sa.R] at this
        have u5 : Upd W h (h4.setIfInBounds R (runO { s with W := s4 } p1.mb p1.stops)) := (uP2.trans (u4.mono fun c _ hc => hWk c hc)).trans (Upd.set _ _ _ hWR)
        have v5 : Upd (fun c => ∃ k, M.ok k /\ M.B k = c) h2 (h4.setIfInBounds R (runO { s with W := s4 } p1.mb p1.stops)) := ((Upd.push h2 (.cells #[.int .i64 j] 3)).trans (u4.mono fun c _ hc => by
          obtain ⟨y1, y2⟩ := hwent.blk hc
          exact ⟨_, y1, y2.symm⟩)).trans (Upd.set _ _ _ ⟨_, hr3.1, hr3.2.1.trans sa.R⟩)
        have I5 := I_upd hX g2 v5 (fun c x => x) I2
        generalize h4.setIfInBounds R (runO { s with W := s4 } p1.mb p1.stops) = h5 at g5 u5 I5 ⊢
        clear hZ hZ3 hZ4 u4 sl4 hb4 nW hr3 hrun3 nR ht3 nT hrun4 eQ uP2 e5 hWk w3 wj hsch hwent v5
        obtain ⟨aY, kY, eY⟩ := Mem.Sl.val (show M5.Sl .rdy s.Y 3 1 p1.rdy.length (p1.rdy.map fun (n : Nat) => Value.int .i64 (n : Int)) from g5.all .rdy)
        have y4 : hcell h5 ⟨R, 4, none⟩ = some (.slice aY p1.rdy.length kY) := by
          have := g5.runAt
          rw [<- eY, <- sa.R]; exact hcell_of this rfl
        have hrdy : M5.Sl .rdy (.slice aY p1.rdy.length kY) 3 1 p1.rdy.length (p1.rdy.map fun (n : Nat) => Value.int .i64 (n : Int)) := by
          have := g5.all .rdy
          rw [<- eY]; exact this
        have hrl : p1.rdy.length <= 65536 := by rw [rg.rdy]; omega
        have mn : Mine X γ1.p { p1 with went := p1.went ++ [j] } := hv.more rfl
        (repeat (first | refine EK.seq ?_ | refine EK.region ?_ | refine ER.move rfl rfl rfl ?_ | refine ER.nilCheck rfl rfl rfl ?_ | refine ER.fieldAddr rfl rfl rfl ?_ | refine ER.len1 rfl rfl rfl ?_ | refine ER.load1 rfl rfl rfl (by assumption) ?_))
        refine ER.slice1 (cells := #[.int .i64 ((p1.live bods.length).length : Int)]) rfl rfl rfl (by omega) (by omega) (by rfl) rfl ?_
        have g6 := g5.upd0 (Upd.push h5 (.cells #[.int .i64 ((p1.live bods.length).length : Int)] 3))
        refine ER.append1 (new := [.int .i64 ((p1.live bods.length).length : Int)]) rfl rfl rfl rfl (hrdy.slice g6.rep) (get_push_new _ _) rfl (by simp [OneCell]) (by omega) (by omega) (by rfl) (fun c o hc => ?_) ?_
        · obtain ⟨y1, y2⟩ := hrdy.blk hc
          rw [y2]; exact stillM_nm mn g5 y1 (fun j => ⟨nofun, nofun⟩)
        intro s7 h7 sl7 u7 hb7
        have hr6 := g6.all .run
        have nR : ¬ blk (.slice aY p1.rdy.length kY) = some R := fun e => by
          obtain ⟨y1, y2⟩ := hrdy.blk e
          exact g6.ne hr6.1 y1 nofun ((hr6.2.1.trans sa.R).trans y2)
        have hrun6 : (h5.push (.cells #[.int .i64 ((p1.live bods.length).length : Int)] 3))[R]? = some (runO { s with W := s4 } p1.mb p1.stops) := by rw [<- sa.R]; exact g6.runAt
        have hrun7 := u7.get hrun6 nR
        have y7 : hcell h7 ⟨R, 4, none⟩ = some s.Y := hcell_of hrun7 rfl
        have hz7 : hfroz h7 ⟨R, 4, none⟩ = false := hfroz_of hrun7
        obtain ⟨aQ, kQ, eQ⟩ := sl7.val
        have hOne : OneCell s7 := by rw [eQ]; exact ⟨nofun, nofun⟩
        have e8 : hset h7 ⟨R, 4, none⟩ s7 = h7.setIfInBounds R (runO { s with W := s4, Y := s7 } p1.mb p1.stops) := hset_block hrun7 _
        have uP5 := u5.trans (Upd.push (T := W) h5 (.cells #[.int .i64 ((p1.live bods.length).length : Int)] 3))
        obtain ⟨M8, g8⟩ := g6.app (p' := { p1 with went := p1.went ++ [j], rdy := p1.rdy ++ [(p1.live bods.length).length] }) (sl := { s with W := s4, Y := s7 }) .rdy hrdy sl7 u7 hb7 (fun c hc => hW c (Nat.le_trans uP5.size hc)) nofun rfl rfl (fun i hi x hx => ⟨hi, hx⟩) rfl rfl rfl (fun k' h1 h2 => by
          have y := g6.all k'
          cases k' with
          | rdy => exact absurd rfl h1
          | run => exact absurd rfl h2
          | _ => exact y) (fun N' y => by
          show N'.Sl .rdy s7 3 1 (p1.rdy ++ [(p1.live bods.length).length]).length ((p1.rdy ++ [(p1.live bods.length).length]).map fun (n : Nat) => Value.int .i64 (n : Int))
          rw [List.length_append, List.map_append]; exact y) g6.isin
        rw [show h7.setIfInBounds ({ p1 with went := p1.went ++ [j] } : PS X.U).R (runO { s with W := s4, Y := s7 } p1.mb p1.stops) = h7.setIfInBounds R (runO { s with W := s4, Y := s7 } p1.mb p1.stops) by show h7.setIfInBounds p1.R _ = _; rw [sa.R]] at g8
        have hWk : ∀ c, blk (.slice aY p1.rdy.length kY) = some c -> W c := fun c hc => by
          obtain ⟨y1, y2⟩ := hrdy.blk hc
          rw [y2]; exact g6.wide _ y1
        have u8 : Upd W h (h7.setIfInBounds R (runO { s with W := s4, Y := s7 } p1.mb p1.stops)) := (uP5.trans (u7.mono fun c _ hc => hWk c hc)).trans (Upd.set _ _ _ hWR)
        have v8 : Upd (fun c => ∃ k, M5.ok k /\ M5.B k = c) h5 (h7.setIfInBounds R (runO { s with W := s4, Y := s7 } p1.mb p1.stops)) := ((Upd.push h5 (.cells #[.int .i64 ((p1.live bods.length).length : Int)] 3)).trans (u7.mono fun c _ hc => by
          obtain ⟨y1, y2⟩ := hrdy.blk hc
          exact ⟨_, y1, y2.symm⟩)).trans (Upd.set _ _ _ ⟨_, hr6.1, hr6.2.1.trans sa.R⟩)
        have I8 := I_upd hX g5 v8 (fun c x => x) I5
        clear hrun6 hrun7
        (repeat (first | refine ER.nilCheck rfl rfl rfl ?_ | refine ER.fieldAddr rfl rfl rfl ?_))
        refine ER.store1 rfl rfl rfl hOne ⟨_, y7⟩ hz7 (hRs _) ?_
        rw [e8]
        clear e8 y7 hz7 u7 sl7 hb7 uP5 v8 g6 hr6 eQ hOne hWk hrdy y4 g5 u5 I5
        generalize h7.setIfInBounds R (runO { s with W := s4, Y := s7 } p1.mb p1.stops) = h8 at g8 u8 I8 ⊢
        have mn2 : Mine X γ1.p { p1 with went := p1.went ++ [j], rdy := p1.rdy ++ [(p1.live bods.length).length] } := hv.more (c := p1.stops) rfl
        (repeat (first | refine EK.region ?_ | refine ER.done ?_ | refine ER.move rfl rfl rfl ?_))
        refine ER.callR rfl rfl rfl rfl rfl (goesG (γ := γ1) (p := { p1 with went := p1.went ++ [j], rdy := p1.rdy ++ [(p1.live bods.length).length] }) (j := j) hX mn2 g8 I8 sa.J sa.Q hjn' hjg (fun _ => by show p1.log.length < 65536; omega) (fun _ => rg.stops)) ?_
        rintro v h9 δ9 ⟨γ3, rfl, e1, e2, e3, e4, hP0⟩
        have hT := hP0.2.1
        rw [e1, e4] at hT
        have sc : Sta X W h R γ3.p h9 := Sta.of hW hP0 e3 (by rw [e2]; exact u8.size) (u8.trans (by have := hP0.2.2.upd; rw [e2, e3] at this; exact this)) (by rw [e1]; exact sa.R)
        have rg3 : Reg X p0.val picks bods.length γ3.p := by
          rcases hT with ⟨_, u', L, z, e, hz, hr⟩ | ⟨h1, _⟩
          · rw [e]; exact rg.turn hj hlne hz hr
          · have h1' : p1.stops = true := h1
            rw [rg.stops] at h1'; cases h1'
        have hlen3 : γ3.p.log.length = p1.log.length + 1 := by
          have y1 : γ3.p.went = p1.went ++ [j] := (turned_same hT).2.2.2.2.2.2.2.2.2.2.2.1
          have y2 := rg3.went
          rw [y1] at y2
          have := congrArg List.length y2
          simp only [List.length_append, List.length_map, List.length_cons, List.length_nil] at this
          omega
        (repeat (first | refine ER.done ?_ | refine EK.inBlock ?_))
        exact EK.back (again (γ3, γ3.p) _ _ (by dsimp only; omega) ⟨rfl, Mine.refl _, sc, rg3, by dsimp only; omega⟩) ⟨rfl, rfl, rfl, trivial⟩
end
end
section
open Go Go.TJ Go.Conc Go.Proofs
section
variable {ty : TypeId} {pos : String} {af : Array Edge} {g : Option (Nat × Bool)}
theorem sem_extract {Γ : Type} {P : Program} {S : Sit Γ} {h : Hp} {δ : Ix Γ} {x : Operand} {i : Nat} {vs : Array Value} {v : Value} {ρ : Operand -> Value} {dst : Option Nat} {Q : Next -> Hp -> Ix Γ -> Prop} {Y : Value -> Hp -> Ix Γ -> Prop} (hx : ρ x = .tuple vs) (hv : vs[i]? = some v) (hq : Q (.value v) h δ) : SemW P S (execOp ρ ⟨dst, .extract x i, ty, pos, af, g⟩) h δ Q Y := by
  show SemW P S (Instr.extract (ρ x) i >>= fun v => pure (.value v)) h δ Q Y
  rw [hx]
  unfold Instr.extract
  simp only [hv]
  exact hq
theorem sem_lookupOk {Γ : Type} {P : Program} {S : Sit Γ} {h : Hp} {δ : Ix Γ} {t kt et el sz by_ s2 b2 : Nat} {z z2 : Value} [ht : Und P t (.map kt et)] [hu : Und P kt (.pointer el)] [i2 : Inf P el s2 b2 z2] [Inf P et sz by_ z] {x y : Operand} {r c : Nat} {es : Array MapEntry} {ls : List (Addr × Value)} {a : Addr} {v : Value} {ρ : Operand -> Value} {dst : Option Nat} {Q : Next -> Hp -> Ix Γ -> Prop} {Y : Value -> Hp -> Ix Γ -> Prop}
    (hx : ρ x = .map (some r)) (hy : ρ y = .pointer (some a)) (hsz : s2 ≠ 0) (hr : h[r]? = some (.map es c)) (ha : Plain h a.block) (hp : ∀ p ∈ ls, Plain h p.1.block) (hk : Keyed es ls)
    (hv : (match pfind a ls 0 with | some p => .tuple #[p.2, .bool true] | none => .tuple #[z, .bool false]) = v) (hq : Q (.value v) h δ) : SemW P S (execOp ρ ⟨dst, .lookup t x y true, ty, pos, af, g⟩) h δ Q Y := by
  show SemW P S (Instr.lookup t (ρ x) (ρ y) true >>= fun v => pure (.value v)) h δ Q Y
  rw [hx, hy]
  exact semW_bind _ _ _ _ _ _ (semW_lookup ht.out hu.out i2 hsz hr ha hp hk (by revert hq; rw [<- hv]; cases pfind a ls 0 <;> exact id))
theorem tExtract {Γ : Type} {P : Program} {main : Bool} {S : Sit Γ} {f : FuncId} {n : Nat} {k : List Item} {env : Env} {ds : List Deferred} {h : Hp} {δ : Ix Γ} {R : Post Γ} {ops : Array Oper} {d : Nat} {Z : Hp -> Prop} {zz : Nat} {m : Nat} {listed l' : Array Bool} (i : Nat) {x : Operand} {q : Nat} {vs : Array Value} {v : Value} (hi : ops[i]? = some ⟨some d, .extract x q, ty, pos, af, g⟩) (hs : takeB ops listed zz i = true) (hl : listed.setIfInBounds i true = l')
    (hd : Nat.blt d n = true) (hw : wantE ops env g = some true) (hx : ev env x = some (.tuple vs)) (hv : vs[q]? = some v) (hZ : Z h)
    (hn : EA P main S f n ops Z zz m l' k ((d, v) :: env) ds h δ R) : EA P main S f n ops Z zz (m + 1) listed k env ds h δ R :=
  EA.take i hi hs hl hd hw (fun _ _ _ _ _ hρ _ hq => sem_extract (hρ _ _ hx) hv hq) hZ hn
end
def leftL {U : Type} (p : PS U) (ns : List Nat) (j : Nat) : List Value := match p.st j with
  | .stands r => accL j r.op (if r.b ∈ ns then (ns.idxOf r.b : Int) else -1) r.arg r.new (p.val r.b) (p.val r.b) false
  | _ => []
theorem row_at {h : Hp} {t R i wk sd : Nat} {v : Value} {a b c d e f x : Int} {k g : Bool} (hr : h[t]? = some (thrO R i wk sd v (accL a b c d e f x k) g)) : hrow h t (0 + 5) (accL a b c d e f x k) := by
  intro q v hq
  have hq' : q < 8 := by
    rcases Nat.lt_or_ge q 8 with y | y
    · exact y
    · rw [List.getElem?_eq_none (show (accL a b c d e f x k).length <= q from y)] at hq; cases hq
  rcases (show q = 0 \/ q = 1 \/ q = 2 \/ q = 3 \/ q = 4 \/ q = 5 \/ q = 6 \/ q = 7 by omega) with rfl | rfl | rfl | rfl | rfl | rfl | rfl | rfl <;> (injection hq with hq; subst hq; exact hcell_of hr rfl)
section
variable {X : Us} {W : Nat -> Prop} {p : PS X.U} {ns : List Nat} {s : Sls} {M : Mem Nm} {h : Hp} {γ : GG X}
def goneTo {U : Type} (p : PS U) (i : Nat) : PS U := { p with stops := true, gone := fun j => p.gone j || decide (j < i) }
abbrev allGone {U : Type} (p : PS U) : PS U := goneTo p p.num
theorem goneTo_step {U : Type} {p : PS U} {i : Nat} : ({ goneTo p i with gone := ut (goneTo p i).gone i true } : PS U) = goneTo p (i + 1) := by
  unfold goneTo
  have : (ut (fun j => p.gone j || decide (j < i)) i true) = fun j => p.gone j || decide (j < i + 1) := by
    funext j
    by_cases e : j = i
    · subst e; rw [ut_same]; simp
    · rw [ut_ne _ _ e]
      have : decide (j < i + 1) = decide (j < i) := by simp; omega
      rw [this]
  dsimp only
  rw [this]
theorem goneTo_skip {U : Type} {p : PS U} {i : Nat} (h : p.gone i = true) : goneTo p i = goneTo p (i + 1) := by
  unfold goneTo
  have : (fun j => p.gone j || decide (j < i)) = fun j => p.gone j || decide (j < i + 1) := by
    funext j
    by_cases e : j = i
    · subst e; rw [h]; simp
    · have : decide (j < i + 1) = decide (j < i) := by simp; omega
      rw [this]
  rw [this]
set_option maxHeartbeats 8000000 in
set_option maxRecDepth 8000 in
theorem endsG (hX : X.Ok) (hv : Mine X γ.p p) (g : GI X W p (nums p.log) s M h) (hI : X.I p.u h) (hJ : X.J p.log p.u p.val) (hQ : ∀ x, X.Q x (ownOf x p.log) (p.st x) p.u) (hn : p.num <= 64) (hst : ∀ j, j < p.num -> p.gone j = false -> ∃ r, p.st j = .stands r /\ RqOk X r) :
    CallW Try.prog true (SitM Try.prog (PX X)) 113 #[ptr p.R] h ⟨0, γ⟩ (Ret fun v h' δ' => ∃ γ' : GG X, δ' = ⟨0, γ'⟩ /\ Mine X γ'.p (allGone p) /\ (∃ s' M', GI X (fun b => Ours X p M b \/ h.size <= b) (allGone p) (nums p.log) s' M' h') /\ X.I p.u h' /\ Upd (Ours X p M) h h' /\
      SliceO h' v 142 8 (p.live p.num).length ((p.live p.num).flatMap (leftL p (nums p.log))) /\ ∀ b, blk v = some b -> h.size <= b /\ b < h'.size) := by
  obtain ⟨aT, kT, eT⟩ := Mem.Sl.val (show M.Sl .thr s.T 30 1 p.num ((List.range p.num).map fun i => ptr (p.tb i)) from g.all .thr)
  have hrun := g.runAt
  have hR0 : hcell h ⟨p.R, 0, none⟩ = some (.slice aT p.num kT) := by rw [<- eT]; exact hcell_of hrun rfl
  have hR1 : hcell h ⟨p.R, 1, none⟩ = some (.map (some p.mb)) := hcell_of hrun rfl
  refine CallW.start (n := 89) rfl rfl ?_
  clear hrun
  (repeat (first | refine EK.seq ?_ | refine EK.region ?_ | refine ER.done ?_ | refine EK.block ?_ | refine ER.move rfl rfl rfl ?_ | refine ER.assign rfl rfl rfl ?_ | refine ER.nilCheck rfl rfl rfl ?_ | refine ER.fieldAddr rfl rfl rfl ?_ | refine ER.len1 rfl rfl rfl ?_ | refine ER.load1 rfl rfl rfl (by assumption) ?_))
  refine EK.loopInv (fun q : Nat × Value => [(16, .int .i64 q.1), (3, q.2), (14, .slice aT p.num kT), (15, .int .i64 p.num), (0, ptr p.R)]) (fun q h' δ' => q.1 <= p.num /\ δ' = ⟨0, γ⟩ /\ Upd (fun _ => False) h h' /\ SliceO h' q.2 142 8 (p.live q.1).length ((p.live q.1).flatMap (leftL p (nums p.log))) /\ ∀ b, blk q.2 = some b -> h.size <= b) (fun q => p.num - q.1) (0, nilS) ⟨rfl, rfl, rfl, rfl, rfl, trivial⟩ ⟨Nat.zero_le _, rfl, Upd.refl _ _, SliceO.nil, fun b hb => by cases hb⟩ ?_
  rintro ⟨i, lv⟩ h1 δ1 ⟨hi, hδ, u1, sl, hb⟩ again
  dsimp only at hi sl hb again hδ ⊢
  subst hδ
  by_cases hin : i < p.num
  · obtain ⟨b, k, eT', hc, hk, ebT⟩ := g.thrCell hin
    rw [eT] at eT'
    injection eT' with e1 e2 e3
    subst e1
    obtain ⟨v, a, hat, hrw⟩ := g.thrAt hin
    have hc1 := u1.hcell hc (fun x => x)
    have hrow1 := u1.get hrw (fun x => x)
    obtain ⟨_, t, o, c, b0, n, w, x, kk, rfl⟩ := hat.form
    have d13 : hcell h1 ⟨p.tb i, 13, none⟩ = some (.bool (p.gone i)) := hcell_of hrow1 rfl
    have hlen : (p.live i).length <= i := by
      unfold PS.live
      have := List.length_filter_le (fun j => !p.gone j) (List.range i)
      simpa using this
    have hSn : ∀ {c o}, h.size <= c -> ¬ (SitM Try.prog (PX X)).still γ ⟨c, o, none⟩ := fun hc => stillM_new hv g hc
    cases hg : p.gone i with
    | true =>
      rw [hg] at d13
      clear hrow1 hrw
      rw [<- live_no hg] at sl
      (repeat (first | refine EK.seq ?_ | refine EK.region ?_ | refine ER.done ?_ | refine EK.skip ?_ | refine EK.block ?_ | refine ER.move rfl rfl rfl ?_ | refine ER.assign rfl rfl rfl ?_ | refine ER.nilCheck rfl rfl rfl ?_ | refine ER.fieldAddr rfl rfl rfl ?_ | refine ER.cmpT rfl rfl rfl rfl rfl (by first | (dsimp only [cmpP]; omega) | exact rfl | exact Int.le_refl _) ?_ | refine ER.add (kd := .i64) rfl rfl rfl rfl (i64_in (by omega) (by omega)) ?_ | refine ER.indexSl rfl rfl rfl rfl (by omega) (by omega) ?_ | refine EK.condT rfl ?_ | refine EK.exit rfl ?_ | refine ER.load1 rfl rfl rfl (by assumption) ?_))
      exact EK.back (again (i + 1, lv) _ _ (by dsimp only; omega) ⟨by dsimp only; omega, rfl, u1, sl, hb⟩) ⟨rfl, rfl, rfl, rfl, rfl, trivial⟩
    | false =>
      rw [hg] at d13 hrow1
      obtain ⟨r, hr1, hr2⟩ := hst i hin hg
      rw [hr1] at hat
      obtain ⟨ev, ea⟩ := hat
      rw [ea] at hrow1
      subst ev
      have d4 : hcell h1 ⟨p.tb i, 4, none⟩ = some (ptr r.b) := hcell_of hrow1 rfl
      have d5 : hrow h1 (p.tb i) (0 + 5) (rqL i r) := row_at hrow1
      have hR1' := u1.hcell hR1 (fun x => x)
      have g1 := g.upd0 u1
      have hle := u1.size
      clear hrw hrow1 ea hc
      (repeat (first | refine EK.seq ?_ | refine EK.region ?_ | refine ER.done ?_ | refine EK.skip ?_ | refine EK.block ?_ | refine ER.move rfl rfl rfl ?_ | refine ER.assign rfl rfl rfl ?_ | refine ER.nilCheck rfl rfl rfl ?_ | refine ER.fieldAddr rfl rfl rfl ?_ | refine ER.cmpT rfl rfl rfl rfl rfl (by first | (dsimp only [cmpP]; omega) | exact rfl | exact Int.le_refl _) ?_ | refine ER.indexSl rfl rfl rfl rfl (by omega) (by omega) ?_ | refine EK.condT rfl ?_ | refine EK.condF rfl ?_ | refine ER.load1 rfl rfl rfl (by assumption) ?_))
      refine ER.loadN (vs := rqL i r) rfl rfl rfl rfl d5 ?_
      (repeat refine ER.allocA rfl rfl ?_)
      refine ER.storeN (vs := rqL i r) rfl rfl rfl rfl (by simp [rqL, accL, OneCell]) (fun j hj => ⟨?_, hfroz_of (get_push_new _ _), hSn hle⟩) ?_
      · have hj' : j < 8 := hj
        rcases (show j = 0 \/ j = 1 \/ j = 2 \/ j = 3 \/ j = 4 \/ j = 5 \/ j = 6 \/ j = 7 by omega) with rfl | rfl | rfl | rfl | rfl | rfl | rfl | rfl <;> exact ⟨_, hcell_of (get_push_new _ _) rfl⟩
      rw [hsetRow_push (c := [.int .i64 0, .int .i8 0, .int .i64 0, .int .i64 0, .int .i64 0, .int .i64 0, .int .i64 0, .bool false]) (vs := rqL i r) rfl]
      refine ER.gen (fun h' => Upd (fun _ => False) h1 h' /\ h'[h1.size]? = some (accO (rqL i r))) ⟨Upd.push _ _, get_push_new _ _⟩ ?_
      obtain ⟨y, hy⟩ : ∃ y, y = h1.size := ⟨_, rfl⟩
      rw [<- hy]
      rintro h2 ⟨u2, lx⟩
      have d4' := u2.hcell d4 (fun x => x)
      have hR1'' := u2.hcell hR1' (fun x => x)
      have g2 := g1.upd0 u2
      have hle2 : h.size <= y := by omega
      (repeat (first | refine EK.seq ?_ | refine EK.region ?_ | refine ER.done ?_ | refine ER.move rfl rfl rfl ?_ | refine ER.nilCheck rfl rfl rfl ?_ | refine ER.fieldAddr rfl rfl rfl ?_ | refine ER.neqV rfl rfl rfl rfl rfl ?_ | refine EK.condT rfl ?_ | refine ER.load1 rfl rfl rfl (by assumption) ?_))
      refine EK.regionAny (fun h' => hcell h' ⟨p.R, 1, none⟩ = some (.map (some p.mb)) /\ hcell h' ⟨p.tb i, 4, none⟩ = some (ptr r.b)) ?_
      have hZ := And.intro hR1'' d4'
      refine EA.tMove 0 rfl (by kernel_rfl) rfl rfl rfl rfl hZ ?_
      refine EA.tNil 1 rfl (by kernel_rfl) rfl rfl rfl rfl hZ ?_
      refine EA.tField 2 rfl (by kernel_rfl) rfl rfl rfl rfl hZ ?_
      refine EA.tLoad 3 rfl (by kernel_rfl) rfl rfl rfl rfl (fun _ hz => hz.1) hZ ?_
      refine EA.tMove 4 rfl (by kernel_rfl) rfl rfl rfl rfl hZ ?_
      refine EA.tNil 5 rfl (by kernel_rfl) rfl rfl rfl rfl hZ ?_
      refine EA.tField 6 rfl (by kernel_rfl) rfl rfl rfl rfl hZ ?_
      refine EA.tLoad 7 rfl (by kernel_rfl) rfl rfl rfl rfl (fun _ hz => hz.2) hZ ?_
      obtain ⟨x1, x2, es, cc, x3, x4⟩ := g2.all .map
      have hm : h2[p.mb]? = some (.map es cc) := by rw [<- x2, <- x3]; exact g2.rep.has _ x1
      have hcb := (g2.cel r.b hr2.cell).1
      have hpl : ∀ q, q ∈ keysFrom (nums p.log) 0 -> Plain h2 q.1.block := fun q hq => ⟨_, _, (g2.cel _ (g2.num _ (keysFrom_mem _ _ _ hq))).1⟩
      obtain ⟨nv, ok, hlk⟩ : ∃ nv ok, (match pfind ⟨r.b, 0, none⟩ (keysFrom (nums p.log) 0) 0 with | some p => Value.tuple #[p.2, .bool true] | none => .tuple #[.int .i64 0, .bool false]) = .tuple #[.int .i64 nv, .bool ok] /\ ((ok = true /\ r.b ∈ nums p.log /\ nv = (nums p.log).idxOf r.b) \/ (ok = false /\ r.b ∉ nums p.log)) := by
        rw [pfind_keys]
        by_cases hb' : r.b ∈ nums p.log
        · rw [if_pos hb']
          exact ⟨(nums p.log).idxOf r.b, true, by simp, .inl ⟨rfl, hb', rfl⟩⟩
        · rw [if_neg hb']
          exact ⟨0, false, rfl, .inr ⟨rfl, hb'⟩⟩
      refine EA.val (v := .tuple #[.int .i64 nv, .bool ok]) (h' := h2) 8 rfl (by kernel_rfl) rfl rfl rfl (fun ρ Q Y hρ hq => sem_lookupOk (a := ⟨r.b, 0, none⟩) (hρ _ _ rfl) (hρ _ _ rfl) (by decide) hm ⟨_, _, hcb⟩ hpl x4 hlk.1 hq) hZ ?_
      refine EA.tMove 9 rfl (by kernel_rfl) rfl rfl rfl rfl hZ ?_
      refine tExtract 10 rfl (by kernel_rfl) rfl rfl rfl rfl rfl hZ ?_
      refine tExtract 11 rfl (by kernel_rfl) rfl rfl rfl rfl rfl hZ ?_
      refine EA.tAssign 12 rfl (by kernel_rfl) rfl rfl rfl rfl hZ ?_
      refine EA.tAssign 13 rfl (by kernel_rfl) rfl rfl rfl rfl hZ ?_
      refine EA.done (by kernel_rfl) ?_
      clear hm hpl x1 x2 x3 x4 hZ hR1''
      rcases hlk with ⟨-, ⟨rfl, hmem, rfl⟩ | ⟨rfl, hmem⟩⟩
      · (repeat (first | refine EK.seq ?_ | refine EK.region ?_ | refine ER.done ?_ | refine ER.move rfl rfl rfl ?_ | refine ER.fieldAddr rfl rfl rfl ?_ | refine EK.condT rfl ?_))
        refine ER.store1 rfl rfl rfl ⟨nofun, nofun⟩ ⟨_, hcell_of lx rfl⟩ (hfroz_of lx) (hSn hle2) ?_
        refine ER.gen (fun h' => Upd (fun _ => False) h1 h' /\ h'[y]? = some (accO (accL i r.op (if r.b ∈ nums p.log then ((nums p.log).idxOf r.b : Int) else -1) r.arg r.new 0 0 false))) (by rw [hset_block lx, if_pos hmem]; exact ⟨u2.over (Upd.set (T := fun b => b = y) _ _ _ rfl) (fun b hb => by omega), get_set_same lx⟩) ?_
        clear u2 lx d4' g2 hcb
        rintro h3 ⟨u3, lx⟩
        have d4' := u3.hcell d4 (fun x => x)
        have hcb := ((g1.upd0 u3).cel r.b hr2.cell).1
        (repeat (first | refine EK.seq ?_ | refine EK.region ?_ | refine ER.done ?_ | refine ER.move rfl rfl rfl ?_ | refine ER.nilCheck rfl rfl rfl ?_ | refine ER.fieldAddr rfl rfl rfl ?_ | refine ER.load1 rfl rfl rfl (by assumption) ?_))
        refine ER.callD rfl rfl rfl rfl rfl (aload_ok (v := p.val r.b) (hcell_of hcb rfl)) ?_
        (repeat refine ER.fieldAddr rfl rfl rfl ?_)
        refine ER.store1 rfl rfl rfl ⟨nofun, nofun⟩ ⟨_, hcell_of lx rfl⟩ (hfroz_of lx) (hSn hle2) ?_
        refine ER.gen (fun h' => Upd (fun _ => False) h1 h' /\ h'[y]? = some (accO (accL i r.op (if r.b ∈ nums p.log then ((nums p.log).idxOf r.b : Int) else -1) r.arg r.new (p.val r.b) 0 false))) (by rw [hset_block lx]; exact ⟨u3.over (Upd.set (T := fun b => b = y) _ _ _ rfl) (fun b hb => by omega), get_set_same lx⟩) ?_
        clear u3 lx d4' hcb
        rintro h4 ⟨u4, lx⟩
        have lx5 : hcell h4 ⟨y, 5, none⟩ = some (.int .i64 (p.val r.b)) := hcell_of lx rfl
        have lxz : hfroz h4 ⟨y, 6, none⟩ = false := hfroz_of lx
        have lx6 : hcell h4 ⟨y, 6, none⟩ = some (.int .i64 0) := hcell_of lx rfl
        have eG : hset h4 ⟨y, 6, none⟩ (.int .i64 (p.val r.b)) = h4.setIfInBounds y (accO (accL i r.op (if r.b ∈ nums p.log then ((nums p.log).idxOf r.b : Int) else -1) r.arg r.new (p.val r.b) (p.val r.b) false)) := hset_block lx _
        have lxs := get_set_same lx (o' := accO (accL i r.op (if r.b ∈ nums p.log then ((nums p.log).idxOf r.b : Int) else -1) r.arg r.new (p.val r.b) (p.val r.b) false))
        have u5 := u4.over (Upd.set (T := fun b => b = y) h4 y (accO (accL i r.op (if r.b ∈ nums p.log then ((nums p.log).idxOf r.b : Int) else -1) r.arg r.new (p.val r.b) (p.val r.b) false)) rfl) (fun b hb => by omega)
        clear lx
        (repeat (first | refine EK.region ?_ | refine ER.done ?_ | refine ER.fieldAddr rfl rfl rfl ?_ | refine ER.load1 rfl rfl rfl (by assumption) ?_))
        refine ER.store1 rfl rfl rfl ⟨nofun, nofun⟩ ⟨_, lx6⟩ lxz (hSn hle2) ?_
        rw [eG]
        clear eG lx5 lx6 lxz u4
        generalize h4.setIfInBounds y (accO (accL i r.op (if r.b ∈ nums p.log then ((nums p.log).idxOf r.b : Int) else -1) r.arg r.new (p.val r.b) (p.val r.b) false)) = h5 at lxs u5 ⊢
        generalize hcv : (if r.b ∈ nums p.log then ((nums p.log).idxOf r.b : Int) else -1) = cv at lxs ⊢
        (repeat (first | refine EK.region ?_ | refine ER.done ?_ | refine ER.move rfl rfl rfl ?_))
        refine ER.loadN (vs := accL i r.op cv r.arg r.new (p.val r.b) (p.val r.b) false) rfl rfl rfl rfl (hrow_block (rest := []) (by rw [List.append_nil]; exact lxs)) ?_
        refine ER.slice1 (z := .agg #[.int .i64 0, .int .i8 0, .int .i64 0, .int .i64 0, .int .i64 0, .int .i64 0, .int .i64 0, .bool false]) (cells := (accL i r.op cv r.arg r.new (p.val r.b) (p.val r.b) false).toArray) rfl rfl rfl (by omega) (by omega) (by rfl) (fill_acc _ _ _ _ _ _ _ _) ?_
        refine ER.append1 (new := accL i r.op cv r.arg r.new (p.val r.b) (p.val r.b) false) rfl rfl rfl rfl ((sl.upd u5 (fun _ _ x => x)).upd (Upd.push (T := fun _ => False) h5 _) (fun _ _ x => x)) (get_push_new _ _) rfl (by simp [accL, OneCell]) (by omega) (by omega) (by rfl) (fun c o hc => hSn (hb c hc)) ?_
        intro s6 h6 sl6 u6 hb6
        have u16 : Upd (fun _ => False) h h6 := ((u1.trans u5).trans (Upd.push h5 _)).over u6 hb
        (repeat (first | refine EK.region ?_ | refine ER.done ?_ | refine EK.inBlock ?_ | refine ER.move rfl rfl rfl ?_ | refine ER.assign rfl rfl rfl ?_ | refine ER.add (kd := .i64) rfl rfl rfl rfl (i64_in (by omega) (by omega)) ?_))
        refine EK.back (again (i + 1, s6) _ _ (by dsimp only; omega) ⟨by dsimp only; omega, rfl, u16, ?_, fun b' hb' => ?_⟩) ⟨rfl, rfl, rfl, rfl, rfl, trivial⟩
        · dsimp only
          rw [live_yes hg, List.flatMap_append, List.length_append]
          have : leftL p (nums p.log) i = accL i r.op cv r.arg r.new (p.val r.b) (p.val r.b) false := by unfold leftL; rw [hr1, <- hcv]
          simp only [List.flatMap_cons, List.flatMap_nil, List.append_nil, this]
          exact sl6
        · rcases hb6 b' hb' with z | z
          · exact hb _ z
          · have := u5.size; rw [Array.size_push] at z; omega
      · replace lx : h2[y]? = some (accO (accL i r.op (if r.b ∈ nums p.log then ((nums p.log).idxOf r.b : Int) else -1) r.arg r.new 0 0 false)) := by rw [if_neg hmem]; exact lx
        (repeat (first | refine EK.seq ?_ | refine EK.region ?_ | refine ER.done ?_ | refine EK.skip ?_ | refine ER.move rfl rfl rfl ?_ | refine ER.nilCheck rfl rfl rfl ?_ | refine ER.fieldAddr rfl rfl rfl ?_ | refine EK.condF rfl ?_ | refine ER.load1 rfl rfl rfl (by assumption) ?_))
        revert u2 lx
        clear d4' g2 hcb
        generalize h2 = h3
        intro u3 lx
        have d4' := u3.hcell d4 (fun x => x)
        have hcb := ((g1.upd0 u3).cel r.b hr2.cell).1
        skip
        refine ER.callD rfl rfl rfl rfl rfl (aload_ok (v := p.val r.b) (hcell_of hcb rfl)) ?_
        (repeat refine ER.fieldAddr rfl rfl rfl ?_)
        refine ER.store1 rfl rfl rfl ⟨nofun, nofun⟩ ⟨_, hcell_of lx rfl⟩ (hfroz_of lx) (hSn hle2) ?_
        refine ER.gen (fun h' => Upd (fun _ => False) h1 h' /\ h'[y]? = some (accO (accL i r.op (if r.b ∈ nums p.log then ((nums p.log).idxOf r.b : Int) else -1) r.arg r.new (p.val r.b) 0 false))) (by rw [hset_block lx]; exact ⟨u3.over (Upd.set (T := fun b => b = y) _ _ _ rfl) (fun b hb => by omega), get_set_same lx⟩) ?_
        clear u3 lx d4' hcb
        rintro h4 ⟨u4, lx⟩
        have lx5 : hcell h4 ⟨y, 5, none⟩ = some (.int .i64 (p.val r.b)) := hcell_of lx rfl
        have lxz : hfroz h4 ⟨y, 6, none⟩ = false := hfroz_of lx
        have lx6 : hcell h4 ⟨y, 6, none⟩ = some (.int .i64 0) := hcell_of lx rfl
        have eG : hset h4 ⟨y, 6, none⟩ (.int .i64 (p.val r.b)) = h4.setIfInBounds y (accO (accL i r.op (if r.b ∈ nums p.log then ((nums p.log).idxOf r.b : Int) else -1) r.arg r.new (p.val r.b) (p.val r.b) false)) := hset_block lx _
        have lxs := get_set_same lx (o' := accO (accL i r.op (if r.b ∈ nums p.log then ((nums p.log).idxOf r.b : Int) else -1) r.arg r.new (p.val r.b) (p.val r.b) false))
        have u5 := u4.over (Upd.set (T := fun b => b = y) h4 y (accO (accL i r.op (if r.b ∈ nums p.log then ((nums p.log).idxOf r.b : Int) else -1) r.arg r.new (p.val r.b) (p.val r.b) false)) rfl) (fun b hb => by omega)
        clear lx
        (repeat (first | refine EK.region ?_ | refine ER.done ?_ | refine ER.fieldAddr rfl rfl rfl ?_ | refine ER.load1 rfl rfl rfl (by assumption) ?_))
        refine ER.store1 rfl rfl rfl ⟨nofun, nofun⟩ ⟨_, lx6⟩ lxz (hSn hle2) ?_
        rw [eG]
        clear eG lx5 lx6 lxz u4
        generalize h4.setIfInBounds y (accO (accL i r.op (if r.b ∈ nums p.log then ((nums p.log).idxOf r.b : Int) else -1) r.arg r.new (p.val r.b) (p.val r.b) false)) = h5 at lxs u5 ⊢
        generalize hcv : (if r.b ∈ nums p.log then ((nums p.log).idxOf r.b : Int) else -1) = cv at lxs ⊢
        (repeat (first | refine EK.region ?_ | refine ER.done ?_ | refine ER.move rfl rfl rfl ?_))
        refine ER.loadN (vs := accL i r.op cv r.arg r.new (p.val r.b) (p.val r.b) false) rfl rfl rfl rfl (hrow_block (rest := []) (by rw [List.append_nil]; exact lxs)) ?_
        refine ER.slice1 (z := .agg #[.int .i64 0, .int .i8 0, .int .i64 0, .int .i64 0, .int .i64 0, .int .i64 0, .int .i64 0, .bool false]) (cells := (accL i r.op cv r.arg r.new (p.val r.b) (p.val r.b) false).toArray) rfl rfl rfl (by omega) (by omega) (by rfl) (fill_acc _ _ _ _ _ _ _ _) ?_
        refine ER.append1 (new := accL i r.op cv r.arg r.new (p.val r.b) (p.val r.b) false) rfl rfl rfl rfl ((sl.upd u5 (fun _ _ x => x)).upd (Upd.push (T := fun _ => False) h5 _) (fun _ _ x => x)) (get_push_new _ _) rfl (by simp [accL, OneCell]) (by omega) (by omega) (by rfl) (fun c o hc => hSn (hb c hc)) ?_
        intro s6 h6 sl6 u6 hb6
        have u16 : Upd (fun _ => False) h h6 := ((u1.trans u5).trans (Upd.push h5 _)).over u6 hb
        (repeat (first | refine EK.region ?_ | refine ER.done ?_ | refine EK.inBlock ?_ | refine ER.move rfl rfl rfl ?_ | refine ER.assign rfl rfl rfl ?_ | refine ER.add (kd := .i64) rfl rfl rfl rfl (i64_in (by omega) (by omega)) ?_))
        refine EK.back (again (i + 1, s6) _ _ (by dsimp only; omega) ⟨by dsimp only; omega, rfl, u16, ?_, fun b' hb' => ?_⟩) ⟨rfl, rfl, rfl, rfl, rfl, trivial⟩
        · dsimp only
          rw [live_yes hg, List.flatMap_append, List.length_append]
          have : leftL p (nums p.log) i = accL i r.op cv r.arg r.new (p.val r.b) (p.val r.b) false := by unfold leftL; rw [hr1, <- hcv]
          simp only [List.flatMap_cons, List.flatMap_nil, List.append_nil, this]
          exact sl6
        · rcases hb6 b' hb' with z | z
          · exact hb _ z
          · have := u5.size; rw [Array.size_push] at z; omega
  · obtain rfl : i = p.num := by omega
    clear again
    have g1 := g.upd0 u1
    have hx := g1.all .run
    have hr1 := g1.runAt
    have hRs : ∀ o, ¬ (SitM Try.prog (PX X)).still γ ⟨p.R, o, none⟩ := fun o => by
      rw [<- hx.2.1]; exact stillM_nm hv g1 hx.1 (fun j => ⟨nofun, nofun⟩)
    have r6 : ∃ z, hcell h1 ⟨p.R, 6, none⟩ = some z := ⟨_, hcell_of hr1 rfl⟩
    have rz : hfroz h1 ⟨p.R, 6, none⟩ = false := hfroz_of hr1
    have e2 : hset h1 ⟨p.R, 6, none⟩ (.bool true) = h1.setIfInBounds p.R (runO s p.mb true) := hset_block hr1 _
    have g2 := g1.set (p' := goneTo p 0) hx.1 (runO s p.mb true) rfl rfl rfl rfl (fun k' hk y => by
      cases k' with
      | run => exact absurd rfl hk
      | t i =>
        intro hi
        obtain ⟨y1, y2, v, a, y3, y4⟩ := y hi
        refine ⟨y1, y2, v, a, y3, ?_⟩
        show _ = thrO p.R i (p.wk i) (p.sd i) v a (p.gone i || decide (i < 0))
        rw [show decide (i < 0) = false by simp, Bool.or_false]; exact y4
      | _ => exact y) ⟨hx.1, hx.2.1, mem_same _ _ _⟩ g.num g.isin
    rw [hx.2.1] at g2
    have uR : Upd (Ours X p M) h (h1.setIfInBounds p.R (runO s p.mb true)) := (u1.mono fun _ _ x => x.elim).trans (Upd.set _ _ _ (.inl ⟨_, hx.1, hx.2.1⟩))
    have I2 : X.I p.u (h1.setIfInBounds p.R (runO s p.mb true)) := hX.loc _ _ _ (fun b hb => (get_set_ne _ (fun e => (g1.apart _ hx.1).2 (by rw [hx.2.1, e]; exact hb))).trans (u1.2 b (g.dom b hb).1 (fun x => x))) hI
    have sl2 : SliceO (h1.setIfInBounds p.R (runO s p.mb true)) lv 142 8 (p.live p.num).length ((p.live p.num).flatMap (leftL p (nums p.log))) := sl.upd (Upd.set (T := fun b => b = p.R) _ _ _ rfl) (fun b hb' e => by
      have h3 := hb b hb'
      have h4 := g.lt hx.1
      rw [hx.2.1] at h4
      omega)
    have hlt2 : ∀ b, blk lv = some b -> h.size <= b /\ b < (h1.setIfInBounds p.R (runO s p.mb true)).size := fun b hb' => ⟨hb b hb', sl2.lt hb'⟩
    have hsz2 : h.size <= (h1.setIfInBounds p.R (runO s p.mb true)).size := uR.size
    clear hr1
    (repeat (first | refine EK.seq ?_ | refine EK.region ?_ | refine ER.done ?_ | refine ER.move rfl rfl rfl ?_ | refine ER.nilCheck rfl rfl rfl ?_ | refine ER.fieldAddr rfl rfl rfl ?_ | refine ER.cmpF rfl rfl rfl rfl rfl (by first | (dsimp only [cmpP]; omega) | exact rfl | exact Int.le_refl _) ?_ | refine EK.condF rfl ?_ | refine EK.exit rfl ?_))
    refine ER.store1 rfl rfl rfl ⟨nofun, nofun⟩ r6 rz (hRs _) ?_
    rw [e2]
    clear e2 r6 rz sl hb g1 hR0 hR1
    generalize h1.setIfInBounds p.R (runO s p.mb true) = h2 at g2 uR I2 sl2 hlt2 hsz2 ⊢
    obtain ⟨W2, hW2⟩ : ∃ W2 : Nat -> Prop, W2 = fun b => Ours X p M b \/ h2.size <= b := ⟨_, rfl⟩
    have g3 : GI X W2 (goneTo p 0) (nums p.log) s (M.set .run (runO s p.mb true)) h2 := g2.ours.monoW (fun b hb => by rw [hW2]; exact .inl hb)
    have old : ∀ b, b < h.size -> W2 b -> Ours X p M b := fun b hb hw => by
      rw [hW2] at hw
      exact hw.resolve_right (by omega)
    have nL : ∀ b, blk lv = some b -> ¬ W2 b := fun b hb hw => by
      obtain ⟨y1, y2⟩ := hlt2 b hb
      rw [hW2] at hw
      rcases hw with (⟨k, hk, e⟩ | hw | hw | ⟨i, hi, q, hq, e⟩) | hw
      · have := g.lt hk; omega
      · have := lt_of_get (g.cel b hw).1; omega
      · have := (g.dom b hw).1; omega
      · have := lt_of_get (g.prv i hi q hq).1; omega
      · omega
    have wide2 : ∀ b, W2 b -> Ours X p M b \/ h.size <= b := fun b hw => by
      rw [hW2] at hw
      exact hw.imp id fun y => by omega
    have new2 : ∀ b, h2.size <= b -> W2 b := fun b hb => by rw [hW2]; exact .inr hb
    clear g2 hW2
    (repeat (first | refine EK.seq ?_ | refine EK.region ?_ | refine ER.done ?_ | refine EK.block ?_ | refine ER.assign rfl rfl rfl ?_))
    refine EK.loopInv (fun q : Nat × GG X => [(9, .int .i64 q.1), (3, lv), (0, ptr p.R)]) (fun q h' δ' => q.1 <= p.num /\ δ' = ⟨0, q.2⟩ /\ Mine X q.2.p (goneTo p q.1) /\ (∃ s' M', GI X W2 (goneTo p q.1) (nums p.log) s' M' h') /\ X.I p.u h' /\ Upd W2 h2 h') (fun q => p.num - q.1) (0, γ) ⟨rfl, rfl, rfl, trivial⟩ ⟨Nat.zero_le _, rfl, hv.more (a := p.went) (b := p.rdy) (c := true) (by
      unfold goneTo
      congr 1
      funext j; simp), ⟨s, _, g3⟩, I2, Upd.refl _ _⟩ ?_
    clear g3 I2
    rintro ⟨i, γ1⟩ h3 δ3 ⟨hi, hδ, mn, ⟨s3, M3, g3⟩, I3, u3⟩ again
    dsimp only at hi mn g3 again hδ ⊢
    subst hδ
    obtain ⟨aT3, kT3, eT3⟩ := Mem.Sl.val (show M3.Sl .thr s3.T 30 1 p.num ((List.range p.num).map fun i => ptr (p.tb i)) from g3.all .thr)
    have hR0 : hcell h3 ⟨p.R, 0, none⟩ = some (.slice aT3 p.num kT3) := by
      have := g3.runAt
      rw [<- eT3]; exact hcell_of this rfl
    by_cases hin : i < p.num
    · obtain ⟨b, k, eT', hc, hk, ebT⟩ := g3.thrCell (i := i) hin
      rw [eT3] at eT'
      injection eT' with e1 e2 e3
      subst e1
      obtain ⟨v, a, hat, hrw⟩ := g3.thrAt (i := i) hin
      obtain ⟨_, t, o, c, b0, n, w, x, kk, rfl⟩ := hat.form
      have d13 : hcell h3 ⟨p.tb i, 13, none⟩ = some (.bool (p.gone i || decide (i < i))) := hcell_of hrw rfl
      rw [show decide (i < i) = false by simp, Bool.or_false] at d13
      have hcc : hcell h3 ⟨b, 0 + i * 1, none⟩ = some (ptr (p.tb i)) := hc
      clear hrw hat
      cases hg : p.gone i with
      | true =>
        rw [hg] at d13
        (repeat (first | refine EK.seq ?_ | refine EK.region ?_ | refine ER.done ?_ | refine EK.skip ?_ | refine EK.block ?_ | refine EK.inBlock ?_ | refine ER.move rfl rfl rfl ?_ | refine ER.assign rfl rfl rfl ?_ | refine ER.nilCheck rfl rfl rfl ?_ | refine ER.fieldAddr rfl rfl rfl ?_ | refine ER.notB rfl rfl rfl ?_ | refine ER.cmpT rfl rfl rfl rfl rfl (by first | (dsimp only [cmpP]; omega) | exact rfl | exact Int.le_refl _) ?_ | refine ER.add (kd := .i64) rfl rfl rfl rfl (i64_in (by omega) (by omega)) ?_ | refine ER.len1 rfl rfl rfl ?_ | refine ER.indexSl rfl rfl rfl rfl (by omega) (by omega) ?_ | refine EK.condT rfl ?_ | refine EK.condF rfl ?_ | refine ER.load1 rfl rfl rfl (by assumption) ?_))
        exact EK.back (again (i + 1, γ1) _ _ (by dsimp only; omega) ⟨by dsimp only; omega, rfl, by dsimp only; rw [<- goneTo_skip hg]; exact mn, ⟨s3, M3, by dsimp only; rw [<- goneTo_skip hg]; exact g3⟩, I3, u3⟩) ⟨rfl, rfl, rfl, trivial⟩
      | false =>
        rw [hg] at d13
        obtain ⟨r, hr1, hr2⟩ := hst i hin hg
        have hgo := goesG (γ := γ1) (p := goneTo p i) (j := i) hX mn g3 I3 hJ hQ hin (by show (p.gone i || decide (i < i)) = false; rw [hg]; simp) (fun e => by cases e) (fun e => by
          have : p.st i = .born := e
          rw [hr1] at this; cases this)
        have hgo' : CallW Try.prog true (SitM Try.prog (PX X)) 112 #[ptr (p.tb i)] h3 ⟨0, γ1⟩ _ := hgo
        (repeat (first | refine EK.seq ?_ | refine EK.region ?_ | refine ER.done ?_ | refine EK.skip ?_ | refine EK.block ?_ | refine ER.move rfl rfl rfl ?_ | refine ER.assign rfl rfl rfl ?_ | refine ER.nilCheck rfl rfl rfl ?_ | refine ER.fieldAddr rfl rfl rfl ?_ | refine ER.notB rfl rfl rfl ?_ | refine ER.cmpT rfl rfl rfl rfl rfl (by first | (dsimp only [cmpP]; omega) | exact rfl | exact Int.le_refl _) ?_ | refine ER.len1 rfl rfl rfl ?_ | refine ER.indexSl rfl rfl rfl rfl (by omega) (by omega) ?_ | refine EK.condT rfl ?_ | refine ER.load1 rfl rfl rfl (by assumption) ?_))
        refine ER.callR rfl rfl rfl rfl rfl hgo' ?_
        rintro v h4 δ4 ⟨γ3, rfl, q1, q2, q3, q4, hP0⟩
        have hT := hP0.2.1
        rw [q1, q4] at hT
        have ep : γ3.p = goneTo p (i + 1) := by
          rcases hT with ⟨h1, _⟩ | ⟨_, e⟩
          · cases h1
          · rw [e]; exact goneTo_step
        obtain ⟨s4, M4, g4⟩ := hP0.2.2.gi
        rw [q2, q3] at g4
        have u4 := hP0.2.2.upd
        rw [q2, q3] at u4
        have I4 := hP0.2.2.I
        rw [ep] at I4 g4
        (repeat (first | refine EK.region ?_ | refine ER.done ?_ | refine EK.inBlock ?_ | refine ER.move rfl rfl rfl ?_ | refine ER.assign rfl rfl rfl ?_ | refine ER.add (kd := .i64) rfl rfl rfl rfl (i64_in (by omega) (by omega)) ?_))
        exact EK.back (again (i + 1, γ3) _ _ (by dsimp only; omega) ⟨by dsimp only; omega, rfl, by dsimp only; rw [ep]; exact Mine.refl _, ⟨s4, M4, g4.monoW (fun b hb => hb.elim id fun y => new2 b (Nat.le_trans u3.size y))⟩, I4, u3.trans u4⟩) ⟨rfl, rfl, rfl, trivial⟩
    · obtain rfl : i = p.num := by omega
      clear again
      (repeat (first | refine EK.seq ?_ | refine EK.region ?_ | refine ER.done ?_ | refine ER.move rfl rfl rfl ?_ | refine ER.assign rfl rfl rfl ?_ | refine ER.nilCheck rfl rfl rfl ?_ | refine ER.fieldAddr rfl rfl rfl ?_ | refine ER.cmpF rfl rfl rfl rfl rfl (by first | (dsimp only [cmpP]; omega) | exact rfl | exact Int.le_refl _) ?_ | refine ER.len1 rfl rfl rfl ?_ | refine EK.condF rfl ?_ | refine EK.ret ?_ | refine EK.exit rfl ?_ | refine ER.load1 rfl rfl rfl (by assumption) ?_))
      refine EU.ret1 rfl rfl ⟨γ1, rfl, mn, ⟨s3, M3, g3.monoW wide2⟩, I3, ⟨Nat.le_trans hsz2 u3.size, fun b hb hn => ?_⟩, sl2.upd u3 nL, fun b hb => ⟨(hlt2 b hb).1, Nat.lt_of_lt_of_le (hlt2 b hb).2 u3.size⟩⟩
      exact (u3.2 b (by omega) (fun y => hn (old b hb y))).trans (uR.2 b hb hn)
end
end
section
open Go Go.TJ Go.Conc Go.Proofs
section
variable {X : Us} {W : Nat -> Prop} {p : PS X.U} {s : Sls} {M : Mem Nm} {h : Hp} {γ : GG X}
abbrev repL (e : Int) (n : Nat) (a b c d : Value) : List Value := [.int .i8 e, .int .i64 n, a, b, c, d, nilS]
abbrev repZ : List Value := [.int .i8 0, .int .i64 0, nilS, nilS, nilS, nilS, nilS]
set_option maxHeartbeats 8000000 in
set_option maxRecDepth 8000 in
theorem reportG (hX : X.Ok) (hv : Mine X γ.p p) (g : GI X W p (nums p.log) s M h) (hI : X.I p.u h) (hJ : X.J p.log p.u p.val) (hQ : ∀ x, X.Q x (ownOf x p.log) (p.st x) p.u) (hn : p.num <= 64) (hfl : p.fl <= 64) (hst : ∀ j, j < p.num -> p.gone j = false -> ∃ r, p.st j = .stands r /\ RqOk X r) {e : Int} :
    CallW Try.prog true (SitM Try.prog (PX X)) 76 #[ptr p.R, .int .i8 e] h ⟨0, γ⟩ (Ret fun v h' δ' => ∃ (γ' : GG X) (s' : Sls) (M' : Mem Nm) (lv : Value), δ' = ⟨0, γ'⟩ /\ Mine X γ'.p (allGone p) /\ GI X (fun b => Ours X p M b \/ h.size <= b) (allGone p) (nums p.log) s' M' h' /\ X.I p.u h' /\ Upd (Ours X p M) h h' /\
      SliceO h' lv 142 8 (p.live p.num).length ((p.live p.num).flatMap (leftL p (nums p.log))) /\ v = .agg (repL e p.went.length s'.L s'.W s'.Y lv).toArray) := by
  refine CallW.start (n := 48) rfl rfl ?_
  have uA : Upd (fun _ => False) h (h.push (.cells repZ.toArray 39)) := Upd.push _ _
  have nA : (h.push (.cells repZ.toArray 39))[h.size]? = some (.cells repZ.toArray 39 (0, 0)) := get_push_new _ _
  have gA := g.upd0 uA
  have IA := hX.loc _ _ _ (fun b hb => uA.2 b (g.dom b hb).1 (fun x => x)) hI
  have sA : (h.push (.cells repZ.toArray 39)).size = h.size + 1 := Array.size_push _
  have hends := endsG hX hv gA IA hJ hQ hn hst
  (repeat (first | refine EK.seq ?_ | refine EK.region ?_ | refine ER.done ?_ | refine ER.move rfl rfl rfl ?_ | refine ER.allocA rfl rfl ?_))
  refine ER.callR rfl rfl rfl rfl rfl hends ?_
  clear hends
  rintro lv h1 δ1 ⟨γ1, rfl, mn, ⟨s1, M1, g1⟩, I1, u1, sl, hlb⟩
  have nO : ¬ Ours X p M h.size := fun x => by
    rcases x with ⟨k, hk, e⟩ | x | x | ⟨i, hi, q, hq, e⟩
    · have := g.lt hk; omega
    · have := lt_of_get (g.cel _ x).1; omega
    · have := (g.dom _ x).1; omega
    · have := lt_of_get (g.prv i hi q hq).1; omega
  have n1 := u1.get nA nO
  obtain ⟨aF, kF, eF⟩ := Mem.Sl.val (show M1.Sl .fell s1.F 4 1 p.fl (List.replicate p.fl (.bool false)) from g1.all .fell)
  obtain ⟨aL, kL, eL⟩ := Mem.Sl.val (show M1.Sl .log s1.L 142 8 p.log.length (p.log.flatMap (entL (nums p.log))) from g1.all .log)
  obtain ⟨aW, kW, eW⟩ := Mem.Sl.val (show M1.Sl .went s1.W 3 1 p.went.length (p.went.map fun (n : Nat) => Value.int .i64 (n : Int)) from g1.all .went)
  obtain ⟨aY, kY, eY⟩ := Mem.Sl.val (show M1.Sl .rdy s1.Y 3 1 p.rdy.length (p.rdy.map fun (n : Nat) => Value.int .i64 (n : Int)) from g1.all .rdy)
  obtain ⟨aV, kV, eV⟩ := sl.val
  subst eV
  have hr := g1.runAt
  have c2 : hcell h1 ⟨p.R, 2, none⟩ = some (.slice aL p.log.length kL) := by rw [<- eL]; exact hcell_of hr rfl
  have c3 : hcell h1 ⟨p.R, 3, none⟩ = some (.slice aW p.went.length kW) := by rw [<- eW]; exact hcell_of hr rfl
  have c4 : hcell h1 ⟨p.R, 4, none⟩ = some (.slice aY p.rdy.length kY) := by rw [<- eY]; exact hcell_of hr rfl
  have c5 : hcell h1 ⟨p.R, 5, none⟩ = some (.slice aF p.fl kF) := by rw [<- eF]; exact hcell_of hr rfl
  have hfell : M1.Sl .fell (.slice aF p.fl kF) 4 1 p.fl (List.replicate p.fl (.bool false)) := by
    have := g1.all .fell
    rw [<- eF]; exact this
  have hSD : ∀ o, ¬ (SitM Try.prog (PX X)).still γ1 ⟨h.size, o, none⟩ := fun o => stillM_out mn g1 (fun k hk e => by
    rcases g1.wide k hk with y | y
    · exact nO (e ▸ y)
    · omega)
  clear hr
  obtain ⟨D, hD⟩ : ∃ D, D = h.size := ⟨_, rfl⟩
  rw [<- hD] at n1 hSD nO ⊢
  (repeat (first | refine EK.seq ?_ | refine EK.region ?_ | refine ER.done ?_ | refine EK.block ?_ | refine ER.move rfl rfl rfl ?_ | refine ER.assign rfl rfl rfl ?_ | refine ER.nilCheck rfl rfl rfl ?_ | refine ER.fieldAddr rfl rfl rfl ?_ | refine ER.len1 rfl rfl rfl ?_ | refine ER.load1 rfl rfl rfl (by assumption) ?_))
  refine EK.loopInv (fun i : Nat => [(16, .int .i64 i), (14, .slice aF p.fl kF), (15, .int .i64 p.fl), (6, nilS), (0, ptr p.R), (1, .int .i8 e), (5, .slice aV (p.live p.num).length kV), (4, ptr D)]) (fun i h' δ' => i <= p.fl /\ h' = h1 /\ δ' = ⟨0, γ1⟩) (fun i => p.fl - i) 0 ⟨rfl, rfl, rfl, rfl, rfl, rfl, rfl, rfl, trivial⟩ ⟨Nat.zero_le _, rfl, rfl⟩ ?_
  rintro i h2 δ2 ⟨hi, rfl, rfl⟩ again
  by_cases hin : i < p.fl
  · obtain ⟨cap, e1, hk, hc, _⟩ := hfell.cell g1.rep (by omega)
    injection e1 with e1 e2 e3
    subst e1 e3
    have hci : hcell h2 ⟨M1.B .fell, 0 + i * 1, none⟩ = some (.bool false) := by
      rw [Nat.zero_add, Nat.mul_one]; exact hc i _ (by simp [hin])
    (repeat (first | refine EK.seq ?_ | refine EK.region ?_ | refine ER.done ?_ | refine EK.skip ?_ | refine EK.block ?_ | refine EK.inBlock ?_ | refine ER.move rfl rfl rfl ?_ | refine ER.assign rfl rfl rfl ?_ | refine ER.cmpT rfl rfl rfl rfl rfl (by first | (dsimp only [cmpP]; omega) | exact rfl | exact Int.le_refl _) ?_ | refine ER.add (kd := .i64) rfl rfl rfl rfl (i64_in (by omega) (by omega)) ?_ | refine ER.indexSl rfl rfl rfl rfl (by omega) (by omega) ?_ | refine EK.condT rfl ?_ | refine EK.condF rfl ?_ | refine ER.load1 rfl rfl rfl (by assumption) ?_))
    exact EK.back (again (i + 1) _ _ (by omega) ⟨by omega, rfl, rfl⟩) ⟨rfl, rfl, rfl, rfl, rfl, rfl, rfl, rfl, trivial⟩
  · obtain rfl : i = p.fl := by omega
    clear again
    (repeat (first | refine EK.seq ?_ | refine EK.region ?_ | refine ER.done ?_ | refine ER.cmpF rfl rfl rfl rfl rfl (by first | (dsimp only [cmpP]; omega) | exact rfl | exact Int.le_refl _) ?_ | refine EK.condF rfl ?_ | refine EK.exit rfl ?_))
    refine EK.regionAnyL (fun h' => hcell h' ⟨p.R, 2, none⟩ = some (.slice aL p.log.length kL) /\ hcell h' ⟨p.R, 3, none⟩ = some (.slice aW p.went.length kW) /\ hcell h' ⟨p.R, 4, none⟩ = some (.slice aY p.rdy.length kY)) 21 ?_
    have hZ := And.intro c2 (And.intro c3 c4)
    refine EA.tMove 0 rfl (by kernel_rfl) rfl rfl rfl rfl hZ ?_
    refine EA.tMove 1 rfl (by kernel_rfl) rfl rfl rfl rfl hZ ?_
    refine EA.tNil 2 rfl (by kernel_rfl) rfl rfl rfl rfl hZ ?_
    refine EA.tField 3 rfl (by kernel_rfl) rfl rfl rfl rfl hZ ?_
    refine EA.tLoad 4 rfl (by kernel_rfl) rfl rfl rfl rfl (fun _ hz => hz.2.1) hZ ?_
    refine EA.tLen1 5 rfl (by kernel_rfl) rfl rfl rfl rfl hZ ?_
    refine EA.tMove 6 rfl (by kernel_rfl) rfl rfl rfl rfl hZ ?_
    refine EA.tNil 7 rfl (by kernel_rfl) rfl rfl rfl rfl hZ ?_
    refine EA.tField 8 rfl (by kernel_rfl) rfl rfl rfl rfl hZ ?_
    refine EA.tLoad 9 rfl (by kernel_rfl) rfl rfl rfl rfl (fun _ hz => hz.1) hZ ?_
    refine EA.tMove 10 rfl (by kernel_rfl) rfl rfl rfl rfl hZ ?_
    refine EA.tNil 11 rfl (by kernel_rfl) rfl rfl rfl rfl hZ ?_
    refine EA.tField 12 rfl (by kernel_rfl) rfl rfl rfl rfl hZ ?_
    refine EA.tLoad 13 rfl (by kernel_rfl) rfl rfl rfl rfl (fun _ hz => hz.2.1) hZ ?_
    refine EA.tMove 14 rfl (by kernel_rfl) rfl rfl rfl rfl hZ ?_
    refine EA.tNil 15 rfl (by kernel_rfl) rfl rfl rfl rfl hZ ?_
    refine EA.tField 16 rfl (by kernel_rfl) rfl rfl rfl rfl hZ ?_
    refine EA.tLoad 17 rfl (by kernel_rfl) rfl rfl rfl rfl (fun _ hz => hz.2.2) hZ ?_
    refine EA.tMove 18 rfl (by kernel_rfl) rfl rfl rfl rfl hZ ?_
    refine EA.tMove 19 rfl (by kernel_rfl) rfl rfl rfl rfl hZ ?_
    refine EA.val (v := .agg (repL e p.went.length (.slice aL p.log.length kL) (.slice aW p.went.length kW) (.slice aY p.rdy.length kY) (.slice aV (p.live p.num).length kV)).toArray) (h' := h2) 20 rfl (by kernel_rfl) rfl rfl rfl (fun ρ Q X hρ hq => sem_buildS hρ rfl rfl hq) hZ ?_
    have hcs : ∀ j, j < 7 -> (∃ u, hcell h2 ⟨D, 0 + j, none⟩ = some u) /\ hfroz h2 ⟨D, 0 + j, none⟩ = false /\ ¬ (SitM Try.prog (PX X)).still γ1 ⟨D, 0 + j, none⟩ := fun j hj => by
      refine ⟨?_, hfroz_of n1, hSD _⟩
      rcases (show j = 0 \/ j = 1 \/ j = 2 \/ j = 3 \/ j = 4 \/ j = 5 \/ j = 6 by omega) with rfl | rfl | rfl | rfl | rfl | rfl | rfl <;> exact ⟨_, hcell_of n1 rfl⟩
    refine EA.unitL (h' := hsetRow h2 D 0 (repL e p.went.length (.slice aL p.log.length kL) (.slice aW p.went.length kW) (.slice aY p.rdy.length kY) (.slice aV (p.live p.num).length kV))) 21 rfl (by kernel_rfl) rfl rfl rfl (fun ρ Q X hρ hq => sem_storeN (vs := (repL e p.went.length (.slice aL p.log.length kL) (.slice aW p.went.length kW) (.slice aY p.rdy.length kY) (.slice aV (p.live p.num).length kV))) (hρ _ _ rfl) (hρ _ _ rfl) rfl (by simp [OneCell]) hcs hq) ?_
    refine EA.done (by kernel_rfl) ?_
    rw [row_set (c := repZ) (vs := (repL e p.went.length (.slice aL p.log.length kL) (.slice aW p.went.length kW) (.slice aY p.rdy.length kY) (.slice aV (p.live p.num).length kV))) n1 rfl]
    (repeat refine EK.ret ?_)
    have nC : (h2.setIfInBounds D (.cells (repL e p.went.length (.slice aL p.log.length kL) (.slice aW p.went.length kW) (.slice aY p.rdy.length kY) (.slice aV (p.live p.num).length kV)).toArray 39 (0, 0)))[D]? = some (.cells ((repL e p.went.length (.slice aL p.log.length kL) (.slice aW p.went.length kW) (.slice aY p.rdy.length kY) (.slice aV (p.live p.num).length kV)) ++ []).toArray 39 (0, 0)) := by rw [List.append_nil]; exact get_set_same n1
    have nK : ∀ k, M1.ok k -> M1.B k ≠ D := fun k hk e => by
      rcases g1.wide k hk with y | y
      · exact nO (e ▸ y)
      · omega
    have nD : ¬ X.Dom p.u D := fun x => nO (.inr (.inr (.inl x)))
    have nCc : ¬ X.isC D := fun x => nO (.inr (.inl x))
    have g2 := g1.loose nK nCc (fun j hj q hq e => nO (.inr (.inr (.inr ⟨j, hj, q, hq, e⟩)))) (.cells (repL e p.went.length (.slice aL p.log.length kL) (.slice aW p.went.length kW) (.slice aY p.rdy.length kY) (.slice aV (p.live p.num).length kV)).toArray 39 (0, 0))
    refine EU.retCell1 (vs := (repL e p.went.length (.slice aL p.log.length kL) (.slice aW p.went.length kW) (.slice aY p.rdy.length kY) (.slice aV (p.live p.num).length kV))) rfl rfl rfl (hrow_block nC) ⟨γ1, s1, M1, _, rfl, mn, g2.monoW (fun b hb => hb.imp id fun y => by omega), hX.loc _ _ _ (fun b hb => get_set_ne _ (fun e => nD (e ▸ hb))) I1, ⟨?_, fun x hx hn => ?_⟩, sl.upd (Upd.set (T := fun b => b = D) _ _ _ rfl) (fun b hb e => ?_), by rw [eL, eW, eY]⟩
    · rw [Array.size_setIfInBounds]; have := u1.size; omega
    · rw [get_set_ne _ (by omega), u1.2 x (by omega) hn]
      exact uA.2 x hx (fun x => x)
    · have := (hlb b hb).1; omega
end
end
end Go.Proofs.Ytidfmmaehgijaaa
