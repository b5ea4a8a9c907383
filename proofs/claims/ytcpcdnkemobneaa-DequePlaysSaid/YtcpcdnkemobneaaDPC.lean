/- Steps of the walk and of the plain law (RunD to RunJ). Conditions: as each lemma says. -/
import Derived.Test.YtcpcdnkemobneaaDPB
section
namespace Go.Proofs.Ytcpcdnkemobneaa
open Go Go.TJ Go.Conc Go.Proofs
section
variable {X : Us} {i : Nat} {γ : GG X} {u : X.U} {L : List (Nat × Obj)} {h : Hp}
theorem hset_block {h : Hp} {b o : Nat} {c : Array Value} {e : TypeId} {f : Nat × Nat} (hb : h[b]? = some (.cells c e f)) (v : Value) : hset h ⟨b, o, none⟩ v = h.setIfInBounds b (.cells (c.setIfInBounds o v) e f) := by
  apply Array.ext_getElem?
  intro j
  by_cases hj : b = j
  · subst hj
    rw [get_set_same hb]
    exact hset_same h ⟨b, o, none⟩ v hb rfl
  · rw [get_set_ne _ hj, hset_ne _ _ _ hj]
theorem AtOk.form {s : Ph} {v : Value} {a : List Value} (x : AtOk i s v a) : (∃ y, v = .pointer y) ∧ ∃ t o c b n w x k, a = accL t o c b n w x k := by
  cases s with
  | born => exact ⟨⟨_, x.1⟩, _, _, _, _, _, _, _, _, x.2⟩
  | stands r => exact ⟨⟨_, x.1⟩, _, _, _, _, _, _, _, _, x.2⟩
  | over => exact x
theorem AtOk.form' {s : Ph} {v : Value} {a : List Value} (x : AtOk i s v a) : AtOk i .over v a := x.form
theorem still_of {a : Addr} (hr : γ.run = i) (x : (PX X).still (i + 1) γ a) : a = ⟨γ.p.tb i, 3, none⟩ ∨ ∃ j, j ≠ i ∧ j < γ.p.num ∧ (a = ⟨γ.p.tb j, 2, none⟩ ∨ a = ⟨γ.p.bx j, 0, none⟩) := by
  obtain ⟨j, h1, h2, h3, h4⟩ := x
  cases j with
  | zero =>
    change (cM γ a).isSome = true at h4
    unfold cM at h4
    split at h4
    · rename_i e; rw [e, hr]; exact .inl rfl
    · cases h4
  | succ j =>
    change (cT γ j a).isSome = true at h4
    have hj : j < γ.p.num := by have : j + 1 < γ.p.num + 1 := h2; omega
    refine .inr ⟨j, by omega, hj, ?_⟩
    unfold cT at h4
    split at h4
    · rename_i e; exact .inl e
    · split at h4
      · rename_i e; exact .inr e
      · cases h4
theorem Thr.fresh (T : Thr X i γ u L h) {W : Nat → Prop} {p : PS X.U} {ns : List Nat} {s : Sls} {M : Mem Nm} (g : GI X W p ns s M h) (hp : p.num = γ.p.num ∧ p.tb = γ.p.tb ∧ p.bx = γ.p.bx) {b o : Nat} (hb : ∀ k, M.ok k → (∃ j, k = .t j ∨ k = .bx j) → M.B k ≠ b) : ¬ (PX X).still (i + 1) γ ⟨b, o, none⟩ := by
  intro x
  obtain ⟨p1, p2, p3⟩ := hp
  rcases still_of T.run x with e | ⟨j, _, hj, e | e⟩
  · have := g.all (.t i) (by rw [p1]; exact T.lt)
    refine hb _ this.1 ⟨_, .inl rfl⟩ ?_
    rw [this.2.1, p2]; injection e with e; exact e.symm
  · have := g.all (.t j) (by rw [p1]; exact hj)
    refine hb _ this.1 ⟨_, .inl rfl⟩ ?_
    rw [this.2.1, p2]; injection e with e; exact e.symm
  · have := g.all (.bx j) (by rw [p1]; exact hj)
    refine hb _ this.1 ⟨_, .inr rfl⟩ ?_
    rw [this.2.1, p3]; injection e with e; exact e.symm
theorem acc_three : ({ γ.p.acc i with u := u, prv := ut (γ.p.acc i).prv i L } : PS X.U).num = γ.p.num ∧ ({ γ.p.acc i with u := u, prv := ut (γ.p.acc i).prv i L } : PS X.U).tb = γ.p.tb ∧ ({ γ.p.acc i with u := u, prv := ut (γ.p.acc i).prv i L } : PS X.U).bx = γ.p.bx := by
  obtain ⟨a1, a2, a3, a4, a5, a6, a7, _⟩ := acc_same γ.p i
  exact ⟨a3, a4, a7⟩
theorem Thr.free (T : Thr X i γ u L h) {b o : Nat} (hb : X.Dom u b ∨ X.isC b ∨ (∃ q, q ∈ L ∧ q.1 = b) ∨ h.size ≤ b) : ¬ (SitT Try.prog (PX X) (i + 1)).still γ ⟨b, o, none⟩ := by
  obtain ⟨s, M, g⟩ := T.gi
  refine T.fresh g acc_three (fun k hk _ e => ?_)
  rcases hb with y | y | ⟨q, y, rfl⟩ | y
  · exact (g.apart k hk).2 (e ▸ y)
  · exact (g.apart k hk).1 (e ▸ y)
  · exact (g.prv i (by rw [acc_three.1]; exact T.lt) q (by show q ∈ ut (γ.p.acc i).prv i L i; rw [ut_same]; exact y)).2.2.1 k hk e
  · have := g.lt hk; omega
theorem Thr.freeRow (T : Thr X i γ u L h) {o : Nat} (ho : o ≠ 3) : ¬ (SitT Try.prog (PX X) (i + 1)).still γ ⟨γ.p.tb i, o, none⟩ := by
  obtain ⟨s, M, g⟩ := T.gi
  intro x
  have hi := g.all (.t i) (by rw [acc_three.1]; exact T.lt)
  have ei : M.B (.t i) = γ.p.tb i := hi.2.1.trans (congrFun acc_three.2.1 i)
  rcases still_of T.run x with e | ⟨j, hji, hj, e | e⟩
  · injection e with _ e _; exact ho e
  · have hj' := g.all (.t j) (by rw [acc_three.1]; exact hj)
    have ej : M.B (.t j) = γ.p.tb j := hj'.2.1.trans (congrFun acc_three.2.1 j)
    injection e with e _ _
    exact g.ne hi.1 hj'.1 (fun y => hji (by injection y with y; exact y.symm)) (ei.trans (e.trans ej.symm))
  · have hj' := g.all (.bx j) (by rw [acc_three.1]; exact hj)
    have ej : M.B (.bx j) = γ.p.bx j := hj'.2.1.trans (congrFun acc_three.2.2 j)
    injection e with e _ _
    exact g.ne hi.1 hj'.1 nofun (ei.trans (e.trans ej.symm))
theorem hset_ne_cell {h : Hp} {b o b' o' : Nat} {v : Value} (hne : b' ≠ b) : hcell (hset h ⟨b, o, none⟩ v) ⟨b', o', none⟩ = hcell h ⟨b', o', none⟩ := by
  unfold hcell
  rw [hset_ne _ _ _ (Ne.symm hne)]
theorem Thr.row (T : Thr X i γ u L h) : ∃ v t o c b n w x k, AtOk i (γ.p.st i) v (accL t o c b n w x k) ∧ h[γ.p.tb i]? = some (thrO γ.p.R i (γ.p.wk i) (γ.p.sd i) v (accL t o c b n w x k) false) := by
  obtain ⟨s, M, g⟩ := T.gi
  obtain ⟨a1, a2, a3, a4, a5, a6, a7, a8, a9, a10, a11, a12, _⟩ := acc_same γ.p i
  obtain ⟨v, a, h1, h2⟩ := g.thrAt (i := i) (by rw [acc_three.1]; exact T.lt)
  obtain ⟨_, t, o, c, b, n, w, x, k, rfl⟩ := h1.form
  refine ⟨v, t, o, c, b, n, w, x, k, ?_, ?_⟩
  · rw [← a11]; exact h1
  · rw [← a4, ← a1, ← a5, ← a6, ← T.live, ← a12]; exact h2
theorem Thr.runB (T : Thr X i γ u L h) : ∃ s, h[γ.p.R]? = some (runO s γ.p.mb false) := by
  obtain ⟨s, M, g⟩ := T.gi
  obtain ⟨a1, a2, a3, a4, a5, a6, a7, a8, a9, a10, a11, a12, a13, a14, a15, a16, _⟩ := acc_same γ.p i
  refine ⟨s, ?_⟩
  rw [← a1, ← a2, ← T.go, ← a16]; exact g.runAt
abbrev stopV : Value := .iface 351 (.agg #[])
set_option maxRecDepth 8000 in
set_option maxHeartbeats 4000000 in
theorem stands_ok {r : Rq} (hX : X.Ok) (T : Thr X i γ u L h) (hr : RqOk X r) (hQ : X.Q i (ownOf i (γ.p.acc i).log) (.stands r) u) (hJ : X.J (γ.p.acc i).log u (γ.p.acc i).val) :
    CallW Try.prog false (SitT Try.prog (PX X) (i + 1)) 183 #[ptr (γ.p.tb i), ptr r.b, .agg (rqL i r).toArray] h ⟨0, γ⟩ (RetP (fun _ h' δ' => ∃ γ', δ' = ⟨0, γ'⟩ ∧ γ'.p.stops = false ∧ View X i (γ.p.turn i u L (.stands r) false) γ'.p ∧ P1 X i γ' h')
      (fun ps h' δ' => ∃ γ', δ' = ⟨0, γ'⟩ ∧ Stp X i γ' h' ∧ View X i (γ.p.turn i u L (.stands r) false) γ'.p ∧ ps = [{ v := stopV, recovered := false }])) := by
  refine CallW.start (n := 41) rfl rfl ?_
  (repeat (first | refine EK.seq ?_ | refine EK.region ?_ | refine ER.done ?_ | refine ER.move rfl rfl rfl ?_ | refine ER.nilCheck rfl rfl rfl ?_ | refine ER.fieldAddr rfl rfl rfl ?_ | refine ER.boxA rfl rfl rfl ?_))
  refine ER.gen (fun h' => Thr X i γ u L h' ∧ hrow h' h.size 0 (rqL i r)) ⟨T.upd0 hX (Upd.push _ _), hrow_block (rest := []) (by rw [List.append_nil]; exact get_push_new _ _)⟩ ?_
  generalize h.size = x
  clear T
  rintro h0 ⟨T, bx⟩
  obtain ⟨v, t, o, c, b, n, w, y, k, hat, hrow1⟩ := T.row
  obtain ⟨s0, hrun⟩ := T.runB
  have c0 : hcell h0 ⟨γ.p.tb i, 0, none⟩ = some (ptr γ.p.R) := hcell_of hrow1 rfl
  have c6 : hcell h0 ⟨γ.p.R, 6, none⟩ = some (.bool false) := hcell_of hrun rfl
  (repeat (first | refine EK.seq ?_ | refine ER.done ?_ | refine ER.nilCheck rfl rfl rfl ?_ | refine ER.fieldAddr rfl rfl rfl ?_ | refine ER.load1 rfl rfl rfl (hcell_of (by assumption) rfl) ?_ | refine ER.notB rfl rfl rfl ?_ | refine EK.condT rfl ?_))
  have live : γ.p.st i ≠ .over ∨ True := .inr trivial
  refine EK.regionAny (fun h' => hrow h' x 0 (rqL i r)) ?_
  have hxt : x ≠ γ.p.tb i := fun e => by
    have h1 := bx 0 _ rfl
    rw [e] at h1
    have h2 : hcell h0 ⟨γ.p.tb i, 0 + 0, none⟩ = some (ptr γ.p.R) := hcell_of hrow1 rfl
    rw [h2] at h1
    cases h1
  have hZ := bx
  refine EA.tMove 0 rfl (by kernel_rfl) rfl rfl rfl rfl hZ ?_
  refine EA.tMove 1 rfl (by kernel_rfl) rfl rfl rfl rfl hZ ?_
  refine EA.tMove 2 rfl (by kernel_rfl) rfl rfl rfl rfl hZ ?_
  refine EA.tLoadN (vs := rqL i r) 3 rfl (by kernel_rfl) rfl rfl rfl rfl rfl (fun _ hz => hz) hZ ?_
  refine EA.tNil 4 rfl (by kernel_rfl) rfl rfl rfl rfl hZ ?_
  refine EA.tField 5 rfl (by kernel_rfl) rfl rfl rfl rfl hZ ?_
  have hS : ∀ o, o ≠ 3 → ¬ (SitT Try.prog (PX X) (i + 1)).still γ ⟨γ.p.tb i, o, none⟩ := fun o ho => T.freeRow ho
  refine EA.unit (h' := hset h0 ⟨γ.p.tb i, 4, none⟩ (ptr r.b)) 6 rfl (by kernel_rfl) rfl rfl (fun ρ Q X hρ hq => sem_store1 (hρ _ _ rfl) (hρ _ _ rfl) ⟨nofun, nofun⟩ ⟨_, hcell_of hrow1 rfl⟩ (hfroz_of hrow1) (hS _ (by decide)) hq) ?_ ?_
  · exact fun j v hj => (hset_ne_cell hxt).trans (bx j v hj)
  have hZ : hrow (hset h0 ⟨γ.p.tb i, 4, none⟩ (ptr r.b)) x 0 (rqL i r) := fun j v hj => (hset_ne_cell hxt).trans (bx j v hj)
  rw [hset_block hrow1] at hZ ⊢
  have hrow2 := get_set_same hrow1 (o' := .cells ((ptr γ.p.R :: .int .i64 i :: .chan (some (γ.p.wk i)) :: .chan (some (γ.p.sd i)) :: v :: (accL t o c b n w y k ++ [.bool false])).toArray.setIfInBounds 4 (ptr r.b)) 202 (0, 0))
  refine EA.tNil 7 rfl (by kernel_rfl) rfl rfl rfl rfl hZ ?_
  refine EA.tField 8 rfl (by kernel_rfl) rfl rfl rfl rfl hZ ?_
  have er : hsetRow (h0.setIfInBounds (γ.p.tb i) (.cells ((ptr γ.p.R :: .int .i64 i :: .chan (some (γ.p.wk i)) :: .chan (some (γ.p.sd i)) :: v :: (accL t o c b n w y k ++ [.bool false])).toArray.setIfInBounds 4 (ptr r.b)) 202 (0, 0))) (γ.p.tb i) 5 (rqL i r) = h0.setIfInBounds (γ.p.tb i) (thrO γ.p.R i (γ.p.wk i) (γ.p.sd i) (ptr r.b) (rqL i r) false) := by
    rw [hsetRow_block (rqL i r) 5 _ (ptr γ.p.R :: .int .i64 i :: .chan (some (γ.p.wk i)) :: .chan (some (γ.p.sd i)) :: ptr r.b :: (accL t o c b n w y k ++ [.bool false])) hrow2 (by show 5 + 8 ≤ 14; omega)]
    exact Array.setIfInBounds_setIfInBounds _
  refine EA.unit (h' := h0.setIfInBounds (γ.p.tb i) (thrO γ.p.R i (γ.p.wk i) (γ.p.sd i) (ptr r.b) (rqL i r) false)) 9 rfl (by kernel_rfl) rfl rfl (fun ρ Q X hρ hq => sem_storeN (vs := rqL i r) (hρ _ _ rfl) (hρ _ _ rfl) rfl (by simp [rqL, accL, OneCell]) (fun j hj => ⟨?_, hfroz_of hrow2, hS _ (by omega)⟩) (by rw [er]; exact hq)) ?_ ?_
  · have hj' : j < 8 := hj
    rcases (show j = 0 ∨ j = 1 ∨ j = 2 ∨ j = 3 ∨ j = 4 ∨ j = 5 ∨ j = 6 ∨ j = 7 by omega) with rfl | rfl | rfl | rfl | rfl | rfl | rfl | rfl <;> exact ⟨_, hcell_of hrow2 rfl⟩
  · exact fun j v hj => (hcell_set_ne _ (Ne.symm hxt)).trans (bx j v hj)
  refine EA.done (by kernel_rfl) ?_
  obtain ⟨s, M, g⟩ := T.gi
  obtain ⟨a1, a2, a3, a4, a5, a6, a7, a8, a9, a10, a11, a12, a13, a14, a15, a16, a17⟩ := acc_same γ.p i
  have hlt : i < ({ γ.p.acc i with u := u, prv := ut (γ.p.acc i).prv i L } : PS X.U).num := by rw [acc_three.1]; exact T.lt
  have g1 := g.row hlt (t := .stands r) (v := ptr r.b) (a := rqL i r) ⟨rfl, rfl⟩ false
  have g2 : GI X (Wide γ.W γ.base) (γ.p.turn i u L (.stands r) false) (nums (γ.p.turn i u L (.stands r) false).log) s (M.set (.t i) (thrO (γ.p.acc i).R i ((γ.p.acc i).wk i) ((γ.p.acc i).sd i) (ptr r.b) (rqL i r) false)) (h0.setIfInBounds ((γ.p.acc i).tb i) (thrO (γ.p.acc i).R i ((γ.p.acc i).wk i) ((γ.p.acc i).sd i) (ptr r.b) (rqL i r) false)) := g1
  clear g1
  rw [a1, a4, a5, a6] at g2
  have x1 := g.all (.t i) hlt
  have et : M.B (.t i) = γ.p.tb i := x1.2.1.trans (congrFun acc_three.2.1 i)
  have I2 : X.I u (h0.setIfInBounds (γ.p.tb i) (thrO γ.p.R i (γ.p.wk i) (γ.p.sd i) (ptr r.b) (rqL i r) false)) := hX.loc _ _ _ (fun b hb => get_set_ne _ (fun e => (g.apart _ x1.1).2 (by rw [et, e]; exact hb))) T.I
  have u2 : Upd γ.W γ.base (h0.setIfInBounds (γ.p.tb i) (thrO γ.p.R i (γ.p.wk i) (γ.p.sd i) (ptr r.b) (rqL i r) false)) := updW T.upd _ (et ▸ g.wide _ x1.1)
  have r2 := get_set_same hrow1 (o' := thrO γ.p.R i (γ.p.wk i) (γ.p.sd i) (ptr r.b) (rqL i r) false)
  clear hZ hrow2 er hrow1 c0 c6 bx
  generalize h0.setIfInBounds (γ.p.tb i) (thrO γ.p.R i (γ.p.wk i) (γ.p.sd i) (ptr r.b) (rqL i r) false) = h1 at g2 I2 u2 r2 ⊢
  have c3 : hcell h1 ⟨γ.p.tb i, 3, none⟩ = some (.chan (some (γ.p.sd i))) := hcell_of r2 rfl
  have c2 : hcell h1 ⟨γ.p.tb i, 2, none⟩ = some (.chan (some (γ.p.wk i))) := hcell_of r2 rfl
  (repeat (first | refine EK.seq ?_ | refine EK.region ?_ | refine ER.move rfl rfl rfl ?_ | refine ER.nilCheck rfl rfl rfl ?_ | refine ER.fieldAddr rfl rfl rfl ?_ | refine ER.load1 rfl rfl rfl (hcell_of (by assumption) rfl) ?_))
  refine ER.buildS (cells := #[]) rfl rfl rfl rfl ?_
  have hB : ∀ a, (cT γ i a).isSome = true → a.block < γ.p.tb i + γ.p.bx i + 1 := fun a ha => by
    unfold cT at ha
    split at ha
    · rename_i e; rw [e]; dsimp only; omega
    · split at ha
      · rename_i e; rw [e]; dsimp only; omega
      · cases ha
  have ec : cT { γ with p := γ.p.turn i u L (.stands r) false } i = cT γ i := by
    funext a
    unfold cT
    show (if a = ⟨(γ.p.acc i).tb i, 2, none⟩ then some (Value.chan (some ((γ.p.acc i).wk i))) else if a = ⟨(γ.p.acc i).bx i, 0, none⟩ then some (.pointer (some ⟨(γ.p.acc i).tb i, 0, none⟩)) else none) = _
    rw [a4, a5, a7]
  have hlt2 : i < (γ.p.turn i u L (.stands r) false).num := hlt
  refine ER.gives (X := PX X) (i := i + 1) (j := 0) (c := γ.p.sd i) (c' := γ.p.wk i) (B := γ.p.tb i + γ.p.bx i + 1) (γ₁ := { γ with p := γ.p.turn i u L (.stands r) false }) rfl (fun _ _ _ _ x => x) rfl rfl rfl rfl (by omega) (Nat.succ_pos _) ?a1 ?a2 ?a3 ?a4 ?a5 ?a6 ?a7 ?a8 ?way
  case a1 => show some (γ.p.sd γ.run) = _; rw [T.run]
  case a2 => show (γ.p.acc i).num + 1 = γ.p.num + 1; rw [a3]
  case a3 =>
    intro x hx hl
    cases x with
    | zero =>
      refine ⟨?_, ?_, rfl, rfl, rfl, rfl⟩
      · show some ((γ.p.acc i).sd γ.run) = some (γ.p.sd γ.run); rw [a6]
      · show cM _ = cM γ
        funext a
        show (if a = ⟨(γ.p.acc i).tb γ.run, 3, none⟩ then some (Value.chan (some ((γ.p.acc i).sd γ.run))) else none) = (if a = ⟨γ.p.tb γ.run, 3, none⟩ then some (Value.chan (some (γ.p.sd γ.run))) else none)
        rw [a4, a6]
    | succ j =>
      have hj : j ≠ i := fun e => hx (by rw [e])
      refine ⟨?_, ?_, view_turn hj (T.V j hj) _ _ _⟩
      · show (if ut (γ.p.acc i).gone i false j = true then none else some ((γ.p.acc i).wk j)) = (if γ.p.gone j = true then none else some (γ.p.wk j))
        rw [ut_ne _ _ hj, a12, a5]
      · show cT _ j = cT γ j
        funext a
        show (if a = ⟨(γ.p.acc i).tb j, 2, none⟩ then some (Value.chan (some ((γ.p.acc i).wk j))) else if a = ⟨(γ.p.acc i).bx j, 0, none⟩ then some (.pointer (some ⟨(γ.p.acc i).tb j, 0, none⟩)) else none) = (if a = ⟨γ.p.tb j, 2, none⟩ then some (Value.chan (some (γ.p.wk j))) else if a = ⟨γ.p.bx j, 0, none⟩ then some (.pointer (some ⟨γ.p.tb j, 0, none⟩)) else none)
        rw [a4, a5, a7]
  case a4 =>
    refine ⟨by show γ.run < _; rw [T.run]; exact hlt2, .inl ⟨by rw [T.was]; exact T.go, u, L, .stands r, ?_, nofun, fun r' e => ?_⟩, ⟨s, _, g2⟩, I2, hJ, fun x => ?_, u2⟩
    · show γ.p.turn i u L (.stands r) false = γ.was.turn γ.run u L (.stands r) false
      rw [T.was, T.run]
    · cases e; exact hr
    · show X.Q x (ownOf x (γ.p.acc i).log) (ut (γ.p.acc i).st i (.stands r) x) u
      by_cases e : x = i
      · subst e; rw [ut_same]; exact hQ
      · rw [ut_ne _ _ e, acc_own _ _ e, a11]
        exact hX.stab _ _ _ _ _ (T.V x e) (T.Q x)
  case a5 => show (if ut (γ.p.acc i).gone i false i = true then none else some ((γ.p.acc i).wk i)) = _; rw [ut_same, a5]; rfl
  case a6 =>
    intro a v hv
    change cT _ i a = some v at hv
    rw [ec] at hv
    unfold cT at hv
    split at hv
    · rename_i e; rw [e]; cases hv; exact c2
    · split at hv
      · rename_i e; rw [e]; cases hv
        have := g2.bxAt hlt2
        change h1[(γ.p.acc i).bx i]? = some (.cells #[ptr ((γ.p.acc i).tb i)] _ _) at this
        rw [a7, a4] at this
        exact hcell_of this rfl
      · cases hv
  case a7 => have := g2.wkAt hlt2; change ∃ k, h1[(γ.p.acc i).wk i]? = _ at this; rw [a5] at this; exact this
  case a8 =>
    intro x hx hl e
    have wi := g2.all (.wk i) hlt2
    cases x with
    | zero =>
      have e' : (γ.p.acc i).sd γ.run = γ.p.wk i := Option.some.inj e
      rw [T.run] at e'
      have si := g2.all (.sd i) hlt2
      refine g2.ne wi.1 si.1 nofun (wi.2.1.trans (Eq.trans ?_ si.2.1.symm))
      show (γ.p.acc i).wk i = (γ.p.acc i).sd i
      rw [e', a5]
    | succ j =>
      change (if ut (γ.p.acc i).gone i false j = true then none else some ((γ.p.acc i).wk j)) = some (γ.p.wk i) at e
      split at e
      · cases e
      · have e' := Option.some.inj e
        have hj : j ≠ i := fun e => hx (by rw [e])
        have hl' : j < (γ.p.turn i u L (.stands r) false).num := Nat.lt_of_succ_lt_succ hl
        have wj := g2.all (.wk j) hl'
        refine g2.ne wj.1 wi.1 (fun z => hj (by injection z)) (wj.2.1.trans (Eq.trans ?_ wi.2.1.symm))
        show (γ.p.acc i).wk j = (γ.p.acc i).wk i
        rw [e', a5]
  case way =>
    intro kind hk cs
    rw [show (PX X).cells { γ with p := γ.p.turn i u L (.stands r) false } (i + 1) = cT γ i from ec]
    refine RY.done hB (EY.region hB ?_)
    refine RY.move hB hk rfl rfl rfl ?_
    refine RY.nilCheck hB hk rfl rfl rfl ?_
    refine RY.fieldAddr hB hk rfl rfl rfl ?_
    refine RY.load1 (v := .chan (some (γ.p.wk i))) hB hk rfl rfl rfl (by unfold cT; exact if_pos rfl) ?_
    refine RY.recvE hB hk rfl rfl rfl ?_
    intro γ₂ h₂ hR hP
    have hV : View X i (γ.p.turn i u L (.stands r) false) γ₂.p := hR
    have hP1 : P1 X i γ₂ h₂ := hP
    obtain ⟨q1, q2, q3, q4, q5, q6, q7⟩ := hP1
    obtain ⟨s2, M2, k2⟩ := q5.gi
    obtain ⟨v2, z2, hz, row2⟩ := k2.thrAt q2
    have run2 := k2.runAt
    have eR : γ₂.p.R = γ.p.R := hV.R.trans a1
    have eT : γ₂.p.tb i = γ.p.tb i := hV.tb.trans (congrFun a4 i)
    rw [eT, eR] at row2
    rw [eR] at run2
    have d0 : hcell h₂ ⟨γ.p.tb i, 0, none⟩ = some (ptr γ.p.R) := hcell_of row2 rfl
    have d6 : hcell h₂ ⟨γ.p.R, 6, none⟩ = some (.bool γ₂.p.stops) := hcell_of run2 rfl
    cases es : γ₂.p.stops with
    | false =>
      rw [es] at d6 run2
      (repeat (first | refine EK.seq ?_ | refine EK.region ?_ | refine ER.done ?_ | refine EK.skip ?_ | refine ER.move rfl rfl rfl ?_ | refine ER.nilCheck rfl rfl rfl ?_ | refine ER.fieldAddr rfl rfl rfl ?_ | refine ER.load1 rfl rfl rfl (hcell_of (by assumption) rfl) ?_ | refine EK.condF rfl ?_))
      exact EK.done (EU.ret0 rfl ⟨γ₂, rfl, es, hV, q1, q2, q3, q4, q5, q6, q7⟩)
    | true =>
      rw [es] at d6 run2
      (repeat (first | refine EK.seq ?_ | refine EK.region ?_ | refine ER.done ?_ | refine ER.move rfl rfl rfl ?_ | refine ER.nilCheck rfl rfl rfl ?_ | refine ER.fieldAddr rfl rfl rfl ?_ | refine ER.load1 rfl rfl rfl (hcell_of (by assumption) rfl) ?_ | refine EK.condT rfl ?_))
      refine ER.buildS (cells := #[]) rfl rfl rfl rfl ?_
      refine ER.mkIface Try.underlying351 rfl rfl rfl (fun _ e => by cases e) ?_
      exact ER.panics rfl rfl ⟨γ₂, rfl, ⟨es, q1, q2, q3, q4, q5, q6, q7⟩, hV, rfl⟩
end
end Go.Proofs.Ytcpcdnkemobneaa
end
section
namespace Go.Proofs.Ytcpcdnkemobneaa
open Go Go.TJ Go.Conc Go.Proofs
section
variable {X : Us} {W : Nat → Prop} {p : PS X.U} {ns : List Nat} {s : Sls} {M : Mem Nm} {h h' : Hp} {i : Nat} {γ : GG X} {u : X.U} {L : List (Nat × Obj)}
theorem live_ok {Γ : Type} {main : Bool} {S : Sit Γ} {δ : Ix Γ} {t R : Nat} (h0 : hcell h ⟨t, 0, none⟩ = some (ptr R)) (h1 : hcell h ⟨t, 13, none⟩ = some (.bool false)) : CallW Try.prog main S 159 #[ptr t] h δ (Ret (Det (.bool true) h δ)) := by
  refine CallW.start (n := 19) rfl rfl ?_
  (repeat (first | refine EK.seq ?_ | refine EK.region ?_ | refine ER.done ?_ | refine ER.move rfl rfl rfl ?_ | refine ER.assign rfl rfl rfl ?_ | refine ER.nilCheck rfl rfl rfl ?_ | refine ER.fieldAddr rfl rfl rfl ?_ | refine ER.neqV rfl rfl rfl rfl rfl ?_ | refine ER.notB rfl rfl rfl ?_ | refine ER.pickT rfl rfl rfl rfl ?_ | refine EK.ret ?_ | refine ER.load1 rfl rfl rfl (by assumption) ?_))
  exact EU.ret1 rfl rfl det
theorem GI.loose (g : GI X W p ns s M h) {x : Nat} (h1 : ∀ k, M.ok k → M.B k ≠ x) (h2 : ¬ X.isC x) (h3 : ∀ j, j < p.num → ∀ q, q ∈ p.prv j → q.1 ≠ x) (o : Obj) : GI X W p ns s M (h.setIfInBounds x o) := by
  refine ⟨g.rep.upd (Upd.set (T := fun y => y = x) h x o rfl) h1, g.all, g.wide, fun b hb => ?_, g.apart, fun b hb => ?_, g.num, g.isin, fun j hj q hq => ?_, g.cross⟩
  · rw [get_set_ne _ (fun e : x = b => h2 (by rw [e]; exact hb))]; exact g.cel b hb
  · rw [Array.size_setIfInBounds]; exact g.dom b hb
  · rw [get_set_ne _ (Ne.symm (h3 j hj q hq))]; exact g.prv j hj q hq
theorem fill_acc (t o c a n w x : Int) (k : Bool) : Instr.fill (fun i => some (i * 8, 8)) #[.int .i64 0, .int .i8 0, .int .i64 0, .int .i64 0, .int .i64 0, .int .i64 0, .int .i64 0, .bool false] [(0, .agg (accL t o c a n w x k).toArray)] = some (accL t o c a n w x k).toArray := by
  kernel_rfl
abbrev accO (o : List Value) : Obj := .cells o.toArray 75 (0, 0)
structure Mid (X : Us) (γ : GG X) (i : Nat) (p : PS X.U) (ns : List Nat) (x : Nat) (o : List Value) (h : Hp) : Prop where
  gi : ∃ s M, GI X (Wide γ.W γ.base) p ns s M h ∧ ∀ k, M.ok k → M.B k ≠ x
  lx : h[x]? = some (accO o)
  nc : ¬ X.isC x
  nd : ¬ X.Dom p.u x
  np : ∀ j, j < p.num → ∀ q, q ∈ p.prv j → q.1 ≠ x
  wx : Wide γ.W γ.base x
  I : X.I p.u h
  upd : Upd γ.W γ.base h
  run : γ.run = i
  lt : i < γ.p.num
  st : p.num = γ.p.num ∧ p.tb = γ.p.tb ∧ p.bx = γ.p.bx
  R : p.R = γ.p.R
  mb : p.mb = γ.p.mb
  go : p.stops = false
variable {x : Nat} {o : List Value}
theorem Mid.still (m : Mid X γ i p ns x o h) {b c : Nat} (hb : b = x ∨ X.isC b ∨ b = γ.p.R ∨ b = γ.p.mb ∨ h.size ≤ b) : ¬ (SitT Try.prog (PX X) (i + 1)).still γ ⟨b, c, none⟩ := by
  obtain ⟨s, M, g, nx⟩ := m.gi
  intro y
  have key : ∀ k, M.ok k → (∃ j, k = .t j ∨ k = .bx j) → M.B k ≠ b := fun k hk hj e => by
    rcases hb with rfl | hb | hb | hb | hb
    · exact nx k hk e
    · exact (g.apart k hk).1 (by rw [e]; exact hb)
    · have := g.all .run
      refine g.ne hk this.1 ?_ (e.trans (hb.trans (m.R.symm.trans this.2.1.symm)))
      rcases hj with ⟨j, rfl | rfl⟩ <;> exact nofun
    · have := g.all .map
      refine g.ne hk this.1 ?_ (e.trans (hb.trans (m.mb.symm.trans this.2.1.symm)))
      rcases hj with ⟨j, rfl | rfl⟩ <;> exact nofun
    · have := g.lt hk; omega
  obtain ⟨p1, p2, p3⟩ := m.st
  rcases still_of m.run y with e | ⟨j, _, hj, e | e⟩
  · have := g.all (.t i) (by rw [p1]; exact m.lt)
    refine key _ this.1 ⟨_, .inl rfl⟩ ?_
    rw [this.2.1, p2]; injection e with e; exact e.symm
  · have := g.all (.t j) (by rw [p1]; exact hj)
    refine key _ this.1 ⟨_, .inl rfl⟩ ?_
    rw [this.2.1, p2]; injection e with e; exact e.symm
  · have := g.all (.bx j) (by rw [p1]; exact hj)
    refine key _ this.1 ⟨_, .inr rfl⟩ ?_
    rw [this.2.1, p3]; injection e with e; exact e.symm
theorem Mid.row (m : Mid X γ i p ns x o h) : hcell h ⟨γ.p.tb i, 0, none⟩ = some (ptr γ.p.R) := by
  obtain ⟨s, M, g, nx⟩ := m.gi
  obtain ⟨v, a, _, hr⟩ := g.thrAt (i := i) (by rw [m.st.1]; exact m.lt)
  rw [m.st.2.1, m.R] at hr
  exact hcell_of hr rfl
theorem Mid.cel (m : Mid X γ i p ns x o h) {b : Nat} (hb : X.isC b) : h[b]? = some (cellO (p.val b)) := by
  obtain ⟨s, M, g, nx⟩ := m.gi
  exact (g.cel b hb).1
theorem Mid.setx (m : Mid X γ i p ns x o h) (hX : X.Ok) (o' : List Value) : Mid X γ i p ns x o' (h.setIfInBounds x (accO o')) := by
  obtain ⟨s, M, g, nx⟩ := m.gi
  exact ⟨⟨s, M, g.loose nx m.nc m.np _, nx⟩, get_set_same m.lx, m.nc, m.nd, m.np, m.wx, hX.loc _ _ _ (fun b hb => get_set_ne _ (fun e : x = b => m.nd (by rw [e]; exact hb))) m.I, updW m.upd _ m.wx, m.run, m.lt, m.st, m.R, m.mb, m.go⟩
theorem Mid.cell (m : Mid X γ i p ns x o h) (hX : X.Ok) {b : Nat} (hb : X.isC b) (v : Int) : Mid X γ i { p with val := ut p.val b v } ns x o (h.setIfInBounds b (cellO v)) := by
  obtain ⟨s, M, g, nx⟩ := m.gi
  exact ⟨⟨s, M, g.cell hb v, nx⟩, (get_set_ne _ (fun e : b = x => m.nc (by rw [← e]; exact hb))).trans m.lx, m.nc, m.nd, m.np, m.wx, hX.loc _ _ _ (fun c hc => get_set_ne _ (fun e : b = c => hX.dis _ _ hc (by rw [← e]; exact hb))) m.I, updW m.upd _ (g.cel b hb).2, m.run, m.lt, m.st, m.R, m.mb, m.go⟩
theorem Mid.same (m : Mid X γ i p ns x o h) {b : Nat} : Mid X γ i { p with val := ut p.val b (p.val b) } ns x o h := by
  rw [ut_self]; exact m
theorem Mid.map (m : Mid X γ i p ns x o h) : ∃ es c, h[γ.p.mb]? = some (.map es c) ∧ Keyed es (keysFrom ns 0) ∧ (∀ q, q ∈ keysFrom ns 0 → Plain h q.1.block) := by
  obtain ⟨s, M, g, nx⟩ := m.gi
  obtain ⟨x1, x2, es, c, x3, x4⟩ := g.all .map
  refine ⟨es, c, ?_, x4, fun q hq => ?_⟩
  · rw [← m.mb, ← x2, ← x3]; exact g.rep.has _ x1
  · exact ⟨_, _, (g.cel _ (g.num _ (keysFrom_mem _ _ _ hq))).1⟩
theorem Mid.mapNew (m : Mid X γ i p ns x o h) (hX : X.Ok) {b : Nat} (hb : X.isC b) {es : Array MapEntry} {c : Nat} (hm : h[γ.p.mb]? = some (.map es c)) (hk : Keyed es (keysFrom ns 0)) :
    Mid X γ i p (ns ++ [b]) x o (h.setIfInBounds γ.p.mb (.map (es.push { key := .pointer (some ⟨b, 0, none⟩), val := .int .i64 (ns.length : Int), born := c }) (c + 1))) := by
  obtain ⟨s, M, g, nx⟩ := m.gi
  obtain ⟨x1, x2, es', c', x3, x4⟩ := g.all .map
  have hM : M.O .map = .map es c := by
    have := g.rep.has _ x1
    rw [x2, m.mb, hm] at this
    exact (Option.some.inj this).symm
  have g' := g.mapNew hb hM hk
  rw [m.mb] at g'
  have nR : γ.p.mb ≠ x := fun e => nx .map x1 (x2.trans (m.mb.trans e))
  exact ⟨⟨s, _, g', nx⟩, (get_set_ne _ nR).trans m.lx, m.nc, m.nd, m.np, m.wx, hX.loc _ _ _ (fun d hd => get_set_ne _ (fun e : γ.p.mb = d => (g.apart .map x1).2 (by rw [x2, m.mb, e]; exact hd))) m.I, updW m.upd _ (by rw [← m.mb, ← x2]; exact g.wide _ x1), m.run, m.lt, m.st, m.R, m.mb, m.go⟩
theorem keyed_size {es : Array MapEntry} {l : List (Addr × Value)} (hk : Keyed es l) : es.size = l.length := by
  have := congrArg List.length hk
  simpa using this
theorem keysFrom_length : ∀ (l : List Nat) (j : Nat), (keysFrom l j).length = l.length
  | [], _ => rfl
  | _ :: l, j => by simp [keysFrom, keysFrom_length l]
theorem Mid.runC (m : Mid X γ i p ns x o h) : ∃ s, h[γ.p.R]? = some (runO s γ.p.mb false) := by
  obtain ⟨s, M, g, nx⟩ := m.gi
  refine ⟨s, ?_⟩
  rw [← m.R, ← m.mb, ← m.go]; exact g.runAt
theorem thr_of {r : Rq} {γ' : GG X} (hX : X.Ok) (hs : γ'.p.stops = false) (hP : P1 X i γ' h') (hst : γ'.p.st i = .stands r)
    (g : ∃ s M, GI X (Wide γ'.W γ'.base) { γ'.p with prv := ut γ'.p.prv i L, val := ut γ'.p.val r.b (behind r.op (γ'.p.val r.b) r.arg r.new).1, log := γ'.p.log ++ [evOf i r (γ'.p.val r.b)] } (nums (γ'.p.log ++ [evOf i r (γ'.p.val r.b)])) s M h) (hI : X.I γ'.p.u h) (hu : Upd γ'.W γ'.base h) : Thr X i γ' γ'.p.u L h := by
  refine ⟨hP.run, hP.lt, hP.live, hs, hP.was, ?_, hI, hP.held.J, hP.held.Q, fun _ _ => hX.vrefl _ _, hu, hP.len hs⟩
  rw [acc_stands _ _ hst]
  exact g
structure Stood (X : Us) (i : Nat) (γ : GG X) (u : X.U) (r : Rq) (γ' : GG X) : Prop where
  st : γ'.p.st i = .stands r
  al : Along X i γ.p γ'.p
  own : ownOf i γ'.p.log = ownOf i (γ.p.acc i).log
  V : X.V i u γ'.p.u
theorem Stood.of {r : Rq} {γ' : GG X} (hV : View X i (γ.p.turn i u L (.stands r) false) γ'.p) : Stood X i γ u r γ' :=
  ⟨hV.st.trans (ut_same _ _ _), ⟨hV.tb.trans (congrFun (acc_same γ.p i).2.2.2.1 i), hV.bx.trans (congrFun (acc_same γ.p i).2.2.2.2.2.2.1 i), hV.br.trans (congrFun (acc_same γ.p i).2.2.2.2.2.2.2.2.1 i), hV.R.trans (acc_same γ.p i).1⟩, hV.own, hV.V⟩
theorem Stood.tb {r : Rq} {γ' : GG X} (x : Stood X i γ u r γ') : γ'.p.tb i = γ.p.tb i := x.al.tb
theorem Stood.after {r : Rq} {γ' : GG X} (x : Stood X i γ u r γ') : ownOf i (γ'.p.acc i).log = ownOf i (γ.p.acc i).log ++ [evOf i r (γ'.p.val r.b)] := by
  rw [acc_stands _ _ x.st]
  show ownOf i (γ'.p.log ++ [_]) = _
  rw [own_snoc, if_pos (show (evOf i r (γ'.p.val r.b)).thr = i from rfl), x.own]
theorem Thr.alloc (hX : X.Ok) (T : Thr X i γ u L h) (o : Obj) : Thr X i γ u ((h.size, o) :: L) (h.push o) := by
  obtain ⟨s, M, g⟩ := T.gi
  have hdom : ∀ b, X.Dom u b → b < h.size := fun b hb => (g.dom b hb).1
  refine T.user hX (Upd.push h o) (fun b hb => ⟨.inl hb, by rw [Array.size_push]; have := hdom b hb; omega⟩) (fun q hq => ?_) (hX.loc _ _ _ (fun b hb => (Upd.push (T := fun _ => False) h o).2 b (hdom b hb) (fun x => x)) T.I) (fun _ _ => hX.vrefl _ _)
  rcases List.mem_cons.1 hq with rfl | hq
  · exact ⟨get_push_new _ _, .inr (Nat.le_refl _), fun y => by have := hdom _ y; dsimp only at this; omega⟩
  · have := g.prv i (by rw [acc_three.1]; exact T.lt) q (by show q ∈ ut (γ.p.acc i).prv i L i; rw [ut_same]; exact hq)
    exact ⟨get_push _ this.1, .inl ⟨q, hq, rfl⟩, this.2.2.2.2⟩
theorem Mid.of {γ' : GG X} {r : Rq} (hX : X.Ok) (hx : ∀ q, q ∈ L → q.1 ≠ x) (hs : γ'.p.stops = false) (hV : View X i (γ.p.turn i u ((x, accO o) :: L) (.stands r) false) γ'.p) (hP : P1 X i γ' h) : Mid X γ' i { γ'.p with prv := ut γ'.p.prv i L } (nums γ'.p.log) x o h := by
  obtain ⟨q1, q2, q3, q4, q5, q6, q7⟩ := hP
  obtain ⟨s, M, g⟩ := q5.gi
  have eL : γ'.p.prv i = (x, accO o) :: L := hV.prv.trans (ut_same _ _ _)
  obtain ⟨y1, y2, y3, y4, y5⟩ := g.prv i q2 (x, accO o) (by rw [eL]; simp)
  have g' := g.user q2 (u' := γ'.p.u) (L' := L) (h' := h) (Upd.refl _ _) (fun b hb => ⟨.inl hb, (g.dom b hb).1⟩) (fun q hq => by
    have := g.prv i q2 q (by rw [eL]; simp [hq])
    exact ⟨this.1, .inl ⟨q, by rw [eL]; simp [hq], rfl⟩, this.2.2.2.2⟩) hX
  refine ⟨⟨s, M, g', y3⟩, y1, y4, y5, fun j hj q hq => ?_, y2, q5.I, q5.upd, q1, q2, ⟨rfl, rfl, rfl⟩, rfl, rfl, hs⟩
  change q ∈ ut γ'.p.prv i L j at hq
  by_cases e : j = i
  · subst e; rw [ut_same] at hq; exact hx q hq
  · rw [ut_ne _ _ e] at hq
    exact fun ex => g.cross i j q2 hj (Ne.symm e) (x, accO o) q (by rw [eL]; simp) hq ex.symm
end
end Go.Proofs.Ytcpcdnkemobneaa
end
section
namespace Go.Proofs.Ytcpcdnkemobneaa
open Go Go.TJ Go.Conc Go.Proofs
section
variable {X : Us} {h : Hp} {i : Nat} {γ : GG X} {u : X.U} {L : List (Nat × Obj)}
theorem still_nm {W : Nat → Prop} {p : PS X.U} {ns : List Nat} {s : Sls} {M : Mem Nm} (hr : γ.run = i) (hl : i < γ.p.num) (g : GI X W p ns s M h) (st : p.num = γ.p.num ∧ p.tb = γ.p.tb ∧ p.bx = γ.p.bx) {k : Nm} (hk : M.ok k) (hne : ∀ j, k ≠ .t j ∧ k ≠ .bx j) {c : Nat} : ¬ (SitT Try.prog (PX X) (i + 1)).still γ ⟨M.B k, c, none⟩ := by
  intro y
  obtain ⟨p1, p2, p3⟩ := st
  rcases still_of hr y with e | ⟨j, _, hj, e | e⟩
  · have := g.all (.t i) (by rw [p1]; exact hl)
    refine g.ne hk this.1 (hne i).1 ?_
    rw [this.2.1, p2]; injection e with e
  · have := g.all (.t j) (by rw [p1]; exact hj)
    refine g.ne hk this.1 (hne j).1 ?_
    rw [this.2.1, p2]; injection e with e
  · have := g.all (.bx j) (by rw [p1]; exact hj)
    refine g.ne hk this.1 (hne j).2 ?_
    rw [this.2.1, p3]; injection e with e
theorem nums_pos {l : List Ev} {e : Ev} (h : e.b ∈ nums l) : nums (l ++ [e]) = nums l := by rw [nums_snoc, if_pos h]
theorem nums_neg {l : List Ev} {e : Ev} (h : e.b ∉ nums l) : nums (l ++ [e]) = nums l ++ [e.b] := by rw [nums_snoc, if_neg h]
theorem idxOf_snoc {b : Nat} : ∀ {l : List Nat}, b ∉ l → (l ++ [b]).idxOf b = l.length
  | [], _ => by simp
  | x :: l, h => by
    have e' : (x == b) = false := by
      have : x ≠ b := fun y => h (by simp [y])
      simpa using this
    rw [List.cons_append, List.idxOf_cons, e']
    simp only [cond_false, List.length_cons]
    rw [idxOf_snoc (fun y => h (by simp [y]))]
theorem Thr.lts (T : Thr X i γ u L h) : ∀ q, q ∈ L → q.1 < h.size := fun q hq => by
  obtain ⟨s, M, g⟩ := T.gi
  exact lt_of_get (g.prv i (by rw [acc_three.1]; exact T.lt) q (by show q ∈ ut (γ.p.acc i).prv i L i; rw [ut_same]; exact hq)).1
set_option maxRecDepth 8000 in
set_option maxHeartbeats 8000000 in
theorem step_ok {r : Rq} (hX : X.Ok) (T : Thr X i γ u L h) (hr : RqOk X r) (hQ : X.Q i (ownOf i (γ.p.acc i).log) (.stands r) u) (hJ : X.J (γ.p.acc i).log u (γ.p.acc i).val) :
    CallW Try.prog false (SitT Try.prog (PX X) (i + 1)) 160 #[ptr (γ.p.tb i), ptr r.b, .int .i8 r.op, .int .i64 r.arg, .int .i64 r.new] h ⟨0, γ⟩
      (RetP (fun w h' δ' => ∃ γ', δ' = ⟨0, γ'⟩ ∧ Thr X i γ' γ'.p.u L h' ∧ Stood X i γ u r γ' ∧ w = .tuple #[.int .i64 (γ'.p.val r.b), .int .i64 (behind r.op (γ'.p.val r.b) r.arg r.new).1, .bool (behind r.op (γ'.p.val r.b) r.arg r.new).2])
        (fun ps h' δ' => ∃ γ', δ' = ⟨0, γ'⟩ ∧ Stp X i γ' h' ∧ Stood X i γ u r γ' ∧ ps = [{ v := stopV, recovered := false }])) := by
  obtain ⟨op, b, arg, new⟩ := r
  obtain ⟨hC, h1, h2, h3, h4⟩ := id hr
  dsimp only at hC h1 h2 h3 h4 ⊢
  obtain ⟨v, t, o, c, b0, n, w, y, k, hat, hrow1⟩ := T.row
  have c0 : hcell h ⟨γ.p.tb i, 0, none⟩ = some (ptr γ.p.R) := hcell_of hrow1 rfl
  have c1 : hcell h ⟨γ.p.tb i, 1, none⟩ = some (.int .i64 i) := hcell_of hrow1 rfl
  have c13 : hcell h ⟨γ.p.tb i, 13, none⟩ = some (.bool false) := hcell_of hrow1 rfl
  rcases (show op = 1 ∨ op = 2 ∨ op = 3 ∨ op = 4 ∨ op = 5 by omega) with rfl | rfl | rfl | rfl | rfl
  · obtain rfl := h3 rfl
    obtain rfl := h4 (by decide)
    refine CallW.start (n := 127) rfl rfl ?_
    (repeat (first | refine EK.seq ?_ | refine EK.region ?_ | refine ER.done ?_ | refine ER.move rfl rfl rfl ?_ | refine ER.assign rfl rfl rfl ?_))
    refine ER.callD rfl rfl rfl rfl rfl (live_ok c0 c13) ?_
    (repeat (first | refine EK.seq ?_ | refine EK.region ?_ | refine ER.done ?_ | refine EK.skip ?_ | refine ER.move rfl rfl rfl ?_ | refine ER.assign rfl rfl rfl ?_ | refine ER.nilCheck rfl rfl rfl ?_ | refine ER.fieldAddr rfl rfl rfl ?_ | refine ER.load1 rfl rfl rfl (hcell_of (by assumption) rfl) ?_ | refine ER.eqV rfl rfl rfl rfl rfl ?_ | refine ER.notB rfl rfl rfl ?_ | refine ER.pickF rfl rfl rfl rfl ?_ | refine ER.cmpT rfl rfl rfl rfl rfl (by first | (dsimp only [cmpP]; omega) | exact rfl | exact Int.le_refl _) ?_ | refine ER.cmpF rfl rfl rfl rfl rfl (by first | (dsimp only [cmpP]; omega) | exact rfl | exact Int.le_refl _) ?_ | refine EK.condT rfl ?_ | refine EK.condF rfl ?_))
    refine ER.buildS (cells := (rqL i ⟨1, b, 0, 0⟩).toArray) rfl rfl rfl rfl ?_
    (repeat refine ER.allocA rfl rfl ?_)
    refine ER.storeN (vs := rqL i ⟨1, b, 0, 0⟩) rfl rfl rfl rfl (by simp [rqL, accL, OneCell]) (fun j hj => ⟨?_, hfroz_of (get_push_new _ _), T.free (.inr (.inr (.inr (Nat.le_refl _))))⟩) ?_
    · have hj' : j < 8 := hj
      rcases (show j = 0 ∨ j = 1 ∨ j = 2 ∨ j = 3 ∨ j = 4 ∨ j = 5 ∨ j = 6 ∨ j = 7 by omega) with rfl | rfl | rfl | rfl | rfl | rfl | rfl | rfl <;> exact ⟨_, hcell_of (get_push_new _ _) rfl⟩
    rw [hsetRow_push (c := [.int .i64 0, .int .i8 0, .int .i64 0, .int .i64 0, .int .i64 0, .int .i64 0, .int .i64 0, .bool false]) (vs := rqL i ⟨1, b, 0, 0⟩) rfl]
    have T1 := T.alloc hX (accO (rqL i ⟨1, b, 0, 0⟩))
    have hx := T.lts
    (repeat (first | refine EK.seq ?_ | refine EK.region ?_ | refine ER.done ?_ | refine ER.move rfl rfl rfl ?_))
    refine ER.loadN (vs := rqL i ⟨1, b, 0, 0⟩) rfl rfl rfl rfl (hrow_block (rest := []) (by rw [List.append_nil]; exact get_push_new _ _)) ?_
    refine ER.callP rfl rfl rfl rfl rfl (stands_ok hX T1 hr hQ hJ) ?_ ?_
    · rintro ps h' δ' ⟨γ', rfl, hS, hV, rfl⟩
      exact ⟨γ', rfl, hS, Stood.of hV, rfl⟩
    rintro w h1 δ1 ⟨γ', rfl, hs, hV, hP⟩
    have m := Mid.of hX (fun q hq => Nat.ne_of_lt (hx q hq)) hs hV hP
    have et : γ'.p.tb i = γ.p.tb i := (Stood.of hV).tb
    have hst : γ'.p.st i = .stands ⟨1, b, 0, 0⟩ := (Stood.of hV).st
    generalize h.size = x at m hV ⊢
    have cb : h1[b]? = some (cellO (γ'.p.val b)) := m.cel hC
    (repeat (first | refine EK.seq ?_ | refine EK.region ?_ | refine ER.done ?_ | refine ER.move rfl rfl rfl ?_))
    refine ER.callD rfl rfl rfl rfl rfl (aload_ok (v := γ'.p.val b) (hcell_of cb rfl)) ?_
    (repeat refine ER.fieldAddr rfl rfl rfl ?_)
    refine ER.store1 rfl rfl rfl ⟨nofun, nofun⟩ ⟨_, hcell_of m.lx rfl⟩ (hfroz_of m.lx) (m.still (.inl rfl)) ?_
    refine ER.gen (fun h' => Mid X γ' i { γ'.p with prv := ut γ'.p.prv i L } (nums γ'.p.log) x (accL i 1 (-1) 0 0 (γ'.p.val b) 0 false) h') (by rw [hset_block m.lx]; exact m.setx hX _) ?_
    clear m cb
    rintro h2 m
    have cb : h2[b]? = some (cellO (γ'.p.val b)) := m.cel hC
    replace m := m.same (b := b)
    (repeat (first | refine EK.seq ?_ | refine EK.region ?_ | refine ER.done ?_ | refine EK.skip ?_ | refine EK.block ?_ | refine EK.inBlock ?_ | refine ER.move rfl rfl rfl ?_ | refine ER.assign rfl rfl rfl ?_ | refine ER.cmpF rfl rfl rfl rfl rfl (by first | (dsimp only [cmpP]; omega) | exact rfl | exact Int.le_refl _) ?_ | refine EK.condF rfl ?_))
    revert m
    generalize h2 = h3
    intro m
    clear cb
    have cb : h3[b]? = some (cellO (γ'.p.val b)) := (m.cel hC).trans (congrArg (fun v => some (cellO v)) (ut_same _ _ _))
    skip
    refine ER.callD rfl rfl rfl rfl rfl (aload_ok (v := γ'.p.val b) (hcell_of cb rfl)) ?_
    (repeat refine ER.fieldAddr rfl rfl rfl ?_)
    refine ER.store1 rfl rfl rfl ⟨nofun, nofun⟩ ⟨_, hcell_of m.lx rfl⟩ (hfroz_of m.lx) (m.still (.inl rfl)) ?_
    refine ER.gen (fun h' => Mid X γ' i { γ'.p with prv := ut γ'.p.prv i L, val := ut γ'.p.val b (γ'.p.val b) } (nums γ'.p.log) x (accL i 1 (-1) 0 0 (γ'.p.val b) (γ'.p.val b) false) h') (by rw [hset_block m.lx]; exact m.setx hX _) ?_
    clear m cb
    rintro h4 m
    have cb : h4[b]? = some (cellO (γ'.p.val b)) := (m.cel hC).trans (congrArg (fun v => some (cellO v)) (ut_same _ _ _))
    have d0 := m.row
    obtain ⟨s1, d1⟩ := m.runC
    rw [et] at d0
    obtain ⟨es, c', hm, hk, hpl⟩ := m.map
    (repeat (first | refine EK.seq ?_ | refine EK.region ?_ | refine ER.done ?_ | refine ER.move rfl rfl rfl ?_ | refine ER.nilCheck rfl rfl rfl ?_ | refine ER.fieldAddr rfl rfl rfl ?_ | refine ER.load1 rfl rfl rfl (hcell_of (by assumption) rfl) ?_ | refine ER.load1 rfl rfl rfl (by assumption) ?_))
    by_cases hb : b ∈ nums γ'.p.log
    · refine ER.lookupOk (v := .tuple #[.int .i64 ((nums γ'.p.log).idxOf b : Int), .bool true]) rfl rfl rfl rfl (by decide) hm ⟨_, _, cb⟩ hpl hk (by rw [pfind_keys, if_pos hb]; simp) ?_
      clear d1 hm hk hpl
      (repeat (first | refine EK.seq ?_ | refine EK.region ?_ | refine ER.done ?_ | refine EK.skip ?_ | refine ER.move rfl rfl rfl ?_ | refine ER.assign rfl rfl rfl ?_ | refine ER.fieldAddr rfl rfl rfl ?_ | refine ER.notB rfl rfl rfl ?_ | refine ER.extract rfl rfl rfl rfl ?_ | refine EK.condF rfl ?_))
      have hN := nums_pos (e := evOf i ⟨1, b, 0, 0⟩ (γ'.p.val b)) hb
      have he := hb
      revert m hN he
      generalize h4 = h5, eNS : nums γ'.p.log = NS
      intro m hN he
      clear cb eNS
      refine ER.store1 rfl rfl rfl ⟨nofun, nofun⟩ ⟨_, hcell_of m.lx rfl⟩ (hfroz_of m.lx) (m.still (.inl rfl)) ?_
      refine ER.gen (fun h' => Mid X γ' i { γ'.p with prv := ut γ'.p.prv i L, val := ut γ'.p.val b (γ'.p.val b) } NS x (accL i 1 (NS.idxOf b) 0 0 (γ'.p.val b) (γ'.p.val b) false) h') (by rw [hset_block m.lx]; exact m.setx hX _) ?_
      clear m d0
      rintro h6 m
      obtain ⟨s2, M2, g2, nx2⟩ := m.gi
      have d0 := m.row
      rw [et] at d0
      have d1 : h6[γ'.p.R]? = some (runO s2 γ'.p.mb γ'.p.stops) := g2.runAt
      have lx := m.lx
      (repeat (first | refine EK.seq ?_ | refine ER.done ?_))
      refine EK.regionAnyL (fun h' => hcell h' ⟨γ.p.tb i, 0, none⟩ = some (ptr γ'.p.R) ∧ hcell h' ⟨γ'.p.R, 2, none⟩ = some s2.L ∧ hrow h' x 0 (accL i 1 (NS.idxOf b) 0 0 (γ'.p.val b) (γ'.p.val b) false)) 16 ?_
      have lrow : hrow h6 x 0 (accL i 1 (NS.idxOf b) 0 0 (γ'.p.val b) (γ'.p.val b) false) := hrow_block (rest := []) (by rw [List.append_nil]; exact lx)
      have hZ := And.intro d0 (And.intro (hcell_of d1 rfl : hcell h6 ⟨γ'.p.R, 2, none⟩ = some s2.L) lrow)
      refine EA.tMove 0 rfl (by kernel_rfl) rfl rfl rfl rfl hZ ?_
      refine EA.tNil 1 rfl (by kernel_rfl) rfl rfl rfl rfl hZ ?_
      refine EA.tField 2 rfl (by kernel_rfl) rfl rfl rfl rfl hZ ?_
      refine EA.tLoad 3 rfl (by kernel_rfl) rfl rfl rfl rfl (fun _ hz => hz.1) hZ ?_
      refine EA.tMove 4 rfl (by kernel_rfl) rfl rfl rfl rfl hZ ?_
      refine EA.tNil 5 rfl (by kernel_rfl) rfl rfl rfl rfl hZ ?_
      refine EA.tField 6 rfl (by kernel_rfl) rfl rfl rfl rfl hZ ?_
      refine EA.tLoad 7 rfl (by kernel_rfl) rfl rfl rfl rfl (fun _ hz => hz.1) hZ ?_
      refine EA.tNil 8 rfl (by kernel_rfl) rfl rfl rfl rfl hZ ?_
      refine EA.tField 9 rfl (by kernel_rfl) rfl rfl rfl rfl hZ ?_
      refine EA.tLoad 10 rfl (by kernel_rfl) rfl rfl rfl rfl (fun _ hz => hz.2.1) hZ ?_
      refine EA.tLoadN (vs := accL i 1 (NS.idxOf b) 0 0 (γ'.p.val b) (γ'.p.val b) false) 11 rfl (by kernel_rfl) rfl rfl rfl rfl rfl (fun _ hz => hz.2.2) hZ ?_
      have hZ3 : _ ∧ _ ∧ _ := ⟨hcell_push (o := accO (accL i 1 (NS.idxOf b) 0 0 (γ'.p.val b) (γ'.p.val b) false)) hZ.1, hcell_push (o := accO (accL i 1 (NS.idxOf b) 0 0 (γ'.p.val b) (γ'.p.val b) false)) hZ.2.1, fun j v hj => hcell_push (o := accO (accL i 1 (NS.idxOf b) 0 0 (γ'.p.val b) (γ'.p.val b) false)) (hZ.2.2 j v hj)⟩
      refine EA.val (v := .slice (some ⟨h6.size, 0, none⟩) 1 1) (h' := h6.push (accO (accL i 1 (NS.idxOf b) 0 0 (γ'.p.val b) (γ'.p.val b) false))) 12 rfl (by kernel_rfl) rfl rfl rfl (fun ρ Q X hρ hq => sem_slice1 (z := .agg #[.int .i64 0, .int .i8 0, .int .i64 0, .int .i64 0, .int .i64 0, .int .i64 0, .int .i64 0, .bool false]) (sz := 8) hρ rfl (by omega) (by omega) rfl (fill_acc _ _ _ _ _ _ _ _) hq) hZ3 ?_
      have g3 := g2.upd0 (Upd.push h6 (accO (accL i 1 (NS.idxOf b) 0 0 (γ'.p.val b) (γ'.p.val b) false)))
      have hlen := hP.len hs
      have d3 := (Upd.push (T := fun _ => False) h6 (accO (accL i 1 (NS.idxOf b) 0 0 (γ'.p.val b) (γ'.p.val b) false))).get d1 (fun x => x)
      have lx3 := (Upd.push (T := fun _ => False) h6 (accO (accL i 1 (NS.idxOf b) 0 0 (γ'.p.val b) (γ'.p.val b) false))).get lx (fun x => x)
      have u3 := upd_then m.upd (Upd.push (T := fun _ => False) h6 (accO (accL i 1 (NS.idxOf b) 0 0 (γ'.p.val b) (γ'.p.val b) false))) (fun _ _ x => x.elim)
      have I3 := hX.loc _ _ _ (fun c hc => (Upd.push (T := fun _ => False) h6 (accO (accL i 1 (NS.idxOf b) 0 0 (γ'.p.val b) (γ'.p.val b) false))).2 c (g2.dom c hc).1 (fun x => x)) m.I
      have hlog : M2.Sl .log s2.L 75 8 γ'.p.log.length (γ'.p.log.flatMap (entL NS)) := g3.all .log
      have hrun := g3.all .run
      refine EA.append1 (new := accL i 1 (NS.idxOf b) 0 0 (γ'.p.val b) (γ'.p.val b) false) 13 rfl (by kernel_rfl) rfl rfl rfl rfl rfl (hlog.slice g3.rep) (get_push_new _ _) rfl (by simp [accL, OneCell]) (by omega) (by omega) rfl (fun c o hc => ?_) ?_
      · obtain ⟨hk, e⟩ := hlog.blk hc
        rw [e]; exact still_nm m.run m.lt g3 m.st hk (fun j => ⟨nofun, nofun⟩)
      intro s' h7 hs7 u7 hb7
      have nl : ∀ k, k ≠ .log → M2.ok k → ¬ blk s2.L = some (M2.B k) := fun k hk ok e => by
        obtain ⟨hk', e'⟩ := hlog.blk e
        exact g3.ne ok hk' hk e'
      have hti := g3.all (.t i) (by show i < γ'.p.num; exact hP.lt)
      have nti : ¬ blk s2.L = some (γ.p.tb i) := by rw [← et]; have := nl (.t i) nofun hti.1; rwa [hti.2.1] at this
      have nR : ¬ blk s2.L = some γ'.p.R := by have := nl .run nofun hrun.1; rwa [hrun.2.1] at this
      have nx3 : ¬ blk s2.L = some x := fun e => by
        obtain ⟨hk', e'⟩ := hlog.blk e
        exact nx2 _ hk' e'.symm
      have d7 := u7.get d3 nR
      have lx7 := u7.get lx3 nx3
      have hZ7 : hcell h7 ⟨γ.p.tb i, 0, none⟩ = some (ptr γ'.p.R) ∧ hcell h7 ⟨γ'.p.R, 2, none⟩ = some s2.L ∧ hrow h7 x 0 (accL i 1 (NS.idxOf b) 0 0 (γ'.p.val b) (γ'.p.val b) false) := ⟨u7.hcell hZ3.1 nti, hcell_of d7 rfl, fun j v hj => u7.hcell (hZ3.2.2 j v hj) nx3⟩
      refine ⟨hZ7, ?_⟩
      refine EA.val 14 rfl (by kernel_rfl) rfl rfl rfl (fun ρ Q X hρ hq => sem_nilCheck (hρ _ _ rfl) hq) hZ7 ?_
      have hZ := hZ7
      refine EA.tField 15 rfl (by kernel_rfl) rfl rfl rfl rfl hZ ?_
      have hbh : behind 1 (γ'.p.val b) 0 0 = (γ'.p.val b, false) := rfl
      have hent : entL NS (evOf i ⟨1, b, 0, 0⟩ (γ'.p.val b)) = accL i 1 (NS.idxOf b) 0 0 (γ'.p.val b) (γ'.p.val b) false := by
        show accL _ _ _ _ _ _ (behind 1 (γ'.p.val b) 0 0).1 (behind 1 (γ'.p.val b) 0 0).2 = _
        rw [hbh]
        rfl
      obtain ⟨as7, ks7, es7⟩ := hs7.val
      have hOne : OneCell s' := by rw [es7]; exact ⟨nofun, nofun⟩
      rw [← hent] at hs7
      obtain ⟨M', g8⟩ := g3.logApp (e := evOf i ⟨1, b, 0, 0⟩ (γ'.p.val b)) he hs7 u7 hb7 (fun c hc => .inr (Nat.le_trans u3.size hc))
      have I7 : X.I γ'.p.u h7 := hX.loc _ _ _ (fun c hc => u7.2 c (g3.dom c hc).1 (fun e => by
        obtain ⟨hk', e'⟩ := hlog.blk e
        exact (g3.apart _ hk').2 (by rw [← e']; exact hc))) I3
      have I8 : X.I γ'.p.u (h7.setIfInBounds γ'.p.R (runO { s2 with L := s' } γ'.p.mb γ'.p.stops)) := hX.loc _ _ _ (fun c hc => get_set_ne _ (fun e : γ'.p.R = c => (g3.apart _ hrun.1).2 (by rw [hrun.2.1]; show X.Dom γ'.p.u γ'.p.R; rw [e]; exact hc))) I7
      have u8 : Upd γ'.W γ'.base (h7.setIfInBounds γ'.p.R (runO { s2 with L := s' } γ'.p.mb γ'.p.stops)) := updW (upd_then u3 u7 (fun c hc e => by
        obtain ⟨hk', e'⟩ := hlog.blk e
        have := g3.wide _ hk'
        rw [← e'] at this
        exact this.resolve_right (by omega))) _ (by have := g3.wide _ hrun.1; rw [hrun.2.1] at this; exact this)
      have lx8 : (h7.setIfInBounds γ'.p.R (runO { s2 with L := s' } γ'.p.mb γ'.p.stops))[x]? = some (accO (accL i 1 (NS.idxOf b) 0 0 (γ'.p.val b) (γ'.p.val b) false)) := (get_set_ne _ (fun e : γ'.p.R = x => nx2 _ hrun.1 (hrun.2.1.trans e))).trans lx7
      refine EA.unitL (h' := h7.setIfInBounds γ'.p.R (runO { s2 with L := s' } γ'.p.mb γ'.p.stops)) 16 rfl (by kernel_rfl) rfl rfl rfl (fun ρ Q X hρ hq => sem_store1 (hρ _ _ rfl) (hρ _ _ rfl) hOne ⟨_, hcell_of d7 rfl⟩ (hfroz_of d7) (m.still (.inr (.inr (.inl rfl)))) (by rw [hset_block d7]; exact hq)) ?_
      refine EA.done (by kernel_rfl) ?_
      clear hZ hZ7 hZ3 u7 d7 lx7 I7 hs7 hb7 nl nti nR nx3 d3 lx3 u3 I3
      generalize h7.setIfInBounds γ'.p.R (runO { s2 with L := s' } γ'.p.mb γ'.p.stops) = h8 at g8 I8 u8 lx8 ⊢
      (repeat refine EK.seq ?_)
      refine EK.regionAny (fun h' => hrow h' x 0 (accL i 1 (NS.idxOf b) 0 0 (γ'.p.val b) (γ'.p.val b) false)) ?_
      have hZ : hrow h8 x 0 (accL i 1 (NS.idxOf b) 0 0 (γ'.p.val b) (γ'.p.val b) false) := hrow_block (rest := []) (by rw [List.append_nil]; exact lx8)
      refine EA.tField 0 rfl (by kernel_rfl) rfl rfl rfl rfl hZ ?_
      refine EA.tLoad 1 rfl (by kernel_rfl) rfl rfl rfl rfl (fun _ hz => hz 5 _ rfl) hZ ?_
      refine EA.tField 2 rfl (by kernel_rfl) rfl rfl rfl rfl hZ ?_
      refine EA.tLoad 3 rfl (by kernel_rfl) rfl rfl rfl rfl (fun _ hz => hz 6 _ rfl) hZ ?_
      refine EA.tField 4 rfl (by kernel_rfl) rfl rfl rfl rfl hZ ?_
      refine EA.tLoad 5 rfl (by kernel_rfl) rfl rfl rfl rfl (fun _ hz => hz 7 _ rfl) hZ ?_
      refine EA.tAssign 6 rfl (by kernel_rfl) rfl rfl rfl rfl hZ ?_
      refine EA.tAssign 7 rfl (by kernel_rfl) rfl rfl rfl rfl hZ ?_
      refine EA.tAssign 8 rfl (by kernel_rfl) rfl rfl rfl rfl hZ ?_
      refine EA.done (by kernel_rfl) ?_
      (repeat refine EK.ret ?_)
      refine EU.ret3 rfl rfl rfl rfl ⟨γ', rfl, thr_of hX hs hP hst ⟨{ s2 with L := s' }, M', ?_⟩ I8 u8, Stood.of hV, ?_⟩
      · show GI X _ { γ'.p with prv := ut γ'.p.prv i L, val := ut γ'.p.val b (behind 1 (γ'.p.val b) 0 0).1, log := _ } _ _ _ _
        rw [hbh, hN]
        exact g8
      · show _ = Value.tuple #[.int .i64 (γ'.p.val b), .int .i64 (behind 1 (γ'.p.val b) 0 0).1, .bool (behind 1 (γ'.p.val b) 0 0).2]
        rw [hbh]
    · refine ER.lookupOk (v := .tuple #[.int .i64 0, .bool false]) rfl rfl rfl rfl (by decide) hm ⟨_, _, cb⟩ hpl hk (by rw [pfind_keys, if_neg hb]) ?_
      (repeat (first | refine EK.seq ?_ | refine EK.region ?_ | refine ER.done ?_ | refine ER.move rfl rfl rfl ?_ | refine ER.assign rfl rfl rfl ?_ | refine ER.nilCheck rfl rfl rfl ?_ | refine ER.fieldAddr rfl rfl rfl ?_ | refine ER.load1 rfl rfl rfl (hcell_of (by assumption) rfl) ?_ | refine ER.notB rfl rfl rfl ?_ | refine ER.extract rfl rfl rfl rfl ?_ | refine EK.condT rfl ?_ | refine ER.load1 rfl rfl rfl (by assumption) ?_))
      have hi := idxOf_snoc hb
      refine ER.lenMap (v := (nums γ'.p.log ++ [b]).idxOf b) rfl rfl rfl hm (by rw [keyed_size hk, keysFrom_length, hi]) ?_
      (repeat (first | refine EK.region ?_ | refine ER.done ?_ | refine ER.move rfl rfl rfl ?_ | refine ER.assign rfl rfl rfl ?_ | refine ER.nilCheck rfl rfl rfl ?_ | refine ER.fieldAddr rfl rfl rfl ?_ | refine ER.load1 rfl rfl rfl (hcell_of (by assumption) rfl) ?_ | refine ER.load1 rfl rfl rfl (by assumption) ?_))
      refine ER.mapNew rfl rfl rfl rfl (by decide) hm ⟨_, _, cb⟩ hpl hk (by rw [pfind_keys, if_neg hb]) ?_
      refine ER.gen (fun h' => Mid X γ' i { γ'.p with prv := ut γ'.p.prv i L, val := ut γ'.p.val b (γ'.p.val b) } (nums γ'.p.log ++ [b]) x (accL i 1 (-1) 0 0 (γ'.p.val b) (γ'.p.val b) false) h') (by rw [hi]; exact m.mapNew hX hC hm hk) ?_
      clear m d1 hm hk hpl d0 hi cb
      rintro h5 m
      have hN := nums_neg (e := evOf i ⟨1, b, 0, 0⟩ (γ'.p.val b)) hb
      have he : b ∈ nums γ'.p.log ++ [b] := by simp
      change nums (γ'.p.log ++ [evOf i ⟨1, b, 0, 0⟩ (γ'.p.val b)]) = nums γ'.p.log ++ [b] at hN
      revert m hN he
      generalize nums γ'.p.log ++ [b] = NS
      intro m he hN
      have d0 := m.row
      rw [et] at d0
      (repeat (first | refine EK.seq ?_ | refine EK.region ?_ | refine ER.done ?_ | refine ER.move rfl rfl rfl ?_ | refine ER.fieldAddr rfl rfl rfl ?_))
      refine ER.store1 rfl rfl rfl ⟨nofun, nofun⟩ ⟨_, hcell_of m.lx rfl⟩ (hfroz_of m.lx) (m.still (.inl rfl)) ?_
      refine ER.gen (fun h' => Mid X γ' i { γ'.p with prv := ut γ'.p.prv i L, val := ut γ'.p.val b (γ'.p.val b) } NS x (accL i 1 (NS.idxOf b) 0 0 (γ'.p.val b) (γ'.p.val b) false) h') (by rw [hset_block m.lx]; exact m.setx hX _) ?_
      clear m d0
      rintro h6 m
      obtain ⟨s2, M2, g2, nx2⟩ := m.gi
      have d0 := m.row
      rw [et] at d0
      have d1 : h6[γ'.p.R]? = some (runO s2 γ'.p.mb γ'.p.stops) := g2.runAt
      have lx := m.lx
      (repeat (first | refine EK.seq ?_ | refine ER.done ?_))
      refine EK.regionAnyL (fun h' => hcell h' ⟨γ.p.tb i, 0, none⟩ = some (ptr γ'.p.R) ∧ hcell h' ⟨γ'.p.R, 2, none⟩ = some s2.L ∧ hrow h' x 0 (accL i 1 (NS.idxOf b) 0 0 (γ'.p.val b) (γ'.p.val b) false)) 16 ?_
      have lrow : hrow h6 x 0 (accL i 1 (NS.idxOf b) 0 0 (γ'.p.val b) (γ'.p.val b) false) := hrow_block (rest := []) (by rw [List.append_nil]; exact lx)
      have hZ := And.intro d0 (And.intro (hcell_of d1 rfl : hcell h6 ⟨γ'.p.R, 2, none⟩ = some s2.L) lrow)
      refine EA.tMove 0 rfl (by kernel_rfl) rfl rfl rfl rfl hZ ?_
      refine EA.tNil 1 rfl (by kernel_rfl) rfl rfl rfl rfl hZ ?_
      refine EA.tField 2 rfl (by kernel_rfl) rfl rfl rfl rfl hZ ?_
      refine EA.tLoad 3 rfl (by kernel_rfl) rfl rfl rfl rfl (fun _ hz => hz.1) hZ ?_
      refine EA.tMove 4 rfl (by kernel_rfl) rfl rfl rfl rfl hZ ?_
      refine EA.tNil 5 rfl (by kernel_rfl) rfl rfl rfl rfl hZ ?_
      refine EA.tField 6 rfl (by kernel_rfl) rfl rfl rfl rfl hZ ?_
      refine EA.tLoad 7 rfl (by kernel_rfl) rfl rfl rfl rfl (fun _ hz => hz.1) hZ ?_
      refine EA.tNil 8 rfl (by kernel_rfl) rfl rfl rfl rfl hZ ?_
      refine EA.tField 9 rfl (by kernel_rfl) rfl rfl rfl rfl hZ ?_
      refine EA.tLoad 10 rfl (by kernel_rfl) rfl rfl rfl rfl (fun _ hz => hz.2.1) hZ ?_
      refine EA.tLoadN (vs := accL i 1 (NS.idxOf b) 0 0 (γ'.p.val b) (γ'.p.val b) false) 11 rfl (by kernel_rfl) rfl rfl rfl rfl rfl (fun _ hz => hz.2.2) hZ ?_
      have hZ3 : _ ∧ _ ∧ _ := ⟨hcell_push (o := accO (accL i 1 (NS.idxOf b) 0 0 (γ'.p.val b) (γ'.p.val b) false)) hZ.1, hcell_push (o := accO (accL i 1 (NS.idxOf b) 0 0 (γ'.p.val b) (γ'.p.val b) false)) hZ.2.1, fun j v hj => hcell_push (o := accO (accL i 1 (NS.idxOf b) 0 0 (γ'.p.val b) (γ'.p.val b) false)) (hZ.2.2 j v hj)⟩
      refine EA.val (v := .slice (some ⟨h6.size, 0, none⟩) 1 1) (h' := h6.push (accO (accL i 1 (NS.idxOf b) 0 0 (γ'.p.val b) (γ'.p.val b) false))) 12 rfl (by kernel_rfl) rfl rfl rfl (fun ρ Q X hρ hq => sem_slice1 (z := .agg #[.int .i64 0, .int .i8 0, .int .i64 0, .int .i64 0, .int .i64 0, .int .i64 0, .int .i64 0, .bool false]) (sz := 8) hρ rfl (by omega) (by omega) rfl (fill_acc _ _ _ _ _ _ _ _) hq) hZ3 ?_
      have g3 := g2.upd0 (Upd.push h6 (accO (accL i 1 (NS.idxOf b) 0 0 (γ'.p.val b) (γ'.p.val b) false)))
      have hlen := hP.len hs
      have d3 := (Upd.push (T := fun _ => False) h6 (accO (accL i 1 (NS.idxOf b) 0 0 (γ'.p.val b) (γ'.p.val b) false))).get d1 (fun x => x)
      have lx3 := (Upd.push (T := fun _ => False) h6 (accO (accL i 1 (NS.idxOf b) 0 0 (γ'.p.val b) (γ'.p.val b) false))).get lx (fun x => x)
      have u3 := upd_then m.upd (Upd.push (T := fun _ => False) h6 (accO (accL i 1 (NS.idxOf b) 0 0 (γ'.p.val b) (γ'.p.val b) false))) (fun _ _ x => x.elim)
      have I3 := hX.loc _ _ _ (fun c hc => (Upd.push (T := fun _ => False) h6 (accO (accL i 1 (NS.idxOf b) 0 0 (γ'.p.val b) (γ'.p.val b) false))).2 c (g2.dom c hc).1 (fun x => x)) m.I
      have hlog : M2.Sl .log s2.L 75 8 γ'.p.log.length (γ'.p.log.flatMap (entL NS)) := g3.all .log
      have hrun := g3.all .run
      refine EA.append1 (new := accL i 1 (NS.idxOf b) 0 0 (γ'.p.val b) (γ'.p.val b) false) 13 rfl (by kernel_rfl) rfl rfl rfl rfl rfl (hlog.slice g3.rep) (get_push_new _ _) rfl (by simp [accL, OneCell]) (by omega) (by omega) rfl (fun c o hc => ?_) ?_
      · obtain ⟨hk, e⟩ := hlog.blk hc
        rw [e]; exact still_nm m.run m.lt g3 m.st hk (fun j => ⟨nofun, nofun⟩)
      intro s' h7 hs7 u7 hb7
      have nl : ∀ k, k ≠ .log → M2.ok k → ¬ blk s2.L = some (M2.B k) := fun k hk ok e => by
        obtain ⟨hk', e'⟩ := hlog.blk e
        exact g3.ne ok hk' hk e'
      have hti := g3.all (.t i) (by show i < γ'.p.num; exact hP.lt)
      have nti : ¬ blk s2.L = some (γ.p.tb i) := by rw [← et]; have := nl (.t i) nofun hti.1; rwa [hti.2.1] at this
      have nR : ¬ blk s2.L = some γ'.p.R := by have := nl .run nofun hrun.1; rwa [hrun.2.1] at this
      have nx3 : ¬ blk s2.L = some x := fun e => by
        obtain ⟨hk', e'⟩ := hlog.blk e
        exact nx2 _ hk' e'.symm
      have d7 := u7.get d3 nR
      have lx7 := u7.get lx3 nx3
      have hZ7 : hcell h7 ⟨γ.p.tb i, 0, none⟩ = some (ptr γ'.p.R) ∧ hcell h7 ⟨γ'.p.R, 2, none⟩ = some s2.L ∧ hrow h7 x 0 (accL i 1 (NS.idxOf b) 0 0 (γ'.p.val b) (γ'.p.val b) false) := ⟨u7.hcell hZ3.1 nti, hcell_of d7 rfl, fun j v hj => u7.hcell (hZ3.2.2 j v hj) nx3⟩
      refine ⟨hZ7, ?_⟩
      refine EA.val 14 rfl (by kernel_rfl) rfl rfl rfl (fun ρ Q X hρ hq => sem_nilCheck (hρ _ _ rfl) hq) hZ7 ?_
      have hZ := hZ7
      refine EA.tField 15 rfl (by kernel_rfl) rfl rfl rfl rfl hZ ?_
      have hbh : behind 1 (γ'.p.val b) 0 0 = (γ'.p.val b, false) := rfl
      have hent : entL NS (evOf i ⟨1, b, 0, 0⟩ (γ'.p.val b)) = accL i 1 (NS.idxOf b) 0 0 (γ'.p.val b) (γ'.p.val b) false := by
        show accL _ _ _ _ _ _ (behind 1 (γ'.p.val b) 0 0).1 (behind 1 (γ'.p.val b) 0 0).2 = _
        rw [hbh]
        rfl
      obtain ⟨as7, ks7, es7⟩ := hs7.val
      have hOne : OneCell s' := by rw [es7]; exact ⟨nofun, nofun⟩
      rw [← hent] at hs7
      obtain ⟨M', g8⟩ := g3.logApp (e := evOf i ⟨1, b, 0, 0⟩ (γ'.p.val b)) he hs7 u7 hb7 (fun c hc => .inr (Nat.le_trans u3.size hc))
      have I7 : X.I γ'.p.u h7 := hX.loc _ _ _ (fun c hc => u7.2 c (g3.dom c hc).1 (fun e => by
        obtain ⟨hk', e'⟩ := hlog.blk e
        exact (g3.apart _ hk').2 (by rw [← e']; exact hc))) I3
      have I8 : X.I γ'.p.u (h7.setIfInBounds γ'.p.R (runO { s2 with L := s' } γ'.p.mb γ'.p.stops)) := hX.loc _ _ _ (fun c hc => get_set_ne _ (fun e : γ'.p.R = c => (g3.apart _ hrun.1).2 (by rw [hrun.2.1]; show X.Dom γ'.p.u γ'.p.R; rw [e]; exact hc))) I7
      have u8 : Upd γ'.W γ'.base (h7.setIfInBounds γ'.p.R (runO { s2 with L := s' } γ'.p.mb γ'.p.stops)) := updW (upd_then u3 u7 (fun c hc e => by
        obtain ⟨hk', e'⟩ := hlog.blk e
        have := g3.wide _ hk'
        rw [← e'] at this
        exact this.resolve_right (by omega))) _ (by have := g3.wide _ hrun.1; rw [hrun.2.1] at this; exact this)
      have lx8 : (h7.setIfInBounds γ'.p.R (runO { s2 with L := s' } γ'.p.mb γ'.p.stops))[x]? = some (accO (accL i 1 (NS.idxOf b) 0 0 (γ'.p.val b) (γ'.p.val b) false)) := (get_set_ne _ (fun e : γ'.p.R = x => nx2 _ hrun.1 (hrun.2.1.trans e))).trans lx7
      refine EA.unitL (h' := h7.setIfInBounds γ'.p.R (runO { s2 with L := s' } γ'.p.mb γ'.p.stops)) 16 rfl (by kernel_rfl) rfl rfl rfl (fun ρ Q X hρ hq => sem_store1 (hρ _ _ rfl) (hρ _ _ rfl) hOne ⟨_, hcell_of d7 rfl⟩ (hfroz_of d7) (m.still (.inr (.inr (.inl rfl)))) (by rw [hset_block d7]; exact hq)) ?_
      refine EA.done (by kernel_rfl) ?_
      clear hZ hZ7 hZ3 u7 d7 lx7 I7 hs7 hb7 nl nti nR nx3 d3 lx3 u3 I3
      generalize h7.setIfInBounds γ'.p.R (runO { s2 with L := s' } γ'.p.mb γ'.p.stops) = h8 at g8 I8 u8 lx8 ⊢
      (repeat refine EK.seq ?_)
      refine EK.regionAny (fun h' => hrow h' x 0 (accL i 1 (NS.idxOf b) 0 0 (γ'.p.val b) (γ'.p.val b) false)) ?_
      have hZ : hrow h8 x 0 (accL i 1 (NS.idxOf b) 0 0 (γ'.p.val b) (γ'.p.val b) false) := hrow_block (rest := []) (by rw [List.append_nil]; exact lx8)
      refine EA.tField 0 rfl (by kernel_rfl) rfl rfl rfl rfl hZ ?_
      refine EA.tLoad 1 rfl (by kernel_rfl) rfl rfl rfl rfl (fun _ hz => hz 5 _ rfl) hZ ?_
      refine EA.tField 2 rfl (by kernel_rfl) rfl rfl rfl rfl hZ ?_
      refine EA.tLoad 3 rfl (by kernel_rfl) rfl rfl rfl rfl (fun _ hz => hz 6 _ rfl) hZ ?_
      refine EA.tField 4 rfl (by kernel_rfl) rfl rfl rfl rfl hZ ?_
      refine EA.tLoad 5 rfl (by kernel_rfl) rfl rfl rfl rfl (fun _ hz => hz 7 _ rfl) hZ ?_
      refine EA.tAssign 6 rfl (by kernel_rfl) rfl rfl rfl rfl hZ ?_
      refine EA.tAssign 7 rfl (by kernel_rfl) rfl rfl rfl rfl hZ ?_
      refine EA.tAssign 8 rfl (by kernel_rfl) rfl rfl rfl rfl hZ ?_
      refine EA.done (by kernel_rfl) ?_
      (repeat refine EK.ret ?_)
      refine EU.ret3 rfl rfl rfl rfl ⟨γ', rfl, thr_of hX hs hP hst ⟨{ s2 with L := s' }, M', ?_⟩ I8 u8, Stood.of hV, ?_⟩
      · show GI X _ { γ'.p with prv := ut γ'.p.prv i L, val := ut γ'.p.val b (behind 1 (γ'.p.val b) 0 0).1, log := _ } _ _ _ _
        rw [hbh, hN]
        exact g8
      · show _ = Value.tuple #[.int .i64 (γ'.p.val b), .int .i64 (behind 1 (γ'.p.val b) 0 0).1, .bool (behind 1 (γ'.p.val b) 0 0).2]
        rw [hbh]
  · obtain rfl := h4 (by decide)
    refine CallW.start (n := 127) rfl rfl ?_
    (repeat (first | refine EK.seq ?_ | refine EK.region ?_ | refine ER.done ?_ | refine ER.move rfl rfl rfl ?_ | refine ER.assign rfl rfl rfl ?_))
    refine ER.callD rfl rfl rfl rfl rfl (live_ok c0 c13) ?_
    (repeat (first | refine EK.seq ?_ | refine EK.region ?_ | refine ER.done ?_ | refine EK.skip ?_ | refine ER.move rfl rfl rfl ?_ | refine ER.assign rfl rfl rfl ?_ | refine ER.nilCheck rfl rfl rfl ?_ | refine ER.fieldAddr rfl rfl rfl ?_ | refine ER.load1 rfl rfl rfl (hcell_of (by assumption) rfl) ?_ | refine ER.eqV rfl rfl rfl rfl rfl ?_ | refine ER.notB rfl rfl rfl ?_ | refine ER.pickF rfl rfl rfl rfl ?_ | refine ER.cmpT rfl rfl rfl rfl rfl (by first | (dsimp only [cmpP]; omega) | exact rfl | exact Int.le_refl _) ?_ | refine ER.cmpF rfl rfl rfl rfl rfl (by first | (dsimp only [cmpP]; omega) | exact rfl | exact Int.le_refl _) ?_ | refine EK.condT rfl ?_ | refine EK.condF rfl ?_))
    refine ER.buildS (cells := (rqL i ⟨2, b, arg, 0⟩).toArray) rfl rfl rfl rfl ?_
    (repeat refine ER.allocA rfl rfl ?_)
    refine ER.storeN (vs := rqL i ⟨2, b, arg, 0⟩) rfl rfl rfl rfl (by simp [rqL, accL, OneCell]) (fun j hj => ⟨?_, hfroz_of (get_push_new _ _), T.free (.inr (.inr (.inr (Nat.le_refl _))))⟩) ?_
    · have hj' : j < 8 := hj
      rcases (show j = 0 ∨ j = 1 ∨ j = 2 ∨ j = 3 ∨ j = 4 ∨ j = 5 ∨ j = 6 ∨ j = 7 by omega) with rfl | rfl | rfl | rfl | rfl | rfl | rfl | rfl <;> exact ⟨_, hcell_of (get_push_new _ _) rfl⟩
    rw [hsetRow_push (c := [.int .i64 0, .int .i8 0, .int .i64 0, .int .i64 0, .int .i64 0, .int .i64 0, .int .i64 0, .bool false]) (vs := rqL i ⟨2, b, arg, 0⟩) rfl]
    have T1 := T.alloc hX (accO (rqL i ⟨2, b, arg, 0⟩))
    have hx := T.lts
    (repeat (first | refine EK.seq ?_ | refine EK.region ?_ | refine ER.done ?_ | refine ER.move rfl rfl rfl ?_))
    refine ER.loadN (vs := rqL i ⟨2, b, arg, 0⟩) rfl rfl rfl rfl (hrow_block (rest := []) (by rw [List.append_nil]; exact get_push_new _ _)) ?_
    refine ER.callP rfl rfl rfl rfl rfl (stands_ok hX T1 hr hQ hJ) ?_ ?_
    · rintro ps h' δ' ⟨γ', rfl, hS, hV, rfl⟩
      exact ⟨γ', rfl, hS, Stood.of hV, rfl⟩
    rintro w h1 δ1 ⟨γ', rfl, hs, hV, hP⟩
    have m := Mid.of hX (fun q hq => Nat.ne_of_lt (hx q hq)) hs hV hP
    have et : γ'.p.tb i = γ.p.tb i := (Stood.of hV).tb
    have hst : γ'.p.st i = .stands ⟨2, b, arg, 0⟩ := (Stood.of hV).st
    generalize h.size = x at m hV ⊢
    have cb : h1[b]? = some (cellO (γ'.p.val b)) := m.cel hC
    (repeat (first | refine EK.seq ?_ | refine EK.region ?_ | refine ER.done ?_ | refine ER.move rfl rfl rfl ?_))
    refine ER.callD rfl rfl rfl rfl rfl (aload_ok (v := γ'.p.val b) (hcell_of cb rfl)) ?_
    (repeat refine ER.fieldAddr rfl rfl rfl ?_)
    refine ER.store1 rfl rfl rfl ⟨nofun, nofun⟩ ⟨_, hcell_of m.lx rfl⟩ (hfroz_of m.lx) (m.still (.inl rfl)) ?_
    refine ER.gen (fun h' => Mid X γ' i { γ'.p with prv := ut γ'.p.prv i L } (nums γ'.p.log) x (accL i 2 (-1) arg 0 (γ'.p.val b) 0 false) h') (by rw [hset_block m.lx]; exact m.setx hX _) ?_
    clear m cb
    rintro h2 m
    have cb : h2[b]? = some (cellO (γ'.p.val b)) := m.cel hC
    (repeat (first | refine EK.seq ?_ | refine EK.region ?_ | refine ER.done ?_ | refine EK.skip ?_ | refine EK.block ?_ | refine ER.move rfl rfl rfl ?_ | refine ER.assign rfl rfl rfl ?_ | refine ER.cmpT rfl rfl rfl rfl rfl (by first | (dsimp only [cmpP]; omega) | exact rfl | exact Int.le_refl _) ?_ | refine EK.condT rfl ?_))
    refine ER.callD rfl rfl rfl rfl rfl (astore_ok (v := γ'.p.val b) (x := arg) (hcell_of cb rfl) (hfroz_of cb) (m.still (.inr (.inl hC)))) ?_
    refine ER.gen (fun h' => Mid X γ' i { γ'.p with prv := ut γ'.p.prv i L, val := ut γ'.p.val b arg } (nums γ'.p.log) x (accL i 2 (-1) arg 0 (γ'.p.val b) 0 false) h') (by rw [cellO_set cb]; exact m.cell hX hC _) ?_
    clear m
    rintro h3 m
    (repeat (first | refine EK.seq ?_ | refine EK.region ?_ | refine ER.done ?_ | refine EK.inBlock ?_ | refine ER.move rfl rfl rfl ?_))
    clear cb
    have cb : h3[b]? = some (cellO (arg)) := (m.cel hC).trans (congrArg (fun v => some (cellO v)) (ut_same _ _ _))
    skip
    refine ER.callD rfl rfl rfl rfl rfl (aload_ok (v := arg) (hcell_of cb rfl)) ?_
    (repeat refine ER.fieldAddr rfl rfl rfl ?_)
    refine ER.store1 rfl rfl rfl ⟨nofun, nofun⟩ ⟨_, hcell_of m.lx rfl⟩ (hfroz_of m.lx) (m.still (.inl rfl)) ?_
    refine ER.gen (fun h' => Mid X γ' i { γ'.p with prv := ut γ'.p.prv i L, val := ut γ'.p.val b (arg) } (nums γ'.p.log) x (accL i 2 (-1) arg 0 (γ'.p.val b) (arg) false) h') (by rw [hset_block m.lx]; exact m.setx hX _) ?_
    clear m cb
    rintro h4 m
    have cb : h4[b]? = some (cellO (arg)) := (m.cel hC).trans (congrArg (fun v => some (cellO v)) (ut_same _ _ _))
    have d0 := m.row
    obtain ⟨s1, d1⟩ := m.runC
    rw [et] at d0
    obtain ⟨es, c', hm, hk, hpl⟩ := m.map
    (repeat (first | refine EK.seq ?_ | refine EK.region ?_ | refine ER.done ?_ | refine ER.move rfl rfl rfl ?_ | refine ER.nilCheck rfl rfl rfl ?_ | refine ER.fieldAddr rfl rfl rfl ?_ | refine ER.load1 rfl rfl rfl (hcell_of (by assumption) rfl) ?_ | refine ER.load1 rfl rfl rfl (by assumption) ?_))
    by_cases hb : b ∈ nums γ'.p.log
    · refine ER.lookupOk (v := .tuple #[.int .i64 ((nums γ'.p.log).idxOf b : Int), .bool true]) rfl rfl rfl rfl (by decide) hm ⟨_, _, cb⟩ hpl hk (by rw [pfind_keys, if_pos hb]; simp) ?_
      clear d1 hm hk hpl
      (repeat (first | refine EK.seq ?_ | refine EK.region ?_ | refine ER.done ?_ | refine EK.skip ?_ | refine ER.move rfl rfl rfl ?_ | refine ER.assign rfl rfl rfl ?_ | refine ER.fieldAddr rfl rfl rfl ?_ | refine ER.notB rfl rfl rfl ?_ | refine ER.extract rfl rfl rfl rfl ?_ | refine EK.condF rfl ?_))
      have hN := nums_pos (e := evOf i ⟨2, b, arg, 0⟩ (γ'.p.val b)) hb
      have he := hb
      revert m hN he
      generalize h4 = h5, eNS : nums γ'.p.log = NS
      intro m hN he
      clear cb eNS
      refine ER.store1 rfl rfl rfl ⟨nofun, nofun⟩ ⟨_, hcell_of m.lx rfl⟩ (hfroz_of m.lx) (m.still (.inl rfl)) ?_
      refine ER.gen (fun h' => Mid X γ' i { γ'.p with prv := ut γ'.p.prv i L, val := ut γ'.p.val b (arg) } NS x (accL i 2 (NS.idxOf b) arg 0 (γ'.p.val b) (arg) false) h') (by rw [hset_block m.lx]; exact m.setx hX _) ?_
      clear m d0
      rintro h6 m
      obtain ⟨s2, M2, g2, nx2⟩ := m.gi
      have d0 := m.row
      rw [et] at d0
      have d1 : h6[γ'.p.R]? = some (runO s2 γ'.p.mb γ'.p.stops) := g2.runAt
      have lx := m.lx
      (repeat (first | refine EK.seq ?_ | refine ER.done ?_))
      refine EK.regionAnyL (fun h' => hcell h' ⟨γ.p.tb i, 0, none⟩ = some (ptr γ'.p.R) ∧ hcell h' ⟨γ'.p.R, 2, none⟩ = some s2.L ∧ hrow h' x 0 (accL i 2 (NS.idxOf b) arg 0 (γ'.p.val b) (arg) false)) 16 ?_
      have lrow : hrow h6 x 0 (accL i 2 (NS.idxOf b) arg 0 (γ'.p.val b) (arg) false) := hrow_block (rest := []) (by rw [List.append_nil]; exact lx)
      have hZ := And.intro d0 (And.intro (hcell_of d1 rfl : hcell h6 ⟨γ'.p.R, 2, none⟩ = some s2.L) lrow)
      refine EA.tMove 0 rfl (by kernel_rfl) rfl rfl rfl rfl hZ ?_
      refine EA.tNil 1 rfl (by kernel_rfl) rfl rfl rfl rfl hZ ?_
      refine EA.tField 2 rfl (by kernel_rfl) rfl rfl rfl rfl hZ ?_
      refine EA.tLoad 3 rfl (by kernel_rfl) rfl rfl rfl rfl (fun _ hz => hz.1) hZ ?_
      refine EA.tMove 4 rfl (by kernel_rfl) rfl rfl rfl rfl hZ ?_
      refine EA.tNil 5 rfl (by kernel_rfl) rfl rfl rfl rfl hZ ?_
      refine EA.tField 6 rfl (by kernel_rfl) rfl rfl rfl rfl hZ ?_
      refine EA.tLoad 7 rfl (by kernel_rfl) rfl rfl rfl rfl (fun _ hz => hz.1) hZ ?_
      refine EA.tNil 8 rfl (by kernel_rfl) rfl rfl rfl rfl hZ ?_
      refine EA.tField 9 rfl (by kernel_rfl) rfl rfl rfl rfl hZ ?_
      refine EA.tLoad 10 rfl (by kernel_rfl) rfl rfl rfl rfl (fun _ hz => hz.2.1) hZ ?_
      refine EA.tLoadN (vs := accL i 2 (NS.idxOf b) arg 0 (γ'.p.val b) (arg) false) 11 rfl (by kernel_rfl) rfl rfl rfl rfl rfl (fun _ hz => hz.2.2) hZ ?_
      have hZ3 : _ ∧ _ ∧ _ := ⟨hcell_push (o := accO (accL i 2 (NS.idxOf b) arg 0 (γ'.p.val b) (arg) false)) hZ.1, hcell_push (o := accO (accL i 2 (NS.idxOf b) arg 0 (γ'.p.val b) (arg) false)) hZ.2.1, fun j v hj => hcell_push (o := accO (accL i 2 (NS.idxOf b) arg 0 (γ'.p.val b) (arg) false)) (hZ.2.2 j v hj)⟩
      refine EA.val (v := .slice (some ⟨h6.size, 0, none⟩) 1 1) (h' := h6.push (accO (accL i 2 (NS.idxOf b) arg 0 (γ'.p.val b) (arg) false))) 12 rfl (by kernel_rfl) rfl rfl rfl (fun ρ Q X hρ hq => sem_slice1 (z := .agg #[.int .i64 0, .int .i8 0, .int .i64 0, .int .i64 0, .int .i64 0, .int .i64 0, .int .i64 0, .bool false]) (sz := 8) hρ rfl (by omega) (by omega) rfl (fill_acc _ _ _ _ _ _ _ _) hq) hZ3 ?_
      have g3 := g2.upd0 (Upd.push h6 (accO (accL i 2 (NS.idxOf b) arg 0 (γ'.p.val b) (arg) false)))
      have hlen := hP.len hs
      have d3 := (Upd.push (T := fun _ => False) h6 (accO (accL i 2 (NS.idxOf b) arg 0 (γ'.p.val b) (arg) false))).get d1 (fun x => x)
      have lx3 := (Upd.push (T := fun _ => False) h6 (accO (accL i 2 (NS.idxOf b) arg 0 (γ'.p.val b) (arg) false))).get lx (fun x => x)
      have u3 := upd_then m.upd (Upd.push (T := fun _ => False) h6 (accO (accL i 2 (NS.idxOf b) arg 0 (γ'.p.val b) (arg) false))) (fun _ _ x => x.elim)
      have I3 := hX.loc _ _ _ (fun c hc => (Upd.push (T := fun _ => False) h6 (accO (accL i 2 (NS.idxOf b) arg 0 (γ'.p.val b) (arg) false))).2 c (g2.dom c hc).1 (fun x => x)) m.I
      have hlog : M2.Sl .log s2.L 75 8 γ'.p.log.length (γ'.p.log.flatMap (entL NS)) := g3.all .log
      have hrun := g3.all .run
      refine EA.append1 (new := accL i 2 (NS.idxOf b) arg 0 (γ'.p.val b) (arg) false) 13 rfl (by kernel_rfl) rfl rfl rfl rfl rfl (hlog.slice g3.rep) (get_push_new _ _) rfl (by simp [accL, OneCell]) (by omega) (by omega) rfl (fun c o hc => ?_) ?_
      · obtain ⟨hk, e⟩ := hlog.blk hc
        rw [e]; exact still_nm m.run m.lt g3 m.st hk (fun j => ⟨nofun, nofun⟩)
      intro s' h7 hs7 u7 hb7
      have nl : ∀ k, k ≠ .log → M2.ok k → ¬ blk s2.L = some (M2.B k) := fun k hk ok e => by
        obtain ⟨hk', e'⟩ := hlog.blk e
        exact g3.ne ok hk' hk e'
      have hti := g3.all (.t i) (by show i < γ'.p.num; exact hP.lt)
      have nti : ¬ blk s2.L = some (γ.p.tb i) := by rw [← et]; have := nl (.t i) nofun hti.1; rwa [hti.2.1] at this
      have nR : ¬ blk s2.L = some γ'.p.R := by have := nl .run nofun hrun.1; rwa [hrun.2.1] at this
      have nx3 : ¬ blk s2.L = some x := fun e => by
        obtain ⟨hk', e'⟩ := hlog.blk e
        exact nx2 _ hk' e'.symm
      have d7 := u7.get d3 nR
      have lx7 := u7.get lx3 nx3
      have hZ7 : hcell h7 ⟨γ.p.tb i, 0, none⟩ = some (ptr γ'.p.R) ∧ hcell h7 ⟨γ'.p.R, 2, none⟩ = some s2.L ∧ hrow h7 x 0 (accL i 2 (NS.idxOf b) arg 0 (γ'.p.val b) (arg) false) := ⟨u7.hcell hZ3.1 nti, hcell_of d7 rfl, fun j v hj => u7.hcell (hZ3.2.2 j v hj) nx3⟩
      refine ⟨hZ7, ?_⟩
      refine EA.val 14 rfl (by kernel_rfl) rfl rfl rfl (fun ρ Q X hρ hq => sem_nilCheck (hρ _ _ rfl) hq) hZ7 ?_
      have hZ := hZ7
      refine EA.tField 15 rfl (by kernel_rfl) rfl rfl rfl rfl hZ ?_
      have hbh : behind 2 (γ'.p.val b) arg 0 = (arg, false) := rfl
      have hent : entL NS (evOf i ⟨2, b, arg, 0⟩ (γ'.p.val b)) = accL i 2 (NS.idxOf b) arg 0 (γ'.p.val b) (arg) false := by
        show accL _ _ _ _ _ _ (behind 2 (γ'.p.val b) arg 0).1 (behind 2 (γ'.p.val b) arg 0).2 = _
        rw [hbh]
        rfl
      obtain ⟨as7, ks7, es7⟩ := hs7.val
      have hOne : OneCell s' := by rw [es7]; exact ⟨nofun, nofun⟩
      rw [← hent] at hs7
      obtain ⟨M', g8⟩ := g3.logApp (e := evOf i ⟨2, b, arg, 0⟩ (γ'.p.val b)) he hs7 u7 hb7 (fun c hc => .inr (Nat.le_trans u3.size hc))
      have I7 : X.I γ'.p.u h7 := hX.loc _ _ _ (fun c hc => u7.2 c (g3.dom c hc).1 (fun e => by
        obtain ⟨hk', e'⟩ := hlog.blk e
        exact (g3.apart _ hk').2 (by rw [← e']; exact hc))) I3
      have I8 : X.I γ'.p.u (h7.setIfInBounds γ'.p.R (runO { s2 with L := s' } γ'.p.mb γ'.p.stops)) := hX.loc _ _ _ (fun c hc => get_set_ne _ (fun e : γ'.p.R = c => (g3.apart _ hrun.1).2 (by rw [hrun.2.1]; show X.Dom γ'.p.u γ'.p.R; rw [e]; exact hc))) I7
      have u8 : Upd γ'.W γ'.base (h7.setIfInBounds γ'.p.R (runO { s2 with L := s' } γ'.p.mb γ'.p.stops)) := updW (upd_then u3 u7 (fun c hc e => by
        obtain ⟨hk', e'⟩ := hlog.blk e
        have := g3.wide _ hk'
        rw [← e'] at this
        exact this.resolve_right (by omega))) _ (by have := g3.wide _ hrun.1; rw [hrun.2.1] at this; exact this)
      have lx8 : (h7.setIfInBounds γ'.p.R (runO { s2 with L := s' } γ'.p.mb γ'.p.stops))[x]? = some (accO (accL i 2 (NS.idxOf b) arg 0 (γ'.p.val b) (arg) false)) := (get_set_ne _ (fun e : γ'.p.R = x => nx2 _ hrun.1 (hrun.2.1.trans e))).trans lx7
      refine EA.unitL (h' := h7.setIfInBounds γ'.p.R (runO { s2 with L := s' } γ'.p.mb γ'.p.stops)) 16 rfl (by kernel_rfl) rfl rfl rfl (fun ρ Q X hρ hq => sem_store1 (hρ _ _ rfl) (hρ _ _ rfl) hOne ⟨_, hcell_of d7 rfl⟩ (hfroz_of d7) (m.still (.inr (.inr (.inl rfl)))) (by rw [hset_block d7]; exact hq)) ?_
      refine EA.done (by kernel_rfl) ?_
      clear hZ hZ7 hZ3 u7 d7 lx7 I7 hs7 hb7 nl nti nR nx3 d3 lx3 u3 I3
      generalize h7.setIfInBounds γ'.p.R (runO { s2 with L := s' } γ'.p.mb γ'.p.stops) = h8 at g8 I8 u8 lx8 ⊢
      (repeat refine EK.seq ?_)
      refine EK.regionAny (fun h' => hrow h' x 0 (accL i 2 (NS.idxOf b) arg 0 (γ'.p.val b) (arg) false)) ?_
      have hZ : hrow h8 x 0 (accL i 2 (NS.idxOf b) arg 0 (γ'.p.val b) (arg) false) := hrow_block (rest := []) (by rw [List.append_nil]; exact lx8)
      refine EA.tField 0 rfl (by kernel_rfl) rfl rfl rfl rfl hZ ?_
      refine EA.tLoad 1 rfl (by kernel_rfl) rfl rfl rfl rfl (fun _ hz => hz 5 _ rfl) hZ ?_
      refine EA.tField 2 rfl (by kernel_rfl) rfl rfl rfl rfl hZ ?_
      refine EA.tLoad 3 rfl (by kernel_rfl) rfl rfl rfl rfl (fun _ hz => hz 6 _ rfl) hZ ?_
      refine EA.tField 4 rfl (by kernel_rfl) rfl rfl rfl rfl hZ ?_
      refine EA.tLoad 5 rfl (by kernel_rfl) rfl rfl rfl rfl (fun _ hz => hz 7 _ rfl) hZ ?_
      refine EA.tAssign 6 rfl (by kernel_rfl) rfl rfl rfl rfl hZ ?_
      refine EA.tAssign 7 rfl (by kernel_rfl) rfl rfl rfl rfl hZ ?_
      refine EA.tAssign 8 rfl (by kernel_rfl) rfl rfl rfl rfl hZ ?_
      refine EA.done (by kernel_rfl) ?_
      (repeat refine EK.ret ?_)
      refine EU.ret3 rfl rfl rfl rfl ⟨γ', rfl, thr_of hX hs hP hst ⟨{ s2 with L := s' }, M', ?_⟩ I8 u8, Stood.of hV, ?_⟩
      · show GI X _ { γ'.p with prv := ut γ'.p.prv i L, val := ut γ'.p.val b (behind 2 (γ'.p.val b) arg 0).1, log := _ } _ _ _ _
        rw [hbh, hN]
        exact g8
      · show _ = Value.tuple #[.int .i64 (γ'.p.val b), .int .i64 (behind 2 (γ'.p.val b) arg 0).1, .bool (behind 2 (γ'.p.val b) arg 0).2]
        rw [hbh]
    · refine ER.lookupOk (v := .tuple #[.int .i64 0, .bool false]) rfl rfl rfl rfl (by decide) hm ⟨_, _, cb⟩ hpl hk (by rw [pfind_keys, if_neg hb]) ?_
      (repeat (first | refine EK.seq ?_ | refine EK.region ?_ | refine ER.done ?_ | refine ER.move rfl rfl rfl ?_ | refine ER.assign rfl rfl rfl ?_ | refine ER.nilCheck rfl rfl rfl ?_ | refine ER.fieldAddr rfl rfl rfl ?_ | refine ER.load1 rfl rfl rfl (hcell_of (by assumption) rfl) ?_ | refine ER.notB rfl rfl rfl ?_ | refine ER.extract rfl rfl rfl rfl ?_ | refine EK.condT rfl ?_ | refine ER.load1 rfl rfl rfl (by assumption) ?_))
      have hi := idxOf_snoc hb
      refine ER.lenMap (v := (nums γ'.p.log ++ [b]).idxOf b) rfl rfl rfl hm (by rw [keyed_size hk, keysFrom_length, hi]) ?_
      (repeat (first | refine EK.region ?_ | refine ER.done ?_ | refine ER.move rfl rfl rfl ?_ | refine ER.assign rfl rfl rfl ?_ | refine ER.nilCheck rfl rfl rfl ?_ | refine ER.fieldAddr rfl rfl rfl ?_ | refine ER.load1 rfl rfl rfl (hcell_of (by assumption) rfl) ?_ | refine ER.load1 rfl rfl rfl (by assumption) ?_))
      refine ER.mapNew rfl rfl rfl rfl (by decide) hm ⟨_, _, cb⟩ hpl hk (by rw [pfind_keys, if_neg hb]) ?_
      refine ER.gen (fun h' => Mid X γ' i { γ'.p with prv := ut γ'.p.prv i L, val := ut γ'.p.val b (arg) } (nums γ'.p.log ++ [b]) x (accL i 2 (-1) arg 0 (γ'.p.val b) (arg) false) h') (by rw [hi]; exact m.mapNew hX hC hm hk) ?_
      clear m d1 hm hk hpl d0 hi cb
      rintro h5 m
      have hN := nums_neg (e := evOf i ⟨2, b, arg, 0⟩ (γ'.p.val b)) hb
      have he : b ∈ nums γ'.p.log ++ [b] := by simp
      change nums (γ'.p.log ++ [evOf i ⟨2, b, arg, 0⟩ (γ'.p.val b)]) = nums γ'.p.log ++ [b] at hN
      revert m hN he
      generalize nums γ'.p.log ++ [b] = NS
      intro m he hN
      have d0 := m.row
      rw [et] at d0
      (repeat (first | refine EK.seq ?_ | refine EK.region ?_ | refine ER.done ?_ | refine ER.move rfl rfl rfl ?_ | refine ER.fieldAddr rfl rfl rfl ?_))
      refine ER.store1 rfl rfl rfl ⟨nofun, nofun⟩ ⟨_, hcell_of m.lx rfl⟩ (hfroz_of m.lx) (m.still (.inl rfl)) ?_
      refine ER.gen (fun h' => Mid X γ' i { γ'.p with prv := ut γ'.p.prv i L, val := ut γ'.p.val b (arg) } NS x (accL i 2 (NS.idxOf b) arg 0 (γ'.p.val b) (arg) false) h') (by rw [hset_block m.lx]; exact m.setx hX _) ?_
      clear m d0
      rintro h6 m
      obtain ⟨s2, M2, g2, nx2⟩ := m.gi
      have d0 := m.row
      rw [et] at d0
      have d1 : h6[γ'.p.R]? = some (runO s2 γ'.p.mb γ'.p.stops) := g2.runAt
      have lx := m.lx
      (repeat (first | refine EK.seq ?_ | refine ER.done ?_))
      refine EK.regionAnyL (fun h' => hcell h' ⟨γ.p.tb i, 0, none⟩ = some (ptr γ'.p.R) ∧ hcell h' ⟨γ'.p.R, 2, none⟩ = some s2.L ∧ hrow h' x 0 (accL i 2 (NS.idxOf b) arg 0 (γ'.p.val b) (arg) false)) 16 ?_
      have lrow : hrow h6 x 0 (accL i 2 (NS.idxOf b) arg 0 (γ'.p.val b) (arg) false) := hrow_block (rest := []) (by rw [List.append_nil]; exact lx)
      have hZ := And.intro d0 (And.intro (hcell_of d1 rfl : hcell h6 ⟨γ'.p.R, 2, none⟩ = some s2.L) lrow)
      refine EA.tMove 0 rfl (by kernel_rfl) rfl rfl rfl rfl hZ ?_
      refine EA.tNil 1 rfl (by kernel_rfl) rfl rfl rfl rfl hZ ?_
      refine EA.tField 2 rfl (by kernel_rfl) rfl rfl rfl rfl hZ ?_
      refine EA.tLoad 3 rfl (by kernel_rfl) rfl rfl rfl rfl (fun _ hz => hz.1) hZ ?_
      refine EA.tMove 4 rfl (by kernel_rfl) rfl rfl rfl rfl hZ ?_
      refine EA.tNil 5 rfl (by kernel_rfl) rfl rfl rfl rfl hZ ?_
      refine EA.tField 6 rfl (by kernel_rfl) rfl rfl rfl rfl hZ ?_
      refine EA.tLoad 7 rfl (by kernel_rfl) rfl rfl rfl rfl (fun _ hz => hz.1) hZ ?_
      refine EA.tNil 8 rfl (by kernel_rfl) rfl rfl rfl rfl hZ ?_
      refine EA.tField 9 rfl (by kernel_rfl) rfl rfl rfl rfl hZ ?_
      refine EA.tLoad 10 rfl (by kernel_rfl) rfl rfl rfl rfl (fun _ hz => hz.2.1) hZ ?_
      refine EA.tLoadN (vs := accL i 2 (NS.idxOf b) arg 0 (γ'.p.val b) (arg) false) 11 rfl (by kernel_rfl) rfl rfl rfl rfl rfl (fun _ hz => hz.2.2) hZ ?_
      have hZ3 : _ ∧ _ ∧ _ := ⟨hcell_push (o := accO (accL i 2 (NS.idxOf b) arg 0 (γ'.p.val b) (arg) false)) hZ.1, hcell_push (o := accO (accL i 2 (NS.idxOf b) arg 0 (γ'.p.val b) (arg) false)) hZ.2.1, fun j v hj => hcell_push (o := accO (accL i 2 (NS.idxOf b) arg 0 (γ'.p.val b) (arg) false)) (hZ.2.2 j v hj)⟩
      refine EA.val (v := .slice (some ⟨h6.size, 0, none⟩) 1 1) (h' := h6.push (accO (accL i 2 (NS.idxOf b) arg 0 (γ'.p.val b) (arg) false))) 12 rfl (by kernel_rfl) rfl rfl rfl (fun ρ Q X hρ hq => sem_slice1 (z := .agg #[.int .i64 0, .int .i8 0, .int .i64 0, .int .i64 0, .int .i64 0, .int .i64 0, .int .i64 0, .bool false]) (sz := 8) hρ rfl (by omega) (by omega) rfl (fill_acc _ _ _ _ _ _ _ _) hq) hZ3 ?_
      have g3 := g2.upd0 (Upd.push h6 (accO (accL i 2 (NS.idxOf b) arg 0 (γ'.p.val b) (arg) false)))
      have hlen := hP.len hs
      have d3 := (Upd.push (T := fun _ => False) h6 (accO (accL i 2 (NS.idxOf b) arg 0 (γ'.p.val b) (arg) false))).get d1 (fun x => x)
      have lx3 := (Upd.push (T := fun _ => False) h6 (accO (accL i 2 (NS.idxOf b) arg 0 (γ'.p.val b) (arg) false))).get lx (fun x => x)
      have u3 := upd_then m.upd (Upd.push (T := fun _ => False) h6 (accO (accL i 2 (NS.idxOf b) arg 0 (γ'.p.val b) (arg) false))) (fun _ _ x => x.elim)
      have I3 := hX.loc _ _ _ (fun c hc => (Upd.push (T := fun _ => False) h6 (accO (accL i 2 (NS.idxOf b) arg 0 (γ'.p.val b) (arg) false))).2 c (g2.dom c hc).1 (fun x => x)) m.I
      have hlog : M2.Sl .log s2.L 75 8 γ'.p.log.length (γ'.p.log.flatMap (entL NS)) := g3.all .log
      have hrun := g3.all .run
      refine EA.append1 (new := accL i 2 (NS.idxOf b) arg 0 (γ'.p.val b) (arg) false) 13 rfl (by kernel_rfl) rfl rfl rfl rfl rfl (hlog.slice g3.rep) (get_push_new _ _) rfl (by simp [accL, OneCell]) (by omega) (by omega) rfl (fun c o hc => ?_) ?_
      · obtain ⟨hk, e⟩ := hlog.blk hc
        rw [e]; exact still_nm m.run m.lt g3 m.st hk (fun j => ⟨nofun, nofun⟩)
      intro s' h7 hs7 u7 hb7
      have nl : ∀ k, k ≠ .log → M2.ok k → ¬ blk s2.L = some (M2.B k) := fun k hk ok e => by
        obtain ⟨hk', e'⟩ := hlog.blk e
        exact g3.ne ok hk' hk e'
      have hti := g3.all (.t i) (by show i < γ'.p.num; exact hP.lt)
      have nti : ¬ blk s2.L = some (γ.p.tb i) := by rw [← et]; have := nl (.t i) nofun hti.1; rwa [hti.2.1] at this
      have nR : ¬ blk s2.L = some γ'.p.R := by have := nl .run nofun hrun.1; rwa [hrun.2.1] at this
      have nx3 : ¬ blk s2.L = some x := fun e => by
        obtain ⟨hk', e'⟩ := hlog.blk e
        exact nx2 _ hk' e'.symm
      have d7 := u7.get d3 nR
      have lx7 := u7.get lx3 nx3
      have hZ7 : hcell h7 ⟨γ.p.tb i, 0, none⟩ = some (ptr γ'.p.R) ∧ hcell h7 ⟨γ'.p.R, 2, none⟩ = some s2.L ∧ hrow h7 x 0 (accL i 2 (NS.idxOf b) arg 0 (γ'.p.val b) (arg) false) := ⟨u7.hcell hZ3.1 nti, hcell_of d7 rfl, fun j v hj => u7.hcell (hZ3.2.2 j v hj) nx3⟩
      refine ⟨hZ7, ?_⟩
      refine EA.val 14 rfl (by kernel_rfl) rfl rfl rfl (fun ρ Q X hρ hq => sem_nilCheck (hρ _ _ rfl) hq) hZ7 ?_
      have hZ := hZ7
      refine EA.tField 15 rfl (by kernel_rfl) rfl rfl rfl rfl hZ ?_
      have hbh : behind 2 (γ'.p.val b) arg 0 = (arg, false) := rfl
      have hent : entL NS (evOf i ⟨2, b, arg, 0⟩ (γ'.p.val b)) = accL i 2 (NS.idxOf b) arg 0 (γ'.p.val b) (arg) false := by
        show accL _ _ _ _ _ _ (behind 2 (γ'.p.val b) arg 0).1 (behind 2 (γ'.p.val b) arg 0).2 = _
        rw [hbh]
        rfl
      obtain ⟨as7, ks7, es7⟩ := hs7.val
      have hOne : OneCell s' := by rw [es7]; exact ⟨nofun, nofun⟩
      rw [← hent] at hs7
      obtain ⟨M', g8⟩ := g3.logApp (e := evOf i ⟨2, b, arg, 0⟩ (γ'.p.val b)) he hs7 u7 hb7 (fun c hc => .inr (Nat.le_trans u3.size hc))
      have I7 : X.I γ'.p.u h7 := hX.loc _ _ _ (fun c hc => u7.2 c (g3.dom c hc).1 (fun e => by
        obtain ⟨hk', e'⟩ := hlog.blk e
        exact (g3.apart _ hk').2 (by rw [← e']; exact hc))) I3
      have I8 : X.I γ'.p.u (h7.setIfInBounds γ'.p.R (runO { s2 with L := s' } γ'.p.mb γ'.p.stops)) := hX.loc _ _ _ (fun c hc => get_set_ne _ (fun e : γ'.p.R = c => (g3.apart _ hrun.1).2 (by rw [hrun.2.1]; show X.Dom γ'.p.u γ'.p.R; rw [e]; exact hc))) I7
      have u8 : Upd γ'.W γ'.base (h7.setIfInBounds γ'.p.R (runO { s2 with L := s' } γ'.p.mb γ'.p.stops)) := updW (upd_then u3 u7 (fun c hc e => by
        obtain ⟨hk', e'⟩ := hlog.blk e
        have := g3.wide _ hk'
        rw [← e'] at this
        exact this.resolve_right (by omega))) _ (by have := g3.wide _ hrun.1; rw [hrun.2.1] at this; exact this)
      have lx8 : (h7.setIfInBounds γ'.p.R (runO { s2 with L := s' } γ'.p.mb γ'.p.stops))[x]? = some (accO (accL i 2 (NS.idxOf b) arg 0 (γ'.p.val b) (arg) false)) := (get_set_ne _ (fun e : γ'.p.R = x => nx2 _ hrun.1 (hrun.2.1.trans e))).trans lx7
      refine EA.unitL (h' := h7.setIfInBounds γ'.p.R (runO { s2 with L := s' } γ'.p.mb γ'.p.stops)) 16 rfl (by kernel_rfl) rfl rfl rfl (fun ρ Q X hρ hq => sem_store1 (hρ _ _ rfl) (hρ _ _ rfl) hOne ⟨_, hcell_of d7 rfl⟩ (hfroz_of d7) (m.still (.inr (.inr (.inl rfl)))) (by rw [hset_block d7]; exact hq)) ?_
      refine EA.done (by kernel_rfl) ?_
      clear hZ hZ7 hZ3 u7 d7 lx7 I7 hs7 hb7 nl nti nR nx3 d3 lx3 u3 I3
      generalize h7.setIfInBounds γ'.p.R (runO { s2 with L := s' } γ'.p.mb γ'.p.stops) = h8 at g8 I8 u8 lx8 ⊢
      (repeat refine EK.seq ?_)
      refine EK.regionAny (fun h' => hrow h' x 0 (accL i 2 (NS.idxOf b) arg 0 (γ'.p.val b) (arg) false)) ?_
      have hZ : hrow h8 x 0 (accL i 2 (NS.idxOf b) arg 0 (γ'.p.val b) (arg) false) := hrow_block (rest := []) (by rw [List.append_nil]; exact lx8)
      refine EA.tField 0 rfl (by kernel_rfl) rfl rfl rfl rfl hZ ?_
      refine EA.tLoad 1 rfl (by kernel_rfl) rfl rfl rfl rfl (fun _ hz => hz 5 _ rfl) hZ ?_
      refine EA.tField 2 rfl (by kernel_rfl) rfl rfl rfl rfl hZ ?_
      refine EA.tLoad 3 rfl (by kernel_rfl) rfl rfl rfl rfl (fun _ hz => hz 6 _ rfl) hZ ?_
      refine EA.tField 4 rfl (by kernel_rfl) rfl rfl rfl rfl hZ ?_
      refine EA.tLoad 5 rfl (by kernel_rfl) rfl rfl rfl rfl (fun _ hz => hz 7 _ rfl) hZ ?_
      refine EA.tAssign 6 rfl (by kernel_rfl) rfl rfl rfl rfl hZ ?_
      refine EA.tAssign 7 rfl (by kernel_rfl) rfl rfl rfl rfl hZ ?_
      refine EA.tAssign 8 rfl (by kernel_rfl) rfl rfl rfl rfl hZ ?_
      refine EA.done (by kernel_rfl) ?_
      (repeat refine EK.ret ?_)
      refine EU.ret3 rfl rfl rfl rfl ⟨γ', rfl, thr_of hX hs hP hst ⟨{ s2 with L := s' }, M', ?_⟩ I8 u8, Stood.of hV, ?_⟩
      · show GI X _ { γ'.p with prv := ut γ'.p.prv i L, val := ut γ'.p.val b (behind 2 (γ'.p.val b) arg 0).1, log := _ } _ _ _ _
        rw [hbh, hN]
        exact g8
      · show _ = Value.tuple #[.int .i64 (γ'.p.val b), .int .i64 (behind 2 (γ'.p.val b) arg 0).1, .bool (behind 2 (γ'.p.val b) arg 0).2]
        rw [hbh]
  · skip
    refine CallW.start (n := 127) rfl rfl ?_
    (repeat (first | refine EK.seq ?_ | refine EK.region ?_ | refine ER.done ?_ | refine ER.move rfl rfl rfl ?_ | refine ER.assign rfl rfl rfl ?_))
    refine ER.callD rfl rfl rfl rfl rfl (live_ok c0 c13) ?_
    (repeat (first | refine EK.seq ?_ | refine EK.region ?_ | refine ER.done ?_ | refine EK.skip ?_ | refine ER.move rfl rfl rfl ?_ | refine ER.nilCheck rfl rfl rfl ?_ | refine ER.fieldAddr rfl rfl rfl ?_ | refine ER.load1 rfl rfl rfl (hcell_of (by assumption) rfl) ?_ | refine ER.eqV rfl rfl rfl rfl rfl ?_ | refine ER.notB rfl rfl rfl ?_ | refine ER.pickF rfl rfl rfl rfl ?_ | refine ER.cmpF rfl rfl rfl rfl rfl (by first | (dsimp only [cmpP]; omega) | exact rfl | exact Int.le_refl _) ?_ | refine EK.condF rfl ?_))
    refine ER.buildS (cells := (rqL i ⟨3, b, arg, new⟩).toArray) rfl rfl rfl rfl ?_
    (repeat refine ER.allocA rfl rfl ?_)
    refine ER.storeN (vs := rqL i ⟨3, b, arg, new⟩) rfl rfl rfl rfl (by simp [rqL, accL, OneCell]) (fun j hj => ⟨?_, hfroz_of (get_push_new _ _), T.free (.inr (.inr (.inr (Nat.le_refl _))))⟩) ?_
    · have hj' : j < 8 := hj
      rcases (show j = 0 ∨ j = 1 ∨ j = 2 ∨ j = 3 ∨ j = 4 ∨ j = 5 ∨ j = 6 ∨ j = 7 by omega) with rfl | rfl | rfl | rfl | rfl | rfl | rfl | rfl <;> exact ⟨_, hcell_of (get_push_new _ _) rfl⟩
    rw [hsetRow_push (c := [.int .i64 0, .int .i8 0, .int .i64 0, .int .i64 0, .int .i64 0, .int .i64 0, .int .i64 0, .bool false]) (vs := rqL i ⟨3, b, arg, new⟩) rfl]
    have T1 := T.alloc hX (accO (rqL i ⟨3, b, arg, new⟩))
    have hx := T.lts
    (repeat (first | refine EK.seq ?_ | refine EK.region ?_ | refine ER.done ?_ | refine ER.move rfl rfl rfl ?_))
    refine ER.loadN (vs := rqL i ⟨3, b, arg, new⟩) rfl rfl rfl rfl (hrow_block (rest := []) (by rw [List.append_nil]; exact get_push_new _ _)) ?_
    refine ER.callP rfl rfl rfl rfl rfl (stands_ok hX T1 hr hQ hJ) ?_ ?_
    · rintro ps h' δ' ⟨γ', rfl, hS, hV, rfl⟩
      exact ⟨γ', rfl, hS, Stood.of hV, rfl⟩
    rintro w h1 δ1 ⟨γ', rfl, hs, hV, hP⟩
    have m := Mid.of hX (fun q hq => Nat.ne_of_lt (hx q hq)) hs hV hP
    have et : γ'.p.tb i = γ.p.tb i := (Stood.of hV).tb
    have hst : γ'.p.st i = .stands ⟨3, b, arg, new⟩ := (Stood.of hV).st
    generalize h.size = x at m hV ⊢
    have cb : h1[b]? = some (cellO (γ'.p.val b)) := m.cel hC
    (repeat (first | refine EK.seq ?_ | refine EK.region ?_ | refine ER.done ?_ | refine ER.move rfl rfl rfl ?_))
    refine ER.callD rfl rfl rfl rfl rfl (aload_ok (v := γ'.p.val b) (hcell_of cb rfl)) ?_
    (repeat refine ER.fieldAddr rfl rfl rfl ?_)
    refine ER.store1 rfl rfl rfl ⟨nofun, nofun⟩ ⟨_, hcell_of m.lx rfl⟩ (hfroz_of m.lx) (m.still (.inl rfl)) ?_
    refine ER.gen (fun h' => Mid X γ' i { γ'.p with prv := ut γ'.p.prv i L } (nums γ'.p.log) x (accL i 3 (-1) arg new (γ'.p.val b) 0 false) h') (by rw [hset_block m.lx]; exact m.setx hX _) ?_
    clear m cb
    rintro h2 m
    have cb : h2[b]? = some (cellO (γ'.p.val b)) := m.cel hC
    (repeat (first | refine EK.seq ?_ | refine EK.region ?_ | refine ER.done ?_ | refine EK.block ?_ | refine ER.move rfl rfl rfl ?_ | refine ER.assign rfl rfl rfl ?_ | refine ER.cmpT rfl rfl rfl rfl rfl (by first | (dsimp only [cmpP]; omega) | exact rfl | exact Int.le_refl _) ?_ | refine ER.cmpF rfl rfl rfl rfl rfl (by first | (dsimp only [cmpP]; omega) | exact rfl | exact Int.le_refl _) ?_ | refine EK.condT rfl ?_ | refine EK.condF rfl ?_))
    by_cases hc : γ'.p.val b = arg
    · subst hc
      refine ER.callD rfl rfl rfl rfl rfl (acas_yes (v := γ'.p.val b) (x := new) (hcell_of cb rfl) (hfroz_of cb) (m.still (.inr (.inl hC)))) ?_
      refine ER.gen (fun h' => Mid X γ' i { γ'.p with prv := ut γ'.p.prv i L, val := ut γ'.p.val b new } (nums γ'.p.log) x (accL i 3 (-1) (γ'.p.val b) new (γ'.p.val b) 0 false) h') (by rw [cellO_set cb]; exact m.cell hX hC _) ?_
      clear m
      rintro h3 m
      (repeat refine ER.fieldAddr rfl rfl rfl ?_)
      refine ER.store1 rfl rfl rfl ⟨nofun, nofun⟩ ⟨_, hcell_of m.lx rfl⟩ (hfroz_of m.lx) (m.still (.inl rfl)) ?_
      refine ER.gen (fun h' => Mid X γ' i { γ'.p with prv := ut γ'.p.prv i L, val := ut γ'.p.val b new } (nums γ'.p.log) x (accL i 3 (-1) (γ'.p.val b) new (γ'.p.val b) 0 true) h') (by rw [hset_block m.lx]; exact m.setx hX _) ?_
      clear m h3
      rintro h3 m
      (repeat (first | refine EK.seq ?_ | refine EK.region ?_ | refine ER.done ?_ | refine EK.inBlock ?_ | refine ER.move rfl rfl rfl ?_))
      clear cb
      have cb : h3[b]? = some (cellO (new)) := (m.cel hC).trans (congrArg (fun v => some (cellO v)) (ut_same _ _ _))
      skip
      refine ER.callD rfl rfl rfl rfl rfl (aload_ok (v := new) (hcell_of cb rfl)) ?_
      (repeat refine ER.fieldAddr rfl rfl rfl ?_)
      refine ER.store1 rfl rfl rfl ⟨nofun, nofun⟩ ⟨_, hcell_of m.lx rfl⟩ (hfroz_of m.lx) (m.still (.inl rfl)) ?_
      refine ER.gen (fun h' => Mid X γ' i { γ'.p with prv := ut γ'.p.prv i L, val := ut γ'.p.val b (new) } (nums γ'.p.log) x (accL i 3 (-1) (γ'.p.val b) new (γ'.p.val b) (new) true) h') (by rw [hset_block m.lx]; exact m.setx hX _) ?_
      clear m cb
      rintro h4 m
      have cb : h4[b]? = some (cellO (new)) := (m.cel hC).trans (congrArg (fun v => some (cellO v)) (ut_same _ _ _))
      have d0 := m.row
      obtain ⟨s1, d1⟩ := m.runC
      rw [et] at d0
      obtain ⟨es, c', hm, hk, hpl⟩ := m.map
      (repeat (first | refine EK.seq ?_ | refine EK.region ?_ | refine ER.done ?_ | refine ER.move rfl rfl rfl ?_ | refine ER.nilCheck rfl rfl rfl ?_ | refine ER.fieldAddr rfl rfl rfl ?_ | refine ER.load1 rfl rfl rfl (hcell_of (by assumption) rfl) ?_ | refine ER.load1 rfl rfl rfl (by assumption) ?_))
      by_cases hb : b ∈ nums γ'.p.log
      · refine ER.lookupOk (v := .tuple #[.int .i64 ((nums γ'.p.log).idxOf b : Int), .bool true]) rfl rfl rfl rfl (by decide) hm ⟨_, _, cb⟩ hpl hk (by rw [pfind_keys, if_pos hb]; simp) ?_
        clear d1 hm hk hpl
        (repeat (first | refine EK.seq ?_ | refine EK.region ?_ | refine ER.done ?_ | refine EK.skip ?_ | refine ER.move rfl rfl rfl ?_ | refine ER.assign rfl rfl rfl ?_ | refine ER.fieldAddr rfl rfl rfl ?_ | refine ER.notB rfl rfl rfl ?_ | refine ER.extract rfl rfl rfl rfl ?_ | refine EK.condF rfl ?_))
        have hN := nums_pos (e := evOf i ⟨3, b, γ'.p.val b, new⟩ (γ'.p.val b)) hb
        have he := hb
        revert m hN he
        generalize h4 = h5, eNS : nums γ'.p.log = NS
        intro m hN he
        clear cb eNS
        refine ER.store1 rfl rfl rfl ⟨nofun, nofun⟩ ⟨_, hcell_of m.lx rfl⟩ (hfroz_of m.lx) (m.still (.inl rfl)) ?_
        refine ER.gen (fun h' => Mid X γ' i { γ'.p with prv := ut γ'.p.prv i L, val := ut γ'.p.val b (new) } NS x (accL i 3 (NS.idxOf b) (γ'.p.val b) new (γ'.p.val b) (new) true) h') (by rw [hset_block m.lx]; exact m.setx hX _) ?_
        clear m d0
        rintro h6 m
        obtain ⟨s2, M2, g2, nx2⟩ := m.gi
        have d0 := m.row
        rw [et] at d0
        have d1 : h6[γ'.p.R]? = some (runO s2 γ'.p.mb γ'.p.stops) := g2.runAt
        have lx := m.lx
        (repeat (first | refine EK.seq ?_ | refine ER.done ?_))
        refine EK.regionAnyL (fun h' => hcell h' ⟨γ.p.tb i, 0, none⟩ = some (ptr γ'.p.R) ∧ hcell h' ⟨γ'.p.R, 2, none⟩ = some s2.L ∧ hrow h' x 0 (accL i 3 (NS.idxOf b) (γ'.p.val b) new (γ'.p.val b) (new) true)) 16 ?_
        have lrow : hrow h6 x 0 (accL i 3 (NS.idxOf b) (γ'.p.val b) new (γ'.p.val b) (new) true) := hrow_block (rest := []) (by rw [List.append_nil]; exact lx)
        have hZ := And.intro d0 (And.intro (hcell_of d1 rfl : hcell h6 ⟨γ'.p.R, 2, none⟩ = some s2.L) lrow)
        refine EA.tMove 0 rfl (by kernel_rfl) rfl rfl rfl rfl hZ ?_
        refine EA.tNil 1 rfl (by kernel_rfl) rfl rfl rfl rfl hZ ?_
        refine EA.tField 2 rfl (by kernel_rfl) rfl rfl rfl rfl hZ ?_
        refine EA.tLoad 3 rfl (by kernel_rfl) rfl rfl rfl rfl (fun _ hz => hz.1) hZ ?_
        refine EA.tMove 4 rfl (by kernel_rfl) rfl rfl rfl rfl hZ ?_
        refine EA.tNil 5 rfl (by kernel_rfl) rfl rfl rfl rfl hZ ?_
        refine EA.tField 6 rfl (by kernel_rfl) rfl rfl rfl rfl hZ ?_
        refine EA.tLoad 7 rfl (by kernel_rfl) rfl rfl rfl rfl (fun _ hz => hz.1) hZ ?_
        refine EA.tNil 8 rfl (by kernel_rfl) rfl rfl rfl rfl hZ ?_
        refine EA.tField 9 rfl (by kernel_rfl) rfl rfl rfl rfl hZ ?_
        refine EA.tLoad 10 rfl (by kernel_rfl) rfl rfl rfl rfl (fun _ hz => hz.2.1) hZ ?_
        refine EA.tLoadN (vs := accL i 3 (NS.idxOf b) (γ'.p.val b) new (γ'.p.val b) (new) true) 11 rfl (by kernel_rfl) rfl rfl rfl rfl rfl (fun _ hz => hz.2.2) hZ ?_
        have hZ3 : _ ∧ _ ∧ _ := ⟨hcell_push (o := accO (accL i 3 (NS.idxOf b) (γ'.p.val b) new (γ'.p.val b) (new) true)) hZ.1, hcell_push (o := accO (accL i 3 (NS.idxOf b) (γ'.p.val b) new (γ'.p.val b) (new) true)) hZ.2.1, fun j v hj => hcell_push (o := accO (accL i 3 (NS.idxOf b) (γ'.p.val b) new (γ'.p.val b) (new) true)) (hZ.2.2 j v hj)⟩
        refine EA.val (v := .slice (some ⟨h6.size, 0, none⟩) 1 1) (h' := h6.push (accO (accL i 3 (NS.idxOf b) (γ'.p.val b) new (γ'.p.val b) (new) true))) 12 rfl (by kernel_rfl) rfl rfl rfl (fun ρ Q X hρ hq => sem_slice1 (z := .agg #[.int .i64 0, .int .i8 0, .int .i64 0, .int .i64 0, .int .i64 0, .int .i64 0, .int .i64 0, .bool false]) (sz := 8) hρ rfl (by omega) (by omega) rfl (fill_acc _ _ _ _ _ _ _ _) hq) hZ3 ?_
        have g3 := g2.upd0 (Upd.push h6 (accO (accL i 3 (NS.idxOf b) (γ'.p.val b) new (γ'.p.val b) (new) true)))
        have hlen := hP.len hs
        have d3 := (Upd.push (T := fun _ => False) h6 (accO (accL i 3 (NS.idxOf b) (γ'.p.val b) new (γ'.p.val b) (new) true))).get d1 (fun x => x)
        have lx3 := (Upd.push (T := fun _ => False) h6 (accO (accL i 3 (NS.idxOf b) (γ'.p.val b) new (γ'.p.val b) (new) true))).get lx (fun x => x)
        have u3 := upd_then m.upd (Upd.push (T := fun _ => False) h6 (accO (accL i 3 (NS.idxOf b) (γ'.p.val b) new (γ'.p.val b) (new) true))) (fun _ _ x => x.elim)
        have I3 := hX.loc _ _ _ (fun c hc => (Upd.push (T := fun _ => False) h6 (accO (accL i 3 (NS.idxOf b) (γ'.p.val b) new (γ'.p.val b) (new) true))).2 c (g2.dom c hc).1 (fun x => x)) m.I
        have hlog : M2.Sl .log s2.L 75 8 γ'.p.log.length (γ'.p.log.flatMap (entL NS)) := g3.all .log
        have hrun := g3.all .run
        refine EA.append1 (new := accL i 3 (NS.idxOf b) (γ'.p.val b) new (γ'.p.val b) (new) true) 13 rfl (by kernel_rfl) rfl rfl rfl rfl rfl (hlog.slice g3.rep) (get_push_new _ _) rfl (by simp [accL, OneCell]) (by omega) (by omega) rfl (fun c o hc => ?_) ?_
        · obtain ⟨hk, e⟩ := hlog.blk hc
          rw [e]; exact still_nm m.run m.lt g3 m.st hk (fun j => ⟨nofun, nofun⟩)
        intro s' h7 hs7 u7 hb7
        have nl : ∀ k, k ≠ .log → M2.ok k → ¬ blk s2.L = some (M2.B k) := fun k hk ok e => by
          obtain ⟨hk', e'⟩ := hlog.blk e
          exact g3.ne ok hk' hk e'
        have hti := g3.all (.t i) (by show i < γ'.p.num; exact hP.lt)
        have nti : ¬ blk s2.L = some (γ.p.tb i) := by rw [← et]; have := nl (.t i) nofun hti.1; rwa [hti.2.1] at this
        have nR : ¬ blk s2.L = some γ'.p.R := by have := nl .run nofun hrun.1; rwa [hrun.2.1] at this
        have nx3 : ¬ blk s2.L = some x := fun e => by
          obtain ⟨hk', e'⟩ := hlog.blk e
          exact nx2 _ hk' e'.symm
        have d7 := u7.get d3 nR
        have lx7 := u7.get lx3 nx3
        have hZ7 : hcell h7 ⟨γ.p.tb i, 0, none⟩ = some (ptr γ'.p.R) ∧ hcell h7 ⟨γ'.p.R, 2, none⟩ = some s2.L ∧ hrow h7 x 0 (accL i 3 (NS.idxOf b) (γ'.p.val b) new (γ'.p.val b) (new) true) := ⟨u7.hcell hZ3.1 nti, hcell_of d7 rfl, fun j v hj => u7.hcell (hZ3.2.2 j v hj) nx3⟩
        refine ⟨hZ7, ?_⟩
        refine EA.val 14 rfl (by kernel_rfl) rfl rfl rfl (fun ρ Q X hρ hq => sem_nilCheck (hρ _ _ rfl) hq) hZ7 ?_
        have hZ := hZ7
        refine EA.tField 15 rfl (by kernel_rfl) rfl rfl rfl rfl hZ ?_
        have hbh : behind 3 (γ'.p.val b) (γ'.p.val b) new = (new, true) := (by simp [behind])
        have hent : entL NS (evOf i ⟨3, b, γ'.p.val b, new⟩ (γ'.p.val b)) = accL i 3 (NS.idxOf b) (γ'.p.val b) new (γ'.p.val b) (new) true := by
          show accL _ _ _ _ _ _ (behind 3 (γ'.p.val b) (γ'.p.val b) new).1 (behind 3 (γ'.p.val b) (γ'.p.val b) new).2 = _
          rw [hbh]
          rfl
        obtain ⟨as7, ks7, es7⟩ := hs7.val
        have hOne : OneCell s' := by rw [es7]; exact ⟨nofun, nofun⟩
        rw [← hent] at hs7
        obtain ⟨M', g8⟩ := g3.logApp (e := evOf i ⟨3, b, γ'.p.val b, new⟩ (γ'.p.val b)) he hs7 u7 hb7 (fun c hc => .inr (Nat.le_trans u3.size hc))
        have I7 : X.I γ'.p.u h7 := hX.loc _ _ _ (fun c hc => u7.2 c (g3.dom c hc).1 (fun e => by
          obtain ⟨hk', e'⟩ := hlog.blk e
          exact (g3.apart _ hk').2 (by rw [← e']; exact hc))) I3
        have I8 : X.I γ'.p.u (h7.setIfInBounds γ'.p.R (runO { s2 with L := s' } γ'.p.mb γ'.p.stops)) := hX.loc _ _ _ (fun c hc => get_set_ne _ (fun e : γ'.p.R = c => (g3.apart _ hrun.1).2 (by rw [hrun.2.1]; show X.Dom γ'.p.u γ'.p.R; rw [e]; exact hc))) I7
        have u8 : Upd γ'.W γ'.base (h7.setIfInBounds γ'.p.R (runO { s2 with L := s' } γ'.p.mb γ'.p.stops)) := updW (upd_then u3 u7 (fun c hc e => by
          obtain ⟨hk', e'⟩ := hlog.blk e
          have := g3.wide _ hk'
          rw [← e'] at this
          exact this.resolve_right (by omega))) _ (by have := g3.wide _ hrun.1; rw [hrun.2.1] at this; exact this)
        have lx8 : (h7.setIfInBounds γ'.p.R (runO { s2 with L := s' } γ'.p.mb γ'.p.stops))[x]? = some (accO (accL i 3 (NS.idxOf b) (γ'.p.val b) new (γ'.p.val b) (new) true)) := (get_set_ne _ (fun e : γ'.p.R = x => nx2 _ hrun.1 (hrun.2.1.trans e))).trans lx7
        refine EA.unitL (h' := h7.setIfInBounds γ'.p.R (runO { s2 with L := s' } γ'.p.mb γ'.p.stops)) 16 rfl (by kernel_rfl) rfl rfl rfl (fun ρ Q X hρ hq => sem_store1 (hρ _ _ rfl) (hρ _ _ rfl) hOne ⟨_, hcell_of d7 rfl⟩ (hfroz_of d7) (m.still (.inr (.inr (.inl rfl)))) (by rw [hset_block d7]; exact hq)) ?_
        refine EA.done (by kernel_rfl) ?_
        clear hZ hZ7 hZ3 u7 d7 lx7 I7 hs7 hb7 nl nti nR nx3 d3 lx3 u3 I3
        generalize h7.setIfInBounds γ'.p.R (runO { s2 with L := s' } γ'.p.mb γ'.p.stops) = h8 at g8 I8 u8 lx8 ⊢
        (repeat refine EK.seq ?_)
        refine EK.regionAny (fun h' => hrow h' x 0 (accL i 3 (NS.idxOf b) (γ'.p.val b) new (γ'.p.val b) (new) true)) ?_
        have hZ : hrow h8 x 0 (accL i 3 (NS.idxOf b) (γ'.p.val b) new (γ'.p.val b) (new) true) := hrow_block (rest := []) (by rw [List.append_nil]; exact lx8)
        refine EA.tField 0 rfl (by kernel_rfl) rfl rfl rfl rfl hZ ?_
        refine EA.tLoad 1 rfl (by kernel_rfl) rfl rfl rfl rfl (fun _ hz => hz 5 _ rfl) hZ ?_
        refine EA.tField 2 rfl (by kernel_rfl) rfl rfl rfl rfl hZ ?_
        refine EA.tLoad 3 rfl (by kernel_rfl) rfl rfl rfl rfl (fun _ hz => hz 6 _ rfl) hZ ?_
        refine EA.tField 4 rfl (by kernel_rfl) rfl rfl rfl rfl hZ ?_
        refine EA.tLoad 5 rfl (by kernel_rfl) rfl rfl rfl rfl (fun _ hz => hz 7 _ rfl) hZ ?_
        refine EA.tAssign 6 rfl (by kernel_rfl) rfl rfl rfl rfl hZ ?_
        refine EA.tAssign 7 rfl (by kernel_rfl) rfl rfl rfl rfl hZ ?_
        refine EA.tAssign 8 rfl (by kernel_rfl) rfl rfl rfl rfl hZ ?_
        refine EA.done (by kernel_rfl) ?_
        (repeat refine EK.ret ?_)
        refine EU.ret3 rfl rfl rfl rfl ⟨γ', rfl, thr_of hX hs hP hst ⟨{ s2 with L := s' }, M', ?_⟩ I8 u8, Stood.of hV, ?_⟩
        · show GI X _ { γ'.p with prv := ut γ'.p.prv i L, val := ut γ'.p.val b (behind 3 (γ'.p.val b) (γ'.p.val b) new).1, log := _ } _ _ _ _
          rw [hbh, hN]
          exact g8
        · show _ = Value.tuple #[.int .i64 (γ'.p.val b), .int .i64 (behind 3 (γ'.p.val b) (γ'.p.val b) new).1, .bool (behind 3 (γ'.p.val b) (γ'.p.val b) new).2]
          rw [hbh]
      · refine ER.lookupOk (v := .tuple #[.int .i64 0, .bool false]) rfl rfl rfl rfl (by decide) hm ⟨_, _, cb⟩ hpl hk (by rw [pfind_keys, if_neg hb]) ?_
        (repeat (first | refine EK.seq ?_ | refine EK.region ?_ | refine ER.done ?_ | refine ER.move rfl rfl rfl ?_ | refine ER.assign rfl rfl rfl ?_ | refine ER.nilCheck rfl rfl rfl ?_ | refine ER.fieldAddr rfl rfl rfl ?_ | refine ER.load1 rfl rfl rfl (hcell_of (by assumption) rfl) ?_ | refine ER.notB rfl rfl rfl ?_ | refine ER.extract rfl rfl rfl rfl ?_ | refine EK.condT rfl ?_ | refine ER.load1 rfl rfl rfl (by assumption) ?_))
        have hi := idxOf_snoc hb
        refine ER.lenMap (v := (nums γ'.p.log ++ [b]).idxOf b) rfl rfl rfl hm (by rw [keyed_size hk, keysFrom_length, hi]) ?_
        (repeat (first | refine EK.region ?_ | refine ER.done ?_ | refine ER.move rfl rfl rfl ?_ | refine ER.assign rfl rfl rfl ?_ | refine ER.nilCheck rfl rfl rfl ?_ | refine ER.fieldAddr rfl rfl rfl ?_ | refine ER.load1 rfl rfl rfl (hcell_of (by assumption) rfl) ?_ | refine ER.load1 rfl rfl rfl (by assumption) ?_))
        refine ER.mapNew rfl rfl rfl rfl (by decide) hm ⟨_, _, cb⟩ hpl hk (by rw [pfind_keys, if_neg hb]) ?_
        refine ER.gen (fun h' => Mid X γ' i { γ'.p with prv := ut γ'.p.prv i L, val := ut γ'.p.val b (new) } (nums γ'.p.log ++ [b]) x (accL i 3 (-1) (γ'.p.val b) new (γ'.p.val b) (new) true) h') (by rw [hi]; exact m.mapNew hX hC hm hk) ?_
        clear m d1 hm hk hpl d0 hi cb
        rintro h5 m
        have hN := nums_neg (e := evOf i ⟨3, b, γ'.p.val b, new⟩ (γ'.p.val b)) hb
        have he : b ∈ nums γ'.p.log ++ [b] := by simp
        change nums (γ'.p.log ++ [evOf i ⟨3, b, γ'.p.val b, new⟩ (γ'.p.val b)]) = nums γ'.p.log ++ [b] at hN
        revert m hN he
        generalize nums γ'.p.log ++ [b] = NS
        intro m he hN
        have d0 := m.row
        rw [et] at d0
        (repeat (first | refine EK.seq ?_ | refine EK.region ?_ | refine ER.done ?_ | refine ER.move rfl rfl rfl ?_ | refine ER.fieldAddr rfl rfl rfl ?_))
        refine ER.store1 rfl rfl rfl ⟨nofun, nofun⟩ ⟨_, hcell_of m.lx rfl⟩ (hfroz_of m.lx) (m.still (.inl rfl)) ?_
        refine ER.gen (fun h' => Mid X γ' i { γ'.p with prv := ut γ'.p.prv i L, val := ut γ'.p.val b (new) } NS x (accL i 3 (NS.idxOf b) (γ'.p.val b) new (γ'.p.val b) (new) true) h') (by rw [hset_block m.lx]; exact m.setx hX _) ?_
        clear m d0
        rintro h6 m
        obtain ⟨s2, M2, g2, nx2⟩ := m.gi
        have d0 := m.row
        rw [et] at d0
        have d1 : h6[γ'.p.R]? = some (runO s2 γ'.p.mb γ'.p.stops) := g2.runAt
        have lx := m.lx
        (repeat (first | refine EK.seq ?_ | refine ER.done ?_))
        refine EK.regionAnyL (fun h' => hcell h' ⟨γ.p.tb i, 0, none⟩ = some (ptr γ'.p.R) ∧ hcell h' ⟨γ'.p.R, 2, none⟩ = some s2.L ∧ hrow h' x 0 (accL i 3 (NS.idxOf b) (γ'.p.val b) new (γ'.p.val b) (new) true)) 16 ?_
        have lrow : hrow h6 x 0 (accL i 3 (NS.idxOf b) (γ'.p.val b) new (γ'.p.val b) (new) true) := hrow_block (rest := []) (by rw [List.append_nil]; exact lx)
        have hZ := And.intro d0 (And.intro (hcell_of d1 rfl : hcell h6 ⟨γ'.p.R, 2, none⟩ = some s2.L) lrow)
        refine EA.tMove 0 rfl (by kernel_rfl) rfl rfl rfl rfl hZ ?_
        refine EA.tNil 1 rfl (by kernel_rfl) rfl rfl rfl rfl hZ ?_
        refine EA.tField 2 rfl (by kernel_rfl) rfl rfl rfl rfl hZ ?_
        refine EA.tLoad 3 rfl (by kernel_rfl) rfl rfl rfl rfl (fun _ hz => hz.1) hZ ?_
        refine EA.tMove 4 rfl (by kernel_rfl) rfl rfl rfl rfl hZ ?_
        refine EA.tNil 5 rfl (by kernel_rfl) rfl rfl rfl rfl hZ ?_
        refine EA.tField 6 rfl (by kernel_rfl) rfl rfl rfl rfl hZ ?_
        refine EA.tLoad 7 rfl (by kernel_rfl) rfl rfl rfl rfl (fun _ hz => hz.1) hZ ?_
        refine EA.tNil 8 rfl (by kernel_rfl) rfl rfl rfl rfl hZ ?_
        refine EA.tField 9 rfl (by kernel_rfl) rfl rfl rfl rfl hZ ?_
        refine EA.tLoad 10 rfl (by kernel_rfl) rfl rfl rfl rfl (fun _ hz => hz.2.1) hZ ?_
        refine EA.tLoadN (vs := accL i 3 (NS.idxOf b) (γ'.p.val b) new (γ'.p.val b) (new) true) 11 rfl (by kernel_rfl) rfl rfl rfl rfl rfl (fun _ hz => hz.2.2) hZ ?_
        have hZ3 : _ ∧ _ ∧ _ := ⟨hcell_push (o := accO (accL i 3 (NS.idxOf b) (γ'.p.val b) new (γ'.p.val b) (new) true)) hZ.1, hcell_push (o := accO (accL i 3 (NS.idxOf b) (γ'.p.val b) new (γ'.p.val b) (new) true)) hZ.2.1, fun j v hj => hcell_push (o := accO (accL i 3 (NS.idxOf b) (γ'.p.val b) new (γ'.p.val b) (new) true)) (hZ.2.2 j v hj)⟩
        refine EA.val (v := .slice (some ⟨h6.size, 0, none⟩) 1 1) (h' := h6.push (accO (accL i 3 (NS.idxOf b) (γ'.p.val b) new (γ'.p.val b) (new) true))) 12 rfl (by kernel_rfl) rfl rfl rfl (fun ρ Q X hρ hq => sem_slice1 (z := .agg #[.int .i64 0, .int .i8 0, .int .i64 0, .int .i64 0, .int .i64 0, .int .i64 0, .int .i64 0, .bool false]) (sz := 8) hρ rfl (by omega) (by omega) rfl (fill_acc _ _ _ _ _ _ _ _) hq) hZ3 ?_
        have g3 := g2.upd0 (Upd.push h6 (accO (accL i 3 (NS.idxOf b) (γ'.p.val b) new (γ'.p.val b) (new) true)))
        have hlen := hP.len hs
        have d3 := (Upd.push (T := fun _ => False) h6 (accO (accL i 3 (NS.idxOf b) (γ'.p.val b) new (γ'.p.val b) (new) true))).get d1 (fun x => x)
        have lx3 := (Upd.push (T := fun _ => False) h6 (accO (accL i 3 (NS.idxOf b) (γ'.p.val b) new (γ'.p.val b) (new) true))).get lx (fun x => x)
        have u3 := upd_then m.upd (Upd.push (T := fun _ => False) h6 (accO (accL i 3 (NS.idxOf b) (γ'.p.val b) new (γ'.p.val b) (new) true))) (fun _ _ x => x.elim)
        have I3 := hX.loc _ _ _ (fun c hc => (Upd.push (T := fun _ => False) h6 (accO (accL i 3 (NS.idxOf b) (γ'.p.val b) new (γ'.p.val b) (new) true))).2 c (g2.dom c hc).1 (fun x => x)) m.I
        have hlog : M2.Sl .log s2.L 75 8 γ'.p.log.length (γ'.p.log.flatMap (entL NS)) := g3.all .log
        have hrun := g3.all .run
        refine EA.append1 (new := accL i 3 (NS.idxOf b) (γ'.p.val b) new (γ'.p.val b) (new) true) 13 rfl (by kernel_rfl) rfl rfl rfl rfl rfl (hlog.slice g3.rep) (get_push_new _ _) rfl (by simp [accL, OneCell]) (by omega) (by omega) rfl (fun c o hc => ?_) ?_
        · obtain ⟨hk, e⟩ := hlog.blk hc
          rw [e]; exact still_nm m.run m.lt g3 m.st hk (fun j => ⟨nofun, nofun⟩)
        intro s' h7 hs7 u7 hb7
        have nl : ∀ k, k ≠ .log → M2.ok k → ¬ blk s2.L = some (M2.B k) := fun k hk ok e => by
          obtain ⟨hk', e'⟩ := hlog.blk e
          exact g3.ne ok hk' hk e'
        have hti := g3.all (.t i) (by show i < γ'.p.num; exact hP.lt)
        have nti : ¬ blk s2.L = some (γ.p.tb i) := by rw [← et]; have := nl (.t i) nofun hti.1; rwa [hti.2.1] at this
        have nR : ¬ blk s2.L = some γ'.p.R := by have := nl .run nofun hrun.1; rwa [hrun.2.1] at this
        have nx3 : ¬ blk s2.L = some x := fun e => by
          obtain ⟨hk', e'⟩ := hlog.blk e
          exact nx2 _ hk' e'.symm
        have d7 := u7.get d3 nR
        have lx7 := u7.get lx3 nx3
        have hZ7 : hcell h7 ⟨γ.p.tb i, 0, none⟩ = some (ptr γ'.p.R) ∧ hcell h7 ⟨γ'.p.R, 2, none⟩ = some s2.L ∧ hrow h7 x 0 (accL i 3 (NS.idxOf b) (γ'.p.val b) new (γ'.p.val b) (new) true) := ⟨u7.hcell hZ3.1 nti, hcell_of d7 rfl, fun j v hj => u7.hcell (hZ3.2.2 j v hj) nx3⟩
        refine ⟨hZ7, ?_⟩
        refine EA.val 14 rfl (by kernel_rfl) rfl rfl rfl (fun ρ Q X hρ hq => sem_nilCheck (hρ _ _ rfl) hq) hZ7 ?_
        have hZ := hZ7
        refine EA.tField 15 rfl (by kernel_rfl) rfl rfl rfl rfl hZ ?_
        have hbh : behind 3 (γ'.p.val b) (γ'.p.val b) new = (new, true) := (by simp [behind])
        have hent : entL NS (evOf i ⟨3, b, γ'.p.val b, new⟩ (γ'.p.val b)) = accL i 3 (NS.idxOf b) (γ'.p.val b) new (γ'.p.val b) (new) true := by
          show accL _ _ _ _ _ _ (behind 3 (γ'.p.val b) (γ'.p.val b) new).1 (behind 3 (γ'.p.val b) (γ'.p.val b) new).2 = _
          rw [hbh]
          rfl
        obtain ⟨as7, ks7, es7⟩ := hs7.val
        have hOne : OneCell s' := by rw [es7]; exact ⟨nofun, nofun⟩
        rw [← hent] at hs7
        obtain ⟨M', g8⟩ := g3.logApp (e := evOf i ⟨3, b, γ'.p.val b, new⟩ (γ'.p.val b)) he hs7 u7 hb7 (fun c hc => .inr (Nat.le_trans u3.size hc))
        have I7 : X.I γ'.p.u h7 := hX.loc _ _ _ (fun c hc => u7.2 c (g3.dom c hc).1 (fun e => by
          obtain ⟨hk', e'⟩ := hlog.blk e
          exact (g3.apart _ hk').2 (by rw [← e']; exact hc))) I3
        have I8 : X.I γ'.p.u (h7.setIfInBounds γ'.p.R (runO { s2 with L := s' } γ'.p.mb γ'.p.stops)) := hX.loc _ _ _ (fun c hc => get_set_ne _ (fun e : γ'.p.R = c => (g3.apart _ hrun.1).2 (by rw [hrun.2.1]; show X.Dom γ'.p.u γ'.p.R; rw [e]; exact hc))) I7
        have u8 : Upd γ'.W γ'.base (h7.setIfInBounds γ'.p.R (runO { s2 with L := s' } γ'.p.mb γ'.p.stops)) := updW (upd_then u3 u7 (fun c hc e => by
          obtain ⟨hk', e'⟩ := hlog.blk e
          have := g3.wide _ hk'
          rw [← e'] at this
          exact this.resolve_right (by omega))) _ (by have := g3.wide _ hrun.1; rw [hrun.2.1] at this; exact this)
        have lx8 : (h7.setIfInBounds γ'.p.R (runO { s2 with L := s' } γ'.p.mb γ'.p.stops))[x]? = some (accO (accL i 3 (NS.idxOf b) (γ'.p.val b) new (γ'.p.val b) (new) true)) := (get_set_ne _ (fun e : γ'.p.R = x => nx2 _ hrun.1 (hrun.2.1.trans e))).trans lx7
        refine EA.unitL (h' := h7.setIfInBounds γ'.p.R (runO { s2 with L := s' } γ'.p.mb γ'.p.stops)) 16 rfl (by kernel_rfl) rfl rfl rfl (fun ρ Q X hρ hq => sem_store1 (hρ _ _ rfl) (hρ _ _ rfl) hOne ⟨_, hcell_of d7 rfl⟩ (hfroz_of d7) (m.still (.inr (.inr (.inl rfl)))) (by rw [hset_block d7]; exact hq)) ?_
        refine EA.done (by kernel_rfl) ?_
        clear hZ hZ7 hZ3 u7 d7 lx7 I7 hs7 hb7 nl nti nR nx3 d3 lx3 u3 I3
        generalize h7.setIfInBounds γ'.p.R (runO { s2 with L := s' } γ'.p.mb γ'.p.stops) = h8 at g8 I8 u8 lx8 ⊢
        (repeat refine EK.seq ?_)
        refine EK.regionAny (fun h' => hrow h' x 0 (accL i 3 (NS.idxOf b) (γ'.p.val b) new (γ'.p.val b) (new) true)) ?_
        have hZ : hrow h8 x 0 (accL i 3 (NS.idxOf b) (γ'.p.val b) new (γ'.p.val b) (new) true) := hrow_block (rest := []) (by rw [List.append_nil]; exact lx8)
        refine EA.tField 0 rfl (by kernel_rfl) rfl rfl rfl rfl hZ ?_
        refine EA.tLoad 1 rfl (by kernel_rfl) rfl rfl rfl rfl (fun _ hz => hz 5 _ rfl) hZ ?_
        refine EA.tField 2 rfl (by kernel_rfl) rfl rfl rfl rfl hZ ?_
        refine EA.tLoad 3 rfl (by kernel_rfl) rfl rfl rfl rfl (fun _ hz => hz 6 _ rfl) hZ ?_
        refine EA.tField 4 rfl (by kernel_rfl) rfl rfl rfl rfl hZ ?_
        refine EA.tLoad 5 rfl (by kernel_rfl) rfl rfl rfl rfl (fun _ hz => hz 7 _ rfl) hZ ?_
        refine EA.tAssign 6 rfl (by kernel_rfl) rfl rfl rfl rfl hZ ?_
        refine EA.tAssign 7 rfl (by kernel_rfl) rfl rfl rfl rfl hZ ?_
        refine EA.tAssign 8 rfl (by kernel_rfl) rfl rfl rfl rfl hZ ?_
        refine EA.done (by kernel_rfl) ?_
        (repeat refine EK.ret ?_)
        refine EU.ret3 rfl rfl rfl rfl ⟨γ', rfl, thr_of hX hs hP hst ⟨{ s2 with L := s' }, M', ?_⟩ I8 u8, Stood.of hV, ?_⟩
        · show GI X _ { γ'.p with prv := ut γ'.p.prv i L, val := ut γ'.p.val b (behind 3 (γ'.p.val b) (γ'.p.val b) new).1, log := _ } _ _ _ _
          rw [hbh, hN]
          exact g8
        · show _ = Value.tuple #[.int .i64 (γ'.p.val b), .int .i64 (behind 3 (γ'.p.val b) (γ'.p.val b) new).1, .bool (behind 3 (γ'.p.val b) (γ'.p.val b) new).2]
          rw [hbh]
    · refine ER.callD rfl rfl rfl rfl rfl (acas_no (v := γ'.p.val b) (x := new) hc (hcell_of cb rfl) (hfroz_of cb) (m.still (.inr (.inl hC)))) ?_
      replace m := m.same (b := b)
      (repeat refine ER.fieldAddr rfl rfl rfl ?_)
      refine ER.store1 rfl rfl rfl ⟨nofun, nofun⟩ ⟨_, hcell_of m.lx rfl⟩ (hfroz_of m.lx) (m.still (.inl rfl)) ?_
      refine ER.gen (fun h' => Mid X γ' i { γ'.p with prv := ut γ'.p.prv i L, val := ut γ'.p.val b (γ'.p.val b) } (nums γ'.p.log) x (accL i 3 (-1) arg new (γ'.p.val b) 0 false) h') (by rw [hset_block m.lx]; exact m.setx hX _) ?_
      clear m
      rintro h3 m
      (repeat (first | refine EK.seq ?_ | refine EK.region ?_ | refine ER.done ?_ | refine EK.inBlock ?_ | refine ER.move rfl rfl rfl ?_))
      clear cb
      have cb : h3[b]? = some (cellO (γ'.p.val b)) := (m.cel hC).trans (congrArg (fun v => some (cellO v)) (ut_same _ _ _))
      skip
      refine ER.callD rfl rfl rfl rfl rfl (aload_ok (v := γ'.p.val b) (hcell_of cb rfl)) ?_
      (repeat refine ER.fieldAddr rfl rfl rfl ?_)
      refine ER.store1 rfl rfl rfl ⟨nofun, nofun⟩ ⟨_, hcell_of m.lx rfl⟩ (hfroz_of m.lx) (m.still (.inl rfl)) ?_
      refine ER.gen (fun h' => Mid X γ' i { γ'.p with prv := ut γ'.p.prv i L, val := ut γ'.p.val b (γ'.p.val b) } (nums γ'.p.log) x (accL i 3 (-1) arg new (γ'.p.val b) (γ'.p.val b) false) h') (by rw [hset_block m.lx]; exact m.setx hX _) ?_
      clear m cb
      rintro h4 m
      have cb : h4[b]? = some (cellO (γ'.p.val b)) := (m.cel hC).trans (congrArg (fun v => some (cellO v)) (ut_same _ _ _))
      have d0 := m.row
      obtain ⟨s1, d1⟩ := m.runC
      rw [et] at d0
      obtain ⟨es, c', hm, hk, hpl⟩ := m.map
      (repeat (first | refine EK.seq ?_ | refine EK.region ?_ | refine ER.done ?_ | refine ER.move rfl rfl rfl ?_ | refine ER.nilCheck rfl rfl rfl ?_ | refine ER.fieldAddr rfl rfl rfl ?_ | refine ER.load1 rfl rfl rfl (hcell_of (by assumption) rfl) ?_ | refine ER.load1 rfl rfl rfl (by assumption) ?_))
      by_cases hb : b ∈ nums γ'.p.log
      · refine ER.lookupOk (v := .tuple #[.int .i64 ((nums γ'.p.log).idxOf b : Int), .bool true]) rfl rfl rfl rfl (by decide) hm ⟨_, _, cb⟩ hpl hk (by rw [pfind_keys, if_pos hb]; simp) ?_
        clear d1 hm hk hpl
        (repeat (first | refine EK.seq ?_ | refine EK.region ?_ | refine ER.done ?_ | refine EK.skip ?_ | refine ER.move rfl rfl rfl ?_ | refine ER.assign rfl rfl rfl ?_ | refine ER.fieldAddr rfl rfl rfl ?_ | refine ER.notB rfl rfl rfl ?_ | refine ER.extract rfl rfl rfl rfl ?_ | refine EK.condF rfl ?_))
        have hN := nums_pos (e := evOf i ⟨3, b, arg, new⟩ (γ'.p.val b)) hb
        have he := hb
        revert m hN he
        generalize h4 = h5, eNS : nums γ'.p.log = NS
        intro m hN he
        clear cb eNS
        refine ER.store1 rfl rfl rfl ⟨nofun, nofun⟩ ⟨_, hcell_of m.lx rfl⟩ (hfroz_of m.lx) (m.still (.inl rfl)) ?_
        refine ER.gen (fun h' => Mid X γ' i { γ'.p with prv := ut γ'.p.prv i L, val := ut γ'.p.val b (γ'.p.val b) } NS x (accL i 3 (NS.idxOf b) arg new (γ'.p.val b) (γ'.p.val b) false) h') (by rw [hset_block m.lx]; exact m.setx hX _) ?_
        clear m d0
        rintro h6 m
        obtain ⟨s2, M2, g2, nx2⟩ := m.gi
        have d0 := m.row
        rw [et] at d0
        have d1 : h6[γ'.p.R]? = some (runO s2 γ'.p.mb γ'.p.stops) := g2.runAt
        have lx := m.lx
        (repeat (first | refine EK.seq ?_ | refine ER.done ?_))
        refine EK.regionAnyL (fun h' => hcell h' ⟨γ.p.tb i, 0, none⟩ = some (ptr γ'.p.R) ∧ hcell h' ⟨γ'.p.R, 2, none⟩ = some s2.L ∧ hrow h' x 0 (accL i 3 (NS.idxOf b) arg new (γ'.p.val b) (γ'.p.val b) false)) 16 ?_
        have lrow : hrow h6 x 0 (accL i 3 (NS.idxOf b) arg new (γ'.p.val b) (γ'.p.val b) false) := hrow_block (rest := []) (by rw [List.append_nil]; exact lx)
        have hZ := And.intro d0 (And.intro (hcell_of d1 rfl : hcell h6 ⟨γ'.p.R, 2, none⟩ = some s2.L) lrow)
        refine EA.tMove 0 rfl (by kernel_rfl) rfl rfl rfl rfl hZ ?_
        refine EA.tNil 1 rfl (by kernel_rfl) rfl rfl rfl rfl hZ ?_
        refine EA.tField 2 rfl (by kernel_rfl) rfl rfl rfl rfl hZ ?_
        refine EA.tLoad 3 rfl (by kernel_rfl) rfl rfl rfl rfl (fun _ hz => hz.1) hZ ?_
        refine EA.tMove 4 rfl (by kernel_rfl) rfl rfl rfl rfl hZ ?_
        refine EA.tNil 5 rfl (by kernel_rfl) rfl rfl rfl rfl hZ ?_
        refine EA.tField 6 rfl (by kernel_rfl) rfl rfl rfl rfl hZ ?_
        refine EA.tLoad 7 rfl (by kernel_rfl) rfl rfl rfl rfl (fun _ hz => hz.1) hZ ?_
        refine EA.tNil 8 rfl (by kernel_rfl) rfl rfl rfl rfl hZ ?_
        refine EA.tField 9 rfl (by kernel_rfl) rfl rfl rfl rfl hZ ?_
        refine EA.tLoad 10 rfl (by kernel_rfl) rfl rfl rfl rfl (fun _ hz => hz.2.1) hZ ?_
        refine EA.tLoadN (vs := accL i 3 (NS.idxOf b) arg new (γ'.p.val b) (γ'.p.val b) false) 11 rfl (by kernel_rfl) rfl rfl rfl rfl rfl (fun _ hz => hz.2.2) hZ ?_
        have hZ3 : _ ∧ _ ∧ _ := ⟨hcell_push (o := accO (accL i 3 (NS.idxOf b) arg new (γ'.p.val b) (γ'.p.val b) false)) hZ.1, hcell_push (o := accO (accL i 3 (NS.idxOf b) arg new (γ'.p.val b) (γ'.p.val b) false)) hZ.2.1, fun j v hj => hcell_push (o := accO (accL i 3 (NS.idxOf b) arg new (γ'.p.val b) (γ'.p.val b) false)) (hZ.2.2 j v hj)⟩
        refine EA.val (v := .slice (some ⟨h6.size, 0, none⟩) 1 1) (h' := h6.push (accO (accL i 3 (NS.idxOf b) arg new (γ'.p.val b) (γ'.p.val b) false))) 12 rfl (by kernel_rfl) rfl rfl rfl (fun ρ Q X hρ hq => sem_slice1 (z := .agg #[.int .i64 0, .int .i8 0, .int .i64 0, .int .i64 0, .int .i64 0, .int .i64 0, .int .i64 0, .bool false]) (sz := 8) hρ rfl (by omega) (by omega) rfl (fill_acc _ _ _ _ _ _ _ _) hq) hZ3 ?_
        have g3 := g2.upd0 (Upd.push h6 (accO (accL i 3 (NS.idxOf b) arg new (γ'.p.val b) (γ'.p.val b) false)))
        have hlen := hP.len hs
        have d3 := (Upd.push (T := fun _ => False) h6 (accO (accL i 3 (NS.idxOf b) arg new (γ'.p.val b) (γ'.p.val b) false))).get d1 (fun x => x)
        have lx3 := (Upd.push (T := fun _ => False) h6 (accO (accL i 3 (NS.idxOf b) arg new (γ'.p.val b) (γ'.p.val b) false))).get lx (fun x => x)
        have u3 := upd_then m.upd (Upd.push (T := fun _ => False) h6 (accO (accL i 3 (NS.idxOf b) arg new (γ'.p.val b) (γ'.p.val b) false))) (fun _ _ x => x.elim)
        have I3 := hX.loc _ _ _ (fun c hc => (Upd.push (T := fun _ => False) h6 (accO (accL i 3 (NS.idxOf b) arg new (γ'.p.val b) (γ'.p.val b) false))).2 c (g2.dom c hc).1 (fun x => x)) m.I
        have hlog : M2.Sl .log s2.L 75 8 γ'.p.log.length (γ'.p.log.flatMap (entL NS)) := g3.all .log
        have hrun := g3.all .run
        refine EA.append1 (new := accL i 3 (NS.idxOf b) arg new (γ'.p.val b) (γ'.p.val b) false) 13 rfl (by kernel_rfl) rfl rfl rfl rfl rfl (hlog.slice g3.rep) (get_push_new _ _) rfl (by simp [accL, OneCell]) (by omega) (by omega) rfl (fun c o hc => ?_) ?_
        · obtain ⟨hk, e⟩ := hlog.blk hc
          rw [e]; exact still_nm m.run m.lt g3 m.st hk (fun j => ⟨nofun, nofun⟩)
        intro s' h7 hs7 u7 hb7
        have nl : ∀ k, k ≠ .log → M2.ok k → ¬ blk s2.L = some (M2.B k) := fun k hk ok e => by
          obtain ⟨hk', e'⟩ := hlog.blk e
          exact g3.ne ok hk' hk e'
        have hti := g3.all (.t i) (by show i < γ'.p.num; exact hP.lt)
        have nti : ¬ blk s2.L = some (γ.p.tb i) := by rw [← et]; have := nl (.t i) nofun hti.1; rwa [hti.2.1] at this
        have nR : ¬ blk s2.L = some γ'.p.R := by have := nl .run nofun hrun.1; rwa [hrun.2.1] at this
        have nx3 : ¬ blk s2.L = some x := fun e => by
          obtain ⟨hk', e'⟩ := hlog.blk e
          exact nx2 _ hk' e'.symm
        have d7 := u7.get d3 nR
        have lx7 := u7.get lx3 nx3
        have hZ7 : hcell h7 ⟨γ.p.tb i, 0, none⟩ = some (ptr γ'.p.R) ∧ hcell h7 ⟨γ'.p.R, 2, none⟩ = some s2.L ∧ hrow h7 x 0 (accL i 3 (NS.idxOf b) arg new (γ'.p.val b) (γ'.p.val b) false) := ⟨u7.hcell hZ3.1 nti, hcell_of d7 rfl, fun j v hj => u7.hcell (hZ3.2.2 j v hj) nx3⟩
        refine ⟨hZ7, ?_⟩
        refine EA.val 14 rfl (by kernel_rfl) rfl rfl rfl (fun ρ Q X hρ hq => sem_nilCheck (hρ _ _ rfl) hq) hZ7 ?_
        have hZ := hZ7
        refine EA.tField 15 rfl (by kernel_rfl) rfl rfl rfl rfl hZ ?_
        have hbh : behind 3 (γ'.p.val b) arg new = (γ'.p.val b, false) := (by simp [behind, hc])
        have hent : entL NS (evOf i ⟨3, b, arg, new⟩ (γ'.p.val b)) = accL i 3 (NS.idxOf b) arg new (γ'.p.val b) (γ'.p.val b) false := by
          show accL _ _ _ _ _ _ (behind 3 (γ'.p.val b) arg new).1 (behind 3 (γ'.p.val b) arg new).2 = _
          rw [hbh]
          rfl
        obtain ⟨as7, ks7, es7⟩ := hs7.val
        have hOne : OneCell s' := by rw [es7]; exact ⟨nofun, nofun⟩
        rw [← hent] at hs7
        obtain ⟨M', g8⟩ := g3.logApp (e := evOf i ⟨3, b, arg, new⟩ (γ'.p.val b)) he hs7 u7 hb7 (fun c hc => .inr (Nat.le_trans u3.size hc))
        have I7 : X.I γ'.p.u h7 := hX.loc _ _ _ (fun c hc => u7.2 c (g3.dom c hc).1 (fun e => by
          obtain ⟨hk', e'⟩ := hlog.blk e
          exact (g3.apart _ hk').2 (by rw [← e']; exact hc))) I3
        have I8 : X.I γ'.p.u (h7.setIfInBounds γ'.p.R (runO { s2 with L := s' } γ'.p.mb γ'.p.stops)) := hX.loc _ _ _ (fun c hc => get_set_ne _ (fun e : γ'.p.R = c => (g3.apart _ hrun.1).2 (by rw [hrun.2.1]; show X.Dom γ'.p.u γ'.p.R; rw [e]; exact hc))) I7
        have u8 : Upd γ'.W γ'.base (h7.setIfInBounds γ'.p.R (runO { s2 with L := s' } γ'.p.mb γ'.p.stops)) := updW (upd_then u3 u7 (fun c hc e => by
          obtain ⟨hk', e'⟩ := hlog.blk e
          have := g3.wide _ hk'
          rw [← e'] at this
          exact this.resolve_right (by omega))) _ (by have := g3.wide _ hrun.1; rw [hrun.2.1] at this; exact this)
        have lx8 : (h7.setIfInBounds γ'.p.R (runO { s2 with L := s' } γ'.p.mb γ'.p.stops))[x]? = some (accO (accL i 3 (NS.idxOf b) arg new (γ'.p.val b) (γ'.p.val b) false)) := (get_set_ne _ (fun e : γ'.p.R = x => nx2 _ hrun.1 (hrun.2.1.trans e))).trans lx7
        refine EA.unitL (h' := h7.setIfInBounds γ'.p.R (runO { s2 with L := s' } γ'.p.mb γ'.p.stops)) 16 rfl (by kernel_rfl) rfl rfl rfl (fun ρ Q X hρ hq => sem_store1 (hρ _ _ rfl) (hρ _ _ rfl) hOne ⟨_, hcell_of d7 rfl⟩ (hfroz_of d7) (m.still (.inr (.inr (.inl rfl)))) (by rw [hset_block d7]; exact hq)) ?_
        refine EA.done (by kernel_rfl) ?_
        clear hZ hZ7 hZ3 u7 d7 lx7 I7 hs7 hb7 nl nti nR nx3 d3 lx3 u3 I3
        generalize h7.setIfInBounds γ'.p.R (runO { s2 with L := s' } γ'.p.mb γ'.p.stops) = h8 at g8 I8 u8 lx8 ⊢
        (repeat refine EK.seq ?_)
        refine EK.regionAny (fun h' => hrow h' x 0 (accL i 3 (NS.idxOf b) arg new (γ'.p.val b) (γ'.p.val b) false)) ?_
        have hZ : hrow h8 x 0 (accL i 3 (NS.idxOf b) arg new (γ'.p.val b) (γ'.p.val b) false) := hrow_block (rest := []) (by rw [List.append_nil]; exact lx8)
        refine EA.tField 0 rfl (by kernel_rfl) rfl rfl rfl rfl hZ ?_
        refine EA.tLoad 1 rfl (by kernel_rfl) rfl rfl rfl rfl (fun _ hz => hz 5 _ rfl) hZ ?_
        refine EA.tField 2 rfl (by kernel_rfl) rfl rfl rfl rfl hZ ?_
        refine EA.tLoad 3 rfl (by kernel_rfl) rfl rfl rfl rfl (fun _ hz => hz 6 _ rfl) hZ ?_
        refine EA.tField 4 rfl (by kernel_rfl) rfl rfl rfl rfl hZ ?_
        refine EA.tLoad 5 rfl (by kernel_rfl) rfl rfl rfl rfl (fun _ hz => hz 7 _ rfl) hZ ?_
        refine EA.tAssign 6 rfl (by kernel_rfl) rfl rfl rfl rfl hZ ?_
        refine EA.tAssign 7 rfl (by kernel_rfl) rfl rfl rfl rfl hZ ?_
        refine EA.tAssign 8 rfl (by kernel_rfl) rfl rfl rfl rfl hZ ?_
        refine EA.done (by kernel_rfl) ?_
        (repeat refine EK.ret ?_)
        refine EU.ret3 rfl rfl rfl rfl ⟨γ', rfl, thr_of hX hs hP hst ⟨{ s2 with L := s' }, M', ?_⟩ I8 u8, Stood.of hV, ?_⟩
        · show GI X _ { γ'.p with prv := ut γ'.p.prv i L, val := ut γ'.p.val b (behind 3 (γ'.p.val b) arg new).1, log := _ } _ _ _ _
          rw [hbh, hN]
          exact g8
        · show _ = Value.tuple #[.int .i64 (γ'.p.val b), .int .i64 (behind 3 (γ'.p.val b) arg new).1, .bool (behind 3 (γ'.p.val b) arg new).2]
          rw [hbh]
      · refine ER.lookupOk (v := .tuple #[.int .i64 0, .bool false]) rfl rfl rfl rfl (by decide) hm ⟨_, _, cb⟩ hpl hk (by rw [pfind_keys, if_neg hb]) ?_
        (repeat (first | refine EK.seq ?_ | refine EK.region ?_ | refine ER.done ?_ | refine ER.move rfl rfl rfl ?_ | refine ER.assign rfl rfl rfl ?_ | refine ER.nilCheck rfl rfl rfl ?_ | refine ER.fieldAddr rfl rfl rfl ?_ | refine ER.load1 rfl rfl rfl (hcell_of (by assumption) rfl) ?_ | refine ER.notB rfl rfl rfl ?_ | refine ER.extract rfl rfl rfl rfl ?_ | refine EK.condT rfl ?_ | refine ER.load1 rfl rfl rfl (by assumption) ?_))
        have hi := idxOf_snoc hb
        refine ER.lenMap (v := (nums γ'.p.log ++ [b]).idxOf b) rfl rfl rfl hm (by rw [keyed_size hk, keysFrom_length, hi]) ?_
        (repeat (first | refine EK.region ?_ | refine ER.done ?_ | refine ER.move rfl rfl rfl ?_ | refine ER.assign rfl rfl rfl ?_ | refine ER.nilCheck rfl rfl rfl ?_ | refine ER.fieldAddr rfl rfl rfl ?_ | refine ER.load1 rfl rfl rfl (hcell_of (by assumption) rfl) ?_ | refine ER.load1 rfl rfl rfl (by assumption) ?_))
        refine ER.mapNew rfl rfl rfl rfl (by decide) hm ⟨_, _, cb⟩ hpl hk (by rw [pfind_keys, if_neg hb]) ?_
        refine ER.gen (fun h' => Mid X γ' i { γ'.p with prv := ut γ'.p.prv i L, val := ut γ'.p.val b (γ'.p.val b) } (nums γ'.p.log ++ [b]) x (accL i 3 (-1) arg new (γ'.p.val b) (γ'.p.val b) false) h') (by rw [hi]; exact m.mapNew hX hC hm hk) ?_
        clear m d1 hm hk hpl d0 hi cb
        rintro h5 m
        have hN := nums_neg (e := evOf i ⟨3, b, arg, new⟩ (γ'.p.val b)) hb
        have he : b ∈ nums γ'.p.log ++ [b] := by simp
        change nums (γ'.p.log ++ [evOf i ⟨3, b, arg, new⟩ (γ'.p.val b)]) = nums γ'.p.log ++ [b] at hN
        revert m hN he
        generalize nums γ'.p.log ++ [b] = NS
        intro m he hN
        have d0 := m.row
        rw [et] at d0
        (repeat (first | refine EK.seq ?_ | refine EK.region ?_ | refine ER.done ?_ | refine ER.move rfl rfl rfl ?_ | refine ER.fieldAddr rfl rfl rfl ?_))
        refine ER.store1 rfl rfl rfl ⟨nofun, nofun⟩ ⟨_, hcell_of m.lx rfl⟩ (hfroz_of m.lx) (m.still (.inl rfl)) ?_
        refine ER.gen (fun h' => Mid X γ' i { γ'.p with prv := ut γ'.p.prv i L, val := ut γ'.p.val b (γ'.p.val b) } NS x (accL i 3 (NS.idxOf b) arg new (γ'.p.val b) (γ'.p.val b) false) h') (by rw [hset_block m.lx]; exact m.setx hX _) ?_
        clear m d0
        rintro h6 m
        obtain ⟨s2, M2, g2, nx2⟩ := m.gi
        have d0 := m.row
        rw [et] at d0
        have d1 : h6[γ'.p.R]? = some (runO s2 γ'.p.mb γ'.p.stops) := g2.runAt
        have lx := m.lx
        (repeat (first | refine EK.seq ?_ | refine ER.done ?_))
        refine EK.regionAnyL (fun h' => hcell h' ⟨γ.p.tb i, 0, none⟩ = some (ptr γ'.p.R) ∧ hcell h' ⟨γ'.p.R, 2, none⟩ = some s2.L ∧ hrow h' x 0 (accL i 3 (NS.idxOf b) arg new (γ'.p.val b) (γ'.p.val b) false)) 16 ?_
        have lrow : hrow h6 x 0 (accL i 3 (NS.idxOf b) arg new (γ'.p.val b) (γ'.p.val b) false) := hrow_block (rest := []) (by rw [List.append_nil]; exact lx)
        have hZ := And.intro d0 (And.intro (hcell_of d1 rfl : hcell h6 ⟨γ'.p.R, 2, none⟩ = some s2.L) lrow)
        refine EA.tMove 0 rfl (by kernel_rfl) rfl rfl rfl rfl hZ ?_
        refine EA.tNil 1 rfl (by kernel_rfl) rfl rfl rfl rfl hZ ?_
        refine EA.tField 2 rfl (by kernel_rfl) rfl rfl rfl rfl hZ ?_
        refine EA.tLoad 3 rfl (by kernel_rfl) rfl rfl rfl rfl (fun _ hz => hz.1) hZ ?_
        refine EA.tMove 4 rfl (by kernel_rfl) rfl rfl rfl rfl hZ ?_
        refine EA.tNil 5 rfl (by kernel_rfl) rfl rfl rfl rfl hZ ?_
        refine EA.tField 6 rfl (by kernel_rfl) rfl rfl rfl rfl hZ ?_
        refine EA.tLoad 7 rfl (by kernel_rfl) rfl rfl rfl rfl (fun _ hz => hz.1) hZ ?_
        refine EA.tNil 8 rfl (by kernel_rfl) rfl rfl rfl rfl hZ ?_
        refine EA.tField 9 rfl (by kernel_rfl) rfl rfl rfl rfl hZ ?_
        refine EA.tLoad 10 rfl (by kernel_rfl) rfl rfl rfl rfl (fun _ hz => hz.2.1) hZ ?_
        refine EA.tLoadN (vs := accL i 3 (NS.idxOf b) arg new (γ'.p.val b) (γ'.p.val b) false) 11 rfl (by kernel_rfl) rfl rfl rfl rfl rfl (fun _ hz => hz.2.2) hZ ?_
        have hZ3 : _ ∧ _ ∧ _ := ⟨hcell_push (o := accO (accL i 3 (NS.idxOf b) arg new (γ'.p.val b) (γ'.p.val b) false)) hZ.1, hcell_push (o := accO (accL i 3 (NS.idxOf b) arg new (γ'.p.val b) (γ'.p.val b) false)) hZ.2.1, fun j v hj => hcell_push (o := accO (accL i 3 (NS.idxOf b) arg new (γ'.p.val b) (γ'.p.val b) false)) (hZ.2.2 j v hj)⟩
        refine EA.val (v := .slice (some ⟨h6.size, 0, none⟩) 1 1) (h' := h6.push (accO (accL i 3 (NS.idxOf b) arg new (γ'.p.val b) (γ'.p.val b) false))) 12 rfl (by kernel_rfl) rfl rfl rfl (fun ρ Q X hρ hq => sem_slice1 (z := .agg #[.int .i64 0, .int .i8 0, .int .i64 0, .int .i64 0, .int .i64 0, .int .i64 0, .int .i64 0, .bool false]) (sz := 8) hρ rfl (by omega) (by omega) rfl (fill_acc _ _ _ _ _ _ _ _) hq) hZ3 ?_
        have g3 := g2.upd0 (Upd.push h6 (accO (accL i 3 (NS.idxOf b) arg new (γ'.p.val b) (γ'.p.val b) false)))
        have hlen := hP.len hs
        have d3 := (Upd.push (T := fun _ => False) h6 (accO (accL i 3 (NS.idxOf b) arg new (γ'.p.val b) (γ'.p.val b) false))).get d1 (fun x => x)
        have lx3 := (Upd.push (T := fun _ => False) h6 (accO (accL i 3 (NS.idxOf b) arg new (γ'.p.val b) (γ'.p.val b) false))).get lx (fun x => x)
        have u3 := upd_then m.upd (Upd.push (T := fun _ => False) h6 (accO (accL i 3 (NS.idxOf b) arg new (γ'.p.val b) (γ'.p.val b) false))) (fun _ _ x => x.elim)
        have I3 := hX.loc _ _ _ (fun c hc => (Upd.push (T := fun _ => False) h6 (accO (accL i 3 (NS.idxOf b) arg new (γ'.p.val b) (γ'.p.val b) false))).2 c (g2.dom c hc).1 (fun x => x)) m.I
        have hlog : M2.Sl .log s2.L 75 8 γ'.p.log.length (γ'.p.log.flatMap (entL NS)) := g3.all .log
        have hrun := g3.all .run
        refine EA.append1 (new := accL i 3 (NS.idxOf b) arg new (γ'.p.val b) (γ'.p.val b) false) 13 rfl (by kernel_rfl) rfl rfl rfl rfl rfl (hlog.slice g3.rep) (get_push_new _ _) rfl (by simp [accL, OneCell]) (by omega) (by omega) rfl (fun c o hc => ?_) ?_
        · obtain ⟨hk, e⟩ := hlog.blk hc
          rw [e]; exact still_nm m.run m.lt g3 m.st hk (fun j => ⟨nofun, nofun⟩)
        intro s' h7 hs7 u7 hb7
        have nl : ∀ k, k ≠ .log → M2.ok k → ¬ blk s2.L = some (M2.B k) := fun k hk ok e => by
          obtain ⟨hk', e'⟩ := hlog.blk e
          exact g3.ne ok hk' hk e'
        have hti := g3.all (.t i) (by show i < γ'.p.num; exact hP.lt)
        have nti : ¬ blk s2.L = some (γ.p.tb i) := by rw [← et]; have := nl (.t i) nofun hti.1; rwa [hti.2.1] at this
        have nR : ¬ blk s2.L = some γ'.p.R := by have := nl .run nofun hrun.1; rwa [hrun.2.1] at this
        have nx3 : ¬ blk s2.L = some x := fun e => by
          obtain ⟨hk', e'⟩ := hlog.blk e
          exact nx2 _ hk' e'.symm
        have d7 := u7.get d3 nR
        have lx7 := u7.get lx3 nx3
        have hZ7 : hcell h7 ⟨γ.p.tb i, 0, none⟩ = some (ptr γ'.p.R) ∧ hcell h7 ⟨γ'.p.R, 2, none⟩ = some s2.L ∧ hrow h7 x 0 (accL i 3 (NS.idxOf b) arg new (γ'.p.val b) (γ'.p.val b) false) := ⟨u7.hcell hZ3.1 nti, hcell_of d7 rfl, fun j v hj => u7.hcell (hZ3.2.2 j v hj) nx3⟩
        refine ⟨hZ7, ?_⟩
        refine EA.val 14 rfl (by kernel_rfl) rfl rfl rfl (fun ρ Q X hρ hq => sem_nilCheck (hρ _ _ rfl) hq) hZ7 ?_
        have hZ := hZ7
        refine EA.tField 15 rfl (by kernel_rfl) rfl rfl rfl rfl hZ ?_
        have hbh : behind 3 (γ'.p.val b) arg new = (γ'.p.val b, false) := (by simp [behind, hc])
        have hent : entL NS (evOf i ⟨3, b, arg, new⟩ (γ'.p.val b)) = accL i 3 (NS.idxOf b) arg new (γ'.p.val b) (γ'.p.val b) false := by
          show accL _ _ _ _ _ _ (behind 3 (γ'.p.val b) arg new).1 (behind 3 (γ'.p.val b) arg new).2 = _
          rw [hbh]
          rfl
        obtain ⟨as7, ks7, es7⟩ := hs7.val
        have hOne : OneCell s' := by rw [es7]; exact ⟨nofun, nofun⟩
        rw [← hent] at hs7
        obtain ⟨M', g8⟩ := g3.logApp (e := evOf i ⟨3, b, arg, new⟩ (γ'.p.val b)) he hs7 u7 hb7 (fun c hc => .inr (Nat.le_trans u3.size hc))
        have I7 : X.I γ'.p.u h7 := hX.loc _ _ _ (fun c hc => u7.2 c (g3.dom c hc).1 (fun e => by
          obtain ⟨hk', e'⟩ := hlog.blk e
          exact (g3.apart _ hk').2 (by rw [← e']; exact hc))) I3
        have I8 : X.I γ'.p.u (h7.setIfInBounds γ'.p.R (runO { s2 with L := s' } γ'.p.mb γ'.p.stops)) := hX.loc _ _ _ (fun c hc => get_set_ne _ (fun e : γ'.p.R = c => (g3.apart _ hrun.1).2 (by rw [hrun.2.1]; show X.Dom γ'.p.u γ'.p.R; rw [e]; exact hc))) I7
        have u8 : Upd γ'.W γ'.base (h7.setIfInBounds γ'.p.R (runO { s2 with L := s' } γ'.p.mb γ'.p.stops)) := updW (upd_then u3 u7 (fun c hc e => by
          obtain ⟨hk', e'⟩ := hlog.blk e
          have := g3.wide _ hk'
          rw [← e'] at this
          exact this.resolve_right (by omega))) _ (by have := g3.wide _ hrun.1; rw [hrun.2.1] at this; exact this)
        have lx8 : (h7.setIfInBounds γ'.p.R (runO { s2 with L := s' } γ'.p.mb γ'.p.stops))[x]? = some (accO (accL i 3 (NS.idxOf b) arg new (γ'.p.val b) (γ'.p.val b) false)) := (get_set_ne _ (fun e : γ'.p.R = x => nx2 _ hrun.1 (hrun.2.1.trans e))).trans lx7
        refine EA.unitL (h' := h7.setIfInBounds γ'.p.R (runO { s2 with L := s' } γ'.p.mb γ'.p.stops)) 16 rfl (by kernel_rfl) rfl rfl rfl (fun ρ Q X hρ hq => sem_store1 (hρ _ _ rfl) (hρ _ _ rfl) hOne ⟨_, hcell_of d7 rfl⟩ (hfroz_of d7) (m.still (.inr (.inr (.inl rfl)))) (by rw [hset_block d7]; exact hq)) ?_
        refine EA.done (by kernel_rfl) ?_
        clear hZ hZ7 hZ3 u7 d7 lx7 I7 hs7 hb7 nl nti nR nx3 d3 lx3 u3 I3
        generalize h7.setIfInBounds γ'.p.R (runO { s2 with L := s' } γ'.p.mb γ'.p.stops) = h8 at g8 I8 u8 lx8 ⊢
        (repeat refine EK.seq ?_)
        refine EK.regionAny (fun h' => hrow h' x 0 (accL i 3 (NS.idxOf b) arg new (γ'.p.val b) (γ'.p.val b) false)) ?_
        have hZ : hrow h8 x 0 (accL i 3 (NS.idxOf b) arg new (γ'.p.val b) (γ'.p.val b) false) := hrow_block (rest := []) (by rw [List.append_nil]; exact lx8)
        refine EA.tField 0 rfl (by kernel_rfl) rfl rfl rfl rfl hZ ?_
        refine EA.tLoad 1 rfl (by kernel_rfl) rfl rfl rfl rfl (fun _ hz => hz 5 _ rfl) hZ ?_
        refine EA.tField 2 rfl (by kernel_rfl) rfl rfl rfl rfl hZ ?_
        refine EA.tLoad 3 rfl (by kernel_rfl) rfl rfl rfl rfl (fun _ hz => hz 6 _ rfl) hZ ?_
        refine EA.tField 4 rfl (by kernel_rfl) rfl rfl rfl rfl hZ ?_
        refine EA.tLoad 5 rfl (by kernel_rfl) rfl rfl rfl rfl (fun _ hz => hz 7 _ rfl) hZ ?_
        refine EA.tAssign 6 rfl (by kernel_rfl) rfl rfl rfl rfl hZ ?_
        refine EA.tAssign 7 rfl (by kernel_rfl) rfl rfl rfl rfl hZ ?_
        refine EA.tAssign 8 rfl (by kernel_rfl) rfl rfl rfl rfl hZ ?_
        refine EA.done (by kernel_rfl) ?_
        (repeat refine EK.ret ?_)
        refine EU.ret3 rfl rfl rfl rfl ⟨γ', rfl, thr_of hX hs hP hst ⟨{ s2 with L := s' }, M', ?_⟩ I8 u8, Stood.of hV, ?_⟩
        · show GI X _ { γ'.p with prv := ut γ'.p.prv i L, val := ut γ'.p.val b (behind 3 (γ'.p.val b) arg new).1, log := _ } _ _ _ _
          rw [hbh, hN]
          exact g8
        · show _ = Value.tuple #[.int .i64 (γ'.p.val b), .int .i64 (behind 3 (γ'.p.val b) arg new).1, .bool (behind 3 (γ'.p.val b) arg new).2]
          rw [hbh]
  · obtain rfl := h4 (by decide)
    refine CallW.start (n := 127) rfl rfl ?_
    (repeat (first | refine EK.seq ?_ | refine EK.region ?_ | refine ER.done ?_ | refine ER.move rfl rfl rfl ?_ | refine ER.assign rfl rfl rfl ?_))
    refine ER.callD rfl rfl rfl rfl rfl (live_ok c0 c13) ?_
    (repeat (first | refine EK.seq ?_ | refine EK.region ?_ | refine ER.done ?_ | refine EK.skip ?_ | refine ER.move rfl rfl rfl ?_ | refine ER.assign rfl rfl rfl ?_ | refine ER.nilCheck rfl rfl rfl ?_ | refine ER.fieldAddr rfl rfl rfl ?_ | refine ER.load1 rfl rfl rfl (hcell_of (by assumption) rfl) ?_ | refine ER.eqV rfl rfl rfl rfl rfl ?_ | refine ER.notB rfl rfl rfl ?_ | refine ER.pickF rfl rfl rfl rfl ?_ | refine ER.cmpT rfl rfl rfl rfl rfl (by first | (dsimp only [cmpP]; omega) | exact rfl | exact Int.le_refl _) ?_ | refine ER.cmpF rfl rfl rfl rfl rfl (by first | (dsimp only [cmpP]; omega) | exact rfl | exact Int.le_refl _) ?_ | refine EK.condT rfl ?_ | refine EK.condF rfl ?_))
    refine ER.buildS (cells := (rqL i ⟨4, b, arg, 0⟩).toArray) rfl rfl rfl rfl ?_
    (repeat refine ER.allocA rfl rfl ?_)
    refine ER.storeN (vs := rqL i ⟨4, b, arg, 0⟩) rfl rfl rfl rfl (by simp [rqL, accL, OneCell]) (fun j hj => ⟨?_, hfroz_of (get_push_new _ _), T.free (.inr (.inr (.inr (Nat.le_refl _))))⟩) ?_
    · have hj' : j < 8 := hj
      rcases (show j = 0 ∨ j = 1 ∨ j = 2 ∨ j = 3 ∨ j = 4 ∨ j = 5 ∨ j = 6 ∨ j = 7 by omega) with rfl | rfl | rfl | rfl | rfl | rfl | rfl | rfl <;> exact ⟨_, hcell_of (get_push_new _ _) rfl⟩
    rw [hsetRow_push (c := [.int .i64 0, .int .i8 0, .int .i64 0, .int .i64 0, .int .i64 0, .int .i64 0, .int .i64 0, .bool false]) (vs := rqL i ⟨4, b, arg, 0⟩) rfl]
    have T1 := T.alloc hX (accO (rqL i ⟨4, b, arg, 0⟩))
    have hx := T.lts
    (repeat (first | refine EK.seq ?_ | refine EK.region ?_ | refine ER.done ?_ | refine ER.move rfl rfl rfl ?_))
    refine ER.loadN (vs := rqL i ⟨4, b, arg, 0⟩) rfl rfl rfl rfl (hrow_block (rest := []) (by rw [List.append_nil]; exact get_push_new _ _)) ?_
    refine ER.callP rfl rfl rfl rfl rfl (stands_ok hX T1 hr hQ hJ) ?_ ?_
    · rintro ps h' δ' ⟨γ', rfl, hS, hV, rfl⟩
      exact ⟨γ', rfl, hS, Stood.of hV, rfl⟩
    rintro w h1 δ1 ⟨γ', rfl, hs, hV, hP⟩
    have m := Mid.of hX (fun q hq => Nat.ne_of_lt (hx q hq)) hs hV hP
    have et : γ'.p.tb i = γ.p.tb i := (Stood.of hV).tb
    have hst : γ'.p.st i = .stands ⟨4, b, arg, 0⟩ := (Stood.of hV).st
    generalize h.size = x at m hV ⊢
    have cb : h1[b]? = some (cellO (γ'.p.val b)) := m.cel hC
    (repeat (first | refine EK.seq ?_ | refine EK.region ?_ | refine ER.done ?_ | refine ER.move rfl rfl rfl ?_))
    refine ER.callD rfl rfl rfl rfl rfl (aload_ok (v := γ'.p.val b) (hcell_of cb rfl)) ?_
    (repeat refine ER.fieldAddr rfl rfl rfl ?_)
    refine ER.store1 rfl rfl rfl ⟨nofun, nofun⟩ ⟨_, hcell_of m.lx rfl⟩ (hfroz_of m.lx) (m.still (.inl rfl)) ?_
    refine ER.gen (fun h' => Mid X γ' i { γ'.p with prv := ut γ'.p.prv i L } (nums γ'.p.log) x (accL i 4 (-1) arg 0 (γ'.p.val b) 0 false) h') (by rw [hset_block m.lx]; exact m.setx hX _) ?_
    clear m cb
    rintro h2 m
    have cb : h2[b]? = some (cellO (γ'.p.val b)) := m.cel hC
    (repeat (first | refine EK.seq ?_ | refine EK.region ?_ | refine ER.done ?_ | refine EK.block ?_ | refine ER.move rfl rfl rfl ?_ | refine ER.assign rfl rfl rfl ?_ | refine ER.cmpT rfl rfl rfl rfl rfl (by first | (dsimp only [cmpP]; omega) | exact rfl | exact Int.le_refl _) ?_ | refine ER.cmpF rfl rfl rfl rfl rfl (by first | (dsimp only [cmpP]; omega) | exact rfl | exact Int.le_refl _) ?_ | refine EK.condT rfl ?_ | refine EK.condF rfl ?_))
    refine ER.callD rfl rfl rfl rfl rfl (aadd_ok (v := γ'.p.val b) (x := arg) (r := IntKind.i64.wrap (γ'.p.val b + arg)) rfl (hcell_of cb rfl) (hfroz_of cb) (m.still (.inr (.inl hC)))) ?_
    refine ER.gen (fun h' => Mid X γ' i { γ'.p with prv := ut γ'.p.prv i L, val := ut γ'.p.val b (IntKind.i64.wrap (γ'.p.val b + arg)) } (nums γ'.p.log) x (accL i 4 (-1) arg 0 (γ'.p.val b) 0 false) h') (by rw [cellO_set cb]; exact m.cell hX hC _) ?_
    clear m
    rintro h3 m
    (repeat (first | refine EK.seq ?_ | refine EK.region ?_ | refine ER.done ?_ | refine EK.inBlock ?_ | refine ER.move rfl rfl rfl ?_))
    clear cb
    have cb : h3[b]? = some (cellO (IntKind.i64.wrap (γ'.p.val b + arg))) := (m.cel hC).trans (congrArg (fun v => some (cellO v)) (ut_same _ _ _))
    skip
    refine ER.callD rfl rfl rfl rfl rfl (aload_ok (v := IntKind.i64.wrap (γ'.p.val b + arg)) (hcell_of cb rfl)) ?_
    (repeat refine ER.fieldAddr rfl rfl rfl ?_)
    refine ER.store1 rfl rfl rfl ⟨nofun, nofun⟩ ⟨_, hcell_of m.lx rfl⟩ (hfroz_of m.lx) (m.still (.inl rfl)) ?_
    refine ER.gen (fun h' => Mid X γ' i { γ'.p with prv := ut γ'.p.prv i L, val := ut γ'.p.val b (IntKind.i64.wrap (γ'.p.val b + arg)) } (nums γ'.p.log) x (accL i 4 (-1) arg 0 (γ'.p.val b) (IntKind.i64.wrap (γ'.p.val b + arg)) false) h') (by rw [hset_block m.lx]; exact m.setx hX _) ?_
    clear m cb
    rintro h4 m
    have cb : h4[b]? = some (cellO (IntKind.i64.wrap (γ'.p.val b + arg))) := (m.cel hC).trans (congrArg (fun v => some (cellO v)) (ut_same _ _ _))
    have d0 := m.row
    obtain ⟨s1, d1⟩ := m.runC
    rw [et] at d0
    obtain ⟨es, c', hm, hk, hpl⟩ := m.map
    (repeat (first | refine EK.seq ?_ | refine EK.region ?_ | refine ER.done ?_ | refine ER.move rfl rfl rfl ?_ | refine ER.nilCheck rfl rfl rfl ?_ | refine ER.fieldAddr rfl rfl rfl ?_ | refine ER.load1 rfl rfl rfl (hcell_of (by assumption) rfl) ?_ | refine ER.load1 rfl rfl rfl (by assumption) ?_))
    by_cases hb : b ∈ nums γ'.p.log
    · refine ER.lookupOk (v := .tuple #[.int .i64 ((nums γ'.p.log).idxOf b : Int), .bool true]) rfl rfl rfl rfl (by decide) hm ⟨_, _, cb⟩ hpl hk (by rw [pfind_keys, if_pos hb]; simp) ?_
      clear d1 hm hk hpl
      (repeat (first | refine EK.seq ?_ | refine EK.region ?_ | refine ER.done ?_ | refine EK.skip ?_ | refine ER.move rfl rfl rfl ?_ | refine ER.assign rfl rfl rfl ?_ | refine ER.fieldAddr rfl rfl rfl ?_ | refine ER.notB rfl rfl rfl ?_ | refine ER.extract rfl rfl rfl rfl ?_ | refine EK.condF rfl ?_))
      have hN := nums_pos (e := evOf i ⟨4, b, arg, 0⟩ (γ'.p.val b)) hb
      have he := hb
      revert m hN he
      generalize h4 = h5, eNS : nums γ'.p.log = NS
      intro m hN he
      clear cb eNS
      refine ER.store1 rfl rfl rfl ⟨nofun, nofun⟩ ⟨_, hcell_of m.lx rfl⟩ (hfroz_of m.lx) (m.still (.inl rfl)) ?_
      refine ER.gen (fun h' => Mid X γ' i { γ'.p with prv := ut γ'.p.prv i L, val := ut γ'.p.val b (IntKind.i64.wrap (γ'.p.val b + arg)) } NS x (accL i 4 (NS.idxOf b) arg 0 (γ'.p.val b) (IntKind.i64.wrap (γ'.p.val b + arg)) false) h') (by rw [hset_block m.lx]; exact m.setx hX _) ?_
      clear m d0
      rintro h6 m
      obtain ⟨s2, M2, g2, nx2⟩ := m.gi
      have d0 := m.row
      rw [et] at d0
      have d1 : h6[γ'.p.R]? = some (runO s2 γ'.p.mb γ'.p.stops) := g2.runAt
      have lx := m.lx
      (repeat (first | refine EK.seq ?_ | refine ER.done ?_))
      refine EK.regionAnyL (fun h' => hcell h' ⟨γ.p.tb i, 0, none⟩ = some (ptr γ'.p.R) ∧ hcell h' ⟨γ'.p.R, 2, none⟩ = some s2.L ∧ hrow h' x 0 (accL i 4 (NS.idxOf b) arg 0 (γ'.p.val b) (IntKind.i64.wrap (γ'.p.val b + arg)) false)) 16 ?_
      have lrow : hrow h6 x 0 (accL i 4 (NS.idxOf b) arg 0 (γ'.p.val b) (IntKind.i64.wrap (γ'.p.val b + arg)) false) := hrow_block (rest := []) (by rw [List.append_nil]; exact lx)
      have hZ := And.intro d0 (And.intro (hcell_of d1 rfl : hcell h6 ⟨γ'.p.R, 2, none⟩ = some s2.L) lrow)
      refine EA.tMove 0 rfl (by kernel_rfl) rfl rfl rfl rfl hZ ?_
      refine EA.tNil 1 rfl (by kernel_rfl) rfl rfl rfl rfl hZ ?_
      refine EA.tField 2 rfl (by kernel_rfl) rfl rfl rfl rfl hZ ?_
      refine EA.tLoad 3 rfl (by kernel_rfl) rfl rfl rfl rfl (fun _ hz => hz.1) hZ ?_
      refine EA.tMove 4 rfl (by kernel_rfl) rfl rfl rfl rfl hZ ?_
      refine EA.tNil 5 rfl (by kernel_rfl) rfl rfl rfl rfl hZ ?_
      refine EA.tField 6 rfl (by kernel_rfl) rfl rfl rfl rfl hZ ?_
      refine EA.tLoad 7 rfl (by kernel_rfl) rfl rfl rfl rfl (fun _ hz => hz.1) hZ ?_
      refine EA.tNil 8 rfl (by kernel_rfl) rfl rfl rfl rfl hZ ?_
      refine EA.tField 9 rfl (by kernel_rfl) rfl rfl rfl rfl hZ ?_
      refine EA.tLoad 10 rfl (by kernel_rfl) rfl rfl rfl rfl (fun _ hz => hz.2.1) hZ ?_
      refine EA.tLoadN (vs := accL i 4 (NS.idxOf b) arg 0 (γ'.p.val b) (IntKind.i64.wrap (γ'.p.val b + arg)) false) 11 rfl (by kernel_rfl) rfl rfl rfl rfl rfl (fun _ hz => hz.2.2) hZ ?_
      have hZ3 : _ ∧ _ ∧ _ := ⟨hcell_push (o := accO (accL i 4 (NS.idxOf b) arg 0 (γ'.p.val b) (IntKind.i64.wrap (γ'.p.val b + arg)) false)) hZ.1, hcell_push (o := accO (accL i 4 (NS.idxOf b) arg 0 (γ'.p.val b) (IntKind.i64.wrap (γ'.p.val b + arg)) false)) hZ.2.1, fun j v hj => hcell_push (o := accO (accL i 4 (NS.idxOf b) arg 0 (γ'.p.val b) (IntKind.i64.wrap (γ'.p.val b + arg)) false)) (hZ.2.2 j v hj)⟩
      refine EA.val (v := .slice (some ⟨h6.size, 0, none⟩) 1 1) (h' := h6.push (accO (accL i 4 (NS.idxOf b) arg 0 (γ'.p.val b) (IntKind.i64.wrap (γ'.p.val b + arg)) false))) 12 rfl (by kernel_rfl) rfl rfl rfl (fun ρ Q X hρ hq => sem_slice1 (z := .agg #[.int .i64 0, .int .i8 0, .int .i64 0, .int .i64 0, .int .i64 0, .int .i64 0, .int .i64 0, .bool false]) (sz := 8) hρ rfl (by omega) (by omega) rfl (fill_acc _ _ _ _ _ _ _ _) hq) hZ3 ?_
      have g3 := g2.upd0 (Upd.push h6 (accO (accL i 4 (NS.idxOf b) arg 0 (γ'.p.val b) (IntKind.i64.wrap (γ'.p.val b + arg)) false)))
      have hlen := hP.len hs
      have d3 := (Upd.push (T := fun _ => False) h6 (accO (accL i 4 (NS.idxOf b) arg 0 (γ'.p.val b) (IntKind.i64.wrap (γ'.p.val b + arg)) false))).get d1 (fun x => x)
      have lx3 := (Upd.push (T := fun _ => False) h6 (accO (accL i 4 (NS.idxOf b) arg 0 (γ'.p.val b) (IntKind.i64.wrap (γ'.p.val b + arg)) false))).get lx (fun x => x)
      have u3 := upd_then m.upd (Upd.push (T := fun _ => False) h6 (accO (accL i 4 (NS.idxOf b) arg 0 (γ'.p.val b) (IntKind.i64.wrap (γ'.p.val b + arg)) false))) (fun _ _ x => x.elim)
      have I3 := hX.loc _ _ _ (fun c hc => (Upd.push (T := fun _ => False) h6 (accO (accL i 4 (NS.idxOf b) arg 0 (γ'.p.val b) (IntKind.i64.wrap (γ'.p.val b + arg)) false))).2 c (g2.dom c hc).1 (fun x => x)) m.I
      have hlog : M2.Sl .log s2.L 75 8 γ'.p.log.length (γ'.p.log.flatMap (entL NS)) := g3.all .log
      have hrun := g3.all .run
      refine EA.append1 (new := accL i 4 (NS.idxOf b) arg 0 (γ'.p.val b) (IntKind.i64.wrap (γ'.p.val b + arg)) false) 13 rfl (by kernel_rfl) rfl rfl rfl rfl rfl (hlog.slice g3.rep) (get_push_new _ _) rfl (by simp [accL, OneCell]) (by omega) (by omega) rfl (fun c o hc => ?_) ?_
      · obtain ⟨hk, e⟩ := hlog.blk hc
        rw [e]; exact still_nm m.run m.lt g3 m.st hk (fun j => ⟨nofun, nofun⟩)
      intro s' h7 hs7 u7 hb7
      have nl : ∀ k, k ≠ .log → M2.ok k → ¬ blk s2.L = some (M2.B k) := fun k hk ok e => by
        obtain ⟨hk', e'⟩ := hlog.blk e
        exact g3.ne ok hk' hk e'
      have hti := g3.all (.t i) (by show i < γ'.p.num; exact hP.lt)
      have nti : ¬ blk s2.L = some (γ.p.tb i) := by rw [← et]; have := nl (.t i) nofun hti.1; rwa [hti.2.1] at this
      have nR : ¬ blk s2.L = some γ'.p.R := by have := nl .run nofun hrun.1; rwa [hrun.2.1] at this
      have nx3 : ¬ blk s2.L = some x := fun e => by
        obtain ⟨hk', e'⟩ := hlog.blk e
        exact nx2 _ hk' e'.symm
      have d7 := u7.get d3 nR
      have lx7 := u7.get lx3 nx3
      have hZ7 : hcell h7 ⟨γ.p.tb i, 0, none⟩ = some (ptr γ'.p.R) ∧ hcell h7 ⟨γ'.p.R, 2, none⟩ = some s2.L ∧ hrow h7 x 0 (accL i 4 (NS.idxOf b) arg 0 (γ'.p.val b) (IntKind.i64.wrap (γ'.p.val b + arg)) false) := ⟨u7.hcell hZ3.1 nti, hcell_of d7 rfl, fun j v hj => u7.hcell (hZ3.2.2 j v hj) nx3⟩
      refine ⟨hZ7, ?_⟩
      refine EA.val 14 rfl (by kernel_rfl) rfl rfl rfl (fun ρ Q X hρ hq => sem_nilCheck (hρ _ _ rfl) hq) hZ7 ?_
      have hZ := hZ7
      refine EA.tField 15 rfl (by kernel_rfl) rfl rfl rfl rfl hZ ?_
      have hbh : behind 4 (γ'.p.val b) arg 0 = (IntKind.i64.wrap (γ'.p.val b + arg), false) := rfl
      have hent : entL NS (evOf i ⟨4, b, arg, 0⟩ (γ'.p.val b)) = accL i 4 (NS.idxOf b) arg 0 (γ'.p.val b) (IntKind.i64.wrap (γ'.p.val b + arg)) false := by
        show accL _ _ _ _ _ _ (behind 4 (γ'.p.val b) arg 0).1 (behind 4 (γ'.p.val b) arg 0).2 = _
        rw [hbh]
        rfl
      obtain ⟨as7, ks7, es7⟩ := hs7.val
      have hOne : OneCell s' := by rw [es7]; exact ⟨nofun, nofun⟩
      rw [← hent] at hs7
      obtain ⟨M', g8⟩ := g3.logApp (e := evOf i ⟨4, b, arg, 0⟩ (γ'.p.val b)) he hs7 u7 hb7 (fun c hc => .inr (Nat.le_trans u3.size hc))
      have I7 : X.I γ'.p.u h7 := hX.loc _ _ _ (fun c hc => u7.2 c (g3.dom c hc).1 (fun e => by
        obtain ⟨hk', e'⟩ := hlog.blk e
        exact (g3.apart _ hk').2 (by rw [← e']; exact hc))) I3
      have I8 : X.I γ'.p.u (h7.setIfInBounds γ'.p.R (runO { s2 with L := s' } γ'.p.mb γ'.p.stops)) := hX.loc _ _ _ (fun c hc => get_set_ne _ (fun e : γ'.p.R = c => (g3.apart _ hrun.1).2 (by rw [hrun.2.1]; show X.Dom γ'.p.u γ'.p.R; rw [e]; exact hc))) I7
      have u8 : Upd γ'.W γ'.base (h7.setIfInBounds γ'.p.R (runO { s2 with L := s' } γ'.p.mb γ'.p.stops)) := updW (upd_then u3 u7 (fun c hc e => by
        obtain ⟨hk', e'⟩ := hlog.blk e
        have := g3.wide _ hk'
        rw [← e'] at this
        exact this.resolve_right (by omega))) _ (by have := g3.wide _ hrun.1; rw [hrun.2.1] at this; exact this)
      have lx8 : (h7.setIfInBounds γ'.p.R (runO { s2 with L := s' } γ'.p.mb γ'.p.stops))[x]? = some (accO (accL i 4 (NS.idxOf b) arg 0 (γ'.p.val b) (IntKind.i64.wrap (γ'.p.val b + arg)) false)) := (get_set_ne _ (fun e : γ'.p.R = x => nx2 _ hrun.1 (hrun.2.1.trans e))).trans lx7
      refine EA.unitL (h' := h7.setIfInBounds γ'.p.R (runO { s2 with L := s' } γ'.p.mb γ'.p.stops)) 16 rfl (by kernel_rfl) rfl rfl rfl (fun ρ Q X hρ hq => sem_store1 (hρ _ _ rfl) (hρ _ _ rfl) hOne ⟨_, hcell_of d7 rfl⟩ (hfroz_of d7) (m.still (.inr (.inr (.inl rfl)))) (by rw [hset_block d7]; exact hq)) ?_
      refine EA.done (by kernel_rfl) ?_
      clear hZ hZ7 hZ3 u7 d7 lx7 I7 hs7 hb7 nl nti nR nx3 d3 lx3 u3 I3
      generalize h7.setIfInBounds γ'.p.R (runO { s2 with L := s' } γ'.p.mb γ'.p.stops) = h8 at g8 I8 u8 lx8 ⊢
      (repeat refine EK.seq ?_)
      refine EK.regionAny (fun h' => hrow h' x 0 (accL i 4 (NS.idxOf b) arg 0 (γ'.p.val b) (IntKind.i64.wrap (γ'.p.val b + arg)) false)) ?_
      have hZ : hrow h8 x 0 (accL i 4 (NS.idxOf b) arg 0 (γ'.p.val b) (IntKind.i64.wrap (γ'.p.val b + arg)) false) := hrow_block (rest := []) (by rw [List.append_nil]; exact lx8)
      refine EA.tField 0 rfl (by kernel_rfl) rfl rfl rfl rfl hZ ?_
      refine EA.tLoad 1 rfl (by kernel_rfl) rfl rfl rfl rfl (fun _ hz => hz 5 _ rfl) hZ ?_
      refine EA.tField 2 rfl (by kernel_rfl) rfl rfl rfl rfl hZ ?_
      refine EA.tLoad 3 rfl (by kernel_rfl) rfl rfl rfl rfl (fun _ hz => hz 6 _ rfl) hZ ?_
      refine EA.tField 4 rfl (by kernel_rfl) rfl rfl rfl rfl hZ ?_
      refine EA.tLoad 5 rfl (by kernel_rfl) rfl rfl rfl rfl (fun _ hz => hz 7 _ rfl) hZ ?_
      refine EA.tAssign 6 rfl (by kernel_rfl) rfl rfl rfl rfl hZ ?_
      refine EA.tAssign 7 rfl (by kernel_rfl) rfl rfl rfl rfl hZ ?_
      refine EA.tAssign 8 rfl (by kernel_rfl) rfl rfl rfl rfl hZ ?_
      refine EA.done (by kernel_rfl) ?_
      (repeat refine EK.ret ?_)
      refine EU.ret3 rfl rfl rfl rfl ⟨γ', rfl, thr_of hX hs hP hst ⟨{ s2 with L := s' }, M', ?_⟩ I8 u8, Stood.of hV, ?_⟩
      · show GI X _ { γ'.p with prv := ut γ'.p.prv i L, val := ut γ'.p.val b (behind 4 (γ'.p.val b) arg 0).1, log := _ } _ _ _ _
        rw [hbh, hN]
        exact g8
      · show _ = Value.tuple #[.int .i64 (γ'.p.val b), .int .i64 (behind 4 (γ'.p.val b) arg 0).1, .bool (behind 4 (γ'.p.val b) arg 0).2]
        rw [hbh]
    · refine ER.lookupOk (v := .tuple #[.int .i64 0, .bool false]) rfl rfl rfl rfl (by decide) hm ⟨_, _, cb⟩ hpl hk (by rw [pfind_keys, if_neg hb]) ?_
      (repeat (first | refine EK.seq ?_ | refine EK.region ?_ | refine ER.done ?_ | refine ER.move rfl rfl rfl ?_ | refine ER.assign rfl rfl rfl ?_ | refine ER.nilCheck rfl rfl rfl ?_ | refine ER.fieldAddr rfl rfl rfl ?_ | refine ER.load1 rfl rfl rfl (hcell_of (by assumption) rfl) ?_ | refine ER.notB rfl rfl rfl ?_ | refine ER.extract rfl rfl rfl rfl ?_ | refine EK.condT rfl ?_ | refine ER.load1 rfl rfl rfl (by assumption) ?_))
      have hi := idxOf_snoc hb
      refine ER.lenMap (v := (nums γ'.p.log ++ [b]).idxOf b) rfl rfl rfl hm (by rw [keyed_size hk, keysFrom_length, hi]) ?_
      (repeat (first | refine EK.region ?_ | refine ER.done ?_ | refine ER.move rfl rfl rfl ?_ | refine ER.assign rfl rfl rfl ?_ | refine ER.nilCheck rfl rfl rfl ?_ | refine ER.fieldAddr rfl rfl rfl ?_ | refine ER.load1 rfl rfl rfl (hcell_of (by assumption) rfl) ?_ | refine ER.load1 rfl rfl rfl (by assumption) ?_))
      refine ER.mapNew rfl rfl rfl rfl (by decide) hm ⟨_, _, cb⟩ hpl hk (by rw [pfind_keys, if_neg hb]) ?_
      refine ER.gen (fun h' => Mid X γ' i { γ'.p with prv := ut γ'.p.prv i L, val := ut γ'.p.val b (IntKind.i64.wrap (γ'.p.val b + arg)) } (nums γ'.p.log ++ [b]) x (accL i 4 (-1) arg 0 (γ'.p.val b) (IntKind.i64.wrap (γ'.p.val b + arg)) false) h') (by rw [hi]; exact m.mapNew hX hC hm hk) ?_
      clear m d1 hm hk hpl d0 hi cb
      rintro h5 m
      have hN := nums_neg (e := evOf i ⟨4, b, arg, 0⟩ (γ'.p.val b)) hb
      have he : b ∈ nums γ'.p.log ++ [b] := by simp
      change nums (γ'.p.log ++ [evOf i ⟨4, b, arg, 0⟩ (γ'.p.val b)]) = nums γ'.p.log ++ [b] at hN
      revert m hN he
      generalize nums γ'.p.log ++ [b] = NS
      intro m he hN
      have d0 := m.row
      rw [et] at d0
      (repeat (first | refine EK.seq ?_ | refine EK.region ?_ | refine ER.done ?_ | refine ER.move rfl rfl rfl ?_ | refine ER.fieldAddr rfl rfl rfl ?_))
      refine ER.store1 rfl rfl rfl ⟨nofun, nofun⟩ ⟨_, hcell_of m.lx rfl⟩ (hfroz_of m.lx) (m.still (.inl rfl)) ?_
      refine ER.gen (fun h' => Mid X γ' i { γ'.p with prv := ut γ'.p.prv i L, val := ut γ'.p.val b (IntKind.i64.wrap (γ'.p.val b + arg)) } NS x (accL i 4 (NS.idxOf b) arg 0 (γ'.p.val b) (IntKind.i64.wrap (γ'.p.val b + arg)) false) h') (by rw [hset_block m.lx]; exact m.setx hX _) ?_
      clear m d0
      rintro h6 m
      obtain ⟨s2, M2, g2, nx2⟩ := m.gi
      have d0 := m.row
      rw [et] at d0
      have d1 : h6[γ'.p.R]? = some (runO s2 γ'.p.mb γ'.p.stops) := g2.runAt
      have lx := m.lx
      (repeat (first | refine EK.seq ?_ | refine ER.done ?_))
      refine EK.regionAnyL (fun h' => hcell h' ⟨γ.p.tb i, 0, none⟩ = some (ptr γ'.p.R) ∧ hcell h' ⟨γ'.p.R, 2, none⟩ = some s2.L ∧ hrow h' x 0 (accL i 4 (NS.idxOf b) arg 0 (γ'.p.val b) (IntKind.i64.wrap (γ'.p.val b + arg)) false)) 16 ?_
      have lrow : hrow h6 x 0 (accL i 4 (NS.idxOf b) arg 0 (γ'.p.val b) (IntKind.i64.wrap (γ'.p.val b + arg)) false) := hrow_block (rest := []) (by rw [List.append_nil]; exact lx)
      have hZ := And.intro d0 (And.intro (hcell_of d1 rfl : hcell h6 ⟨γ'.p.R, 2, none⟩ = some s2.L) lrow)
      refine EA.tMove 0 rfl (by kernel_rfl) rfl rfl rfl rfl hZ ?_
      refine EA.tNil 1 rfl (by kernel_rfl) rfl rfl rfl rfl hZ ?_
      refine EA.tField 2 rfl (by kernel_rfl) rfl rfl rfl rfl hZ ?_
      refine EA.tLoad 3 rfl (by kernel_rfl) rfl rfl rfl rfl (fun _ hz => hz.1) hZ ?_
      refine EA.tMove 4 rfl (by kernel_rfl) rfl rfl rfl rfl hZ ?_
      refine EA.tNil 5 rfl (by kernel_rfl) rfl rfl rfl rfl hZ ?_
      refine EA.tField 6 rfl (by kernel_rfl) rfl rfl rfl rfl hZ ?_
      refine EA.tLoad 7 rfl (by kernel_rfl) rfl rfl rfl rfl (fun _ hz => hz.1) hZ ?_
      refine EA.tNil 8 rfl (by kernel_rfl) rfl rfl rfl rfl hZ ?_
      refine EA.tField 9 rfl (by kernel_rfl) rfl rfl rfl rfl hZ ?_
      refine EA.tLoad 10 rfl (by kernel_rfl) rfl rfl rfl rfl (fun _ hz => hz.2.1) hZ ?_
      refine EA.tLoadN (vs := accL i 4 (NS.idxOf b) arg 0 (γ'.p.val b) (IntKind.i64.wrap (γ'.p.val b + arg)) false) 11 rfl (by kernel_rfl) rfl rfl rfl rfl rfl (fun _ hz => hz.2.2) hZ ?_
      have hZ3 : _ ∧ _ ∧ _ := ⟨hcell_push (o := accO (accL i 4 (NS.idxOf b) arg 0 (γ'.p.val b) (IntKind.i64.wrap (γ'.p.val b + arg)) false)) hZ.1, hcell_push (o := accO (accL i 4 (NS.idxOf b) arg 0 (γ'.p.val b) (IntKind.i64.wrap (γ'.p.val b + arg)) false)) hZ.2.1, fun j v hj => hcell_push (o := accO (accL i 4 (NS.idxOf b) arg 0 (γ'.p.val b) (IntKind.i64.wrap (γ'.p.val b + arg)) false)) (hZ.2.2 j v hj)⟩
      refine EA.val (v := .slice (some ⟨h6.size, 0, none⟩) 1 1) (h' := h6.push (accO (accL i 4 (NS.idxOf b) arg 0 (γ'.p.val b) (IntKind.i64.wrap (γ'.p.val b + arg)) false))) 12 rfl (by kernel_rfl) rfl rfl rfl (fun ρ Q X hρ hq => sem_slice1 (z := .agg #[.int .i64 0, .int .i8 0, .int .i64 0, .int .i64 0, .int .i64 0, .int .i64 0, .int .i64 0, .bool false]) (sz := 8) hρ rfl (by omega) (by omega) rfl (fill_acc _ _ _ _ _ _ _ _) hq) hZ3 ?_
      have g3 := g2.upd0 (Upd.push h6 (accO (accL i 4 (NS.idxOf b) arg 0 (γ'.p.val b) (IntKind.i64.wrap (γ'.p.val b + arg)) false)))
      have hlen := hP.len hs
      have d3 := (Upd.push (T := fun _ => False) h6 (accO (accL i 4 (NS.idxOf b) arg 0 (γ'.p.val b) (IntKind.i64.wrap (γ'.p.val b + arg)) false))).get d1 (fun x => x)
      have lx3 := (Upd.push (T := fun _ => False) h6 (accO (accL i 4 (NS.idxOf b) arg 0 (γ'.p.val b) (IntKind.i64.wrap (γ'.p.val b + arg)) false))).get lx (fun x => x)
      have u3 := upd_then m.upd (Upd.push (T := fun _ => False) h6 (accO (accL i 4 (NS.idxOf b) arg 0 (γ'.p.val b) (IntKind.i64.wrap (γ'.p.val b + arg)) false))) (fun _ _ x => x.elim)
      have I3 := hX.loc _ _ _ (fun c hc => (Upd.push (T := fun _ => False) h6 (accO (accL i 4 (NS.idxOf b) arg 0 (γ'.p.val b) (IntKind.i64.wrap (γ'.p.val b + arg)) false))).2 c (g2.dom c hc).1 (fun x => x)) m.I
      have hlog : M2.Sl .log s2.L 75 8 γ'.p.log.length (γ'.p.log.flatMap (entL NS)) := g3.all .log
      have hrun := g3.all .run
      refine EA.append1 (new := accL i 4 (NS.idxOf b) arg 0 (γ'.p.val b) (IntKind.i64.wrap (γ'.p.val b + arg)) false) 13 rfl (by kernel_rfl) rfl rfl rfl rfl rfl (hlog.slice g3.rep) (get_push_new _ _) rfl (by simp [accL, OneCell]) (by omega) (by omega) rfl (fun c o hc => ?_) ?_
      · obtain ⟨hk, e⟩ := hlog.blk hc
        rw [e]; exact still_nm m.run m.lt g3 m.st hk (fun j => ⟨nofun, nofun⟩)
      intro s' h7 hs7 u7 hb7
      have nl : ∀ k, k ≠ .log → M2.ok k → ¬ blk s2.L = some (M2.B k) := fun k hk ok e => by
        obtain ⟨hk', e'⟩ := hlog.blk e
        exact g3.ne ok hk' hk e'
      have hti := g3.all (.t i) (by show i < γ'.p.num; exact hP.lt)
      have nti : ¬ blk s2.L = some (γ.p.tb i) := by rw [← et]; have := nl (.t i) nofun hti.1; rwa [hti.2.1] at this
      have nR : ¬ blk s2.L = some γ'.p.R := by have := nl .run nofun hrun.1; rwa [hrun.2.1] at this
      have nx3 : ¬ blk s2.L = some x := fun e => by
        obtain ⟨hk', e'⟩ := hlog.blk e
        exact nx2 _ hk' e'.symm
      have d7 := u7.get d3 nR
      have lx7 := u7.get lx3 nx3
      have hZ7 : hcell h7 ⟨γ.p.tb i, 0, none⟩ = some (ptr γ'.p.R) ∧ hcell h7 ⟨γ'.p.R, 2, none⟩ = some s2.L ∧ hrow h7 x 0 (accL i 4 (NS.idxOf b) arg 0 (γ'.p.val b) (IntKind.i64.wrap (γ'.p.val b + arg)) false) := ⟨u7.hcell hZ3.1 nti, hcell_of d7 rfl, fun j v hj => u7.hcell (hZ3.2.2 j v hj) nx3⟩
      refine ⟨hZ7, ?_⟩
      refine EA.val 14 rfl (by kernel_rfl) rfl rfl rfl (fun ρ Q X hρ hq => sem_nilCheck (hρ _ _ rfl) hq) hZ7 ?_
      have hZ := hZ7
      refine EA.tField 15 rfl (by kernel_rfl) rfl rfl rfl rfl hZ ?_
      have hbh : behind 4 (γ'.p.val b) arg 0 = (IntKind.i64.wrap (γ'.p.val b + arg), false) := rfl
      have hent : entL NS (evOf i ⟨4, b, arg, 0⟩ (γ'.p.val b)) = accL i 4 (NS.idxOf b) arg 0 (γ'.p.val b) (IntKind.i64.wrap (γ'.p.val b + arg)) false := by
        show accL _ _ _ _ _ _ (behind 4 (γ'.p.val b) arg 0).1 (behind 4 (γ'.p.val b) arg 0).2 = _
        rw [hbh]
        rfl
      obtain ⟨as7, ks7, es7⟩ := hs7.val
      have hOne : OneCell s' := by rw [es7]; exact ⟨nofun, nofun⟩
      rw [← hent] at hs7
      obtain ⟨M', g8⟩ := g3.logApp (e := evOf i ⟨4, b, arg, 0⟩ (γ'.p.val b)) he hs7 u7 hb7 (fun c hc => .inr (Nat.le_trans u3.size hc))
      have I7 : X.I γ'.p.u h7 := hX.loc _ _ _ (fun c hc => u7.2 c (g3.dom c hc).1 (fun e => by
        obtain ⟨hk', e'⟩ := hlog.blk e
        exact (g3.apart _ hk').2 (by rw [← e']; exact hc))) I3
      have I8 : X.I γ'.p.u (h7.setIfInBounds γ'.p.R (runO { s2 with L := s' } γ'.p.mb γ'.p.stops)) := hX.loc _ _ _ (fun c hc => get_set_ne _ (fun e : γ'.p.R = c => (g3.apart _ hrun.1).2 (by rw [hrun.2.1]; show X.Dom γ'.p.u γ'.p.R; rw [e]; exact hc))) I7
      have u8 : Upd γ'.W γ'.base (h7.setIfInBounds γ'.p.R (runO { s2 with L := s' } γ'.p.mb γ'.p.stops)) := updW (upd_then u3 u7 (fun c hc e => by
        obtain ⟨hk', e'⟩ := hlog.blk e
        have := g3.wide _ hk'
        rw [← e'] at this
        exact this.resolve_right (by omega))) _ (by have := g3.wide _ hrun.1; rw [hrun.2.1] at this; exact this)
      have lx8 : (h7.setIfInBounds γ'.p.R (runO { s2 with L := s' } γ'.p.mb γ'.p.stops))[x]? = some (accO (accL i 4 (NS.idxOf b) arg 0 (γ'.p.val b) (IntKind.i64.wrap (γ'.p.val b + arg)) false)) := (get_set_ne _ (fun e : γ'.p.R = x => nx2 _ hrun.1 (hrun.2.1.trans e))).trans lx7
      refine EA.unitL (h' := h7.setIfInBounds γ'.p.R (runO { s2 with L := s' } γ'.p.mb γ'.p.stops)) 16 rfl (by kernel_rfl) rfl rfl rfl (fun ρ Q X hρ hq => sem_store1 (hρ _ _ rfl) (hρ _ _ rfl) hOne ⟨_, hcell_of d7 rfl⟩ (hfroz_of d7) (m.still (.inr (.inr (.inl rfl)))) (by rw [hset_block d7]; exact hq)) ?_
      refine EA.done (by kernel_rfl) ?_
      clear hZ hZ7 hZ3 u7 d7 lx7 I7 hs7 hb7 nl nti nR nx3 d3 lx3 u3 I3
      generalize h7.setIfInBounds γ'.p.R (runO { s2 with L := s' } γ'.p.mb γ'.p.stops) = h8 at g8 I8 u8 lx8 ⊢
      (repeat refine EK.seq ?_)
      refine EK.regionAny (fun h' => hrow h' x 0 (accL i 4 (NS.idxOf b) arg 0 (γ'.p.val b) (IntKind.i64.wrap (γ'.p.val b + arg)) false)) ?_
      have hZ : hrow h8 x 0 (accL i 4 (NS.idxOf b) arg 0 (γ'.p.val b) (IntKind.i64.wrap (γ'.p.val b + arg)) false) := hrow_block (rest := []) (by rw [List.append_nil]; exact lx8)
      refine EA.tField 0 rfl (by kernel_rfl) rfl rfl rfl rfl hZ ?_
      refine EA.tLoad 1 rfl (by kernel_rfl) rfl rfl rfl rfl (fun _ hz => hz 5 _ rfl) hZ ?_
      refine EA.tField 2 rfl (by kernel_rfl) rfl rfl rfl rfl hZ ?_
      refine EA.tLoad 3 rfl (by kernel_rfl) rfl rfl rfl rfl (fun _ hz => hz 6 _ rfl) hZ ?_
      refine EA.tField 4 rfl (by kernel_rfl) rfl rfl rfl rfl hZ ?_
      refine EA.tLoad 5 rfl (by kernel_rfl) rfl rfl rfl rfl (fun _ hz => hz 7 _ rfl) hZ ?_
      refine EA.tAssign 6 rfl (by kernel_rfl) rfl rfl rfl rfl hZ ?_
      refine EA.tAssign 7 rfl (by kernel_rfl) rfl rfl rfl rfl hZ ?_
      refine EA.tAssign 8 rfl (by kernel_rfl) rfl rfl rfl rfl hZ ?_
      refine EA.done (by kernel_rfl) ?_
      (repeat refine EK.ret ?_)
      refine EU.ret3 rfl rfl rfl rfl ⟨γ', rfl, thr_of hX hs hP hst ⟨{ s2 with L := s' }, M', ?_⟩ I8 u8, Stood.of hV, ?_⟩
      · show GI X _ { γ'.p with prv := ut γ'.p.prv i L, val := ut γ'.p.val b (behind 4 (γ'.p.val b) arg 0).1, log := _ } _ _ _ _
        rw [hbh, hN]
        exact g8
      · show _ = Value.tuple #[.int .i64 (γ'.p.val b), .int .i64 (behind 4 (γ'.p.val b) arg 0).1, .bool (behind 4 (γ'.p.val b) arg 0).2]
        rw [hbh]
  · obtain rfl := h4 (by decide)
    refine CallW.start (n := 127) rfl rfl ?_
    (repeat (first | refine EK.seq ?_ | refine EK.region ?_ | refine ER.done ?_ | refine ER.move rfl rfl rfl ?_ | refine ER.assign rfl rfl rfl ?_))
    refine ER.callD rfl rfl rfl rfl rfl (live_ok c0 c13) ?_
    (repeat (first | refine EK.seq ?_ | refine EK.region ?_ | refine ER.done ?_ | refine EK.skip ?_ | refine ER.move rfl rfl rfl ?_ | refine ER.assign rfl rfl rfl ?_ | refine ER.nilCheck rfl rfl rfl ?_ | refine ER.fieldAddr rfl rfl rfl ?_ | refine ER.load1 rfl rfl rfl (hcell_of (by assumption) rfl) ?_ | refine ER.eqV rfl rfl rfl rfl rfl ?_ | refine ER.notB rfl rfl rfl ?_ | refine ER.pickF rfl rfl rfl rfl ?_ | refine ER.cmpT rfl rfl rfl rfl rfl (by first | (dsimp only [cmpP]; omega) | exact rfl | exact Int.le_refl _) ?_ | refine ER.cmpF rfl rfl rfl rfl rfl (by first | (dsimp only [cmpP]; omega) | exact rfl | exact Int.le_refl _) ?_ | refine EK.condT rfl ?_ | refine EK.condF rfl ?_))
    refine ER.buildS (cells := (rqL i ⟨5, b, arg, 0⟩).toArray) rfl rfl rfl rfl ?_
    (repeat refine ER.allocA rfl rfl ?_)
    refine ER.storeN (vs := rqL i ⟨5, b, arg, 0⟩) rfl rfl rfl rfl (by simp [rqL, accL, OneCell]) (fun j hj => ⟨?_, hfroz_of (get_push_new _ _), T.free (.inr (.inr (.inr (Nat.le_refl _))))⟩) ?_
    · have hj' : j < 8 := hj
      rcases (show j = 0 ∨ j = 1 ∨ j = 2 ∨ j = 3 ∨ j = 4 ∨ j = 5 ∨ j = 6 ∨ j = 7 by omega) with rfl | rfl | rfl | rfl | rfl | rfl | rfl | rfl <;> exact ⟨_, hcell_of (get_push_new _ _) rfl⟩
    rw [hsetRow_push (c := [.int .i64 0, .int .i8 0, .int .i64 0, .int .i64 0, .int .i64 0, .int .i64 0, .int .i64 0, .bool false]) (vs := rqL i ⟨5, b, arg, 0⟩) rfl]
    have T1 := T.alloc hX (accO (rqL i ⟨5, b, arg, 0⟩))
    have hx := T.lts
    (repeat (first | refine EK.seq ?_ | refine EK.region ?_ | refine ER.done ?_ | refine ER.move rfl rfl rfl ?_))
    refine ER.loadN (vs := rqL i ⟨5, b, arg, 0⟩) rfl rfl rfl rfl (hrow_block (rest := []) (by rw [List.append_nil]; exact get_push_new _ _)) ?_
    refine ER.callP rfl rfl rfl rfl rfl (stands_ok hX T1 hr hQ hJ) ?_ ?_
    · rintro ps h' δ' ⟨γ', rfl, hS, hV, rfl⟩
      exact ⟨γ', rfl, hS, Stood.of hV, rfl⟩
    rintro w h1 δ1 ⟨γ', rfl, hs, hV, hP⟩
    have m := Mid.of hX (fun q hq => Nat.ne_of_lt (hx q hq)) hs hV hP
    have et : γ'.p.tb i = γ.p.tb i := (Stood.of hV).tb
    have hst : γ'.p.st i = .stands ⟨5, b, arg, 0⟩ := (Stood.of hV).st
    generalize h.size = x at m hV ⊢
    have cb : h1[b]? = some (cellO (γ'.p.val b)) := m.cel hC
    (repeat (first | refine EK.seq ?_ | refine EK.region ?_ | refine ER.done ?_ | refine ER.move rfl rfl rfl ?_))
    refine ER.callD rfl rfl rfl rfl rfl (aload_ok (v := γ'.p.val b) (hcell_of cb rfl)) ?_
    (repeat refine ER.fieldAddr rfl rfl rfl ?_)
    refine ER.store1 rfl rfl rfl ⟨nofun, nofun⟩ ⟨_, hcell_of m.lx rfl⟩ (hfroz_of m.lx) (m.still (.inl rfl)) ?_
    refine ER.gen (fun h' => Mid X γ' i { γ'.p with prv := ut γ'.p.prv i L } (nums γ'.p.log) x (accL i 5 (-1) arg 0 (γ'.p.val b) 0 false) h') (by rw [hset_block m.lx]; exact m.setx hX _) ?_
    clear m cb
    rintro h2 m
    have cb : h2[b]? = some (cellO (γ'.p.val b)) := m.cel hC
    (repeat (first | refine EK.seq ?_ | refine EK.region ?_ | refine ER.done ?_ | refine EK.block ?_ | refine ER.move rfl rfl rfl ?_ | refine ER.assign rfl rfl rfl ?_ | refine ER.cmpT rfl rfl rfl rfl rfl (by first | (dsimp only [cmpP]; omega) | exact rfl | exact Int.le_refl _) ?_ | refine ER.cmpF rfl rfl rfl rfl rfl (by first | (dsimp only [cmpP]; omega) | exact rfl | exact Int.le_refl _) ?_ | refine EK.condT rfl ?_ | refine EK.condF rfl ?_))
    refine ER.callD rfl rfl rfl rfl rfl (astore_ok (v := γ'.p.val b) (x := arg) (hcell_of cb rfl) (hfroz_of cb) (m.still (.inr (.inl hC)))) ?_
    refine ER.gen (fun h' => Mid X γ' i { γ'.p with prv := ut γ'.p.prv i L, val := ut γ'.p.val b arg } (nums γ'.p.log) x (accL i 5 (-1) arg 0 (γ'.p.val b) 0 false) h') (by rw [cellO_set cb]; exact m.cell hX hC _) ?_
    clear m
    rintro h3 m
    (repeat (first | refine EK.seq ?_ | refine EK.region ?_ | refine ER.done ?_ | refine EK.inBlock ?_ | refine ER.move rfl rfl rfl ?_))
    clear cb
    have cb : h3[b]? = some (cellO (arg)) := (m.cel hC).trans (congrArg (fun v => some (cellO v)) (ut_same _ _ _))
    skip
    refine ER.callD rfl rfl rfl rfl rfl (aload_ok (v := arg) (hcell_of cb rfl)) ?_
    (repeat refine ER.fieldAddr rfl rfl rfl ?_)
    refine ER.store1 rfl rfl rfl ⟨nofun, nofun⟩ ⟨_, hcell_of m.lx rfl⟩ (hfroz_of m.lx) (m.still (.inl rfl)) ?_
    refine ER.gen (fun h' => Mid X γ' i { γ'.p with prv := ut γ'.p.prv i L, val := ut γ'.p.val b (arg) } (nums γ'.p.log) x (accL i 5 (-1) arg 0 (γ'.p.val b) (arg) false) h') (by rw [hset_block m.lx]; exact m.setx hX _) ?_
    clear m cb
    rintro h4 m
    have cb : h4[b]? = some (cellO (arg)) := (m.cel hC).trans (congrArg (fun v => some (cellO v)) (ut_same _ _ _))
    have d0 := m.row
    obtain ⟨s1, d1⟩ := m.runC
    rw [et] at d0
    obtain ⟨es, c', hm, hk, hpl⟩ := m.map
    (repeat (first | refine EK.seq ?_ | refine EK.region ?_ | refine ER.done ?_ | refine ER.move rfl rfl rfl ?_ | refine ER.nilCheck rfl rfl rfl ?_ | refine ER.fieldAddr rfl rfl rfl ?_ | refine ER.load1 rfl rfl rfl (hcell_of (by assumption) rfl) ?_ | refine ER.load1 rfl rfl rfl (by assumption) ?_))
    by_cases hb : b ∈ nums γ'.p.log
    · refine ER.lookupOk (v := .tuple #[.int .i64 ((nums γ'.p.log).idxOf b : Int), .bool true]) rfl rfl rfl rfl (by decide) hm ⟨_, _, cb⟩ hpl hk (by rw [pfind_keys, if_pos hb]; simp) ?_
      clear d1 hm hk hpl
      (repeat (first | refine EK.seq ?_ | refine EK.region ?_ | refine ER.done ?_ | refine EK.skip ?_ | refine ER.move rfl rfl rfl ?_ | refine ER.assign rfl rfl rfl ?_ | refine ER.fieldAddr rfl rfl rfl ?_ | refine ER.notB rfl rfl rfl ?_ | refine ER.extract rfl rfl rfl rfl ?_ | refine EK.condF rfl ?_))
      have hN := nums_pos (e := evOf i ⟨5, b, arg, 0⟩ (γ'.p.val b)) hb
      have he := hb
      revert m hN he
      generalize h4 = h5, eNS : nums γ'.p.log = NS
      intro m hN he
      clear cb eNS
      refine ER.store1 rfl rfl rfl ⟨nofun, nofun⟩ ⟨_, hcell_of m.lx rfl⟩ (hfroz_of m.lx) (m.still (.inl rfl)) ?_
      refine ER.gen (fun h' => Mid X γ' i { γ'.p with prv := ut γ'.p.prv i L, val := ut γ'.p.val b (arg) } NS x (accL i 5 (NS.idxOf b) arg 0 (γ'.p.val b) (arg) false) h') (by rw [hset_block m.lx]; exact m.setx hX _) ?_
      clear m d0
      rintro h6 m
      obtain ⟨s2, M2, g2, nx2⟩ := m.gi
      have d0 := m.row
      rw [et] at d0
      have d1 : h6[γ'.p.R]? = some (runO s2 γ'.p.mb γ'.p.stops) := g2.runAt
      have lx := m.lx
      (repeat (first | refine EK.seq ?_ | refine ER.done ?_))
      refine EK.regionAnyL (fun h' => hcell h' ⟨γ.p.tb i, 0, none⟩ = some (ptr γ'.p.R) ∧ hcell h' ⟨γ'.p.R, 2, none⟩ = some s2.L ∧ hrow h' x 0 (accL i 5 (NS.idxOf b) arg 0 (γ'.p.val b) (arg) false)) 16 ?_
      have lrow : hrow h6 x 0 (accL i 5 (NS.idxOf b) arg 0 (γ'.p.val b) (arg) false) := hrow_block (rest := []) (by rw [List.append_nil]; exact lx)
      have hZ := And.intro d0 (And.intro (hcell_of d1 rfl : hcell h6 ⟨γ'.p.R, 2, none⟩ = some s2.L) lrow)
      refine EA.tMove 0 rfl (by kernel_rfl) rfl rfl rfl rfl hZ ?_
      refine EA.tNil 1 rfl (by kernel_rfl) rfl rfl rfl rfl hZ ?_
      refine EA.tField 2 rfl (by kernel_rfl) rfl rfl rfl rfl hZ ?_
      refine EA.tLoad 3 rfl (by kernel_rfl) rfl rfl rfl rfl (fun _ hz => hz.1) hZ ?_
      refine EA.tMove 4 rfl (by kernel_rfl) rfl rfl rfl rfl hZ ?_
      refine EA.tNil 5 rfl (by kernel_rfl) rfl rfl rfl rfl hZ ?_
      refine EA.tField 6 rfl (by kernel_rfl) rfl rfl rfl rfl hZ ?_
      refine EA.tLoad 7 rfl (by kernel_rfl) rfl rfl rfl rfl (fun _ hz => hz.1) hZ ?_
      refine EA.tNil 8 rfl (by kernel_rfl) rfl rfl rfl rfl hZ ?_
      refine EA.tField 9 rfl (by kernel_rfl) rfl rfl rfl rfl hZ ?_
      refine EA.tLoad 10 rfl (by kernel_rfl) rfl rfl rfl rfl (fun _ hz => hz.2.1) hZ ?_
      refine EA.tLoadN (vs := accL i 5 (NS.idxOf b) arg 0 (γ'.p.val b) (arg) false) 11 rfl (by kernel_rfl) rfl rfl rfl rfl rfl (fun _ hz => hz.2.2) hZ ?_
      have hZ3 : _ ∧ _ ∧ _ := ⟨hcell_push (o := accO (accL i 5 (NS.idxOf b) arg 0 (γ'.p.val b) (arg) false)) hZ.1, hcell_push (o := accO (accL i 5 (NS.idxOf b) arg 0 (γ'.p.val b) (arg) false)) hZ.2.1, fun j v hj => hcell_push (o := accO (accL i 5 (NS.idxOf b) arg 0 (γ'.p.val b) (arg) false)) (hZ.2.2 j v hj)⟩
      refine EA.val (v := .slice (some ⟨h6.size, 0, none⟩) 1 1) (h' := h6.push (accO (accL i 5 (NS.idxOf b) arg 0 (γ'.p.val b) (arg) false))) 12 rfl (by kernel_rfl) rfl rfl rfl (fun ρ Q X hρ hq => sem_slice1 (z := .agg #[.int .i64 0, .int .i8 0, .int .i64 0, .int .i64 0, .int .i64 0, .int .i64 0, .int .i64 0, .bool false]) (sz := 8) hρ rfl (by omega) (by omega) rfl (fill_acc _ _ _ _ _ _ _ _) hq) hZ3 ?_
      have g3 := g2.upd0 (Upd.push h6 (accO (accL i 5 (NS.idxOf b) arg 0 (γ'.p.val b) (arg) false)))
      have hlen := hP.len hs
      have d3 := (Upd.push (T := fun _ => False) h6 (accO (accL i 5 (NS.idxOf b) arg 0 (γ'.p.val b) (arg) false))).get d1 (fun x => x)
      have lx3 := (Upd.push (T := fun _ => False) h6 (accO (accL i 5 (NS.idxOf b) arg 0 (γ'.p.val b) (arg) false))).get lx (fun x => x)
      have u3 := upd_then m.upd (Upd.push (T := fun _ => False) h6 (accO (accL i 5 (NS.idxOf b) arg 0 (γ'.p.val b) (arg) false))) (fun _ _ x => x.elim)
      have I3 := hX.loc _ _ _ (fun c hc => (Upd.push (T := fun _ => False) h6 (accO (accL i 5 (NS.idxOf b) arg 0 (γ'.p.val b) (arg) false))).2 c (g2.dom c hc).1 (fun x => x)) m.I
      have hlog : M2.Sl .log s2.L 75 8 γ'.p.log.length (γ'.p.log.flatMap (entL NS)) := g3.all .log
      have hrun := g3.all .run
      refine EA.append1 (new := accL i 5 (NS.idxOf b) arg 0 (γ'.p.val b) (arg) false) 13 rfl (by kernel_rfl) rfl rfl rfl rfl rfl (hlog.slice g3.rep) (get_push_new _ _) rfl (by simp [accL, OneCell]) (by omega) (by omega) rfl (fun c o hc => ?_) ?_
      · obtain ⟨hk, e⟩ := hlog.blk hc
        rw [e]; exact still_nm m.run m.lt g3 m.st hk (fun j => ⟨nofun, nofun⟩)
      intro s' h7 hs7 u7 hb7
      have nl : ∀ k, k ≠ .log → M2.ok k → ¬ blk s2.L = some (M2.B k) := fun k hk ok e => by
        obtain ⟨hk', e'⟩ := hlog.blk e
        exact g3.ne ok hk' hk e'
      have hti := g3.all (.t i) (by show i < γ'.p.num; exact hP.lt)
      have nti : ¬ blk s2.L = some (γ.p.tb i) := by rw [← et]; have := nl (.t i) nofun hti.1; rwa [hti.2.1] at this
      have nR : ¬ blk s2.L = some γ'.p.R := by have := nl .run nofun hrun.1; rwa [hrun.2.1] at this
      have nx3 : ¬ blk s2.L = some x := fun e => by
        obtain ⟨hk', e'⟩ := hlog.blk e
        exact nx2 _ hk' e'.symm
      have d7 := u7.get d3 nR
      have lx7 := u7.get lx3 nx3
      have hZ7 : hcell h7 ⟨γ.p.tb i, 0, none⟩ = some (ptr γ'.p.R) ∧ hcell h7 ⟨γ'.p.R, 2, none⟩ = some s2.L ∧ hrow h7 x 0 (accL i 5 (NS.idxOf b) arg 0 (γ'.p.val b) (arg) false) := ⟨u7.hcell hZ3.1 nti, hcell_of d7 rfl, fun j v hj => u7.hcell (hZ3.2.2 j v hj) nx3⟩
      refine ⟨hZ7, ?_⟩
      refine EA.val 14 rfl (by kernel_rfl) rfl rfl rfl (fun ρ Q X hρ hq => sem_nilCheck (hρ _ _ rfl) hq) hZ7 ?_
      have hZ := hZ7
      refine EA.tField 15 rfl (by kernel_rfl) rfl rfl rfl rfl hZ ?_
      have hbh : behind 5 (γ'.p.val b) arg 0 = (arg, false) := rfl
      have hent : entL NS (evOf i ⟨5, b, arg, 0⟩ (γ'.p.val b)) = accL i 5 (NS.idxOf b) arg 0 (γ'.p.val b) (arg) false := by
        show accL _ _ _ _ _ _ (behind 5 (γ'.p.val b) arg 0).1 (behind 5 (γ'.p.val b) arg 0).2 = _
        rw [hbh]
        rfl
      obtain ⟨as7, ks7, es7⟩ := hs7.val
      have hOne : OneCell s' := by rw [es7]; exact ⟨nofun, nofun⟩
      rw [← hent] at hs7
      obtain ⟨M', g8⟩ := g3.logApp (e := evOf i ⟨5, b, arg, 0⟩ (γ'.p.val b)) he hs7 u7 hb7 (fun c hc => .inr (Nat.le_trans u3.size hc))
      have I7 : X.I γ'.p.u h7 := hX.loc _ _ _ (fun c hc => u7.2 c (g3.dom c hc).1 (fun e => by
        obtain ⟨hk', e'⟩ := hlog.blk e
        exact (g3.apart _ hk').2 (by rw [← e']; exact hc))) I3
      have I8 : X.I γ'.p.u (h7.setIfInBounds γ'.p.R (runO { s2 with L := s' } γ'.p.mb γ'.p.stops)) := hX.loc _ _ _ (fun c hc => get_set_ne _ (fun e : γ'.p.R = c => (g3.apart _ hrun.1).2 (by rw [hrun.2.1]; show X.Dom γ'.p.u γ'.p.R; rw [e]; exact hc))) I7
      have u8 : Upd γ'.W γ'.base (h7.setIfInBounds γ'.p.R (runO { s2 with L := s' } γ'.p.mb γ'.p.stops)) := updW (upd_then u3 u7 (fun c hc e => by
        obtain ⟨hk', e'⟩ := hlog.blk e
        have := g3.wide _ hk'
        rw [← e'] at this
        exact this.resolve_right (by omega))) _ (by have := g3.wide _ hrun.1; rw [hrun.2.1] at this; exact this)
      have lx8 : (h7.setIfInBounds γ'.p.R (runO { s2 with L := s' } γ'.p.mb γ'.p.stops))[x]? = some (accO (accL i 5 (NS.idxOf b) arg 0 (γ'.p.val b) (arg) false)) := (get_set_ne _ (fun e : γ'.p.R = x => nx2 _ hrun.1 (hrun.2.1.trans e))).trans lx7
      refine EA.unitL (h' := h7.setIfInBounds γ'.p.R (runO { s2 with L := s' } γ'.p.mb γ'.p.stops)) 16 rfl (by kernel_rfl) rfl rfl rfl (fun ρ Q X hρ hq => sem_store1 (hρ _ _ rfl) (hρ _ _ rfl) hOne ⟨_, hcell_of d7 rfl⟩ (hfroz_of d7) (m.still (.inr (.inr (.inl rfl)))) (by rw [hset_block d7]; exact hq)) ?_
      refine EA.done (by kernel_rfl) ?_
      clear hZ hZ7 hZ3 u7 d7 lx7 I7 hs7 hb7 nl nti nR nx3 d3 lx3 u3 I3
      generalize h7.setIfInBounds γ'.p.R (runO { s2 with L := s' } γ'.p.mb γ'.p.stops) = h8 at g8 I8 u8 lx8 ⊢
      (repeat refine EK.seq ?_)
      refine EK.regionAny (fun h' => hrow h' x 0 (accL i 5 (NS.idxOf b) arg 0 (γ'.p.val b) (arg) false)) ?_
      have hZ : hrow h8 x 0 (accL i 5 (NS.idxOf b) arg 0 (γ'.p.val b) (arg) false) := hrow_block (rest := []) (by rw [List.append_nil]; exact lx8)
      refine EA.tField 0 rfl (by kernel_rfl) rfl rfl rfl rfl hZ ?_
      refine EA.tLoad 1 rfl (by kernel_rfl) rfl rfl rfl rfl (fun _ hz => hz 5 _ rfl) hZ ?_
      refine EA.tField 2 rfl (by kernel_rfl) rfl rfl rfl rfl hZ ?_
      refine EA.tLoad 3 rfl (by kernel_rfl) rfl rfl rfl rfl (fun _ hz => hz 6 _ rfl) hZ ?_
      refine EA.tField 4 rfl (by kernel_rfl) rfl rfl rfl rfl hZ ?_
      refine EA.tLoad 5 rfl (by kernel_rfl) rfl rfl rfl rfl (fun _ hz => hz 7 _ rfl) hZ ?_
      refine EA.tAssign 6 rfl (by kernel_rfl) rfl rfl rfl rfl hZ ?_
      refine EA.tAssign 7 rfl (by kernel_rfl) rfl rfl rfl rfl hZ ?_
      refine EA.tAssign 8 rfl (by kernel_rfl) rfl rfl rfl rfl hZ ?_
      refine EA.done (by kernel_rfl) ?_
      (repeat refine EK.ret ?_)
      refine EU.ret3 rfl rfl rfl rfl ⟨γ', rfl, thr_of hX hs hP hst ⟨{ s2 with L := s' }, M', ?_⟩ I8 u8, Stood.of hV, ?_⟩
      · show GI X _ { γ'.p with prv := ut γ'.p.prv i L, val := ut γ'.p.val b (behind 5 (γ'.p.val b) arg 0).1, log := _ } _ _ _ _
        rw [hbh, hN]
        exact g8
      · show _ = Value.tuple #[.int .i64 (γ'.p.val b), .int .i64 (behind 5 (γ'.p.val b) arg 0).1, .bool (behind 5 (γ'.p.val b) arg 0).2]
        rw [hbh]
    · refine ER.lookupOk (v := .tuple #[.int .i64 0, .bool false]) rfl rfl rfl rfl (by decide) hm ⟨_, _, cb⟩ hpl hk (by rw [pfind_keys, if_neg hb]) ?_
      (repeat (first | refine EK.seq ?_ | refine EK.region ?_ | refine ER.done ?_ | refine ER.move rfl rfl rfl ?_ | refine ER.assign rfl rfl rfl ?_ | refine ER.nilCheck rfl rfl rfl ?_ | refine ER.fieldAddr rfl rfl rfl ?_ | refine ER.load1 rfl rfl rfl (hcell_of (by assumption) rfl) ?_ | refine ER.notB rfl rfl rfl ?_ | refine ER.extract rfl rfl rfl rfl ?_ | refine EK.condT rfl ?_ | refine ER.load1 rfl rfl rfl (by assumption) ?_))
      have hi := idxOf_snoc hb
      refine ER.lenMap (v := (nums γ'.p.log ++ [b]).idxOf b) rfl rfl rfl hm (by rw [keyed_size hk, keysFrom_length, hi]) ?_
      (repeat (first | refine EK.region ?_ | refine ER.done ?_ | refine ER.move rfl rfl rfl ?_ | refine ER.assign rfl rfl rfl ?_ | refine ER.nilCheck rfl rfl rfl ?_ | refine ER.fieldAddr rfl rfl rfl ?_ | refine ER.load1 rfl rfl rfl (hcell_of (by assumption) rfl) ?_ | refine ER.load1 rfl rfl rfl (by assumption) ?_))
      refine ER.mapNew rfl rfl rfl rfl (by decide) hm ⟨_, _, cb⟩ hpl hk (by rw [pfind_keys, if_neg hb]) ?_
      refine ER.gen (fun h' => Mid X γ' i { γ'.p with prv := ut γ'.p.prv i L, val := ut γ'.p.val b (arg) } (nums γ'.p.log ++ [b]) x (accL i 5 (-1) arg 0 (γ'.p.val b) (arg) false) h') (by rw [hi]; exact m.mapNew hX hC hm hk) ?_
      clear m d1 hm hk hpl d0 hi cb
      rintro h5 m
      have hN := nums_neg (e := evOf i ⟨5, b, arg, 0⟩ (γ'.p.val b)) hb
      have he : b ∈ nums γ'.p.log ++ [b] := by simp
      change nums (γ'.p.log ++ [evOf i ⟨5, b, arg, 0⟩ (γ'.p.val b)]) = nums γ'.p.log ++ [b] at hN
      revert m hN he
      generalize nums γ'.p.log ++ [b] = NS
      intro m he hN
      have d0 := m.row
      rw [et] at d0
      (repeat (first | refine EK.seq ?_ | refine EK.region ?_ | refine ER.done ?_ | refine ER.move rfl rfl rfl ?_ | refine ER.fieldAddr rfl rfl rfl ?_))
      refine ER.store1 rfl rfl rfl ⟨nofun, nofun⟩ ⟨_, hcell_of m.lx rfl⟩ (hfroz_of m.lx) (m.still (.inl rfl)) ?_
      refine ER.gen (fun h' => Mid X γ' i { γ'.p with prv := ut γ'.p.prv i L, val := ut γ'.p.val b (arg) } NS x (accL i 5 (NS.idxOf b) arg 0 (γ'.p.val b) (arg) false) h') (by rw [hset_block m.lx]; exact m.setx hX _) ?_
      clear m d0
      rintro h6 m
      obtain ⟨s2, M2, g2, nx2⟩ := m.gi
      have d0 := m.row
      rw [et] at d0
      have d1 : h6[γ'.p.R]? = some (runO s2 γ'.p.mb γ'.p.stops) := g2.runAt
      have lx := m.lx
      (repeat (first | refine EK.seq ?_ | refine ER.done ?_))
      refine EK.regionAnyL (fun h' => hcell h' ⟨γ.p.tb i, 0, none⟩ = some (ptr γ'.p.R) ∧ hcell h' ⟨γ'.p.R, 2, none⟩ = some s2.L ∧ hrow h' x 0 (accL i 5 (NS.idxOf b) arg 0 (γ'.p.val b) (arg) false)) 16 ?_
      have lrow : hrow h6 x 0 (accL i 5 (NS.idxOf b) arg 0 (γ'.p.val b) (arg) false) := hrow_block (rest := []) (by rw [List.append_nil]; exact lx)
      have hZ := And.intro d0 (And.intro (hcell_of d1 rfl : hcell h6 ⟨γ'.p.R, 2, none⟩ = some s2.L) lrow)
      refine EA.tMove 0 rfl (by kernel_rfl) rfl rfl rfl rfl hZ ?_
      refine EA.tNil 1 rfl (by kernel_rfl) rfl rfl rfl rfl hZ ?_
      refine EA.tField 2 rfl (by kernel_rfl) rfl rfl rfl rfl hZ ?_
      refine EA.tLoad 3 rfl (by kernel_rfl) rfl rfl rfl rfl (fun _ hz => hz.1) hZ ?_
      refine EA.tMove 4 rfl (by kernel_rfl) rfl rfl rfl rfl hZ ?_
      refine EA.tNil 5 rfl (by kernel_rfl) rfl rfl rfl rfl hZ ?_
      refine EA.tField 6 rfl (by kernel_rfl) rfl rfl rfl rfl hZ ?_
      refine EA.tLoad 7 rfl (by kernel_rfl) rfl rfl rfl rfl (fun _ hz => hz.1) hZ ?_
      refine EA.tNil 8 rfl (by kernel_rfl) rfl rfl rfl rfl hZ ?_
      refine EA.tField 9 rfl (by kernel_rfl) rfl rfl rfl rfl hZ ?_
      refine EA.tLoad 10 rfl (by kernel_rfl) rfl rfl rfl rfl (fun _ hz => hz.2.1) hZ ?_
      refine EA.tLoadN (vs := accL i 5 (NS.idxOf b) arg 0 (γ'.p.val b) (arg) false) 11 rfl (by kernel_rfl) rfl rfl rfl rfl rfl (fun _ hz => hz.2.2) hZ ?_
      have hZ3 : _ ∧ _ ∧ _ := ⟨hcell_push (o := accO (accL i 5 (NS.idxOf b) arg 0 (γ'.p.val b) (arg) false)) hZ.1, hcell_push (o := accO (accL i 5 (NS.idxOf b) arg 0 (γ'.p.val b) (arg) false)) hZ.2.1, fun j v hj => hcell_push (o := accO (accL i 5 (NS.idxOf b) arg 0 (γ'.p.val b) (arg) false)) (hZ.2.2 j v hj)⟩
      refine EA.val (v := .slice (some ⟨h6.size, 0, none⟩) 1 1) (h' := h6.push (accO (accL i 5 (NS.idxOf b) arg 0 (γ'.p.val b) (arg) false))) 12 rfl (by kernel_rfl) rfl rfl rfl (fun ρ Q X hρ hq => sem_slice1 (z := .agg #[.int .i64 0, .int .i8 0, .int .i64 0, .int .i64 0, .int .i64 0, .int .i64 0, .int .i64 0, .bool false]) (sz := 8) hρ rfl (by omega) (by omega) rfl (fill_acc _ _ _ _ _ _ _ _) hq) hZ3 ?_
      have g3 := g2.upd0 (Upd.push h6 (accO (accL i 5 (NS.idxOf b) arg 0 (γ'.p.val b) (arg) false)))
      have hlen := hP.len hs
      have d3 := (Upd.push (T := fun _ => False) h6 (accO (accL i 5 (NS.idxOf b) arg 0 (γ'.p.val b) (arg) false))).get d1 (fun x => x)
      have lx3 := (Upd.push (T := fun _ => False) h6 (accO (accL i 5 (NS.idxOf b) arg 0 (γ'.p.val b) (arg) false))).get lx (fun x => x)
      have u3 := upd_then m.upd (Upd.push (T := fun _ => False) h6 (accO (accL i 5 (NS.idxOf b) arg 0 (γ'.p.val b) (arg) false))) (fun _ _ x => x.elim)
      have I3 := hX.loc _ _ _ (fun c hc => (Upd.push (T := fun _ => False) h6 (accO (accL i 5 (NS.idxOf b) arg 0 (γ'.p.val b) (arg) false))).2 c (g2.dom c hc).1 (fun x => x)) m.I
      have hlog : M2.Sl .log s2.L 75 8 γ'.p.log.length (γ'.p.log.flatMap (entL NS)) := g3.all .log
      have hrun := g3.all .run
      refine EA.append1 (new := accL i 5 (NS.idxOf b) arg 0 (γ'.p.val b) (arg) false) 13 rfl (by kernel_rfl) rfl rfl rfl rfl rfl (hlog.slice g3.rep) (get_push_new _ _) rfl (by simp [accL, OneCell]) (by omega) (by omega) rfl (fun c o hc => ?_) ?_
      · obtain ⟨hk, e⟩ := hlog.blk hc
        rw [e]; exact still_nm m.run m.lt g3 m.st hk (fun j => ⟨nofun, nofun⟩)
      intro s' h7 hs7 u7 hb7
      have nl : ∀ k, k ≠ .log → M2.ok k → ¬ blk s2.L = some (M2.B k) := fun k hk ok e => by
        obtain ⟨hk', e'⟩ := hlog.blk e
        exact g3.ne ok hk' hk e'
      have hti := g3.all (.t i) (by show i < γ'.p.num; exact hP.lt)
      have nti : ¬ blk s2.L = some (γ.p.tb i) := by rw [← et]; have := nl (.t i) nofun hti.1; rwa [hti.2.1] at this
      have nR : ¬ blk s2.L = some γ'.p.R := by have := nl .run nofun hrun.1; rwa [hrun.2.1] at this
      have nx3 : ¬ blk s2.L = some x := fun e => by
        obtain ⟨hk', e'⟩ := hlog.blk e
        exact nx2 _ hk' e'.symm
      have d7 := u7.get d3 nR
      have lx7 := u7.get lx3 nx3
      have hZ7 : hcell h7 ⟨γ.p.tb i, 0, none⟩ = some (ptr γ'.p.R) ∧ hcell h7 ⟨γ'.p.R, 2, none⟩ = some s2.L ∧ hrow h7 x 0 (accL i 5 (NS.idxOf b) arg 0 (γ'.p.val b) (arg) false) := ⟨u7.hcell hZ3.1 nti, hcell_of d7 rfl, fun j v hj => u7.hcell (hZ3.2.2 j v hj) nx3⟩
      refine ⟨hZ7, ?_⟩
      refine EA.val 14 rfl (by kernel_rfl) rfl rfl rfl (fun ρ Q X hρ hq => sem_nilCheck (hρ _ _ rfl) hq) hZ7 ?_
      have hZ := hZ7
      refine EA.tField 15 rfl (by kernel_rfl) rfl rfl rfl rfl hZ ?_
      have hbh : behind 5 (γ'.p.val b) arg 0 = (arg, false) := rfl
      have hent : entL NS (evOf i ⟨5, b, arg, 0⟩ (γ'.p.val b)) = accL i 5 (NS.idxOf b) arg 0 (γ'.p.val b) (arg) false := by
        show accL _ _ _ _ _ _ (behind 5 (γ'.p.val b) arg 0).1 (behind 5 (γ'.p.val b) arg 0).2 = _
        rw [hbh]
        rfl
      obtain ⟨as7, ks7, es7⟩ := hs7.val
      have hOne : OneCell s' := by rw [es7]; exact ⟨nofun, nofun⟩
      rw [← hent] at hs7
      obtain ⟨M', g8⟩ := g3.logApp (e := evOf i ⟨5, b, arg, 0⟩ (γ'.p.val b)) he hs7 u7 hb7 (fun c hc => .inr (Nat.le_trans u3.size hc))
      have I7 : X.I γ'.p.u h7 := hX.loc _ _ _ (fun c hc => u7.2 c (g3.dom c hc).1 (fun e => by
        obtain ⟨hk', e'⟩ := hlog.blk e
        exact (g3.apart _ hk').2 (by rw [← e']; exact hc))) I3
      have I8 : X.I γ'.p.u (h7.setIfInBounds γ'.p.R (runO { s2 with L := s' } γ'.p.mb γ'.p.stops)) := hX.loc _ _ _ (fun c hc => get_set_ne _ (fun e : γ'.p.R = c => (g3.apart _ hrun.1).2 (by rw [hrun.2.1]; show X.Dom γ'.p.u γ'.p.R; rw [e]; exact hc))) I7
      have u8 : Upd γ'.W γ'.base (h7.setIfInBounds γ'.p.R (runO { s2 with L := s' } γ'.p.mb γ'.p.stops)) := updW (upd_then u3 u7 (fun c hc e => by
        obtain ⟨hk', e'⟩ := hlog.blk e
        have := g3.wide _ hk'
        rw [← e'] at this
        exact this.resolve_right (by omega))) _ (by have := g3.wide _ hrun.1; rw [hrun.2.1] at this; exact this)
      have lx8 : (h7.setIfInBounds γ'.p.R (runO { s2 with L := s' } γ'.p.mb γ'.p.stops))[x]? = some (accO (accL i 5 (NS.idxOf b) arg 0 (γ'.p.val b) (arg) false)) := (get_set_ne _ (fun e : γ'.p.R = x => nx2 _ hrun.1 (hrun.2.1.trans e))).trans lx7
      refine EA.unitL (h' := h7.setIfInBounds γ'.p.R (runO { s2 with L := s' } γ'.p.mb γ'.p.stops)) 16 rfl (by kernel_rfl) rfl rfl rfl (fun ρ Q X hρ hq => sem_store1 (hρ _ _ rfl) (hρ _ _ rfl) hOne ⟨_, hcell_of d7 rfl⟩ (hfroz_of d7) (m.still (.inr (.inr (.inl rfl)))) (by rw [hset_block d7]; exact hq)) ?_
      refine EA.done (by kernel_rfl) ?_
      clear hZ hZ7 hZ3 u7 d7 lx7 I7 hs7 hb7 nl nti nR nx3 d3 lx3 u3 I3
      generalize h7.setIfInBounds γ'.p.R (runO { s2 with L := s' } γ'.p.mb γ'.p.stops) = h8 at g8 I8 u8 lx8 ⊢
      (repeat refine EK.seq ?_)
      refine EK.regionAny (fun h' => hrow h' x 0 (accL i 5 (NS.idxOf b) arg 0 (γ'.p.val b) (arg) false)) ?_
      have hZ : hrow h8 x 0 (accL i 5 (NS.idxOf b) arg 0 (γ'.p.val b) (arg) false) := hrow_block (rest := []) (by rw [List.append_nil]; exact lx8)
      refine EA.tField 0 rfl (by kernel_rfl) rfl rfl rfl rfl hZ ?_
      refine EA.tLoad 1 rfl (by kernel_rfl) rfl rfl rfl rfl (fun _ hz => hz 5 _ rfl) hZ ?_
      refine EA.tField 2 rfl (by kernel_rfl) rfl rfl rfl rfl hZ ?_
      refine EA.tLoad 3 rfl (by kernel_rfl) rfl rfl rfl rfl (fun _ hz => hz 6 _ rfl) hZ ?_
      refine EA.tField 4 rfl (by kernel_rfl) rfl rfl rfl rfl hZ ?_
      refine EA.tLoad 5 rfl (by kernel_rfl) rfl rfl rfl rfl (fun _ hz => hz 7 _ rfl) hZ ?_
      refine EA.tAssign 6 rfl (by kernel_rfl) rfl rfl rfl rfl hZ ?_
      refine EA.tAssign 7 rfl (by kernel_rfl) rfl rfl rfl rfl hZ ?_
      refine EA.tAssign 8 rfl (by kernel_rfl) rfl rfl rfl rfl hZ ?_
      refine EA.done (by kernel_rfl) ?_
      (repeat refine EK.ret ?_)
      refine EU.ret3 rfl rfl rfl rfl ⟨γ', rfl, thr_of hX hs hP hst ⟨{ s2 with L := s' }, M', ?_⟩ I8 u8, Stood.of hV, ?_⟩
      · show GI X _ { γ'.p with prv := ut γ'.p.prv i L, val := ut γ'.p.val b (behind 5 (γ'.p.val b) arg 0).1, log := _ } _ _ _ _
        rw [hbh, hN]
        exact g8
      · show _ = Value.tuple #[.int .i64 (γ'.p.val b), .int .i64 (behind 5 (γ'.p.val b) arg 0).1, .bool (behind 5 (γ'.p.val b) arg 0).2]
        rw [hbh]
end
end Go.Proofs.Ytcpcdnkemobneaa
end
section
namespace Go.Proofs.Ytcpcdnkemobneaa
open Go Go.TJ Go.Conc Go.Proofs
section
variable {X : Us} {h : Hp} {i : Nat} {γ : GG X} {u : X.U} {L : List (Nat × Obj)}
instance : Und Try.prog 20 (.interface #[]) := ⟨Try.underlying20⟩
theorem tellsG {γ₁ : GG X} {f n : Nat} {k : List Item} {env : Env} {cs : List Frame} {ops : Array Oper} {x y : Operand} {ty : TypeId} {pos : String} {af : Array Edge} {g : Option (Nat × Bool)} (hr : γ.run = i) (hw : wantE ops env g = some true) (hx : ev env x = some (.chan (some (γ.p.sd i)))) (hy : ev env y = some tok)
    (hn : γ₁.p.num = γ.p.num) (ho : Others (PX X) (i + 1) γ γ₁) (hp : P0 X γ₁ h) (hc : γ₁.p.gone i = true) (hq : ∀ a, Kn n env [] a → QuitsD Try.prog 5 0 (G ((fb f .deferred).at a (.inRegion ops [] :: k)) cs)) :
    TR Try.prog false (SitT Try.prog (PX X) (i + 1)) (EndT Try.prog (PX X) (i + 1)) f n .deferred cs ops [⟨none, .send x y, ty, pos, af, g⟩] k env [] h ⟨0, γ⟩ := by
  intro rest hr' a ka
  obtain ⟨m, r, rfl, ho', hr'⟩ := ER.uncons hr'
  have : r = [] := by simpa using hr'
  subst this
  refine .stop ⟨rfl, γ₁, γ.p.sd i, _, by omega, Nat.succ_pos _, by show some (γ.p.sd γ.run) = _; rw [hr], at_send ho' (wantE_ok ka (o := ⟨none, .send x y, ty, pos, af, g⟩) hw) (by decide) (ka.eval hx) (ka.eval hy), by show γ₁.p.num + 1 = γ.p.num + 1; rw [hn], ho, hp, ?_, 5, ?_⟩
  · show (if γ₁.p.gone i = true then none else some (γ₁.p.wk i)) = none
    rw [if_pos hc]
  · rw [served_none ho' rfl]; exact hq a ka
theorem Thr.drop (hX : X.Ok) (T : Thr X i γ u L h) : Thr X i γ u [] h := by
  obtain ⟨s, M, g⟩ := T.gi
  exact T.user hX (Upd.refl _ _) (fun b hb => ⟨.inl hb, (g.dom b hb).1⟩) (fun q hq => by cases hq) T.I (fun _ _ => hX.vrefl _ _)
theorem others_over (T : Thr X i γ u L h) : Others (PX X) (i + 1) γ { γ with p := γ.p.turn i u L .over true } := by
  obtain ⟨a1, a2, a3, a4, a5, a6, a7, a8, a9, a10, a11, a12, a13, a14, a15, a16, a17⟩ := acc_same γ.p i
  intro x hx hl
  cases x with
  | zero =>
    refine ⟨?_, ?_, rfl, rfl, rfl, rfl⟩
    · show some ((γ.p.acc i).sd γ.run) = some (γ.p.sd γ.run); rw [a6]
    · show cM _ = cM γ
      funext a
      show (if a = ⟨(γ.p.acc i).tb γ.run, 3, none⟩ then some (Value.chan (some ((γ.p.acc i).sd γ.run))) else none) = (if a = ⟨γ.p.tb γ.run, 3, none⟩ then some (Value.chan (some (γ.p.sd γ.run))) else none)
      rw [a4, a6]
  | succ j =>
    have hj : j ≠ i := fun e => hx (by rw [e])
    refine ⟨?_, ?_, view_turn hj (T.V j hj) _ _ _⟩
    · show (if ut (γ.p.acc i).gone i true j = true then none else some ((γ.p.acc i).wk j)) = (if γ.p.gone j = true then none else some (γ.p.wk j))
      rw [ut_ne _ _ hj, a12, a5]
    · show cT _ j = cT γ j
      funext a
      show (if a = ⟨(γ.p.acc i).tb j, 2, none⟩ then some (Value.chan (some ((γ.p.acc i).wk j))) else if a = ⟨(γ.p.acc i).bx j, 0, none⟩ then some (.pointer (some ⟨(γ.p.acc i).tb j, 0, none⟩)) else none) = (if a = ⟨γ.p.tb j, 2, none⟩ then some (Value.chan (some (γ.p.wk j))) else if a = ⟨γ.p.bx j, 0, none⟩ then some (.pointer (some ⟨γ.p.tb j, 0, none⟩)) else none)
      rw [a4, a5, a7]
theorem others_stop (hX : X.Ok) : Others (PX X) (i + 1) γ { γ with p := { γ.p with gone := ut γ.p.gone i true } } := by
  intro x hx hl
  cases x with
  | zero => exact ⟨rfl, rfl, rfl, rfl, rfl, rfl⟩
  | succ j =>
    have hj : j ≠ i := fun e => hx (by rw [e])
    have e1 : ut γ.p.gone i true j = γ.p.gone j := ut_ne _ _ hj
    refine ⟨?_, rfl, ⟨Nat.le_refl _, rfl, rfl, rfl, rfl, rfl, rfl, rfl, rfl, rfl, e1, rfl, rfl, hX.vrefl _ _⟩⟩
    show (if ut γ.p.gone i true j = true then none else some (γ.p.wk j)) = _
    rw [e1]; rfl
theorem Thr.ends (hX : X.Ok) (T : Thr X i γ u L h) (hQ : X.Q i (ownOf i (γ.p.acc i).log) .over u) (hJ : X.J (γ.p.acc i).log u (γ.p.acc i).val) :
    P0 X { γ with p := γ.p.turn i u L .over true } (hset h ⟨γ.p.tb i, 13, none⟩ (.bool true)) ∧ hcell (hset h ⟨γ.p.tb i, 13, none⟩ (.bool true)) ⟨γ.p.tb i, 3, none⟩ = some (.chan (some (γ.p.sd i))) ∧ hcell (hset h ⟨γ.p.tb i, 13, none⟩ (.bool true)) ⟨γ.p.bx i, 0, none⟩ = some (ptr (γ.p.tb i)) := by
  obtain ⟨v, t, o, c, b, n, w, y, k, hat, hrow⟩ := T.row
  have er : hset h ⟨γ.p.tb i, 13, none⟩ (.bool true) = h.setIfInBounds (γ.p.tb i) (thrO γ.p.R i (γ.p.wk i) (γ.p.sd i) v (accL t o c b n w y k) true) := hset_block hrow _
  rw [er]
  obtain ⟨s, M, g⟩ := T.gi
  obtain ⟨a1, a2, a3, a4, a5, a6, a7, a8, a9, a10, a11, a12, a13, a14, a15, a16, a17⟩ := acc_same γ.p i
  have hlt : i < ({ γ.p.acc i with u := u, prv := ut (γ.p.acc i).prv i L } : PS X.U).num := by rw [acc_three.1]; exact T.lt
  have g1 := g.row hlt (t := .over) (v := v) (a := accL t o c b n w y k) hat.form' true
  have g2 : GI X (Wide γ.W γ.base) (γ.p.turn i u L .over true) (nums (γ.p.turn i u L .over true).log) s (M.set (.t i) (thrO (γ.p.acc i).R i ((γ.p.acc i).wk i) ((γ.p.acc i).sd i) v (accL t o c b n w y k) true)) (h.setIfInBounds ((γ.p.acc i).tb i) (thrO (γ.p.acc i).R i ((γ.p.acc i).wk i) ((γ.p.acc i).sd i) v (accL t o c b n w y k) true)) := g1
  clear g1
  rw [a1, a4, a5, a6] at g2
  have x1 := g.all (.t i) hlt
  have et : M.B (.t i) = γ.p.tb i := x1.2.1.trans (congrFun acc_three.2.1 i)
  have r2 := get_set_same hrow (o' := thrO γ.p.R i (γ.p.wk i) (γ.p.sd i) v (accL t o c b n w y k) true)
  have bx2 : (h.setIfInBounds (γ.p.tb i) (thrO γ.p.R i (γ.p.wk i) (γ.p.sd i) v (accL t o c b n w y k) true))[(γ.p.acc i).bx i]? = some (Obj.cells #[ptr ((γ.p.acc i).tb i)] 32 (0, 0)) := g2.bxAt (i := i) hlt
  rw [a7, a4] at bx2
  refine ⟨⟨by show γ.run < _; rw [T.run]; exact hlt, .inl ⟨by rw [T.was]; exact T.go, u, L, .over, ?_, nofun, nofun⟩, ⟨s, _, g2⟩, hX.loc _ _ _ (fun b hb => get_set_ne _ (fun e => (g.apart _ x1.1).2 (by rw [et, e]; exact hb))) T.I, hJ, fun x => ?_, updW T.upd _ (et ▸ g.wide _ x1.1)⟩, hcell_of r2 rfl, hcell_of bx2 rfl⟩
  · show γ.p.turn i u L .over true = γ.was.turn γ.run u L .over true
    rw [T.was, T.run]
  · show X.Q x (ownOf x (γ.p.acc i).log) (ut (γ.p.acc i).st i .over x) u
    by_cases e : x = i
    · subst e; rw [ut_same]; exact hQ
    · rw [ut_ne _ _ e, acc_own _ _ e, a11]
      exact hX.stab _ _ _ _ _ (T.V x e) (T.Q x)
theorem Stp.row (T : Stp X i γ h) : ∃ v t o c b n w x k, AtOk i (γ.p.st i) v (accL t o c b n w x k) ∧ h[γ.p.tb i]? = some (thrO γ.p.R i (γ.p.wk i) (γ.p.sd i) v (accL t o c b n w x k) false) := by
  obtain ⟨s, M, g⟩ := T.P.held.gi
  obtain ⟨v, a, h1, h2⟩ := g.thrAt T.P.lt
  obtain ⟨_, t, o, c, b, n, w, x, k, rfl⟩ := h1.form
  exact ⟨v, t, o, c, b, n, w, x, k, h1, by rw [← T.P.live]; exact h2⟩
theorem Stp.ends (hX : X.Ok) (T : Stp X i γ h) :
    P0 X { γ with p := { γ.p with gone := ut γ.p.gone i true } } (hset h ⟨γ.p.tb i, 13, none⟩ (.bool true)) ∧ hcell (hset h ⟨γ.p.tb i, 13, none⟩ (.bool true)) ⟨γ.p.tb i, 3, none⟩ = some (.chan (some (γ.p.sd i))) ∧ hcell (hset h ⟨γ.p.tb i, 13, none⟩ (.bool true)) ⟨γ.p.bx i, 0, none⟩ = some (ptr (γ.p.tb i)) := by
  obtain ⟨v, t, o, c, b, n, w, y, k, hat, hrow⟩ := T.row
  have er : hset h ⟨γ.p.tb i, 13, none⟩ (.bool true) = h.setIfInBounds (γ.p.tb i) (thrO γ.p.R i (γ.p.wk i) (γ.p.sd i) v (accL t o c b n w y k) true) := hset_block hrow _
  rw [er]
  obtain ⟨s, M, g⟩ := T.P.held.gi
  have g1 := g.row T.P.lt (t := γ.p.st i) (v := v) (a := accL t o c b n w y k) hat true
  rw [ut_self] at g1
  have x1 := g.all (.t i) T.P.lt
  have et : M.B (.t i) = γ.p.tb i := x1.2.1
  have r2 := get_set_same hrow (o' := thrO γ.p.R i (γ.p.wk i) (γ.p.sd i) v (accL t o c b n w y k) true)
  have bx2 := g1.bxAt (i := i) T.P.lt
  refine ⟨⟨by show γ.run < _; rw [T.P.run]; exact T.P.lt, .inr ⟨by rw [T.P.was]; exact T.stops, ?_⟩, ⟨s, _, g1⟩, hX.loc _ _ _ (fun b hb => get_set_ne _ (fun e => (g.apart _ x1.1).2 (by rw [et, e]; exact hb))) T.P.held.I, T.P.held.J, T.P.held.Q, updW T.P.held.upd _ (et ▸ g.wide _ x1.1)⟩, hcell_of r2 rfl, hcell_of bx2 rfl⟩
  show ({ γ.p with gone := ut γ.p.gone i true } : PS X.U) = { γ.was with gone := ut γ.was.gone γ.run true }
  rw [T.P.was, T.P.run]
end
end Go.Proofs.Ytcpcdnkemobneaa
end
section
namespace Go.Proofs.Ytcpcdnkemobneaa
open Go Go.TJ Go.Conc Go.Proofs
section
variable {X : Us} {h : Hp} {i : Nat} {γ : GG X} {u : X.U} {L : List (Nat × Obj)}
theorem Thr.bxC (T : Thr X i γ u L h) : hcell h ⟨γ.p.bx i, 0, none⟩ = some (ptr (γ.p.tb i)) := by
  obtain ⟨s, M, g⟩ := T.gi
  have := g.bxAt (i := i) (by rw [acc_three.1]; exact T.lt)
  rw [acc_three.2.2, acc_three.2.1] at this
  exact hcell_of this rfl
set_option maxHeartbeats 1000000 in
set_option maxRecDepth 8000 in
theorem over_okG (hX : X.Ok) {a1 : Act} {todo : List Item} {rb bx : Nat} (hd : a1.defers = []) (T : Thr X i γ u L h) (hb : bx = γ.p.bx i) (hQ : X.Q i (ownOf i (γ.p.acc i).log) .over u) (hJ : X.J (γ.p.acc i).log u (γ.p.acc i).val) :
    Runs Try.prog false (SitT Try.prog (PX X) (i + 1)) (EndT Try.prog (PX X) (i + 1)) (G (Frame.enter Try.prog 175 #[ptr rb, ptr bx] .deferred) [{ (fb 174 .deferred).at a1 todo with mode := .returning }, rootFr Try.prog]) h ⟨0, γ⟩ := by
  subst hb
  have hk : CallKind.deferred ≠ .early := by decide
  obtain ⟨v, t, o, c, b, n, w, y, k, hat, hrow⟩ := T.row
  obtain ⟨p0, e1, e0⟩ := T.ends hX hQ hJ
  have w0 := T.bxC
  refine TK.start (n := 30) rfl rfl ?_
  repeat' refine TK.seq ?_
  refine TK.region ?_
  refine TR.recover0 rfl rfl rfl rfl rfl ?_
  refine TR.val hk rfl rfl (fun ρ Q X hρ hq => sem_assign (hρ _ _ rfl) hq) ?_
  refine TR.done (TK.seq (TK.region ?_))
  refine TR.val hk rfl rfl (fun ρ Q X hρ hq => sem_move (hρ _ _ rfl) hq) ?_
  refine TR.val hk rfl rfl (fun ρ Q X hρ hq => sem_neqIf (hρ _ _ rfl) (hρ _ _ rfl) (.inl ⟨rfl, rfl⟩) hq) ?_
  refine TR.val hk rfl rfl (fun ρ Q X hρ hq => sem_move (hρ _ _ rfl) hq) ?_
  refine TR.no rfl rfl (TR.no rfl rfl (TR.no rfl rfl (TR.no rfl rfl (TR.no rfl rfl ?_))))
  refine TR.val (v := .bool false) hk rfl rfl (fun ρ Q X hρ hq => sem_pick (b := false) (hρ _ _ rfl) (by show ρ _ = _; exact hρ _ _ rfl) hq) ?_
  refine TR.done (TK.cond (t := false) rfl (TK.skip (TK.seq (TK.region ?_))))
  refine TR.val hk rfl rfl (fun ρ Q X hρ hq => sem_load1 (hρ _ _ rfl) w0 hq) ?_
  refine TR.val hk rfl rfl (fun ρ Q X hρ hq => sem_nilCheck (hρ _ _ rfl) hq) ?_
  refine TR.val hk rfl rfl (fun ρ Q X hρ hq => sem_fieldAddr (hρ _ _ rfl) hq) ?_
  refine TR.unit (h' := hset h ⟨γ.p.tb i, 13, none⟩ (.bool true)) hk rfl (fun ρ Q X hρ hq => sem_store1 (hρ _ _ rfl) (hρ _ _ rfl) (by simp [OneCell]) ⟨_, hcell_of hrow rfl⟩ (hfroz_of hrow) (T.freeRow (by decide)) hq) ?_
  refine TR.done (TK.region ?_)
  refine TR.val hk rfl rfl (fun ρ Q X hρ hq => sem_load1 (hρ _ _ rfl) e0 hq) ?_
  refine TR.val hk rfl rfl (fun ρ Q X hρ hq => sem_nilCheck (hρ _ _ rfl) hq) ?_
  refine TR.val hk rfl rfl (fun ρ Q X hρ hq => sem_fieldAddr (hρ _ _ rfl) hq) ?_
  refine TR.val hk rfl rfl (fun ρ Q X hρ hq => sem_load1 (hρ _ _ rfl) e1 hq) ?_
  refine TR.val hk rfl rfl (fun ρ Q X hρ hq => sem_buildS (cells := #[]) hρ rfl rfl hq) ?_
  exact tellsG T.run rfl rfl rfl (acc_same γ.p i).2.2.1 (others_over T) p0 (ut_same _ _ _) (fun a ka => quits_end rfl rfl ka.defers hd (.inl rfl))
set_option maxHeartbeats 1000000 in
set_option maxRecDepth 8000 in
theorem stop_okG (hX : X.Ok) {a1 : Act} {todo : List Item} {rb bx : Nat} (hd : a1.defers = []) (T : Stp X i γ h) (hb : bx = γ.p.bx i) (hb' : rb = γ.p.br i) :
    Runs Try.prog false (SitT Try.prog (PX X) (i + 1)) (EndT Try.prog (PX X) (i + 1)) (G (Frame.enter Try.prog 175 #[ptr rb, ptr bx] .deferred) [{ (fb 174 .deferred).at a1 todo with mode := .panicking [{ v := stopV, recovered := false }] }, rootFr Try.prog]) h ⟨0, γ⟩ := by
  subst hb hb'
  have hk : CallKind.deferred ≠ .early := by decide
  obtain ⟨v, t, o, c, b, n, w, y, k, hat, hrow⟩ := T.row
  obtain ⟨p0, e1, e0⟩ := T.ends hX
  obtain ⟨s, M, g⟩ := T.P.held.gi
  have w0 : hcell h ⟨γ.p.bx i, 0, none⟩ = some (ptr (γ.p.tb i)) := hcell_of (g.bxAt T.P.lt) rfl
  have w1 : hcell h ⟨γ.p.br i, 0, none⟩ = some (ptr γ.p.R) := hcell_of (g.brAt T.P.lt) rfl
  have hrun := g.runAt
  rw [T.stops] at hrun
  have w2 : hcell h ⟨γ.p.R, 6, none⟩ = some (.bool true) := hcell_of hrun rfl
  have hst : ¬ (SitT Try.prog (PX X) (i + 1)).still γ ⟨γ.p.tb i, 13, none⟩ := by
    intro x
    have hi := g.all (.t i) T.P.lt
    rcases still_of T.P.run x with e | ⟨j, hji, hj, e | e⟩
    · injection e with _ e _; exact absurd e (by decide)
    · have hj' := g.all (.t j) hj
      injection e with e _ _
      exact g.ne hi.1 hj'.1 (fun y => hji (by injection y with y; exact y.symm)) (hi.2.1.trans (e.trans hj'.2.1.symm))
    · have hj' := g.all (.bx j) hj
      injection e with e _ _
      exact g.ne hi.1 hj'.1 nofun (hi.2.1.trans (e.trans hj'.2.1.symm))
  refine TK.start (n := 30) rfl rfl ?_
  repeat' refine TK.seq ?_
  refine TK.region ?_
  refine TR.recover1 rfl rfl rfl rfl rfl ?_
  refine TR.val hk rfl rfl (fun ρ Q X hρ hq => sem_assign (hρ _ _ rfl) hq) ?_
  refine TR.done (TK.seq (TK.region ?_))
  refine TR.val hk rfl rfl (fun ρ Q X hρ hq => sem_move (hρ _ _ rfl) hq) ?_
  refine TR.val hk rfl rfl (fun ρ Q X hρ hq => sem_neqIf (b := true) (hρ _ _ rfl) (hρ _ _ rfl) (.inr ⟨_, _, rfl, rfl⟩) hq) ?_
  refine TR.val hk rfl rfl (fun ρ Q X hρ hq => sem_move (hρ _ _ rfl) hq) ?_
  refine TR.val hk rfl rfl (fun ρ Q X hρ hq => sem_load1 (hρ _ _ rfl) w1 hq) ?_
  refine TR.val hk rfl rfl (fun ρ Q X hρ hq => sem_nilCheck (hρ _ _ rfl) hq) ?_
  refine TR.val hk rfl rfl (fun ρ Q X hρ hq => sem_fieldAddr (hρ _ _ rfl) hq) ?_
  refine TR.val hk rfl rfl (fun ρ Q X hρ hq => sem_load1 (hρ _ _ rfl) w2 hq) ?_
  refine TR.val hk rfl rfl (fun ρ Q X hρ hq => sem_notB (hρ _ _ rfl) hq) ?_
  refine TR.val (v := .bool false) hk rfl rfl (fun ρ Q X hρ hq => sem_pick (b := true) (hρ _ _ rfl) (by show ρ _ = _; exact hρ _ _ rfl) hq) ?_
  refine TR.done (TK.cond (t := false) rfl (TK.skip (TK.seq (TK.region ?_))))
  refine TR.val hk rfl rfl (fun ρ Q X hρ hq => sem_load1 (hρ _ _ rfl) w0 hq) ?_
  refine TR.val hk rfl rfl (fun ρ Q X hρ hq => sem_nilCheck (hρ _ _ rfl) hq) ?_
  refine TR.val hk rfl rfl (fun ρ Q X hρ hq => sem_fieldAddr (hρ _ _ rfl) hq) ?_
  refine TR.unit (h' := hset h ⟨γ.p.tb i, 13, none⟩ (.bool true)) hk rfl (fun ρ Q X hρ hq => sem_store1 (hρ _ _ rfl) (hρ _ _ rfl) (by simp [OneCell]) ⟨_, hcell_of hrow rfl⟩ (hfroz_of hrow) hst hq) ?_
  refine TR.done (TK.region ?_)
  refine TR.val hk rfl rfl (fun ρ Q X hρ hq => sem_load1 (hρ _ _ rfl) e0 hq) ?_
  refine TR.val hk rfl rfl (fun ρ Q X hρ hq => sem_nilCheck (hρ _ _ rfl) hq) ?_
  refine TR.val hk rfl rfl (fun ρ Q X hρ hq => sem_fieldAddr (hρ _ _ rfl) hq) ?_
  refine TR.val hk rfl rfl (fun ρ Q X hρ hq => sem_load1 (hρ _ _ rfl) e1 hq) ?_
  refine TR.val hk rfl rfl (fun ρ Q X hρ hq => sem_buildS (cells := #[]) hρ rfl rfl hq) ?_
  exact tellsG (γ₁ := { γ with p := { γ.p with gone := ut γ.p.gone i true } }) T.P.run rfl rfl rfl rfl (others_stop hX) p0 (ut_same _ _ _) (fun a ka => quits_end (b1 := 174) (b2 := 175) (a1 := a1) (todo := todo) (mode := .panicking [{ v := stopV, recovered := true }]) rfl rfl ka.defers hd (.inr ⟨_, rfl⟩))
def Body (X : Us) (i : Nat) (b : FuncId) (cap : Array Value) : Prop :=
  ∀ h γ, Thr X i γ γ.p.u [] h → γ.p.st i = .born → ownOf i γ.p.log = [] → CallW Try.prog false (SitT Try.prog (PX X) (i + 1)) b (#[ptr (γ.p.tb i)] ++ cap) h ⟨0, γ⟩
    (RetP (fun _ h' δ' => ∃ γ' u L, δ' = ⟨0, γ'⟩ ∧ Along X i γ.p γ'.p ∧ Thr X i γ' u L h' ∧ X.Q i (ownOf i (γ'.p.acc i).log) .over u ∧ X.J (γ'.p.acc i).log u (γ'.p.acc i).val)
      (fun ps h' δ' => ∃ γ', δ' = ⟨0, γ'⟩ ∧ Along X i γ.p γ'.p ∧ Stp X i γ' h' ∧ ps = [{ v := stopV, recovered := false }]))
theorem thr_born {γ : GG X} {h : Hp} (hX : X.Ok) (hP : P1 X i γ h) (hb : γ.p.st i = .born) (hL : γ.p.prv i = []) : Thr X i γ γ.p.u [] h := by
  refine ⟨hP.run, hP.lt, hP.live, hP.born hb, hP.was, ?_, hP.held.I, hP.held.J, hP.held.Q, fun _ _ => hX.vrefl _ _, hP.held.upd, hP.len (hP.born hb)⟩
  rw [acc_born _ _ hb]
  have : ut γ.p.prv i [] = γ.p.prv := by rw [← hL]; exact ut_self _ _
  rw [this]
  exact hP.held.gi
set_option maxHeartbeats 1000000 in
set_option maxRecDepth 8000 in
theorem childG (hX : X.Ok) {W : Nat → Prop} {ns : List Nat} {s : Sls} {M : Mem Nm} {b : FuncId} {cap : Array Value} [HasBody Try.prog b] (g : GI X W γ.p ns s M h) (hi : i < γ.p.num) (hl : γ.p.gone i = false) (hb : γ.p.st i = .born) (hL : γ.p.prv i = []) (ho : ownOf i γ.p.log = []) (hf : γ.p.fn i = .func (.func b) #[] cap)
    (hne : ∀ x, x ≠ i + 1 → x < γ.p.num + 1 → (PX X).ch γ x ≠ some (γ.p.wk i)) (hbody : Body X i b cap) :
    SitsAt Try.prog (PX X) (i + 1) γ h (born Try.prog { target := .fn (.func 174) #[ptr (γ.p.br i), ptr (γ.p.bx i), ptr (γ.p.bf i)], args := #[] })
      (Runs Try.prog false (SitT Try.prog (PX X) (i + 1)) (EndT Try.prog (PX X) (i + 1))) := by
  have hB : ∀ a, ((PX X).cells γ (i + 1) a).isSome = true → a.block < γ.p.tb i + γ.p.bx i + 1 := fun a ha => by
    change (cT γ i a).isSome = true at ha
    unfold cT at ha
    split at ha
    · rename_i e; rw [e]; dsimp only; omega
    · split at ha
      · rename_i e; rw [e]; dsimp only; omega
      · cases ha
  have hx : γ.p.bx i ≠ γ.p.tb i := by
    have x1 := g.all (.bx i) hi
    have x2 := g.all (.t i) hi
    exact fun e => g.ne x1.1 x2.1 nofun (x1.2.1.trans (e.trans x2.2.1.symm))
  have k0 : (PX X).cells γ (i + 1) ⟨γ.p.bx i, 0, none⟩ = some (ptr (γ.p.tb i)) := by
    show cT γ i _ = _
    unfold cT
    rw [if_neg (by simp), if_pos rfl]
  have k1 : (PX X).cells γ (i + 1) ⟨γ.p.tb i, 2, none⟩ = some (.chan (some (γ.p.wk i))) := by
    show cT γ i _ = _
    unfold cT
    rw [if_pos rfl]
  have hk : CallKind.deferred ≠ .early := by decide
  obtain ⟨v, a, hat, hrow⟩ := g.thrAt hi
  refine Way.sits (main := false) (c := γ.p.wk i) (B := γ.p.tb i + γ.p.bx i + 1) rfl (by show (if γ.p.gone i = true then none else some (γ.p.wk i)) = _; rw [hl]; rfl) (fun a v hv => ?_) (g.wkAt hi) hne (Way.born hB (Way.enter (n := 14) rfl rfl ?_))
  · change cT γ i a = some v at hv
    unfold cT at hv
    split at hv
    · rename_i e; rw [e]; cases hv; exact hcell_of hrow rfl
    · split at hv
      · rename_i e; rw [e]; cases hv; exact hcell_of (g.bxAt hi) rfl
      · cases hv
  refine EY.seq hB (EY.region hB ?_)
  refine RY.makeFunc hB hk rfl rfl (fun ρ hρ => ⟨map_ofL hρ (vs := []) rfl, map_ofL hρ (vs := [ptr (γ.p.br i), ptr (γ.p.bx i)]) rfl⟩) ?_
  refine RY.defer (dd := { target := .fn (.func 175) #[ptr (γ.p.br i), ptr (γ.p.bx i)], args := #[] }) hB hk rfl (fun ρ hρ => ?_) ?_
  · show SemR _ _ (Deferred.ofValue (ρ (.tmp 3)) ((#[] : Array Operand).map ρ) >>= fun d => pure (Next.defer d)) _
    rw [hρ (.tmp 3) _ rfl]
    show Next.defer { target := .fn (.func 175) #[ptr (γ.p.br i), ptr (γ.p.bx i)], args := #[] ++ (#[] : Array Operand).map ρ } = _
    simp
  refine RY.done hB (EY.seq hB (EY.region hB ?_))
  refine RY.load1 hB hk rfl rfl rfl k0 ?_
  refine RY.nilCheck hB hk rfl rfl rfl ?_
  refine RY.fieldAddr hB hk rfl rfl rfl ?_
  refine RY.load1 hB hk rfl rfl rfl k1 ?_
  refine RY.recv (Und.out (P := Try.prog)) hB hk rfl rfl rfl fun rest hr a ka γ₂ h₂ hR hP => ?_
  refine (?_ : TR Try.prog false (SitT Try.prog (PX X) (i + 1)) (EndT Try.prog (PX X) (i + 1)) _ _ .deferred _ _ _ _ _ _ h₂ ⟨0, γ₂⟩) rest hr a ka
  have hV : View X i γ.p γ₂.p := hR
  have hP1 : P1 X i γ₂ h₂ := hP
  have T : Thr X i γ₂ γ₂.p.u [] h₂ := thr_born hX hP1 (hV.st.trans hb) (hV.prv.trans hL)
  obtain ⟨s2, M2, g2⟩ := hP1.held.gi
  have wf : hcell h₂ ⟨γ.p.bf i, 0, none⟩ = some (.func (.func b) #[] cap) := by
    have := g2.bfAt hP1.lt
    rw [hV.bf, hV.fn, hf] at this
    exact hcell_of this rfl
  have w0 : hcell h₂ ⟨γ.p.bx i, 0, none⟩ = some (ptr (γ.p.tb i)) := by
    have := g2.bxAt hP1.lt
    rw [hV.bx, hV.tb] at this
    exact hcell_of this rfl
  refine TR.done (TK.seq (TK.region ?_))
  refine TR.val hk rfl rfl (fun ρ Q X hρ hq => sem_load1 (hρ _ _ rfl) wf hq) ?_
  refine TR.val hk rfl rfl (fun ρ Q X hρ hq => sem_neqV (r := false) (hρ _ _ rfl) (hρ _ _ rfl) rfl hq) ?_
  refine TR.done (TK.cond (t := true) rfl (TK.region ?_))
  refine TR.val hk rfl rfl (fun ρ Q X hρ hq => sem_load1 (hρ _ _ rfl) wf hq) ?_
  refine TR.val hk rfl rfl (fun ρ Q X hρ hq => sem_load1 (hρ _ _ rfl) w0 hq) ?_
  have hbd := hbody h₂ γ₂ T (hV.st.trans hb) (hV.own.trans ho)
  rw [hV.tb] at hbd
  refine TR.call hk rfl rfl (fun ρ Q X hρ hq => semW_callF rfl (hρ _ _ rfl) (map_ofL hρ (vs := [ptr (γ.p.tb i)]) rfl) (by rw [Array.empty_append]; exact hq)) hbd ?_ ?_
  · rintro v h₃ δ₃ ⟨γ', u', L', rfl, al, T', hQ, hJ⟩
    refine TR.done (TK.done (TU.defer (by simp) fun a todo ka => ?_))
    exact over_okG hX ka.defers T' (hV.bx.symm.trans al.bx.symm) hQ hJ
  · rintro ps h₃ δ₃ ⟨γ', rfl, al, T', rfl⟩
    refine TU.defer (by simp) fun a todo ka => ?_
    exact stop_okG hX ka.defers T' (hV.bx.symm.trans al.bx.symm) (hV.br.symm.trans al.br.symm)
end
end Go.Proofs.Ytcpcdnkemobneaa
end
section
namespace Go.Proofs.Ytcpcdnkemobneaa
open Go Go.TJ Go.Conc Go.Proofs
section
variable {X : Us} {W : Nat → Prop} {p : PS X.U} {ns : List Nat} {s : Sls} {M : Mem Nm} {h : Hp} {γ : GG X} {j : Nat}
def Mine (X : Us) (p0 p : PS X.U) : Prop := (∃ a b c, p = { p0 with went := a, rdy := b, stops := c }) ∨ (p0.num = 0 ∧ p.num = 0)
theorem Mine.refl (p : PS X.U) : Mine X p p := .inl ⟨p.went, p.rdy, p.stops, rfl⟩
theorem Mine.num {p0 : PS X.U} (m : Mine X p0 p) : p.num = p0.num := by
  rcases m with ⟨a, b, c, rfl⟩ | ⟨h1, h2⟩
  · rfl
  · rw [h1, h2]
theorem Mine.more {p0 p' : PS X.U} (m : Mine X p0 p) {a b : List Nat} {c : Bool} (e : p' = { p with went := a, rdy := b, stops := c }) : Mine X p0 p' := by
  subst e
  rcases m with ⟨_, _, _, rfl⟩ | ⟨h1, h2⟩
  · exact .inl ⟨a, b, c, rfl⟩
  · exact .inr ⟨h1, h2⟩
theorem Mine.view (hX : X.Ok) {p0 : PS X.U} (m : Mine X p0 p) {x : Nat} (hx : x < p0.num) : View X x p0 p := by
  rcases m with ⟨a, b, c, rfl⟩ | ⟨h1, _⟩
  · exact ⟨Nat.le_refl _, rfl, rfl, rfl, rfl, rfl, rfl, rfl, rfl, rfl, rfl, rfl, rfl, hX.vrefl _ _⟩
  · omega
theorem stillM_of {a : Addr} (x : (PX X).still 0 γ a) : ∃ j, j < γ.p.num ∧ γ.p.gone j = false ∧ (a = ⟨γ.p.tb j, 2, none⟩ ∨ a = ⟨γ.p.bx j, 0, none⟩) := by
  obtain ⟨j, h1, h2, h3, h4⟩ := x
  cases j with
  | zero => exact absurd rfl h1
  | succ j =>
    change (cT γ j a).isSome = true at h4
    change (if γ.p.gone j = true then none else some (γ.p.wk j)).isSome = true at h3
    have hj : j < γ.p.num := Nat.lt_of_succ_lt_succ h2
    have hg : γ.p.gone j = false := by
      cases e : γ.p.gone j with
      | false => rfl
      | true => rw [e] at h3; cases h3
    refine ⟨j, hj, hg, ?_⟩
    unfold cT at h4
    split at h4
    · rename_i e; exact .inl e
    · split at h4
      · rename_i e; exact .inr e
      · cases h4
theorem stillM_nm (hv : Mine X γ.p p) (g : GI X W p ns s M h) {k : Nm} (hk : M.ok k) (hne : ∀ j, k ≠ .t j ∧ k ≠ .bx j) {c : Nat} : ¬ (SitM Try.prog (PX X)).still γ ⟨M.B k, c, none⟩ := by
  intro y
  obtain ⟨j, hj, _, e⟩ := stillM_of y
  obtain ⟨a, b, d, rfl⟩ := hv.resolve_right (fun x => by omega)
  rcases e with e | e
  · have := g.all (.t j) hj
    refine g.ne hk this.1 (hne j).1 ?_
    rw [this.2.1]; injection e with e
  · have := g.all (.bx j) hj
    refine g.ne hk this.1 (hne j).2 ?_
    rw [this.2.1]; injection e with e
theorem stillM_out (hv : Mine X γ.p p) (g : GI X W p ns s M h) {b : Nat} (hb : ∀ k, M.ok k → M.B k ≠ b) {c : Nat} : ¬ (SitM Try.prog (PX X)).still γ ⟨b, c, none⟩ := by
  intro y
  obtain ⟨j, hj, _, e⟩ := stillM_of y
  obtain ⟨a, b', d, rfl⟩ := hv.resolve_right (fun x => by omega)
  rcases e with e | e
  · have := g.all (.t j) hj
    exact hb _ this.1 (this.2.1.trans (by injection e with e; exact e.symm))
  · have := g.all (.bx j) hj
    exact hb _ this.1 (this.2.1.trans (by injection e with e; exact e.symm))
theorem stillM_new (hv : Mine X γ.p p) (g : GI X W p ns s M h) {b : Nat} (hb : h.size ≤ b) {c : Nat} : ¬ (SitM Try.prog (PX X)).still γ ⟨b, c, none⟩ :=
  stillM_out hv g (fun k hk e => by have := g.lt hk; omega)
def Ours (X : Us) (p : PS X.U) (M : Mem Nm) (b : Nat) : Prop := (∃ k, M.ok k ∧ M.B k = b) ∨ X.isC b ∨ X.Dom p.u b ∨ ∃ i, i < p.num ∧ ∃ q, q ∈ p.prv i ∧ q.1 = b
theorem GI.ours (g : GI X W p ns s M h) : GI X (Ours X p M) p ns s M h :=
  ⟨g.rep, g.all, fun k hk => .inl ⟨k, hk, rfl⟩, fun b hb => ⟨(g.cel b hb).1, .inr (.inl hb)⟩, g.apart, fun b hb => ⟨(g.dom b hb).1, .inr (.inr (.inl hb))⟩, g.num, g.isin, fun i hi q hq => ⟨(g.prv i hi q hq).1, .inr (.inr (.inr ⟨i, hi, q, hq, rfl⟩)), (g.prv i hi q hq).2.2⟩, g.cross⟩
theorem turned_same {was p : PS X.U} {i : Nat} (x : Turned X was p i) : p.R = was.R ∧ p.mb = was.mb ∧ p.num = was.num ∧ p.fl = was.fl ∧ p.tb = was.tb ∧ p.wk = was.wk ∧ p.sd = was.sd ∧ p.bx = was.bx ∧ p.bf = was.bf ∧ p.br = was.br ∧ p.fn = was.fn ∧ p.went = was.went ∧ p.rdy = was.rdy ∧ p.stops = was.stops := by
  rcases x with ⟨_, u, L, t, rfl, _⟩ | ⟨_, rfl⟩
  · obtain ⟨a1, a2, a3, a4, a5, a6, a7, a8, a9, a10, a11, a12, a13, a14, a15, a16, a17, a18⟩ := acc_same was i
    exact ⟨a1, a2, a3, a18, a4, a5, a6, a7, a8, a9, a10, a14, a15, a16⟩
  · exact ⟨rfl, rfl, rfl, rfl, rfl, rfl, rfl, rfl, rfl, rfl, rfl, rfl, rfl, rfl⟩
set_option maxHeartbeats 1000000 in
set_option maxRecDepth 8000 in
theorem goesG (hX : X.Ok) (hv : Mine X γ.p p) (g : GI X W p (nums p.log) s M h) (hI : X.I p.u h) (hJ : X.J p.log p.u p.val) (hQ : ∀ x, X.Q x (ownOf x p.log) (p.st x) p.u) (hj : j < p.num) (hl : p.gone j = false) (hlen : p.stops = false → p.log.length < 65536) (hbn : p.st j = .born → p.stops = false) :
    CallW Try.prog true (SitM Try.prog (PX X)) 146 #[ptr (p.tb j)] h ⟨0, γ⟩ (Ret fun _ h' δ' => ∃ γ', δ' = ⟨0, γ'⟩ ∧ γ'.was = p ∧ γ'.base = h ∧ γ'.W = W ∧ γ'.run = j ∧ P0 X γ' h') := by
  have hB : ∀ a, (cM { p := p, was := p, base := h, W := W, run := j } a).isSome = true → a.block < p.tb j + 1 := fun a ha => by
    unfold cM at ha
    split at ha
    · rename_i e; rw [e]; exact Nat.lt_succ_self _
    · cases ha
  obtain ⟨v, a, hat, hrow⟩ := g.thrAt hj
  have w1 : hcell h ⟨p.tb j, 2, none⟩ = some (.chan (some (p.wk j))) := hcell_of hrow rfl
  have w2 : hcell h ⟨p.tb j, 3, none⟩ = some (.chan (some (p.sd j))) := hcell_of hrow rfl
  clear hrow hat
  have hview := fun {x} => hv.view hX (x := x)
  have hv := hv.resolve_right (fun x => by omega)
  have hvn : p.num = γ.p.num ∧ p.gone = γ.p.gone ∧ p.wk = γ.p.wk ∧ p.tb = γ.p.tb ∧ p.bx = γ.p.bx := by
    obtain ⟨a, b, c, rfl⟩ := hv
    exact ⟨rfl, rfl, rfl, rfl, rfl⟩
  obtain ⟨v1, v2, v3, v4, v5⟩ := hvn
  refine CallW.start (n := 12) rfl rfl ?_
  (repeat (first | refine EK.seq ?_ | refine EK.region ?_ | refine ER.move rfl rfl rfl ?_ | refine ER.nilCheck rfl rfl rfl ?_ | refine ER.fieldAddr rfl rfl rfl ?_))
  refine ER.load1 rfl rfl rfl w1 ?_
  refine ER.buildS (cells := #[]) rfl rfl rfl rfl ?_
  refine ER.gives (X := PX X) (i := 0) (j := j + 1) (c := p.wk j) (c' := p.sd j) (B := p.tb j + 1) (γ₁ := { p := p, was := p, base := h, W := W, run := j }) rfl (fun _ _ _ _ x => Or.inl ⟨j + 1, x⟩) rfl rfl rfl rfl (Nat.succ_ne_zero _) ?a1 ?a2 ?a3 ?a4 ?a5 rfl ?a6 (g.sdAt hj) ?a7 ?way
  case a1 => show j + 1 < γ.p.num + 1; rw [← v1]; exact Nat.succ_lt_succ hj
  case a2 => show (if γ.p.gone j = true then none else some (γ.p.wk j)) = _; rw [← v2, ← v3, hl]; rfl
  case a3 => show p.num + 1 = γ.p.num + 1; rw [v1]
  case a4 =>
    intro x hx hlt
    cases x with
    | zero => exact absurd rfl hx
    | succ k =>
      refine ⟨?_, ?_, hview (Nat.lt_of_succ_lt_succ hlt)⟩
      · show (if p.gone k = true then none else some (p.wk k)) = (if γ.p.gone k = true then none else some (γ.p.wk k)); rw [v2, v3]
      · show cT _ k = cT γ k
        funext a
        show (if a = ⟨p.tb k, 2, none⟩ then some (Value.chan (some (p.wk k))) else if a = ⟨p.bx k, 0, none⟩ then some (.pointer (some ⟨p.tb k, 0, none⟩)) else none) = (if a = ⟨γ.p.tb k, 2, none⟩ then some (Value.chan (some (γ.p.wk k))) else if a = ⟨γ.p.bx k, 0, none⟩ then some (.pointer (some ⟨γ.p.tb k, 0, none⟩)) else none)
        rw [v3, v4, v5]
  case a5 => exact ⟨rfl, hj, hl, rfl, ⟨⟨s, M, g.monoW (fun _ x => .inl x)⟩, hI, hJ, hQ, Upd.refl _ _⟩, hlen, hbn⟩
  case a6 =>
    intro a v hv
    change cM _ a = some v at hv
    unfold cM at hv
    split at hv
    · rename_i e; rw [e]; cases hv; exact w2
    · cases hv
  case a7 =>
    intro x hx hlt e
    cases x with
    | zero => exact absurd rfl hx
    | succ k =>
      change (if p.gone k = true then none else some (p.wk k)) = some (p.sd j) at e
      split at e
      · cases e
      · have e' := Option.some.inj e
        have wi := g.all (.wk k) (Nat.lt_of_succ_lt_succ hlt)
        have si := g.all (.sd j) hj
        exact g.ne wi.1 si.1 nofun (wi.2.1.trans (e'.trans si.2.1.symm))
  case way =>
    intro kind hk cs
    refine RY.done hB (EY.region hB ?_)
    refine RY.move hB hk rfl rfl rfl ?_
    refine RY.nilCheck hB hk rfl rfl rfl ?_
    refine RY.fieldAddr hB hk rfl rfl rfl ?_
    refine RY.load1 (v := .chan (some (p.sd j))) hB hk rfl rfl rfl (by show cM _ _ = _; unfold cM; rw [if_pos rfl]) ?_
    refine RY.recvE hB hk rfl rfl rfl ?_
    intro γ₂ h₂ hR hP
    obtain ⟨r1, r2, r3, r4⟩ := hR
    (repeat refine ER.done ?_)
    exact EK.done (EU.ret0 rfl ⟨γ₂, rfl, r1, r2, r3, r4, hP⟩)
end
end Go.Proofs.Ytcpcdnkemobneaa
end
section
namespace Go.Proofs.Ytcpcdnkemobneaa
open Go Go.TJ Go.Conc Go.Proofs
def PS.newT {U : Type} (p : PS U) (t w sd bx bf br : Nat) (fv : Value) : PS U := { p with num := p.num + 1, tb := ut p.tb p.num t, wk := ut p.wk p.num w, sd := ut p.sd p.num sd, bx := ut p.bx p.num bx, bf := ut p.bf p.num bf, br := ut p.br p.num br, fn := ut p.fn p.num fv, st := ut p.st p.num .born, gone := ut p.gone p.num false, prv := ut p.prv p.num [] }
section
variable {X : Us} {W : Nat → Prop} {p : PS X.U} {ns : List Nat} {s : Sls} {M : Mem Nm} {h : Hp} {n0 : Nat}
structure NewNm (p : PS X.U) (M : Mem Nm) (t w sd bx bf br : Nat) (fv : Value) : Prop where
  nt : M.ok (.t p.num) ∧ M.B (.t p.num) = t ∧ M.O (.t p.num) = thrO p.R p.num w sd (.pointer none) (accL 0 0 0 0 0 0 0 false) false
  nwk : M.ok (.wk p.num) ∧ M.B (.wk p.num) = w ∧ M.O (.wk p.num) = chan0
  nsd : M.ok (.sd p.num) ∧ M.B (.sd p.num) = sd ∧ M.O (.sd p.num) = chan0
  nbx : M.ok (.bx p.num) ∧ M.B (.bx p.num) = bx ∧ M.O (.bx p.num) = .cells #[ptr t] 32 (0, 0)
  nbf : M.ok (.bf p.num) ∧ M.B (.bf p.num) = bf ∧ M.O (.bf p.num) = .cells #[fv] 45 (0, 0)
  nbr : M.ok (.br p.num) ∧ M.B (.br p.num) = br ∧ M.O (.br p.num) = .cells #[ptr p.R] 192 (0, 0)
theorem put_at {M : Mem Nm} {k : Nm} {b : Nat} {o : Obj} : (M.put k b o).ok k ∧ (M.put k b o).B k = b ∧ (M.put k b o).O k = o := ⟨.inl rfl, ut_same M.B _ _, ut_same M.O _ _⟩
theorem put_ne {M : Mem Nm} {k k' : Nm} {b b' : Nat} {o o' : Obj} (hk : k' ≠ k) (x : M.ok k' ∧ M.B k' = b' ∧ M.O k' = o') : (M.put k b o).ok k' ∧ (M.put k b o).B k' = b' ∧ (M.put k b o).O k' = o' := ⟨.inr x.1, (ut_ne M.B _ hk).trans x.2.1, (ut_ne M.O _ hk).trans x.2.2⟩
theorem GI.newThr (g : GI X W p ns s M h) {t w sd bx bf br : Nat} {fv : Value} (o1 : h[t]? = some (thrO p.R p.num w sd (.pointer none) (accL 0 0 0 0 0 0 0 false) false)) (o2 : h[w]? = some chan0) (o3 : h[sd]? = some chan0) (o4 : h[bx]? = some (.cells #[ptr t] 32 (0, 0))) (o5 : h[bf]? = some (.cells #[fv] 45 (0, 0))) (o6 : h[br]? = some (.cells #[ptr p.R] 192 (0, 0)))
    (hne : w ≠ sd) (f1 : n0 ≤ t) (f2 : n0 ≤ w) (f3 : n0 ≤ sd) (f4 : n0 ≤ bx) (f5 : n0 ≤ bf) (f6 : n0 ≤ br) (old : ∀ k, M.ok k → M.B k < n0) (oC : ∀ b, X.isC b → b < n0) (oD : ∀ b, X.Dom p.u b → b < n0) (oP : ∀ i, i < p.num → ∀ q, q ∈ p.prv i → q.1 < n0) (hW : ∀ b, n0 ≤ b → W b) :
    ∃ M', GI X W p ns s M' h ∧ NewNm p M' t w sd bx bf br fv := by
  have irr : ∀ {P : Prop}, p.num < p.num → P := fun x => absurd x (Nat.lt_irrefl _)
  have nC : ∀ b, n0 ≤ b → ¬ X.isC b := fun b hb x => by have := oC b x; omega
  have nD : ∀ b, n0 ≤ b → ¬ X.Dom p.u b := fun b hb x => by have := oD b x; omega
  have nP : ∀ b, n0 ≤ b → ∀ i, i < p.num → ∀ q, q ∈ p.prv i → q.1 ≠ b := fun b hb i hi q hq e => by have := oP i hi q hq; omega
  have obj : ∀ {a b : Nat} {x y : Obj}, h[a]? = some x → h[b]? = some y → x ≠ y → a ≠ b := fun {a b x y} ha hb hxy e => hxy (Option.some.inj (ha.symm.trans ((congrArg (h[·]?) e).trans hb)))
  have bk : ∀ {N : Mem Nm} {k : Nm} {b : Nat} {o : Obj} {c : Nat}, (∀ k', N.ok k' → N.B k' ≠ c) → b ≠ c → ∀ k', (N.put k b o).ok k' → (N.put k b o).B k' ≠ c := fun {N k b o c} hN hb k' hk' => by
    by_cases e : k' = k
    · subst e; rw [show (N.put k' b o).B k' = b from ut_same N.B _ _]; exact hb
    · rw [show (N.put k b o).B k' = N.B k' from ut_ne N.B _ e]; exact hN k' (hk'.resolve_left e)
  have b0 : ∀ c, n0 ≤ c → ∀ k', M.ok k' → M.B k' ≠ c := fun c hc k' hk' e => by have := old k' hk'; omega
  have g1 := g.putAt (k := .t p.num) o1 (fun k' hk' _ => b0 t f1 k' hk') (hW _ f1) (nC _ f1) (nD _ f1) (nP _ f1) irr
  have g2 := g1.putAt (k := .wk p.num) o2 (fun k' hk' _ => bk (b0 w f2) (obj o1 o2 nofun) k' hk') (hW _ f2) (nC _ f2) (nD _ f2) (nP _ f2) irr
  have g3 := g2.putAt (k := .sd p.num) o3 (fun k' hk' _ => bk (bk (b0 sd f3) (obj o1 o3 nofun)) hne k' hk') (hW _ f3) (nC _ f3) (nD _ f3) (nP _ f3) irr
  have g4 := g3.putAt (k := .bx p.num) o4 (fun k' hk' _ => bk (bk (bk (b0 bx f4) (obj o1 o4 (by unfold thrO; intro e; injection e with _ e _; revert e; decide))) (obj o2 o4 nofun)) (obj o3 o4 nofun) k' hk') (hW _ f4) (nC _ f4) (nD _ f4) (nP _ f4) irr
  have g5 := g4.putAt (k := .bf p.num) o5 (fun k' hk' _ => bk (bk (bk (bk (b0 bf f5) (obj o1 o5 (by unfold thrO; intro e; injection e with _ e _; revert e; decide))) (obj o2 o5 nofun)) (obj o3 o5 nofun)) (obj o4 o5 (by intro e; injection e with _ e _; revert e; decide)) k' hk') (hW _ f5) (nC _ f5) (nD _ f5) (nP _ f5) irr
  have g6 := g5.putAt (k := .br p.num) o6 (fun k' hk' _ => bk (bk (bk (bk (bk (b0 br f6) (obj o1 o6 (by unfold thrO; intro e; injection e with _ e _; revert e; decide))) (obj o2 o6 nofun)) (obj o3 o6 nofun)) (obj o4 o6 (by intro e; injection e with _ e _; revert e; decide))) (obj o5 o6 (by intro e; injection e with _ e _; revert e; decide)) k' hk') (hW _ f6) (nC _ f6) (nD _ f6) (nP _ f6) irr
  refine ⟨_, g6, ?_, ?_, ?_, ?_, ?_, put_at⟩
  · exact put_ne nofun (put_ne nofun (put_ne nofun (put_ne nofun (put_ne nofun put_at))))
  · exact put_ne nofun (put_ne nofun (put_ne nofun (put_ne nofun put_at)))
  · exact put_ne nofun (put_ne nofun (put_ne nofun put_at))
  · exact put_ne nofun (put_ne nofun put_at)
  · exact put_ne nofun put_at
theorem nm_newT (g : GI X W p ns s M h) {t w sd bx bf br : Nat} {fv : Value} (N : NewNm p M t w sd bx bf br fv) (s' : Value) (k' : Nm) (h1 : k' ≠ .thr) (h2 : k' ≠ .run) : NmOk (p.newT t w sd bx bf br fv) ns { s with T := s' } M k' := by
  have y := g.all k'
  have sp : ∀ {i}, i < p.num + 1 → i = p.num ∨ (i < p.num ∧ i ≠ p.num) := fun {i} hi => by omega
  cases k' with
  | thr => exact absurd rfl h1
  | run => exact absurd rfl h2
  | t i =>
    intro hi
    rcases sp hi with rfl | ⟨hl, hn⟩
    · refine ⟨N.nt.1, N.nt.2.1.trans (ut_same _ _ _).symm, .pointer none, accL 0 0 0 0 0 0 0 false, ?_, ?_⟩
      · show AtOk _ (ut p.st p.num .born p.num) _ _; rw [ut_same]; exact ⟨rfl, rfl⟩
      · show _ = thrO p.R p.num (ut p.wk p.num w p.num) (ut p.sd p.num sd p.num) _ _ (ut p.gone p.num false p.num)
        rw [ut_same, ut_same, ut_same]; exact N.nt.2.2
    · obtain ⟨y1, y2, v, a, y3, y4⟩ := y hl
      refine ⟨y1, y2.trans (ut_ne _ _ hn).symm, v, a, ?_, ?_⟩
      · show AtOk _ (ut p.st p.num .born i) _ _; rw [ut_ne _ _ hn]; exact y3
      · show _ = thrO p.R i (ut p.wk p.num w i) (ut p.sd p.num sd i) _ _ (ut p.gone p.num false i)
        rw [ut_ne _ _ hn, ut_ne _ _ hn, ut_ne _ _ hn]; exact y4
  | wk i =>
    intro hi
    rcases sp hi with rfl | ⟨hl, hn⟩
    · exact ⟨N.nwk.1, N.nwk.2.1.trans (ut_same _ _ _).symm, 0, N.nwk.2.2⟩
    · obtain ⟨y1, y2, y3⟩ := y hl; exact ⟨y1, y2.trans (ut_ne _ _ hn).symm, y3⟩
  | sd i =>
    intro hi
    rcases sp hi with rfl | ⟨hl, hn⟩
    · exact ⟨N.nsd.1, N.nsd.2.1.trans (ut_same _ _ _).symm, 0, N.nsd.2.2⟩
    · obtain ⟨y1, y2, y3⟩ := y hl; exact ⟨y1, y2.trans (ut_ne _ _ hn).symm, y3⟩
  | bx i =>
    intro hi
    rcases sp hi with rfl | ⟨hl, hn⟩
    · refine ⟨N.nbx.1, N.nbx.2.1.trans (ut_same _ _ _).symm, ?_⟩
      show _ = Obj.cells #[ptr (ut p.tb p.num t p.num)] _ _
      rw [ut_same]; exact N.nbx.2.2
    · obtain ⟨y1, y2, y3⟩ := y hl
      refine ⟨y1, y2.trans (ut_ne _ _ hn).symm, ?_⟩
      show _ = Obj.cells #[ptr (ut p.tb p.num t i)] _ _
      rw [ut_ne _ _ hn]; exact y3
  | bf i =>
    intro hi
    rcases sp hi with rfl | ⟨hl, hn⟩
    · refine ⟨N.nbf.1, N.nbf.2.1.trans (ut_same _ _ _).symm, ?_⟩
      show _ = Obj.cells #[ut p.fn p.num fv p.num] _ _
      rw [ut_same]; exact N.nbf.2.2
    · obtain ⟨y1, y2, y3⟩ := y hl
      refine ⟨y1, y2.trans (ut_ne _ _ hn).symm, ?_⟩
      show _ = Obj.cells #[ut p.fn p.num fv i] _ _
      rw [ut_ne _ _ hn]; exact y3
  | br i =>
    intro hi
    rcases sp hi with rfl | ⟨hl, hn⟩
    · exact ⟨N.nbr.1, N.nbr.2.1.trans (ut_same _ _ _).symm, N.nbr.2.2⟩
    · obtain ⟨y1, y2, y3⟩ := y hl; exact ⟨y1, y2.trans (ut_ne _ _ hn).symm, y3⟩
  | _ => exact y
end
end Go.Proofs.Ytcpcdnkemobneaa
end
