/- Steps of the walk and of the plain law (CountYP to CountYNewS). Conditions: as each lemma says. -/
import Derived.Test.YtcpcdnkemobneaaCQD
namespace Go.Proofs.Ytcpcdnkemobneaa
section
open Go Go.TJ Go.Conc Go.Proofs
def callC (n : Nat) (B : Nat -> Nat) (tk : Int) (f : Nat) (q : GCall) (k : GAns -> Pr GAns) : Pr GAns :=
  if q.1 = 0 then addP n B q.2.1 q.2.2 (k (0, false, 0)) else if q.1 = 1 then sumP B (fun v => k (v, false, 0)) n 0 0 else if q.1 = 2 then raiseP (B (4 + n)) q.2.2 (fun b => k (0, b, 0)) f
  else if q.1 = 3 then loadP (B (4 + n)) (fun v => k (v, false, 0)) else if q.1 = 4 then takeP (B (5 + n)) (fun b => k (0, b, 0)) f else if q.1 = 5 then backP (B (5 + n)) tk (fun e => k (0, false, e)) f
  else if q.1 = 6 then loadP (B (5 + n)) (fun v => k (v, false, 0)) else k (0, false, 0)
section
variable {n f : Nat} {B : Nat -> Nat} {tk w v d : Int} {k : GAns -> Pr GAns}
theorem callC0 : callC n B tk f (0, w, v) k = addP n B w v (k (0, false, 0)) := if_pos rfl
theorem callC1 : callC n B tk f (1, w, v) k = sumP B (fun v => k (v, false, 0)) n 0 0 := by simp [callC]
theorem callC2 : callC n B tk f (2, w, v) k = raiseP (B (4 + n)) v (fun b => k (0, b, 0)) f := by simp [callC]
theorem callC3 : callC n B tk f (3, w, v) k = loadP (B (4 + n)) (fun v => k (v, false, 0)) := by simp [callC]
theorem callC4 : callC n B tk f (4, w, v) k = takeP (B (5 + n)) (fun b => k (0, b, 0)) f := by simp [callC]
theorem callC5 : callC n B tk f (5, w, v) k = backP (B (5 + n)) tk (fun e => k (0, false, e)) f := by simp [callC]
theorem callC6 : callC n B tk f (6, w, v) k = loadP (B (5 + n)) (fun v => k (v, false, 0)) := by simp [callC]
theorem callC7 (h0 : d ≠ 0) (h1 : d ≠ 1) (h2 : d ≠ 2) (h3 : d ≠ 3) (h4 : d ≠ 4) (h5 : d ≠ 5) (h6 : d ≠ 6) : callC n B tk f (d, w, v) k = k (0, false, 0) := (if_neg h0).trans ((if_neg h1).trans ((if_neg h2).trans ((if_neg h3).trans ((if_neg h4).trans ((if_neg h5).trans (if_neg h6))))))
end
theorem CodX.weaken {X : Us} {A : Type} {P : Nat -> Pr A} {told : X.U -> Nat -> List A} {M M' : Hp -> Prop} (K : CodX X P told M) (hm : ∀ h, M h -> M' h) : CodX X P told M' := ⟨K.ok, K.prog, fun u h I => hm h (K.mem u h I), K.j⟩
section
variable {c : TC GAns} {n cap f : Nat} {rest : List Value} {B : Nat -> Nat} {tk : Int} {i : Nat} {γ γ' : GG (UsT c)} {u : (UsT c).U} {L : List (Nat × Obj)} {h h' : Hp}
set_option maxRecDepth 8000 in
set_option maxHeartbeats 8000000 in
theorem ccall_T (ok : c.old c.T) (ok2 : c.old c.S0) (hTS : c.T ≠ c.S0) (hc : c.c0 = B 0 /\ c.p0 = B 2 /\ c.k0 = B 3) (K : CodX (UsT c) c.P (fun u i => (u.1 i).1) (CntH n cap rest B tk)) (D : CntK (UsT c) n B) (hf : 65536 < f) {q : GCall} {k : GAns -> Pr GAns} {t : Nat} (a : AtP (UsT c) c.P (fun u i => (u.1 i).1) i γ u L h (callC n B tk f q k)) (ht : t = γ.p.tb i) :
    CallW Try.prog false (SitT Try.prog (PX (UsT c)) (i + 1)) 117 #[ptr c.S0, ptr t, .agg (gcallL q).toArray] h ⟨0, γ⟩ (RetP (fun w h' δ' => ∃ (γ' : GG (UsT c)) (u' : (UsT c).U) (e : GAns), δ' = ⟨0, γ'⟩ /\ w = .agg (gansL e).toArray /\ CallP (UsT c) c.P (fun u i => (u.1 i).1) i γ u L γ' u' h' (k e)) (Halt (UsT c) i γ.p)) := by
  subst ht
  obtain ⟨d, w, v⟩ := q
  obtain ⟨hc0, hp0, hk0⟩ := hc
  obtain ⟨y5, hy5⟩ : ∃ y5, y5 = h.size := ⟨_, rfl⟩
  obtain ⟨y6, hy6⟩ : ∃ y6, y6 = (h.push (.cells (gcallL (d, w, v)).toArray 119)).size := ⟨_, rfl⟩
  have T1 : Thr (UsT c) i γ u ((y6, gansO (0, false, 0)) :: (y5, .cells (gcallL (d, w, v)).toArray 119) :: L) ((h.push (.cells (gcallL (d, w, v)).toArray 119)).push (gansO (0, false, 0))) := by
    rw [hy5, hy6]
    exact (a.thr.alloc K.ok _).alloc K.ok _
  have a1 : AtP (UsT c) c.P (fun u i => (u.1 i).1) i γ u _ _ _ := ⟨T1, a.res⟩
  refine CallW.start (n := 194) rfl rfl ?_
  have q1 : ((h.push (.cells (gcallL (d, w, v)).toArray 119)).push (gansO (0, false, 0)))[h.size]? = some (.cells (gcallL (d, w, v)).toArray 119 (0, 0)) := get_push _ (get_push_new _ _)
  (repeat (first | refine EK.seq ?_ | refine EK.region ?_ | refine ER.done ?_))
  (repeat (first | refine ER.boxA rfl rfl rfl ?_ | refine ER.allocA rfl rfl ?_))
  (repeat (first | refine EK.seq ?_ | refine EK.region ?_ | refine ER.done ?_))
  (repeat (first | refine ER.fieldAddr rfl rfl rfl ?_ | refine ER.load1 rfl rfl rfl (hcell_of (by assumption) rfl) ?_))
  (repeat (first | refine EK.seq ?_ | refine EK.region ?_ | refine ER.done ?_))
  rw [<- hy5, <- hy6]
  refine EK.gen (fun h' => AtP (UsT c) c.P (fun u i => (u.1 i).1) i γ u ((y6, gansO (0, false, 0)) :: (y5, .cells (gcallL (d, w, v)).toArray 119) :: L) h' (callC n B tk f (d, w, v) k)) a1 ?_
  have ne : y6 ≠ y5 := by rw [hy6, hy5, Array.size_push]; omega
  have hn : ∀ q, q ∈ (y5, .cells (gcallL (d, w, v)).toArray 119) :: L -> q.1 ≠ y6 := fun q hq => by
    rcases List.mem_cons.1 hq with rfl | hq
    · exact Ne.symm ne
    · have := a.thr.lts q hq
      rw [hy6, Array.size_push]; omega
  clear a a1 T1 q1 hy5 hy6
  obtain ⟨o5, ho5⟩ : ∃ o5 : Obj, o5 = .cells (gcallL (d, w, v)).toArray 119 := ⟨_, rfl⟩
  rw [<- ho5] at hn ⊢
  intro h1 a
  refine EK.fork (fun _ : GG (UsT c) × (UsT c).U × GAns => [(6, ptr y6)]) (fun s h' δ' => δ' = ⟨0, s.1⟩ /\ Along (UsT c) i γ.p s.1.p /\ AtP (UsT c) c.P (fun u i => (u.1 i).1) i s.1 s.2.1 ((y6, gansO s.2.2) :: (y5, o5) :: L) h' (k s.2.2) /\ (UsT c).V i u s.2.1) (fun _ key => ?_) ?_
  · have gS : ∀ {γ1 : GG (UsT c)} {u1 : (UsT c).U} {h1 : Hp} {L1 : List (Nat × Obj)}, Thr (UsT c) i γ1 u1 L1 h1 -> h1[c.S0]? = some (stgO (B 0) (B 2) (B 3) c.T c.n u1.2) := fun T => by rw [<- hc0, <- hp0, <- hk0]; exact (T.I : ToldI c _ _).st
    have st := gS a.thr
    generalize u.2 = x0 at st
    have g5 : h1[y5]? = some (.cells (gcallL (d, w, v)).toArray 119 (0, 0)) := ho5 ▸ (a.thr.privs.1 (y5, o5) (List.mem_cons_of_mem _ List.mem_cons_self)).1
    have z5 : ∀ {γ1 : GG (UsT c)} {u1 : (UsT c).U} {h1 : Hp} {o : Obj}, Thr (UsT c) i γ1 u1 ((y6, o) :: (y5, o5) :: L) h1 -> h1[y5]? = some (.cells (gcallL (d, w, v)).toArray 119 (0, 0)) := fun T => ho5 ▸ (T.privs.1 (y5, o5) (List.mem_cons_of_mem _ List.mem_cons_self)).1
    by_cases h0 : d = 0
    · subst h0
      rw [callC0] at a
      (repeat (first | refine EK.seq ?_ | refine EK.region ?_ | refine ER.done ?_ | refine EK.block ?_ | refine ER.assign rfl rfl rfl ?_ | refine ER.cmpT rfl rfl rfl rfl rfl (by first | (dsimp only [cmpP]; omega) | exact rfl | exact Int.le_refl _) ?_ | refine EK.condT rfl ?_))
      refine EK.regionAnyL (fun h' => hcell h' ⟨c.S0, 0, none⟩ = some (ptr (B 0)) /\ hcell h' ⟨y5, 1, none⟩ = some (.int .i64 w) /\ hcell h' ⟨y5, 2, none⟩ = some (.int .i64 v)) 11 ?_
      have hZ : _ /\ _ /\ _ := And.intro (show hcell h1 ⟨c.S0, 0, none⟩ = some (ptr (B 0)) from hcell_of st rfl) (And.intro (hcell_of g5 rfl : hcell h1 ⟨y5, 1, none⟩ = some (.int .i64 w)) (hcell_of g5 rfl : hcell h1 ⟨y5, 2, none⟩ = some (.int .i64 v)))
      refine EA.tMove 0 rfl (by kernel_rfl) rfl rfl rfl rfl hZ ?_
      refine EA.tNil 1 rfl (by kernel_rfl) rfl rfl rfl rfl hZ ?_
      refine EA.tField 2 rfl (by kernel_rfl) rfl rfl rfl rfl hZ ?_
      refine EA.tLoad 3 rfl (by kernel_rfl) rfl rfl rfl rfl (fun _ hz => hz.1) hZ ?_
      refine EA.tMove 4 rfl (by kernel_rfl) rfl rfl rfl rfl hZ ?_
      refine EA.tField 5 rfl (by kernel_rfl) rfl rfl rfl rfl hZ ?_
      refine EA.tLoad 6 rfl (by kernel_rfl) rfl rfl rfl rfl (fun _ hz => hz.2.1) hZ ?_
      refine EA.tField 7 rfl (by kernel_rfl) rfl rfl rfl rfl hZ ?_
      refine EA.tLoad 8 rfl (by kernel_rfl) rfl rfl rfl rfl (fun _ hz => hz.2.2) hZ ?_
      refine eaCallP 9 rfl (by kernel_rfl) rfl rfl rfl rfl rfl rfl (cadd_T K D a rfl) (fun _ _ _ x => x) ?_
      clear hZ st g5
      rintro _ h2 δ2 ⟨γ2, rfl, rfl, nx⟩
      have st := gS nx.at_.thr
      have g5 := z5 nx.at_.thr
      have hZ : _ /\ _ /\ _ := And.intro (show hcell h2 ⟨c.S0, 0, none⟩ = some (ptr (B 0)) from hcell_of st rfl) (And.intro (hcell_of g5 rfl : hcell h2 ⟨y5, 1, none⟩ = some (.int .i64 w)) (hcell_of g5 rfl : hcell h2 ⟨y5, 2, none⟩ = some (.int .i64 v)))
      refine ⟨hZ, ?_⟩
      have g6 := (nx.at_.thr.privs.1 (y6, gansO (0, false, 0)) List.mem_cons_self).1
      refine EA.tField 10 rfl (by kernel_rfl) rfl rfl rfl rfl hZ ?_
      refine EA.unitL (h' := h2.setIfInBounds y6 (gansO (0, false, 0))) 11 rfl (by kernel_rfl) rfl rfl rfl (fun ρ Q X hρ hq => sem_store1 (hρ _ _ rfl) (hρ _ _ rfl) ⟨nofun, nofun⟩ ⟨_, hcell_of g6 rfl⟩ (hfroz_of g6) (nx.at_.thr.free (.inr (.inr (.inl ⟨_, List.mem_cons_self, rfl⟩)))) (by
        have e7 : hset h2 ⟨y6, 2, none⟩ (.int .i64 0) = h2.setIfInBounds y6 (gansO (0, false, 0)) := hset_block g6 _
        rw [show (0 : Nat) + 2 = 2 from rfl, e7]; exact hq)) ?_
      refine EA.done (by kernel_rfl) ?_
      have T3 := nx.at_.thr.priv1 (o := gansO (0, false, 0)) K.ok hn
      clear hZ g6 st g5
      generalize h2.setIfInBounds y6 (gansO (0, false, 0)) = h3 at T3 ⊢
      have st := gS T3
      have g5 := z5 T3
      obtain ⟨⟨xa, xt, xh, xw⟩, hx⟩ : ∃ x : Xs, γ2.p.u.2 = x := ⟨_, rfl⟩
      rw [hx] at st
      skip
      refine EK.regionAnyL (fun h' => hcell h' ⟨c.S0, 4, none⟩ = some (.int .i64 xa) /\ hcell h' ⟨y5, 2, none⟩ = some (.int .i64 v)) 9 ?_
      have hZ : _ /\ _ := And.intro (hcell_of st rfl : hcell h3 ⟨c.S0, 4, none⟩ = some (.int .i64 xa)) (hcell_of g5 rfl : hcell h3 ⟨y5, 2, none⟩ = some (.int .i64 v))
      refine EA.tMove 0 rfl (by kernel_rfl) rfl rfl rfl rfl hZ ?_
      refine EA.tNil 1 rfl (by kernel_rfl) rfl rfl rfl rfl hZ ?_
      refine EA.tField 2 rfl (by kernel_rfl) rfl rfl rfl rfl hZ ?_
      refine EA.tLoad 3 rfl (by kernel_rfl) rfl rfl rfl rfl (fun _ hz => hz.1) hZ ?_
      refine EA.tField 4 rfl (by kernel_rfl) rfl rfl rfl rfl hZ ?_
      refine EA.tLoad 5 rfl (by kernel_rfl) rfl rfl rfl rfl (fun _ hz => hz.2) hZ ?_
      (first | refine EA.tAdd (kd := .i64) 6 rfl (by kernel_rfl) rfl rfl rfl rfl rfl rfl hZ ?_ | refine EA.tSub (kd := .i64) 6 rfl (by kernel_rfl) rfl rfl rfl rfl rfl rfl hZ ?_)
      refine EA.val 7 rfl (by kernel_rfl) rfl rfl rfl (fun ρ Q X hρ hq => sem_nilCheck (hρ _ _ rfl) hq) hZ ?_
      refine EA.tField 8 rfl (by kernel_rfl) rfl rfl rfl rfl hZ ?_
      refine EA.unitL (h' := h3.setIfInBounds c.S0 (stgO (B 0) (B 2) (B 3) c.T c.n (W64 (xa + v), xt, xh, xw))) 9 rfl (by kernel_rfl) rfl rfl rfl (fun ρ Q X hρ hq => sem_store1 (hρ _ _ rfl) (hρ _ _ rfl) ⟨nofun, nofun⟩ ⟨_, hcell_of st rfl⟩ (hfroz_of st) (T3.free (.inl (.inl ok2))) (by
        have e7 : hset h3 ⟨c.S0, 4, none⟩ (.int .i64 (W64 (xa + v))) = h3.setIfInBounds c.S0 (stgO (B 0) (B 2) (B 3) c.T c.n (W64 (xa + v), xt, xh, xw)) := hset_block st _
        rw [show (0 : Nat) + 4 = 4 from rfl, e7]; exact hq)) ?_
      refine EA.done (by kernel_rfl) ?_
      have T5 := T3.stg ok ok2 hTS (W64 (xa + v), xt, xh, xw) (by rw [hc0, hp0, hk0])
      (repeat refine EK.inBlock ?_)
      exact EK.back (key (γ2, (γ2.p.u.1, (W64 (xa + v), xt, xh, xw)), (0, false, 0)) _ _ ⟨rfl, nx.al, ⟨T5, nx.at_.res⟩, nx.V⟩) ⟨rfl, trivial⟩
    by_cases h1' : d = 1
    · subst h1'
      rw [callC1] at a
      obtain ⟨x1, x2, x3, x4⟩ := x0
      have c0 : hcell h1 ⟨c.S0, 0, none⟩ = some (ptr (B 0)) := hcell_of st rfl
      (repeat (first | refine EK.seq ?_ | refine EK.region ?_ | refine ER.done ?_ | refine EK.block ?_ | refine ER.move rfl rfl rfl ?_ | refine ER.assign rfl rfl rfl ?_ | refine ER.nilCheck rfl rfl rfl ?_ | refine ER.fieldAddr rfl rfl rfl ?_ | refine ER.load1 rfl rfl rfl (hcell_of (by assumption) rfl) ?_ | refine ER.cmpT rfl rfl rfl rfl rfl (by first | (dsimp only [cmpP]; omega) | exact rfl | exact Int.le_refl _) ?_ | refine ER.cmpF rfl rfl rfl rfl rfl (by first | (dsimp only [cmpP]; omega) | exact rfl | exact Int.le_refl _) ?_ | refine EK.condT rfl ?_ | refine EK.condF rfl ?_))
      refine ER.callP rfl rfl rfl rfl rfl (csum_T K D a rfl) (fun _ _ _ x => x) ?_
      clear st g5 c0
      rintro _ h2 δ2 ⟨γ2, u2, v1, rfl, rfl, cp⟩
      have T3 := cp.at_.thr
      have g6 := (T3.privs.1 (y6, gansO (0, false, 0)) List.mem_cons_self).1
      (repeat refine ER.fieldAddr rfl rfl rfl ?_)
      have g6 := (T3.privs.1 (y6, gansO (0, false, 0)) List.mem_cons_self).1
      refine ER.store1 rfl rfl rfl ⟨nofun, nofun⟩ ⟨_, hcell_of g6 rfl⟩ (hfroz_of g6) (T3.free (.inr (.inr (.inl ⟨_, List.mem_cons_self, rfl⟩)))) ?_
      have e7 : hset h2 ⟨y6, 0, none⟩ (.int .i64 v1) = h2.setIfInBounds y6 (gansO (v1, false, 0)) := hset_block g6 _
      have T4 := T3.priv1 (o := gansO (v1, false, 0)) K.ok hn
      change ER _ _ _ _ _ _ _ _ _ _ (hset h2 ⟨y6, 0, none⟩ (.int .i64 v1)) _ _
      rw [e7]
      clear e7 g6 T3
      generalize h2.setIfInBounds y6 (gansO (v1, false, 0)) = h3 at T4 ⊢
      have T3 := T4
      clear T4
      have st := gS T3
      have g6 := (T3.privs.1 (y6, gansO (v1, false, 0)) List.mem_cons_self).1
      obtain ⟨⟨xa, xt, xh, xw⟩, hx⟩ : ∃ x : Xs, u2.2 = x := ⟨_, rfl⟩
      rw [hx] at st
      (repeat (first | refine EK.seq ?_ | refine EK.region ?_ | refine ER.done ?_))
      refine EK.regionAnyL (fun h' => hcell h' ⟨c.S0, 7, none⟩ = some (.bool xw) /\ hcell h' ⟨y6, 0, none⟩ = some (.int .i64 v1) /\ hcell h' ⟨c.S0, 4, none⟩ = some (.int .i64 xa)) 22 ?_
      have hZ : _ /\ _ /\ _ := And.intro (hcell_of st rfl : hcell h3 ⟨c.S0, 7, none⟩ = some (.bool xw)) (And.intro (hcell_of g6 rfl : hcell h3 ⟨y6, 0, none⟩ = some (.int .i64 v1)) (hcell_of st rfl : hcell h3 ⟨c.S0, 4, none⟩ = some (.int .i64 xa)))
      cases xw with
      | true =>
        refine EA.tMove 0 rfl (by kernel_rfl) rfl rfl rfl rfl hZ ?_
        refine EA.tMove 1 rfl (by kernel_rfl) rfl rfl rfl rfl hZ ?_
        refine EA.tNil 2 rfl (by kernel_rfl) rfl rfl rfl rfl hZ ?_
        refine EA.tField 3 rfl (by kernel_rfl) rfl rfl rfl rfl hZ ?_
        refine EA.tLoad 4 rfl (by kernel_rfl) rfl rfl rfl rfl (fun _ hz => hz.1) hZ ?_
        refine EA.tMove 5 rfl (by kernel_rfl) rfl rfl rfl rfl hZ ?_
        refine EA.takeNo 6 rfl (by kernel_rfl) rfl rfl rfl hZ ?_
        refine EA.takeNo 7 rfl (by kernel_rfl) rfl rfl rfl hZ ?_
        refine EA.takeNo 8 rfl (by kernel_rfl) rfl rfl rfl hZ ?_
        refine EA.takeNo 9 rfl (by kernel_rfl) rfl rfl rfl hZ ?_
        refine EA.tPickT 10 rfl (by kernel_rfl) rfl rfl rfl rfl rfl hZ ?_
        refine EA.tMove 11 rfl (by kernel_rfl) rfl rfl rfl rfl hZ ?_
        refine EA.takeNo 12 rfl (by kernel_rfl) rfl rfl rfl hZ ?_
        refine EA.takeNo 13 rfl (by kernel_rfl) rfl rfl rfl hZ ?_
        refine EA.takeNo 14 rfl (by kernel_rfl) rfl rfl rfl hZ ?_
        refine EA.takeNo 15 rfl (by kernel_rfl) rfl rfl rfl hZ ?_
        refine EA.takeNo 16 rfl (by kernel_rfl) rfl rfl rfl hZ ?_
        refine EA.takeNo 17 rfl (by kernel_rfl) rfl rfl rfl hZ ?_
        refine EA.takeNo 18 rfl (by kernel_rfl) rfl rfl rfl hZ ?_
        refine EA.tPickT 19 rfl (by kernel_rfl) rfl rfl rfl rfl rfl hZ ?_
        refine EA.val 20 rfl (by kernel_rfl) rfl rfl rfl (fun ρ Q X hρ hq => sem_nilCheck (hρ _ _ rfl) hq) hZ ?_
        refine EA.tField 21 rfl (by kernel_rfl) rfl rfl rfl rfl hZ ?_
        refine EA.unitL (h' := h3.setIfInBounds c.S0 (stgO (B 0) (B 2) (B 3) c.T c.n (xa, xt, xh, true))) 22 rfl (by kernel_rfl) rfl rfl rfl (fun ρ Q X hρ hq => sem_store1 (hρ _ _ rfl) (hρ _ _ rfl) ⟨nofun, nofun⟩ ⟨_, hcell_of st rfl⟩ (hfroz_of st) (T3.free (.inl (.inl ok2))) (by
          have e7 : hset h3 ⟨c.S0, 7, none⟩ (.bool true) = h3.setIfInBounds c.S0 (stgO (B 0) (B 2) (B 3) c.T c.n (xa, xt, xh, true)) := hset_block st _
          rw [show (0 : Nat) + 7 = 7 from rfl, e7]; exact hq)) ?_
        refine EA.done (by kernel_rfl) ?_
        have T5 := T3.stg ok ok2 hTS (xa, xt, xh, true) (by rw [hc0, hp0, hk0])
        (repeat refine EK.inBlock ?_)
        exact EK.back (key (γ2, (u2.1, (xa, xt, xh, true)), (v1, false, 0)) _ _ ⟨rfl, cp.al, ⟨T5, cp.at_.res⟩, cp.V⟩) ⟨rfl, trivial⟩
      | false =>
        by_cases hlow : v1 < x1
        · skip
          refine EA.tMove 0 rfl (by kernel_rfl) rfl rfl rfl rfl hZ ?_
          refine EA.tMove 1 rfl (by kernel_rfl) rfl rfl rfl rfl hZ ?_
          refine EA.tNil 2 rfl (by kernel_rfl) rfl rfl rfl rfl hZ ?_
          refine EA.tField 3 rfl (by kernel_rfl) rfl rfl rfl rfl hZ ?_
          refine EA.tLoad 4 rfl (by kernel_rfl) rfl rfl rfl rfl (fun _ hz => hz.1) hZ ?_
          refine EA.tMove 5 rfl (by kernel_rfl) rfl rfl rfl rfl hZ ?_
          refine EA.tField 6 rfl (by kernel_rfl) rfl rfl rfl rfl hZ ?_
          refine EA.tLoad 7 rfl (by kernel_rfl) rfl rfl rfl rfl (fun _ hz => hz.2.1) hZ ?_
          refine EA.tMove 8 rfl (by kernel_rfl) rfl rfl rfl rfl hZ ?_
          refine EA.tCmpT 9 rfl (by kernel_rfl) rfl rfl rfl rfl rfl rfl (by first | (dsimp only [cmpP]; omega) | exact rfl | exact Int.le_refl _) hZ ?_
          refine EA.tPickF 10 rfl (by kernel_rfl) rfl rfl rfl rfl rfl hZ ?_
          refine EA.tMove 11 rfl (by kernel_rfl) rfl rfl rfl rfl hZ ?_
          refine EA.takeNo 12 rfl (by kernel_rfl) rfl rfl rfl hZ ?_
          refine EA.takeNo 13 rfl (by kernel_rfl) rfl rfl rfl hZ ?_
          refine EA.takeNo 14 rfl (by kernel_rfl) rfl rfl rfl hZ ?_
          refine EA.takeNo 15 rfl (by kernel_rfl) rfl rfl rfl hZ ?_
          refine EA.takeNo 16 rfl (by kernel_rfl) rfl rfl rfl hZ ?_
          refine EA.takeNo 17 rfl (by kernel_rfl) rfl rfl rfl hZ ?_
          refine EA.takeNo 18 rfl (by kernel_rfl) rfl rfl rfl hZ ?_
          refine EA.tPickT 19 rfl (by kernel_rfl) rfl rfl rfl rfl rfl hZ ?_
          refine EA.val 20 rfl (by kernel_rfl) rfl rfl rfl (fun ρ Q X hρ hq => sem_nilCheck (hρ _ _ rfl) hq) hZ ?_
          refine EA.tField 21 rfl (by kernel_rfl) rfl rfl rfl rfl hZ ?_
          refine EA.unitL (h' := h3.setIfInBounds c.S0 (stgO (B 0) (B 2) (B 3) c.T c.n (xa, xt, xh, true))) 22 rfl (by kernel_rfl) rfl rfl rfl (fun ρ Q X hρ hq => sem_store1 (hρ _ _ rfl) (hρ _ _ rfl) ⟨nofun, nofun⟩ ⟨_, hcell_of st rfl⟩ (hfroz_of st) (T3.free (.inl (.inl ok2))) (by
            have e7 : hset h3 ⟨c.S0, 7, none⟩ (.bool true) = h3.setIfInBounds c.S0 (stgO (B 0) (B 2) (B 3) c.T c.n (xa, xt, xh, true)) := hset_block st _
            rw [show (0 : Nat) + 7 = 7 from rfl, e7]; exact hq)) ?_
          refine EA.done (by kernel_rfl) ?_
          have T5 := T3.stg ok ok2 hTS (xa, xt, xh, true) (by rw [hc0, hp0, hk0])
          (repeat refine EK.inBlock ?_)
          exact EK.back (key (γ2, (u2.1, (xa, xt, xh, true)), (v1, false, 0)) _ _ ⟨rfl, cp.al, ⟨T5, cp.at_.res⟩, cp.V⟩) ⟨rfl, trivial⟩
        · by_cases hup : v1 > xa
          · skip
            refine EA.tMove 0 rfl (by kernel_rfl) rfl rfl rfl rfl hZ ?_
            refine EA.tMove 1 rfl (by kernel_rfl) rfl rfl rfl rfl hZ ?_
            refine EA.tNil 2 rfl (by kernel_rfl) rfl rfl rfl rfl hZ ?_
            refine EA.tField 3 rfl (by kernel_rfl) rfl rfl rfl rfl hZ ?_
            refine EA.tLoad 4 rfl (by kernel_rfl) rfl rfl rfl rfl (fun _ hz => hz.1) hZ ?_
            refine EA.tMove 5 rfl (by kernel_rfl) rfl rfl rfl rfl hZ ?_
            refine EA.tField 6 rfl (by kernel_rfl) rfl rfl rfl rfl hZ ?_
            refine EA.tLoad 7 rfl (by kernel_rfl) rfl rfl rfl rfl (fun _ hz => hz.2.1) hZ ?_
            refine EA.tMove 8 rfl (by kernel_rfl) rfl rfl rfl rfl hZ ?_
            refine EA.tCmpF 9 rfl (by kernel_rfl) rfl rfl rfl rfl rfl rfl (by first | (dsimp only [cmpP]; omega) | exact rfl | exact Int.le_refl _) hZ ?_
            refine EA.tPickF 10 rfl (by kernel_rfl) rfl rfl rfl rfl rfl hZ ?_
            refine EA.tMove 11 rfl (by kernel_rfl) rfl rfl rfl rfl hZ ?_
            refine EA.tField 12 rfl (by kernel_rfl) rfl rfl rfl rfl hZ ?_
            refine EA.tLoad 13 rfl (by kernel_rfl) rfl rfl rfl rfl (fun _ hz => hz.2.1) hZ ?_
            refine EA.tMove 14 rfl (by kernel_rfl) rfl rfl rfl rfl hZ ?_
            refine EA.tNil 15 rfl (by kernel_rfl) rfl rfl rfl rfl hZ ?_
            refine EA.tField 16 rfl (by kernel_rfl) rfl rfl rfl rfl hZ ?_
            refine EA.tLoad 17 rfl (by kernel_rfl) rfl rfl rfl rfl (fun _ hz => hz.2.2) hZ ?_
            refine EA.tCmpT 18 rfl (by kernel_rfl) rfl rfl rfl rfl rfl rfl (by first | (dsimp only [cmpP]; omega) | exact rfl | exact Int.le_refl _) hZ ?_
            refine EA.tPickF 19 rfl (by kernel_rfl) rfl rfl rfl rfl rfl hZ ?_
            refine EA.val 20 rfl (by kernel_rfl) rfl rfl rfl (fun ρ Q X hρ hq => sem_nilCheck (hρ _ _ rfl) hq) hZ ?_
            refine EA.tField 21 rfl (by kernel_rfl) rfl rfl rfl rfl hZ ?_
            refine EA.unitL (h' := h3.setIfInBounds c.S0 (stgO (B 0) (B 2) (B 3) c.T c.n (xa, xt, xh, true))) 22 rfl (by kernel_rfl) rfl rfl rfl (fun ρ Q X hρ hq => sem_store1 (hρ _ _ rfl) (hρ _ _ rfl) ⟨nofun, nofun⟩ ⟨_, hcell_of st rfl⟩ (hfroz_of st) (T3.free (.inl (.inl ok2))) (by
              have e7 : hset h3 ⟨c.S0, 7, none⟩ (.bool true) = h3.setIfInBounds c.S0 (stgO (B 0) (B 2) (B 3) c.T c.n (xa, xt, xh, true)) := hset_block st _
              rw [show (0 : Nat) + 7 = 7 from rfl, e7]; exact hq)) ?_
            refine EA.done (by kernel_rfl) ?_
            have T5 := T3.stg ok ok2 hTS (xa, xt, xh, true) (by rw [hc0, hp0, hk0])
            (repeat refine EK.inBlock ?_)
            exact EK.back (key (γ2, (u2.1, (xa, xt, xh, true)), (v1, false, 0)) _ _ ⟨rfl, cp.al, ⟨T5, cp.at_.res⟩, cp.V⟩) ⟨rfl, trivial⟩
          · skip
            refine EA.tMove 0 rfl (by kernel_rfl) rfl rfl rfl rfl hZ ?_
            refine EA.tMove 1 rfl (by kernel_rfl) rfl rfl rfl rfl hZ ?_
            refine EA.tNil 2 rfl (by kernel_rfl) rfl rfl rfl rfl hZ ?_
            refine EA.tField 3 rfl (by kernel_rfl) rfl rfl rfl rfl hZ ?_
            refine EA.tLoad 4 rfl (by kernel_rfl) rfl rfl rfl rfl (fun _ hz => hz.1) hZ ?_
            refine EA.tMove 5 rfl (by kernel_rfl) rfl rfl rfl rfl hZ ?_
            refine EA.tField 6 rfl (by kernel_rfl) rfl rfl rfl rfl hZ ?_
            refine EA.tLoad 7 rfl (by kernel_rfl) rfl rfl rfl rfl (fun _ hz => hz.2.1) hZ ?_
            refine EA.tMove 8 rfl (by kernel_rfl) rfl rfl rfl rfl hZ ?_
            refine EA.tCmpF 9 rfl (by kernel_rfl) rfl rfl rfl rfl rfl rfl (by first | (dsimp only [cmpP]; omega) | exact rfl | exact Int.le_refl _) hZ ?_
            refine EA.tPickF 10 rfl (by kernel_rfl) rfl rfl rfl rfl rfl hZ ?_
            refine EA.tMove 11 rfl (by kernel_rfl) rfl rfl rfl rfl hZ ?_
            refine EA.tField 12 rfl (by kernel_rfl) rfl rfl rfl rfl hZ ?_
            refine EA.tLoad 13 rfl (by kernel_rfl) rfl rfl rfl rfl (fun _ hz => hz.2.1) hZ ?_
            refine EA.tMove 14 rfl (by kernel_rfl) rfl rfl rfl rfl hZ ?_
            refine EA.tNil 15 rfl (by kernel_rfl) rfl rfl rfl rfl hZ ?_
            refine EA.tField 16 rfl (by kernel_rfl) rfl rfl rfl rfl hZ ?_
            refine EA.tLoad 17 rfl (by kernel_rfl) rfl rfl rfl rfl (fun _ hz => hz.2.2) hZ ?_
            refine EA.tCmpF 18 rfl (by kernel_rfl) rfl rfl rfl rfl rfl rfl (by first | (dsimp only [cmpP]; omega) | exact rfl | exact Int.le_refl _) hZ ?_
            refine EA.tPickF 19 rfl (by kernel_rfl) rfl rfl rfl rfl rfl hZ ?_
            refine EA.val 20 rfl (by kernel_rfl) rfl rfl rfl (fun ρ Q X hρ hq => sem_nilCheck (hρ _ _ rfl) hq) hZ ?_
            refine EA.tField 21 rfl (by kernel_rfl) rfl rfl rfl rfl hZ ?_
            refine EA.unitL (h' := h3.setIfInBounds c.S0 (stgO (B 0) (B 2) (B 3) c.T c.n (xa, xt, xh, false))) 22 rfl (by kernel_rfl) rfl rfl rfl (fun ρ Q X hρ hq => sem_store1 (hρ _ _ rfl) (hρ _ _ rfl) ⟨nofun, nofun⟩ ⟨_, hcell_of st rfl⟩ (hfroz_of st) (T3.free (.inl (.inl ok2))) (by
              have e7 : hset h3 ⟨c.S0, 7, none⟩ (.bool false) = h3.setIfInBounds c.S0 (stgO (B 0) (B 2) (B 3) c.T c.n (xa, xt, xh, false)) := hset_block st _
              rw [show (0 : Nat) + 7 = 7 from rfl, e7]; exact hq)) ?_
            refine EA.done (by kernel_rfl) ?_
            have T5 := T3.stg ok ok2 hTS (xa, xt, xh, false) (by rw [hc0, hp0, hk0])
            (repeat refine EK.inBlock ?_)
            exact EK.back (key (γ2, (u2.1, (xa, xt, xh, false)), (v1, false, 0)) _ _ ⟨rfl, cp.al, ⟨T5, cp.at_.res⟩, cp.V⟩) ⟨rfl, trivial⟩
    by_cases h2' : d = 2
    · subst h2'
      rw [callC2] at a
      have st0 : hcell h1 ⟨c.S0, 1, none⟩ = some (ptr (B 2)) := hcell_of st rfl
      have g50 : hcell h1 ⟨y5, 2, none⟩ = some (.int .i64 v) := hcell_of g5 rfl
      (repeat (first | refine EK.seq ?_ | refine EK.block ?_))
      (repeat (first | refine EK.seq ?_ | refine EK.region ?_ | refine ER.done ?_ | refine ER.assign rfl rfl rfl ?_ | refine ER.cmpT rfl rfl rfl rfl rfl (by first | (dsimp only [cmpP]; omega) | exact rfl | exact Int.le_refl _) ?_ | refine ER.cmpF rfl rfl rfl rfl rfl (by first | (dsimp only [cmpP]; omega) | exact rfl | exact Int.le_refl _) ?_ | refine EK.condT rfl ?_ | refine EK.condF rfl ?_))
      refine EK.regionAnyL (fun h' => hcell h' ⟨c.S0, 1, none⟩ = some (ptr (B 2)) /\ hcell h' ⟨y5, 2, none⟩ = some (.int .i64 v)) 9 ?_
      have hZ : _ /\ _ := And.intro st0 g50
      refine EA.tMove 0 rfl (by kernel_rfl) rfl rfl rfl rfl hZ ?_
      refine EA.tNil 1 rfl (by kernel_rfl) rfl rfl rfl rfl hZ ?_
      refine EA.tField 2 rfl (by kernel_rfl) rfl rfl rfl rfl hZ ?_
      refine EA.tLoad 3 rfl (by kernel_rfl) rfl rfl rfl rfl (fun _ hz => hz.1) hZ ?_
      refine EA.tMove 4 rfl (by kernel_rfl) rfl rfl rfl rfl hZ ?_
      refine EA.tField 5 rfl (by kernel_rfl) rfl rfl rfl rfl hZ ?_
      refine EA.tLoad 6 rfl (by kernel_rfl) rfl rfl rfl rfl (fun _ hz => hz.2) hZ ?_
      refine eaCallP 7 rfl (by kernel_rfl) rfl rfl rfl rfl rfl rfl (craise_T K D a (by omega) rfl) (fun _ _ _ x => x) ?_
      clear hZ st g5 st0 g50
      rintro _ h2 δ2 ⟨γ2, is, rfl, rfl, nx⟩
      have st := gS nx.at_.thr
      have g5 := z5 nx.at_.thr
      have hZ : _ /\ _ := And.intro (show hcell h2 ⟨c.S0, 1, none⟩ = some (ptr (B 2)) from hcell_of st rfl) (hcell_of g5 rfl : hcell h2 ⟨y5, 2, none⟩ = some (.int .i64 v))
      refine ⟨hZ, ?_⟩
      have g6 := (nx.at_.thr.privs.1 (y6, gansO (0, false, 0)) List.mem_cons_self).1
      refine EA.tField 8 rfl (by kernel_rfl) rfl rfl rfl rfl hZ ?_
      refine EA.unitL (h' := h2.setIfInBounds y6 (gansO (0, is, 0))) 9 rfl (by kernel_rfl) rfl rfl rfl (fun ρ Q X hρ hq => sem_store1 (hρ _ _ rfl) (hρ _ _ rfl) ⟨nofun, nofun⟩ ⟨_, hcell_of g6 rfl⟩ (hfroz_of g6) (nx.at_.thr.free (.inr (.inr (.inl ⟨_, List.mem_cons_self, rfl⟩)))) (by
        have e7 : hset h2 ⟨y6, 1, none⟩ (.bool is) = h2.setIfInBounds y6 (gansO (0, is, 0)) := hset_block g6 _
        rw [show (0 : Nat) + 1 = 1 from rfl, e7]; exact hq)) ?_
      refine EA.done (by kernel_rfl) ?_
      have T3 := nx.at_.thr.priv1 (o := gansO (0, is, 0)) K.ok hn
      clear hZ g6 st g5
      generalize h2.setIfInBounds y6 (gansO (0, is, 0)) = h3 at T3 ⊢
      have st := gS T3
      have g5 := z5 T3
      have g6 := (T3.privs.1 (y6, gansO (0, is, 0)) List.mem_cons_self).1
      obtain ⟨⟨xa, xt, xh, xw⟩, hx⟩ : ∃ x : Xs, γ2.p.u.2 = x := ⟨_, rfl⟩
      rw [hx] at st
      (repeat (first | refine EK.seq ?_ | refine ER.done ?_))
      refine EK.fork (fun _ : Bool => [(6, ptr y6), (5, ptr y5), (0, ptr c.S0)]) (fun w' h' δ' => δ' = ⟨0, γ2⟩ /\ Thr (UsT c) i γ2 (γ2.p.u.1, (xa, xt, xh, w')) ((y6, gansO (0, is, 0)) :: (y5, o5) :: L) h') (fun _ key2 => ?_) ?_
      · refine EK.regionAnyL (fun h' => hcell h' ⟨c.S0, 7, none⟩ = some (.bool xw) /\ hcell h' ⟨y6, 1, none⟩ = some (.bool is) /\ hcell h' ⟨y5, 2, none⟩ = some (.int .i64 v) /\ hcell h' ⟨c.S0, 5, none⟩ = some (.int .i64 xt)) 34 ?_
        have hZ : _ /\ _ /\ _ /\ _ := And.intro (hcell_of st rfl : hcell h3 ⟨c.S0, 7, none⟩ = some (.bool xw)) (And.intro (hcell_of g6 rfl : hcell h3 ⟨y6, 1, none⟩ = some (.bool is)) (And.intro (hcell_of g5 rfl : hcell h3 ⟨y5, 2, none⟩ = some (.int .i64 v)) (hcell_of st rfl : hcell h3 ⟨c.S0, 5, none⟩ = some (.int .i64 xt))))
        cases xw with
        | true =>
          refine EA.tMove 0 rfl (by kernel_rfl) rfl rfl rfl rfl hZ ?_
          refine EA.tMove 1 rfl (by kernel_rfl) rfl rfl rfl rfl hZ ?_
          refine EA.tNil 2 rfl (by kernel_rfl) rfl rfl rfl rfl hZ ?_
          refine EA.tField 3 rfl (by kernel_rfl) rfl rfl rfl rfl hZ ?_
          refine EA.tLoad 4 rfl (by kernel_rfl) rfl rfl rfl rfl (fun _ hz => hz.1) hZ ?_
          refine EA.tMove 5 rfl (by kernel_rfl) rfl rfl rfl rfl hZ ?_
          refine EA.takeNo 6 rfl (by kernel_rfl) rfl rfl rfl hZ ?_
          refine EA.takeNo 7 rfl (by kernel_rfl) rfl rfl rfl hZ ?_
          refine EA.takeNo 8 rfl (by kernel_rfl) rfl rfl rfl hZ ?_
          refine EA.takeNo 9 rfl (by kernel_rfl) rfl rfl rfl hZ ?_
          refine EA.takeNo 10 rfl (by kernel_rfl) rfl rfl rfl hZ ?_
          refine EA.takeNo 11 rfl (by kernel_rfl) rfl rfl rfl hZ ?_
          refine EA.takeNo 12 rfl (by kernel_rfl) rfl rfl rfl hZ ?_
          refine EA.takeNo 13 rfl (by kernel_rfl) rfl rfl rfl hZ ?_
          refine EA.takeNo 14 rfl (by kernel_rfl) rfl rfl rfl hZ ?_
          refine EA.takeNo 15 rfl (by kernel_rfl) rfl rfl rfl hZ ?_
          refine EA.takeNo 16 rfl (by kernel_rfl) rfl rfl rfl hZ ?_
          refine EA.tPickT 17 rfl (by kernel_rfl) rfl rfl rfl rfl rfl hZ ?_
          refine EA.tMove 18 rfl (by kernel_rfl) rfl rfl rfl rfl hZ ?_
          refine EA.takeNo 19 rfl (by kernel_rfl) rfl rfl rfl hZ ?_
          refine EA.takeNo 20 rfl (by kernel_rfl) rfl rfl rfl hZ ?_
          refine EA.takeNo 21 rfl (by kernel_rfl) rfl rfl rfl hZ ?_
          refine EA.takeNo 22 rfl (by kernel_rfl) rfl rfl rfl hZ ?_
          refine EA.takeNo 23 rfl (by kernel_rfl) rfl rfl rfl hZ ?_
          refine EA.takeNo 24 rfl (by kernel_rfl) rfl rfl rfl hZ ?_
          refine EA.takeNo 25 rfl (by kernel_rfl) rfl rfl rfl hZ ?_
          refine EA.takeNo 26 rfl (by kernel_rfl) rfl rfl rfl hZ ?_
          refine EA.takeNo 27 rfl (by kernel_rfl) rfl rfl rfl hZ ?_
          refine EA.takeNo 28 rfl (by kernel_rfl) rfl rfl rfl hZ ?_
          refine EA.takeNo 29 rfl (by kernel_rfl) rfl rfl rfl hZ ?_
          refine EA.takeNo 30 rfl (by kernel_rfl) rfl rfl rfl hZ ?_
          refine EA.tPickT 31 rfl (by kernel_rfl) rfl rfl rfl rfl rfl hZ ?_
          refine EA.val 32 rfl (by kernel_rfl) rfl rfl rfl (fun ρ Q X hρ hq => sem_nilCheck (hρ _ _ rfl) hq) hZ ?_
          refine EA.tField 33 rfl (by kernel_rfl) rfl rfl rfl rfl hZ ?_
          refine EA.unitL (h' := h3.setIfInBounds c.S0 (stgO (B 0) (B 2) (B 3) c.T c.n (xa, xt, xh, true))) 34 rfl (by kernel_rfl) rfl rfl rfl (fun ρ Q X hρ hq => sem_store1 (hρ _ _ rfl) (hρ _ _ rfl) ⟨nofun, nofun⟩ ⟨_, hcell_of st rfl⟩ (hfroz_of st) (T3.free (.inl (.inl ok2))) (by
            have e7 : hset h3 ⟨c.S0, 7, none⟩ (.bool true) = h3.setIfInBounds c.S0 (stgO (B 0) (B 2) (B 3) c.T c.n (xa, xt, xh, true)) := hset_block st _
            rw [show (0 : Nat) + 7 = 7 from rfl, e7]; exact hq)) ?_
          refine EA.done (by kernel_rfl) ?_
          have T5 := T3.stg ok ok2 hTS (xa, xt, xh, true) (by rw [hc0, hp0, hk0])
          skip
          exact EK.back (key2 true _ _ ⟨rfl, T5⟩) ⟨rfl, rfl, rfl, trivial⟩
        | false =>
          cases is with
          | true =>
            by_cases hle : v <= xt
            · skip
              refine EA.tMove 0 rfl (by kernel_rfl) rfl rfl rfl rfl hZ ?_
              refine EA.tMove 1 rfl (by kernel_rfl) rfl rfl rfl rfl hZ ?_
              refine EA.tNil 2 rfl (by kernel_rfl) rfl rfl rfl rfl hZ ?_
              refine EA.tField 3 rfl (by kernel_rfl) rfl rfl rfl rfl hZ ?_
              refine EA.tLoad 4 rfl (by kernel_rfl) rfl rfl rfl rfl (fun _ hz => hz.1) hZ ?_
              refine EA.tMove 5 rfl (by kernel_rfl) rfl rfl rfl rfl hZ ?_
              refine EA.tField 6 rfl (by kernel_rfl) rfl rfl rfl rfl hZ ?_
              refine EA.tLoad 7 rfl (by kernel_rfl) rfl rfl rfl rfl (fun _ hz => hz.2.1) hZ ?_
              refine EA.tMove 8 rfl (by kernel_rfl) rfl rfl rfl rfl hZ ?_
              refine EA.tField 9 rfl (by kernel_rfl) rfl rfl rfl rfl hZ ?_
              refine EA.tLoad 10 rfl (by kernel_rfl) rfl rfl rfl rfl (fun _ hz => hz.2.2.1) hZ ?_
              refine EA.tMove 11 rfl (by kernel_rfl) rfl rfl rfl rfl hZ ?_
              refine EA.tNil 12 rfl (by kernel_rfl) rfl rfl rfl rfl hZ ?_
              refine EA.tField 13 rfl (by kernel_rfl) rfl rfl rfl rfl hZ ?_
              refine EA.tLoad 14 rfl (by kernel_rfl) rfl rfl rfl rfl (fun _ hz => hz.2.2.2) hZ ?_
              refine EA.tCmpT 15 rfl (by kernel_rfl) rfl rfl rfl rfl rfl rfl (by first | (dsimp only [cmpP]; omega) | exact rfl | exact Int.le_refl _) hZ ?_
              refine EA.tPickT 16 rfl (by kernel_rfl) rfl rfl rfl rfl rfl hZ ?_
              refine EA.tPickF 17 rfl (by kernel_rfl) rfl rfl rfl rfl rfl hZ ?_
              refine EA.tMove 18 rfl (by kernel_rfl) rfl rfl rfl rfl hZ ?_
              refine EA.takeNo 19 rfl (by kernel_rfl) rfl rfl rfl hZ ?_
              refine EA.takeNo 20 rfl (by kernel_rfl) rfl rfl rfl hZ ?_
              refine EA.takeNo 21 rfl (by kernel_rfl) rfl rfl rfl hZ ?_
              refine EA.takeNo 22 rfl (by kernel_rfl) rfl rfl rfl hZ ?_
              refine EA.takeNo 23 rfl (by kernel_rfl) rfl rfl rfl hZ ?_
              refine EA.takeNo 24 rfl (by kernel_rfl) rfl rfl rfl hZ ?_
              refine EA.takeNo 25 rfl (by kernel_rfl) rfl rfl rfl hZ ?_
              refine EA.takeNo 26 rfl (by kernel_rfl) rfl rfl rfl hZ ?_
              refine EA.takeNo 27 rfl (by kernel_rfl) rfl rfl rfl hZ ?_
              refine EA.takeNo 28 rfl (by kernel_rfl) rfl rfl rfl hZ ?_
              refine EA.takeNo 29 rfl (by kernel_rfl) rfl rfl rfl hZ ?_
              refine EA.takeNo 30 rfl (by kernel_rfl) rfl rfl rfl hZ ?_
              refine EA.tPickT 31 rfl (by kernel_rfl) rfl rfl rfl rfl rfl hZ ?_
              refine EA.val 32 rfl (by kernel_rfl) rfl rfl rfl (fun ρ Q X hρ hq => sem_nilCheck (hρ _ _ rfl) hq) hZ ?_
              refine EA.tField 33 rfl (by kernel_rfl) rfl rfl rfl rfl hZ ?_
              refine EA.unitL (h' := h3.setIfInBounds c.S0 (stgO (B 0) (B 2) (B 3) c.T c.n (xa, xt, xh, true))) 34 rfl (by kernel_rfl) rfl rfl rfl (fun ρ Q X hρ hq => sem_store1 (hρ _ _ rfl) (hρ _ _ rfl) ⟨nofun, nofun⟩ ⟨_, hcell_of st rfl⟩ (hfroz_of st) (T3.free (.inl (.inl ok2))) (by
                have e7 : hset h3 ⟨c.S0, 7, none⟩ (.bool true) = h3.setIfInBounds c.S0 (stgO (B 0) (B 2) (B 3) c.T c.n (xa, xt, xh, true)) := hset_block st _
                rw [show (0 : Nat) + 7 = 7 from rfl, e7]; exact hq)) ?_
              refine EA.done (by kernel_rfl) ?_
              have T5 := T3.stg ok ok2 hTS (xa, xt, xh, true) (by rw [hc0, hp0, hk0])
              skip
              exact EK.back (key2 true _ _ ⟨rfl, T5⟩) ⟨rfl, rfl, rfl, trivial⟩
            · skip
              refine EA.tMove 0 rfl (by kernel_rfl) rfl rfl rfl rfl hZ ?_
              refine EA.tMove 1 rfl (by kernel_rfl) rfl rfl rfl rfl hZ ?_
              refine EA.tNil 2 rfl (by kernel_rfl) rfl rfl rfl rfl hZ ?_
              refine EA.tField 3 rfl (by kernel_rfl) rfl rfl rfl rfl hZ ?_
              refine EA.tLoad 4 rfl (by kernel_rfl) rfl rfl rfl rfl (fun _ hz => hz.1) hZ ?_
              refine EA.tMove 5 rfl (by kernel_rfl) rfl rfl rfl rfl hZ ?_
              refine EA.tField 6 rfl (by kernel_rfl) rfl rfl rfl rfl hZ ?_
              refine EA.tLoad 7 rfl (by kernel_rfl) rfl rfl rfl rfl (fun _ hz => hz.2.1) hZ ?_
              refine EA.tMove 8 rfl (by kernel_rfl) rfl rfl rfl rfl hZ ?_
              refine EA.tField 9 rfl (by kernel_rfl) rfl rfl rfl rfl hZ ?_
              refine EA.tLoad 10 rfl (by kernel_rfl) rfl rfl rfl rfl (fun _ hz => hz.2.2.1) hZ ?_
              refine EA.tMove 11 rfl (by kernel_rfl) rfl rfl rfl rfl hZ ?_
              refine EA.tNil 12 rfl (by kernel_rfl) rfl rfl rfl rfl hZ ?_
              refine EA.tField 13 rfl (by kernel_rfl) rfl rfl rfl rfl hZ ?_
              refine EA.tLoad 14 rfl (by kernel_rfl) rfl rfl rfl rfl (fun _ hz => hz.2.2.2) hZ ?_
              refine EA.tCmpF 15 rfl (by kernel_rfl) rfl rfl rfl rfl rfl rfl (by first | (dsimp only [cmpP]; omega) | exact rfl | exact Int.le_refl _) hZ ?_
              refine EA.tPickT 16 rfl (by kernel_rfl) rfl rfl rfl rfl rfl hZ ?_
              refine EA.tPickF 17 rfl (by kernel_rfl) rfl rfl rfl rfl rfl hZ ?_
              refine EA.tMove 18 rfl (by kernel_rfl) rfl rfl rfl rfl hZ ?_
              refine EA.tField 19 rfl (by kernel_rfl) rfl rfl rfl rfl hZ ?_
              refine EA.tLoad 20 rfl (by kernel_rfl) rfl rfl rfl rfl (fun _ hz => hz.2.1) hZ ?_
              refine EA.tNot 21 rfl (by kernel_rfl) rfl rfl rfl rfl hZ ?_
              refine EA.tMove 22 rfl (by kernel_rfl) rfl rfl rfl rfl hZ ?_
              refine EA.takeNo 23 rfl (by kernel_rfl) rfl rfl rfl hZ ?_
              refine EA.takeNo 24 rfl (by kernel_rfl) rfl rfl rfl hZ ?_
              refine EA.takeNo 25 rfl (by kernel_rfl) rfl rfl rfl hZ ?_
              refine EA.takeNo 26 rfl (by kernel_rfl) rfl rfl rfl hZ ?_
              refine EA.takeNo 27 rfl (by kernel_rfl) rfl rfl rfl hZ ?_
              refine EA.takeNo 28 rfl (by kernel_rfl) rfl rfl rfl hZ ?_
              refine EA.takeNo 29 rfl (by kernel_rfl) rfl rfl rfl hZ ?_
              refine EA.tPickF 30 rfl (by kernel_rfl) rfl rfl rfl rfl rfl hZ ?_
              refine EA.tPickF 31 rfl (by kernel_rfl) rfl rfl rfl rfl rfl hZ ?_
              refine EA.val 32 rfl (by kernel_rfl) rfl rfl rfl (fun ρ Q X hρ hq => sem_nilCheck (hρ _ _ rfl) hq) hZ ?_
              refine EA.tField 33 rfl (by kernel_rfl) rfl rfl rfl rfl hZ ?_
              refine EA.unitL (h' := h3.setIfInBounds c.S0 (stgO (B 0) (B 2) (B 3) c.T c.n (xa, xt, xh, false))) 34 rfl (by kernel_rfl) rfl rfl rfl (fun ρ Q X hρ hq => sem_store1 (hρ _ _ rfl) (hρ _ _ rfl) ⟨nofun, nofun⟩ ⟨_, hcell_of st rfl⟩ (hfroz_of st) (T3.free (.inl (.inl ok2))) (by
                have e7 : hset h3 ⟨c.S0, 7, none⟩ (.bool false) = h3.setIfInBounds c.S0 (stgO (B 0) (B 2) (B 3) c.T c.n (xa, xt, xh, false)) := hset_block st _
                rw [show (0 : Nat) + 7 = 7 from rfl, e7]; exact hq)) ?_
              refine EA.done (by kernel_rfl) ?_
              have T5 := T3.stg ok ok2 hTS (xa, xt, xh, false) (by rw [hc0, hp0, hk0])
              skip
              exact EK.back (key2 false _ _ ⟨rfl, T5⟩) ⟨rfl, rfl, rfl, trivial⟩
          | false =>
            by_cases hgt : v > xt
            · skip
              refine EA.tMove 0 rfl (by kernel_rfl) rfl rfl rfl rfl hZ ?_
              refine EA.tMove 1 rfl (by kernel_rfl) rfl rfl rfl rfl hZ ?_
              refine EA.tNil 2 rfl (by kernel_rfl) rfl rfl rfl rfl hZ ?_
              refine EA.tField 3 rfl (by kernel_rfl) rfl rfl rfl rfl hZ ?_
              refine EA.tLoad 4 rfl (by kernel_rfl) rfl rfl rfl rfl (fun _ hz => hz.1) hZ ?_
              refine EA.tMove 5 rfl (by kernel_rfl) rfl rfl rfl rfl hZ ?_
              refine EA.tField 6 rfl (by kernel_rfl) rfl rfl rfl rfl hZ ?_
              refine EA.tLoad 7 rfl (by kernel_rfl) rfl rfl rfl rfl (fun _ hz => hz.2.1) hZ ?_
              refine EA.tMove 8 rfl (by kernel_rfl) rfl rfl rfl rfl hZ ?_
              refine EA.takeNo 9 rfl (by kernel_rfl) rfl rfl rfl hZ ?_
              refine EA.takeNo 10 rfl (by kernel_rfl) rfl rfl rfl hZ ?_
              refine EA.takeNo 11 rfl (by kernel_rfl) rfl rfl rfl hZ ?_
              refine EA.takeNo 12 rfl (by kernel_rfl) rfl rfl rfl hZ ?_
              refine EA.takeNo 13 rfl (by kernel_rfl) rfl rfl rfl hZ ?_
              refine EA.takeNo 14 rfl (by kernel_rfl) rfl rfl rfl hZ ?_
              refine EA.takeNo 15 rfl (by kernel_rfl) rfl rfl rfl hZ ?_
              refine EA.tPickF 16 rfl (by kernel_rfl) rfl rfl rfl rfl rfl hZ ?_
              refine EA.tPickF 17 rfl (by kernel_rfl) rfl rfl rfl rfl rfl hZ ?_
              refine EA.tMove 18 rfl (by kernel_rfl) rfl rfl rfl rfl hZ ?_
              refine EA.tField 19 rfl (by kernel_rfl) rfl rfl rfl rfl hZ ?_
              refine EA.tLoad 20 rfl (by kernel_rfl) rfl rfl rfl rfl (fun _ hz => hz.2.1) hZ ?_
              refine EA.tNot 21 rfl (by kernel_rfl) rfl rfl rfl rfl hZ ?_
              refine EA.tMove 22 rfl (by kernel_rfl) rfl rfl rfl rfl hZ ?_
              refine EA.tField 23 rfl (by kernel_rfl) rfl rfl rfl rfl hZ ?_
              refine EA.tLoad 24 rfl (by kernel_rfl) rfl rfl rfl rfl (fun _ hz => hz.2.2.1) hZ ?_
              refine EA.tMove 25 rfl (by kernel_rfl) rfl rfl rfl rfl hZ ?_
              refine EA.tNil 26 rfl (by kernel_rfl) rfl rfl rfl rfl hZ ?_
              refine EA.tField 27 rfl (by kernel_rfl) rfl rfl rfl rfl hZ ?_
              refine EA.tLoad 28 rfl (by kernel_rfl) rfl rfl rfl rfl (fun _ hz => hz.2.2.2) hZ ?_
              refine EA.tCmpT 29 rfl (by kernel_rfl) rfl rfl rfl rfl rfl rfl (by first | (dsimp only [cmpP]; omega) | exact rfl | exact Int.le_refl _) hZ ?_
              refine EA.tPickT 30 rfl (by kernel_rfl) rfl rfl rfl rfl rfl hZ ?_
              refine EA.tPickF 31 rfl (by kernel_rfl) rfl rfl rfl rfl rfl hZ ?_
              refine EA.val 32 rfl (by kernel_rfl) rfl rfl rfl (fun ρ Q X hρ hq => sem_nilCheck (hρ _ _ rfl) hq) hZ ?_
              refine EA.tField 33 rfl (by kernel_rfl) rfl rfl rfl rfl hZ ?_
              refine EA.unitL (h' := h3.setIfInBounds c.S0 (stgO (B 0) (B 2) (B 3) c.T c.n (xa, xt, xh, true))) 34 rfl (by kernel_rfl) rfl rfl rfl (fun ρ Q X hρ hq => sem_store1 (hρ _ _ rfl) (hρ _ _ rfl) ⟨nofun, nofun⟩ ⟨_, hcell_of st rfl⟩ (hfroz_of st) (T3.free (.inl (.inl ok2))) (by
                have e7 : hset h3 ⟨c.S0, 7, none⟩ (.bool true) = h3.setIfInBounds c.S0 (stgO (B 0) (B 2) (B 3) c.T c.n (xa, xt, xh, true)) := hset_block st _
                rw [show (0 : Nat) + 7 = 7 from rfl, e7]; exact hq)) ?_
              refine EA.done (by kernel_rfl) ?_
              have T5 := T3.stg ok ok2 hTS (xa, xt, xh, true) (by rw [hc0, hp0, hk0])
              skip
              exact EK.back (key2 true _ _ ⟨rfl, T5⟩) ⟨rfl, rfl, rfl, trivial⟩
            · skip
              refine EA.tMove 0 rfl (by kernel_rfl) rfl rfl rfl rfl hZ ?_
              refine EA.tMove 1 rfl (by kernel_rfl) rfl rfl rfl rfl hZ ?_
              refine EA.tNil 2 rfl (by kernel_rfl) rfl rfl rfl rfl hZ ?_
              refine EA.tField 3 rfl (by kernel_rfl) rfl rfl rfl rfl hZ ?_
              refine EA.tLoad 4 rfl (by kernel_rfl) rfl rfl rfl rfl (fun _ hz => hz.1) hZ ?_
              refine EA.tMove 5 rfl (by kernel_rfl) rfl rfl rfl rfl hZ ?_
              refine EA.tField 6 rfl (by kernel_rfl) rfl rfl rfl rfl hZ ?_
              refine EA.tLoad 7 rfl (by kernel_rfl) rfl rfl rfl rfl (fun _ hz => hz.2.1) hZ ?_
              refine EA.tMove 8 rfl (by kernel_rfl) rfl rfl rfl rfl hZ ?_
              refine EA.takeNo 9 rfl (by kernel_rfl) rfl rfl rfl hZ ?_
              refine EA.takeNo 10 rfl (by kernel_rfl) rfl rfl rfl hZ ?_
              refine EA.takeNo 11 rfl (by kernel_rfl) rfl rfl rfl hZ ?_
              refine EA.takeNo 12 rfl (by kernel_rfl) rfl rfl rfl hZ ?_
              refine EA.takeNo 13 rfl (by kernel_rfl) rfl rfl rfl hZ ?_
              refine EA.takeNo 14 rfl (by kernel_rfl) rfl rfl rfl hZ ?_
              refine EA.takeNo 15 rfl (by kernel_rfl) rfl rfl rfl hZ ?_
              refine EA.tPickF 16 rfl (by kernel_rfl) rfl rfl rfl rfl rfl hZ ?_
              refine EA.tPickF 17 rfl (by kernel_rfl) rfl rfl rfl rfl rfl hZ ?_
              refine EA.tMove 18 rfl (by kernel_rfl) rfl rfl rfl rfl hZ ?_
              refine EA.tField 19 rfl (by kernel_rfl) rfl rfl rfl rfl hZ ?_
              refine EA.tLoad 20 rfl (by kernel_rfl) rfl rfl rfl rfl (fun _ hz => hz.2.1) hZ ?_
              refine EA.tNot 21 rfl (by kernel_rfl) rfl rfl rfl rfl hZ ?_
              refine EA.tMove 22 rfl (by kernel_rfl) rfl rfl rfl rfl hZ ?_
              refine EA.tField 23 rfl (by kernel_rfl) rfl rfl rfl rfl hZ ?_
              refine EA.tLoad 24 rfl (by kernel_rfl) rfl rfl rfl rfl (fun _ hz => hz.2.2.1) hZ ?_
              refine EA.tMove 25 rfl (by kernel_rfl) rfl rfl rfl rfl hZ ?_
              refine EA.tNil 26 rfl (by kernel_rfl) rfl rfl rfl rfl hZ ?_
              refine EA.tField 27 rfl (by kernel_rfl) rfl rfl rfl rfl hZ ?_
              refine EA.tLoad 28 rfl (by kernel_rfl) rfl rfl rfl rfl (fun _ hz => hz.2.2.2) hZ ?_
              refine EA.tCmpF 29 rfl (by kernel_rfl) rfl rfl rfl rfl rfl rfl (by first | (dsimp only [cmpP]; omega) | exact rfl | exact Int.le_refl _) hZ ?_
              refine EA.tPickT 30 rfl (by kernel_rfl) rfl rfl rfl rfl rfl hZ ?_
              refine EA.tPickF 31 rfl (by kernel_rfl) rfl rfl rfl rfl rfl hZ ?_
              refine EA.val 32 rfl (by kernel_rfl) rfl rfl rfl (fun ρ Q X hρ hq => sem_nilCheck (hρ _ _ rfl) hq) hZ ?_
              refine EA.tField 33 rfl (by kernel_rfl) rfl rfl rfl rfl hZ ?_
              refine EA.unitL (h' := h3.setIfInBounds c.S0 (stgO (B 0) (B 2) (B 3) c.T c.n (xa, xt, xh, false))) 34 rfl (by kernel_rfl) rfl rfl rfl (fun ρ Q X hρ hq => sem_store1 (hρ _ _ rfl) (hρ _ _ rfl) ⟨nofun, nofun⟩ ⟨_, hcell_of st rfl⟩ (hfroz_of st) (T3.free (.inl (.inl ok2))) (by
                have e7 : hset h3 ⟨c.S0, 7, none⟩ (.bool false) = h3.setIfInBounds c.S0 (stgO (B 0) (B 2) (B 3) c.T c.n (xa, xt, xh, false)) := hset_block st _
                rw [show (0 : Nat) + 7 = 7 from rfl, e7]; exact hq)) ?_
              refine EA.done (by kernel_rfl) ?_
              have T5 := T3.stg ok ok2 hTS (xa, xt, xh, false) (by rw [hc0, hp0, hk0])
              skip
              exact EK.back (key2 false _ _ ⟨rfl, T5⟩) ⟨rfl, rfl, rfl, trivial⟩
      · clear st g5 g6 T3 hx
        rintro w' h4 _ ⟨rfl, T3⟩
        have st := gS T3
        have g5 := z5 T3
        refine EK.regionAnyL (fun h' => hcell h' ⟨c.S0, 5, none⟩ = some (.int .i64 xt) /\ hcell h' ⟨y5, 2, none⟩ = some (.int .i64 v)) 10 ?_
        have hZ : _ /\ _ := And.intro (hcell_of st rfl : hcell h4 ⟨c.S0, 5, none⟩ = some (.int .i64 xt)) (hcell_of g5 rfl : hcell h4 ⟨y5, 2, none⟩ = some (.int .i64 v))
        refine EA.tMove 0 rfl (by kernel_rfl) rfl rfl rfl rfl hZ ?_
        refine EA.tMove 1 rfl (by kernel_rfl) rfl rfl rfl rfl hZ ?_
        refine EA.tNil 2 rfl (by kernel_rfl) rfl rfl rfl rfl hZ ?_
        refine EA.tField 3 rfl (by kernel_rfl) rfl rfl rfl rfl hZ ?_
        refine EA.tLoad 4 rfl (by kernel_rfl) rfl rfl rfl rfl (fun _ hz => hz.1) hZ ?_
        refine EA.tField 5 rfl (by kernel_rfl) rfl rfl rfl rfl hZ ?_
        refine EA.tLoad 6 rfl (by kernel_rfl) rfl rfl rfl rfl (fun _ hz => hz.2) hZ ?_
        refine EA.val (v := .int .i64 (if v > xt then v else xt)) 7 rfl (by kernel_rfl) rfl rfl rfl (fun ρ Q X hρ hq => sem_max (hρ _ _ rfl) (hρ _ _ rfl) rfl hq) hZ ?_
        refine EA.val 8 rfl (by kernel_rfl) rfl rfl rfl (fun ρ Q X hρ hq => sem_nilCheck (hρ _ _ rfl) hq) hZ ?_
        refine EA.tField 9 rfl (by kernel_rfl) rfl rfl rfl rfl hZ ?_
        refine EA.unitL (h' := h4.setIfInBounds c.S0 (stgO (B 0) (B 2) (B 3) c.T c.n (xa, (if v > xt then v else xt), xh, w'))) 10 rfl (by kernel_rfl) rfl rfl rfl (fun ρ Q X hρ hq => sem_store1 (hρ _ _ rfl) (hρ _ _ rfl) ⟨nofun, nofun⟩ ⟨_, hcell_of st rfl⟩ (hfroz_of st) (T3.free (.inl (.inl ok2))) (by
          have e7 : hset h4 ⟨c.S0, 5, none⟩ (.int .i64 (if v > xt then v else xt)) = h4.setIfInBounds c.S0 (stgO (B 0) (B 2) (B 3) c.T c.n (xa, (if v > xt then v else xt), xh, w')) := hset_block st _
          rw [show (0 : Nat) + 5 = 5 from rfl, e7]; exact hq)) ?_
        refine EA.done (by kernel_rfl) ?_
        have T5 := T3.stg ok ok2 hTS (xa, (if v > xt then v else xt), xh, w') (by rw [hc0, hp0, hk0])
        (repeat refine EK.inBlock ?_)
        exact EK.back (key (γ2, (γ2.p.u.1, (xa, (if v > xt then v else xt), xh, w')), (0, is, 0)) _ _ ⟨rfl, nx.al, ⟨T5, nx.at_.res⟩, nx.V⟩) ⟨rfl, trivial⟩
    by_cases h3' : d = 3
    · subst h3'
      rw [callC3] at a
      have c0 : hcell h1 ⟨c.S0, 1, none⟩ = some (ptr (B 2)) := hcell_of st rfl
      (repeat (first | refine EK.seq ?_ | refine EK.region ?_ | refine ER.done ?_ | refine EK.block ?_ | refine ER.move rfl rfl rfl ?_ | refine ER.assign rfl rfl rfl ?_ | refine ER.nilCheck rfl rfl rfl ?_ | refine ER.fieldAddr rfl rfl rfl ?_ | refine ER.load1 rfl rfl rfl (hcell_of (by assumption) rfl) ?_ | refine ER.cmpT rfl rfl rfl rfl rfl (by first | (dsimp only [cmpP]; omega) | exact rfl | exact Int.le_refl _) ?_ | refine ER.cmpF rfl rfl rfl rfl rfl (by first | (dsimp only [cmpP]; omega) | exact rfl | exact Int.le_refl _) ?_ | refine EK.condT rfl ?_ | refine EK.condF rfl ?_))
      refine ER.callP rfl rfl rfl rfl rfl (ctop_T K D a rfl) (fun _ _ _ x => x) ?_
      clear st g5 c0
      rintro _ h2 δ2 ⟨γ2, v1, rfl, rfl, nx⟩
      have T3 := nx.at_.thr
      have g6 := (T3.privs.1 (y6, gansO (0, false, 0)) List.mem_cons_self).1
      (repeat refine ER.fieldAddr rfl rfl rfl ?_)
      have g6 := (T3.privs.1 (y6, gansO (0, false, 0)) List.mem_cons_self).1
      refine ER.store1 rfl rfl rfl ⟨nofun, nofun⟩ ⟨_, hcell_of g6 rfl⟩ (hfroz_of g6) (T3.free (.inr (.inr (.inl ⟨_, List.mem_cons_self, rfl⟩)))) ?_
      have e7 : hset h2 ⟨y6, 0, none⟩ (.int .i64 v1) = h2.setIfInBounds y6 (gansO (v1, false, 0)) := hset_block g6 _
      have T4 := T3.priv1 (o := gansO (v1, false, 0)) K.ok hn
      change ER _ _ _ _ _ _ _ _ _ _ (hset h2 ⟨y6, 0, none⟩ (.int .i64 v1)) _ _
      rw [e7]
      clear e7 g6 T3
      generalize h2.setIfInBounds y6 (gansO (v1, false, 0)) = h3 at T4 ⊢
      have T3 := T4
      clear T4
      have st := gS T3
      have g6 := (T3.privs.1 (y6, gansO (v1, false, 0)) List.mem_cons_self).1
      obtain ⟨⟨xa, xt, xh, xw⟩, hx⟩ : ∃ x : Xs, γ2.p.u.2 = x := ⟨_, rfl⟩
      rw [hx] at st
      (repeat (first | refine EK.seq ?_ | refine EK.region ?_ | refine ER.done ?_))
      refine EK.regionAnyL (fun h' => hcell h' ⟨c.S0, 7, none⟩ = some (.bool xw) /\ hcell h' ⟨y6, 0, none⟩ = some (.int .i64 v1) /\ hcell h' ⟨c.S0, 5, none⟩ = some (.int .i64 xt)) 16 ?_
      have hZ : _ /\ _ /\ _ := And.intro (hcell_of st rfl : hcell h3 ⟨c.S0, 7, none⟩ = some (.bool xw)) (And.intro (hcell_of g6 rfl : hcell h3 ⟨y6, 0, none⟩ = some (.int .i64 v1)) (hcell_of st rfl : hcell h3 ⟨c.S0, 5, none⟩ = some (.int .i64 xt)))
      cases xw with
      | true =>
        refine EA.tMove 0 rfl (by kernel_rfl) rfl rfl rfl rfl hZ ?_
        refine EA.tMove 1 rfl (by kernel_rfl) rfl rfl rfl rfl hZ ?_
        refine EA.tNil 2 rfl (by kernel_rfl) rfl rfl rfl rfl hZ ?_
        refine EA.tField 3 rfl (by kernel_rfl) rfl rfl rfl rfl hZ ?_
        refine EA.tLoad 4 rfl (by kernel_rfl) rfl rfl rfl rfl (fun _ hz => hz.1) hZ ?_
        refine EA.tMove 5 rfl (by kernel_rfl) rfl rfl rfl rfl hZ ?_
        refine EA.takeNo 6 rfl (by kernel_rfl) rfl rfl rfl hZ ?_
        refine EA.takeNo 7 rfl (by kernel_rfl) rfl rfl rfl hZ ?_
        refine EA.takeNo 8 rfl (by kernel_rfl) rfl rfl rfl hZ ?_
        refine EA.takeNo 9 rfl (by kernel_rfl) rfl rfl rfl hZ ?_
        refine EA.takeNo 10 rfl (by kernel_rfl) rfl rfl rfl hZ ?_
        refine EA.takeNo 11 rfl (by kernel_rfl) rfl rfl rfl hZ ?_
        refine EA.takeNo 12 rfl (by kernel_rfl) rfl rfl rfl hZ ?_
        refine EA.tPickT 13 rfl (by kernel_rfl) rfl rfl rfl rfl rfl hZ ?_
        refine EA.val 14 rfl (by kernel_rfl) rfl rfl rfl (fun ρ Q X hρ hq => sem_nilCheck (hρ _ _ rfl) hq) hZ ?_
        refine EA.tField 15 rfl (by kernel_rfl) rfl rfl rfl rfl hZ ?_
        refine EA.unitL (h' := h3.setIfInBounds c.S0 (stgO (B 0) (B 2) (B 3) c.T c.n (xa, xt, xh, true))) 16 rfl (by kernel_rfl) rfl rfl rfl (fun ρ Q X hρ hq => sem_store1 (hρ _ _ rfl) (hρ _ _ rfl) ⟨nofun, nofun⟩ ⟨_, hcell_of st rfl⟩ (hfroz_of st) (T3.free (.inl (.inl ok2))) (by
          have e7 : hset h3 ⟨c.S0, 7, none⟩ (.bool true) = h3.setIfInBounds c.S0 (stgO (B 0) (B 2) (B 3) c.T c.n (xa, xt, xh, true)) := hset_block st _
          rw [show (0 : Nat) + 7 = 7 from rfl, e7]; exact hq)) ?_
        refine EA.done (by kernel_rfl) ?_
        have T5 := T3.stg ok ok2 hTS (xa, xt, xh, true) (by rw [hc0, hp0, hk0])
        (repeat refine EK.inBlock ?_)
        exact EK.back (key (γ2, (γ2.p.u.1, (xa, xt, xh, true)), (v1, false, 0)) _ _ ⟨rfl, nx.al, ⟨T5, nx.at_.res⟩, nx.V⟩) ⟨rfl, trivial⟩
      | false =>
        by_cases hne : v1 = xt
        · skip
          refine EA.tMove 0 rfl (by kernel_rfl) rfl rfl rfl rfl hZ ?_
          refine EA.tMove 1 rfl (by kernel_rfl) rfl rfl rfl rfl hZ ?_
          refine EA.tNil 2 rfl (by kernel_rfl) rfl rfl rfl rfl hZ ?_
          refine EA.tField 3 rfl (by kernel_rfl) rfl rfl rfl rfl hZ ?_
          refine EA.tLoad 4 rfl (by kernel_rfl) rfl rfl rfl rfl (fun _ hz => hz.1) hZ ?_
          refine EA.tMove 5 rfl (by kernel_rfl) rfl rfl rfl rfl hZ ?_
          refine EA.tField 6 rfl (by kernel_rfl) rfl rfl rfl rfl hZ ?_
          refine EA.tLoad 7 rfl (by kernel_rfl) rfl rfl rfl rfl (fun _ hz => hz.2.1) hZ ?_
          refine EA.tMove 8 rfl (by kernel_rfl) rfl rfl rfl rfl hZ ?_
          refine EA.tNil 9 rfl (by kernel_rfl) rfl rfl rfl rfl hZ ?_
          refine EA.tField 10 rfl (by kernel_rfl) rfl rfl rfl rfl hZ ?_
          refine EA.tLoad 11 rfl (by kernel_rfl) rfl rfl rfl rfl (fun _ hz => hz.2.2) hZ ?_
          refine EA.tCmpF 12 rfl (by kernel_rfl) rfl rfl rfl rfl rfl rfl (by first | (dsimp only [cmpP]; omega) | exact rfl | exact Int.le_refl _) hZ ?_
          refine EA.tPickF 13 rfl (by kernel_rfl) rfl rfl rfl rfl rfl hZ ?_
          refine EA.val 14 rfl (by kernel_rfl) rfl rfl rfl (fun ρ Q X hρ hq => sem_nilCheck (hρ _ _ rfl) hq) hZ ?_
          refine EA.tField 15 rfl (by kernel_rfl) rfl rfl rfl rfl hZ ?_
          refine EA.unitL (h' := h3.setIfInBounds c.S0 (stgO (B 0) (B 2) (B 3) c.T c.n (xa, xt, xh, false))) 16 rfl (by kernel_rfl) rfl rfl rfl (fun ρ Q X hρ hq => sem_store1 (hρ _ _ rfl) (hρ _ _ rfl) ⟨nofun, nofun⟩ ⟨_, hcell_of st rfl⟩ (hfroz_of st) (T3.free (.inl (.inl ok2))) (by
            have e7 : hset h3 ⟨c.S0, 7, none⟩ (.bool false) = h3.setIfInBounds c.S0 (stgO (B 0) (B 2) (B 3) c.T c.n (xa, xt, xh, false)) := hset_block st _
            rw [show (0 : Nat) + 7 = 7 from rfl, e7]; exact hq)) ?_
          refine EA.done (by kernel_rfl) ?_
          have T5 := T3.stg ok ok2 hTS (xa, xt, xh, false) (by rw [hc0, hp0, hk0])
          (repeat refine EK.inBlock ?_)
          exact EK.back (key (γ2, (γ2.p.u.1, (xa, xt, xh, false)), (v1, false, 0)) _ _ ⟨rfl, nx.al, ⟨T5, nx.at_.res⟩, nx.V⟩) ⟨rfl, trivial⟩
        · skip
          refine EA.tMove 0 rfl (by kernel_rfl) rfl rfl rfl rfl hZ ?_
          refine EA.tMove 1 rfl (by kernel_rfl) rfl rfl rfl rfl hZ ?_
          refine EA.tNil 2 rfl (by kernel_rfl) rfl rfl rfl rfl hZ ?_
          refine EA.tField 3 rfl (by kernel_rfl) rfl rfl rfl rfl hZ ?_
          refine EA.tLoad 4 rfl (by kernel_rfl) rfl rfl rfl rfl (fun _ hz => hz.1) hZ ?_
          refine EA.tMove 5 rfl (by kernel_rfl) rfl rfl rfl rfl hZ ?_
          refine EA.tField 6 rfl (by kernel_rfl) rfl rfl rfl rfl hZ ?_
          refine EA.tLoad 7 rfl (by kernel_rfl) rfl rfl rfl rfl (fun _ hz => hz.2.1) hZ ?_
          refine EA.tMove 8 rfl (by kernel_rfl) rfl rfl rfl rfl hZ ?_
          refine EA.tNil 9 rfl (by kernel_rfl) rfl rfl rfl rfl hZ ?_
          refine EA.tField 10 rfl (by kernel_rfl) rfl rfl rfl rfl hZ ?_
          refine EA.tLoad 11 rfl (by kernel_rfl) rfl rfl rfl rfl (fun _ hz => hz.2.2) hZ ?_
          refine EA.tCmpT 12 rfl (by kernel_rfl) rfl rfl rfl rfl rfl rfl (by first | (dsimp only [cmpP]; omega) | exact rfl | exact Int.le_refl _) hZ ?_
          refine EA.tPickF 13 rfl (by kernel_rfl) rfl rfl rfl rfl rfl hZ ?_
          refine EA.val 14 rfl (by kernel_rfl) rfl rfl rfl (fun ρ Q X hρ hq => sem_nilCheck (hρ _ _ rfl) hq) hZ ?_
          refine EA.tField 15 rfl (by kernel_rfl) rfl rfl rfl rfl hZ ?_
          refine EA.unitL (h' := h3.setIfInBounds c.S0 (stgO (B 0) (B 2) (B 3) c.T c.n (xa, xt, xh, true))) 16 rfl (by kernel_rfl) rfl rfl rfl (fun ρ Q X hρ hq => sem_store1 (hρ _ _ rfl) (hρ _ _ rfl) ⟨nofun, nofun⟩ ⟨_, hcell_of st rfl⟩ (hfroz_of st) (T3.free (.inl (.inl ok2))) (by
            have e7 : hset h3 ⟨c.S0, 7, none⟩ (.bool true) = h3.setIfInBounds c.S0 (stgO (B 0) (B 2) (B 3) c.T c.n (xa, xt, xh, true)) := hset_block st _
            rw [show (0 : Nat) + 7 = 7 from rfl, e7]; exact hq)) ?_
          refine EA.done (by kernel_rfl) ?_
          have T5 := T3.stg ok ok2 hTS (xa, xt, xh, true) (by rw [hc0, hp0, hk0])
          (repeat refine EK.inBlock ?_)
          exact EK.back (key (γ2, (γ2.p.u.1, (xa, xt, xh, true)), (v1, false, 0)) _ _ ⟨rfl, nx.al, ⟨T5, nx.at_.res⟩, nx.V⟩) ⟨rfl, trivial⟩
    by_cases h4' : d = 4
    · subst h4'
      rw [callC4] at a
      have c0 : hcell h1 ⟨c.S0, 2, none⟩ = some (ptr (B 3)) := hcell_of st rfl
      (repeat (first | refine EK.seq ?_ | refine EK.region ?_ | refine ER.done ?_ | refine EK.block ?_ | refine ER.move rfl rfl rfl ?_ | refine ER.assign rfl rfl rfl ?_ | refine ER.nilCheck rfl rfl rfl ?_ | refine ER.fieldAddr rfl rfl rfl ?_ | refine ER.load1 rfl rfl rfl (hcell_of (by assumption) rfl) ?_ | refine ER.cmpT rfl rfl rfl rfl rfl (by first | (dsimp only [cmpP]; omega) | exact rfl | exact Int.le_refl _) ?_ | refine ER.cmpF rfl rfl rfl rfl rfl (by first | (dsimp only [cmpP]; omega) | exact rfl | exact Int.le_refl _) ?_ | refine EK.condT rfl ?_ | refine EK.condF rfl ?_))
      refine ER.callP rfl rfl rfl rfl rfl (ctake_T K D a (by omega) rfl) (fun _ _ _ x => x) ?_
      clear st g5 c0
      rintro _ h2 δ2 ⟨γ2, is, rfl, rfl, nx⟩
      have T3 := nx.at_.thr
      have g6 := (T3.privs.1 (y6, gansO (0, false, 0)) List.mem_cons_self).1
      (repeat refine ER.fieldAddr rfl rfl rfl ?_)
      have g6 := (T3.privs.1 (y6, gansO (0, false, 0)) List.mem_cons_self).1
      refine ER.store1 rfl rfl rfl ⟨nofun, nofun⟩ ⟨_, hcell_of g6 rfl⟩ (hfroz_of g6) (T3.free (.inr (.inr (.inl ⟨_, List.mem_cons_self, rfl⟩)))) ?_
      have e7 : hset h2 ⟨y6, 1, none⟩ (.bool is) = h2.setIfInBounds y6 (gansO (0, is, 0)) := hset_block g6 _
      have T4 := T3.priv1 (o := gansO (0, is, 0)) K.ok hn
      change ER _ _ _ _ _ _ _ _ _ _ (hset h2 ⟨y6, 1, none⟩ (.bool is)) _ _
      rw [e7]
      clear e7 g6 T3
      generalize h2.setIfInBounds y6 (gansO (0, is, 0)) = h3 at T4 ⊢
      have T3 := T4
      clear T4
      have st := gS T3
      have g6 := (T3.privs.1 (y6, gansO (0, is, 0)) List.mem_cons_self).1
      obtain ⟨⟨xa, xt, xh, xw⟩, hx⟩ : ∃ x : Xs, γ2.p.u.2 = x := ⟨_, rfl⟩
      rw [hx] at st
      cases is with
      | true =>
        (repeat (first | refine EK.seq ?_ | refine EK.region ?_ | refine ER.done ?_ | refine ER.move rfl rfl rfl ?_ | refine ER.nilCheck rfl rfl rfl ?_ | refine ER.fieldAddr rfl rfl rfl ?_ | refine ER.load1 rfl rfl rfl (hcell_of (by assumption) rfl) ?_ | refine EK.condT rfl ?_))
        refine ER.add (r := W64 (xh + 1)) rfl rfl rfl rfl rfl ?_
        (repeat (first | refine ER.nilCheck rfl rfl rfl ?_ | refine ER.fieldAddr rfl rfl rfl ?_))
        refine ER.store1 rfl rfl rfl ⟨nofun, nofun⟩ ⟨_, hcell_of st rfl⟩ (hfroz_of st) (T3.free (.inl (.inl ok2))) ?_
        have e7 : hset h3 ⟨c.S0, 6, none⟩ (.int .i64 (W64 (xh + 1))) = h3.setIfInBounds c.S0 (stgO (B 0) (B 2) (B 3) c.T c.n (xa, xt, W64 (xh + 1), xw)) := hset_block st _
        change ER _ _ _ _ _ _ _ _ _ _ (hset h3 ⟨c.S0, 6, none⟩ (.int .i64 (W64 (xh + 1)))) _ _
        rw [e7]
        have T5 := T3.stg ok ok2 hTS (xa, xt, W64 (xh + 1), xw) (by rw [hc0, hp0, hk0])
        clear e7
        (repeat (first | refine ER.done ?_ | refine EK.inBlock ?_))
        exact EK.back (key (γ2, (γ2.p.u.1, (xa, xt, W64 (xh + 1), xw)), (0, true, 0)) _ _ ⟨rfl, nx.al, ⟨T5, nx.at_.res⟩, nx.V⟩) ⟨rfl, trivial⟩
      | false =>
        (repeat (first | refine EK.seq ?_ | refine EK.region ?_ | refine ER.done ?_ | refine EK.skip ?_ | refine EK.inBlock ?_ | refine ER.fieldAddr rfl rfl rfl ?_ | refine ER.load1 rfl rfl rfl (hcell_of (by assumption) rfl) ?_ | refine EK.condF rfl ?_))
        exact EK.back (key (γ2, γ2.p.u, (0, false, 0)) _ _ ⟨rfl, nx.al, ⟨T3, nx.at_.res⟩, nx.V⟩) ⟨rfl, trivial⟩
    by_cases h5' : d = 5
    · subst h5'
      rw [callC5] at a
      have c0 : hcell h1 ⟨c.S0, 2, none⟩ = some (ptr (B 3)) := hcell_of st rfl
      (repeat (first | refine EK.seq ?_ | refine EK.region ?_ | refine ER.done ?_ | refine EK.block ?_ | refine ER.move rfl rfl rfl ?_ | refine ER.assign rfl rfl rfl ?_ | refine ER.nilCheck rfl rfl rfl ?_ | refine ER.fieldAddr rfl rfl rfl ?_ | refine ER.load1 rfl rfl rfl (hcell_of (by assumption) rfl) ?_ | refine ER.cmpT rfl rfl rfl rfl rfl (by first | (dsimp only [cmpP]; omega) | exact rfl | exact Int.le_refl _) ?_ | refine ER.cmpF rfl rfl rfl rfl rfl (by first | (dsimp only [cmpP]; omega) | exact rfl | exact Int.le_refl _) ?_ | refine EK.condT rfl ?_ | refine EK.condF rfl ?_))
      refine ER.callP rfl rfl rfl rfl rfl (cback_T K D a (by omega) rfl) (fun _ _ _ x => x) ?_
      clear st g5 c0
      rintro _ h2 δ2 ⟨γ2, e1, rfl, rfl, nx⟩
      have T3 := nx.at_.thr
      have g6 := (T3.privs.1 (y6, gansO (0, false, 0)) List.mem_cons_self).1
      (repeat refine ER.fieldAddr rfl rfl rfl ?_)
      have g6 := (T3.privs.1 (y6, gansO (0, false, 0)) List.mem_cons_self).1
      refine ER.store1 rfl rfl rfl ⟨nofun, nofun⟩ ⟨_, hcell_of g6 rfl⟩ (hfroz_of g6) (T3.free (.inr (.inr (.inl ⟨_, List.mem_cons_self, rfl⟩)))) ?_
      have e7 : hset h2 ⟨y6, 2, none⟩ (.int .i64 e1) = h2.setIfInBounds y6 (gansO (0, false, e1)) := hset_block g6 _
      have T4 := T3.priv1 (o := gansO (0, false, e1)) K.ok hn
      change ER _ _ _ _ _ _ _ _ _ _ (hset h2 ⟨y6, 2, none⟩ (.int .i64 e1)) _ _
      rw [e7]
      clear e7 g6 T3
      generalize h2.setIfInBounds y6 (gansO (0, false, e1)) = h3 at T4 ⊢
      have T3 := T4
      clear T4
      have st := gS T3
      have g6 := (T3.privs.1 (y6, gansO (0, false, e1)) List.mem_cons_self).1
      obtain ⟨⟨xa, xt, xh, xw⟩, hx⟩ : ∃ x : Xs, γ2.p.u.2 = x := ⟨_, rfl⟩
      rw [hx] at st
      by_cases he : e1 = 0
      · subst he
        (repeat (first | refine EK.seq ?_ | refine EK.region ?_ | refine ER.done ?_ | refine ER.move rfl rfl rfl ?_ | refine ER.nilCheck rfl rfl rfl ?_ | refine ER.fieldAddr rfl rfl rfl ?_ | refine ER.load1 rfl rfl rfl (hcell_of (by assumption) rfl) ?_ | refine ER.cmpT rfl rfl rfl rfl rfl (by first | (dsimp only [cmpP]; omega) | exact rfl | exact Int.le_refl _) ?_ | refine EK.condT rfl ?_))
        refine ER.sub' (r := W64 (xh - 1)) rfl rfl rfl rfl rfl ?_
        (repeat (first | refine ER.nilCheck rfl rfl rfl ?_ | refine ER.fieldAddr rfl rfl rfl ?_))
        refine ER.store1 rfl rfl rfl ⟨nofun, nofun⟩ ⟨_, hcell_of st rfl⟩ (hfroz_of st) (T3.free (.inl (.inl ok2))) ?_
        have e7 : hset h3 ⟨c.S0, 6, none⟩ (.int .i64 (W64 (xh - 1))) = h3.setIfInBounds c.S0 (stgO (B 0) (B 2) (B 3) c.T c.n (xa, xt, W64 (xh - 1), xw)) := hset_block st _
        change ER _ _ _ _ _ _ _ _ _ _ (hset h3 ⟨c.S0, 6, none⟩ (.int .i64 (W64 (xh - 1)))) _ _
        rw [e7]
        have T5 := T3.stg ok ok2 hTS (xa, xt, W64 (xh - 1), xw) (by rw [hc0, hp0, hk0])
        clear e7
        (repeat (first | refine ER.done ?_ | refine EK.inBlock ?_))
        exact EK.back (key (γ2, (γ2.p.u.1, (xa, xt, W64 (xh - 1), xw)), (0, false, 0)) _ _ ⟨rfl, nx.al, ⟨T5, nx.at_.res⟩, nx.V⟩) ⟨rfl, trivial⟩
      · (repeat (first | refine EK.seq ?_ | refine EK.region ?_ | refine ER.done ?_ | refine EK.skip ?_ | refine EK.inBlock ?_ | refine ER.fieldAddr rfl rfl rfl ?_ | refine ER.load1 rfl rfl rfl (hcell_of (by assumption) rfl) ?_ | refine ER.cmpF rfl rfl rfl rfl rfl (by first | (dsimp only [cmpP]; omega) | exact rfl | exact Int.le_refl _) ?_ | refine EK.condF rfl ?_))
        exact EK.back (key (γ2, γ2.p.u, (0, false, e1)) _ _ ⟨rfl, nx.al, ⟨T3, nx.at_.res⟩, nx.V⟩) ⟨rfl, trivial⟩
    by_cases h6' : d = 6
    · subst h6'
      rw [callC6] at a
      have c0 : hcell h1 ⟨c.S0, 2, none⟩ = some (ptr (B 3)) := hcell_of st rfl
      (repeat (first | refine EK.seq ?_ | refine EK.region ?_ | refine ER.done ?_ | refine EK.block ?_ | refine ER.move rfl rfl rfl ?_ | refine ER.assign rfl rfl rfl ?_ | refine ER.nilCheck rfl rfl rfl ?_ | refine ER.fieldAddr rfl rfl rfl ?_ | refine ER.load1 rfl rfl rfl (hcell_of (by assumption) rfl) ?_ | refine ER.cmpT rfl rfl rfl rfl rfl (by first | (dsimp only [cmpP]; omega) | exact rfl | exact Int.le_refl _) ?_ | refine ER.cmpF rfl rfl rfl rfl rfl (by first | (dsimp only [cmpP]; omega) | exact rfl | exact Int.le_refl _) ?_ | refine EK.condT rfl ?_ | refine EK.condF rfl ?_))
      refine ER.callP rfl rfl rfl rfl rfl (cleft_T K D a rfl) (fun _ _ _ x => x) ?_
      clear st g5 c0
      rintro _ h2 δ2 ⟨γ2, v1, rfl, rfl, nx⟩
      have T3 := nx.at_.thr
      have g6 := (T3.privs.1 (y6, gansO (0, false, 0)) List.mem_cons_self).1
      (repeat refine ER.fieldAddr rfl rfl rfl ?_)
      have g6 := (T3.privs.1 (y6, gansO (0, false, 0)) List.mem_cons_self).1
      refine ER.store1 rfl rfl rfl ⟨nofun, nofun⟩ ⟨_, hcell_of g6 rfl⟩ (hfroz_of g6) (T3.free (.inr (.inr (.inl ⟨_, List.mem_cons_self, rfl⟩)))) ?_
      have e7 : hset h2 ⟨y6, 0, none⟩ (.int .i64 v1) = h2.setIfInBounds y6 (gansO (v1, false, 0)) := hset_block g6 _
      have T4 := T3.priv1 (o := gansO (v1, false, 0)) K.ok hn
      change ER _ _ _ _ _ _ _ _ _ _ (hset h2 ⟨y6, 0, none⟩ (.int .i64 v1)) _ _
      rw [e7]
      clear e7 g6 T3
      generalize h2.setIfInBounds y6 (gansO (v1, false, 0)) = h3 at T4 ⊢
      have T3 := T4
      clear T4
      (repeat (first | refine ER.done ?_ | refine EK.inBlock ?_))
      exact EK.back (key (γ2, γ2.p.u, (v1, false, 0)) _ _ ⟨rfl, nx.al, ⟨T3, nx.at_.res⟩, nx.V⟩) ⟨rfl, trivial⟩
    · rw [callC7 h0 h1' h2' h3' h4' h5' h6'] at a
      clear st g5
      (repeat (first | refine EK.seq ?_ | refine EK.region ?_ | refine ER.done ?_ | refine EK.skip ?_ | refine EK.block ?_ | refine EK.inBlock ?_ | refine ER.assign rfl rfl rfl ?_ | refine ER.cmpF rfl rfl rfl rfl rfl (by first | (dsimp only [cmpP]; omega) | exact rfl | exact Int.le_refl _) ?_ | refine EK.condF rfl ?_))
      exact EK.back (key (γ, u, (0, false, 0)) _ _ ⟨rfl, Along.refl _ _, a, K.ok.vrefl _ _⟩) ⟨rfl, trivial⟩
  · clear a
    rintro ⟨γ2, u2, ans⟩ h3 _ ⟨rfl, al, at2, hV⟩
    dsimp only at al at2 hV ⊢
    have T3 := at2.thr
    have g6 := (T3.privs.1 (y6, gansO ans) List.mem_cons_self).1
    have T4 := ((T3.priv1 (y := y6) (o := gansO ans) K.ok hn).sub K.ok (L' := L) (fun q hq => List.mem_cons_of_mem _ (List.mem_cons_of_mem _ hq)))
    (repeat (first | refine EK.seq ?_ | refine EK.region ?_))
    refine ER.loadN (vs := gansL ans) rfl rfl rfl rfl (hrow_block (rest := []) (by rw [List.append_nil]; exact g6)) ?_
    refine ER.storeN (vs := gansL ans) rfl rfl rfl rfl (by simp [gansL, OneCell]) (fun j hj => ⟨⟨_, hcell_of g6 (by simp only [List.getElem?_toArray]; exact List.getElem?_eq_getElem (by simpa using hj))⟩, hfroz_of g6, T3.free (.inr (.inr (.inl ⟨_, List.mem_cons_self, rfl⟩)))⟩) ?_
    rw [row_set (c := gansL ans) (vs := gansL ans) g6 rfl]
    (repeat (first | refine ER.done ?_ | refine EK.ret ?_))
    exact EU.retCell1 (vs := gansL ans) rfl rfl rfl (hrow_block (rest := []) (by rw [List.append_nil]; exact get_set_same g6)) ⟨γ2, u2, ans, rfl, rfl, ⟨al, ⟨T4, at2.res⟩, hV⟩⟩
end
end
section
open Go Go.TJ Go.Conc Go.Proofs
section
variable {Γ : Type} {P : Program} {main : Bool} {S : Sit Γ} {f : FuncId} {n : Nat} {k : List Item} {env : Env} {ds : List Deferred} {h : Hp} {δ : Ix Γ} {R : Post Γ}
variable {ops : Array Oper} {l : List Oper} {d : Nat} {ty : TypeId} {pos : String} {af : Array Edge} {g : Option (Nat × Bool)}
theorem sem_appendNil {t e by_ : Nat} {z : Value} [hinf : Inf P e 1 by_ z] [hu : Und P t (.slice e)] {x : Value} {vs : List Value} {Q : Value -> Hp -> Ix Γ -> Prop} {X : Value -> Hp -> Ix Γ -> Prop}
    (hx : RdS h x vs) (hfit : vs.length * by_ <= 140737488355328) (hm : vs.length < 1000000000000) (hz : z.cells.size = 1)
    (hq : ∀ s' h', SliceO h' s' e 1 vs.length vs -> Upd (fun _ => False) h h' -> (∀ b, blk s' = some b -> b = h.size) -> Q s' h' δ) :
    SemW P S (Builtin.append_ #[t, t] ty #[.slice none 0 0, x]) h δ Q X := by
  obtain ⟨a, c', rfl⟩ := hx.val
  obtain ⟨inf, hi1, hi2, hi3, hi4⟩ := hinf.get
  have hfirst : ∀ {Q' : Array Value -> Hp -> Ix Γ -> Prop}, Q' vs.toArray h δ -> SemW P S (Builtin.firstCells 1 vs.length (.slice a vs.length c')) h δ Q' X := fun {Q'} hq' => by
    cases hv : vs with
    | nil =>
      subst hv
      cases a with
      | none => exact hq'
      | some a => exact hq'
    | cons v0 vt =>
      obtain ⟨b, o, k, e1, -⟩ := hx.cell 0 v0 (by rw [hv]; rfl)
      injection e1 with e1
      subst e1
      rw [<- hv]
      show SemW P S (loadCells ⟨b, o, none⟩ (vs.length * 1)) h δ Q' X
      rw [Nat.mul_one]
      refine semW_loadCellsFrom vs 0 #[] (fun j v hj => ?_) (by simpa using hq')
      obtain ⟨b', o', k', e2, hc⟩ := hx.cell j v hj
      injection e2 with e2
      injection e2 with e2
      injection e2 with e2 e3
      subst e2 e3
      simpa using hc
  have hout := hu.out
  unfold Builtin.append_
  show SemW P S (underlying t >>= _) h δ Q X
  refine semW_underlying hout ?_
  show SemW P S (sizeOf e >>= _) h δ Q X
  refine semW_sizeOf hi1 ?_
  rw [hi2]
  show SemW P S (underlying t >>= _) h δ Q X
  refine semW_underlying hout ?_
  refine semW_pureBind ?_
  show SemW P S (pure vs.length >>= _) h δ Q X
  refine semW_pureBind ?_
  simp only []
  by_cases hle : 0 + vs.length <= 0
  · rw [if_pos hle]
    have hv : vs = [] := List.length_eq_zero_iff.1 (by omega)
    show SemW P S (Builtin.firstCells 1 vs.length (.slice a vs.length c') >>= _) h δ Q X
    refine semW_bind _ _ _ _ _ _ (hfirst ?_)
    refine semW_pure (Q := _) ?_
    subst hv
    exact hq _ _ SliceO.nil (Upd.refl _ _) (fun b hb => by cases hb)
  · rw [if_neg hle]
    have hmax : IntKind.i64.max = 9223372036854775807 := by decide
    refine semW_typeInfo hi1 ?_
    rw [if_neg (by rw [hmax]; omega)]
    refine semW_typeInfo hi1 ?_
    rw [if_neg (by rw [hi3]; have := growslice_fits (need := 0 + vs.length) (old := 0) (bytes := by_) (by omega) (by rw [Nat.zero_add]; exact hfit); omega)]
    refine semW_bind _ _ _ _ _ _ ?_
    intro newCap hcut
    have hge : vs.length <= newCap := by
      rcases hcut with ⟨h1, h2⟩ | ⟨h1, t', h2⟩
      · cases h1
      · rw [h2]; exact Nat.le_trans (Nat.le_of_eq (Nat.zero_add _).symm) (Nat.le_add_right _ _)
    refine semW_pure (Q := _) ?_
    refine semW_typeInfo hi1 ?_
    have hroom : ∀ {Q' : Unit -> Hp -> Ix Γ -> Prop}, Q' () h δ -> SemW P S (askRoom (newCap * inf.bytes)) h δ Q' X := fun {Q'} hq' => by
      unfold askRoom
      split
      · exact ⟨nofun, nofun, hq'⟩
      · exact hq'
    refine semW_bind _ _ _ _ _ _ (hroom ?_)
    show SemW P S (Builtin.firstCells 1 0 (.slice none 0 0) >>= _) h δ Q X
    refine semW_pureBind ?_
    show SemW P S (Builtin.firstCells 1 vs.length (.slice a vs.length c') >>= _) h δ Q X
    refine semW_bind _ _ _ _ _ _ (hfirst ?_)
    refine semW_zeroValue hi1 hi4 ?_
    refine ⟨thawed, ?_⟩
    refine semW_pure (Q := _) ?_
    have hzc : (Builtin.zeroCells z.cells (newCap - (0 + vs.length))).toList.length = (newCap - vs.length) * 1 := by simp [Builtin.zeroCells, hz]
    rw [Nat.zero_add] at *
    refine hq _ _ ⟨by omega, .inr ⟨h.size, newCap, (Builtin.zeroCells z.cells (newCap - vs.length)).toList, rfl, hge, hzc, ?_⟩⟩ (Upd.push _ _) (fun b hb => by cases hb; rfl)
    rw [get_push_new]
    congr 2
    simp
theorem ER.appendNil {t e by_ : Nat} {z : Value} [Inf P e 1 by_ z] [Und P t (.slice e)] {x y : Operand} {s : Value} {vs : List Value}
    (hw : wantE ops env g = some true) (hd : Nat.blt d n = true) (hx : ev env x = some (.slice none 0 0)) (hy : ev env y = some s)
    (hs : RdS h s vs) (hfit : vs.length * by_ <= 140737488355328) (hm : vs.length < 1000000000000) (hz : z.cells.size = 1)
    (hn : ∀ s' h', SliceO h' s' e 1 vs.length vs -> Upd (fun _ => False) h h' -> (∀ b, blk s' = some b -> b = h.size) -> ER P main S f n ops l k ((d, s') :: env) ds h' δ R) :
    ER P main S f n ops (⟨some d, .call { callee := .builtin .append, args := #[x, y], argTypes := #[t, t] }, ty, pos, af, g⟩ :: l) k env ds h δ R := by
  refine ER.val (Q := fun s' h' δ' => δ' = δ /\ SliceO h' s' e 1 vs.length vs /\ Upd (fun _ => False) h h' /\ (∀ b, blk s' = some b -> b = h.size)) hw hd (fun ρ hρ => sem_builtin (vs := #[.slice none 0 0, s]) (by simp [hρ x _ hx, hρ y _ hy]) fun cs => ?_) ?_
  · show SemW P S (Builtin.append_ #[t, t] ty #[.slice none 0 0, s] >>= fun v => pure (Next.value v)) h δ _ _
    exact semW_bind _ _ _ _ _ _ (sem_appendNil hs hfit hm hz (fun s' h' h1 h2 h3 => ⟨s', rfl, rfl, h1, h2, h3⟩))
  · rintro s' h' δ' ⟨rfl, h1, h2, h3⟩
    exact hn s' h' h1 h2 h3
end
end
section
open Go Go.TJ Go.Conc Go.Proofs
theorem ER.join {Γ : Type} {P : Program} {main : Bool} {S : Sit Γ} {f : FuncId} {n : Nat} {ops : Array Oper} {l : List Oper} {k : List Item} {env : Env} {ds : List Deferred} {h : Hp} {δ : Ix Γ} {R : Post Γ} {σ : Type} (E : σ -> Env) (I : σ -> Hp -> Ix Γ -> Prop) (h1 : (∀ s h' δ', I s h' δ' -> EK P main S f n k (E s) ds h' δ' R) -> ER P main S f n ops l k env ds h δ R) (h2 : ∀ s h' δ', I s h' δ' -> EK P main S f n k (E s) ds h' δ' R) : ER P main S f n ops l k env ds h δ R := h1 h2
theorem EK.join {Γ : Type} {P : Program} {main : Bool} {S : Sit Γ} {f : FuncId} {n : Nat} {c : Item} {k : List Item} {env : Env} {ds : List Deferred} {h : Hp} {δ : Ix Γ} {R : Post Γ} {σ : Type} (E : σ -> Env) (I : σ -> Hp -> Ix Γ -> Prop) (h1 : (∀ s h' δ', I s h' δ' -> EK P main S f n k (E s) ds h' δ' R) -> EK P main S f n (c :: k) env ds h δ R) (h2 : ∀ s h' δ', I s h' δ' -> EK P main S f n k (E s) ds h' δ' R) : EK P main S f n (c :: k) env ds h δ R := h1 h2
theorem EA.join {Γ : Type} {P : Program} {main : Bool} {S : Sit Γ} {f : FuncId} {n : Nat} {ops : Array Oper} {Z : Hp -> Prop} {z m : Nat} {listed : Array Bool} {k : List Item} {env : Env} {ds : List Deferred} {h : Hp} {δ : Ix Γ} {R : Post Γ} {σ : Type} (E : σ -> Env) (I : σ -> Hp -> Ix Γ -> Prop) (h1 : (∀ s h' δ', I s h' δ' -> EK P main S f n k (E s) ds h' δ' R) -> EA P main S f n ops Z z m listed k env ds h δ R) (h2 : ∀ s h' δ', I s h' δ' -> EK P main S f n k (E s) ds h' δ' R) : EA P main S f n ops Z z m listed k env ds h δ R := h1 h2
theorem EA.tNeqB {Γ : Type} {P : Program} {main : Bool} {S : Sit Γ} {f : FuncId} {n : Nat} {ops : Array Oper} {Z : Hp -> Prop} {z m : Nat} {listed l' : Array Bool} {k : List Item} {env : Env} {ds : List Deferred} {h : Hp} {δ : Ix Γ} {R : Post Γ} {d : Nat} {ty : TypeId} {pos : String} {af : Array Edge} {g : Option (Nat × Bool)} {t t2 : TypeId} {x y : Operand} {u w : Value} {dd : TypeDesc} {r : Bool} [hu : Und P t dd] (i : Nat)
    (hi : ops[i]? = some ⟨some d, .binOp .neq t x y t2, ty, pos, af, g⟩) (hs : takeB ops listed z i = true) (hl : listed.setIfInBounds i true = l')
    (hd : Nat.blt d n = true) (hw : wantE ops env g = some true) (hx : ev env x = some u) (hy : ev env y = some w) (he : eqRes dd u w = some r) (hZ : Z h)
    (hn : EA P main S f n ops Z z m l' k ((d, .bool (!r)) :: env) ds h δ R) : EA P main S f n ops Z z (m + 1) listed k env ds h δ R :=
  EA.take i hi hs hl hd hw (fun _ _ _ _ _ hρ _ hq => sem_neqV (hρ _ _ hx) (hρ _ _ hy) he hq) hZ hn
theorem rise_len {n : Nat} : ∀ {l : List Nat} (m : Nat), l.Pairwise (· < ·) -> (∀ a, a ∈ l -> m <= a) -> (∀ a, a ∈ l -> a < n) -> l.length <= n - m
  | [], _, _, _, _ => Nat.zero_le _
  | a :: l, m, h, hm, hn => by
    obtain ⟨h1, h2⟩ := List.pairwise_cons.1 h
    have := rise_len (n := n) (a + 1) h2 h1 (fun b hb => hn b (by simp [hb]))
    have ha := hm a (by simp)
    have hb := hn a (by simp)
    simp only [List.length_cons]
    omega
theorem numsA_len : ∀ (l : List Ev) (acc : List Nat), (numsA acc l).length <= acc.length + l.length
  | [], acc => by simp [numsA]
  | e :: l, acc => by
    have h1 := numsA_len l acc
    have h2 := numsA_len l (acc ++ [e.b])
    unfold numsA at h1 h2 ⊢
    rw [List.foldl_cons]
    split
    · simp; omega
    · simp at h2 ⊢; omega
theorem nums_len (l : List Ev) : (nums l).length <= l.length := by
  have := numsA_len l []
  simpa [nums, numsA] using this
section
variable {Γ : Type} {main : Bool} {δ : Ix Γ} {h h' : Hp} {R : Rec} {picks : List Int} {lL lW lY lV sP tv cv : Value} {last : Int} {C n most : Nat} {e : Int} {X : Us}
theorem RecM.updC (m : RecM R picks lL lW lY lV sP h) (hC : h[C]? = some (chkO e n lL lW lY lV sP most tv cv last)) (hP : picks ≠ [] -> ∀ b, blk sP = some b -> b ≠ C) (u : Upd (fun b => b = C) h h') : RecM R picks lL lW lY lV sP h' :=
  ⟨m.log.upd u (sliceO_ne m.log hC (by decide)), m.went.upd u (sliceO_ne m.went hC (by decide)), m.rdy.upd u (sliceO_ne m.rdy hC (by decide)), m.left.upd u (sliceO_ne m.left hC (by decide)), m.picks.upd u (fun hn => hP (fun e => hn (by rw [e]; rfl)))⟩
structure MemI (R : Rec) (h : Hp) (C : Nat) (lL lW lY lV sP tv : Value) (last : Int) (n : Nat) (k : Nat) (v : Nat -> Int) (nv cv : Value) (h' : Hp) : Prop where
  upd : Upd (fun b => b = C) h h'
  row : h'[C]? = some (chkO R.e n lL lW lY lV sP R.most tv cv last)
  now : SliceO h' nv 2 1 (nums (R.log.take k)).length ((nums (R.log.take k)).map fun b => Value.int .i64 (v b))
  fst : SliceO h' cv 2 1 (nums (R.log.take k)).length ((nums (R.log.take k)).map fun b => Value.int .i64 (R.v0 b))
  newn : ∀ b, blk nv = some b -> h.size <= b
  newc : ∀ b, blk cv = some b -> h.size <= b
  ne : ∀ b, blk nv = some b -> blk cv ≠ some b
set_option maxHeartbeats 8000000 in
set_option maxRecDepth 8000 in
theorem memory_ok (ok : RecOk X picks R) (m : RecM R picks lL lW lY lV sP h) (hC : h[C]? = some (chkO R.e n lL lW lY lV sP R.most tv nilS last)) (hP : picks ≠ [] -> ∀ b, blk sP = some b -> b ≠ C) :
    CallW Try.prog main (NoS (Γ := Γ)) 79 #[ptr C] h δ (Ret fun v h' δ' => δ' = δ /\ v = .bool true /\ ∃ cv, h'[C]? = some (chkO R.e n lL lW lY lV sP R.most tv cv last) /\ Upd (fun b => b = C) h h' /\ SliceO h' cv 2 1 (nums R.log).length ((nums R.log).map fun b => Value.int .i64 (R.v0 b)) /\ ∀ b, blk cv = some b -> h.size <= b) := by
  have hlen := ok.len
  have hmost := ok.most
  have hnl : ∀ k, (nums (R.log.take k)).length <= 65536 := fun k => by
    have := nums_len
    have h1 := this (R.log.take k)
    have h2 := List.length_take_le k R.log
    have h3 : (R.log.take k).length <= R.log.length := by rw [List.length_take]; omega
    omega
  have hCl := lt_of_get hC
  obtain ⟨aL, kL, eL⟩ := m.log.val
  obtain ⟨aV, kV, eV⟩ := m.left.val
  subst eL eV
  refine CallW.start (n := 237) rfl rfl ?_
  (repeat (first | refine EK.seq ?_ | refine EK.region ?_ | refine ER.done ?_ | refine EK.block ?_ | refine ER.assign rfl rfl rfl ?_))
  refine EK.loopInv (fun q : Nat × Value × Value × (Nat -> Int) => [(4, .int .i64 q.1), (3, q.2.1), (0, ptr C)]) (fun q h' δ' => q.1 <= R.log.length /\ δ' = δ /\ Chain X R.v0 (R.log.take q.1) q.2.2.2 /\ MemI R h C (.slice aL R.log.length kL) lW lY (.slice aV R.left.length kV) sP tv last n q.1 q.2.2.2 q.2.1 q.2.2.1 h') (fun q => R.log.length - q.1) (0, nilS, nilS, R.v0) ⟨rfl, rfl, rfl, trivial⟩ ⟨Nat.zero_le _, rfl, .nil, Upd.refl _ _, hC, SliceO.nil, SliceO.nil, fun b hb => (by cases hb), fun b hb => (by cases hb), fun b hb => (by cases hb)⟩ ?_
  rintro ⟨k, nv, cv, v⟩ h1 δ1 ⟨hk, hδ, ch, mi⟩ again
  dsimp only at hk ch mi again hδ ⊢
  subst hδ
  have m1 := m.updC hC hP mi.upd
  by_cases hin : k < R.log.length
  · obtain ⟨e, he⟩ : ∃ e, R.log[k]? = some e := ⟨_, List.getElem?_eq_getElem hin⟩
    obtain ⟨bL, ea, hrow, hz⟩ := slice_row (entL_len (nums R.log)) m1.log he
    subst ea
    have c2 : hcell h1 ⟨C, 2, none⟩ = some (.slice (some ⟨bL, 0, none⟩) R.log.length kL) := hcell_of mi.row rfl
    (repeat (first | refine EK.seq ?_ | refine EK.region ?_ | refine ER.done ?_ | refine EK.skip ?_ | refine EK.block ?_ | refine ER.move rfl rfl rfl ?_ | refine ER.nilCheck rfl rfl rfl ?_ | refine ER.fieldAddr rfl rfl rfl ?_ | refine ER.cmpT rfl rfl rfl rfl rfl (by first | (dsimp only [cmpP]; omega) | exact rfl | exact Int.le_refl _) ?_ | refine ER.len1 rfl rfl rfl ?_ | refine ER.indexSl rfl rfl rfl rfl (by omega) (by omega) ?_ | refine EK.condT rfl ?_ | refine ER.load1 rfl rfl rfl (by assumption) ?_))
    refine ER.loadN (vs := entL (nums R.log) e) rfl rfl rfl rfl hrow ?_
    (repeat refine ER.allocA rfl rfl ?_)
    refine ER.storeN (vs := entL (nums R.log) e) rfl rfl rfl rfl (by simp [entL, accL, OneCell]) (fun j hj => ⟨?_, hfroz_of (get_push_new _ _), fun x => x⟩) ?_
    · have hj' : j < 8 := hj
      rcases (show j = 0 \/ j = 1 \/ j = 2 \/ j = 3 \/ j = 4 \/ j = 5 \/ j = 6 \/ j = 7 by omega) with rfl | rfl | rfl | rfl | rfl | rfl | rfl | rfl <;> exact ⟨_, hcell_of (get_push_new _ _) rfl⟩
    rw [hsetRow_push (c := [.int .i64 0, .int .i8 0, .int .i64 0, .int .i64 0, .int .i64 0, .int .i64 0, .int .i64 0, .bool false]) (vs := entL (nums R.log) e) rfl]
    obtain ⟨w, i, r, cw, hr, e1, ch2⟩ := ok.chain.inv he
    obtain rfl := cw.det ch
    obtain ⟨i1, i2, i3, i4⟩ := idx_at he
    obtain ⟨hop1, hop2⟩ := And.intro hr.op1 hr.op2
    have harg := hr.arg
    have hnew := hr.new
    generalize hix : (nums R.log).idxOf e.b = ix at i1 i2 i3 i4
    have hent : entL (nums R.log) e = accL i r.op ix r.arg r.new (v r.b) (behind r.op (v r.b) r.arg r.new).1 (behind r.op (v r.b) r.arg r.new).2 := by unfold entL; rw [hix, e1]; rfl
    have heb : e.b = r.b := by rw [e1]; rfl
    rw [hent]
    rw [heb] at i1 i3 i4
    clear e1 hent hrow hz c2
    obtain ⟨op, rb, arg, new⟩ := r
    dsimp only at hop1 hop2 harg hnew i3 i4 ch2 ⊢
    generalize hx : behind op (v rb) arg new = x at ch2 ⊢
    refine ER.gen (fun h' => MemI R h C (.slice (some ⟨bL, 0, none⟩) R.log.length kL) lW lY (.slice aV R.left.length kV) sP tv last n k v nv cv h' /\ h'[h1.size]? = some (accO (accL i op ix arg new (v rb) x.1 x.2))) ⟨⟨upd_then mi.upd (Upd.push (T := fun _ => False) h1 _) (fun _ _ x => x.elim), get_push _ mi.row, mi.now.upd (Upd.push (T := fun _ => False) h1 _) (fun _ _ x => x), mi.fst.upd (Upd.push (T := fun _ => False) h1 _) (fun _ _ x => x), mi.newn, mi.newc, mi.ne⟩, get_push_new _ _⟩ ?_
    have hy0 : h.size <= h1.size := mi.upd.size
    obtain ⟨y, hy⟩ : ∃ y, y = h1.size := ⟨_, rfl⟩
    rw [<- hy] at hy0 ⊢
    clear mi m1 hy
    rintro h2 ⟨mi, ly⟩
    have hnk := hnl k
    have hnk1 := hnl (k + 1)
    obtain ⟨aN, kN, eN⟩ := mi.now.val
    subst eN
    have y0 : hcell h2 ⟨y, 0, none⟩ = some (.int .i64 i) := hcell_of ly rfl
    have y1 : hcell h2 ⟨y, 1, none⟩ = some (.int .i8 op) := hcell_of ly rfl
    have y2 : hcell h2 ⟨y, 2, none⟩ = some (.int .i64 ix) := hcell_of ly rfl
    have y3 : hcell h2 ⟨y, 3, none⟩ = some (.int .i64 arg) := hcell_of ly rfl
    have y4 : hcell h2 ⟨y, 4, none⟩ = some (.int .i64 new) := hcell_of ly rfl
    have y5 : hcell h2 ⟨y, 5, none⟩ = some (.int .i64 (v rb)) := hcell_of ly rfl
    have y6 : hcell h2 ⟨y, 6, none⟩ = some (.int .i64 x.1) := hcell_of ly rfl
    have y7 : hcell h2 ⟨y, 7, none⟩ = some (.bool x.2) := hcell_of ly rfl
    (repeat (first | refine EK.seq ?_ | refine EK.region ?_ | refine ER.done ?_ | refine EK.skip ?_ | refine ER.move rfl rfl rfl ?_ | refine ER.fieldAddr rfl rfl rfl ?_ | refine ER.load1 rfl rfl rfl (hcell_of (by assumption) rfl) ?_ | refine ER.pickF rfl rfl rfl rfl ?_ | refine ER.cmpF rfl rfl rfl rfl rfl (by first | (dsimp only [cmpP]; omega) | exact rfl | exact Int.le_refl _) ?_ | refine ER.len1 rfl rfl rfl ?_ | refine EK.condF rfl ?_))
    refine ER.join (fun _ : Unit => [(112, .bool false), (5, ptr y), (4, .int .i64 k), (3, .slice aN (nums (R.log.take k)).length kN), (0, ptr C)]) (fun _ h' δ' => h' = h2 /\ δ' = δ1) (fun key => ?_) ?_
    · by_cases h3 : op = 3
      · subst h3
        (repeat (first | refine ER.move rfl rfl rfl ?_ | refine ER.fieldAddr rfl rfl rfl ?_ | refine ER.load1 rfl rfl rfl (hcell_of (by assumption) rfl) ?_ | refine ER.no rfl rfl ?_ | refine ER.pickF rfl rfl rfl rfl ?_ | refine ER.cmpF rfl rfl rfl rfl rfl (by first | (dsimp only [cmpP]; omega) | exact rfl | exact Int.le_refl _) ?_))
        exact ER.done (EK.back (key () _ _ ⟨rfl, rfl⟩) ⟨rfl, rfl, rfl, rfl, rfl, trivial⟩)
      · have hn0 := hnew h3
        subst hn0
        by_cases h1 : op = 1
        · have ha0 := harg h1
          subst h1 ha0
          (repeat (first | refine ER.move rfl rfl rfl ?_ | refine ER.fieldAddr rfl rfl rfl ?_ | refine ER.load1 rfl rfl rfl (hcell_of (by assumption) rfl) ?_ | refine ER.pickT rfl rfl rfl rfl ?_ | refine ER.pickF rfl rfl rfl rfl ?_ | refine ER.cmpT rfl rfl rfl rfl rfl (by first | (dsimp only [cmpP]; omega) | exact rfl | exact Int.le_refl _) ?_ | refine ER.cmpF rfl rfl rfl rfl rfl (by first | (dsimp only [cmpP]; omega) | exact rfl | exact Int.le_refl _) ?_))
          exact ER.done (EK.back (key () _ _ ⟨rfl, rfl⟩) ⟨rfl, rfl, rfl, rfl, rfl, trivial⟩)
        · (repeat (first | refine ER.move rfl rfl rfl ?_ | refine ER.fieldAddr rfl rfl rfl ?_ | refine ER.load1 rfl rfl rfl (hcell_of (by assumption) rfl) ?_ | refine ER.no rfl rfl ?_ | refine ER.pickT rfl rfl rfl rfl ?_ | refine ER.pickF rfl rfl rfl rfl ?_ | refine ER.cmpT rfl rfl rfl rfl rfl (by first | (dsimp only [cmpP]; omega) | exact rfl | exact Int.le_refl _) ?_ | refine ER.cmpF rfl rfl rfl rfl rfl (by first | (dsimp only [cmpP]; omega) | exact rfl | exact Int.le_refl _) ?_))
          exact ER.done (EK.back (key () _ _ ⟨rfl, rfl⟩) ⟨rfl, rfl, rfl, rfl, rfl, trivial⟩)
    rintro _ h2 δ1 ⟨rfl, rfl⟩
    refine EK.condF rfl (EK.skip (EK.seq (EK.seq (EK.region ?_))))
    (repeat (first | refine ER.move rfl rfl rfl ?_ | refine ER.fieldAddr rfl rfl rfl ?_ | refine ER.load1 rfl rfl rfl (hcell_of (by assumption) rfl) ?_ | refine ER.len1 rfl rfl rfl ?_))
    refine ER.cmpB (r := decide ((ix : Int) = ((nums (R.log.take k)).length : Int))) rfl rfl rfl rfl rfl rfl ?_
    refine ER.done ?_
    refine EK.join (fun q : Value × Value => [(5, ptr y), (4, .int .i64 k), (3, q.1), (0, ptr C)]) (fun q h' δ' => δ' = δ1 /\ h'[y]? = some (accO (accL i op ix arg new (v rb) x.1 x.2)) /\ MemI R h C (.slice (some ⟨bL, 0, none⟩) R.log.length kL) lW lY (.slice aV R.left.length kV) sP tv last n (k + 1) v q.1 q.2 h') (fun key => ?_) ?_
    · rcases i4 with ⟨j1, j2, j3⟩ | ⟨j1, j2, j3⟩
      · rw [decide_eq_false (by omega)]
        refine EK.condF rfl (EK.skip (EK.back (key (_, cv) _ _ ⟨rfl, ly, ⟨mi.upd, mi.row, by rw [j2]; exact mi.now, by rw [j2]; exact mi.fst, mi.newn, mi.newc, mi.ne⟩⟩) ⟨rfl, rfl, rfl, rfl, trivial⟩))
      · rw [decide_eq_true (by omega)]
        refine EK.condT rfl (EK.seq (EK.region ?_))
        (repeat (first | refine ER.move rfl rfl rfl ?_ | refine ER.fieldAddr rfl rfl rfl ?_ | refine ER.load1 rfl rfl rfl (hcell_of (by assumption) rfl) ?_))
        refine ER.slice1 (sz := 1) (z := .int .i64 0) (cells := #[.int .i64 (v rb)]) rfl rfl rfl (by omega) (by omega) rfl rfl ?_
        refine ER.append1 (new := [.int .i64 (v rb)]) rfl rfl rfl rfl (mi.now.upd (Upd.push (T := fun _ => False) h2 _) (fun _ _ x => x)) (get_push_new _ _) rfl (by simp [OneCell]) (by omega) (by omega) (by rfl) (fun _ _ _ x => x) ?_
        intro s4 h4 sl4 u4 hb4
        have p4 : Upd (fun b => b = C) h h4 := upd_then (upd_then mi.upd (Upd.push (T := fun _ => False) h2 (.cells #[.int .i64 (v rb)] 2)) (fun _ _ x => x.elim)) u4 (fun b hb hx => by have := mi.newn b hx; omega)
        have r4 := u4.get (get_push (o := .cells #[.int .i64 (v rb)] 2) mi.row) (fun hx => by have := mi.newn C hx; omega)
        have nyN : ∀ b, blk (.slice aN (nums (R.log.take k)).length kN) = some b -> b ≠ y := fun b hb e => sliceO_ne mi.now ly (by decide) b hb e
        have ly4 := u4.get (get_push (o := .cells #[.int .i64 (v rb)] 2) ly) (fun hx => nyN y hx rfl)
        have f4 := (mi.fst.upd (Upd.push (T := fun _ => False) h2 (.cells #[.int .i64 (v rb)] 2)) (fun _ _ x => x)).upd u4 (fun b hb hx => mi.ne b hx hb)
        have nb4 : ∀ b, blk s4 = some b -> h.size <= b := fun b hb => by
          rcases hb4 b hb with y | y
          · exact mi.newn b y
          · rw [Array.size_push] at y; have := mi.upd.size; omega
        have ne4 : ∀ b, blk s4 = some b -> blk cv ≠ some b := fun b hb hx => by
          rcases hb4 b hb with y | y
          · exact mi.ne b y hx
          · rw [Array.size_push] at y; have := mi.fst.lt hx; omega
        have b1 : (nums (R.log.take (k + 1))).length = (nums (R.log.take k)).length + 1 := by rw [j2, List.length_append]; rfl
        have sn4 : SliceO h4 s4 2 1 (nums (R.log.take (k + 1))).length ((nums (R.log.take (k + 1))).map fun b => Value.int .i64 (v b)) := by rw [b1, j2, List.map_append]; exact sl4
        clear sl4 u4 hb4 nyN
        obtain ⟨aC, kC, eC⟩ := mi.fst.val
        subst eC
        have newc := mi.newc
        clear mi ly
        (repeat refine ER.assign rfl rfl rfl ?_)
        refine ER.done ?_
        refine EK.regionAnyL (fun h' => hcell h' ⟨C, 10, none⟩ = some (.slice aC (nums (R.log.take k)).length kC) /\ hcell h' ⟨y, 5, none⟩ = some (.int .i64 (v rb))) 11 ?_
        have hZ : _ /\ _ := And.intro (hcell_of r4 rfl : hcell h4 ⟨C, 10, none⟩ = some (.slice aC (nums (R.log.take k)).length kC)) (hcell_of ly4 rfl : hcell h4 ⟨y, 5, none⟩ = some (.int .i64 (v rb)))
        refine EA.tMove 0 rfl (by kernel_rfl) rfl rfl rfl rfl hZ ?_
        refine EA.tMove 1 rfl (by kernel_rfl) rfl rfl rfl rfl hZ ?_
        refine EA.tNil 2 rfl (by kernel_rfl) rfl rfl rfl rfl hZ ?_
        refine EA.tField 3 rfl (by kernel_rfl) rfl rfl rfl rfl hZ ?_
        refine EA.tLoad 4 rfl (by kernel_rfl) rfl rfl rfl rfl (fun _ hz => hz.1) hZ ?_
        refine EA.tField 5 rfl (by kernel_rfl) rfl rfl rfl rfl hZ ?_
        refine EA.tLoad 6 rfl (by kernel_rfl) rfl rfl rfl rfl (fun _ hz => hz.2) hZ ?_
        have hZ5 : _ /\ _ := ⟨hcell_push (o := .cells #[.int .i64 (v rb)] 2) hZ.1, hcell_push (o := .cells #[.int .i64 (v rb)] 2) hZ.2⟩
        refine EA.val (v := .slice (some ⟨h4.size, 0, none⟩) 1 1) (h' := h4.push (.cells #[.int .i64 (v rb)] 2)) 7 rfl (by kernel_rfl) rfl rfl rfl (fun ρ Q X hρ hq => sem_slice1 (sz := 1) hρ rfl (by omega) (by omega) rfl rfl hq) hZ5 ?_
        refine EA.append1 (new := [.int .i64 (v rb)]) 8 rfl (by kernel_rfl) rfl rfl rfl rfl rfl (f4.upd (Upd.push (T := fun _ => False) h4 _) (fun _ _ x => x)) (get_push_new _ _) rfl (by simp [OneCell]) (by omega) (by omega) rfl (fun _ _ _ x => x) ?_
        intro s6 h6 sl6 u6 hb6
        have p6 : Upd (fun b => b = C) h h6 := upd_then (upd_then p4 (Upd.push (T := fun _ => False) h4 (.cells #[.int .i64 (v rb)] 2)) (fun _ _ x => x.elim)) u6 (fun b hb hx => by have := newc b hx; omega)
        have r6 := u6.get (get_push (o := .cells #[.int .i64 (v rb)] 2) r4) (fun hx => by have := newc C hx; omega)
        have nyC : ∀ b, blk (.slice aC (nums (R.log.take k)).length kC) = some b -> b ≠ y := fun b hb e => sliceO_ne f4 ly4 (by decide) b hb e
        have ly6 := u6.get (get_push (o := .cells #[.int .i64 (v rb)] 2) ly4) (fun hx => nyC y hx rfl)
        have sn6 := (sn4.upd (Upd.push (T := fun _ => False) h4 (.cells #[.int .i64 (v rb)] 2)) (fun _ _ x => x)).upd u6 (fun b hb hx => ne4 b hb hx)
        have hZ6 : _ /\ _ := And.intro (hcell_of r6 rfl : hcell h6 ⟨C, 10, none⟩ = some (.slice aC (nums (R.log.take k)).length kC)) (hcell_of ly6 rfl : hcell h6 ⟨y, 5, none⟩ = some (.int .i64 (v rb)))
        refine ⟨hZ6, ?_⟩
        obtain ⟨aQ, kQ, eQ⟩ := sl6.val
        refine EA.val 9 rfl (by kernel_rfl) rfl rfl rfl (fun ρ Q X hρ hq => sem_nilCheck (hρ _ _ rfl) hq) hZ6 ?_
        have hZ := hZ6
        refine EA.tField 10 rfl (by kernel_rfl) rfl rfl rfl rfl hZ ?_
        refine EA.unitL (h' := hset h6 ⟨C, 10, none⟩ s6) 11 rfl (by kernel_rfl) rfl rfl rfl (fun ρ Q X hρ hq => sem_store1 (hρ _ _ rfl) (hρ _ _ rfl) (by rw [eQ]; exact ⟨nofun, nofun⟩) ⟨_, hZ6.1⟩ (hfroz_of r6) (fun x => x) hq) ?_
        refine EA.done (by kernel_rfl) ?_
        have e7 : hset h6 ⟨C, 10, none⟩ s6 = h6.setIfInBounds C (chkO R.e n (.slice (some ⟨bL, 0, none⟩) R.log.length kL) lW lY (.slice aV R.left.length kV) sP R.most tv s6 last) := hset_block r6 _
        rw [e7]
        have u7 : Upd (fun b => b = C) h6 (h6.setIfInBounds C (chkO R.e n (.slice (some ⟨bL, 0, none⟩) R.log.length kL) lW lY (.slice aV R.left.length kV) sP R.most tv s6 last)) := Upd.set _ _ _ rfl
        have nC6 : ∀ b, blk s6 = some b -> h.size <= b := fun b hb => by
          rcases hb6 b hb with y | y
          · exact newc b y
          · rw [Array.size_push] at y; have := p4.size; omega
        refine EK.back (key (s4, s6) _ _ ⟨rfl, by rw [get_set_ne _ (by omega)]; exact ly6, ⟨p6.trans u7, get_set_same r6, sn6.upd u7 (fun b hb e => by have := nb4 b hb; omega), ?_, nb4, nC6, fun b hb hx => ?_⟩⟩) ⟨rfl, rfl, rfl, rfl, trivial⟩
        · have := sl6.upd u7 (fun b hb e => by have := nC6 b hb; omega)
          rw [b1, j2, List.map_append]
          have ev : v rb = R.v0 rb := ch.first j1
          rw [ev] at this
          exact this
        · rcases hb6 b hx with y | y
          · exact ne4 b hb y
          · rw [Array.size_push] at y; have := sn4.lt hb; omega
    clear mi ly i4 hnk
    rintro ⟨nv, cv⟩ h2 δ1 ⟨hδ, ly, mi⟩
    dsimp only at mi hδ ⊢
    subst hδ
    obtain ⟨aN, kN, eN⟩ := mi.now.val
    subst eN
    have y1 : hcell h2 ⟨y, 1, none⟩ = some (.int .i8 op) := hcell_of ly rfl
    have y2 : hcell h2 ⟨y, 2, none⟩ = some (.int .i64 ix) := hcell_of ly rfl
    have y3 : hcell h2 ⟨y, 3, none⟩ = some (.int .i64 arg) := hcell_of ly rfl
    have y4 : hcell h2 ⟨y, 4, none⟩ = some (.int .i64 new) := hcell_of ly rfl
    have y5 : hcell h2 ⟨y, 5, none⟩ = some (.int .i64 (v rb)) := hcell_of ly rfl
    have y6 : hcell h2 ⟨y, 6, none⟩ = some (.int .i64 x.1) := hcell_of ly rfl
    have y7 : hcell h2 ⟨y, 7, none⟩ = some (.bool x.2) := hcell_of ly rfl
    (repeat (first | refine EK.seq ?_ | refine EK.region ?_ | refine ER.fieldAddr rfl rfl rfl ?_ | refine ER.load1 rfl rfl rfl (hcell_of (by assumption) rfl) ?_))
    refine ER.callD rfl rfl rfl rfl rfl (behind_ok hop1 hop2) ?_
    rw [hx]
    obtain ⟨x1, x2⟩ := x
    dsimp only at y6 y7 ch2 ⊢
    obtain ⟨bN, eN, cN, fN⟩ := slice_at mi.now i3
    subst eN
    clear y3 y4 hnl
    (repeat (first | refine EK.seq ?_ | refine ER.done ?_ | refine ER.move rfl rfl rfl ?_ | refine ER.assign rfl rfl rfl ?_ | refine ER.extract rfl rfl rfl rfl ?_))
    refine EK.regionAny (fun h' => h' = h2) ?_
    have hZ : h2 = h2 := rfl
    refine EA.tField 0 rfl (by kernel_rfl) rfl rfl rfl rfl hZ ?_
    refine EA.tLoad 1 rfl (by kernel_rfl) rfl rfl rfl rfl (fun _ hz => (by rw [hz]; exact y5)) hZ ?_
    refine EA.tMove 2 rfl (by kernel_rfl) rfl rfl rfl rfl hZ ?_
    refine EA.tField 3 rfl (by kernel_rfl) rfl rfl rfl rfl hZ ?_
    refine EA.tLoad 4 rfl (by kernel_rfl) rfl rfl rfl rfl (fun _ hz => (by rw [hz]; exact y2)) hZ ?_
    refine EA.tIdxS 5 rfl (by kernel_rfl) rfl rfl rfl rfl rfl (by omega) (by omega) hZ ?_
    refine EA.tLoad 6 rfl (by kernel_rfl) rfl rfl rfl rfl (fun _ hz => (by rw [hz]; exact cN)) hZ ?_
    refine EA.tCmpF 7 rfl (by kernel_rfl) rfl rfl rfl rfl rfl rfl (by first | (dsimp only [cmpP]; omega) | exact rfl | exact Int.le_refl _) hZ ?_
    refine EA.tMove 8 rfl (by kernel_rfl) rfl rfl rfl rfl hZ ?_
    refine EA.tField 9 rfl (by kernel_rfl) rfl rfl rfl rfl hZ ?_
    refine EA.tLoad 10 rfl (by kernel_rfl) rfl rfl rfl rfl (fun _ hz => (by rw [hz]; exact y6)) hZ ?_
    refine EA.tMove 11 rfl (by kernel_rfl) rfl rfl rfl rfl hZ ?_
    refine EA.tCmpF 12 rfl (by kernel_rfl) rfl rfl rfl rfl rfl rfl (by first | (dsimp only [cmpP]; omega) | exact rfl | exact Int.le_refl _) hZ ?_
    refine EA.tPickF 13 rfl (by kernel_rfl) rfl rfl rfl rfl rfl hZ ?_
    refine EA.tMove 14 rfl (by kernel_rfl) rfl rfl rfl rfl hZ ?_
    refine EA.tField 15 rfl (by kernel_rfl) rfl rfl rfl rfl hZ ?_
    refine EA.tLoad 16 rfl (by kernel_rfl) rfl rfl rfl rfl (fun _ hz => (by rw [hz]; exact y7)) hZ ?_
    refine EA.tMove 17 rfl (by kernel_rfl) rfl rfl rfl rfl hZ ?_
    refine EA.tNeqB (r := true) 18 rfl (by kernel_rfl) rfl rfl rfl rfl rfl (by cases x2 <;> rfl) hZ ?_
    refine EA.tPickF 19 rfl (by kernel_rfl) rfl rfl rfl rfl rfl hZ ?_
    refine EA.tMove 20 rfl (by kernel_rfl) rfl rfl rfl rfl hZ ?_
    refine EA.tField 21 rfl (by kernel_rfl) rfl rfl rfl rfl hZ ?_
    refine EA.tLoad 22 rfl (by kernel_rfl) rfl rfl rfl rfl (fun _ hz => (by rw [hz]; exact y1)) hZ ?_
    refine EA.tCmpF 23 rfl (by kernel_rfl) rfl rfl rfl rfl rfl rfl (by first | (dsimp only [cmpP]; omega) | exact rfl | exact Int.le_refl _) hZ ?_
    refine EA.tMove 24 rfl (by kernel_rfl) rfl rfl rfl rfl hZ ?_
    refine EA.takeNo 25 rfl (by kernel_rfl) rfl rfl rfl hZ ?_
    refine EA.takeNo 26 rfl (by kernel_rfl) rfl rfl rfl hZ ?_
    refine EA.takeNo 27 rfl (by kernel_rfl) rfl rfl rfl hZ ?_
    refine EA.takeNo 28 rfl (by kernel_rfl) rfl rfl rfl hZ ?_
    refine EA.takeNo 29 rfl (by kernel_rfl) rfl rfl rfl hZ ?_
    refine EA.tPickF 30 rfl (by kernel_rfl) rfl rfl rfl rfl rfl hZ ?_
    refine EA.tPickF 31 rfl (by kernel_rfl) rfl rfl rfl rfl rfl hZ ?_
    refine EA.done (by kernel_rfl) ?_
    refine EK.condF rfl (EK.skip (EK.region ?_))
    (repeat (first | refine ER.move rfl rfl rfl ?_ | refine ER.fieldAddr rfl rfl rfl ?_ | refine ER.load1 rfl rfl rfl (hcell_of (by assumption) rfl) ?_ | refine ER.indexSl rfl rfl rfl rfl (by omega) (by omega) ?_))
    refine ER.store1 rfl rfl rfl ⟨nofun, nofun⟩ ⟨_, cN⟩ (fN _) (fun x => x) ?_
    refine ER.done ?_
    have e9 : 0 + ix * 1 = ix := by omega
    have sn := mi.now.set (j := ix) (by rw [List.length_map]; exact i2) (.int .i64 x1)
    have u9 : Upd (fun b => b = bN) h2 (hset h2 ⟨bN, ix, none⟩ (.int .i64 x1)) := Upd.hset _ _ _ rfl
    have nN := mi.newn bN rfl
    have hmm : rb ∈ nums (R.log.take (k + 1)) := List.mem_of_getElem? i3
    rw [i1, <- map_ut (F := fun z => Value.int .i64 z) (nums_nodup _) hmm, <- i1] at sn
    have mi9 : MemI R h C (.slice (some ⟨bL, 0, none⟩) R.log.length kL) lW lY (.slice aV R.left.length kV) sP tv last n (k + 1) (ut v rb x1) (.slice (some ⟨bN, 0, none⟩) (nums (R.log.take (k + 1))).length kN) cv (hset h2 ⟨bN, ix, none⟩ (.int .i64 x1)) :=
      ⟨upd_then mi.upd u9 (fun b hb e => by omega), u9.get mi.row (fun e => by omega), sn, mi.fst.upd u9 (fun b hb e => mi.ne bN rfl (by rw [<- e]; exact hb)), mi.newn, mi.newc, mi.ne⟩
    change EK _ _ _ _ _ _ _ _ (hset h2 ⟨bN, 0 + ix * 1, none⟩ (.int .i64 x1)) _ _
    rw [e9]
    (repeat (first | refine EK.region ?_ | refine ER.done ?_ | refine EK.inBlock ?_ | refine ER.move rfl rfl rfl ?_ | refine ER.assign rfl rfl rfl ?_ | refine ER.add (kd := .i64) rfl rfl rfl rfl (i64_in (by omega) (by omega)) ?_))
    exact EK.back (again (k + 1, _, cv, ut v rb x1) _ _ (by dsimp only; omega) ⟨by dsimp only; omega, rfl, ch2, mi9⟩) ⟨rfl, rfl, rfl, trivial⟩
  · obtain rfl : k = R.log.length := by omega
    clear again
    rw [List.take_length] at ch
    obtain rfl := ch.det ok.chain
    have c2 : hcell h1 ⟨C, 2, none⟩ = some (.slice aL R.log.length kL) := hcell_of mi.row rfl
    obtain ⟨up, row, now, fst, newn, newc, -⟩ := mi
    rw [List.take_length] at now fst
    have hnk := hnl R.log.length
    rw [List.take_length] at hnk
    clear hnl
    have c5 : hcell h1 ⟨C, 5, none⟩ = some (.slice aV R.left.length kV) := hcell_of row rfl
    obtain ⟨aN, kN, eN⟩ := now.val
    subst eN
    have hnl : R.left.length <= 64 := by
      have h2 := rise_len (n := R.nb) (l := R.left.map (·.1)) 0 (List.pairwise_map.2 ok.rise) (fun _ _ => Nat.zero_le _) (fun a ha => by
        obtain ⟨q, hq, rfl⟩ := List.mem_map.1 ha
        exact (ok.left q hq).1)
      rw [List.length_map] at h2
      have := ok.nb
      omega
    (repeat (first | refine EK.seq ?_ | refine EK.region ?_ | refine ER.done ?_ | refine EK.block ?_ | refine ER.move rfl rfl rfl ?_ | refine ER.assign rfl rfl rfl ?_ | refine ER.nilCheck rfl rfl rfl ?_ | refine ER.fieldAddr rfl rfl rfl ?_ | refine ER.load1 rfl rfl rfl (hcell_of (by assumption) rfl) ?_ | refine ER.cmpF rfl rfl rfl rfl rfl (by first | (dsimp only [cmpP]; omega) | exact rfl | exact Int.le_refl _) ?_ | refine ER.len1 rfl rfl rfl ?_ | refine EK.condF rfl ?_ | refine EK.exit rfl ?_))
    refine EK.loopInv (fun k : Nat => [(8, .int .i64 k), (3, .slice aN (nums R.log).length kN), (0, ptr C)]) (fun k h' δ' => k <= R.left.length /\ δ' = δ1 /\ Upd (fun _ => False) h1 h') (fun k => R.left.length - k) 0 ⟨rfl, rfl, rfl, trivial⟩ ⟨Nat.zero_le _, rfl, Upd.refl _ _⟩ ?_
    rintro k h2 δ2 ⟨hk, hδ, u2⟩ again
    subst hδ
    have c5' := u2.hcell c5 (fun x => x)
    by_cases hin : k < R.left.length
    · obtain ⟨q, hq⟩ : ∃ q, R.left[k]? = some q := ⟨_, List.getElem?_eq_getElem hin⟩
      obtain ⟨bV, ea, hrow, hz⟩ := slice_row (leftE_len (nums R.log) R.val) (m1.left.upd u2 (fun _ _ x => x)) hq
      subst ea
      (repeat (first | refine EK.seq ?_ | refine EK.region ?_ | refine ER.done ?_ | refine EK.skip ?_ | refine EK.block ?_ | refine ER.move rfl rfl rfl ?_ | refine ER.nilCheck rfl rfl rfl ?_ | refine ER.fieldAddr rfl rfl rfl ?_ | refine ER.cmpT rfl rfl rfl rfl rfl (by first | (dsimp only [cmpP]; omega) | exact rfl | exact Int.le_refl _) ?_ | refine ER.len1 rfl rfl rfl ?_ | refine ER.indexSl rfl rfl rfl rfl (by omega) (by omega) ?_ | refine EK.condT rfl ?_ | refine ER.load1 rfl rfl rfl (by assumption) ?_))
      refine ER.loadN (vs := leftE (nums R.log) R.val q) rfl rfl rfl rfl hrow ?_
      (repeat refine ER.allocA rfl rfl ?_)
      refine ER.storeN (vs := leftE (nums R.log) R.val q) rfl rfl rfl rfl (by simp [leftE, accL, OneCell]) (fun j hj => ⟨?_, hfroz_of (get_push_new _ _), fun x => x⟩) ?_
      · have hj' : j < 8 := hj
        rcases (show j = 0 \/ j = 1 \/ j = 2 \/ j = 3 \/ j = 4 \/ j = 5 \/ j = 6 \/ j = 7 by omega) with rfl | rfl | rfl | rfl | rfl | rfl | rfl | rfl <;> exact ⟨_, hcell_of (get_push_new _ _) rfl⟩
      rw [hsetRow_push (c := [.int .i64 0, .int .i8 0, .int .i64 0, .int .i64 0, .int .i64 0, .int .i64 0, .int .i64 0, .bool false]) (vs := leftE (nums R.log) R.val q) rfl]
      refine ER.gen (fun h' => Upd (fun _ => False) h1 h' /\ h'[h2.size]? = some (accO (leftE (nums R.log) R.val q))) ⟨u2.trans (Upd.push _ _), get_push_new _ _⟩ ?_
      obtain ⟨y, hy⟩ : ∃ y, y = h2.size := ⟨_, rfl⟩
      rw [<- hy]
      clear hy hrow hz u2 c5'
      rintro h3 ⟨u3, ly⟩
      refine ER.done (EK.seq ?_)
      generalize hr : q.2 = r at *
      by_cases hb : r.b ∈ nums R.log
      · have hE : leftE (nums R.log) R.val q = accL q.1 r.op ((nums R.log).idxOf r.b : Nat) r.arg r.new (R.val r.b) (R.val r.b) false := by unfold leftE; rw [hr, if_pos hb]
        rw [hE] at ly
        have hlt := List.idxOf_lt_length_iff.2 hb
        generalize hix : (nums R.log).idxOf r.b = ix at ly hlt
        have hget : (nums R.log)[ix]? = some r.b := by rw [<- hix, List.getElem?_eq_getElem (List.idxOf_lt_length_iff.2 hb)]; simp
        obtain ⟨bN, eN, cN, fN⟩ := slice_at (now.upd u3 (fun _ _ x => x)) hget
        subst eN
        have y2 : hcell h3 ⟨y, 2, none⟩ = some (.int .i64 ix) := hcell_of ly rfl
        have y5 : hcell h3 ⟨y, 5, none⟩ = some (.int .i64 (R.val r.b)) := hcell_of ly rfl
        have y6 : hcell h3 ⟨y, 6, none⟩ = some (.int .i64 (R.val r.b)) := hcell_of ly rfl
        have y7 : hcell h3 ⟨y, 7, none⟩ = some (.bool false) := hcell_of ly rfl
        refine EK.regionAny (fun h' => h' = h3) ?_
        have hZ : h3 = h3 := rfl
        refine EA.tField 0 rfl (by kernel_rfl) rfl rfl rfl rfl hZ ?_
        refine EA.tLoad 1 rfl (by kernel_rfl) rfl rfl rfl rfl (fun _ hz => (by rw [hz]; exact y2)) hZ ?_
        refine EA.tCmpF 2 rfl (by kernel_rfl) rfl rfl rfl rfl rfl rfl (by first | (dsimp only [cmpP]; omega) | exact rfl | exact Int.le_refl _) hZ ?_
        refine EA.tMove 3 rfl (by kernel_rfl) rfl rfl rfl rfl hZ ?_
        refine EA.tField 4 rfl (by kernel_rfl) rfl rfl rfl rfl hZ ?_
        refine EA.tLoad 5 rfl (by kernel_rfl) rfl rfl rfl rfl (fun _ hz => (by rw [hz]; exact y2)) hZ ?_
        refine EA.tMove 6 rfl (by kernel_rfl) rfl rfl rfl rfl hZ ?_
        refine EA.tLen1 7 rfl (by kernel_rfl) rfl rfl rfl rfl hZ ?_
        refine EA.tCmpF 8 rfl (by kernel_rfl) rfl rfl rfl rfl rfl rfl (by first | (dsimp only [cmpP]; omega) | exact rfl | exact Int.le_refl _) hZ ?_
        refine EA.tPickF 9 rfl (by kernel_rfl) rfl rfl rfl rfl rfl hZ ?_
        refine EA.tMove 10 rfl (by kernel_rfl) rfl rfl rfl rfl hZ ?_
        refine EA.tField 11 rfl (by kernel_rfl) rfl rfl rfl rfl hZ ?_
        refine EA.tLoad 12 rfl (by kernel_rfl) rfl rfl rfl rfl (fun _ hz => (by rw [hz]; exact y2)) hZ ?_
        refine EA.tCmpT 13 rfl (by kernel_rfl) rfl rfl rfl rfl rfl rfl (by first | (dsimp only [cmpP]; omega) | exact rfl | exact Int.le_refl _) hZ ?_
        refine EA.tMove 14 rfl (by kernel_rfl) rfl rfl rfl rfl hZ ?_
        refine EA.tField 15 rfl (by kernel_rfl) rfl rfl rfl rfl hZ ?_
        refine EA.tLoad 16 rfl (by kernel_rfl) rfl rfl rfl rfl (fun _ hz => (by rw [hz]; exact y5)) hZ ?_
        refine EA.tMove 17 rfl (by kernel_rfl) rfl rfl rfl rfl hZ ?_
        refine EA.tField 18 rfl (by kernel_rfl) rfl rfl rfl rfl hZ ?_
        refine EA.tLoad 19 rfl (by kernel_rfl) rfl rfl rfl rfl (fun _ hz => (by rw [hz]; exact y2)) hZ ?_
        refine EA.tIdxS 20 rfl (by kernel_rfl) rfl rfl rfl rfl rfl (by omega) (by omega) hZ ?_
        refine EA.tLoad 21 rfl (by kernel_rfl) rfl rfl rfl rfl (fun _ hz => (by rw [hz]; exact cN)) hZ ?_
        refine EA.tCmpF 22 rfl (by kernel_rfl) rfl rfl rfl rfl rfl rfl (by first | (dsimp only [cmpP]; omega) | exact rfl | exact Int.le_refl _) hZ ?_
        refine EA.tPickT 23 rfl (by kernel_rfl) rfl rfl rfl rfl rfl hZ ?_
        refine EA.tPickF 24 rfl (by kernel_rfl) rfl rfl rfl rfl rfl hZ ?_
        refine EA.tMove 25 rfl (by kernel_rfl) rfl rfl rfl rfl hZ ?_
        refine EA.tField 26 rfl (by kernel_rfl) rfl rfl rfl rfl hZ ?_
        refine EA.tLoad 27 rfl (by kernel_rfl) rfl rfl rfl rfl (fun _ hz => (by rw [hz]; exact y5)) hZ ?_
        refine EA.tField 28 rfl (by kernel_rfl) rfl rfl rfl rfl hZ ?_
        refine EA.tLoad 29 rfl (by kernel_rfl) rfl rfl rfl rfl (fun _ hz => (by rw [hz]; exact y6)) hZ ?_
        refine EA.tCmpF 30 rfl (by kernel_rfl) rfl rfl rfl rfl rfl rfl (by first | (dsimp only [cmpP]; omega) | exact rfl | exact Int.le_refl _) hZ ?_
        refine EA.tPickF 31 rfl (by kernel_rfl) rfl rfl rfl rfl rfl hZ ?_
        refine EA.tMove 32 rfl (by kernel_rfl) rfl rfl rfl rfl hZ ?_
        refine EA.tField 33 rfl (by kernel_rfl) rfl rfl rfl rfl hZ ?_
        refine EA.tLoad 34 rfl (by kernel_rfl) rfl rfl rfl rfl (fun _ hz => (by rw [hz]; exact y7)) hZ ?_
        refine EA.tPickF 35 rfl (by kernel_rfl) rfl rfl rfl rfl rfl hZ ?_
        refine EA.done (by kernel_rfl) ?_
        (repeat (first | refine EK.region ?_ | refine ER.done ?_ | refine EK.skip ?_ | refine EK.inBlock ?_ | refine ER.move rfl rfl rfl ?_ | refine ER.assign rfl rfl rfl ?_ | refine ER.add (kd := .i64) rfl rfl rfl rfl (i64_in (by omega) (by omega)) ?_ | refine EK.condF rfl ?_))
        exact EK.back (again (k + 1) _ _ (by omega) ⟨by omega, rfl, u3⟩) ⟨rfl, rfl, rfl, trivial⟩
      · have hE : leftE (nums R.log) R.val q = accL q.1 r.op (-1) r.arg r.new (R.val r.b) (R.val r.b) false := by unfold leftE; rw [hr, if_neg hb]
        rw [hE] at ly
        have y2 : hcell h3 ⟨y, 2, none⟩ = some (.int .i64 (-1)) := hcell_of ly rfl
        have y5 : hcell h3 ⟨y, 5, none⟩ = some (.int .i64 (R.val r.b)) := hcell_of ly rfl
        have y6 : hcell h3 ⟨y, 6, none⟩ = some (.int .i64 (R.val r.b)) := hcell_of ly rfl
        have y7 : hcell h3 ⟨y, 7, none⟩ = some (.bool false) := hcell_of ly rfl
        refine EK.regionAny (fun h' => h' = h3) ?_
        have hZ : h3 = h3 := rfl
        refine EA.tField 0 rfl (by kernel_rfl) rfl rfl rfl rfl hZ ?_
        refine EA.tLoad 1 rfl (by kernel_rfl) rfl rfl rfl rfl (fun _ hz => (by rw [hz]; exact y2)) hZ ?_
        refine EA.tCmpF 2 rfl (by kernel_rfl) rfl rfl rfl rfl rfl rfl (by first | (dsimp only [cmpP]; omega) | exact rfl | exact Int.le_refl _) hZ ?_
        refine EA.tMove 3 rfl (by kernel_rfl) rfl rfl rfl rfl hZ ?_
        refine EA.tField 4 rfl (by kernel_rfl) rfl rfl rfl rfl hZ ?_
        refine EA.tLoad 5 rfl (by kernel_rfl) rfl rfl rfl rfl (fun _ hz => (by rw [hz]; exact y2)) hZ ?_
        refine EA.tMove 6 rfl (by kernel_rfl) rfl rfl rfl rfl hZ ?_
        refine EA.tLen1 7 rfl (by kernel_rfl) rfl rfl rfl rfl hZ ?_
        refine EA.tCmpF 8 rfl (by kernel_rfl) rfl rfl rfl rfl rfl rfl (by first | (dsimp only [cmpP]; omega) | exact rfl | exact Int.le_refl _) hZ ?_
        refine EA.tPickF 9 rfl (by kernel_rfl) rfl rfl rfl rfl rfl hZ ?_
        refine EA.tMove 10 rfl (by kernel_rfl) rfl rfl rfl rfl hZ ?_
        refine EA.tField 11 rfl (by kernel_rfl) rfl rfl rfl rfl hZ ?_
        refine EA.tLoad 12 rfl (by kernel_rfl) rfl rfl rfl rfl (fun _ hz => (by rw [hz]; exact y2)) hZ ?_
        refine EA.tCmpF 13 rfl (by kernel_rfl) rfl rfl rfl rfl rfl rfl (by first | (dsimp only [cmpP]; omega) | exact rfl | exact Int.le_refl _) hZ ?_
        refine EA.tMove 14 rfl (by kernel_rfl) rfl rfl rfl rfl hZ ?_
        refine EA.takeNo 15 rfl (by kernel_rfl) rfl rfl rfl hZ ?_
        refine EA.takeNo 16 rfl (by kernel_rfl) rfl rfl rfl hZ ?_
        refine EA.takeNo 17 rfl (by kernel_rfl) rfl rfl rfl hZ ?_
        refine EA.takeNo 18 rfl (by kernel_rfl) rfl rfl rfl hZ ?_
        refine EA.takeNo 19 rfl (by kernel_rfl) rfl rfl rfl hZ ?_
        refine EA.takeNo 20 rfl (by kernel_rfl) rfl rfl rfl hZ ?_
        refine EA.takeNo 21 rfl (by kernel_rfl) rfl rfl rfl hZ ?_
        refine EA.takeNo 22 rfl (by kernel_rfl) rfl rfl rfl hZ ?_
        refine EA.tPickF 23 rfl (by kernel_rfl) rfl rfl rfl rfl rfl hZ ?_
        refine EA.tPickF 24 rfl (by kernel_rfl) rfl rfl rfl rfl rfl hZ ?_
        refine EA.tMove 25 rfl (by kernel_rfl) rfl rfl rfl rfl hZ ?_
        refine EA.tField 26 rfl (by kernel_rfl) rfl rfl rfl rfl hZ ?_
        refine EA.tLoad 27 rfl (by kernel_rfl) rfl rfl rfl rfl (fun _ hz => (by rw [hz]; exact y5)) hZ ?_
        refine EA.tField 28 rfl (by kernel_rfl) rfl rfl rfl rfl hZ ?_
        refine EA.tLoad 29 rfl (by kernel_rfl) rfl rfl rfl rfl (fun _ hz => (by rw [hz]; exact y6)) hZ ?_
        refine EA.tCmpF 30 rfl (by kernel_rfl) rfl rfl rfl rfl rfl rfl (by first | (dsimp only [cmpP]; omega) | exact rfl | exact Int.le_refl _) hZ ?_
        refine EA.tPickF 31 rfl (by kernel_rfl) rfl rfl rfl rfl rfl hZ ?_
        refine EA.tMove 32 rfl (by kernel_rfl) rfl rfl rfl rfl hZ ?_
        refine EA.tField 33 rfl (by kernel_rfl) rfl rfl rfl rfl hZ ?_
        refine EA.tLoad 34 rfl (by kernel_rfl) rfl rfl rfl rfl (fun _ hz => (by rw [hz]; exact y7)) hZ ?_
        refine EA.tPickF 35 rfl (by kernel_rfl) rfl rfl rfl rfl rfl hZ ?_
        refine EA.done (by kernel_rfl) ?_
        (repeat (first | refine EK.region ?_ | refine ER.done ?_ | refine EK.skip ?_ | refine EK.inBlock ?_ | refine ER.move rfl rfl rfl ?_ | refine ER.assign rfl rfl rfl ?_ | refine ER.add (kd := .i64) rfl rfl rfl rfl (i64_in (by omega) (by omega)) ?_ | refine EK.condF rfl ?_))
        exact EK.back (again (k + 1) _ _ (by omega) ⟨by omega, rfl, u3⟩) ⟨rfl, rfl, rfl, trivial⟩
    · obtain rfl : k = R.left.length := by omega
      clear again
      (repeat (first | refine EK.seq ?_ | refine EK.region ?_ | refine ER.done ?_ | refine ER.move rfl rfl rfl ?_ | refine ER.assign rfl rfl rfl ?_ | refine ER.nilCheck rfl rfl rfl ?_ | refine ER.fieldAddr rfl rfl rfl ?_ | refine ER.cmpF rfl rfl rfl rfl rfl (by first | (dsimp only [cmpP]; omega) | exact rfl | exact Int.le_refl _) ?_ | refine ER.len1 rfl rfl rfl ?_ | refine EK.condF rfl ?_ | refine EK.ret ?_ | refine EK.exit rfl ?_ | refine ER.load1 rfl rfl rfl (by assumption) ?_))
      exact EU.ret1 rfl rfl ⟨rfl, rfl, cv, u2.get row (fun x => x), upd_then up u2 (fun _ _ x => x.elim), fst.upd u2 (fun _ _ x => x), newc⟩
end
end
section
open Go Go.TJ Go.Conc Go.Proofs
section
variable {Γ : Type} {main : Bool} {S : Sit Γ} {δ : Ix Γ} {h h' : Hp} {R : Rec} {picks : List Int} {lL lW lY lV sP tv cv : Value} {last : Int} {C n most : Nat} {e : Int} {X : Us}
theorem RecOk.left_len (ok : RecOk X picks R) : R.left.length <= 64 := by
  have h2 := rise_len (n := R.nb) (l := R.left.map (·.1)) 0 (List.pairwise_map.2 ok.rise) (fun _ _ => Nat.zero_le _) (fun a ha => by
    obtain ⟨q, hq, rfl⟩ := List.mem_map.1 ha
    exact (ok.left q hq).1)
  rw [List.length_map] at h2
  have := ok.nb
  omega
theorem RecOk.rise_at (ok : RecOk X picks R) {k : Nat} {a b : Nat × Rq} (ha : R.left[k]? = some a) (hb : R.left[k + 1]? = some b) : a.1 < b.1 := by
  obtain ⟨_, _, h1⟩ := take_mid ha
  obtain ⟨_, _, h2⟩ := take_mid hb
  have := List.pairwise_iff_getElem.1 ok.rise k (k + 1) h1 h2 (by omega)
  rw [List.getElem?_eq_getElem h1] at ha
  rw [List.getElem?_eq_getElem h2] at hb
  cases ha; cases hb
  exact this
set_option maxHeartbeats 8000000 in
set_option maxRecDepth 8000 in
theorem shape_ok (ok : RecOk X picks R) (m : RecM R picks lL lW lY lV sP h) (hC : h[C]? = some (chkO R.e R.log.length lL lW lY lV sP R.most tv cv last)) :
    CallW Try.prog main S 80 #[ptr C] h δ (Ret (Det (.bool true) h δ)) := by
  have hlen := ok.len
  have hmost := ok.most
  have hnl := ok.left_len
  obtain ⟨aW, kW, eW⟩ := m.went.val
  obtain ⟨aY, kY, eY⟩ := m.rdy.val
  obtain ⟨aV, kV, eV⟩ := m.left.val
  subst eW eY eV
  have hrd := ok.rdy
  have hwl : (R.log.map (·.thr)).length = R.log.length := List.length_map _
  rw [hwl, hrd] at hC
  have d1 : hcell h ⟨C, 1, none⟩ = some (.int .i64 R.log.length) := hcell_of hC rfl
  have d3 : hcell h ⟨C, 3, none⟩ = some (.slice aW R.log.length kW) := hcell_of hC rfl
  have d4 : hcell h ⟨C, 4, none⟩ = some (.slice aY R.log.length kY) := hcell_of hC rfl
  have d5 : hcell h ⟨C, 5, none⟩ = some (.slice aV R.left.length kV) := hcell_of hC rfl
  have d6 : hcell h ⟨C, 6, none⟩ = some nilS := hcell_of hC rfl
  have d8 : hcell h ⟨C, 8, none⟩ = some (.int .i64 R.most) := hcell_of hC rfl
  refine CallW.start (n := 101) rfl rfl ?_
  (repeat (first | refine EK.seq ?_ | refine EK.region ?_ | refine ER.done ?_ | refine ER.assign rfl rfl rfl ?_))
  refine EK.regionAny (fun h' => h' = h) ?_
  have hZ : h = h := rfl
  refine EA.tMove 0 rfl (by kernel_rfl) rfl rfl rfl rfl hZ ?_
  refine EA.tNil 1 rfl (by kernel_rfl) rfl rfl rfl rfl hZ ?_
  refine EA.tField 2 rfl (by kernel_rfl) rfl rfl rfl rfl hZ ?_
  refine EA.tField 3 rfl (by kernel_rfl) rfl rfl rfl rfl hZ ?_
  refine EA.tLoad 4 rfl (by kernel_rfl) rfl rfl rfl rfl (fun _ hz => (by rw [hz]; exact d1)) hZ ?_
  refine EA.tMove 5 rfl (by kernel_rfl) rfl rfl rfl rfl hZ ?_
  refine EA.tNil 6 rfl (by kernel_rfl) rfl rfl rfl rfl hZ ?_
  refine EA.tField 7 rfl (by kernel_rfl) rfl rfl rfl rfl hZ ?_
  refine EA.tField 8 rfl (by kernel_rfl) rfl rfl rfl rfl hZ ?_
  refine EA.tLoad 9 rfl (by kernel_rfl) rfl rfl rfl rfl (fun _ hz => (by rw [hz]; exact d3)) hZ ?_
  refine EA.tLen1 10 rfl (by kernel_rfl) rfl rfl rfl rfl hZ ?_
  refine EA.tCmpF 11 rfl (by kernel_rfl) rfl rfl rfl rfl rfl rfl (by first | (dsimp only [cmpP]; omega) | exact rfl | exact Int.le_refl _) hZ ?_
  refine EA.tMove 12 rfl (by kernel_rfl) rfl rfl rfl rfl hZ ?_
  refine EA.tMove 13 rfl (by kernel_rfl) rfl rfl rfl rfl hZ ?_
  refine EA.tNil 14 rfl (by kernel_rfl) rfl rfl rfl rfl hZ ?_
  refine EA.tField 15 rfl (by kernel_rfl) rfl rfl rfl rfl hZ ?_
  refine EA.tField 16 rfl (by kernel_rfl) rfl rfl rfl rfl hZ ?_
  refine EA.tLoad 17 rfl (by kernel_rfl) rfl rfl rfl rfl (fun _ hz => (by rw [hz]; exact d1)) hZ ?_
  refine EA.tMove 18 rfl (by kernel_rfl) rfl rfl rfl rfl hZ ?_
  refine EA.tNil 19 rfl (by kernel_rfl) rfl rfl rfl rfl hZ ?_
  refine EA.tField 20 rfl (by kernel_rfl) rfl rfl rfl rfl hZ ?_
  refine EA.tField 21 rfl (by kernel_rfl) rfl rfl rfl rfl hZ ?_
  refine EA.tLoad 22 rfl (by kernel_rfl) rfl rfl rfl rfl (fun _ hz => (by rw [hz]; exact d4)) hZ ?_
  refine EA.tLen1 23 rfl (by kernel_rfl) rfl rfl rfl rfl hZ ?_
  refine EA.tCmpF 24 rfl (by kernel_rfl) rfl rfl rfl rfl rfl rfl (by first | (dsimp only [cmpP]; omega) | exact rfl | exact Int.le_refl _) hZ ?_
  refine EA.tPickF 25 rfl (by kernel_rfl) rfl rfl rfl rfl rfl hZ ?_
  refine EA.tMove 26 rfl (by kernel_rfl) rfl rfl rfl rfl hZ ?_
  refine EA.tMove 27 rfl (by kernel_rfl) rfl rfl rfl rfl hZ ?_
  refine EA.tNil 28 rfl (by kernel_rfl) rfl rfl rfl rfl hZ ?_
  refine EA.tField 29 rfl (by kernel_rfl) rfl rfl rfl rfl hZ ?_
  refine EA.tField 30 rfl (by kernel_rfl) rfl rfl rfl rfl hZ ?_
  refine EA.tLoad 31 rfl (by kernel_rfl) rfl rfl rfl rfl (fun _ hz => (by rw [hz]; exact d1)) hZ ?_
  refine EA.tMove 32 rfl (by kernel_rfl) rfl rfl rfl rfl hZ ?_
  refine EA.tNil 33 rfl (by kernel_rfl) rfl rfl rfl rfl hZ ?_
  refine EA.tField 34 rfl (by kernel_rfl) rfl rfl rfl rfl hZ ?_
  refine EA.tLoad 35 rfl (by kernel_rfl) rfl rfl rfl rfl (fun _ hz => (by rw [hz]; exact d8)) hZ ?_
  refine EA.tCmpF 36 rfl (by kernel_rfl) rfl rfl rfl rfl rfl rfl (by first | (dsimp only [cmpP]; omega) | exact rfl | exact Int.le_refl _) hZ ?_
  refine EA.tPickF 37 rfl (by kernel_rfl) rfl rfl rfl rfl rfl hZ ?_
  refine EA.done (by kernel_rfl) ?_
  clear hZ
  (repeat (first | refine EK.seq ?_ | refine EK.region ?_ | refine ER.done ?_ | refine EK.skip ?_ | refine EK.block ?_ | refine ER.assign rfl rfl rfl ?_ | refine EK.condF rfl ?_))
  refine EK.loopInv (fun k : Nat => [(3, .int .i64 k), (0, ptr C)]) (fun k h' δ' => 1 <= k /\ (k <= R.left.length \/ k = 1) /\ h' = h /\ δ' = δ) (fun k => R.left.length - k) 1 ⟨rfl, rfl, trivial⟩ ⟨Nat.le_refl _, .inr rfl, rfl, rfl⟩ ?_
  rintro k h2 δ2 ⟨hk1, hk, rfl, rfl⟩ again
  by_cases hin : k < R.left.length
  · obtain ⟨q, rfl⟩ : ∃ q, k = q + 1 := ⟨k - 1, by omega⟩
    obtain ⟨a, ha⟩ : ∃ a, R.left[q]? = some a := ⟨_, List.getElem?_eq_getElem (by omega)⟩
    obtain ⟨b, hb⟩ : ∃ b, R.left[q + 1]? = some b := ⟨_, List.getElem?_eq_getElem hin⟩
    have hab := ok.rise_at ha hb
    obtain ⟨bV, ea, row1, hz⟩ := slice_row (leftE_len (nums R.log) R.val) m.left ha
    subst ea
    obtain ⟨bV2, ea, row2, hz⟩ := slice_row (leftE_len (nums R.log) R.val) m.left hb
    injection ea with ea
    injection ea with ea
    subst ea
    have g1 : hcell h2 ⟨bV, 0 + (((q + 1 : Nat) : Int) - 1).toNat * 8 + 0, none⟩ = some (.int .i64 a.1) := by
      rw [show (((q + 1 : Nat) : Int) - 1).toNat = q by omega]; exact row1 0 _ rfl
    have g2 : hcell h2 ⟨bV, 0 + (q + 1) * 8 + 0, none⟩ = some (.int .i64 b.1) := row2 0 _ rfl
    (repeat (first | refine EK.seq ?_ | refine EK.region ?_ | refine ER.done ?_ | refine EK.skip ?_ | refine EK.block ?_ | refine ER.move rfl rfl rfl ?_ | refine ER.nilCheck rfl rfl rfl ?_ | refine ER.fieldAddr rfl rfl rfl ?_ | refine ER.load1 rfl rfl rfl (hcell_of (by assumption) rfl) ?_ | refine ER.cmpT rfl rfl rfl rfl rfl (by first | (dsimp only [cmpP]; omega) | exact rfl | exact Int.le_refl _) ?_ | refine ER.len1 rfl rfl rfl ?_ | refine EK.condT rfl ?_))
    refine EK.regionAny (fun h' => h' = h2) ?_
    have hZ : h2 = h2 := rfl
    refine EA.tMove 0 rfl (by kernel_rfl) rfl rfl rfl rfl hZ ?_
    refine EA.tNil 1 rfl (by kernel_rfl) rfl rfl rfl rfl hZ ?_
    refine EA.tField 2 rfl (by kernel_rfl) rfl rfl rfl rfl hZ ?_
    refine EA.tField 3 rfl (by kernel_rfl) rfl rfl rfl rfl hZ ?_
    refine EA.tLoad 4 rfl (by kernel_rfl) rfl rfl rfl rfl (fun _ hz => (by rw [hz]; exact d5)) hZ ?_
    refine EA.tMove 5 rfl (by kernel_rfl) rfl rfl rfl rfl hZ ?_
    refine EA.tIdxS 6 rfl (by kernel_rfl) rfl rfl rfl rfl rfl (by omega) (by omega) hZ ?_
    refine EA.tField 7 rfl (by kernel_rfl) rfl rfl rfl rfl hZ ?_
    refine EA.tLoad 8 rfl (by kernel_rfl) rfl rfl rfl rfl (fun _ hz => (by rw [hz]; exact g2)) hZ ?_
    refine EA.tMove 9 rfl (by kernel_rfl) rfl rfl rfl rfl hZ ?_
    refine EA.tNil 10 rfl (by kernel_rfl) rfl rfl rfl rfl hZ ?_
    refine EA.tField 11 rfl (by kernel_rfl) rfl rfl rfl rfl hZ ?_
    refine EA.tField 12 rfl (by kernel_rfl) rfl rfl rfl rfl hZ ?_
    refine EA.tLoad 13 rfl (by kernel_rfl) rfl rfl rfl rfl (fun _ hz => (by rw [hz]; exact d5)) hZ ?_
    refine EA.tMove 14 rfl (by kernel_rfl) rfl rfl rfl rfl hZ ?_
    refine EA.tSub (kd := .i64) 15 rfl (by kernel_rfl) rfl rfl rfl rfl rfl (i64_in (by omega) (by omega)) hZ ?_
    refine EA.tIdxS 16 rfl (by kernel_rfl) rfl rfl rfl rfl rfl (by omega) (by omega) hZ ?_
    refine EA.tField 17 rfl (by kernel_rfl) rfl rfl rfl rfl hZ ?_
    refine EA.tLoad 18 rfl (by kernel_rfl) rfl rfl rfl rfl (fun _ hz => (by rw [hz]; exact g1)) hZ ?_
    refine EA.tCmpF 19 rfl (by kernel_rfl) rfl rfl rfl rfl rfl rfl (by first | (dsimp only [cmpP]; omega) | exact rfl | exact Int.le_refl _) hZ ?_
    refine EA.done (by kernel_rfl) ?_
    clear hZ g1 g2
    (repeat (first | refine EK.region ?_ | refine ER.done ?_ | refine EK.skip ?_ | refine EK.inBlock ?_ | refine ER.move rfl rfl rfl ?_ | refine ER.assign rfl rfl rfl ?_ | refine ER.add (kd := .i64) rfl rfl rfl rfl (i64_in (by omega) (by omega)) ?_ | refine EK.condF rfl ?_))
    exact EK.back (again (q + 1 + 1) _ _ (by omega) ⟨by omega, .inl (by omega), rfl, rfl⟩) ⟨rfl, rfl, trivial⟩
  · clear again
    (repeat (first | refine EK.seq ?_ | refine EK.region ?_ | refine ER.done ?_ | refine EK.block ?_ | refine ER.move rfl rfl rfl ?_ | refine ER.assign rfl rfl rfl ?_ | refine ER.nilCheck rfl rfl rfl ?_ | refine ER.fieldAddr rfl rfl rfl ?_ | refine ER.load1 rfl rfl rfl (hcell_of (by assumption) rfl) ?_ | refine ER.cmpF rfl rfl rfl rfl rfl (by first | (dsimp only [cmpP]; omega) | exact rfl | exact Int.le_refl _) ?_ | refine ER.len1 rfl rfl rfl ?_ | refine EK.condF rfl ?_ | refine EK.exit rfl ?_))
    refine EK.loopInv (fun k : Nat => [(4, .int .i64 1), (0, ptr C)]) (fun k h' δ' => h' = h2 /\ δ' = δ2) (fun k => 0) 0 ⟨rfl, rfl, trivial⟩ ⟨rfl, rfl⟩ ?_
    rintro k h2 δ2 ⟨rfl, rfl⟩ -
    (repeat (first | refine EK.seq ?_ | refine EK.region ?_ | refine ER.done ?_ | refine ER.move rfl rfl rfl ?_ | refine ER.assign rfl rfl rfl ?_ | refine ER.nilCheck rfl rfl rfl ?_ | refine ER.fieldAddr rfl rfl rfl ?_ | refine ER.load1 rfl rfl rfl (hcell_of (by assumption) rfl) ?_ | refine ER.cmpF rfl rfl rfl rfl rfl (by first | (dsimp only [cmpP]; omega) | exact rfl | exact Int.le_refl _) ?_ | refine ER.len1 rfl rfl rfl ?_ | refine EK.condF rfl ?_ | refine EK.ret ?_ | refine EK.exit rfl ?_))
    exact EU.ret1 rfl rfl det
end
end
section
open Go Go.TJ Go.Conc Go.Proofs
theorem sliceO_two {h : Hp} {s s' : Value} {e e' sz sz' n n' : Nat} {cells cells' : List Value} (x : SliceO h s e sz n cells) (y : SliceO h s' e' sz' n' cells') (hne : e ≠ e') : ∀ b, blk s = some b -> blk s' ≠ some b := by
  intro b hb hb'
  obtain ⟨_, ⟨rfl, _⟩ | ⟨b1, cap, rest, rfl, h1, h2, h3⟩⟩ := y
  · cases hb'
  · cases hb'
    exact sliceO_ne x h3 hne _ hb rfl
structure ChkI (R : Rec) (lL lW lY lV sP : Value) (h0 : Hp) (C : Nat) (tv cv : Value) (last : Int) (thr : List Nat) (cl : List Int) (h : Hp) : Prop where
  up : Upd (fun _ => False) h0 h
  row : h[C]? = some (chkO R.e R.log.length lL lW lY lV sP R.most tv cv last)
  thr : SliceO h tv 3 1 thr.length (thr.map fun (n : Nat) => Value.int .i64 (n : Int))
  cel : SliceO h cv 2 1 cl.length (cl.map fun x => Value.int .i64 x)
  nC : h0.size <= C
  nt : ∀ b, blk tv = some b -> h0.size <= b
  nc : ∀ b, blk cv = some b -> h0.size <= b
def TI (R : Rec) (k : Nat) (thr : List Nat) : Prop := ∀ j t, thr[j]? = some t -> t <= R.log.length /\ ∀ i e, k <= i -> i < t -> R.log[i]? = some e -> e.thr ≠ j
theorem TI.mono {R : Rec} {k k' : Nat} {thr : List Nat} (x : TI R k thr) (hk : k <= k') : TI R k' thr := fun j t ht => ⟨(x j t ht).1, fun i e hi => (x j t ht).2 i e (by omega)⟩
theorem TI.set {R : Rec} {k j t : Nat} {thr : List Nat} (x : TI R k thr) (h1 : t <= R.log.length) (h2 : ∀ i e, k <= i -> i < t -> R.log[i]? = some e -> e.thr ≠ j) : TI R k (thr.set j t) := by
  intro j' t' ht
  by_cases e : j' = j
  · subst e
    have hlt : j' < thr.length := by have := (take_mid ht).2.2; simpa using this
    rw [List.getElem?_set_self hlt] at ht
    cases ht
    exact ⟨h1, h2⟩
  · rw [List.getElem?_set_ne (Ne.symm e)] at ht
    exact x j' t' ht
section
variable {R : Rec} {k j : Nat}
theorem mem_alive : j ∈ R.alive k ↔ j < R.nb /\ ((∃ q, q ∈ R.left /\ q.1 = j) \/ ∃ i e, k <= i /\ R.log[i]? = some e /\ e.thr = j) := by
  unfold Rec.alive
  rw [List.mem_filter, List.mem_range, Bool.or_eq_true, List.any_eq_true, List.any_eq_true]
  refine and_congr_right fun _ => or_congr ?_ ?_
  · constructor
    · rintro ⟨q, hq, e⟩; exact ⟨q, hq, by simpa using e⟩
    · rintro ⟨q, hq, e⟩; exact ⟨q, hq, by simpa using e⟩
  · constructor
    · rintro ⟨e, he, h⟩
      obtain ⟨i, hi, rfl⟩ := List.mem_iff_getElem.1 he
      have := List.getElem?_eq_getElem hi
      rw [List.getElem?_drop] at this
      exact ⟨k + i, _, by omega, this, by simpa using h⟩
    · rintro ⟨i, e, hi, he, h⟩
      refine ⟨e, List.mem_of_getElem? (i := i - k) ?_, by simpa using h⟩
      rw [List.getElem?_drop, show k + (i - k) = i by omega]
      exact he
theorem alive_at {i : Nat} {e : Ev} (hj : j < R.nb) (hi : k <= i) (he : R.log[i]? = some e) (h : e.thr = j) : j ∈ R.alive k := mem_alive.2 ⟨hj, .inr ⟨i, e, hi, he, h⟩⟩
end
section
variable {Γ : Type} {main : Bool} {S : Sit Γ} {δ : Ix Γ} {h h' h0 : Hp} {R : Rec} {picks : List Int} {lL lW lY lV sP tv cv : Value} {last : Int} {C n k j : Nat} {e : Int} {X : Us} {thr : List Nat} {cl : List Int}
theorem ChkI.upd0 (I : ChkI R lL lW lY lV sP h0 C tv cv last thr cl h) (u : Upd (fun _ => False) h h') : ChkI R lL lW lY lV sP h0 C tv cv last thr cl h' :=
  ⟨I.up.trans u, u.get I.row (fun x => x), I.thr.upd u (fun _ _ x => x), I.cel.upd u (fun _ _ x => x), I.nC, I.nt, I.nc⟩
theorem ChkI.other (I : ChkI R lL lW lY lV sP h0 C tv cv last thr cl h) {y : Nat} {vs : List Value} (hy : h[y]? = some (accO vs)) (hy0 : h0.size <= y) (o : Obj) : ChkI R lL lW lY lV sP h0 C tv cv last thr cl (h.setIfInBounds y o) := by
  have u : Upd (fun b => b = y) h (h.setIfInBounds y o) := Upd.set _ _ _ rfl
  have hyC : C ≠ y := fun e => by
    have := I.row
    rw [e, hy] at this
    injection this with this
    injection this with _ this _
    revert this; decide
  exact ⟨I.up.over u (fun b hb => by omega), u.get I.row hyC, I.thr.upd u (sliceO_ne I.thr hy (by decide)), I.cel.upd u (sliceO_ne I.cel hy (by decide)), I.nC, I.nt, I.nc⟩
theorem ChkI.setT {b cap : Nat} (I : ChkI R lL lW lY lV sP h0 C (.slice (some ⟨b, 0, none⟩) thr.length cap) cv last thr cl h) {j t : Nat} (hj : j < thr.length) : ChkI R lL lW lY lV sP h0 C (.slice (some ⟨b, 0, none⟩) thr.length cap) cv last (thr.set j t) cl (hset h ⟨b, 0 + j * 1, none⟩ (.int .i64 t)) := by
  have u : Upd (fun x => x = b) h (hset h ⟨b, 0 + j * 1, none⟩ (.int .i64 t)) := Upd.hset _ _ _ rfl
  have hb := I.nt b rfl
  have e1 : 0 + j * 1 = j := by omega
  refine ⟨I.up.over u (fun b' hb' => by omega), u.get I.row (fun e => sliceO_ne I.thr I.row (by decide) b rfl e.symm), ?_, I.cel.upd u (fun b' hb' e => sliceO_two I.thr I.cel (by decide) b rfl (by rw [<- e]; exact hb')), I.nC, I.nt, I.nc⟩
  have := I.thr.set (j := j) (by rw [List.length_map]; exact hj) (.int .i64 t)
  rw [e1, List.map_set, List.length_set]
  exact this
theorem acc_all {y : Nat} {vs : List Value} {h : Hp} (hl : vs.length = 8) (hy : h[y]? = some (accO vs)) : ∀ j, j < 8 -> (∃ u, hcell h ⟨y, 0 + j, none⟩ = some u) /\ hfroz h ⟨y, 0 + j, none⟩ = false /\ ¬ (NoS (Γ := Γ)).still δ.g ⟨y, 0 + j, none⟩ := fun j hj => by
  obtain ⟨v, hv⟩ : ∃ v, vs[j]? = some v := ⟨_, List.getElem?_eq_getElem (by omega)⟩
  refine ⟨⟨v, ?_⟩, hfroz_of hy, fun x => x⟩
  rw [Nat.zero_add]
  exact hcell_of hy (by simp only [List.getElem?_toArray]; exact hv)
set_option maxHeartbeats 8000000 in
set_option maxRecDepth 8000 in
theorem next_ok (ok : RecOk X picks R) (m : RecM R picks lL lW lY lV sP h0) (I : ChkI R lL lW lY lV sP h0 C tv cv last thr cl h) (hl : thr.length = R.nb) (ti : TI R k thr) (hj : j < R.nb) (hk : k <= R.log.length) :
    CallW Try.prog main (NoS (Γ := Γ)) 177 #[ptr C, .int .i64 j, .int .i64 k] h δ (Ret fun v h' δ' => δ' = δ /\ ∃ (thr' : List Nat) (t o c a n w x : Int) (f b : Bool), v = .tuple #[.agg (accL t o c a n w x f).toArray, .bool b] /\ (b = true ↔ j ∈ R.alive k) /\ (b = true -> 1 <= o /\ o <= 5 /\ -1 <= c /\ c < (nums R.log).length) /\
      thr'.length = R.nb /\ TI R k thr' /\ ChkI R lL lW lY lV sP h0 C tv cv last thr' cl h' /\ Upd (fun b => blk tv = some b) h h') := by
  have hlen := ok.len
  have hmost := ok.most
  have hnl := ok.left_len
  have hnb := ok.nb
  obtain ⟨aL, kL, eL⟩ := m.log.val
  obtain ⟨aV, kV, eV⟩ := m.left.val
  obtain ⟨aT, kT, eT⟩ := I.thr.val
  subst eL eV eT
  obtain ⟨t0, ht0⟩ : ∃ t0, thr[j]? = some t0 := ⟨_, List.getElem?_eq_getElem (by omega)⟩
  obtain ⟨ht1, ht2⟩ := ti j t0 ht0
  obtain ⟨bT, eT, cT, fT⟩ := slice_at I.thr ht0
  subst eT
  have hjl : j < thr.length := by omega
  obtain ⟨y, hy⟩ : ∃ y, y = h.size := ⟨_, rfl⟩
  have hy0 : h0.size <= y := by have := I.up.size; omega
  refine CallW.start (n := 109) rfl rfl ?_
  (repeat (first | refine EK.seq ?_ | refine EK.region ?_ | refine ER.done ?_ | refine ER.move rfl rfl rfl ?_ | refine ER.assign rfl rfl rfl ?_ | refine ER.nilCheck rfl rfl rfl ?_ | refine ER.fieldAddr rfl rfl rfl ?_ | refine ER.allocA rfl rfl ?_))
  refine ER.gen (fun h' => ChkI R (.slice aL R.log.length kL) lW lY (.slice aV R.left.length kV) sP h0 C (.slice (some ⟨bT, 0, none⟩) thr.length kT) cv last thr cl h' /\ Upd (fun _ => False) h h' /\ h'[y]? = some (accO [.int .i64 0, .int .i8 0, .int .i64 0, .int .i64 0, .int .i64 0, .int .i64 0, .int .i64 0, .bool false])) ⟨I.upd0 (Upd.push _ _), Upd.push _ _, by rw [hy]; exact get_push_new _ _⟩ ?_
  rw [<- hy]
  have hys : h.size <= y := by omega
  clear I cT fT hy
  rintro h1 ⟨I, u1, ly⟩
  obtain ⟨bT', eT, cT, fT⟩ := slice_at I.thr ht0
  injection eT with eT
  injection eT with eT
  subst eT
  have c9 : hcell h1 ⟨C, 9, none⟩ = some (.slice (some ⟨bT, 0, none⟩) thr.length kT) := hcell_of I.row rfl
  have c2 : hcell h1 ⟨C, 2, none⟩ = some (.slice aL R.log.length kL) := hcell_of I.row rfl
  obtain ⟨i0, hi0⟩ : ∃ i0, i0 = max k t0 := ⟨_, rfl⟩
  (repeat (first | refine ER.move rfl rfl rfl ?_ | refine ER.indexSl rfl rfl rfl rfl (by omega) (by omega) ?_ | refine ER.load1 rfl rfl rfl (by assumption) ?_))
  refine ER.max (r := (i0 : Int)) rfl rfl rfl rfl (by split <;> omega) ?_
  (repeat (first | refine ER.done ?_ | refine EK.block ?_ | refine ER.assign rfl rfl rfl ?_))
  refine EK.loopInv (fun i : Nat => [(8, .int .i64 i), (6, ptr y), (0, ptr C), (1, .int .i64 j)]) (fun i h' δ' => k <= i /\ i <= R.log.length /\ (∀ i' e, k <= i' -> i' < i -> R.log[i']? = some e -> e.thr ≠ j) /\ h' = h1 /\ δ' = δ) (fun i => R.log.length - i) i0 ⟨rfl, rfl, rfl, rfl, trivial⟩ ⟨by omega, by omega, fun i' e h1 h2 h3 => ht2 i' e h1 (by omega) h3, rfl, rfl⟩ ?_
  rintro i h2 δ2 ⟨hik, hil, hno, rfl, rfl⟩ again
  by_cases hin : i < R.log.length
  · obtain ⟨e, he⟩ : ∃ e, R.log[i]? = some e := ⟨_, List.getElem?_eq_getElem hin⟩
    obtain ⟨bL, ea, hrow, hz⟩ := slice_row (entL_len (nums R.log)) (m.log.upd I.up (fun _ _ x => x)) he
    subst ea
    have w0 : hcell h2 ⟨bL, 0 + i * 8 + 0, none⟩ = some (.int .i64 e.thr) := hrow 0 _ rfl
    have w1 : hcell h2 ⟨bL, 0 + i * 8 + 1, none⟩ = some (.int .i8 e.op) := hrow 1 _ rfl
    obtain ⟨w, i1, r, cw, hr, e1, ch2⟩ := ok.chain.inv he
    have hop1 : 1 <= e.op := by rw [e1]; exact hr.op1
    have hop2 : e.op <= 5 := by rw [e1]; exact hr.op2
    obtain ⟨-, i2, i3, -⟩ := idx_at he
    have hixl : (nums R.log).idxOf e.b < (nums R.log).length := by
      refine List.idxOf_lt_length_iff.2 ((nums_mem _ _).2 ⟨e, List.mem_of_getElem? he, rfl⟩)
    by_cases hej : e.thr = j
    · (repeat (first | refine EK.seq ?_ | refine EK.region ?_ | refine ER.done ?_ | refine EK.skip ?_ | refine EK.block ?_ | refine ER.move rfl rfl rfl ?_ | refine ER.nilCheck rfl rfl rfl ?_ | refine ER.fieldAddr rfl rfl rfl ?_ | refine ER.pickT rfl rfl rfl rfl ?_ | refine ER.cmpT rfl rfl rfl rfl rfl (by first | (dsimp only [cmpP]; omega) | exact rfl | exact Int.le_refl _) ?_ | refine ER.len1 rfl rfl rfl ?_ | refine ER.indexSl rfl rfl rfl rfl (by omega) (by omega) ?_ | refine EK.condT rfl ?_ | refine ER.load1 rfl rfl rfl (by assumption) ?_))
      refine ER.store1 rfl rfl rfl ⟨nofun, nofun⟩ ⟨_, cT⟩ (fT _) (fun x => x) ?_
      have I2 := I.setT (j := j) (t := i) hjl
      have row2 := hset_ne h2 ⟨bT, 0 + j * 1, none⟩ (.int .i64 i) (r := y) (fun e => sliceO_ne I.thr ly (by decide) bT rfl e)
      rw [ly] at row2
      have hrow2 : TJ.hrow (hset h2 ⟨bT, 0 + j * 1, none⟩ (.int .i64 i)) bL (0 + i * 8) (entL (nums R.log) e) := by
        obtain ⟨bL', ea, hrow2, -⟩ := slice_row (entL_len (nums R.log)) (m.log.upd I2.up (fun _ _ x => x)) he
        injection ea with ea
        injection ea with ea
        subst ea
        exact hrow2
      change ER _ _ _ _ _ _ _ _ _ _ (hset h2 ⟨bT, 0 + j * 1, none⟩ (.int .i64 i)) _ _
      have U2 : Upd (fun b => blk (.slice (some ⟨bT, 0, none⟩) thr.length kT) = some b) h (hset h2 ⟨bT, 0 + j * 1, none⟩ (.int .i64 i)) := upd_then (u1.mono (fun _ _ x => x.elim)) (Upd.hset (T := fun b => blk (.slice (some ⟨bT, 0, none⟩) thr.length kT) = some b) _ _ _ rfl) (fun _ _ x => x)
      generalize hset h2 ⟨bT, 0 + j * 1, none⟩ (.int .i64 i) = h3 at I2 row2 hrow2 U2 ⊢
      clear I c9 c2 ly cT fT hrow w0 w1 again
      have c2 : hcell h3 ⟨C, 2, none⟩ = some (.slice (some ⟨bL, 0, none⟩) R.log.length kL) := hcell_of I2.row rfl
      (repeat (first | refine EK.seq ?_ | refine EK.region ?_ | refine ER.done ?_ | refine ER.move rfl rfl rfl ?_ | refine ER.nilCheck rfl rfl rfl ?_ | refine ER.fieldAddr rfl rfl rfl ?_ | refine ER.indexSl rfl rfl rfl rfl (by omega) (by omega) ?_ | refine ER.load1 rfl rfl rfl (by assumption) ?_))
      refine ER.loadN (vs := entL (nums R.log) e) rfl rfl rfl rfl hrow2 ?_
      refine ER.storeN (vs := entL (nums R.log) e) rfl rfl rfl rfl (by simp [entL, accL, OneCell]) (acc_all rfl row2) ?_
      rw [row_set (c := [.int .i64 0, .int .i8 0, .int .i64 0, .int .i64 0, .int .i64 0, .int .i64 0, .int .i64 0, .bool false]) (vs := entL (nums R.log) e) row2 rfl]
      (repeat (first | refine ER.done ?_ | refine ER.assign rfl rfl rfl ?_ | refine EK.ret ?_))
      refine EU.retCell (vs := entL (nums R.log) e) rfl rfl rfl (hrow_block (rest := []) (by rw [List.append_nil]; exact get_set_same row2)) rfl ⟨rfl, thr.set j i, _, _, _, _, _, _, _, _, true, rfl, ⟨fun _ => alive_at hj hik he hej, fun _ => rfl⟩, fun _ => ⟨hop1, hop2, by omega, by omega⟩, by rw [List.length_set]; exact hl, ti.set hil hno, I2.other row2 hy0 _, upd_then U2 (Upd.set (T := fun b => b = y) _ _ _ rfl) (fun b hb e => by omega)⟩
    · (repeat (first | refine EK.seq ?_ | refine EK.region ?_ | refine ER.done ?_ | refine EK.skip ?_ | refine EK.block ?_ | refine EK.inBlock ?_ | refine ER.move rfl rfl rfl ?_ | refine ER.assign rfl rfl rfl ?_ | refine ER.nilCheck rfl rfl rfl ?_ | refine ER.fieldAddr rfl rfl rfl ?_ | refine ER.no rfl rfl ?_ | refine ER.pickF rfl rfl rfl rfl ?_ | refine ER.cmpT rfl rfl rfl rfl rfl (by first | (dsimp only [cmpP]; omega) | exact rfl | exact Int.le_refl _) ?_ | refine ER.cmpF rfl rfl rfl rfl rfl (by first | (dsimp only [cmpP]; omega) | exact rfl | exact Int.le_refl _) ?_ | refine ER.add (kd := .i64) rfl rfl rfl rfl (i64_in (by omega) (by omega)) ?_ | refine ER.len1 rfl rfl rfl ?_ | refine ER.indexSl rfl rfl rfl rfl (by omega) (by omega) ?_ | refine EK.condT rfl ?_ | refine EK.condF rfl ?_ | refine ER.load1 rfl rfl rfl (by assumption) ?_))
      exact EK.back (again (i + 1) _ _ (by omega) ⟨by omega, by omega, fun i' e' h1 h2 h3 => by
        by_cases e'' : i' = i
        · subst e''
          rw [he] at h3; cases h3; exact hej
        · exact hno i' e' h1 (by omega) h3, rfl, rfl⟩) ⟨rfl, rfl, rfl, rfl, trivial⟩
  · obtain rfl : i = R.log.length := by omega
    clear again hin
    (repeat (first | refine EK.seq ?_ | refine EK.region ?_ | refine ER.done ?_ | refine ER.move rfl rfl rfl ?_ | refine ER.nilCheck rfl rfl rfl ?_ | refine ER.fieldAddr rfl rfl rfl ?_ | refine ER.cmpF rfl rfl rfl rfl rfl (by first | (dsimp only [cmpP]; omega) | exact rfl | exact Int.le_refl _) ?_ | refine ER.len1 rfl rfl rfl ?_ | refine EK.condF rfl ?_ | refine EK.exit rfl ?_ | refine ER.load1 rfl rfl rfl (by assumption) ?_))
    refine EK.regionAnyL (fun h' => hcell h' ⟨C, 9, none⟩ = some (.slice (some ⟨bT, 0, none⟩) thr.length kT) /\ hcell h' ⟨C, 2, none⟩ = some (.slice aL R.log.length kL)) 12 ?_
    have hZ : _ /\ _ := And.intro c9 c2
    refine EA.tMove 0 rfl (by kernel_rfl) rfl rfl rfl rfl hZ ?_
    refine EA.tNil 1 rfl (by kernel_rfl) rfl rfl rfl rfl hZ ?_
    refine EA.tField 2 rfl (by kernel_rfl) rfl rfl rfl rfl hZ ?_
    refine EA.tLoad 3 rfl (by kernel_rfl) rfl rfl rfl rfl (fun _ hz => hz.1) hZ ?_
    refine EA.tMove 4 rfl (by kernel_rfl) rfl rfl rfl rfl hZ ?_
    refine EA.tMove 5 rfl (by kernel_rfl) rfl rfl rfl rfl hZ ?_
    refine EA.tNil 6 rfl (by kernel_rfl) rfl rfl rfl rfl hZ ?_
    refine EA.tField 7 rfl (by kernel_rfl) rfl rfl rfl rfl hZ ?_
    refine EA.tField 8 rfl (by kernel_rfl) rfl rfl rfl rfl hZ ?_
    refine EA.tLoad 9 rfl (by kernel_rfl) rfl rfl rfl rfl (fun _ hz => hz.2) hZ ?_
    refine EA.tLen1 10 rfl (by kernel_rfl) rfl rfl rfl rfl hZ ?_
    refine EA.val 11 rfl (by kernel_rfl) rfl rfl rfl (fun ρ Q X hρ hq => sem_indexSl (hρ _ _ rfl) (hρ _ _ rfl) (by omega) (by omega) hq) hZ ?_
    refine EA.unitL (h' := hset h2 ⟨bT, 0 + j * 1, none⟩ (.int .i64 R.log.length)) 12 rfl (by kernel_rfl) rfl rfl rfl (fun ρ Q X hρ hq => sem_store1 (hρ _ _ rfl) (hρ _ _ rfl) ⟨nofun, nofun⟩ ⟨_, cT⟩ (fT _) (fun x => x) hq) ?_
    refine EA.done (by kernel_rfl) ?_
    have I2 := I.setT (j := j) (t := R.log.length) hjl
    have row2 := hset_ne h2 ⟨bT, 0 + j * 1, none⟩ (.int .i64 R.log.length) (r := y) (fun e => sliceO_ne I.thr ly (by decide) bT rfl e)
    rw [ly] at row2
    have U2 : Upd (fun b => blk (.slice (some ⟨bT, 0, none⟩) thr.length kT) = some b) h (hset h2 ⟨bT, 0 + j * 1, none⟩ (.int .i64 R.log.length)) := upd_then (u1.mono (fun _ _ x => x.elim)) (Upd.hset (T := fun b => blk (.slice (some ⟨bT, 0, none⟩) thr.length kT) = some b) _ _ _ rfl) (fun _ _ x => x)
    generalize hset h2 ⟨bT, 0 + j * 1, none⟩ (.int .i64 R.log.length) = h3 at I2 row2 U2 ⊢
    clear hZ I c9 c2 ly cT fT
    have c5 : hcell h3 ⟨C, 5, none⟩ = some (.slice aV R.left.length kV) := hcell_of I2.row rfl
    (repeat (first | refine EK.seq ?_ | refine EK.region ?_ | refine ER.done ?_ | refine EK.block ?_ | refine ER.assign rfl rfl rfl ?_))
    refine EK.loopInv (fun i : Nat => [(9, .int .i64 i), (6, ptr y), (0, ptr C), (1, .int .i64 j)]) (fun i h' δ' => i <= R.left.length /\ (∀ i' q, i' < i -> R.left[i']? = some q -> q.1 ≠ j) /\ h' = h3 /\ δ' = δ2) (fun i => R.left.length - i) 0 ⟨rfl, rfl, rfl, rfl, trivial⟩ ⟨Nat.zero_le _, fun i' q h => by omega, rfl, rfl⟩ ?_
    rintro i h3 δ3 ⟨hil2, hno2, rfl, rfl⟩ again
    by_cases hin : i < R.left.length
    · obtain ⟨q, hq⟩ : ∃ q, R.left[i]? = some q := ⟨_, List.getElem?_eq_getElem hin⟩
      obtain ⟨bV, ea, hrow, hz⟩ := slice_row (leftE_len (nums R.log) R.val) (m.left.upd I2.up (fun _ _ x => x)) hq
      subst ea
      have w0 : hcell h3 ⟨bV, 0 + i * 8 + 0, none⟩ = some (.int .i64 q.1) := hrow 0 _ rfl
      obtain ⟨hqn, hqr⟩ := ok.left q (List.mem_of_getElem? hq)
      by_cases hej : q.1 = j
      · (repeat (first | refine EK.seq ?_ | refine EK.region ?_ | refine ER.done ?_ | refine EK.skip ?_ | refine EK.block ?_ | refine ER.move rfl rfl rfl ?_ | refine ER.nilCheck rfl rfl rfl ?_ | refine ER.fieldAddr rfl rfl rfl ?_ | refine ER.cmpT rfl rfl rfl rfl rfl (by first | (dsimp only [cmpP]; omega) | exact rfl | exact Int.le_refl _) ?_ | refine ER.len1 rfl rfl rfl ?_ | refine ER.indexSl rfl rfl rfl rfl (by omega) (by omega) ?_ | refine EK.condT rfl ?_ | refine ER.load1 rfl rfl rfl (by assumption) ?_))
        refine ER.loadN (vs := leftE (nums R.log) R.val q) rfl rfl rfl rfl hrow ?_
        refine ER.storeN (vs := leftE (nums R.log) R.val q) rfl rfl rfl rfl (by simp [leftE, accL, OneCell]) (acc_all rfl row2) ?_
        rw [row_set (c := [.int .i64 0, .int .i8 0, .int .i64 0, .int .i64 0, .int .i64 0, .int .i64 0, .int .i64 0, .bool false]) (vs := leftE (nums R.log) R.val q) row2 rfl]
        (repeat (first | refine ER.done ?_ | refine ER.assign rfl rfl rfl ?_ | refine EK.ret ?_))
        refine EU.retCell (vs := leftE (nums R.log) R.val q) rfl rfl rfl (hrow_block (rest := []) (by rw [List.append_nil]; exact get_set_same row2)) rfl ⟨rfl, thr.set j R.log.length, _, _, _, _, _, _, _, _, true, rfl, ⟨fun _ => mem_alive.2 ⟨hj, .inl ⟨q, List.mem_of_getElem? hq, hej⟩⟩, fun _ => rfl⟩, fun _ => ⟨hqr.op1, hqr.op2, ?_, ?_⟩, by rw [List.length_set]; exact hl, ti.set (Nat.le_refl _) hno, I2.other row2 hy0 _, upd_then U2 (Upd.set (T := fun b => b = y) _ _ _ rfl) (fun b hb e => by omega)⟩
        · split <;> omega
        · split
          · rename_i hb
            have := List.idxOf_lt_length_iff.2 hb
            omega
          · omega
      · (repeat (first | refine EK.seq ?_ | refine EK.region ?_ | refine ER.done ?_ | refine EK.skip ?_ | refine EK.block ?_ | refine EK.inBlock ?_ | refine ER.move rfl rfl rfl ?_ | refine ER.assign rfl rfl rfl ?_ | refine ER.nilCheck rfl rfl rfl ?_ | refine ER.fieldAddr rfl rfl rfl ?_ | refine ER.cmpT rfl rfl rfl rfl rfl (by first | (dsimp only [cmpP]; omega) | exact rfl | exact Int.le_refl _) ?_ | refine ER.cmpF rfl rfl rfl rfl rfl (by first | (dsimp only [cmpP]; omega) | exact rfl | exact Int.le_refl _) ?_ | refine ER.add (kd := .i64) rfl rfl rfl rfl (i64_in (by omega) (by omega)) ?_ | refine ER.len1 rfl rfl rfl ?_ | refine ER.indexSl rfl rfl rfl rfl (by omega) (by omega) ?_ | refine EK.condT rfl ?_ | refine EK.condF rfl ?_ | refine ER.load1 rfl rfl rfl (by assumption) ?_))
        exact EK.back (again (i + 1) _ _ (by omega) ⟨by omega, fun i' q' h1 h3 => by
          by_cases e'' : i' = i
          · subst e''
            rw [hq] at h3; cases h3; exact hej
          · exact hno2 i' q' (by omega) h3, rfl, rfl⟩) ⟨rfl, rfl, rfl, rfl, trivial⟩
    · obtain rfl : i = R.left.length := by omega
      clear again hin
      have hna : j ∉ R.alive k := fun hm => by
        obtain ⟨_, ⟨q, hq, e⟩ | ⟨i, e, h1, h2, h3⟩⟩ := mem_alive.1 hm
        · obtain ⟨i, hi⟩ := List.getElem?_of_mem hq
          exact hno2 i q (take_mid hi).2.2 hi e
        · exact hno i e h1 (take_mid h2).2.2 h2 h3
      (repeat (first | refine EK.seq ?_ | refine EK.region ?_ | refine ER.done ?_ | refine ER.move rfl rfl rfl ?_ | refine ER.nilCheck rfl rfl rfl ?_ | refine ER.fieldAddr rfl rfl rfl ?_ | refine ER.cmpF rfl rfl rfl rfl rfl (by first | (dsimp only [cmpP]; omega) | exact rfl | exact Int.le_refl _) ?_ | refine ER.len1 rfl rfl rfl ?_ | refine EK.condF rfl ?_ | refine EK.exit rfl ?_ | refine ER.load1 rfl rfl rfl (by assumption) ?_))
      refine ER.buildS (cells := #[.int .i64 0, .int .i8 0, .int .i64 0, .int .i64 0, .int .i64 0, .int .i64 0, .int .i64 0, .bool false]) rfl rfl rfl rfl ?_
      refine ER.storeN (vs := accL 0 0 0 0 0 0 0 false) rfl rfl rfl rfl (by simp [accL, OneCell]) (acc_all rfl row2) ?_
      rw [row_set (c := [.int .i64 0, .int .i8 0, .int .i64 0, .int .i64 0, .int .i64 0, .int .i64 0, .int .i64 0, .bool false]) (vs := accL 0 0 0 0 0 0 0 false) row2 rfl]
      (repeat (first | refine ER.done ?_ | refine ER.assign rfl rfl rfl ?_ | refine EK.ret ?_))
      exact EU.retCell (vs := accL 0 0 0 0 0 0 0 false) rfl rfl rfl (hrow_block (rest := []) (by rw [List.append_nil]; exact get_set_same row2)) rfl ⟨rfl, thr.set j R.log.length, _, _, _, _, _, _, _, _, false, rfl, ⟨fun e => (by cases e), fun e => absurd e hna⟩, fun e => (by cases e), by rw [List.length_set]; exact hl, ti.set (Nat.le_refl _) hno, I2.other row2 hy0 _, upd_then U2 (Upd.set (T := fun b => b = y) _ _ _ rfl) (fun b hb e => by omega)⟩
end
end
section
open Go Go.TJ Go.Conc Go.Proofs
def Rec.aliveP (R : Rec) (k j : Nat) : Bool := R.left.any (fun q => q.1 == j) || (R.log.drop k).any (fun e => e.thr == j)
def Rec.aliveTo (R : Rec) (k i : Nat) : List Nat := (List.range i).filter (R.aliveP k)
theorem aliveTo_yes {R : Rec} {k i : Nat} (_h : i < R.nb) (hm : i ∈ R.alive k) : R.aliveTo k (i + 1) = R.aliveTo k i ++ [i] := by
  have : R.aliveP k i = true := (List.mem_filter.1 (show i ∈ (List.range R.nb).filter (R.aliveP k) from hm)).2
  unfold Rec.aliveTo
  rw [List.range_succ, List.filter_append]
  simp [this]
theorem aliveTo_no {R : Rec} {k i : Nat} (h : i < R.nb) (hm : ¬ i ∈ R.alive k) : R.aliveTo k (i + 1) = R.aliveTo k i := by
  have : R.aliveP k i = false := by
    cases e : R.aliveP k i
    · rfl
    · exact absurd (List.mem_filter.2 ⟨List.mem_range.2 h, e⟩ : i ∈ (List.range R.nb).filter (R.aliveP k)) hm
  unfold Rec.aliveTo
  rw [List.range_succ, List.filter_append]
  simp [this]
theorem aliveTo_len {R : Rec} {k i : Nat} : (R.aliveTo k i).length <= i := by
  have := List.length_filter_le (R.aliveP k) (List.range i)
  simpa [Rec.aliveTo] using this
section
variable {Γ : Type} {main : Bool} {S : Sit Γ} {δ : Ix Γ} {h h' h0 : Hp} {R : Rec} {picks : List Int} {lL lW lY lV sP tv cv : Value} {last : Int} {C n k j : Nat} {e : Int} {X : Us} {thr : List Nat} {cl : List Int}
set_option maxHeartbeats 8000000 in
set_option maxRecDepth 8000 in
theorem able_ok (ok : RecOk X picks R) (m : RecM R picks lL lW lY lV sP h0) (I : ChkI R lL lW lY lV sP h0 C tv cv last thr cl h) (hl : thr.length = R.nb) (hcl : cl.length = (nums R.log).length) (ti : TI R k thr) (hk : k <= R.log.length) :
    CallW Try.prog main (NoS (Γ := Γ)) 149 #[ptr C, .int .i64 k] h δ (Ret fun v h' δ' => δ' = δ /\ ∃ (thr' : List Nat) (lv : Value), v = .tuple #[lv, .int .i64 (R.alive k).length] /\ SliceO h' lv 3 1 (R.alive k).length ((R.alive k).map fun (n : Nat) => Value.int .i64 (n : Int)) /\
      thr'.length = R.nb /\ TI R k thr' /\ ChkI R lL lW lY lV sP h0 C tv cv last thr' cl h' /\ Upd (fun b => blk tv = some b) h h') := by
  have hlen := ok.len
  have hmost := ok.most
  have hnb := ok.nb
  have htl : ∀ b, blk tv = some b -> b < h.size := fun b hb => I.thr.lt hb
  obtain ⟨aT, kT, eT⟩ := I.thr.val
  rw [hl] at eT
  subst eT
  have h00 := I.up.size
  refine CallW.start (n := 60) rfl rfl ?_
  (repeat (first | refine EK.seq ?_ | refine EK.region ?_ | refine ER.done ?_ | refine EK.block ?_ | refine ER.assign rfl rfl rfl ?_))
  refine EK.loopInv (fun q : Nat × Value × List Nat => [(8, .int .i64 q.1), (7, .int .i64 (R.aliveTo k q.1).length), (6, q.2.1), (0, ptr C), (1, .int .i64 k)]) (fun q h' δ' => q.1 <= R.nb /\ δ' = δ /\ q.2.2.length = R.nb /\ TI R k q.2.2 /\ ChkI R lL lW lY lV sP h0 C (.slice aT R.nb kT) cv last q.2.2 cl h' /\ SliceO h' q.2.1 3 1 (R.aliveTo k q.1).length ((R.aliveTo k q.1).map fun (n : Nat) => Value.int .i64 (n : Int)) /\ (∀ b, blk q.2.1 = some b -> h.size <= b) /\ Upd (fun b => blk (.slice aT R.nb kT) = some b) h h') (fun q => R.nb - q.1) (0, nilS, thr) ⟨rfl, rfl, rfl, rfl, rfl, trivial⟩ ⟨Nat.zero_le _, rfl, hl, ti, I, SliceO.nil, fun b hb => (by cases hb), Upd.refl _ _⟩ ?_
  clear hl ti I thr
  rintro ⟨i, lv, thr⟩ h1 δ1 ⟨hi, hδ, hl, ti, I, sl, hb, up⟩ again
  dsimp only at hi hl ti I sl hb up again hδ ⊢
  subst hδ
  have c9 : hcell h1 ⟨C, 9, none⟩ = some (.slice aT R.nb kT) := hcell_of I.row rfl
  have hal := aliveTo_len (R := R) (k := k) (i := i)
  by_cases hin : i < R.nb
  · (repeat (first | refine EK.seq ?_ | refine EK.region ?_ | refine ER.done ?_ | refine EK.skip ?_ | refine EK.block ?_ | refine ER.move rfl rfl rfl ?_ | refine ER.nilCheck rfl rfl rfl ?_ | refine ER.fieldAddr rfl rfl rfl ?_ | refine ER.cmpT rfl rfl rfl rfl rfl (by first | (dsimp only [cmpP]; omega) | exact rfl | exact Int.le_refl _) ?_ | refine ER.len1 rfl rfl rfl ?_ | refine EK.condT rfl ?_ | refine ER.load1 rfl rfl rfl (by assumption) ?_))
    refine ER.callR rfl rfl rfl rfl rfl (next_ok ok m I hl ti hin hk) ?_
    clear ti I hl c9
    rintro _ h2 δ2 ⟨rfl, thr, t, o, c, a, nw, w, x, f, b, rfl, hbi, hbp, hl, ti, I, u2⟩
    have sl2 := sl.upd u2 (fun b' hb' e => by have := htl b' e; have := hb b' hb'; omega)
    have up2 := up.trans u2
    clear sl up u2
    have es := up2.size
    obtain ⟨y, hy⟩ : ∃ y, y = h2.size := ⟨_, rfl⟩
    (repeat (first | refine ER.move rfl rfl rfl ?_ | refine ER.extract rfl rfl rfl rfl ?_ | refine ER.allocA rfl rfl ?_))
    refine ER.storeN (vs := accL t o c a nw w x f) rfl rfl rfl rfl (by simp [accL, OneCell]) (by rw [<- hy]; exact acc_all (vs := [.int .i64 0, .int .i8 0, .int .i64 0, .int .i64 0, .int .i64 0, .int .i64 0, .int .i64 0, .bool false]) rfl (by rw [hy]; exact get_push_new _ _)) ?_
    rw [hsetRow_push (c := [.int .i64 0, .int .i8 0, .int .i64 0, .int .i64 0, .int .i64 0, .int .i64 0, .int .i64 0, .bool false]) (vs := accL t o c a nw w x f) rfl]
    refine ER.gen (fun h' => ChkI R lL lW lY lV sP h0 C (.slice aT R.nb kT) cv last thr cl h' /\ SliceO h' lv 3 1 (R.aliveTo k i).length ((R.aliveTo k i).map fun (n : Nat) => Value.int .i64 (n : Int)) /\ Upd (fun b => blk (.slice aT R.nb kT) = some b) h h' /\ h'[y]? = some (accO (accL t o c a nw w x f))) ⟨I.upd0 (Upd.push _ _), sl2.upd (Upd.push (T := fun _ => False) _ _) (fun _ _ x => x), up2.trans (Upd.push _ _), by rw [hy]; exact get_push_new _ _⟩ ?_
    rw [<- hy]
    clear I sl2 up2 hy
    rintro h3 ⟨I, sl, up, ly⟩
    have y1 : hcell h3 ⟨y, 1, none⟩ = some (.int .i8 o) := hcell_of ly rfl
    have y2 : hcell h3 ⟨y, 2, none⟩ = some (.int .i64 c) := hcell_of ly rfl
    have y5 : hcell h3 ⟨y, 5, none⟩ = some (.int .i64 w) := hcell_of ly rfl
    cases b with
    | false =>
      have hna : ¬ i ∈ R.alive k := fun hm => by have := hbi.2 hm; cases this
      rw [<- aliveTo_no hin hna] at sl
      (repeat (first | refine EK.seq ?_ | refine EK.region ?_ | refine ER.done ?_ | refine ER.move rfl rfl rfl ?_ | refine ER.assign rfl rfl rfl ?_ | refine ER.notB rfl rfl rfl ?_ | refine ER.add (kd := .i64) rfl rfl rfl rfl (i64_in (by omega) (by omega)) ?_ | refine EK.condT rfl ?_ | refine EK.exit rfl ?_))
      refine EK.back (again (i + 1, lv, thr) _ _ (by dsimp only; omega) ⟨by dsimp only; omega, rfl, hl, ti, I, sl, hb, up⟩) ⟨rfl, ?_, rfl, rfl, rfl, trivial⟩
      rw [aliveTo_no hin hna]
      rfl
    | true =>
      obtain ⟨o1, o2, c1, c2⟩ := hbp rfl
      have hna : i ∈ R.alive k := hbi.1 rfl
      have sl' := sl
      obtain ⟨aA, kA, eA⟩ := sl.val
      (repeat (first | refine EK.seq ?_ | refine EK.region ?_ | refine ER.done ?_ | refine EK.skip ?_ | refine ER.move rfl rfl rfl ?_ | refine ER.assign rfl rfl rfl ?_ | refine ER.fieldAddr rfl rfl rfl ?_ | refine ER.load1 rfl rfl rfl (hcell_of (by assumption) rfl) ?_ | refine ER.notB rfl rfl rfl ?_ | refine ER.add (kd := .i64) rfl rfl rfl rfl (i64_in (by omega) (by omega)) ?_ | refine EK.condF rfl ?_))
      refine ER.cmpB (r := decide (0 <= c)) rfl rfl rfl rfl rfl rfl ?_
      refine ER.done ?_
      refine EK.join (fun _ : Unit => [(9, ptr y), (8, .int .i64 i), (7, .int .i64 ((R.aliveTo k i).length + 1 : Nat)), (6, lv), (0, ptr C), (1, .int .i64 k)]) (fun _ h' δ' => h' = h3 /\ δ' = δ2) (fun key => ?_) ?_
      · by_cases hc : 0 <= c
        · rw [decide_eq_true hc]
          obtain ⟨cc, rfl⟩ : ∃ cc : Nat, c = cc := ⟨c.toNat, by omega⟩
          obtain ⟨xx, hxx⟩ : ∃ xx, cl[cc]? = some xx := ⟨_, List.getElem?_eq_getElem (by omega)⟩
          obtain ⟨aC, kC, eC⟩ := I.cel.val
          subst eC
          obtain ⟨bC, eC, cC, -⟩ := slice_at I.cel hxx
          subst eC
          have c10 : hcell h3 ⟨C, 10, none⟩ = some (.slice (some ⟨bC, 0, none⟩) cl.length kC) := hcell_of I.row rfl
          refine EK.condT rfl ?_
          refine EK.regionAny (fun h' => h' = h3) ?_
          have hZ : h3 = h3 := rfl
          refine EA.tMove 0 rfl (by kernel_rfl) rfl rfl rfl rfl hZ ?_
          refine EA.tNil 1 rfl (by kernel_rfl) rfl rfl rfl rfl hZ ?_
          refine EA.tField 2 rfl (by kernel_rfl) rfl rfl rfl rfl hZ ?_
          refine EA.tLoad 3 rfl (by kernel_rfl) rfl rfl rfl rfl (fun _ hz => (by rw [hz]; exact c10)) hZ ?_
          refine EA.tField 4 rfl (by kernel_rfl) rfl rfl rfl rfl hZ ?_
          refine EA.tLoad 5 rfl (by kernel_rfl) rfl rfl rfl rfl (fun _ hz => (by rw [hz]; exact y2)) hZ ?_
          refine EA.tIdxS 6 rfl (by kernel_rfl) rfl rfl rfl rfl rfl (by omega) (by omega) hZ ?_
          refine EA.tLoad 7 rfl (by kernel_rfl) rfl rfl rfl rfl (fun _ hz => (by rw [hz]; exact cC)) hZ ?_
          refine EA.tAssign 8 rfl (by kernel_rfl) rfl rfl rfl rfl hZ ?_
          refine EA.done (by kernel_rfl) ?_
          exact EK.back (key () _ _ ⟨rfl, rfl⟩) ⟨rfl, rfl, rfl, rfl, rfl, rfl, trivial⟩
        · rw [decide_eq_false hc]
          refine EK.condF rfl (EK.skip ?_)
          exact EK.back (key () _ _ ⟨rfl, rfl⟩) ⟨rfl, rfl, rfl, rfl, rfl, rfl, trivial⟩
      rintro _ h3 δ2 ⟨rfl, rfl⟩
      clear y2 y5
      (repeat (first | refine EK.seq ?_ | refine EK.region ?_ | refine ER.done ?_ | refine ER.move rfl rfl rfl ?_ | refine ER.fieldAddr rfl rfl rfl ?_ | refine ER.load1 rfl rfl rfl (hcell_of (by assumption) rfl) ?_ | refine ER.no rfl rfl ?_ | refine ER.pickT rfl rfl rfl rfl ?_ | refine ER.cmpT rfl rfl rfl rfl rfl (by first | (dsimp only [cmpP]; omega) | exact rfl | exact Int.le_refl _) ?_ | refine EK.condT rfl ?_))
      refine ER.slice1 (sz := 1) (z := .int .i64 0) (cells := #[.int .i64 i]) rfl rfl rfl (by omega) (by omega) rfl rfl ?_
      refine ER.append1 (new := [.int .i64 i]) rfl rfl rfl rfl (sl.upd (Upd.push (T := fun _ => False) h3 _) (fun _ _ x => x)) (get_push_new _ _) rfl (by simp [OneCell]) (by omega) (by omega) (by rfl) (fun _ _ _ x => x) ?_
      intro s4 h4 sl4 u4 hb4
      have p4 : Upd (fun b => blk lv = some b) h3 h4 := (Upd.push (T := fun b => blk lv = some b) h3 (.cells #[.int .i64 i] 3)).trans u4
      have hlvC : ∀ b, blk lv = some b -> b ≠ C := sliceO_ne sl I.row (by decide)
      have I4 : ChkI R lL lW lY lV sP h0 C (.slice aT R.nb kT) cv last thr cl h4 := ⟨I.up.over p4 (fun b hb' => by have := hb b hb'; omega), p4.get I.row (fun e => hlvC C e rfl), I.thr.upd p4 (fun b hb' e => by have := htl b hb'; have := hb b e; omega), I.cel.upd p4 (fun b hb' e => sliceO_two sl I.cel (by decide) b e hb'), I.nC, I.nt, I.nc⟩
      have e4 : (R.aliveTo k (i + 1)).length = (R.aliveTo k i).length + 1 := by rw [aliveTo_yes hin hna, List.length_append]; rfl
      have sl5 : SliceO h4 s4 3 1 (R.aliveTo k (i + 1)).length ((R.aliveTo k (i + 1)).map fun (n : Nat) => Value.int .i64 (n : Int)) := by rw [e4, aliveTo_yes hin hna, List.map_append]; exact sl4
      have nb4 : ∀ b, blk s4 = some b -> h.size <= b := fun b hb' => by
        rcases hb4 b hb' with z | z
        · exact hb b z
        · rw [Array.size_push] at z; have := up.size; omega
      (repeat (first | refine EK.region ?_ | refine ER.done ?_ | refine EK.inBlock ?_ | refine ER.move rfl rfl rfl ?_ | refine ER.assign rfl rfl rfl ?_ | refine ER.add (kd := .i64) rfl rfl rfl rfl (i64_in (by omega) (by omega)) ?_))
      refine EK.back (again (i + 1, s4, thr) _ _ (by dsimp only; omega) ⟨by dsimp only; omega, rfl, hl, ti, I4, sl5, nb4, upd_then up p4 (fun b hb' e => by have := hb b e; omega)⟩) ⟨rfl, ?_, rfl, rfl, rfl, trivial⟩
      rw [e4]
      rfl
  · obtain rfl : i = R.nb := by omega
    clear again
    (repeat (first | refine EK.seq ?_ | refine EK.region ?_ | refine ER.done ?_ | refine ER.move rfl rfl rfl ?_ | refine ER.assign rfl rfl rfl ?_ | refine ER.nilCheck rfl rfl rfl ?_ | refine ER.fieldAddr rfl rfl rfl ?_ | refine ER.cmpF rfl rfl rfl rfl rfl (by first | (dsimp only [cmpP]; omega) | exact rfl | exact Int.le_refl _) ?_ | refine ER.len1 rfl rfl rfl ?_ | refine EK.condF rfl ?_ | refine EK.ret ?_ | refine EK.exit rfl ?_ | refine ER.load1 rfl rfl rfl (by assumption) ?_))
    exact EU.ret2 rfl rfl rfl ⟨rfl, thr, lv, rfl, sl, hl, ti, I, up⟩
set_option maxHeartbeats 8000000 in
set_option maxRecDepth 8000 in
theorem picked_ok {l went : List Nat} {lv : Value} (m : RecM R picks lL lW lY lV sP h) (hC : h[C]? = some (chkO e n lL lW lY lV sP k tv cv (lastOf went))) (hl : SliceO h lv 3 1 l.length (l.map fun (n : Nat) => Value.int .i64 (n : Int))) (hne : l ≠ []) (hlen : l.length <= 1000) (hwl : went.length <= 65536) :
    CallW Try.prog main S 150 #[ptr C, lv, .int .i64 went.length] h δ (Ret (Det (.int .i64 (pickOf picks went l)) h δ)) := by
  have hpos : 0 < l.length := List.length_pos_iff.2 hne
  obtain ⟨aP, kP, eP⟩ := m.picks.val
  rw [List.length_map] at eP
  obtain ⟨aA, kA, eA⟩ := hl.val
  subst eP eA
  have c7 : hcell h ⟨C, 7, none⟩ = some (.slice aP picks.length kP) := hcell_of hC rfl
  have c11 : hcell h ⟨C, 11, none⟩ = some (.int .i64 (lastOf went)) := hcell_of hC rfl
  refine CallW.start (n := 33) rfl rfl ?_
  by_cases hlt : went.length < picks.length
  · obtain ⟨x, hx⟩ : ∃ x, picks[went.length]? = some x := ⟨_, List.getElem?_eq_getElem hlt⟩
    obtain ⟨bP, oP, kP', e2, cP⟩ := m.picks.cell went.length (.int .i64 x) (by rw [List.getElem?_map, hx]; rfl)
    injection e2 with e2
    subst e2
    obtain ⟨q, hq, hq2, hq3⟩ := placed_mem x hne
    obtain ⟨bA, e2, cA, -⟩ := slice_at hl hq2
    subst e2
    have h3 := Int.emod_nonneg x (b := (l.length : Int)) (by omega)
    have h4 := Int.emod_lt_of_pos x (b := (l.length : Int)) (by omega)
    rw [<- hq3] at cA
    rw [show pickOf picks went l = placed x l by unfold pickOf; rw [hx]]
    (repeat (first | refine EK.seq ?_ | refine EK.region ?_ | refine ER.done ?_ | refine ER.move rfl rfl rfl ?_ | refine ER.assign rfl rfl rfl ?_ | refine ER.nilCheck rfl rfl rfl ?_ | refine ER.fieldAddr rfl rfl rfl ?_ | refine ER.load1 rfl rfl rfl (hcell_of (by assumption) rfl) ?_ | refine ER.cmpT rfl rfl rfl rfl rfl (by first | (dsimp only [cmpP]; omega) | exact rfl | exact Int.le_refl _) ?_ | refine ER.len1 rfl rfl rfl ?_ | refine ER.indexSl rfl rfl rfl rfl (by omega) (by omega) ?_ | refine EK.condT rfl ?_ | refine ER.load1 rfl rfl rfl (by assumption) ?_))
    refine ER.callD rfl rfl rfl rfl rfl (place_ok hpos hlen) ?_
    generalize x % (l.length : Int) = r at h3 h4 cA ⊢
    (repeat (first | refine ER.done ?_ | refine ER.assign rfl rfl rfl ?_ | refine ER.indexSl rfl rfl rfl rfl (by omega) (by omega) ?_ | refine EK.ret ?_ | refine ER.load1 rfl rfl rfl (by assumption) ?_))
    exact EU.ret1 rfl rfl det
  · have hx : picks[went.length]? = none := List.getElem?_eq_none (by omega)
    rw [show pickOf picks went l = roundOf l (lastOf went) by unfold pickOf; rw [hx]]
    (repeat (first | refine EK.seq ?_ | refine EK.region ?_ | refine ER.done ?_ | refine EK.skip ?_ | refine ER.move rfl rfl rfl ?_ | refine ER.assign rfl rfl rfl ?_ | refine ER.nilCheck rfl rfl rfl ?_ | refine ER.fieldAddr rfl rfl rfl ?_ | refine ER.load1 rfl rfl rfl (hcell_of (by assumption) rfl) ?_ | refine ER.cmpF rfl rfl rfl rfl rfl (by first | (dsimp only [cmpP]; omega) | exact rfl | exact Int.le_refl _) ?_ | refine ER.len1 rfl rfl rfl ?_ | refine EK.condF rfl ?_))
    refine ER.callD rfl rfl rfl rfl rfl (most_ok hl hne hlen) ?_
    (repeat (first | refine ER.done ?_ | refine ER.assign rfl rfl rfl ?_ | refine EK.ret ?_))
    exact EU.ret1 rfl rfl det
end
end
section
open Go Go.TJ Go.Conc Go.Proofs
theorem filter_rise : ∀ (m s : Nat) {l : List Nat}, l.Pairwise (· < ·) -> (∀ a, a ∈ l -> s <= a /\ a < s + m) -> (List.range' s m).filter (fun j => l.any (· == j)) = l
  | 0, s, l, h, hl => by
    cases l with
    | nil => rfl
    | cons a t => have := hl a (by simp); omega
  | m + 1, s, l, h, hl => by
    rw [List.range'_succ]
    cases l with
    | nil => simp
    | cons a t =>
      obtain ⟨h1, h2⟩ := List.pairwise_cons.1 h
      have ha := hl a (by simp)
      by_cases e : a = s
      · subst e
        rw [List.filter_cons_of_pos (by simp)]
        congr 1
        have ih := filter_rise m (a + 1) h2 (fun b hb => ⟨h1 b hb, by have := hl b (by simp [hb]); omega⟩)
        rw [<- ih]
        refine List.filter_congr fun j hj => ?_
        have hja : a ≠ j := by have := (List.mem_range'_1.1 hj).1; omega
        rw [ih]
        have : (a == j) = false := by simpa using hja
        simp [this]
      · have hs : ((a :: t).any fun x => x == s) = false := by
          refine List.any_eq_false.2 fun x hx => ?_
          have : s < x := by
            rcases List.mem_cons.1 hx with rfl | hx
            · omega
            · have := h1 x hx; omega
          simp; omega
        rw [List.filter_cons_of_neg (by rw [hs]; decide)]
        refine filter_rise m (s + 1) h fun b hb => ?_
        have hb2 := hl b hb
        rcases List.mem_cons.1 hb with rfl | hb
        · omega
        · have := h1 b hb; omega
theorem RecOk.alive_end {X : Us} {picks : List Int} {R : Rec} (ok : RecOk X picks R) : R.alive R.log.length = R.left.map (·.1) := by
  unfold Rec.alive
  rw [List.drop_eq_nil_of_le (Nat.le_refl _)]
  have := filter_rise R.nb 0 (l := R.left.map (·.1)) (List.pairwise_map.2 ok.rise) (fun a ha => by
    obtain ⟨q, hq, rfl⟩ := List.mem_map.1 ha
    have := (ok.left q hq).1
    omega)
  rw [<- List.range_eq_range'] at this
  rw [<- this]
  refine List.filter_congr fun j hj => ?_
  rw [List.any_map]
  simp
  rfl
theorem lastOf_take {l : List Ev} {k : Nat} {e : Ev} (h : l[k]? = some e) : lastOf ((l.take (k + 1)).map (·.thr)) = (e.thr : Int) := by
  rw [(take_mid h).1, List.map_append]
  unfold lastOf
  simp
section
variable {Γ : Type} {main : Bool} {S : Sit Γ} {δ : Ix Γ} {h h' h0 : Hp} {R : Rec} {picks : List Int} {lL lW lY lV sP tv cv : Value} {last : Int} {C n k j : Nat} {e : Int} {X : Us} {thr : List Nat} {cl : List Int}
theorem ChkI.setLast (I : ChkI R lL lW lY lV sP h0 C tv cv last thr cl h) (x : Int) : ChkI R lL lW lY lV sP h0 C tv cv x thr cl (hset h ⟨C, 11, none⟩ (.int .i64 x)) := by
  have e7 : hset h ⟨C, 11, none⟩ (.int .i64 x) = h.setIfInBounds C (chkO R.e R.log.length lL lW lY lV sP R.most tv cv x) := hset_block I.row _
  rw [e7]
  have u : Upd (fun b => b = C) h (h.setIfInBounds C (chkO R.e R.log.length lL lW lY lV sP R.most tv cv x)) := Upd.set _ _ _ rfl
  have := I.nC
  exact ⟨I.up.over u (fun b hb => by omega), get_set_same I.row, I.thr.upd u (sliceO_ne I.thr I.row (by decide)), I.cel.upd u (sliceO_ne I.cel I.row (by decide)), I.nC, I.nt, I.nc⟩
theorem ChkI.setC {b cap i : Nat} (I : ChkI R lL lW lY lV sP h0 C tv (.slice (some ⟨b, 0, none⟩) cl.length cap) last thr cl h) (hi : i < cl.length) (x : Int) : ChkI R lL lW lY lV sP h0 C tv (.slice (some ⟨b, 0, none⟩) cl.length cap) last thr (cl.set i x) (hset h ⟨b, 0 + i * 1, none⟩ (.int .i64 x)) := by
  have u : Upd (fun x => x = b) h (hset h ⟨b, 0 + i * 1, none⟩ (.int .i64 x)) := Upd.hset _ _ _ rfl
  have hb := I.nc b rfl
  have e1 : 0 + i * 1 = i := by omega
  refine ⟨I.up.over u (fun b' hb' => by omega), u.get I.row (fun e => sliceO_ne I.cel I.row (by decide) b rfl e.symm), I.thr.upd u (fun b' hb' e => sliceO_two I.cel I.thr (by decide) b rfl (by rw [<- e]; exact hb')), ?_, I.nC, I.nt, I.nc⟩
  have := I.cel.set (j := i) (by rw [List.length_map]; exact hi) (.int .i64 x)
  rw [e1, List.map_set, List.length_set]
  exact this
set_option maxHeartbeats 8000000 in
set_option maxRecDepth 8000 in
theorem turns_all (ok : RecOk X picks R) (m : RecM R picks lL lW lY lV sP h0) (I : ChkI R lL lW lY lV sP h0 C tv cv (-1) thr cl h) (hl : thr.length = R.nb) (hcl : cl.length = (nums R.log).length) (ti : TI R 0 thr) :
    CallW Try.prog main (NoS (Γ := Γ)) 81 #[ptr C] h δ (Ret fun v h' δ' => δ' = δ /\ v = .bool true /\ Upd (fun _ => False) h0 h') := by
  have hlen := ok.len
  have hmost := ok.most
  have hnb := ok.nb
  have h00 := I.up.size
  obtain ⟨aT, kT, eT⟩ := I.thr.val
  obtain ⟨aC, kC, eC⟩ := I.cel.val
  obtain ⟨aL, kL, eL⟩ := m.log.val
  obtain ⟨aW, kW, eW⟩ := m.went.val
  obtain ⟨aY, kY, eY⟩ := m.rdy.val
  obtain ⟨aV, kV, eV⟩ := m.left.val
  have hrd := ok.rdy
  have hwl : (R.log.map (·.thr)).length = R.log.length := List.length_map _
  rw [hl] at eT
  rw [hcl] at eC
  rw [hwl] at eW
  rw [hrd] at eY
  subst eT eC eL eW eY eV
  refine CallW.start (n := 180) rfl rfl ?_
  (repeat (first | refine EK.seq ?_ | refine EK.region ?_ | refine ER.done ?_ | refine EK.block ?_ | refine ER.assign rfl rfl rfl ?_))
  refine EK.loopInv (fun q : Nat × List Nat × List Int => [(4, .int .i64 q.1), (3, .int .i64 q.1), (0, ptr C)]) (fun q h' δ' => q.1 <= R.log.length /\ δ' = δ /\ q.2.1.length = R.nb /\ q.2.2.length = (nums R.log).length /\ TI R q.1 q.2.1 /\ ChkI R (.slice aL R.log.length kL) (.slice aW R.log.length kW) (.slice aY R.log.length kY) (.slice aV R.left.length kV) sP h0 C (.slice aT R.nb kT) (.slice aC (nums R.log).length kC) (lastOf ((R.log.take q.1).map (·.thr))) q.2.1 q.2.2 h') (fun q => R.log.length - q.1) (0, thr, cl) ⟨rfl, rfl, rfl, trivial⟩ ⟨Nat.zero_le _, rfl, hl, hcl, ti, I⟩ ?_
  clear hl hcl ti I thr cl h00
  rintro ⟨k, thr, cl⟩ h1 δ1 ⟨hk, hδ, hl, hcl, ti, I⟩ again
  dsimp only at hk hl hcl ti I again hδ ⊢
  subst hδ
  have c2 : hcell h1 ⟨C, 2, none⟩ = some (.slice aL R.log.length kL) := hcell_of I.row rfl
  by_cases hin : k < R.log.length
  · obtain ⟨e, he⟩ : ∃ e, R.log[k]? = some e := ⟨_, List.getElem?_eq_getElem hin⟩
    obtain ⟨bL, ea, hrow, -⟩ := slice_row (entL_len (nums R.log)) (m.log.upd I.up (fun _ _ x => x)) he
    subst ea
    (repeat (first | refine EK.seq ?_ | refine EK.region ?_ | refine ER.done ?_ | refine EK.skip ?_ | refine EK.block ?_ | refine ER.move rfl rfl rfl ?_ | refine ER.nilCheck rfl rfl rfl ?_ | refine ER.fieldAddr rfl rfl rfl ?_ | refine ER.cmpT rfl rfl rfl rfl rfl (by first | (dsimp only [cmpP]; omega) | exact rfl | exact Int.le_refl _) ?_ | refine ER.len1 rfl rfl rfl ?_ | refine ER.indexSl rfl rfl rfl rfl (by omega) (by omega) ?_ | refine EK.condT rfl ?_ | refine ER.load1 rfl rfl rfl (by assumption) ?_))
    refine ER.loadN (vs := entL (nums R.log) e) rfl rfl rfl rfl hrow ?_
    (repeat refine ER.allocA rfl rfl ?_)
    obtain ⟨y, hy⟩ : ∃ y, y = h1.size := ⟨_, rfl⟩
    refine ER.storeN (vs := entL (nums R.log) e) rfl rfl rfl rfl (by simp [entL, accL, OneCell]) (by rw [<- hy]; exact acc_all (vs := [.int .i64 0, .int .i8 0, .int .i64 0, .int .i64 0, .int .i64 0, .int .i64 0, .int .i64 0, .bool false]) rfl (by rw [hy]; exact get_push_new _ _)) ?_
    rw [hsetRow_push (c := [.int .i64 0, .int .i8 0, .int .i64 0, .int .i64 0, .int .i64 0, .int .i64 0, .int .i64 0, .bool false]) (vs := entL (nums R.log) e) rfl]
    refine ER.gen (fun h' => ChkI R (.slice (some ⟨bL, 0, none⟩) R.log.length kL) (.slice aW R.log.length kW) (.slice aY R.log.length kY) (.slice aV R.left.length kV) sP h0 C (.slice aT R.nb kT) (.slice aC (nums R.log).length kC) (lastOf ((R.log.take k).map (·.thr))) thr cl h' /\ h'[y]? = some (accO (entL (nums R.log) e)) /\ y < h'.size) ⟨I.upd0 (Upd.push _ _), by rw [hy]; exact get_push_new _ _, by rw [Array.size_push]; omega⟩ ?_
    rw [<- hy]
    clear I hrow c2 hy
    rintro h2 ⟨I, ly, hyl⟩
    obtain ⟨w, i1, r, cw, hr, e1, ch2⟩ := ok.chain.inv he
    have hop1 : 1 <= e.op := by rw [e1]; exact hr.op1
    have hop2 : e.op <= 5 := by rw [e1]; exact hr.op2
    have hixl : (nums R.log).idxOf e.b < (nums R.log).length := List.idxOf_lt_length_iff.2 ((nums_mem _ _).2 ⟨e, List.mem_of_getElem? he, rfl⟩)
    obtain ⟨tn1, tn2, tn3⟩ := ok.turns k e he
    have hthr : e.thr < R.nb := (mem_alive.1 tn3).1
    have htn2 : ((R.log.take k).map (·.thr)).length = k := by rw [List.length_map, List.length_take]; omega
    clear cw e1 ch2 hr
    have ea : entL (nums R.log) e = accL e.thr e.op ((nums R.log).idxOf e.b : Nat) e.arg e.new e.was e.now e.ok := rfl
    rw [ea] at ly
    generalize (nums R.log).idxOf e.b = ix at hixl ly
    have y0 : hcell h2 ⟨y, 0, none⟩ = some (.int .i64 e.thr) := hcell_of ly rfl
    have y1 : hcell h2 ⟨y, 1, none⟩ = some (.int .i8 e.op) := hcell_of ly rfl
    have c9 : hcell h2 ⟨C, 9, none⟩ = some (.slice aT R.nb kT) := hcell_of I.row rfl
    refine ER.done (EK.seq (EK.seq ?_))
    refine EK.regionAny (fun h' => h' = h2) ?_
    have hZ : h2 = h2 := rfl
    refine EA.tField 0 rfl (by kernel_rfl) rfl rfl rfl rfl hZ ?_
    refine EA.tLoad 1 rfl (by kernel_rfl) rfl rfl rfl rfl (fun _ hz => (by rw [hz]; exact y0)) hZ ?_
    refine EA.tCmpF 2 rfl (by kernel_rfl) rfl rfl rfl rfl rfl rfl (by first | (dsimp only [cmpP]; omega) | exact rfl | exact Int.le_refl _) hZ ?_
    refine EA.tMove 3 rfl (by kernel_rfl) rfl rfl rfl rfl hZ ?_
    refine EA.tField 4 rfl (by kernel_rfl) rfl rfl rfl rfl hZ ?_
    refine EA.tLoad 5 rfl (by kernel_rfl) rfl rfl rfl rfl (fun _ hz => (by rw [hz]; exact y0)) hZ ?_
    refine EA.tMove 6 rfl (by kernel_rfl) rfl rfl rfl rfl hZ ?_
    refine EA.tNil 7 rfl (by kernel_rfl) rfl rfl rfl rfl hZ ?_
    refine EA.tField 8 rfl (by kernel_rfl) rfl rfl rfl rfl hZ ?_
    refine EA.tLoad 9 rfl (by kernel_rfl) rfl rfl rfl rfl (fun _ hz => (by rw [hz]; exact c9)) hZ ?_
    refine EA.tLen1 10 rfl (by kernel_rfl) rfl rfl rfl rfl hZ ?_
    refine EA.tCmpF 11 rfl (by kernel_rfl) rfl rfl rfl rfl rfl rfl (by first | (dsimp only [cmpP]; omega) | exact rfl | exact Int.le_refl _) hZ ?_
    refine EA.tPickF 12 rfl (by kernel_rfl) rfl rfl rfl rfl rfl hZ ?_
    refine EA.done (by kernel_rfl) ?_
    clear hZ
    (repeat (first | refine EK.seq ?_ | refine EK.region ?_ | refine ER.done ?_ | refine EK.skip ?_ | refine ER.move rfl rfl rfl ?_ | refine ER.fieldAddr rfl rfl rfl ?_ | refine ER.load1 rfl rfl rfl (hcell_of (by assumption) rfl) ?_ | refine ER.cmpF rfl rfl rfl rfl rfl (by first | (dsimp only [cmpP]; omega) | exact rfl | exact Int.le_refl _) ?_ | refine EK.condF rfl ?_))
    have nyT : ¬ blk (.slice aT R.nb kT) = some y := fun hx => sliceO_ne I.thr ly (by decide) y hx rfl
    refine ER.callR rfl rfl rfl rfl rfl (able_ok ok m I hl hcl ti hk) ?_
    clear I ti hl thr y0 y1 c9
    rintro _ h3 δ2 ⟨rfl, thr, lv, rfl, sl, hl, ti, I, u3⟩
    have ly := u3.get ly nyT
    have y0 : hcell h3 ⟨y, 0, none⟩ = some (.int .i64 e.thr) := hcell_of ly rfl
    have y1 : hcell h3 ⟨y, 1, none⟩ = some (.int .i8 e.op) := hcell_of ly rfl
    have y2 : hcell h3 ⟨y, 2, none⟩ = some (.int .i64 ix) := hcell_of ly rfl
    have y6 : hcell h3 ⟨y, 6, none⟩ = some (.int .i64 e.now) := hcell_of ly rfl
    have c1 : hcell h3 ⟨C, 1, none⟩ = some (.int .i64 R.log.length) := hcell_of I.row rfl
    have c3 : hcell h3 ⟨C, 3, none⟩ = some (.slice aW R.log.length kW) := hcell_of I.row rfl
    have c4 : hcell h3 ⟨C, 4, none⟩ = some (.slice aY R.log.length kY) := hcell_of I.row rfl
    have hne : R.alive k ≠ [] := fun x => by rw [x] at tn3; cases tn3
    have hal : (R.alive k).length <= 64 := by have := aliveTo_len (R := R) (k := k) (i := R.nb); exact Nat.le_trans this hnb
    have hpos : 0 < (R.alive k).length := List.length_pos_iff.2 hne
    have m3 := m.upd I.up
    obtain ⟨bY, eY, cY, -⟩ := slice_at (l := R.rdy) (f := fun (n : Nat) => Value.int .i64 (n : Int)) m3.rdy tn1
    subst eY
    obtain ⟨bW, eW, cW, -⟩ := slice_at (l := R.log.map (·.thr)) (f := fun (n : Nat) => Value.int .i64 (n : Int)) m3.went (k := k) (q := e.thr) (by rw [List.getElem?_map, he]; rfl)
    subst eW
    have hpk := picked_ok (S := NoS (Γ := Γ)) (main := main) (δ := δ2) (went := (R.log.take k).map (·.thr)) m3 I.row sl hne (by omega) (by omega)
    rw [htn2, <- tn2] at hpk
    obtain ⟨aA, kA, eA⟩ := sl.val
    subst eA
    clear sl u3 hne m3
    (repeat (first | refine EK.seq ?_ | refine ER.done ?_ | refine ER.move rfl rfl rfl ?_ | refine ER.assign rfl rfl rfl ?_ | refine ER.extract rfl rfl rfl rfl ?_))
    refine EK.regionAny (fun h' => h' = h3) ?_
    have hZ : h3 = h3 := rfl
    refine EA.tMove 0 rfl (by kernel_rfl) rfl rfl rfl rfl hZ ?_
    refine EA.tMove 1 rfl (by kernel_rfl) rfl rfl rfl rfl hZ ?_
    refine EA.tNil 2 rfl (by kernel_rfl) rfl rfl rfl rfl hZ ?_
    refine EA.tField 3 rfl (by kernel_rfl) rfl rfl rfl rfl hZ ?_
    refine EA.tField 4 rfl (by kernel_rfl) rfl rfl rfl rfl hZ ?_
    refine EA.tLoad 5 rfl (by kernel_rfl) rfl rfl rfl rfl (fun _ hz => (by rw [hz]; exact c1)) hZ ?_
    refine EA.tCmpF 6 rfl (by kernel_rfl) rfl rfl rfl rfl rfl rfl (by first | (dsimp only [cmpP]; omega) | exact rfl | exact Int.le_refl _) hZ ?_
    refine EA.tMove 7 rfl (by kernel_rfl) rfl rfl rfl rfl hZ ?_
    refine EA.tMove 8 rfl (by kernel_rfl) rfl rfl rfl rfl hZ ?_
    refine EA.tLen1 9 rfl (by kernel_rfl) rfl rfl rfl rfl hZ ?_
    refine EA.tCmpF 10 rfl (by kernel_rfl) rfl rfl rfl rfl rfl rfl (by first | (dsimp only [cmpP]; omega) | exact rfl | exact Int.le_refl _) hZ ?_
    refine EA.tPickF 11 rfl (by kernel_rfl) rfl rfl rfl rfl rfl hZ ?_
    refine EA.tMove 12 rfl (by kernel_rfl) rfl rfl rfl rfl hZ ?_
    refine EA.tMove 13 rfl (by kernel_rfl) rfl rfl rfl rfl hZ ?_
    refine EA.tNil 14 rfl (by kernel_rfl) rfl rfl rfl rfl hZ ?_
    refine EA.tField 15 rfl (by kernel_rfl) rfl rfl rfl rfl hZ ?_
    refine EA.tField 16 rfl (by kernel_rfl) rfl rfl rfl rfl hZ ?_
    refine EA.tLoad 17 rfl (by kernel_rfl) rfl rfl rfl rfl (fun _ hz => (by rw [hz]; exact c4)) hZ ?_
    refine EA.tMove 18 rfl (by kernel_rfl) rfl rfl rfl rfl hZ ?_
    refine EA.tIdxS 19 rfl (by kernel_rfl) rfl rfl rfl rfl rfl (by omega) (by omega) hZ ?_
    refine EA.tLoad 20 rfl (by kernel_rfl) rfl rfl rfl rfl (fun _ hz => (by rw [hz]; exact cY)) hZ ?_
    refine EA.tMove 21 rfl (by kernel_rfl) rfl rfl rfl rfl hZ ?_
    refine EA.tLen1 22 rfl (by kernel_rfl) rfl rfl rfl rfl hZ ?_
    refine EA.tCmpF 23 rfl (by kernel_rfl) rfl rfl rfl rfl rfl rfl (by first | (dsimp only [cmpP]; omega) | exact rfl | exact Int.le_refl _) hZ ?_
    refine EA.tPickF 24 rfl (by kernel_rfl) rfl rfl rfl rfl rfl hZ ?_
    refine EA.tMove 25 rfl (by kernel_rfl) rfl rfl rfl rfl hZ ?_
    refine EA.tMove 26 rfl (by kernel_rfl) rfl rfl rfl rfl hZ ?_
    refine EA.tNil 27 rfl (by kernel_rfl) rfl rfl rfl rfl hZ ?_
    refine EA.tField 28 rfl (by kernel_rfl) rfl rfl rfl rfl hZ ?_
    refine EA.tField 29 rfl (by kernel_rfl) rfl rfl rfl rfl hZ ?_
    refine EA.tLoad 30 rfl (by kernel_rfl) rfl rfl rfl rfl (fun _ hz => (by rw [hz]; exact c3)) hZ ?_
    refine EA.tMove 31 rfl (by kernel_rfl) rfl rfl rfl rfl hZ ?_
    refine EA.tIdxS 32 rfl (by kernel_rfl) rfl rfl rfl rfl rfl (by omega) (by omega) hZ ?_
    refine EA.tLoad 33 rfl (by kernel_rfl) rfl rfl rfl rfl (fun _ hz => (by rw [hz]; exact cW)) hZ ?_
    refine EA.tField 34 rfl (by kernel_rfl) rfl rfl rfl rfl hZ ?_
    refine EA.tLoad 35 rfl (by kernel_rfl) rfl rfl rfl rfl (fun _ hz => (by rw [hz]; exact y0)) hZ ?_
    refine EA.tCmpF 36 rfl (by kernel_rfl) rfl rfl rfl rfl rfl rfl (by first | (dsimp only [cmpP]; omega) | exact rfl | exact Int.le_refl _) hZ ?_
    refine EA.tPickF 37 rfl (by kernel_rfl) rfl rfl rfl rfl rfl hZ ?_
    refine EA.tMove 38 rfl (by kernel_rfl) rfl rfl rfl rfl hZ ?_
    refine EA.tField 39 rfl (by kernel_rfl) rfl rfl rfl rfl hZ ?_
    refine EA.tLoad 40 rfl (by kernel_rfl) rfl rfl rfl rfl (fun _ hz => (by rw [hz]; exact y0)) hZ ?_
    refine EA.tMove 41 rfl (by kernel_rfl) rfl rfl rfl rfl hZ ?_
    refine EA.tMove 42 rfl (by kernel_rfl) rfl rfl rfl rfl hZ ?_
    refine EA.tMove 43 rfl (by kernel_rfl) rfl rfl rfl rfl hZ ?_
    refine EA.callD 44 rfl (by kernel_rfl) rfl rfl rfl rfl rfl rfl hpk hZ ?_
    refine EA.tCmpF 45 rfl (by kernel_rfl) rfl rfl rfl rfl rfl rfl (by first | (dsimp only [cmpP]; omega) | exact rfl | exact Int.le_refl _) hZ ?_
    refine EA.tPickF 46 rfl (by kernel_rfl) rfl rfl rfl rfl rfl hZ ?_
    refine EA.done (by kernel_rfl) ?_
    clear hZ hpk cY cW c1 c3 c4 y2 y6
    refine EK.condF rfl (EK.skip ?_)
    (repeat (first | refine EK.seq ?_ | refine EK.region ?_ | refine ER.move rfl rfl rfl ?_ | refine ER.nilCheck rfl rfl rfl ?_ | refine ER.fieldAddr rfl rfl rfl ?_ | refine ER.load1 rfl rfl rfl (hcell_of (by assumption) rfl) ?_))
    refine ER.store1 rfl rfl rfl ⟨nofun, nofun⟩ ⟨_, hcell_of I.row rfl⟩ (hfroz_of I.row) (fun x => x) ?_
    have I2 := I.setLast e.thr
    have ly2 : (hset h3 ⟨C, 11, none⟩ (.int .i64 e.thr))[y]? = some (accO (accL e.thr e.op ix e.arg e.new e.was e.now e.ok)) := by
      rw [hset_ne]
      · exact ly
      · intro hx
        have := I.row
        change C = y at hx
        rw [hx, ly] at this
        injection this with this
        injection this with _ this _
        revert this; decide
    change ER _ _ _ _ _ _ _ _ _ _ (hset h3 ⟨C, 11, none⟩ (.int .i64 e.thr)) _ _
    generalize hset h3 ⟨C, 11, none⟩ (.int .i64 e.thr) = h4 at I2 ly2 ⊢
    clear I ly y0 y1
    have y1 : hcell h4 ⟨y, 1, none⟩ = some (.int .i8 e.op) := hcell_of ly2 rfl
    have y2 : hcell h4 ⟨y, 2, none⟩ = some (.int .i64 ix) := hcell_of ly2 rfl
    have y6 : hcell h4 ⟨y, 6, none⟩ = some (.int .i64 e.now) := hcell_of ly2 rfl
    obtain ⟨xx, hxx⟩ : ∃ xx, cl[ix]? = some xx := ⟨_, List.getElem?_eq_getElem (by omega)⟩
    obtain ⟨bC, eC, cC, fC⟩ := slice_at I2.cel hxx
    subst eC
    have c10 : hcell h4 ⟨C, 10, none⟩ = some (.slice (some ⟨bC, 0, none⟩) (nums R.log).length kC) := hcell_of I2.row rfl
    (repeat (first | refine EK.seq ?_ | refine EK.region ?_ | refine ER.done ?_ | refine EK.skip ?_ | refine ER.move rfl rfl rfl ?_ | refine ER.assign rfl rfl rfl ?_ | refine ER.fieldAddr rfl rfl rfl ?_ | refine ER.load1 rfl rfl rfl (hcell_of (by assumption) rfl) ?_ | refine ER.no rfl rfl ?_ | refine ER.pickF rfl rfl rfl rfl ?_ | refine ER.cmpT rfl rfl rfl rfl rfl (by first | (dsimp only [cmpP]; omega) | exact rfl | exact Int.le_refl _) ?_ | refine ER.cmpF rfl rfl rfl rfl rfl (by first | (dsimp only [cmpP]; omega) | exact rfl | exact Int.le_refl _) ?_ | refine ER.add (kd := .i64) rfl rfl rfl rfl (i64_in (by omega) (by omega)) ?_ | refine EK.condT rfl ?_ | refine EK.condF rfl ?_))
    refine EK.regionAnyL (fun h' => h' = h4) 9 ?_
    have hZ : h4 = h4 := rfl
    refine EA.tMove 0 rfl (by kernel_rfl) rfl rfl rfl rfl hZ ?_
    refine EA.tNil 1 rfl (by kernel_rfl) rfl rfl rfl rfl hZ ?_
    refine EA.tField 2 rfl (by kernel_rfl) rfl rfl rfl rfl hZ ?_
    refine EA.tLoad 3 rfl (by kernel_rfl) rfl rfl rfl rfl (fun _ hz => (by rw [hz]; exact c10)) hZ ?_
    refine EA.tField 4 rfl (by kernel_rfl) rfl rfl rfl rfl hZ ?_
    refine EA.tLoad 5 rfl (by kernel_rfl) rfl rfl rfl rfl (fun _ hz => (by rw [hz]; exact y2)) hZ ?_
    refine EA.tField 6 rfl (by kernel_rfl) rfl rfl rfl rfl hZ ?_
    refine EA.tLoad 7 rfl (by kernel_rfl) rfl rfl rfl rfl (fun _ hz => (by rw [hz]; exact y6)) hZ ?_
    refine EA.val 8 rfl (by kernel_rfl) rfl rfl rfl (fun ρ Q X hρ hq => sem_indexSl (hρ _ _ rfl) (hρ _ _ rfl) (by omega) (by omega) hq) hZ ?_
    refine EA.unitL (h' := hset h4 ⟨bC, 0 + ix * 1, none⟩ (.int .i64 e.now)) 9 rfl (by kernel_rfl) rfl rfl rfl (fun ρ Q X hρ hq => sem_store1 (hρ _ _ rfl) (hρ _ _ rfl) ⟨nofun, nofun⟩ ⟨_, cC⟩ (fC _) (fun x => x) hq) ?_
    refine EA.done (by kernel_rfl) ?_
    have I3 := (hcl ▸ I2).setC (i := ix) (by omega) e.now
    rw [hcl] at I3
    (repeat (first | refine EK.region ?_ | refine ER.done ?_ | refine EK.inBlock ?_ | refine ER.move rfl rfl rfl ?_ | refine ER.assign rfl rfl rfl ?_ | refine ER.add (kd := .i64) rfl rfl rfl rfl (i64_in (by omega) (by omega)) ?_))
    refine EK.back (again (k + 1, thr, cl.set ix e.now) _ _ (by dsimp only; omega) ⟨by dsimp only; omega, rfl, hl, by dsimp only; rw [List.length_set]; exact hcl, ti.mono (by omega), by dsimp only; rw [lastOf_take he]; exact I3⟩) ⟨rfl, rfl, rfl, trivial⟩
  · obtain rfl : k = R.log.length := by omega
    clear again
    (repeat (first | refine EK.seq ?_ | refine EK.region ?_ | refine ER.done ?_ | refine ER.move rfl rfl rfl ?_ | refine ER.nilCheck rfl rfl rfl ?_ | refine ER.fieldAddr rfl rfl rfl ?_ | refine ER.cmpF rfl rfl rfl rfl rfl (by first | (dsimp only [cmpP]; omega) | exact rfl | exact Int.le_refl _) ?_ | refine ER.len1 rfl rfl rfl ?_ | refine EK.condF rfl ?_ | refine EK.exit rfl ?_ | refine ER.load1 rfl rfl rfl (by assumption) ?_))
    refine ER.callR rfl rfl rfl rfl rfl (able_ok ok m I hl hcl ti (Nat.le_refl _)) ?_
    clear I ti hl thr c2
    rintro _ h3 δ2 ⟨rfl, thr, lv, rfl, sl, hl, ti, I, u3⟩
    have hae : (R.alive R.log.length).length = R.left.length := by rw [ok.alive_end, List.length_map]
    rw [hae] at sl ⊢
    obtain ⟨aA, kA, eA⟩ := sl.val
    subst eA
    have c0 : hcell h3 ⟨C, 0, none⟩ = some (.int .i8 R.e) := hcell_of I.row rfl
    have c1 : hcell h3 ⟨C, 1, none⟩ = some (.int .i64 R.log.length) := hcell_of I.row rfl
    have c5 : hcell h3 ⟨C, 5, none⟩ = some (.slice aV R.left.length kV) := hcell_of I.row rfl
    have c8 : hcell h3 ⟨C, 8, none⟩ = some (.int .i64 R.most) := hcell_of I.row rfl
    rcases ok.how with ⟨w1, w2⟩ | ⟨w1, w2, w3⟩
    · have w3 : R.left.length = 0 := by rw [w2]; rfl
      rw [w1] at c0
      (repeat (first | refine EK.seq ?_ | refine EK.region ?_ | refine ER.done ?_ | refine ER.move rfl rfl rfl ?_ | refine ER.assign rfl rfl rfl ?_ | refine ER.nilCheck rfl rfl rfl ?_ | refine ER.fieldAddr rfl rfl rfl ?_ | refine ER.no rfl rfl ?_ | refine ER.pickT rfl rfl rfl rfl ?_ | refine ER.extract rfl rfl rfl rfl ?_ | refine ER.cmpT rfl rfl rfl rfl rfl (by first | (dsimp only [cmpP]; omega) | exact rfl | exact Int.le_refl _) ?_ | refine ER.len1 rfl rfl rfl ?_ | refine EK.condT rfl ?_ | refine EK.ret ?_ | refine ER.load1 rfl rfl rfl (by assumption) ?_))
      exact EU.ret1 rfl rfl ⟨rfl, rfl, I.up⟩
    · have w4 : 0 < R.left.length := List.length_pos_iff.2 w2
      rw [w1] at c0
      (repeat (first | refine EK.seq ?_ | refine EK.region ?_ | refine ER.done ?_ | refine EK.skip ?_ | refine ER.move rfl rfl rfl ?_ | refine ER.assign rfl rfl rfl ?_ | refine ER.nilCheck rfl rfl rfl ?_ | refine ER.fieldAddr rfl rfl rfl ?_ | refine ER.pickT rfl rfl rfl rfl ?_ | refine ER.pickF rfl rfl rfl rfl ?_ | refine ER.extract rfl rfl rfl rfl ?_ | refine ER.cmpT rfl rfl rfl rfl rfl (by first | (dsimp only [cmpP]; omega) | exact rfl | exact Int.le_refl _) ?_ | refine ER.cmpF rfl rfl rfl rfl rfl (by first | (dsimp only [cmpP]; omega) | exact rfl | exact Int.le_refl _) ?_ | refine ER.len1 rfl rfl rfl ?_ | refine EK.condF rfl ?_ | refine EK.ret ?_ | refine ER.load1 rfl rfl rfl (by assumption) ?_))
      exact EU.ret1 rfl rfl ⟨rfl, rfl, I.up⟩
end
end
section
open Go Go.TJ Go.Conc Go.Proofs
theorem sem_boxB {Γ : Type} {P : Program} {S : Sit Γ} {h : Hp} {δ : Ix Γ} {ty : TypeId} {pos : String} {af : Array Edge} {g : Option (Nat × Bool)} {t : TypeId} {x : Operand} {cs : Array Value} {ρ : Operand -> Value} {dst : Option Nat} {Q : Next -> Hp -> Ix Γ -> Prop} {X : Value -> Hp -> Ix Γ -> Prop} (hx : ρ x = .agg cs)
    (hq : Q (.value (.pointer (some ⟨h.size, 0, none⟩))) (h.push (.cells cs t)) δ) : SemW P S (execOp ρ ⟨dst, .box t x, ty, pos, af, g⟩) h δ Q X := by
  show SemW P S (Instr.box t (ρ x) >>= fun v => pure (.value v)) h δ Q X
  rw [hx]
  exact ⟨thawed, hq⟩
section
variable {Γ : Type} {main : Bool} {S : Sit Γ} {δ : Ix Γ} {h h' h0 : Hp} {R : Rec} {picks : List Int} {lL lW lY lV sP tv cv : Value} {X : Us}
theorem ChkI.appT {C : Nat} {thr : List Nat} {cl : List Int} {last : Int} {s' : Value} {h1 : Hp} (I : ChkI R lL lW lY lV sP h0 C tv cv last thr cl h) (u : Upd (fun b => blk tv = some b) h h1) (sl : SliceO h1 s' 3 1 (thr.length + 1) ((thr.map fun (n : Nat) => Value.int .i64 (n : Int)) ++ [.int .i64 0])) (hb : ∀ b, blk s' = some b -> blk tv = some b \/ h.size <= b) :
    ChkI R lL lW lY lV sP h0 C s' cv last (thr ++ [0]) cl (hset h1 ⟨C, 9, none⟩ s') := by
  have o1 := u.get I.row (fun hx => sliceO_ne I.thr I.row (by decide) C hx rfl)
  have e1 : hset h1 ⟨C, 9, none⟩ s' = h1.setIfInBounds C (chkO R.e R.log.length lL lW lY lV sP R.most s' cv last) := hset_block o1 _
  rw [e1]
  have uW : Upd (fun b => b = C) h1 (h1.setIfInBounds C (chkO R.e R.log.length lL lW lY lV sP R.most s' cv last)) := Upd.set _ _ _ rfl
  have hCl := lt_of_get I.row
  have nC := I.nC
  refine ⟨(I.up.over u (fun b hbb => I.nt b hbb)).over uW (fun b e => by omega), get_set_same o1, ?_, (I.cel.upd u (fun b hbb hx => sliceO_two I.cel I.thr (by decide) b hbb hx)).upd uW (sliceO_ne I.cel I.row (by decide)), I.nC, fun b hbb => (hb b hbb).elim (I.nt b) (fun y => Nat.le_trans I.up.size y), I.nc⟩
  have := sl.upd uW (fun b hbb => (hb b hbb).elim (sliceO_ne I.thr I.row (by decide) b) (fun y => by omega))
  rw [List.map_append, List.length_append]
  exact this
set_option maxHeartbeats 8000000 in
set_option maxRecDepth 8000 in
theorem checked_ok (ok : RecOk X picks R) (m : RecM R picks lL lW lY lV sP h) :
    CallW Try.prog main (NoS (Γ := Γ)) 19 #[.agg (repL R.e R.log.length lL lW lY lV).toArray, .int .i64 R.nb, sP, .int .i64 R.most] h δ (Ret fun v h' δ' => δ' = δ /\ v = .bool true /\ Upd (fun _ => False) h h') := by
  have hlen := ok.len
  have hmost := ok.most
  have hnb := ok.nb
  obtain ⟨aP, kP, eP⟩ := m.picks.val
  rw [List.length_map] at eP
  subst eP
  refine CallW.start (n := 41) rfl rfl ?_
  (repeat (first | refine EK.seq ?_ | refine EK.region ?_ | refine ER.done ?_ | refine ER.assign rfl rfl rfl ?_ | refine ER.boxA rfl rfl rfl ?_))
  have u0 : Upd (fun _ => False) h (h.push (.cells (repL R.e R.log.length lL lW lY lV).toArray 49)) := Upd.push _ _
  have g0 : (h.push (.cells (repL R.e R.log.length lL lW lY lV).toArray 49))[h.size]? = some (.cells (repL R.e R.log.length lL lW lY lV).toArray 49 (0, 0)) := get_push_new _ _
  generalize h.push (.cells (repL R.e R.log.length lL lW lY lV).toArray 49) = h1 at u0 g0 ⊢
  have hr1 : hrow h1 h.size 0 (repL R.e R.log.length lL lW lY lV) := hrow_block (rest := []) (by rw [List.append_nil]; exact g0)
  refine EK.regionAny (fun h' => TJ.hrow h' h.size 0 (repL R.e R.log.length lL lW lY lV)) ?_
  have hZ : TJ.hrow h1 h.size 0 (repL R.e R.log.length lL lW lY lV) := hr1
  refine EA.tLoadN (vs := repL R.e R.log.length lL lW lY lV) 0 rfl (by kernel_rfl) rfl rfl rfl rfl rfl (fun _ hz => hz) hZ ?_
  refine EA.tMove 1 rfl (by kernel_rfl) rfl rfl rfl rfl hZ ?_
  refine EA.tMove 2 rfl (by kernel_rfl) rfl rfl rfl rfl hZ ?_
  refine EA.callD 3 rfl (by kernel_rfl) rfl rfl rfl rfl rfl rfl (turns_ok hmost) hZ ?_
  refine EA.val (v := .agg (chkL R.e R.log.length lL lW lY lV (.slice aP picks.length kP) R.most nilS nilS (-1)).toArray) (h' := h1) 4 rfl (by kernel_rfl) rfl rfl rfl (fun ρ Q X hρ hq => sem_buildS hρ (by rfl) (by kernel_rfl) hq) hZ ?_
  refine EA.val (v := ptr h1.size) (h' := h1.push (chkO R.e R.log.length lL lW lY lV (.slice aP picks.length kP) R.most nilS nilS (-1))) 5 rfl (by kernel_rfl) rfl rfl rfl (fun ρ Q X hρ hq => sem_boxB (hρ _ _ rfl) hq) (fun j v hv => hcell_push (hr1 j v hv)) ?_
  have up := Upd.push (T := fun _ => False) h1 (chkO R.e R.log.length lL lW lY lV (.slice aP picks.length kP) R.most nilS nilS (-1))
  have hZ : TJ.hrow (h1.push (chkO R.e R.log.length lL lW lY lV (.slice aP picks.length kP) R.most nilS nilS (-1))) h.size 0 (repL R.e R.log.length lL lW lY lV) := fun j v hv => up.hcell (hr1 j v hv) (fun x => x)
  refine EA.tAssign 6 rfl (by kernel_rfl) rfl rfl rfl rfl hZ ?_
  refine EA.done (by kernel_rfl) ?_
  obtain ⟨C, hC⟩ : ∃ C, C = h1.size := ⟨_, rfl⟩
  have h10 : h.size <= C := by rw [hC]; exact u0.size
  (repeat (first | refine EK.seq ?_ | refine EK.region ?_ | refine ER.done ?_ | refine EK.block ?_ | refine ER.assign rfl rfl rfl ?_))
  refine EK.gen (fun h' => ChkI R lL lW lY lV (.slice aP picks.length kP) h C nilS nilS (-1) [] [] h') ⟨u0.trans up, by rw [hC]; exact get_push_new _ _, SliceO.nil, SliceO.nil, h10, fun b hb => (by cases hb), fun b hb => (by cases hb)⟩ ?_
  rw [<- hC]
  clear hZ hr1 g0 u0 up hC
  intro h2 I
  refine EK.loopInv (fun q : Nat × Value => [(10, .int .i64 q.1), (9, ptr C), (1, .int .i64 R.nb), (8, .bool false)]) (fun q h' δ' => δ' = δ /\ q.1 <= R.nb /\ ChkI R lL lW lY lV (.slice aP picks.length kP) h C q.2 nilS (-1) (List.replicate q.1 0) [] h') (fun q => R.nb - q.1) (0, nilS) ⟨rfl, rfl, rfl, rfl, trivial⟩ ⟨rfl, Nat.zero_le _, I⟩ ?_
  clear I h2
  rintro ⟨k, tv⟩ h2 δ2 ⟨hδ, hk, I⟩ again
  dsimp only at hδ hk I again ⊢
  subst hδ
  by_cases hin : k < R.nb
  · obtain ⟨aT, kT, eT⟩ := I.thr.val
    rw [List.length_replicate] at eT
    subst eT
    have c9 : hcell h2 ⟨C, 9, none⟩ = some (.slice aT k kT) := hcell_of I.row rfl
    (repeat (first | refine EK.seq ?_ | refine EK.region ?_ | refine ER.done ?_ | refine EK.skip ?_ | refine EK.block ?_ | refine ER.move rfl rfl rfl ?_ | refine ER.nilCheck rfl rfl rfl ?_ | refine ER.fieldAddr rfl rfl rfl ?_ | refine ER.cmpT rfl rfl rfl rfl rfl (by first | (dsimp only [cmpP]; omega) | exact rfl | exact Int.le_refl _) ?_ | refine EK.condT rfl ?_ | refine ER.load1 rfl rfl rfl (by assumption) ?_))
    refine ER.slice1 (sz := 1) (z := .int .i64 0) (cells := #[.int .i64 0]) rfl rfl rfl (by omega) (by omega) rfl rfl ?_
    have I1 := I.upd0 (Upd.push h2 (.cells #[.int .i64 0] 3))
    have sl1 := I1.thr
    rw [List.length_replicate] at sl1
    refine ER.append1 (new := [.int .i64 0]) rfl rfl rfl rfl sl1 (get_push_new _ _) rfl (by simp [OneCell]) (by omega) (by omega) (by rfl) (fun _ _ _ x => x) ?_
    generalize h2.push (.cells #[.int .i64 0] 3) = h3 at I1 sl1 ⊢
    intro s4 h4 sl4 u4 hb4
    have I2 := I1.appT u4 (by rw [List.length_replicate]; exact sl4) (fun b hb => (hb4 b hb).imp id (fun e => Nat.le_of_eq e.symm))
    have o5 : ∃ v, hcell h4 ⟨C, 0 + 9, none⟩ = some v /\ hfroz h4 ⟨C, 0 + 9, none⟩ = false := by
      have o1 := u4.get I1.row (fun hx => sliceO_ne I1.thr I1.row (by decide) C hx rfl)
      exact ⟨_, hcell_of o1 rfl, hfroz_of o1⟩
    obtain ⟨v5, o5, f5⟩ := o5
    obtain ⟨a4, k4, e4⟩ := sl4.val
    (repeat (first | refine ER.nilCheck rfl rfl rfl ?_ | refine ER.fieldAddr rfl rfl rfl ?_))
    refine ER.store1 rfl rfl rfl (by rw [e4]; exact ⟨nofun, nofun⟩) ⟨_, o5⟩ f5 (fun x => x) ?_
    change ER _ _ _ _ _ _ _ _ _ _ (hset h4 ⟨C, 9, none⟩ s4) _ _
    generalize hset h4 ⟨C, 9, none⟩ s4 = h5 at I2 ⊢
    clear o5 f5 sl4 u4 hb4 I1 sl1 I c9
    (repeat (first | refine EK.region ?_ | refine ER.done ?_ | refine EK.inBlock ?_ | refine ER.move rfl rfl rfl ?_ | refine ER.assign rfl rfl rfl ?_ | refine ER.add (kd := .i64) rfl rfl rfl rfl (i64_in (by omega) (by omega)) ?_))
    exact EK.back (again (k + 1, s4) _ _ (by dsimp only; omega) ⟨rfl, by dsimp only; omega, by dsimp only; rw [List.replicate_succ']; exact I2⟩) ⟨rfl, rfl, rfl, rfl, trivial⟩
  · obtain rfl : k = R.nb := by omega
    clear again hin
    have m2 := m.upd I.up
    (repeat (first | refine EK.seq ?_ | refine EK.region ?_ | refine ER.done ?_ | refine ER.move rfl rfl rfl ?_ | refine ER.cmpF rfl rfl rfl rfl rfl (by first | (dsimp only [cmpP]; omega) | exact rfl | exact Int.le_refl _) ?_ | refine EK.condF rfl ?_ | refine EK.exit rfl ?_))
    refine ER.callR rfl rfl rfl rfl rfl (memory_ok ok m2 I.row (fun hp b hb e => by
      have := m.picks.lt (fun e => hp (List.map_eq_nil_iff.1 e)) b hb
      omega)) ?_
    rintro _ h3 δ3 ⟨rfl, rfl, cv, row3, u3, sl3, nb3⟩
    have I3 : ChkI R lL lW lY lV (.slice aP picks.length kP) h C tv cv (-1) (List.replicate R.nb 0) ((nums R.log).map R.v0) h3 := by
      refine ⟨I.up.over u3 (fun b e => by omega), row3, I.thr.upd u3 (sliceO_ne I.thr I.row (by decide)), ?_, I.nC, I.nt, fun b hb => Nat.le_trans I.up.size (nb3 b hb)⟩
      rw [List.length_map, List.map_map]
      exact sl3
    clear I row3 u3 sl3 nb3 m2
    have m3 := m.upd I3.up
    (repeat (first | refine ER.move rfl rfl rfl ?_ | refine ER.notB rfl rfl rfl ?_))
    refine ER.callD rfl rfl rfl rfl rfl (shape_ok ok m3 I3.row) ?_
    (repeat (first | refine EK.seq ?_ | refine EK.region ?_ | refine ER.done ?_ | refine EK.skip ?_ | refine ER.move rfl rfl rfl ?_ | refine ER.notB rfl rfl rfl ?_ | refine ER.pickF rfl rfl rfl rfl ?_ | refine EK.condF rfl ?_))
    refine ER.callR rfl rfl rfl rfl rfl (turns_all ok m I3 (by rw [List.length_replicate]) (by rw [List.length_map]) (fun j t ht => by
      have : t = 0 := List.eq_of_mem_replicate (List.mem_of_getElem? ht)
      subst this
      exact ⟨Nat.zero_le _, fun i e h1 h2 => by omega⟩)) ?_
    rintro _ h4 δ4 ⟨rfl, rfl, u4⟩
    (repeat (first | refine ER.done ?_ | refine ER.assign rfl rfl rfl ?_ | refine EK.ret ?_))
    exact EU.ret1 rfl rfl ⟨rfl, rfl, u4⟩
end
end
section
open Go Go.TJ Go.Conc Go.Proofs
def csC (n k : Nat) : Prop := 4 <= k /\ k < 6 + n
def v1C (n : Nat) (pk tk : Int) (k : Nat) : Int := if k = 4 + n then pk else if k = 5 + n then tk else 0
def cfM (n cap : Nat) (rest : List Value) (B : Nat -> Nat) (pk tk : Int) : Mem Nat := ⟨fun k => k < 6 + n, B, fun k =>
  if k = 0 then .cells #[.slice (some ⟨B 1, 0, none⟩) n cap] 324 (0, 0)
  else if k = 1 then .cells (((List.range n).map fun j => ptr (B (4 + j))) ++ rest).toArray 220 (0, 0)
  else if k = 2 then .cells #[ptr (B (4 + n))] 328 (0, 0)
  else if k = 3 then .cells #[.int .i64 tk, ptr (B (5 + n))] 326 (0, 0)
  else cellO (v1C n pk tk k)⟩
theorem cf_tg {n cap : Nat} {rest : List Value} {B : Nat -> Nat} {pk tk : Int} : Thg (cfM n cap rest B pk tk) (csC n) (v1C n pk tk) := by
  refine ⟨fun k hk => hk.2, fun k hk => ?_, fun k hk hn => ?_⟩
  · obtain ⟨h2, -⟩ := hk
    show (if k = 0 then _ else if k = 1 then _ else if k = 2 then _ else if k = 3 then _ else cellO (v1C n pk tk k)) = _
    rw [if_neg (by omega), if_neg (by omega), if_neg (by omega), if_neg (by omega)]
  · have hk' : k < 6 + n := hk
    have : k = 0 \/ k = 1 \/ k = 2 \/ k = 3 := by
      rcases Nat.lt_or_ge k 4 with y | y
      · omega
      · exact absurd ⟨y, hk'⟩ hn
    rcases this with rfl | rfl | rfl | rfl <;> exact ⟨_, _, rfl, by decide, by decide, by decide, by decide⟩
theorem cf_th {n cap : Nat} {rest : List Value} {B : Nat -> Nat} {h : Hp} {pk tk : Int} (m : thH (cfM n cap rest B pk tk) (csC n) h) : CntH n cap rest B tk h :=
  ⟨m 0 (show 0 < 6 + n by omega) (fun x => by have := x.1; omega), m 1 (show 1 < 6 + n by omega) (fun x => by have := x.1; omega), m 2 (show 2 < 6 + n by omega) (fun x => by have := x.1; omega), m 3 (show 3 < 6 + n by omega) (fun x => by have := x.1; omega)⟩
theorem sem_makeSlice1 {Γ : Type} {P : Program} {S : Sit Γ} {h : Hp} {δ : Ix Γ} {ty : TypeId} {pos : String} {af : Array Edge} {g : Option (Nat × Bool)} {t e by_ m : Nat} {z : Value} {x y : Operand} [hinf : Inf P e 1 by_ z] [hu : Und P t (.slice e)] {ρ : Operand -> Value} {dst : Option Nat} {Q : Next -> Hp -> Ix Γ -> Prop} {X : Value -> Hp -> Ix Γ -> Prop}
    (hx : ρ x = .int .i64 m) (hy : ρ y = .int .i64 m) (hfit : by_ * m <= 140737488355328) (hm : m < 1000000000000) (hz : z.cells = #[z])
    (hq : Q (.value (.slice (some ⟨h.size, 0, none⟩) m m)) (h.push (.cells (List.replicate m z).toArray e)) δ) : SemW P S (execOp ρ ⟨dst, .makeSlice t x y, ty, pos, af, g⟩) h δ Q X := by
  show SemW P S (Instr.makeSlice t (ρ x) (ρ y) >>= fun v => pure (.value v)) h δ Q X
  rw [hx, hy]
  refine semW_bind _ _ _ _ _ _ ?_
  obtain ⟨inf, hi1, hi2, hi3, hi4⟩ := hinf.get
  have hwr : IntKind.i64.wrap ((m : Int)) = m := i64_in (by omega) (by omega)
  unfold Instr.makeSlice
  show SemW P S (underlying t >>= _) h δ _ X
  refine semW_underlying hu.out ?_
  refine semW_pureBind ?_
  refine semW_pureBind ?_
  refine semW_typeInfo hi1 ?_
  simp only [hwr, hi3]
  have hc : ¬ ((by_ : Int) * m > 2 ^ 48) := by
    have := Int.ofNat_le.mpr hfit
    rw [Int.natCast_mul] at this
    have e : (2 : Int) ^ 48 = 281474976710656 := by decide
    rw [e]
    omega
  rw [if_neg (by rw [decide_eq_false (by omega : ¬ ((m : Int) < 0)), decide_eq_false hc, decide_eq_false (by omega : ¬ ((m : Int) > m))]; decide)]
  have hroom : ∀ {Q' : Unit -> Hp -> Ix Γ -> Prop}, Q' () h δ -> SemW P S (askRoom (((m : Int)).toNat * by_)) h δ Q' X := fun {Q'} hq' => by
    unfold askRoom
    split
    · exact ⟨nofun, nofun, hq'⟩
    · exact hq'
  refine semW_bind _ _ _ _ _ _ (hroom ?_)
  refine semW_sizeOf hi1 ?_
  rw [hi2]
  have hrow : ∀ zs : Array Value, (m = 0 \/ zs = #[z]) -> Array.map (fun x => zs[x % zs.size]!) (Array.range (((m : Int)).toNat * 1)) = (List.replicate m z).toArray := fun zs hzs => by
    rcases hzs with rfl | rfl
    · simp
    · apply Array.ext'
      simp
      apply List.ext_getElem
      · simp
      · intro i h1 h2; simp [Nat.mod_one]
  split
  · refine semW_pureBind ?_
    rename_i h0
    refine ⟨thawed, ?_⟩
    rw [hrow _ (.inl (by omega))]
    exact hq
  · refine semW_zeroValue hi1 hi4 ?_
    refine semW_pureBind ?_
    refine ⟨thawed, ?_⟩
    rw [hrow _ (.inr hz)]
    exact hq
def cfB (n : Nat) (B : Nat -> Nat) (p k : Nat) (j : Nat) : Nat := if j = 2 then p + 1 else if j = 3 then k + 1 else if j = 4 + n then p else if j = 5 + n then k else B j
theorem cf_rep {n cap : Nat} {rest : List Value} {B : Nat -> Nat} {h : Hp} {pk tk : Int} {p k : Nat} (r : Rep h (cntM n cap rest B fun _ => 0)) (hp0 : h[p]? = some (cellO pk)) (hp1 : h[p + 1]? = some (.cells #[ptr p] 328 (0, 0))) (hk0 : h[k]? = some (cellO tk)) (hk1 : h[k + 1]? = some (.cells #[.int .i64 tk, ptr k] 326 (0, 0)))
    (hpk : k + 1 < p) (hlt : ∀ j, j = 0 \/ j = 1 \/ (4 <= j /\ j < 4 + n) -> B j < k) : Rep h (cfM n cap rest (cfB n B p k) pk tk) := by
  have old : ∀ j, j = 0 \/ j = 1 \/ (4 <= j /\ j < 4 + n) -> cfB n B p k j = B j := fun j hj => by
    unfold cfB
    rw [if_neg (by omega), if_neg (by omega), if_neg (by omega), if_neg (by omega)]
  have e2 : cfB n B p k 2 = p + 1 := rfl
  have e3 : cfB n B p k 3 = k + 1 := rfl
  have e4 : cfB n B p k (4 + n) = p := by unfold cfB; rw [if_neg (by omega), if_neg (by omega), if_pos rfl]
  have e5 : cfB n B p k (5 + n) = k := by unfold cfB; rw [if_neg (by omega), if_neg (by omega), if_neg (by omega), if_pos rfl]
  refine ⟨fun j hj => ?_, fun i j hi hj e => ?_⟩
  · have hj' : j < 6 + n := hj
    show h[cfB n B p k j]? = some (if j = 0 then _ else if j = 1 then _ else if j = 2 then _ else if j = 3 then _ else _)
    by_cases j0 : j = 0
    · subst j0
      rw [if_pos rfl, old 0 (by omega), old 1 (by omega)]
      exact r.has 0 (.inl rfl)
    · by_cases j1 : j = 1
      · subst j1
        rw [if_neg (by omega), if_pos rfl, old 1 (by omega)]
        have := r.has 1 (.inr (.inl rfl))
        refine this.trans ?_
        show some (Obj.cells (((List.range n).map fun j => ptr (B (4 + j))) ++ rest).toArray _ _) = _
        congr 4
        refine List.map_congr_left fun q hq => ?_
        rw [old (4 + q) (by have := List.mem_range.1 hq; omega)]
      · by_cases j2 : j = 2
        · subst j2
          rw [if_neg (by omega), if_neg (by omega), if_pos rfl, e2, e4]; exact hp1
        · by_cases j3 : j = 3
          · subst j3
            rw [if_neg (by omega), if_neg (by omega), if_neg (by omega), if_pos rfl, e3, e5]; exact hk1
          · rw [if_neg j0, if_neg j1, if_neg j2, if_neg j3]
            by_cases j4 : j = 4 + n
            · subst j4
              rw [e4, show v1C n pk tk (4 + n) = pk from if_pos rfl]; exact hp0
            · by_cases j5 : j = 5 + n
              · subst j5
                rw [e5, show v1C n pk tk (5 + n) = tk from (if_neg (by omega)).trans (if_pos rfl)]; exact hk0
              · rw [old j (by omega), show v1C n pk tk j = 0 from (if_neg j4).trans (if_neg j5)]
                have := r.has j (.inr (.inr ⟨by omega, by omega⟩))
                refine this.trans ?_
                show some (if j = 0 then _ else if j = 1 then _ else cellO 0) = _
                rw [if_neg j0, if_neg j1]
  · have hi' : i < 6 + n := hi
    have hj' : j < 6 + n := hj
    change cfB n B p k i = cfB n B p k j at e
    have val : ∀ q, q < 6 + n -> ((q = 0 \/ q = 1 \/ (4 <= q /\ q < 4 + n)) /\ cfB n B p k q = B q /\ B q < k) \/ (q = 2 /\ cfB n B p k q = p + 1) \/ (q = 3 /\ cfB n B p k q = k + 1) \/ (q = 4 + n /\ cfB n B p k q = p) \/ (q = 5 + n /\ cfB n B p k q = k) := fun q hq => by
      by_cases c : q = 0 \/ q = 1 \/ (4 <= q /\ q < 4 + n)
      · exact .inl ⟨c, old q c, hlt q c⟩
      · rcases (show q = 2 \/ q = 3 \/ q = 4 + n \/ q = 5 + n by omega) with rfl | rfl | rfl | rfl
        · exact .inr (.inl ⟨rfl, e2⟩)
        · exact .inr (.inr (.inl ⟨rfl, e3⟩))
        · exact .inr (.inr (.inr (.inl ⟨rfl, e4⟩)))
        · exact .inr (.inr (.inr (.inr ⟨rfl, e5⟩)))
    have a1 := val i hi'
    have a2 := val j hj'
    rw [e] at a1
    rcases a1 with ⟨c1, c2, c3⟩ | a1
    · rcases a2 with ⟨d1, d2, d3⟩ | a2
      · exact r.inj i j c1 d1 (by show B i = B j; omega)
      · omega
    · rcases a2 with ⟨d1, d2, d3⟩ | a2
      · omega
      · omega
section
variable {Γ : Type} {main : Bool} {S : Sit Γ} {δ : Ix Γ} {h h' : Hp} {base : Nat} {scv pv : Value} {sc : List (List GCall)} {N pk tk : Int}
set_option maxRecDepth 8000 in
set_option maxHeartbeats 8000000 in
theorem glong_ok {vp : List Value} (hs : ScrM base h scv sc) (hp : RdS h pv vp) (hpl : vp.length <= 1000000000000000) :
    CallW Try.prog main S 47 #[.agg #[.int .i64 N, .int .i64 pk, .int .i64 tk, scv, pv]] h δ (Ret fun v h' δ' => δ' = δ /\ Upd (fun _ => False) h h' /\ ∃ b, v = .bool b /\ (b = false -> sc.length <= 8 /\ (∀ l, l ∈ sc -> l.length <= 500) /\ vp.length <= 2000 /\ ∃ n : Nat, N = n /\ 1 <= n /\ n <= 64 /\ 0 <= tk)) := by
  obtain ⟨aS, kS, eS⟩ := hs.val
  obtain ⟨aP, kP, eP⟩ := hp.val
  subst eS eP
  have big1 := hs.big.1
  obtain ⟨y, hy⟩ : ∃ y, y = h.size := ⟨_, rfl⟩
  refine CallW.start (n := 57) rfl rfl ?_
  (repeat (first | refine EK.seq ?_ | refine EK.region ?_ | refine ER.done ?_ | refine EK.block ?_ | refine ER.assign rfl rfl rfl ?_ | refine ER.boxA rfl rfl rfl ?_))
  refine EK.gen (fun h' => ScrM base h' (.slice aS sc.length kS) sc /\ Upd (fun _ => False) h h' /\ h'[y]? = some (.cells #[.int .i64 N, .int .i64 pk, .int .i64 tk, .slice aS sc.length kS, .slice aP vp.length kP] 110 (0, 0))) ⟨?_, Upd.push _ _, by rw [hy]; exact get_push_new _ _⟩ ?_
  · refine ⟨hs.val, hs.big, fun i l hl => ?_⟩
    obtain ⟨b, o, k, a', k', e1, e2, e3, e4⟩ := hs.row i l hl
    refine ⟨b, o, k, a', k', e1, e2, hcell_push e3, fun j q hq => ?_⟩
    obtain ⟨b', o', f1, f2, f3⟩ := e4 j q hq
    exact ⟨b', o', f1, f2, fun j v hv => hcell_push (f3 j v hv)⟩
  rw [<- hy]
  clear hs hp hy
  rintro h1 ⟨hs, uu, gy⟩
  have y1 : hcell h1 ⟨y, 3, none⟩ = some (.slice aS sc.length kS) := hcell_of gy rfl
  refine EK.loopInv (fun q : Nat × Nat => [(4, .int .i64 q.1), (3, .int .i64 q.2), (1, ptr y)]) (fun q h' δ' => δ' = δ /\ h' = h1 /\ q.1 <= sc.length /\ q.2 <= 2000000000000000 /\ ∀ j l, j < q.1 -> sc[j]? = some l -> l.length <= q.2) (fun q => sc.length - q.1) (0, 0) ⟨rfl, rfl, rfl, trivial⟩ ⟨rfl, rfl, Nat.zero_le _, by omega, fun j l hj => by omega⟩ ?_
  rintro ⟨i, m⟩ h2 δ2 ⟨rfl, rfl, hi, hm, hno⟩ again
  dsimp only at hi hm hno again ⊢
  by_cases hin : i < sc.length
  · by_cases hm4 : m <= 500
    · obtain ⟨l, hl⟩ : ∃ l, sc[i]? = some l := ⟨_, List.getElem?_eq_getElem hin⟩
      obtain ⟨b, o, k, a', k', e1, e2, e3, e4⟩ := hs.row i l hl
      injection e1 with e1
      subst e1
      have hlb := hs.big.2 l (List.mem_of_getElem? hl)
      (repeat (first | refine EK.seq ?_ | refine EK.region ?_ | refine ER.done ?_ | refine EK.skip ?_ | refine EK.block ?_ | refine EK.inBlock ?_ | refine ER.move rfl rfl rfl ?_ | refine ER.assign rfl rfl rfl ?_ | refine ER.fieldAddr rfl rfl rfl ?_ | refine ER.load1 rfl rfl rfl (hcell_of (by assumption) rfl) ?_ | refine ER.pickT rfl rfl rfl rfl ?_ | refine ER.cmpT rfl rfl rfl rfl rfl (by first | (dsimp only [cmpP]; omega) | exact rfl | exact Int.le_refl _) ?_ | refine ER.add (kd := .i64) rfl rfl rfl rfl (i64_in (by omega) (by omega)) ?_ | refine ER.len1 rfl rfl rfl ?_ | refine ER.indexSl rfl rfl rfl rfl (by omega) (by omega) ?_ | refine EK.condT rfl ?_ | refine ER.load1 rfl rfl rfl (by assumption) ?_))
      exact EK.back (again (i + 1, m + 1 + l.length) _ _ (by dsimp only; omega) ⟨rfl, rfl, by dsimp only; omega, by dsimp only; omega, fun j l' hj hl' => by
        dsimp only at hj ⊢
        by_cases e : j = i
        · subst e; rw [hl] at hl'; cases hl'; omega
        · have := hno j l' (by omega) hl'; omega⟩) ⟨rfl, rfl, rfl, trivial⟩
    · have y2 : hcell h2 ⟨y, 4, none⟩ = some (.slice aP vp.length kP) := hcell_of gy rfl
      (repeat (first | refine EK.seq ?_ | refine EK.region ?_ | refine ER.done ?_ | refine ER.move rfl rfl rfl ?_ | refine ER.assign rfl rfl rfl ?_ | refine ER.fieldAddr rfl rfl rfl ?_ | refine ER.load1 rfl rfl rfl (hcell_of (by assumption) rfl) ?_ | refine ER.no rfl rfl ?_ | refine ER.pickT rfl rfl rfl rfl ?_ | refine ER.cmpT rfl rfl rfl rfl rfl (by first | (dsimp only [cmpP]; omega) | exact rfl | exact Int.le_refl _) ?_ | refine ER.cmpF rfl rfl rfl rfl rfl (by first | (dsimp only [cmpP]; omega) | exact rfl | exact Int.le_refl _) ?_ | refine ER.len1 rfl rfl rfl ?_ | refine EK.condF rfl ?_ | refine EK.ret ?_ | refine EK.exit rfl ?_))
      exact EU.ret1 rfl rfl ⟨rfl, uu, _, rfl, fun e => by cases e⟩
  · obtain rfl : i = sc.length := by omega
    have y2 : hcell h2 ⟨y, 4, none⟩ = some (.slice aP vp.length kP) := hcell_of gy rfl
    have y0 : hcell h2 ⟨y, 0, none⟩ = some (.int .i64 N) := hcell_of gy rfl
    clear again
    by_cases c1 : m <= 500
    · by_cases c2 : sc.length <= 8
      · by_cases c3 : vp.length <= 2000
        · have y7 : hcell h2 ⟨y, 2, none⟩ = some (.int .i64 tk) := hcell_of gy rfl
          by_cases c4 : N < 1
          · skip
            (repeat (first | refine EK.seq ?_ | refine EK.region ?_ | refine ER.done ?_ | refine ER.move rfl rfl rfl ?_ | refine ER.assign rfl rfl rfl ?_ | refine ER.fieldAddr rfl rfl rfl ?_ | refine ER.load1 rfl rfl rfl (hcell_of (by assumption) rfl) ?_ | refine ER.no rfl rfl ?_ | refine ER.pickT rfl rfl rfl rfl ?_ | refine ER.pickF rfl rfl rfl rfl ?_ | refine ER.cmpT rfl rfl rfl rfl rfl (by first | (dsimp only [cmpP]; omega) | exact rfl | exact Int.le_refl _) ?_ | refine ER.cmpF rfl rfl rfl rfl rfl (by first | (dsimp only [cmpP]; omega) | exact rfl | exact Int.le_refl _) ?_ | refine ER.len1 rfl rfl rfl ?_ | refine EK.condF rfl ?_ | refine EK.ret ?_ | refine EK.exit rfl ?_))
            exact EU.ret1 rfl rfl ⟨rfl, uu, _, rfl, fun e => by cases e⟩
          · by_cases c5 : N <= 64
            · by_cases c6 : tk < 0
              · skip
                (repeat (first | refine EK.seq ?_ | refine EK.region ?_ | refine ER.done ?_ | refine ER.move rfl rfl rfl ?_ | refine ER.assign rfl rfl rfl ?_ | refine ER.fieldAddr rfl rfl rfl ?_ | refine ER.load1 rfl rfl rfl (hcell_of (by assumption) rfl) ?_ | refine ER.no rfl rfl ?_ | refine ER.pickF rfl rfl rfl rfl ?_ | refine ER.cmpT rfl rfl rfl rfl rfl (by first | (dsimp only [cmpP]; omega) | exact rfl | exact Int.le_refl _) ?_ | refine ER.cmpF rfl rfl rfl rfl rfl (by first | (dsimp only [cmpP]; omega) | exact rfl | exact Int.le_refl _) ?_ | refine ER.len1 rfl rfl rfl ?_ | refine EK.condF rfl ?_ | refine EK.ret ?_ | refine EK.exit rfl ?_))
                exact EU.ret1 rfl rfl ⟨rfl, uu, _, rfl, fun e => by cases e⟩
              · (repeat (first | refine EK.seq ?_ | refine EK.region ?_ | refine ER.done ?_ | refine ER.move rfl rfl rfl ?_ | refine ER.assign rfl rfl rfl ?_ | refine ER.fieldAddr rfl rfl rfl ?_ | refine ER.load1 rfl rfl rfl (hcell_of (by assumption) rfl) ?_ | refine ER.no rfl rfl ?_ | refine ER.pickF rfl rfl rfl rfl ?_ | refine ER.cmpF rfl rfl rfl rfl rfl (by first | (dsimp only [cmpP]; omega) | exact rfl | exact Int.le_refl _) ?_ | refine ER.len1 rfl rfl rfl ?_ | refine EK.condF rfl ?_ | refine EK.ret ?_ | refine EK.exit rfl ?_))
                exact EU.ret1 rfl rfl ⟨rfl, uu, _, rfl, fun _ => ⟨c2, fun l hl => by
                  obtain ⟨j, hj, rfl⟩ := List.mem_iff_getElem.1 hl
                  have := hno j _ hj (List.getElem?_eq_getElem hj)
                  omega, c3, N.toNat, by omega, by omega, by omega, by omega⟩⟩
            · skip
              (repeat (first | refine EK.seq ?_ | refine EK.region ?_ | refine ER.done ?_ | refine ER.move rfl rfl rfl ?_ | refine ER.assign rfl rfl rfl ?_ | refine ER.fieldAddr rfl rfl rfl ?_ | refine ER.load1 rfl rfl rfl (hcell_of (by assumption) rfl) ?_ | refine ER.no rfl rfl ?_ | refine ER.pickT rfl rfl rfl rfl ?_ | refine ER.pickF rfl rfl rfl rfl ?_ | refine ER.cmpT rfl rfl rfl rfl rfl (by first | (dsimp only [cmpP]; omega) | exact rfl | exact Int.le_refl _) ?_ | refine ER.cmpF rfl rfl rfl rfl rfl (by first | (dsimp only [cmpP]; omega) | exact rfl | exact Int.le_refl _) ?_ | refine ER.len1 rfl rfl rfl ?_ | refine EK.condF rfl ?_ | refine EK.ret ?_ | refine EK.exit rfl ?_))
              exact EU.ret1 rfl rfl ⟨rfl, uu, _, rfl, fun e => by cases e⟩
        · skip
          (repeat (first | refine EK.seq ?_ | refine EK.region ?_ | refine ER.done ?_ | refine ER.move rfl rfl rfl ?_ | refine ER.assign rfl rfl rfl ?_ | refine ER.fieldAddr rfl rfl rfl ?_ | refine ER.load1 rfl rfl rfl (hcell_of (by assumption) rfl) ?_ | refine ER.no rfl rfl ?_ | refine ER.pickT rfl rfl rfl rfl ?_ | refine ER.pickF rfl rfl rfl rfl ?_ | refine ER.cmpT rfl rfl rfl rfl rfl (by first | (dsimp only [cmpP]; omega) | exact rfl | exact Int.le_refl _) ?_ | refine ER.cmpF rfl rfl rfl rfl rfl (by first | (dsimp only [cmpP]; omega) | exact rfl | exact Int.le_refl _) ?_ | refine ER.len1 rfl rfl rfl ?_ | refine EK.condF rfl ?_ | refine EK.ret ?_ | refine EK.exit rfl ?_))
          exact EU.ret1 rfl rfl ⟨rfl, uu, _, rfl, fun e => by cases e⟩
      · skip
        (repeat (first | refine EK.seq ?_ | refine EK.region ?_ | refine ER.done ?_ | refine ER.move rfl rfl rfl ?_ | refine ER.assign rfl rfl rfl ?_ | refine ER.fieldAddr rfl rfl rfl ?_ | refine ER.load1 rfl rfl rfl (hcell_of (by assumption) rfl) ?_ | refine ER.no rfl rfl ?_ | refine ER.pickT rfl rfl rfl rfl ?_ | refine ER.pickF rfl rfl rfl rfl ?_ | refine ER.cmpT rfl rfl rfl rfl rfl (by first | (dsimp only [cmpP]; omega) | exact rfl | exact Int.le_refl _) ?_ | refine ER.cmpF rfl rfl rfl rfl rfl (by first | (dsimp only [cmpP]; omega) | exact rfl | exact Int.le_refl _) ?_ | refine ER.len1 rfl rfl rfl ?_ | refine EK.condF rfl ?_ | refine EK.ret ?_ | refine EK.exit rfl ?_))
        exact EU.ret1 rfl rfl ⟨rfl, uu, _, rfl, fun e => by cases e⟩
    · skip
      (repeat (first | refine EK.seq ?_ | refine EK.region ?_ | refine ER.done ?_ | refine ER.move rfl rfl rfl ?_ | refine ER.assign rfl rfl rfl ?_ | refine ER.fieldAddr rfl rfl rfl ?_ | refine ER.load1 rfl rfl rfl (hcell_of (by assumption) rfl) ?_ | refine ER.no rfl rfl ?_ | refine ER.pickT rfl rfl rfl rfl ?_ | refine ER.pickF rfl rfl rfl rfl ?_ | refine ER.cmpT rfl rfl rfl rfl rfl (by first | (dsimp only [cmpP]; omega) | exact rfl | exact Int.le_refl _) ?_ | refine ER.cmpF rfl rfl rfl rfl rfl (by first | (dsimp only [cmpP]; omega) | exact rfl | exact Int.le_refl _) ?_ | refine ER.len1 rfl rfl rfl ?_ | refine EK.condF rfl ?_ | refine EK.ret ?_ | refine EK.exit rfl ?_))
      exact EU.ret1 rfl rfl ⟨rfl, uu, _, rfl, fun e => by cases e⟩
theorem copy_ok {vs : List Value} {sv : Value} (hs : RdS h sv vs) (hl : vs.length <= 2000) : CallW Try.prog main S 18 #[sv] h δ (Ret fun v h' δ' => δ' = δ /\ SliceO h' v 3 1 vs.length vs /\ Upd (fun _ => False) h h' /\ ∀ b, blk v = some b -> b = h.size) := by
  refine CallW.start (n := 7) rfl rfl ?_
  (repeat (first | refine EK.seq ?_ | refine EK.region ?_ | refine ER.done ?_ | refine ER.move rfl rfl rfl ?_ | refine ER.assign rfl rfl rfl ?_))
  refine ER.appendNil rfl rfl rfl rfl hs (by omega) (by omega) rfl ?_
  intro s' h' sl u hb
  (repeat (first | refine ER.done ?_ | refine ER.assign rfl rfl rfl ?_ | refine EK.ret ?_))
  exact EU.ret1 rfl rfl ⟨rfl, sl, u, hb⟩
end
end
section
open Go Go.TJ Go.Conc Go.Proofs
section
variable {Γ : Type} {main : Bool} {S : Sit Γ} {δ : Ix Γ} {h h' : Hp} {base : Nat} {scv pv : Value} {sc : List (List GCall)} {N pk tk : Int}
set_option maxRecDepth 8000 in
set_option maxHeartbeats 4000000 in
theorem gnew_ok {n : Nat} (hn1 : 1 <= n) (hn : n <= 64) (htk : 0 <= tk) {a : Option Addr} {k : Nat} (hsl : sc.length <= 8) :
    CallW Try.prog main (NoS (Γ := Γ)) 48 #[.agg #[.int .i64 (n : Int), .int .i64 pk, .int .i64 tk, .slice a sc.length k, pv]] h δ (Ret fun v h' δ' => δ' = δ /\ Upd (fun _ => False) h h' /\ ∃ (S0 T cap : Nat) (rest : List Value) (B : Nat -> Nat), v = ptr S0 /\
      h'[S0]? = some (stgO (B 0) (B 2) (B 3) T sc.length (0, pk, 0, false)) /\ h'[T]? = some (.cells (List.replicate sc.length nilS).toArray 120 (0, 0)) /\
      Rep h' (cfM n cap rest B pk tk) /\ (∀ k, (cfM n cap rest B pk tk).ok k -> h.size <= (cfM n cap rest B pk tk).B k) /\ h.size <= S0 /\ h.size <= T) := by
  refine CallW.start (n := 59) rfl rfl ?_
  have gp0 := get_push_new h (.cells #[.int .i64 (n : Int), .int .i64 pk, .int .i64 tk, .slice a sc.length k, pv] 110)
  (repeat (first | refine EK.seq ?_ | refine EK.region ?_ | refine ER.done ?_ | refine ER.assign rfl rfl rfl ?_ | refine ER.fieldAddr rfl rfl rfl ?_ | refine ER.load1 rfl rfl rfl (hcell_of (by assumption) rfl) ?_ | refine ER.boxA rfl rfl rfl ?_))
  refine ER.callR rfl rfl rfl rfl rfl (cntnew_ok hn1 hn (fun _ _ _ x => x)) ?_
  rintro _ h2 δ2 ⟨rfl, u2, cap, rest, B, rfl, r2, ab⟩
  have u02 : Upd (fun _ => False) h h2 := (Upd.push _ _).trans u2
  have gp : h2[h.size]? = some (.cells #[.int .i64 (n : Int), .int .i64 pk, .int .i64 tk, .slice a sc.length k, pv] 110 (0, 0)) := u2.get (get_push_new _ _) (fun x => x)
  have lt2 : ∀ k, k = 0 \/ k = 1 \/ (4 <= k /\ k < 4 + n) -> B k < h2.size := fun k hk => r2.lt (k := k) hk
  have ab' : ∀ k, k = 0 \/ k = 1 \/ (4 <= k /\ k < 4 + n) -> h.size <= B k := fun k hk => by have := ab k hk; rw [Array.size_push] at this; omega
  have y0 : hcell h2 ⟨h.size, 2, none⟩ = some (.int .i64 tk) := hcell_of gp rfl
  have u02' := u2
  clear ab u2 gp0
  (repeat (first | refine EK.seq ?_ | refine EK.region ?_ | refine ER.done ?_ | refine ER.move rfl rfl rfl ?_ | refine ER.assign rfl rfl rfl ?_ | refine ER.fieldAddr rfl rfl rfl ?_ | refine ER.load1 rfl rfl rfl (hcell_of (by assumption) rfl) ?_ | refine ER.extract rfl rfl rfl rfl ?_))
  refine ER.callD rfl rfl rfl rfl rfl (ticknew_ok htk (fun _ _ _ x => x)) ?_
  obtain ⟨u3, s3, k0, k1⟩ := push2 h2 (cellO tk) (.cells #[.int .i64 tk, ptr h2.size] 326)
  obtain ⟨K, hK⟩ : ∃ K, K = h2.size := ⟨_, rfl⟩
  have r3 := r2.upd0 u3
  replace gp := u3.get gp (fun x => x)
  have u03 := u02.trans u3
  rw [<- hK] at lt2 k0 k1 s3 u3 gp r3 u03 ⊢
  have hK0 : h.size < K := by have := u02.size; have := lt_of_get gp; rw [hK]; exact Nat.lt_of_lt_of_le (Nat.lt_succ_self _) (by have := u02'.size; rw [Array.size_push] at this; exact this)
  generalize (h2.push (cellO tk)).push (.cells #[.int .i64 tk, ptr K] 326) = h3 at k0 k1 s3 u3 r3 gp u03 ⊢
  clear y0 r2 u02 u02' u3
  obtain ⟨P, hP⟩ : ∃ P, P = h.size := ⟨_, rfl⟩
  rw [<- hP] at gp ⊢
  have zz : ∀ {h1 : Hp}, h1[P]? = some (.cells #[.int .i64 (n : Int), .int .i64 pk, .int .i64 tk, .slice a sc.length k, pv] 110 (0, 0)) -> hcell h1 ⟨P, 1, none⟩ = some (.int .i64 pk) /\ hcell h1 ⟨P, 3, none⟩ = some (.slice a sc.length k) := fun g => ⟨hcell_of g rfl, hcell_of g rfl⟩
  (repeat (first | refine EK.seq ?_ | refine ER.extract rfl rfl rfl rfl ?_ | refine ER.done ?_))
  (repeat (first | refine ER.move rfl rfl rfl ?_ | refine ER.assign rfl rfl rfl ?_ | refine ER.extract rfl rfl rfl rfl ?_))
  (repeat (first | refine EK.seq ?_ | refine ER.done ?_))
  refine EK.fork (fun s : Nat × Nat × Nat => [(7, ptr s.1), (6, .int .i64 0), (5, ptr (K + 1)), (4, .int .i64 0), (3, ptr (B 0))]) (fun s h' δ' => δ' = δ2 /\ Upd (fun _ => False) h h' /\ K + 1 < s.2.1 /\ Rep h' (cntM n cap rest B fun _ => 0) /\ h'[s.2.1]? = some (cellO pk) /\ h'[s.2.1 + 1]? = some (.cells #[ptr s.2.1] 328 (0, 0)) /\ h'[K]? = some (cellO tk) /\ h'[K + 1]? = some (.cells #[.int .i64 tk, ptr K] 326 (0, 0)) /\ K < s.2.2 /\ K < s.1 /\ h'[s.2.2]? = some (.cells (List.replicate sc.length nilS).toArray 120 (0, 0)) /\ h'[s.1]? = some (stgO (B 0) (s.2.1 + 1) (K + 1) s.2.2 sc.length (0, pk, 0, false))) (fun _ key => ?_) ?_
  · obtain ⟨z1, z2⟩ := zz gp
    have hK3 := lt_of_get k1
    refine EK.regionAnyL (fun h' => hcell h' ⟨P, 1, none⟩ = some (.int .i64 pk) /\ hcell h' ⟨P, 3, none⟩ = some (.slice a sc.length k)) 15 ?_
    have hZ : _ /\ _ := And.intro z1 z2
    refine EA.tMove 0 rfl (by kernel_rfl) rfl rfl rfl rfl hZ ?_
    refine EA.tMove 1 rfl (by kernel_rfl) rfl rfl rfl rfl hZ ?_
    refine EA.tField 2 rfl (by kernel_rfl) rfl rfl rfl rfl hZ ?_
    refine EA.tField 3 rfl (by kernel_rfl) rfl rfl rfl rfl hZ ?_
    refine EA.tLoad 4 rfl (by kernel_rfl) rfl rfl rfl rfl (fun _ hz => hz.1) hZ ?_
    refine EA.tField 6 rfl (by kernel_rfl) rfl rfl rfl rfl hZ ?_
    refine EA.tField 7 rfl (by kernel_rfl) rfl rfl rfl rfl hZ ?_
    refine EA.tLoad 8 rfl (by kernel_rfl) rfl rfl rfl rfl (fun _ hz => hz.1) hZ ?_
    refine EA.tField 9 rfl (by kernel_rfl) rfl rfl rfl rfl hZ ?_
    refine EA.tLoad 10 rfl (by kernel_rfl) rfl rfl rfl rfl (fun _ hz => hz.2) hZ ?_
    refine EA.tLen1 11 rfl (by kernel_rfl) rfl rfl rfl rfl hZ ?_
    refine EA.alt2 5 12 (by kernel_rfl) ?_ ?_
    · obtain ⟨u4, s4, p0, p1⟩ := push2 h3 (cellO pk) (.cells #[ptr h3.size] 328)
      have gp4 := u4.get gp (fun x => x)
      have hZ4 : _ /\ _ := And.intro (zz gp4).1 (zz gp4).2
      refine EAi.callD (i := 5) rfl rfl rfl rfl rfl rfl rfl (peaknew_ok (n := pk) (fun _ _ _ x => x)) hZ4 ?_
      have r4 := r3.upd0 u4
      have k04 := u4.get k0 (fun x => x)
      have k14 := u4.get k1 (fun x => x)
      have u04 := u03.trans u4
      clear hZ z1 z2
      obtain ⟨p, hp⟩ : ∃ p, p = h3.size := ⟨_, rfl⟩
      rw [<- hp] at p0 p1 s4 hZ4 gp4 r4 k04 k14 u04 u4 ⊢
      generalize (h3.push (cellO pk)).push (.cells #[ptr p] 328) = h4 at p0 p1 s4 hZ4 gp4 r4 k04 k14 u04 u4 ⊢
      have u5 := Upd.push (T := fun _ => False) h4 (.cells (List.replicate sc.length nilS).toArray 120)
      have gT := get_push_new h4 (.cells (List.replicate sc.length nilS).toArray 120)
      have gp5 := u5.get gp4 (fun x => x)
      have hZ5 : _ /\ _ := And.intro (zz gp5).1 (zz gp5).2
      refine EA.val (v := .slice (some ⟨h4.size, 0, none⟩) sc.length sc.length) (h' := h4.push (.cells (List.replicate sc.length nilS).toArray 120)) 12 rfl (by kernel_rfl) rfl rfl rfl (fun ρ Q X hρ hq => sem_makeSlice1 (hρ _ _ rfl) (hρ _ _ rfl) (by omega) (by omega) rfl hq) hZ5 ?_
      refine EA.val (v := .agg (stgL (B 0) (p + 1) (K + 1) h4.size sc.length (0, pk, 0, false)).toArray) (h' := h4.push (.cells (List.replicate sc.length nilS).toArray 120)) 13 rfl (by kernel_rfl) rfl rfl rfl (fun ρ Q X hρ hq => sem_buildS hρ rfl rfl hq) hZ5 ?_
      have u6 := Upd.push (T := fun _ => False) (h4.push (.cells (List.replicate sc.length nilS).toArray 120)) (stgO (B 0) (p + 1) (K + 1) h4.size sc.length (0, pk, 0, false))
      have gS := get_push_new (h4.push (.cells (List.replicate sc.length nilS).toArray 120)) (stgO (B 0) (p + 1) (K + 1) h4.size sc.length (0, pk, 0, false))
      have gp6 := u6.get gp5 (fun x => x)
      have hZ : _ /\ _ := And.intro (zz gp6).1 (zz gp6).2
      refine EA.val (v := ptr (h4.push (.cells (List.replicate sc.length nilS).toArray 120)).size) (h' := (h4.push (.cells (List.replicate sc.length nilS).toArray 120)).push (stgO (B 0) (p + 1) (K + 1) h4.size sc.length (0, pk, 0, false))) 14 rfl (by kernel_rfl) rfl rfl rfl (fun ρ Q X hρ hq => sem_boxB (hρ _ _ rfl) hq) hZ ?_
      refine EA.tAssign 15 rfl (by kernel_rfl) rfl rfl rfl rfl hZ ?_
      refine EA.done (by kernel_rfl) ?_
      have hS6 : K < (h4.push (.cells (List.replicate sc.length nilS).toArray 120)).size := by rw [Array.size_push]; omega
      exact EK.back (key (_, p, h4.size) _ _ ⟨rfl, (u04.trans u5).trans u6, by dsimp only; omega, (r4.upd0 u5).upd0 u6, u6.get (u5.get p0 (fun x => x)) (fun x => x), u6.get (u5.get p1 (fun x => x)) (fun x => x), u6.get (u5.get k04 (fun x => x)) (fun x => x), u6.get (u5.get k14 (fun x => x)) (fun x => x), by dsimp only; omega, hS6, u6.get gT (fun x => x), gS⟩) ⟨rfl, rfl, rfl, rfl, rfl, trivial⟩
    · have u4 := Upd.push (T := fun _ => False) h3 (.cells (List.replicate sc.length nilS).toArray 120)
      have gT := get_push_new h3 (.cells (List.replicate sc.length nilS).toArray 120)
      have gp4 := u4.get gp (fun x => x)
      have hZ4 : _ /\ _ := And.intro (zz gp4).1 (zz gp4).2
      refine EAi.val (v := .slice (some ⟨h3.size, 0, none⟩) sc.length sc.length) (h' := h3.push (.cells (List.replicate sc.length nilS).toArray 120)) rfl rfl rfl rfl (fun ρ Q X hρ hq => sem_makeSlice1 (hρ _ _ rfl) (hρ _ _ rfl) (by omega) (by omega) rfl hq) hZ4 ?_
      have r4 := r3.upd0 u4
      have k04 := u4.get k0 (fun x => x)
      have k14 := u4.get k1 (fun x => x)
      have u04 := u03.trans u4
      have s4 : (h3.push (.cells (List.replicate sc.length nilS).toArray 120)).size = h3.size + 1 := Array.size_push _
      clear hZ z1 z2
      generalize h3.push (.cells (List.replicate sc.length nilS).toArray 120) = h4 at gT s4 hZ4 gp4 r4 k04 k14 u04 u4 ⊢
      obtain ⟨u5, s5, p0, p1⟩ := push2 h4 (cellO pk) (.cells #[ptr h4.size] 328)
      have gp5 := u5.get gp4 (fun x => x)
      have hZ5 : _ /\ _ := And.intro (zz gp5).1 (zz gp5).2
      refine EA.callD 5 rfl (by kernel_rfl) rfl rfl rfl rfl rfl rfl (peaknew_ok (n := pk) (fun _ _ _ x => x)) hZ5 ?_
      obtain ⟨p, hp⟩ : ∃ p, p = h4.size := ⟨_, rfl⟩
      rw [<- hp] at p0 p1 s5 hZ5 gp5 u5 ⊢
      generalize (h4.push (cellO pk)).push (.cells #[ptr p] 328) = h5 at p0 p1 s5 hZ5 gp5 u5 ⊢
      refine EA.val (v := .agg (stgL (B 0) (p + 1) (K + 1) h3.size sc.length (0, pk, 0, false)).toArray) (h' := h5) 13 rfl (by kernel_rfl) rfl rfl rfl (fun ρ Q X hρ hq => sem_buildS hρ rfl rfl hq) hZ5 ?_
      have u6 := Upd.push (T := fun _ => False) h5 (stgO (B 0) (p + 1) (K + 1) h3.size sc.length (0, pk, 0, false))
      have gS := get_push_new h5 (stgO (B 0) (p + 1) (K + 1) h3.size sc.length (0, pk, 0, false))
      have gp6 := u6.get gp5 (fun x => x)
      have hZ : _ /\ _ := And.intro (zz gp6).1 (zz gp6).2
      refine EA.val (v := ptr h5.size) (h' := h5.push (stgO (B 0) (p + 1) (K + 1) h3.size sc.length (0, pk, 0, false))) 14 rfl (by kernel_rfl) rfl rfl rfl (fun ρ Q X hρ hq => sem_boxB (hρ _ _ rfl) hq) hZ ?_
      refine EA.tAssign 15 rfl (by kernel_rfl) rfl rfl rfl rfl hZ ?_
      refine EA.done (by kernel_rfl) ?_
      have hS6 : K < h5.size := by omega
      exact EK.back (key (_, p, h3.size) _ _ ⟨rfl, (u04.trans u5).trans u6, by dsimp only; omega, (r4.upd0 u5).upd0 u6, u6.get p0 (fun x => x), u6.get p1 (fun x => x), u6.get (u5.get k04 (fun x => x)) (fun x => x), u6.get (u5.get k14 (fun x => x)) (fun x => x), by dsimp only; omega, hS6, u6.get (u5.get gT (fun x => x)) (fun x => x), gS⟩) ⟨rfl, rfl, rfl, rfl, rfl, trivial⟩
  · clear r3 k0 k1 gp u03 zz s3 h3
    rintro ⟨S0, p, T⟩ h4 _ ⟨rfl, u4, hpk, r4, p0, p1, k0, k1, hT, hS, gT, gS⟩
    dsimp only at hpk p0 p1 hT hS gT gS ⊢
    have cS : hcell h4 ⟨S0, 1, none⟩ = some (ptr (p + 1)) := hcell_of gS rfl
    have e2 : cfB n B p K 2 = p + 1 := rfl
    have e3 : cfB n B p K 3 = K + 1 := rfl
    have e0 : cfB n B p K 0 = B 0 := by
      unfold cfB
      rw [if_neg (by omega), if_neg (by omega), if_neg (by omega), if_neg (by omega)]
    (repeat (first | refine EK.seq ?_ | refine EK.region ?_ | refine ER.done ?_ | refine EK.skip ?_ | refine ER.move rfl rfl rfl ?_ | refine ER.assign rfl rfl rfl ?_ | refine ER.nilCheck rfl rfl rfl ?_ | refine ER.fieldAddr rfl rfl rfl ?_ | refine ER.load1 rfl rfl rfl (hcell_of (by assumption) rfl) ?_ | refine ER.eqV rfl rfl rfl rfl rfl ?_ | refine ER.pickF rfl rfl rfl rfl ?_ | refine ER.cmpF rfl rfl rfl rfl rfl (by first | (dsimp only [cmpP]; omega) | exact rfl | exact Int.le_refl _) ?_ | refine EK.condF rfl ?_ | refine EK.ret ?_))
    refine EU.ret1 rfl rfl ⟨rfl, u4, S0, T, cap, rest, cfB n B p K, rfl, by rw [e0, e2, e3]; exact gS, gT, cf_rep r4 p0 p1 k0 k1 hpk lt2, fun j hj => ?_, by omega, by omega⟩
    have hj' : j < 6 + n := hj
    show P <= cfB n B p K j
    unfold cfB
    by_cases c2 : j = 2
    · rw [if_pos c2]; omega
    · by_cases c3 : j = 3
      · rw [if_neg c2, if_pos c3]; omega
      · by_cases c4 : j = 4 + n
        · rw [if_neg c2, if_neg c3, if_pos c4]; omega
        · by_cases c5 : j = 5 + n
          · rw [if_neg c2, if_neg c3, if_neg c4, if_pos c5]; omega
          · rw [if_neg c2, if_neg c3, if_neg c4, if_neg c5]; exact hP ▸ ab' j (by omega)
end
end
end Go.Proofs.Ytcpcdnkemobneaa
