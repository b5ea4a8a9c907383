/- Steps of the walk and of the plain law (StackU to WkD). Conditions: as each lemma says. -/
import Derived.Test.YtcpcdnkemobneaaSPD
section
namespace Go.Proofs.Ytcpcdnkemobneaa
open Go Go.TJ Go.Conc Go.Proofs
section
variable {X : Us} {A : Type} {P : Nat → Pr A} {told : X.U → Nat → List A} {n : Nat} {B : Nat → Nat} {i : Nat} {γ γ' : GG X} {u : X.U} {L : List (Nat × Obj)} {h : Hp}
theorem StkH.item (s : StkH n B h) {k : Nat} (hk : k ≤ n) : hcell h ⟨B 1, 0 + k * 2, none⟩ = some (ptr (B (4 + 2 * k))) ∧ hcell h ⟨B 1, 0 + k * 2 + 1, none⟩ = some (ptr (B (5 + 2 * k))) := by
  have := itemsL_get (n := n + 1) B (i := k) (by omega)
  rw [show 0 + k * 2 = 2 * k by omega]
  exact ⟨hcell_of s.o1 (by simp only [List.getElem?_toArray]; exact this.1), hcell_of s.o1 (by simp only [List.getElem?_toArray]; exact this.2)⟩
set_option maxRecDepth 8000 in
set_option maxHeartbeats 4000000 in
theorem get_T (K : StkX X P told n B) {c f : Nat} {k : Int → Pr A} (a : AtP X P told n B i γ u L h (getP B c k f)) (hc : c = 2 ∨ c = 3) (hf : 65536 < f + (ownOf i (γ.p.acc i).log).length) {t : Nat} (ht : t = γ.p.tb i) :
    CallW Try.prog false (SitT Try.prog (PX X) (i + 1)) 94 #[ptr (B 0), ptr t, ptr (B c)] h ⟨0, γ⟩ (RetP (fun w h' δ' => ∃ (γ' : GG X) (x : Nat), δ' = ⟨0, γ'⟩ ∧ w = .int .i64 x ∧ x ≤ n ∧ Nxt X P told n B i γ u L γ' h' (k x)) (Halt X i γ.p)) := by
  subst ht
  have hn := K.hn
  refine CallW.start (n := 35) rfl rfl ?_
  (repeat (first | refine EK.seq ?_ | refine EK.region ?_ | refine ER.done ?_ | refine EK.block ?_ | refine ER.assign rfl rfl rfl ?_))
  refine EK.loopInv (fun _ : GG X × X.U × Nat => [(0, ptr (B 0)), (1, ptr (γ.p.tb i)), (2, ptr (B c))]) (fun q h' δ' => δ' = ⟨0, q.1⟩ ∧ AtP X P told n B i q.1 q.2.1 L h' (getP B c k q.2.2) ∧ Along X i γ.p q.1.p ∧ X.V i u q.2.1 ∧ (ownOf i (γ.p.acc i).log).length ≤ (ownOf i (q.1.p.acc i).log).length ∧ 65536 < q.2.2 + (ownOf i (q.1.p.acc i).log).length) (fun q => q.2.2) (γ, u, f) ⟨rfl, rfl, rfl, trivial⟩ ⟨rfl, a, Along.refl _ _, K.ok.vrefl _ _, Nat.le_refl _, hf⟩ ?_
  clear a hf
  rintro ⟨γ1, u1, f1⟩ h1 δ1 ⟨hδ, a1, al, hV, hle, hf1⟩ again
  dsimp only at a1 al hV hle hf1 again hδ ⊢
  subst hδ
  have hl1 := a1.len
  obtain ⟨f2, rfl⟩ : ∃ f2, f1 = f2 + 1 := ⟨f1 - 1, by omega⟩
  have hbc : X.isC (B c) := K.cell c (by omega) (by omega) (by omega) (by omega)
  (repeat (first | refine EK.seq ?_ | refine EK.region ?_ | refine EK.block ?_ | refine ER.move rfl rfl rfl ?_))
  refine ER.callP rfl rfl rfl rfl rfl (loadS K a1 hbc al.tb.symm) (fun _ _ _ x => x.along al) ?_
  rintro _ h2 δ2 ⟨γ2, rfl, rfl, nx2, j2⟩
  generalize hv : γ2.p.val (B c) = v at nx2 ⊢
  have hvn : v % 65536 ≤ n := by
    rw [← hv]
    rcases hc with rfl | rfl
    · exact j2.l
    · exact j2.f
  (repeat (first | refine EK.seq ?_ | refine EK.region ?_ | refine ER.done ?_ | refine ER.move rfl rfl rfl ?_ | refine ER.assign rfl rfl rfl ?_))
  refine ER.callD rfl rfl rfl rfl rfl node_ok ?_
  by_cases hz : v % 65536 = 0
  · rw [if_pos hz] at nx2
    rw [hz]
    (repeat (first | refine EK.seq ?_ | refine EK.region ?_ | refine ER.done ?_ | refine ER.move rfl rfl rfl ?_ | refine ER.assign rfl rfl rfl ?_ | refine ER.no rfl rfl ?_ | refine ER.pickT rfl rfl rfl rfl ?_ | refine ER.cmpT rfl rfl rfl rfl rfl (by first | (dsimp only [cmpP]; omega) | exact rfl | exact Int.le_refl _) ?_ | refine EK.condT rfl ?_ | refine EK.ret ?_))
    exact EU.ret1 rfl rfl ⟨γ2, 0, rfl, rfl, by omega, al.trans nx2.al, nx2.at_, K.ok.vtrans _ _ _ _ hV nx2.V, Nat.lt_of_le_of_lt hle nx2.len⟩
  · obtain ⟨kk, hk⟩ : ∃ kk : Nat, v % 65536 = kk := ⟨(v % 65536).toNat, by omega⟩
    rw [if_neg hz, hk, Int.toNat_natCast] at nx2
    rw [hk]
    have s2 := K.mem _ _ nx2.at_.thr.I
    have ci : hcell h2 ⟨B 0, 2, none⟩ = some (.slice (some ⟨B 1, 0, none⟩) (n + 1) (n + 1)) := hcell_of s2.o0 rfl
    have cn := (s2.item (k := kk) (by omega)).1
    have al2 := al.trans nx2.al
    clear s2
    (repeat (first | refine EK.seq ?_ | refine EK.region ?_ | refine ER.done ?_ | refine ER.move rfl rfl rfl ?_ | refine ER.assign rfl rfl rfl ?_ | refine ER.nilCheck rfl rfl rfl ?_ | refine ER.fieldAddr rfl rfl rfl ?_ | refine ER.cmpF rfl rfl rfl rfl rfl (by first | (dsimp only [cmpP]; omega) | exact rfl | exact Int.le_refl _) ?_ | refine ER.indexSl rfl rfl rfl rfl (by omega) (by omega) ?_ | refine ER.load1 rfl rfl rfl (by assumption) ?_))
    refine ER.callP rfl rfl rfl rfl rfl (loadS K nx2.at_ (K.cell (4 + 2 * kk) (by omega) (by omega) (by omega) (by omega)) al2.tb.symm) (fun _ _ _ x => x.along al2) ?_
    rintro _ h3 δ3 ⟨γ3, rfl, rfl, nx3, j3⟩
    obtain ⟨m1, m2⟩ := j3.x kk (by omega) (by omega)
    generalize γ3.p.val (B (4 + 2 * kk)) = m at nx3 m1 m2 ⊢
    have al3 := al2.trans nx3.al
    refine ER.callD rfl rfl rfl rfl rfl laid_ok ?_
    refine ER.callP rfl rfl rfl rfl rfl (casS K nx3.at_ hbc (.inr (.inl ⟨rfl, hc.imp (fun e => by rw [e]) (fun e => by rw [e]), by dsimp only; rw [laidZ_mod (by omega) (by omega)]; exact m2⟩)) al3.tb.symm) (fun _ _ _ x => x.along al3) ?_
    rintro _ h4 δ4 ⟨γ4, rfl, rfl, nx4, j4⟩
    have nx := (nx2.trans K.ok nx3).trans K.ok nx4
    have l2 := nx2.len
    have l3 := nx3.len
    have l4 := nx4.len
    by_cases hw : γ4.p.val (B c) = v
    · rw [if_pos hw] at nx
      rw [decide_eq_true hw]
      (repeat (first | refine EK.seq ?_ | refine EK.region ?_ | refine ER.done ?_ | refine ER.move rfl rfl rfl ?_ | refine ER.assign rfl rfl rfl ?_ | refine ER.pickF rfl rfl rfl rfl ?_ | refine EK.condT rfl ?_ | refine EK.ret ?_))
      exact EU.ret1 rfl rfl ⟨γ4, kk, rfl, rfl, by omega, al.trans nx.al, nx.at_, K.ok.vtrans _ _ _ _ hV nx.V, Nat.lt_of_le_of_lt hle nx.len⟩
    · rw [if_neg hw] at nx
      rw [decide_eq_false hw]
      (repeat (first | refine ER.done ?_ | refine EK.skip ?_ | refine EK.inBlock ?_ | refine ER.pickF rfl rfl rfl rfl ?_ | refine EK.condF rfl ?_))
      exact EK.back (again (γ4, γ4.p.u, f2) _ _ (by dsimp only; omega) ⟨rfl, nx.at_, al.trans nx.al, K.ok.vtrans _ _ _ _ hV nx.V, by dsimp only; omega, by dsimp only; omega⟩) ⟨rfl, rfl, rfl, trivial⟩
set_option maxRecDepth 8000 in
set_option maxHeartbeats 4000000 in
theorem lay_T (K : StkX X P told n B) {c f x : Nat} {k : Pr A} (a : AtP X P told n B i γ u L h (layP B c x k f)) (hc : c = 2 ∨ c = 3) (hx1 : 1 ≤ x) (hxn : x ≤ n) (hf : 65536 < f + (ownOf i (γ.p.acc i).log).length) {t : Nat} (ht : t = γ.p.tb i) :
    CallW Try.prog false (SitT Try.prog (PX X) (i + 1)) 96 #[ptr (B 0), ptr t, ptr (B c), .int .i64 x] h ⟨0, γ⟩ (RetP (fun _ h' δ' => ∃ γ' : GG X, δ' = ⟨0, γ'⟩ ∧ Nxt X P told n B i γ u L γ' h' k) (Halt X i γ.p)) := by
  subst ht
  have hn := K.hn
  refine CallW.start (n := 31) rfl rfl ?_
  (repeat refine EK.block ?_)
  refine EK.loopInv (fun _ : GG X × X.U × Nat => [(0, ptr (B 0)), (1, ptr (γ.p.tb i)), (2, ptr (B c)), (3, .int .i64 x)]) (fun q h' δ' => δ' = ⟨0, q.1⟩ ∧ AtP X P told n B i q.1 q.2.1 L h' (layP B c x k q.2.2) ∧ Along X i γ.p q.1.p ∧ X.V i u q.2.1 ∧ (ownOf i (γ.p.acc i).log).length ≤ (ownOf i (q.1.p.acc i).log).length ∧ 65536 < q.2.2 + (ownOf i (q.1.p.acc i).log).length) (fun q => q.2.2) (γ, u, f) ⟨rfl, rfl, rfl, rfl, trivial⟩ ⟨rfl, a, Along.refl _ _, K.ok.vrefl _ _, Nat.le_refl _, hf⟩ ?_
  clear a hf
  rintro ⟨γ1, u1, f1⟩ h1 δ1 ⟨hδ, a1, al, hV, hle, hf1⟩ again
  dsimp only at a1 al hV hle hf1 again hδ ⊢
  subst hδ
  have hl1 := a1.len
  obtain ⟨f2, rfl⟩ : ∃ f2, f1 = f2 + 1 := ⟨f1 - 1, by omega⟩
  have hbc : X.isC (B c) := K.cell c (by omega) (by omega) (by omega) (by omega)
  (repeat (first | refine EK.seq ?_ | refine EK.region ?_ | refine EK.block ?_ | refine ER.move rfl rfl rfl ?_))
  refine ER.callP rfl rfl rfl rfl rfl (loadS K a1 hbc al.tb.symm) (fun _ _ _ x => x.along al) ?_
  rintro _ h2 δ2 ⟨γ2, rfl, rfl, nx2, j2⟩
  generalize hv : γ2.p.val (B c) = v at nx2 ⊢
  have hvn : v % 65536 ≤ n := by
    rw [← hv]
    rcases hc with rfl | rfl
    · exact j2.l
    · exact j2.f
  have s2 := K.mem _ _ nx2.at_.thr.I
  have ci : hcell h2 ⟨B 0, 2, none⟩ = some (.slice (some ⟨B 1, 0, none⟩) (n + 1) (n + 1)) := hcell_of s2.o0 rfl
  have cn := (s2.item (k := x) hxn).1
  have al2 := al.trans nx2.al
  clear s2
  (repeat (first | refine EK.seq ?_ | refine ER.done ?_ | refine ER.assign rfl rfl rfl ?_))
  refine EK.regionAny (fun h' => hcell h' ⟨B 0, 2, none⟩ = some (.slice (some ⟨B 1, 0, none⟩) (n + 1) (n + 1)) ∧ hcell h' ⟨B 1, 0 + x * 2, none⟩ = some (ptr (B (4 + 2 * x)))) ?_
  have hZ := And.intro ci cn
  refine EA.tMove 0 rfl (by kernel_rfl) (by kernel_rfl) (by kernel_rfl) rfl rfl rfl rfl hZ ?_
  refine EA.tNil 1 rfl (by kernel_rfl) (by kernel_rfl) (by kernel_rfl) rfl rfl rfl rfl hZ ?_
  refine EA.tField 2 rfl (by kernel_rfl) (by kernel_rfl) (by kernel_rfl) rfl rfl rfl rfl hZ ?_
  refine EA.tLoad 3 rfl (by kernel_rfl) (by kernel_rfl) (by kernel_rfl) rfl rfl rfl rfl (fun _ hz => hz.1) hZ ?_
  refine EA.tMove 4 rfl (by kernel_rfl) (by kernel_rfl) (by kernel_rfl) rfl rfl rfl rfl hZ ?_
  refine EA.tIdxS 5 rfl (by kernel_rfl) (by kernel_rfl) (by kernel_rfl) rfl rfl rfl rfl rfl (by omega) (by omega) hZ ?_
  refine EA.tField 6 rfl (by kernel_rfl) (by kernel_rfl) (by kernel_rfl) rfl rfl rfl rfl hZ ?_
  refine EA.tLoad 7 rfl (by kernel_rfl) (by kernel_rfl) (by kernel_rfl) rfl rfl rfl rfl (fun _ hz => hz.2) hZ ?_
  refine EA.tMove 8 rfl (by kernel_rfl) (by kernel_rfl) (by kernel_rfl) rfl rfl rfl rfl hZ ?_
  refine EA.tMove 9 rfl (by kernel_rfl) (by kernel_rfl) (by kernel_rfl) rfl rfl rfl rfl hZ ?_
  refine EA.callD 10 rfl (by kernel_rfl) rfl rfl rfl rfl rfl rfl node_ok hZ ?_
  refine eaCallP 11 rfl (by kernel_rfl) rfl rfl rfl rfl rfl rfl (storeS K nx2.at_ (K.cell (4 + 2 * x) (by omega) (by omega) (by omega) (by omega)) (.inr (.inr (.inl ⟨rfl, x, hx1, hxn, rfl, by dsimp only; omega, by dsimp only; omega⟩))) al2.tb.symm) (fun _ _ _ x => x.along al2) ?_
  rintro _ h3 δ3 ⟨γ3, rfl, rfl, nx3, j3⟩
  have s3 := K.mem _ _ nx3.at_.thr.I
  refine ⟨⟨hcell_of s3.o0 rfl, (s3.item (k := x) hxn).1⟩, ?_⟩
  refine EA.done (by kernel_rfl) ?_
  have al3 := al2.trans nx3.al
  clear s3 ci cn hZ
  (repeat (first | refine EK.seq ?_ | refine EK.region ?_ | refine ER.move rfl rfl rfl ?_))
  refine ER.callD rfl rfl rfl rfl rfl laid_ok ?_
  refine ER.callP rfl rfl rfl rfl rfl (casS K nx3.at_ hbc (.inr (.inl ⟨rfl, hc.imp (fun e => by rw [e]) (fun e => by rw [e]), by dsimp only; rw [laidZ_mod (by omega) (by omega)]; omega⟩)) al3.tb.symm) (fun _ _ _ x => x.along al3) ?_
  rintro _ h4 δ4 ⟨γ4, rfl, rfl, nx4, j4⟩
  have nx := (nx2.trans K.ok nx3).trans K.ok nx4
  have l2 := nx2.len
  have l3 := nx3.len
  have l4 := nx4.len
  by_cases hw : γ4.p.val (B c) = v
  · rw [if_pos hw] at nx
    rw [decide_eq_true hw]
    (repeat (first | refine ER.done ?_ | refine EK.condT rfl ?_ | refine EK.ret ?_))
    exact EU.ret0 rfl ⟨γ4, rfl, al.trans nx.al, nx.at_, K.ok.vtrans _ _ _ _ hV nx.V, Nat.lt_of_le_of_lt hle nx.len⟩
  · rw [if_neg hw] at nx
    rw [decide_eq_false hw]
    (repeat (first | refine ER.done ?_ | refine EK.skip ?_ | refine EK.inBlock ?_ | refine EK.condF rfl ?_))
    exact EK.back (again (γ4, γ4.p.u, f2) _ _ (by dsimp only; omega) ⟨rfl, nx.at_, al.trans nx.al, K.ok.vtrans _ _ _ _ hV nx.V, by dsimp only; omega, by dsimp only; omega⟩) ⟨rfl, rfl, rfl, rfl, trivial⟩
set_option maxRecDepth 8000 in
set_option maxHeartbeats 4000000 in
theorem push_T (K : StkX X P told n B) {f : Nat} {v : Int} {k : Int → Pr A} (a : AtP X P told n B i γ u L h (pushP B v k f)) (hf : 65536 < f + (ownOf i (γ.p.acc i).log).length) {t : Nat} (ht : t = γ.p.tb i) :
    CallW Try.prog false (SitT Try.prog (PX X) (i + 1)) 27 #[ptr (B 0), ptr t, .int .i64 v] h ⟨0, γ⟩ (RetP (fun w h' δ' => ∃ (γ' : GG X) (e : Int), δ' = ⟨0, γ'⟩ ∧ w = .int .i64 e ∧ Nxt X P told n B i γ u L γ' h' (k e)) (Halt X i γ.p)) := by
  subst ht
  have hn := K.hn
  have s0 := K.mem _ _ a.thr.I
  have ci : hcell h ⟨B 0, 2, none⟩ = some (.slice (some ⟨B 1, 0, none⟩) (n + 1) (n + 1)) := hcell_of s0.o0 rfl
  have cf : hcell h ⟨B 0, 1, none⟩ = some (ptr (B 3)) := hcell_of s0.o0 rfl
  clear s0
  refine CallW.start (n := 47) rfl rfl ?_
  (repeat (first | refine EK.seq ?_ | refine EK.region ?_ | refine ER.done ?_ | refine EK.skip ?_ | refine ER.move rfl rfl rfl ?_ | refine ER.assign rfl rfl rfl ?_ | refine ER.nilCheck rfl rfl rfl ?_ | refine ER.fieldAddr rfl rfl rfl ?_ | refine ER.eqV rfl rfl rfl rfl rfl ?_ | refine ER.pickF rfl rfl rfl rfl ?_ | refine ER.cmpF rfl rfl rfl rfl rfl (by first | (dsimp only [cmpP]; omega) | exact rfl | exact Int.le_refl _) ?_ | refine ER.len1 rfl rfl rfl ?_ | refine EK.condF rfl ?_ | refine ER.load1 rfl rfl rfl (by assumption) ?_))
  refine ER.callP rfl rfl rfl rfl rfl (get_T K (c := 3) a (.inr rfl) hf rfl) (fun _ _ _ x => x) ?_
  rintro _ h1 δ1 ⟨γ1, x, rfl, rfl, hx, nx1⟩
  clear ci cf
  by_cases hx0 : x = 0
  · subst hx0
    (repeat (first | refine EK.seq ?_ | refine EK.region ?_ | refine ER.done ?_ | refine ER.move rfl rfl rfl ?_ | refine ER.assign rfl rfl rfl ?_ | refine ER.cmpT rfl rfl rfl rfl rfl (by first | (dsimp only [cmpP]; omega) | exact rfl | exact Int.le_refl _) ?_ | refine EK.condT rfl ?_ | refine EK.ret ?_))
    exact EU.ret1 rfl rfl ⟨γ1, 12, rfl, rfl, nx1⟩
  · have e0 : ¬ ((x : Int) = 0) := by omega
    rw [if_neg e0, Int.toNat_natCast] at nx1
    have s1 := K.mem _ _ nx1.at_.thr.I
    have ci : hcell h1 ⟨B 0, 2, none⟩ = some (.slice (some ⟨B 1, 0, none⟩) (n + 1) (n + 1)) := hcell_of s1.o0 rfl
    have cv := (s1.item (k := x) hx).2
    clear s1
    (repeat (first | refine EK.seq ?_ | refine EK.region ?_ | refine ER.done ?_ | refine EK.skip ?_ | refine ER.move rfl rfl rfl ?_ | refine ER.assign rfl rfl rfl ?_ | refine ER.nilCheck rfl rfl rfl ?_ | refine ER.fieldAddr rfl rfl rfl ?_ | refine ER.cmpF rfl rfl rfl rfl rfl (by first | (dsimp only [cmpP]; omega) | exact rfl | exact Int.le_refl _) ?_ | refine ER.indexSl rfl rfl rfl rfl (by omega) (by omega) ?_ | refine EK.condF rfl ?_ | refine ER.load1 rfl rfl rfl (by assumption) ?_))
    refine ER.callP rfl rfl rfl rfl rfl (storeS K nx1.at_ (K.cell (5 + 2 * x) (by omega) (by omega) (by omega) (by omega)) (.inr (.inr (.inr ⟨rfl, x, by omega, hx, rfl⟩))) nx1.al.tb.symm) (fun _ _ _ y => y.along nx1.al) ?_
    rintro _ h2 δ2 ⟨γ2, rfl, rfl, nx2, -⟩
    have nx12 := nx1.trans K.ok nx2
    have s2 := K.mem _ _ nx2.at_.thr.I
    have cl : hcell h2 ⟨B 0, 0, none⟩ = some (ptr (B 2)) := hcell_of s2.o0 rfl
    have l1 := nx1.len
    have l2 := nx2.len
    clear ci cv s2
    (repeat (first | refine EK.seq ?_ | refine EK.region ?_ | refine ER.done ?_ | refine ER.move rfl rfl rfl ?_ | refine ER.nilCheck rfl rfl rfl ?_ | refine ER.fieldAddr rfl rfl rfl ?_ | refine ER.load1 rfl rfl rfl (by assumption) ?_))
    refine ER.callP rfl rfl rfl rfl rfl (lay_T K (c := 2) (x := x) nx2.at_ (.inl rfl) (by omega) hx (by omega) nx12.al.tb.symm) (fun _ _ _ y => y.along nx12.al) ?_
    rintro _ h3 δ3 ⟨γ3, rfl, nx3⟩
    (repeat (first | refine EK.seq ?_ | refine EK.region ?_ | refine ER.done ?_ | refine ER.assign rfl rfl rfl ?_ | refine EK.ret ?_))
    exact EU.ret1 rfl rfl ⟨γ3, 0, rfl, rfl, nx12.trans K.ok nx3⟩
set_option maxRecDepth 8000 in
set_option maxHeartbeats 4000000 in
theorem pop_T (K : StkX X P told n B) {f : Nat} {k : Int → Bool → Pr A} (a : AtP X P told n B i γ u L h (popP B k f)) (hf : 65536 < f + (ownOf i (γ.p.acc i).log).length) {t : Nat} (ht : t = γ.p.tb i) :
    CallW Try.prog false (SitT Try.prog (PX X) (i + 1)) 28 #[ptr (B 0), ptr t] h ⟨0, γ⟩ (RetP (fun w h' δ' => ∃ (γ' : GG X) (v : Int) (e : Bool), δ' = ⟨0, γ'⟩ ∧ w = .tuple #[.int .i64 v, .bool e] ∧ Nxt X P told n B i γ u L γ' h' (k v e)) (Halt X i γ.p)) := by
  subst ht
  have hn := K.hn
  have s0 := K.mem _ _ a.thr.I
  have ci : hcell h ⟨B 0, 2, none⟩ = some (.slice (some ⟨B 1, 0, none⟩) (n + 1) (n + 1)) := hcell_of s0.o0 rfl
  have cl : hcell h ⟨B 0, 0, none⟩ = some (ptr (B 2)) := hcell_of s0.o0 rfl
  clear s0
  refine CallW.start (n := 47) rfl rfl ?_
  (repeat (first | refine EK.seq ?_ | refine EK.region ?_ | refine ER.done ?_ | refine EK.skip ?_ | refine ER.move rfl rfl rfl ?_ | refine ER.assign rfl rfl rfl ?_ | refine ER.nilCheck rfl rfl rfl ?_ | refine ER.fieldAddr rfl rfl rfl ?_ | refine ER.eqV rfl rfl rfl rfl rfl ?_ | refine ER.pickF rfl rfl rfl rfl ?_ | refine ER.cmpF rfl rfl rfl rfl rfl (by first | (dsimp only [cmpP]; omega) | exact rfl | exact Int.le_refl _) ?_ | refine ER.len1 rfl rfl rfl ?_ | refine EK.condF rfl ?_ | refine ER.load1 rfl rfl rfl (by assumption) ?_))
  refine ER.callP rfl rfl rfl rfl rfl (get_T K (c := 2) a (.inl rfl) hf rfl) (fun _ _ _ x => x) ?_
  rintro _ h1 δ1 ⟨γ1, x, rfl, rfl, hx, nx1⟩
  clear ci cl
  by_cases hx0 : x = 0
  · subst hx0
    (repeat (first | refine EK.seq ?_ | refine EK.region ?_ | refine ER.done ?_ | refine ER.move rfl rfl rfl ?_ | refine ER.assign rfl rfl rfl ?_ | refine ER.cmpT rfl rfl rfl rfl rfl (by first | (dsimp only [cmpP]; omega) | exact rfl | exact Int.le_refl _) ?_ | refine EK.condT rfl ?_ | refine EK.ret ?_))
    exact EU.ret2 rfl rfl rfl ⟨γ1, 0, false, rfl, rfl, nx1⟩
  · have e0 : ¬ ((x : Int) = 0) := by omega
    rw [if_neg e0, Int.toNat_natCast] at nx1
    have s1 := K.mem _ _ nx1.at_.thr.I
    have ci : hcell h1 ⟨B 0, 2, none⟩ = some (.slice (some ⟨B 1, 0, none⟩) (n + 1) (n + 1)) := hcell_of s1.o0 rfl
    have cv := (s1.item (k := x) hx).2
    clear s1
    (repeat (first | refine EK.seq ?_ | refine EK.region ?_ | refine ER.done ?_ | refine EK.skip ?_ | refine ER.move rfl rfl rfl ?_ | refine ER.assign rfl rfl rfl ?_ | refine ER.nilCheck rfl rfl rfl ?_ | refine ER.fieldAddr rfl rfl rfl ?_ | refine ER.cmpF rfl rfl rfl rfl rfl (by first | (dsimp only [cmpP]; omega) | exact rfl | exact Int.le_refl _) ?_ | refine ER.indexSl rfl rfl rfl rfl (by omega) (by omega) ?_ | refine EK.condF rfl ?_ | refine ER.load1 rfl rfl rfl (by assumption) ?_))
    refine ER.callP rfl rfl rfl rfl rfl (loadS K nx1.at_ (K.cell (5 + 2 * x) (by omega) (by omega) (by omega) (by omega)) nx1.al.tb.symm) (fun _ _ _ y => y.along nx1.al) ?_
    rintro _ h2 δ2 ⟨γ2, rfl, rfl, nx2, -⟩
    generalize γ2.p.val (B (5 + 2 * x)) = v at nx2 ⊢
    have nx12 := nx1.trans K.ok nx2
    have s2 := K.mem _ _ nx2.at_.thr.I
    have cf : hcell h2 ⟨B 0, 1, none⟩ = some (ptr (B 3)) := hcell_of s2.o0 rfl
    have l1 := nx1.len
    have l2 := nx2.len
    clear ci cv s2
    (repeat (first | refine EK.seq ?_ | refine EK.region ?_ | refine ER.done ?_ | refine ER.move rfl rfl rfl ?_ | refine ER.assign rfl rfl rfl ?_ | refine ER.nilCheck rfl rfl rfl ?_ | refine ER.fieldAddr rfl rfl rfl ?_ | refine ER.load1 rfl rfl rfl (by assumption) ?_))
    refine ER.callP rfl rfl rfl rfl rfl (lay_T K (c := 3) (x := x) nx2.at_ (.inr rfl) (by omega) hx (by omega) nx12.al.tb.symm) (fun _ _ _ y => y.along nx12.al) ?_
    rintro _ h3 δ3 ⟨γ3, rfl, nx3⟩
    (repeat (first | refine EK.seq ?_ | refine EK.region ?_ | refine ER.done ?_ | refine ER.move rfl rfl rfl ?_ | refine ER.assign rfl rfl rfl ?_ | refine EK.ret ?_))
    exact EU.ret2 rfl rfl rfl ⟨γ3, v, true, rfl, rfl, nx12.trans K.ok nx3⟩
end
end Go.Proofs.Ytcpcdnkemobneaa
end
section
namespace Go.Proofs.Ytcpcdnkemobneaa
open Go Go.TJ Go.Conc Go.Proofs
structure TC (A : Type) where
  n : Nat
  hN : Hp
  isC : Nat → Prop
  ex : Nat → Prop
  T : Nat
  tS : TypeId
  e : TypeId
  sz : Nat
  enc : A → List Value
  J : List Ev → (Nat → List A) → (Nat → Int) → Prop
  P : Nat → Pr A
def TC.old {A : Type} (c : TC A) (b : Nat) : Prop := b < c.hN.size ∧ ¬ c.isC b ∧ ¬ c.ex b
structure ToldI {A : Type} (c : TC A) (u : Nat → List A × Value) (h : Hp) : Prop where
  old : ∀ b, c.old b → b ≠ c.T → h[b]? = c.hN[b]?
  out : h[c.T]? = some (.cells ((List.range c.n).map fun i => (u i).2).toArray c.tS (0, 0))
  inn : ∀ i, i < c.n → SliceO h (u i).2 c.e c.sz (u i).1.length ((u i).1.flatMap c.enc)
  new : ∀ i b, i < c.n → blk (u i).2 = some b → ¬ c.old b ∧ ¬ c.isC b
  inj : ∀ i j b, i < c.n → j < c.n → blk (u i).2 = some b → blk (u j).2 = some b → i = j
def UsT {A : Type} (c : TC A) : Us where
  U := Nat → List A × Value
  isC := c.isC
  Dom := fun u b => c.old b ∨ (¬ c.isC b ∧ ∃ i, i < c.n ∧ blk (u i).2 = some b)
  I := ToldI c
  J := fun l u v => c.J l (fun i => (u i).1) v
  V := fun i u u' => u' i = u i
  Q := fun i l s u => ∃ p, Goes i (c.P i) l (u i).1 p ∧ (match s with | .born => (u i).1 = [] | .stands r => ∃ k, p = .step r k | .over => p = .done)
section
variable {A : Type} {c : TC A} {u : Nat → List A × Value} {h h' : Hp} {i : Nat} {a : A}
theorem SliceO.same {h h' : Hp} {s : Value} {e sz n : Nat} {cells : List Value} (x : SliceO h s e sz n cells) (hb : ∀ b, blk s = some b → h'[b]? = h[b]?) : SliceO h' s e sz n cells := by
  refine ⟨x.1, x.2.imp id ?_⟩
  rintro ⟨b, cap, rest, rfl, h1, h2, h3⟩
  exact ⟨b, cap, rest, rfl, h1, h2, (hb b rfl).trans h3⟩
theorem ToldI.loc (ok : c.old c.T) (hb : ∀ b, (UsT c).Dom u b → h'[b]? = h[b]?) (I : ToldI c u h) : ToldI c u h' :=
  ⟨fun b h1 h4 => (hb b (.inl h1)).trans (I.old b h1 h4), (hb _ (.inl ok)).trans I.out, fun i hi => SliceO.same (I.inn i hi) fun b hbb => hb b (.inr ⟨(I.new i b hi hbb).2, i, hi, hbb⟩), I.new, I.inj⟩
theorem usT_ok (ok : c.old c.T) : (UsT c).Ok where
  vrefl := fun _ _ => rfl
  vtrans := fun i a b d h1 h2 => (show d i = b i from h2).trans h1
  loc := fun u h h' hb I => ToldI.loc ok hb I
  stab := fun i l s u u' hv hq => by
    have hv' : u' i = u i := hv
    show ∃ p, Goes i (c.P i) l (u' i).1 p ∧ _
    rw [hv']
    exact hq
  dis := fun u b hd hc => hd.elim (fun y => y.2.1 hc) fun y => y.1 hc
theorem usT_prog : Prog (UsT c) c.P (fun u i => (u i).1) where
  Q := fun _ _ _ _ => Iff.rfl
  V := fun i u u' hv => by rw [show u' i = u i from hv]
theorem map_range_set {n i : Nat} (hi : i < n) (f : Nat → Value) (x : Value) : ((List.range n).map fun j => if j = i then x else f j) = ((List.range n).map f).set i x := by
  refine List.ext_getElem? fun j => ?_
  by_cases e : j = i
  · subst e
    rw [List.getElem?_set_self (by simpa using hi)]
    simp [hi]
  · rw [List.getElem?_set_ne (Ne.symm e)]
    simp only [List.getElem?_map]
    rcases Nat.lt_or_ge j n with y | y
    · simp [y, e]
    · simp [y]
theorem ToldI.oldlt (ok : c.old c.T) (I : ToldI c u h) {b : Nat} (hb : c.old b) : b < h.size := by
  by_cases e : b = c.T
  · rw [e]; exact lt_of_get I.out
  · have := I.old b hb e
    rw [Array.getElem?_eq_getElem hb.1] at this
    exact lt_of_get this
theorem ToldI.tell (ok : c.old c.T) (I : ToldI c u h) (hi : i < c.n) {h1 : Hp} {s' : Value} (hC : ∀ b, c.isC b → b < h.size) (up : Upd (fun b => blk (u i).2 = some b) h h1) (sl : SliceO h1 s' c.e c.sz ((u i).1.length + 1) ((u i).1.flatMap c.enc ++ c.enc a))
    (hb : ∀ b, blk s' = some b → blk (u i).2 = some b ∨ h.size ≤ b) : ToldI c (ut u i ((u i).1 ++ [a], s')) (hset h1 ⟨c.T, 0 + i * 1, none⟩ s') := by
  have hTn : ∀ j b, j < c.n → blk (u j).2 = some b → b ≠ c.T := fun j b hj hbb e => (I.new j b hj hbb).1 (e ▸ ok)
  have o1 := up.get I.out (fun x => hTn i _ hi x rfl)
  have e1 : hset h1 ⟨c.T, 0 + i * 1, none⟩ s' = h1.setIfInBounds c.T (.cells (((List.range c.n).map fun j => (u j).2).toArray.setIfInBounds (0 + i * 1) s') c.tS (0, 0)) := hset_block o1 _
  rw [e1]
  have u2 : Upd (fun b => b = c.T) h1 (h1.setIfInBounds c.T (.cells (((List.range c.n).map fun j => (u j).2).toArray.setIfInBounds (0 + i * 1) s') c.tS (0, 0))) := Upd.set _ _ _ rfl
  have hs' : ∀ b, blk s' = some b → ¬ c.old b ∧ ¬ c.isC b := fun b hbb => by
    rcases hb b hbb with y | y
    · exact I.new i b hi y
    · exact ⟨fun z => by have := I.oldlt ok z; omega, fun z => by have := hC b z; omega⟩
  have hs2 : ∀ b, blk s' = some b → b ≠ c.T := fun b hbb e => (hs' b hbb).1 (e ▸ ok)
  refine ⟨fun b h1' h4 => ?_, ?_, fun j hj => ?_, fun j b hj hbb => ?_, fun j k b hj hk hbj hbk => ?_⟩
  · rw [get_set_ne _ (Ne.symm h4), up.2 b (I.oldlt ok h1') (fun x => (I.new i b hi x).1 h1')]
    exact I.old b h1' h4
  · rw [get_set_same o1]
    congr 2
    have e2 : ((List.range c.n).map fun j => (ut u i ((u i).1 ++ [a], s') j).2) = ((List.range c.n).map fun j => (u j).2).set i s' := by
      rw [← map_range_set hi]
      refine List.map_congr_left fun j _ => ?_
      by_cases e : j = i
      · subst e; rw [ut_same, if_pos rfl]
      · rw [ut_ne _ _ e, if_neg e]
    rw [e2]
    simp
  · by_cases e : j = i
    · subst e
      rw [ut_same]
      have := sl.upd u2 (fun b hbb e => hs2 b hbb e)
      simp only [List.length_append, List.length_singleton, List.flatMap_append, List.flatMap_cons, List.flatMap_nil, List.append_nil]
      exact this
    · rw [ut_ne _ _ e]
      refine ((I.inn j hj).upd up (fun b hbj hbi => e (I.inj j i b hj hi hbj hbi))).upd u2 (fun b hbj e' => hTn j b hj hbj e')
  · by_cases e : j = i
    · subst e; rw [ut_same] at hbb; exact hs' b hbb
    · rw [ut_ne _ _ e] at hbb; exact I.new j b hj hbb
  · have key : ∀ k b, k < c.n → k ≠ i → blk s' = some b → blk (u k).2 = some b → False := fun k b hk hne h1' h2 => by
      rcases hb b h1' with y | y
      · exact hne (I.inj k i b hk hi h2 y)
      · have := (I.inn k hk).lt h2
        omega
    by_cases ej : j = i <;> by_cases ek : k = i
    · omega
    · subst ej
      rw [ut_same] at hbj; rw [ut_ne _ _ ek] at hbk
      exact (key k b hk ek hbj hbk).elim
    · subst ek
      rw [ut_same] at hbk; rw [ut_ne _ _ ej] at hbj
      exact (key j b hj ej hbk hbj).elim
    · rw [ut_ne _ _ ej] at hbj; rw [ut_ne _ _ ek] at hbk
      exact I.inj j k b hj hk hbj hbk
section
variable {γ : GG (UsT c)} {L : List (Nat × Obj)}
theorem Thr.cl (T : Thr (UsT c) i γ u L h) : ∀ b, c.isC b → b < h.size := fun b hb => by
  obtain ⟨s, M, g⟩ := T.gi
  exact lt_of_get (g.cel b hb).1
theorem Thr.tell (ok : c.old c.T) (T : Thr (UsT c) i γ u [] h) (hi : i < c.n) {h1 : Hp} {s' : Value} (up : Upd (fun b => blk (u i).2 = some b) h h1) (sl : SliceO h1 s' c.e c.sz ((u i).1.length + 1) ((u i).1.flatMap c.enc ++ c.enc a))
    (hb : ∀ b, blk s' = some b → blk (u i).2 = some b ∨ h.size ≤ b) : Thr (UsT c) i γ (ut u i ((u i).1 ++ [a], s')) [] (hset h1 ⟨c.T, 0 + i * 1, none⟩ s') := by
  have I : ToldI c u h := T.I
  have I2 := I.tell ok hi T.cl up sl hb
  have oT : (hset h1 ⟨c.T, 0 + i * 1, none⟩ s').size = h1.size := by rw [hset_size]
  refine T.user (usT_ok ok) (u' := ut u i ((u i).1 ++ [a], s')) (L' := []) ((up.mono (fun b _ x => Or.inl (Or.inr ⟨(I.new i b hi x).2, i, hi, x⟩))).trans (Upd.hset (T := fun b => (UsT c).Dom u b ∨ ∃ q, q ∈ ([] : List (Nat × Obj)) ∧ q.1 = b) h1 ⟨c.T, 0 + i * 1, none⟩ s' (.inl (.inl ok)))) ?_ (fun q hq => by cases hq) I2 (fun x hx => ut_ne _ _ hx)
  rintro b (y | ⟨y1, j, hj, y2⟩)
  · refine ⟨.inl (.inl y), ?_⟩
    have := I.oldlt ok y
    have := up.size
    omega
  · by_cases e : j = i
    · subst e
      rw [ut_same] at y2
      refine ⟨?_, by rw [oT]; exact sl.lt y2⟩
      rcases hb b y2 with z | z
      · exact .inl (.inr ⟨y1, j, hj, z⟩)
      · exact .inr z
    · rw [ut_ne _ _ e] at y2
      refine ⟨.inl (.inr ⟨y1, j, hj, y2⟩), ?_⟩
      have := (I.inn j hj).lt y2
      have := up.size
      omega
end
end
end Go.Proofs.Ytcpcdnkemobneaa
end
section
namespace Go.Proofs.Ytcpcdnkemobneaa
open Go Go.TJ Go.Conc Go.Proofs
abbrev SCall := Int × Int
abbrev SAns := Int × Bool × Int
def sansL (a : SAns) : List Value := [.int .i64 a.1, .bool a.2.1, .int .i64 a.2.2]
def scallL (q : SCall) : List Value := [.int .i64 q.1, .int .i64 q.2]
def callS (B : Nat → Nat) (f : Nat) (q : SCall) (k : SAns → Pr SAns) : Pr SAns :=
  if q.1 = 0 then pushP B q.2 (fun e => k (0, false, e)) f else if q.1 = 1 then popP B (fun v is => k (v, is, 0)) f else k (0, false, 0)
def scriptS (B : Nat → Nat) (f : Nat) : List SCall → Pr SAns
  | [] => .done
  | q :: l => callS B f q fun a => .emit a (scriptS B f l)
theorem callS0 {B : Nat → Nat} {f : Nat} {v : Int} {k : SAns → Pr SAns} : callS B f (0, v) k = pushP B v (fun e => k (0, false, e)) f := if_pos rfl
theorem callS1 {B : Nat → Nat} {f : Nat} {v : Int} {k : SAns → Pr SAns} : callS B f (1, v) k = popP B (fun v is => k (v, is, 0)) f := (if_neg (show ¬ (1 : Int) = 0 by decide)).trans (if_pos rfl)
theorem callS2 {B : Nat → Nat} {f : Nat} {d v : Int} {k : SAns → Pr SAns} (h0 : d ≠ 0) (h1 : d ≠ 1) : callS B f (d, v) k = k (0, false, 0) := (if_neg h0).trans (if_neg h1)
end Go.Proofs.Ytcpcdnkemobneaa
end
section
namespace Go.Proofs.Ytcpcdnkemobneaa
open Go Go.TJ Go.Conc Go.Proofs
section
variable {X : Us} {A : Type} {P : Nat → Pr A} {told : X.U → Nat → List A} {n : Nat} {B : Nat → Nat} {i : Nat} {γ γ' : GG X} {u : X.U} {L : List (Nat × Obj)} {h h' : Hp}
theorem Thr.privs (T : Thr X i γ u L h) : (∀ q, q ∈ L → h[q.1]? = some q.2 ∧ ¬ X.Dom u q.1) ∧ ∀ b, X.Dom u b → b < h.size := by
  obtain ⟨s, M, g⟩ := T.gi
  have hn : i < ({ γ.p.acc i with u := u, prv := ut (γ.p.acc i).prv i L } : PS X.U).num := by show i < (γ.p.acc i).num; rw [(acc_same γ.p i).2.2.1]; exact T.lt
  refine ⟨fun q hq => ?_, fun b hb => (g.dom b hb).1⟩
  have := g.prv i hn q (by show q ∈ ut (γ.p.acc i).prv i L i; rw [ut_same]; exact hq)
  exact ⟨this.1, this.2.2.2.2⟩
theorem Thr.priv {L' : List (Nat × Obj)} (hX : X.Ok) (T : Thr X i γ u L h) (hu : Upd (fun b => ∃ q, q ∈ L ∧ q.1 = b) h h') (h2 : ∀ q, q ∈ L' → h'[q.1]? = some q.2 ∧ ∃ q0, q0 ∈ L ∧ q0.1 = q.1) : Thr X i γ u L' h' := by
  obtain ⟨p1, p3⟩ := T.privs
  refine T.user hX (u' := u) (L' := L') (hu.mono fun b _ e => .inr e) (fun b hb => ⟨.inl hb, Nat.lt_of_lt_of_le (p3 b hb) hu.size⟩) (fun q hq => ?_) (hX.loc _ _ _ (fun b hb => hu.2 b (p3 b hb) (fun ⟨q, hq, e⟩ => (p1 q hq).2 (e ▸ hb))) T.I) (fun x _ => hX.vrefl _ _)
  obtain ⟨y1, q0, hq0, e⟩ := h2 q hq
  exact ⟨y1, .inl ⟨q0, hq0, e⟩, by rw [← e]; exact (p1 q0 hq0).2⟩
theorem Thr.priv1 {y : Nat} {o0 o : Obj} (hX : X.Ok) (T : Thr X i γ u ((y, o0) :: L) h) (hn : ∀ q, q ∈ L → q.1 ≠ y) : Thr X i γ u ((y, o) :: L) (h.setIfInBounds y o) := by
  refine T.priv hX (Upd.set _ _ _ ⟨_, List.mem_cons_self, rfl⟩) fun q hq => ?_
  rcases List.mem_cons.1 hq with rfl | hq
  · exact ⟨get_set_same (T.privs.1 _ List.mem_cons_self).1, _, List.mem_cons_self, rfl⟩
  · exact ⟨by rw [get_set_ne _ (Ne.symm (hn q hq))]; exact (T.privs.1 q (List.mem_cons_of_mem _ hq)).1, q, List.mem_cons_of_mem _ hq, rfl⟩
theorem Thr.sub {L' : List (Nat × Obj)} (hX : X.Ok) (T : Thr X i γ u L h) (hs : ∀ q, q ∈ L' → q ∈ L) : Thr X i γ u L' h :=
  T.priv hX (Upd.refl _ _) fun q hq => ⟨(T.privs.1 q (hs q hq)).1, q, hs q hq, rfl⟩
abbrev sansO (a : SAns) : Obj := .cells (sansL a).toArray 36 (0, 0)
structure CallP (X : Us) {A : Type} (P : Nat → Pr A) (told : X.U → Nat → List A) (n : Nat) (B : Nat → Nat) (i : Nat) (γ : GG X) (u : X.U) (L : List (Nat × Obj)) (γ' : GG X) (u' : X.U) (h' : Hp) (p : Pr A) : Prop where
  al : Along X i γ.p γ'.p
  at_ : AtP X P told n B i γ' u' L h' p
  V : X.V i u u'
theorem pfuel {f m : Nat} (hf : 65536 < f) : 65536 < f + m := by omega
set_option maxRecDepth 8000 in
set_option maxHeartbeats 4000000 in
theorem scall_T {P : Nat → Pr SAns} {told : X.U → Nat → List SAns} (K : StkX X P told n B) {f : Nat} (hf : 65536 < f) {q : SCall} {k : SAns → Pr SAns} (a : AtP X P told n B i γ u L h (callS B f q k)) {S0 t : Nat} (hS : ∀ u h, X.I u h → hcell h ⟨S0, 0, none⟩ = some (ptr (B 0))) (ht : t = γ.p.tb i) :
    CallW Try.prog false (SitT Try.prog (PX X) (i + 1)) 16 #[ptr S0, ptr t, .agg (scallL q).toArray] h ⟨0, γ⟩ (RetP (fun w h' δ' => ∃ (γ' : GG X) (u' : X.U) (e : SAns), δ' = ⟨0, γ'⟩ ∧ w = .agg (sansL e).toArray ∧ CallP X P told n B i γ u L γ' u' h' (k e)) (Halt X i γ.p)) := by
  subst ht
  obtain ⟨d, v⟩ := q
  obtain ⟨y5, hy5⟩ : ∃ y5, y5 = h.size := ⟨_, rfl⟩
  obtain ⟨y6, hy6⟩ : ∃ y6, y6 = (h.push (.cells (scallL (d, v)).toArray 39)).size := ⟨_, rfl⟩
  have T1 : Thr X i γ u ((y6, sansO (0, false, 0)) :: (y5, .cells (scallL (d, v)).toArray 39) :: L) ((h.push (.cells (scallL (d, v)).toArray 39)).push (sansO (0, false, 0))) := by
    rw [hy5, hy6]
    exact (a.thr.alloc K.ok _).alloc K.ok _
  have a1 : AtP X P told n B i γ u _ _ _ := ⟨T1, a.res, a.pend⟩
  refine CallW.start (n := 34) rfl rfl ?_
  have q1 : ((h.push (.cells (scallL (d, v)).toArray 39)).push (sansO (0, false, 0)))[h.size]? = some (.cells (scallL (d, v)).toArray 39 (0, 0)) := get_push _ (get_push_new _ _)
  (repeat (first | refine EK.seq ?_ | refine EK.region ?_ | refine ER.done ?_ | refine EK.block ?_ | refine ER.fieldAddr rfl rfl rfl ?_ | refine ER.load1 rfl rfl rfl (hcell_of (by assumption) rfl) ?_ | refine ER.boxA rfl rfl rfl ?_ | refine ER.allocA rfl rfl ?_))
  refine ER.gen (fun h' => AtP X P told n B i γ u ((y6, sansO (0, false, 0)) :: (y5, .cells (scallL (d, v)).toArray 39) :: L) h' (callS B f (d, v) k)) a1 ?_
  rw [← hy5, ← hy6]
  have ne : y6 ≠ y5 := by rw [hy6, hy5, Array.size_push]; omega
  have hn : ∀ q, q ∈ (y5, .cells (scallL (d, v)).toArray 39) :: L → q.1 ≠ y6 := fun q hq => by
    rcases List.mem_cons.1 hq with rfl | hq
    · exact Ne.symm ne
    · have := a.thr.lts q hq
      rw [hy6, Array.size_push]; omega
  clear a a1 T1 q1 hy5 hy6
  intro h1 a
  by_cases h0 : d = 0
  · subst h0
    rw [callS0] at a
    (repeat (first | refine ER.done ?_ | refine ER.assign rfl rfl rfl ?_ | refine ER.cmpT rfl rfl rfl rfl rfl (by first | (dsimp only [cmpP]; omega) | exact rfl | exact Int.le_refl _) ?_ | refine EK.condT rfl ?_))
    refine EK.regionAnyL (fun h' => hcell h' ⟨S0, 0, none⟩ = some (ptr (B 0)) ∧ hcell h' ⟨y5, 1, none⟩ = some (.int .i64 v)) 9 ?_
    have hZ : _ ∧ _ := And.intro (hS _ _ a.thr.I) (hcell_of (a.thr.privs.1 (y5, .cells (scallL (0, v)).toArray 39) (List.mem_cons_of_mem _ List.mem_cons_self)).1 rfl : hcell h1 ⟨y5, 1, none⟩ = some (.int .i64 v))
    refine EA.tMove 0 rfl (by kernel_rfl) (by kernel_rfl) (by kernel_rfl) rfl rfl rfl rfl hZ ?_
    refine EA.tNil 1 rfl (by kernel_rfl) (by kernel_rfl) (by kernel_rfl) rfl rfl rfl rfl hZ ?_
    refine EA.tField 2 rfl (by kernel_rfl) (by kernel_rfl) (by kernel_rfl) rfl rfl rfl rfl hZ ?_
    refine EA.tLoad 3 rfl (by kernel_rfl) (by kernel_rfl) (by kernel_rfl) rfl rfl rfl rfl (fun _ hz => hz.1) hZ ?_
    refine EA.tMove 4 rfl (by kernel_rfl) (by kernel_rfl) (by kernel_rfl) rfl rfl rfl rfl hZ ?_
    refine EA.tField 5 rfl (by kernel_rfl) (by kernel_rfl) (by kernel_rfl) rfl rfl rfl rfl hZ ?_
    refine EA.tLoad 6 rfl (by kernel_rfl) (by kernel_rfl) (by kernel_rfl) rfl rfl rfl rfl (fun _ hz => hz.2) hZ ?_
    refine eaCallP 7 rfl (by kernel_rfl) rfl rfl rfl rfl rfl rfl (push_T K a (pfuel hf) rfl) (fun _ _ _ x => x) ?_
    clear hZ
    rintro _ h2 δ2 ⟨γ2, e, rfl, rfl, nx⟩
    have hZ : _ ∧ _ := And.intro (hS _ _ nx.at_.thr.I) (hcell_of (nx.at_.thr.privs.1 (y5, .cells (scallL (0, v)).toArray 39) (List.mem_cons_of_mem _ List.mem_cons_self)).1 rfl : hcell h2 ⟨y5, 1, none⟩ = some (.int .i64 v))
    refine ⟨hZ, ?_⟩
    have g6 := (nx.at_.thr.privs.1 (y6, sansO (0, false, 0)) List.mem_cons_self).1
    refine EA.tField 8 rfl (by kernel_rfl) (by kernel_rfl) (by kernel_rfl) rfl rfl rfl rfl hZ ?_
    refine EA.unitL (h' := h2.setIfInBounds y6 (sansO (0, false, e))) 9 rfl (by kernel_rfl) rfl rfl rfl (fun ρ Q X hρ hq => sem_store1 (hρ _ _ rfl) (hρ _ _ rfl) ⟨nofun, nofun⟩ ⟨_, hcell_of g6 rfl⟩ (hfroz_of g6) (nx.at_.thr.free (.inr (.inr (.inl ⟨_, List.mem_cons_self, rfl⟩)))) (by
      have e7 : hset h2 ⟨y6, 2, none⟩ (.int .i64 e) = h2.setIfInBounds y6 (sansO (0, false, e)) := hset_block g6 _
      rw [show (0 : Nat) + 2 = 2 from rfl, e7]; exact hq)) ?_
    refine EA.done (by kernel_rfl) ?_
    have T3 := nx.at_.thr.priv1 (o := sansO (0, false, e)) K.ok hn
    clear hZ g6
    generalize h2.setIfInBounds y6 (sansO (0, false, e)) = h3 at T3 ⊢
    have g6 := (T3.privs.1 (y6, sansO (0, false, e)) List.mem_cons_self).1
    have T4 := ((T3.priv1 (y := y6) (o := sansO (0, false, e)) K.ok hn).sub K.ok (L' := L) (fun q hq => List.mem_cons_of_mem _ (List.mem_cons_of_mem _ hq)))
    (repeat (first | refine EK.seq ?_ | refine EK.region ?_ | refine EK.inBlock ?_))
    refine ER.loadN (vs := sansL (0, false, e)) rfl rfl rfl rfl (hrow_block (rest := []) (by rw [List.append_nil]; exact g6)) ?_
    refine ER.storeN (vs := sansL (0, false, e)) rfl rfl rfl rfl (by simp [sansL, OneCell]) (fun j hj => ⟨⟨_, hcell_of g6 (by simp only [List.getElem?_toArray]; exact List.getElem?_eq_getElem (by simpa using hj))⟩, hfroz_of g6, T3.free (.inr (.inr (.inl ⟨_, List.mem_cons_self, rfl⟩)))⟩) ?_
    rw [row_set (c := sansL (0, false, e)) (vs := sansL (0, false, e)) g6 rfl]
    (repeat (first | refine ER.done ?_ | refine EK.ret ?_))
    exact EU.retCell1 (vs := sansL (0, false, e)) rfl rfl rfl (hrow_block (rest := []) (by rw [List.append_nil]; exact get_set_same g6)) ⟨γ2, γ2.p.u, (0, false, e), rfl, rfl, ⟨nx.al, ⟨T4, nx.at_.res, nx.at_.pend⟩, nx.V⟩⟩
  · by_cases h1' : d = 1
    · subst h1'
      rw [callS1] at a
      have hs1 := hS _ _ a.thr.I
      (repeat (first | refine EK.seq ?_ | refine EK.region ?_ | refine ER.done ?_ | refine ER.move rfl rfl rfl ?_ | refine ER.assign rfl rfl rfl ?_ | refine ER.nilCheck rfl rfl rfl ?_ | refine ER.fieldAddr rfl rfl rfl ?_ | refine ER.cmpT rfl rfl rfl rfl rfl (by first | (dsimp only [cmpP]; omega) | exact rfl | exact Int.le_refl _) ?_ | refine ER.cmpF rfl rfl rfl rfl rfl (by first | (dsimp only [cmpP]; omega) | exact rfl | exact Int.le_refl _) ?_ | refine EK.condT rfl ?_ | refine EK.condF rfl ?_ | refine ER.load1 rfl rfl rfl (by assumption) ?_))
      refine ER.callP rfl rfl rfl rfl rfl (pop_T K a (pfuel hf) rfl) (fun _ _ _ x => x) ?_
      clear hs1
      rintro _ h2 δ2 ⟨γ2, w, e, rfl, rfl, nx⟩
      have g6 := (nx.at_.thr.privs.1 (y6, sansO (0, false, 0)) List.mem_cons_self).1
      (repeat (first | refine ER.move rfl rfl rfl ?_ | refine ER.fieldAddr rfl rfl rfl ?_ | refine ER.extract rfl rfl rfl rfl ?_))
      refine ER.store1 rfl rfl rfl ⟨nofun, nofun⟩ ⟨_, hcell_of g6 rfl⟩ (hfroz_of g6) (nx.at_.thr.free (.inr (.inr (.inl ⟨_, List.mem_cons_self, rfl⟩)))) ?_
      have e7 : hset h2 ⟨y6, 0, none⟩ (.int .i64 w) = h2.setIfInBounds y6 (sansO (w, false, 0)) := hset_block g6 _
      have T3 := nx.at_.thr.priv1 (o := sansO (w, false, 0)) K.ok hn
      change ER _ _ _ _ _ _ _ _ _ _ (hset h2 ⟨y6, 0, none⟩ (.int .i64 w)) _ _
      rw [e7]
      clear e7 g6
      generalize h2.setIfInBounds y6 (sansO (w, false, 0)) = h3 at T3 ⊢
      have g6 := (T3.privs.1 (y6, sansO (w, false, 0)) List.mem_cons_self).1
      (repeat refine ER.fieldAddr rfl rfl rfl ?_)
      refine ER.store1 rfl rfl rfl ⟨nofun, nofun⟩ ⟨_, hcell_of g6 rfl⟩ (hfroz_of g6) (T3.free (.inr (.inr (.inl ⟨_, List.mem_cons_self, rfl⟩)))) ?_
      have e7 : hset h3 ⟨y6, 1, none⟩ (.bool e) = h3.setIfInBounds y6 (sansO (w, e, 0)) := hset_block g6 _
      have T4 := T3.priv1 (o := sansO (w, e, 0)) K.ok hn
      change ER _ _ _ _ _ _ _ _ _ _ (hset h3 ⟨y6, 1, none⟩ (.bool e)) _ _
      rw [e7]
      clear e7 g6 T3
      generalize h3.setIfInBounds y6 (sansO (w, e, 0)) = h3 at T4 ⊢
      have T3 := T4
      clear T4
      have g6 := (T3.privs.1 (y6, sansO (w, e, 0)) List.mem_cons_self).1
      have T4 := ((T3.priv1 (y := y6) (o := sansO (w, e, 0)) K.ok hn).sub K.ok (L' := L) (fun q hq => List.mem_cons_of_mem _ (List.mem_cons_of_mem _ hq)))
      (repeat (first | refine EK.seq ?_ | refine EK.region ?_ | refine ER.done ?_ | refine EK.inBlock ?_))
      refine ER.loadN (vs := sansL (w, e, 0)) rfl rfl rfl rfl (hrow_block (rest := []) (by rw [List.append_nil]; exact g6)) ?_
      refine ER.storeN (vs := sansL (w, e, 0)) rfl rfl rfl rfl (by simp [sansL, OneCell]) (fun j hj => ⟨⟨_, hcell_of g6 (by simp only [List.getElem?_toArray]; exact List.getElem?_eq_getElem (by simpa using hj))⟩, hfroz_of g6, T3.free (.inr (.inr (.inl ⟨_, List.mem_cons_self, rfl⟩)))⟩) ?_
      rw [row_set (c := sansL (w, e, 0)) (vs := sansL (w, e, 0)) g6 rfl]
      (repeat (first | refine ER.done ?_ | refine EK.ret ?_))
      exact EU.retCell1 (vs := sansL (w, e, 0)) rfl rfl rfl (hrow_block (rest := []) (by rw [List.append_nil]; exact get_set_same g6)) ⟨γ2, γ2.p.u, (w, e, 0), rfl, rfl, ⟨nx.al, ⟨T4, nx.at_.res, nx.at_.pend⟩, nx.V⟩⟩
    · rw [callS2 h0 h1'] at a
      have h2 := h1
      have T3 : Thr X i γ u ((y6, sansO (0, false, 0)) :: (y5, .cells (scallL (d, v)).toArray 39) :: L) h1 := a.thr
      have g6 := (T3.privs.1 (y6, sansO (0, false, 0)) List.mem_cons_self).1
      have T4 := ((T3.priv1 (y := y6) (o := sansO (0, false, 0)) K.ok hn).sub K.ok (L' := L) (fun q hq => List.mem_cons_of_mem _ (List.mem_cons_of_mem _ hq)))
      (repeat (first | refine EK.seq ?_ | refine EK.region ?_ | refine ER.done ?_ | refine EK.skip ?_ | refine EK.inBlock ?_ | refine ER.assign rfl rfl rfl ?_ | refine ER.cmpF rfl rfl rfl rfl rfl (by first | (dsimp only [cmpP]; omega) | exact rfl | exact Int.le_refl _) ?_ | refine EK.condF rfl ?_))
      refine ER.loadN (vs := sansL (0, false, 0)) rfl rfl rfl rfl (hrow_block (rest := []) (by rw [List.append_nil]; exact g6)) ?_
      refine ER.storeN (vs := sansL (0, false, 0)) rfl rfl rfl rfl (by simp [sansL, OneCell]) (fun j hj => ⟨⟨_, hcell_of g6 (by simp only [List.getElem?_toArray]; exact List.getElem?_eq_getElem (by simpa using hj))⟩, hfroz_of g6, T3.free (.inr (.inr (.inl ⟨_, List.mem_cons_self, rfl⟩)))⟩) ?_
      rw [row_set (c := sansL (0, false, 0)) (vs := sansL (0, false, 0)) g6 rfl]
      (repeat (first | refine ER.done ?_ | refine EK.ret ?_))
      exact EU.retCell1 (vs := sansL (0, false, 0)) rfl rfl rfl (hrow_block (rest := []) (by rw [List.append_nil]; exact get_set_same g6)) ⟨γ, u, (0, false, 0), rfl, rfl, ⟨Along.refl _ _, ⟨T4, a.res, a.pend⟩, K.ok.vrefl _ _⟩⟩
end
end Go.Proofs.Ytcpcdnkemobneaa
end
section
namespace Go.Proofs.Ytcpcdnkemobneaa
open Go Go.TJ Go.Conc Go.Proofs
def numsA (acc : List Nat) (l : List Ev) : List Nat := l.foldl (fun a e => if e.b ∈ a then a else a ++ [e.b]) acc
theorem numsA_pre : ∀ (l : List Ev) (acc : List Nat), ∃ s, numsA acc l = acc ++ s
  | [], acc => ⟨[], by simp [numsA]⟩
  | e :: l, acc => by
    by_cases h : e.b ∈ acc
    · obtain ⟨s, hs⟩ := numsA_pre l acc
      exact ⟨s, by unfold numsA at hs ⊢; rw [List.foldl_cons, if_pos h]; exact hs⟩
    · obtain ⟨s, hs⟩ := numsA_pre l (acc ++ [e.b])
      exact ⟨e.b :: s, by unfold numsA at hs ⊢; rw [List.foldl_cons, if_neg h, hs]; simp⟩
theorem nums_app (l l' : List Ev) : ∃ s, nums (l ++ l') = nums l ++ s := by
  obtain ⟨s, hs⟩ := numsA_pre l' (nums l)
  exact ⟨s, by unfold nums at hs ⊢; rw [List.foldl_append]; exact hs⟩
theorem numsA_nodup : ∀ (l : List Ev) (acc : List Nat), acc.Nodup → (numsA acc l).Nodup
  | [], acc, h => h
  | e :: l, acc, h => by
    unfold numsA
    rw [List.foldl_cons]
    by_cases he : e.b ∈ acc
    · rw [if_pos he]; exact numsA_nodup l acc h
    · rw [if_neg he]
      refine numsA_nodup l _ (List.nodup_append.2 ⟨h, by simp, fun a ha b hb => ?_⟩)
      rw [List.mem_singleton.1 hb]
      exact fun e' => he (e' ▸ ha)
theorem nums_nodup (l : List Ev) : (nums l).Nodup := numsA_nodup l [] List.nodup_nil
theorem take_mid {α : Type} {l : List α} {k : Nat} {a : α} (h : l[k]? = some a) : l.take (k + 1) = l.take k ++ [a] ∧ l = l.take (k + 1) ++ l.drop (k + 1) ∧ k < l.length := by
  have hk : k < l.length := by
    rcases Nat.lt_or_ge k l.length with y | y
    · exact y
    · rw [List.getElem?_eq_none y] at h; cases h
  refine ⟨?_, (List.take_append_drop _ _).symm, hk⟩
  rw [List.take_add_one, h]; rfl
theorem idx_at {l : List Ev} {k : Nat} {e : Ev} (h : l[k]? = some e) : (nums l).idxOf e.b = (nums (l.take (k + 1))).idxOf e.b ∧ (nums l).idxOf e.b < (nums (l.take (k + 1))).length ∧ (nums (l.take (k + 1)))[(nums l).idxOf e.b]? = some e.b ∧
    ((e.b ∈ nums (l.take k) ∧ nums (l.take (k + 1)) = nums (l.take k) ∧ (nums l).idxOf e.b < (nums (l.take k)).length) ∨ (e.b ∉ nums (l.take k) ∧ nums (l.take (k + 1)) = nums (l.take k) ++ [e.b] ∧ (nums l).idxOf e.b = (nums (l.take k)).length)) := by
  obtain ⟨h1, h2, h3⟩ := take_mid h
  have hm : e.b ∈ nums (l.take (k + 1)) := (nums_mem _ _).2 ⟨e, by rw [h1]; simp, rfl⟩
  obtain ⟨s, hs⟩ := nums_app (l.take (k + 1)) (l.drop (k + 1))
  rw [← h2] at hs
  have e1 : (nums l).idxOf e.b = (nums (l.take (k + 1))).idxOf e.b := by rw [hs]; exact idxOf_app hm s
  have hlt := List.idxOf_lt_length_iff.2 hm
  refine ⟨e1, e1 ▸ hlt, ?_, ?_⟩
  · rw [e1, List.getElem?_eq_getElem hlt]; simp
  · by_cases hc : e.b ∈ nums (l.take k)
    · left
      have e2 : nums (l.take (k + 1)) = nums (l.take k) := by rw [h1, nums_snoc, if_pos hc]
      refine ⟨hc, e2, ?_⟩
      rw [e1, e2]; exact List.idxOf_lt_length_iff.2 hc
    · right
      have e2 : nums (l.take (k + 1)) = nums (l.take k) ++ [e.b] := by rw [h1, nums_snoc, if_neg hc]
      refine ⟨hc, e2, ?_⟩
      rw [e1, e2, List.idxOf_append, if_neg hc]
      simp
theorem map_ut {f : Nat → Int} {b : Nat} {x : Int} {F : Int → Value} : ∀ {l : List Nat}, l.Nodup → b ∈ l → (l.map fun c => F (ut f b x c)) = (l.map fun c => F (f c)).set (l.idxOf b) (F x)
  | [], _, h => by cases h
  | a :: l, hn, h => by
    obtain ⟨h1, h2⟩ := List.nodup_cons.1 hn
    by_cases e : a = b
    · subst e
      have : (l.map fun c => F (ut f a x c)) = l.map fun c => F (f c) := List.map_congr_left fun c hc => by rw [ut_ne _ _ (fun e : c = a => h1 (by rw [← e]; exact hc))]
      simp [this, ut_same]
    · have hb : b ∈ l := (List.mem_cons.1 h).resolve_left (Ne.symm e)
      have e' : (a == b) = false := by simpa using e
      simp only [List.map_cons, List.idxOf_cons, e', cond_false, List.set_cons_succ, ut_ne _ _ e]
      rw [map_ut h2 hb]
section
variable {X : Us} {v0 v v' : Nat → Int} {l : List Ev}
theorem Chain.inv (c : Chain X v0 l v) {k : Nat} {e : Ev} (h : l[k]? = some e) : ∃ (w : Nat → Int) (i : Nat) (r : Rq), Chain X v0 (l.take k) w ∧ RqOk X r ∧ e = evOf i r (w r.b) ∧ Chain X v0 (l.take (k + 1)) (ut w r.b (behind r.op (w r.b) r.arg r.new).1) := by
  induction c with
  | nil => cases h
  | @snoc l v i r c hr ih =>
    rcases Nat.lt_trichotomy k l.length with y | y | y
    · rw [List.getElem?_append_left y] at h
      rw [List.take_append_of_le_length (by omega), List.take_append_of_le_length (by omega)]
      exact ih h
    · subst y
      rw [List.getElem?_append_right (Nat.le_refl _), Nat.sub_self] at h
      obtain rfl : evOf i r (v r.b) = e := by simpa using h
      rw [List.take_left, List.take_of_length_le (by simp)]
      exact ⟨v, i, r, c, hr, rfl, .snoc i r c hr⟩
    · rw [List.getElem?_eq_none (by simp; omega)] at h; cases h
theorem Chain.det (c : Chain X v0 l v) : ∀ {v'}, Chain X v0 l v' → v' = v := by
  induction c with
  | nil =>
    intro v' c'
    generalize hl : ([] : List Ev) = l' at c'
    cases c' with
    | nil => rfl
    | snoc => simp at hl
  | @snoc l v i r c hr ih =>
    intro v' c'
    generalize hl : l ++ [evOf i r (v r.b)] = l' at c'
    cases c' with
    | nil => simp at hl
    | @snoc l2 w i2 r2 c2 hr2 =>
      obtain ⟨h1, h2⟩ := List.append_inj' hl rfl
      subst h1
      have := ih c2
      subst this
      have h3 : evOf i r (w r.b) = evOf i2 r2 (w r2.b) := by simpa using h2
      have hb : r.b = r2.b := congrArg Ev.b h3
      have ho : r.op = r2.op := congrArg Ev.op h3
      have ha : r.arg = r2.arg := congrArg Ev.arg h3
      have hn : r.new = r2.new := congrArg Ev.new h3
      rw [hb, ho, ha, hn]
theorem Chain.first (c : Chain X v0 l v) {b : Nat} (h : b ∉ nums l) : v b = v0 b := by
  induction c with
  | nil => rfl
  | @snoc l v i r c hr ih =>
    rw [nums_snoc] at h
    have hb : b ≠ r.b := fun e => by
      subst e
      split at h
      · rename_i y; exact h y
      · exact h (by simp [evOf])
    rw [ut_ne _ _ hb]
    refine ih fun y => h ?_
    split
    · exact y
    · exact List.mem_append_left _ y
theorem Chain.cell (c : Chain X v0 l v) {b : Nat} (h : b ∈ nums l) : X.isC b := by
  induction c with
  | nil => cases h
  | @snoc l v i r c hr ih =>
    rw [nums_snoc] at h
    split at h
    · exact ih h
    · rcases List.mem_append.1 h with y | y
      · exact ih y
      · rw [List.mem_singleton.1 y]; exact hr.cell
end
structure Rec where
  nb : Nat
  most : Nat
  e : Int
  log : List Ev
  rdy : List Nat
  left : List (Nat × Rq)
  v0 : Nat → Int
  val : Nat → Int
def Rec.alive (R : Rec) (k : Nat) : List Nat := (List.range R.nb).filter (fun j => R.left.any (fun q => q.1 == j) || (R.log.drop k).any (fun e => e.thr == j))
structure RecOk (X : Us) (picks : List Int) (R : Rec) : Prop where
  nb : R.nb ≤ 64
  most : R.most ≤ 65536
  len : R.log.length ≤ R.most
  rdy : R.rdy.length = R.log.length
  chain : Chain X R.v0 R.log R.val
  left : ∀ q, q ∈ R.left → q.1 < R.nb ∧ RqOk X q.2
  rise : R.left.Pairwise fun a b => a.1 < b.1
  turns : ∀ (k : Nat) (e : Ev), R.log[k]? = some e → R.rdy[k]? = some (R.alive k).length ∧ e.thr = pickOf picks ((R.log.take k).map (·.thr)) (R.alive k) ∧ e.thr ∈ R.alive k
  how : (R.e = 1 ∧ R.left = []) ∨ (R.e = 2 ∧ R.left ≠ [] ∧ R.log.length = R.most)
def leftE (ns : List Nat) (v : Nat → Int) (q : Nat × Rq) : List Value := accL q.1 q.2.op (if q.2.b ∈ ns then (ns.idxOf q.2.b : Int) else -1) q.2.arg q.2.new (v q.2.b) (v q.2.b) false
structure RdS (h : Hp) (s : Value) (vs : List Value) : Prop where
  val : ∃ a k, s = .slice a vs.length k
  cell : ∀ i v, vs[i]? = some v → ∃ b o k, s = .slice (some ⟨b, o, none⟩) vs.length k ∧ TJ.hcell h ⟨b, o + i * 1, none⟩ = some v
theorem RdS.lt {h : Hp} {s : Value} {vs : List Value} (x : RdS h s vs) (hn : vs ≠ []) : ∀ b, blk s = some b → b < h.size := by
  intro b hb
  cases vs with
  | nil => exact absurd rfl hn
  | cons v vs =>
    obtain ⟨b', o, k, e, hc⟩ := x.cell 0 v rfl
    rw [e] at hb
    cases hb
    obtain ⟨c, e', f, h1, -⟩ := hcell_some hc
    exact lt_of_get h1
theorem RdS.upd {h h' : Hp} {s : Value} {vs : List Value} (x : RdS h s vs) {T : Nat → Prop} (u : Upd T h h') (hT : vs ≠ [] → ∀ b, blk s = some b → ¬ T b) : RdS h' s vs := by
  refine ⟨x.val, fun i v hv => ?_⟩
  obtain ⟨b, o, k, e, hc⟩ := x.cell i v hv
  refine ⟨b, o, k, e, u.hcell hc (hT (fun y => by rw [y] at hv; cases hv) b (by rw [e]; rfl))⟩
structure RecM (R : Rec) (picks : List Int) (lL lW lY lV sP : Value) (h : Hp) : Prop where
  log : SliceO h lL 75 8 R.log.length (R.log.flatMap (entL (nums R.log)))
  went : SliceO h lW 3 1 (R.log.map (·.thr)).length ((R.log.map (·.thr)).map fun (n : Nat) => Value.int .i64 (n : Int))
  rdy : SliceO h lY 3 1 R.rdy.length (R.rdy.map fun (n : Nat) => Value.int .i64 (n : Int))
  left : SliceO h lV 75 8 R.left.length (R.left.flatMap (leftE (nums R.log) R.val))
  picks : RdS h sP (picks.map fun x => .int .i64 x)
theorem RecM.upd {R : Rec} {picks : List Int} {lL lW lY lV sP : Value} {h h' : Hp} (m : RecM R picks lL lW lY lV sP h) (u : Upd (fun _ => False) h h') : RecM R picks lL lW lY lV sP h' :=
  ⟨m.log.upd u (fun _ _ x => x), m.went.upd u (fun _ _ x => x), m.rdy.upd u (fun _ _ x => x), m.left.upd u (fun _ _ x => x), m.picks.upd u (fun _ _ _ x => x)⟩
def rqOf : Ph → Rq
  | .stands r => r
  | _ => ⟨0, 0, 0, 0⟩
def recOf {U : Type} (p : PS U) (v0 : Nat → Int) (nb most : Nat) (e : Int) : Rec := ⟨nb, most, e, p.log, p.rdy, (p.live nb).map fun j => (j, rqOf (p.st j)), v0, p.val⟩
theorem recOf_alive {U : Type} {p : PS U} {v0 : Nat → Int} {nb most : Nat} {e : Int} (hn : p.num = nb) (k : Nat) : (recOf p v0 nb most e).alive k = aliveAt p k := by
  unfold Rec.alive aliveAt recOf
  rw [hn]
  refine List.filter_congr fun j hj => ?_
  have hj' : j < nb := List.mem_range.1 hj
  have : (List.map (fun j => (j, rqOf (p.st j))) (p.live nb)).any (fun q => q.1 == j) = !p.gone j := by
    rw [List.any_map]
    cases hg : p.gone j
    · refine List.any_eq_true.2 ⟨j, mem_live.2 ⟨hj', hg⟩, by simp⟩
    · refine List.any_eq_false.2 fun x hx => ?_
      obtain ⟨_, hx2⟩ := mem_live.1 hx
      have : x ≠ j := fun e => by rw [e, hg] at hx2; cases hx2
      simpa using this
  dsimp only
  rw [this]
theorem Ended.record {X : Us} {v0 : Nat → Int} {picks : List Int} {nb most : Nat} {p : PS X.U} {e : Int} {lL lW lY lV sP : Value} {h : Hp} (E : Ended X v0 picks nb most p e lL lW lY lV h) (hnb : nb ≤ 64) (hm : most ≤ 65536) : RecOk X picks (recOf p v0 nb most e) := by
  have rg := E.reg
  have hlen : p.log.length ≤ most := by
    rcases E.how with ⟨-, -, h⟩ | ⟨-, -, h⟩
    · exact h
    · exact Nat.le_of_eq h
  have st : ∀ j, j < nb → p.gone j = false → ∃ r, p.st j = .stands r ∧ RqOk X r := fun j hj hg => by
    rcases rg.alive j hj with ⟨_, r, h1, h2⟩ | ⟨h1, _⟩
    · exact ⟨r, h1, h2⟩
    · rw [hg] at h1; cases h1
  refine ⟨hnb, hm, hlen, rg.rdy, rg.chain, fun q hq => ?_, ?_, fun k ev hk => ?_, ?_⟩
  · obtain ⟨j, hj, rfl⟩ := List.mem_map.1 hq
    obtain ⟨h1, h2⟩ := mem_live.1 hj
    obtain ⟨r, h3, h4⟩ := st j h1 h2
    exact ⟨h1, by show RqOk X (rqOf (p.st j)); rw [h3]; exact h4⟩
  · show (List.map _ (p.live nb)).Pairwise _
    rw [List.pairwise_map]
    unfold PS.live
    exact List.Pairwise.filter _ List.pairwise_lt_range
  · rw [recOf_alive rg.num]
    exact rg.turns k ev hk
  · rcases E.how with ⟨h1, h2, -⟩ | ⟨h1, h2, h3⟩
    · exact .inl ⟨h1, by show List.map _ (p.live nb) = []; rw [h2]; rfl⟩
    · exact .inr ⟨h1, fun e => h2 (List.map_eq_nil_iff.1 e), h3⟩
theorem Ended.mem {X : Us} {v0 : Nat → Int} {picks : List Int} {nb most : Nat} {p : PS X.U} {e : Int} {lL lW lY lV sP : Value} {h : Hp} (E : Ended X v0 picks nb most p e lL lW lY lV h) (hP : RdS h sP (picks.map fun x => .int .i64 x)) : RecM (recOf p v0 nb most e) picks lL lW lY lV sP h := by
  have rg := E.reg
  refine ⟨E.log, by have := E.went; rw [rg.went] at this; exact this, E.rdy, ?_, hP⟩
  have e1 : (p.live nb).flatMap (leftL p (nums p.log)) = ((p.live nb).map fun j => (j, rqOf (p.st j))).flatMap (leftE (nums p.log) p.val) := by
    rw [List.flatMap_map]
    have : ∀ l : List Nat, (∀ j, j ∈ l → j ∈ p.live nb) → l.flatMap (leftL p (nums p.log)) = l.flatMap fun a => leftE (nums p.log) p.val (a, rqOf (p.st a)) := fun l => by
      induction l with
      | nil => intro _; rfl
      | cons j l ih =>
        intro hl
        obtain ⟨h1, h2⟩ := mem_live.1 (hl j (by simp))
        have : ∃ r, p.st j = .stands r := by
          rcases rg.alive j h1 with ⟨_, r, h1, _⟩ | ⟨h1, _⟩
          · exact ⟨r, h1⟩
          · rw [h2] at h1; cases h1
        obtain ⟨r, hr⟩ := this
        rw [List.flatMap_cons, List.flatMap_cons, ih (fun x hx => hl x (by simp [hx]))]
        congr 1
        unfold leftL leftE
        rw [hr]
        rfl
    exact this _ fun _ x => x
  have := E.left
  rw [e1] at this
  show SliceO h lV _ 8 ((p.live nb).map fun j => (j, rqOf (p.st j))).length _
  rw [List.length_map]
  exact this
theorem flat_at {α : Type} {c : Nat} {f : α → List Value} (hf : ∀ a, (f a).length = c) : ∀ {l : List α} {k : Nat} {a : α}, l[k]? = some a → ∀ j, j < c → (l.flatMap f)[k * c + j]? = (f a)[j]?
  | [], _, _, h, _, _ => by cases h
  | x :: l, 0, a, h, j, hj => by
    obtain rfl : x = a := by simpa using h
    rw [List.flatMap_cons, Nat.zero_mul, Nat.zero_add, List.getElem?_append_left (by rw [hf]; exact hj)]
  | x :: l, k + 1, a, h, j, hj => by
    rw [List.flatMap_cons, List.getElem?_append_right (by rw [hf, Nat.succ_mul]; omega), hf, show (k + 1) * c + j - c = k * c + j by rw [Nat.succ_mul]; omega]
    exact flat_at hf (by simpa using h) j hj
theorem slice_row {h : Hp} {a : Option Addr} {n cap e c : Nat} {α : Type} {f : α → List Value} (hf : ∀ a, (f a).length = c) {l : List α} (x : SliceO h (.slice a n cap) e c l.length (l.flatMap f)) {k : Nat} {q : α} (hk : l[k]? = some q) :
    ∃ b, a = some ⟨b, 0, none⟩ ∧ hrow h b (0 + k * c) (f q) ∧ ∀ o, hfroz h ⟨b, o, none⟩ = false := by
  obtain ⟨_, _, hlt⟩ := take_mid hk
  obtain ⟨b, cap', e1, hc, hz⟩ := x.cell (by omega)
  injection e1 with e1 _ _
  refine ⟨b, e1, fun j v hv => ?_, hz⟩
  have hj : j < c := by
    rcases Nat.lt_or_ge j c with y | y
    · exact y
    · rw [List.getElem?_eq_none (by rw [hf]; exact y)] at hv; cases hv
  rw [Nat.zero_add]
  exact hc _ _ ((flat_at hf hk j hj).trans hv)
theorem slice_at {h : Hp} {a : Option Addr} {n cap e : Nat} {α : Type} {f : α → Value} {l : List α} (x : SliceO h (.slice a n cap) e 1 l.length (l.map f)) {k : Nat} {q : α} (hk : l[k]? = some q) :
    ∃ b, a = some ⟨b, 0, none⟩ ∧ hcell h ⟨b, 0 + k * 1, none⟩ = some (f q) ∧ ∀ o, hfroz h ⟨b, o, none⟩ = false := by
  obtain ⟨_, _, hlt⟩ := take_mid hk
  obtain ⟨b, cap', e1, hc, hz⟩ := x.cell (by omega)
  injection e1 with e1 _ _
  refine ⟨b, e1, ?_, hz⟩
  rw [Nat.zero_add, Nat.mul_one]
  exact hc _ _ (by rw [List.getElem?_map, hk]; rfl)
theorem entL_len (ns : List Nat) (e : Ev) : (entL ns e).length = 8 := rfl
theorem leftE_len (ns : List Nat) (v : Nat → Int) (q : Nat × Rq) : (leftE ns v q).length = 8 := rfl
abbrev chkL (e : Int) (n : Nat) (lL lW lY lV sP : Value) (most : Nat) (tv cv : Value) (last : Int) : List Value := [.int .i8 e, .int .i64 n, lL, lW, lY, lV, nilS, sP, .int .i64 most, tv, cv, .int .i64 last]
abbrev chkO (e : Int) (n : Nat) (lL lW lY lV sP : Value) (most : Nat) (tv cv : Value) (last : Int) : Obj := .cells (chkL e n lL lW lY lV sP most tv cv last).toArray 208 (0, 0)
end Go.Proofs.Ytcpcdnkemobneaa
end
section
namespace Go.Proofs.Ytcpcdnkemobneaa
open Go Go.TJ Go.Conc Go.Proofs
theorem eaiCallP {Γ : Type} {P : Program} {main : Bool} {S : Sit Γ} {f : FuncId} {n : Nat} {k : List Item} {env : Env} {h : Hp} {δ : Ix Γ} {R : Post Γ} {ops : Array Oper} {Z : Hp → Prop} {z m : Nat} {listed l' : Array Bool} {d : Nat} {ty : TypeId} {pos : String} {af : Array Edge} {g : Option (Nat × Bool)} {i : Nat} {x : Operand} {args : Array Operand} {ats : Array TypeId} {fn : Func} [hf : IsFn P f fn] {c : FuncId} {cap ws : Array Value} {vs : List Value} [HasBody P c] {Q : Value → Hp → Ix Γ → Prop} {Y : List PanicEntry → Hp → Ix Γ → Prop}
    (hi : ops[i]? = some ⟨some d, .call { callee := .value x, args, argTypes := ats }, ty, pos, af, g⟩) (hl : listed.setIfInBounds i true = l') (hd : Nat.blt d n = true) (hw : wantE ops env g = some true) (hx : ev env x = some (.func (.func c) #[] cap)) (ha : evL env args.toList = some vs) (hws : vs.toArray ++ cap = ws)
    (hc : CallW P main S c ws h δ (RetP Q Y)) (hY : ∀ p h' δ', Y p h' δ' → R (.pan p) h' δ') (hn : ∀ v h' δ', Q v h' δ' → Z h' ∧ EA P main S f n ops Z z m l' k ((d, v) :: env) [] h' δ' R) : EAi P main S f n ops Z z m listed k env [] h δ R i := by
  subst hl
  intro a ka
  unfold OpK
  simp only [hi]
  rw [if_pos (wantE_ok ka (o := ⟨some d, .call { callee := .value x, args, argTypes := ats }, ty, pos, af, g⟩) hw), ka.defers]
  subst hws
  refine semW_call rfl (ka.eval hx) (map_ofL (fun x v hx => ka.eval hx) ha) (hc.mono ?_)
  rintro (v | p) h' δ' hq
  · exact ⟨.inr (hn v h' δ' hq).1, (hn v h' δ' hq).2 _ (ka.put v hd)⟩
  · exact fun a' ha' => WU.pan0 (ha'.trans ka.defers) hf.out (hY _ _ _ hq)
theorem eaiCallR {Γ : Type} {P : Program} {main : Bool} {S : Sit Γ} {f : FuncId} {n : Nat} {k : List Item} {env : Env} {ds : List Deferred} {h : Hp} {δ : Ix Γ} {R : Post Γ} {ops : Array Oper} {Z : Hp → Prop} {z m : Nat} {listed l' : Array Bool} {d : Nat} {ty : TypeId} {pos : String} {af : Array Edge} {g : Option (Nat × Bool)} {i : Nat} {x : Operand} {args : Array Operand} {ats : Array TypeId} {c : FuncId} {cap ws : Array Value} {vs : List Value} [HasBody P c] {Q : Value → Hp → Ix Γ → Prop}
    (hi : ops[i]? = some ⟨some d, .call { callee := .value x, args, argTypes := ats }, ty, pos, af, g⟩) (hl : listed.setIfInBounds i true = l') (hd : Nat.blt d n = true) (hw : wantE ops env g = some true) (hx : ev env x = some (.func (.func c) #[] cap)) (ha : evL env args.toList = some vs) (hws : vs.toArray ++ cap = ws)
    (hc : CallW P main S c ws h δ (Ret Q)) (hn : ∀ v h' δ', Q v h' δ' → Z h' ∧ EA P main S f n ops Z z m l' k ((d, v) :: env) ds h' δ' R) : EAi P main S f n ops Z z m listed k env ds h δ R i := by
  subst hl
  intro a ka
  unfold OpK
  simp only [hi]
  rw [if_pos (wantE_ok ka (o := ⟨some d, .call { callee := .value x, args, argTypes := ats }, ty, pos, af, g⟩) hw)]
  subst hws
  refine semW_call rfl (ka.eval hx) (map_ofL (fun x v hx => ka.eval hx) ha) (hc.mono ?_)
  rintro (v | p) h' δ' hq
  · exact ⟨.inr (hn v h' δ' hq).1, (hn v h' δ' hq).2 _ (ka.put v hd)⟩
  · exact hq.elim
structure ScrM (base : Nat) (h : Hp) (scv : Value) (sc : List (List SCall)) : Prop where
  val : ∃ a k, scv = .slice a sc.length k
  big : sc.length ≤ 1000000000000000 ∧ ∀ l, l ∈ sc → l.length ≤ 1000000000000000
  row : ∀ i l, sc[i]? = some l → ∃ b o k a' k', scv = .slice (some ⟨b, o, none⟩) sc.length k ∧ b < base ∧ TJ.hcell h ⟨b, o + i * 1, none⟩ = some (.slice a' l.length k') ∧
    ∀ j q, l[j]? = some q → ∃ b' o', a' = some ⟨b', o', none⟩ ∧ b' < base ∧ TJ.hrow h b' (o' + j * 2) (scallL q)
theorem hcell_same {h h' : Hp} {a : Addr} {v : Value} (hc : TJ.hcell h a = some v) (hb : h'[a.block]? = h[a.block]?) : TJ.hcell h' a = some v := by
  unfold TJ.hcell at hc ⊢
  rw [hb]; exact hc
theorem ScrM.low {base : Nat} {h h' : Hp} {scv : Value} {sc : List (List SCall)} (x : ScrM base h scv sc) (hb : ∀ b, b < base → h'[b]? = h[b]?) : ScrM base h' scv sc := by
  refine ⟨x.val, x.big, fun i l hl => ?_⟩
  obtain ⟨b, o, k, a', k', e1, e2, e3, e4⟩ := x.row i l hl
  refine ⟨b, o, k, a', k', e1, e2, hcell_same e3 (hb _ e2), fun j q hq => ?_⟩
  obtain ⟨b', o', f1, f2, f3⟩ := e4 j q hq
  exact ⟨b', o', f1, f2, fun j v hv => hcell_same (f3 j v hv) (hb _ f2)⟩
structure SEnv (c : TC SAns) (n : Nat) (B : Nat → Nat) (f base : Nat) (sc : List (List SCall)) (pB sB S0 : Nat) (scv pv : Value) : Prop where
  T : c.old c.T
  K : StkX (UsT c) c.P (fun u i => (u i).1) n B
  low : ∀ b, b < base → c.old b ∧ b ≠ c.T
  p : c.old pB ∧ pB ≠ c.T ∧ c.hN[pB]? = some (.cells #[.int .i64 n, scv, pv] 27 (0, 0))
  s : c.old sB ∧ sB ≠ c.T ∧ c.hN[sB]? = some (.cells #[ptr S0] 29 (0, 0))
  st : c.old S0 ∧ S0 ≠ c.T ∧ c.hN[S0]? = some (.cells #[ptr (B 0), .slice (some ⟨c.T, 0, none⟩) c.n c.n] 44 (0, 0))
  scr : ScrM base c.hN scv sc
  len : sc.length = c.n
  P : ∀ i q, sc[i]? = some q → c.P i = scriptS B f q
  f : 65536 < f
  small : ∀ l, l ∈ sc → l.length ≤ 400
  ja : ∀ {i : Nat} {γ : GG (UsT c)} {u : (UsT c).U} {L : List (Nat × Obj)} {h : Hp}, Thr (UsT c) i γ u L h → PendS n B i γ → (UsT c).J (γ.p.acc i).log u (γ.p.acc i).val
  ty : c.e = 36 ∧ c.tS = 40 ∧ c.sz = 3 ∧ c.enc = sansL
structure SNow (c : TC SAns) (n : Nat) (B : Nat → Nat) (base : Nat) (sc : List (List SCall)) (pB sB S0 : Nat) (scv pv : Value) (h : Hp) : Prop where
  p : h[pB]? = some (.cells #[.int .i64 n, scv, pv] 27 (0, 0))
  s : h[sB]? = some (.cells #[ptr S0] 29 (0, 0))
  st : h[S0]? = some (.cells #[ptr (B 0), .slice (some ⟨c.T, 0, none⟩) c.n c.n] 44 (0, 0))
  scr : ScrM base h scv sc
theorem SEnv.now {c : TC SAns} {n : Nat} {B : Nat → Nat} {f base : Nat} {sc : List (List SCall)} {pB sB S0 : Nat} {scv pv : Value} (E : SEnv c n B f base sc pB sB S0 scv pv) {u : Nat → List SAns × Value} {h : Hp} (I : ToldI c u h) : SNow c n B base sc pB sB S0 scv pv h :=
  ⟨(I.old _ E.p.1 E.p.2.1).trans E.p.2.2, (I.old _ E.s.1 E.s.2.1).trans E.s.2.2, (I.old _ E.st.1 E.st.2.1).trans E.st.2.2, E.scr.low fun b hb => I.old b (E.low b hb).1 (E.low b hb).2⟩
end Go.Proofs.Ytcpcdnkemobneaa
end
section
namespace Go.Proofs.Ytcpcdnkemobneaa
open Go Go.TJ Go.Conc Go.Proofs
theorem drop_at {α : Type} {l : List α} {j : Nat} {a : α} (h : l[j]? = some a) : l.drop j = a :: l.drop (j + 1) := by
  obtain ⟨h1, h2⟩ := List.getElem?_eq_some_iff.1 h
  rw [List.drop_eq_getElem_cons h1, h2]
section
variable {c : TC SAns} {n : Nat} {B : Nat → Nat} {f base : Nat} {sc : List (List SCall)} {pB sB S0 : Nat} {scv pv : Value}
set_option maxRecDepth 8000 in
set_option maxHeartbeats 16000000 in
theorem sbody_ok (E : SEnv c n B f base sc pB sB S0 scv pv) {i iB : Nat} (hiB : c.old iB ∧ iB ≠ c.T ∧ c.hN[iB]? = some (.cells #[.int .i64 i] 3 (0, 0))) {q : List SCall} (hq : sc[i]? = some q) : Body (UsT c) i 15 #[ptr pB, ptr iB, ptr sB] := by
  intro h γ T hb ho
  have hX := usT_ok E.T
  obtain ⟨b, o, k, a', k', e1, e2, e3, e4⟩ := E.scr.row i q hq
  subst e1
  have hil := (take_mid hq).2.2
  have hin : i < c.n := by rw [← E.len]; exact hil
  have hbig := E.scr.big.1
  have hqb := E.scr.big.2 q (List.mem_of_getElem? hq)
  have hS : ∀ (u : (UsT c).U) (h : Hp), (UsT c).I u h → hcell h ⟨S0, 0, none⟩ = some (ptr (B 0)) := fun u h I => hcell_of (E.now I).st rfl
  have ht : (γ.p.u i).1 = [] := by
    obtain ⟨p, -, hp⟩ := T.Q i
    rw [hb] at hp
    exact hp
  have a0 : AtP (UsT c) c.P (fun u i => (u i).1) n B i γ γ.p.u [] h (scriptS B f (q.drop 0)) := ⟨T, by
    have := Res.born E.K.prog T hb ho ht
    rw [E.P i q hq] at this
    exact this, .inl hb⟩
  refine CallW.start (n := 44) rfl rfl ?_
  (repeat (first | refine EK.seq ?_ | refine EK.region ?_ | refine ER.done ?_ | refine EK.block ?_ | refine ER.assign rfl rfl rfl ?_))
  refine EK.loopInv (fun s : Nat × GG (UsT c) × (UsT c).U => [(5, .int .i64 s.1), (0, ptr (γ.p.tb i)), (1, ptr pB), (2, ptr iB), (3, ptr sB)]) (fun s h' δ' => δ' = ⟨0, s.2.1⟩ ∧ s.1 ≤ q.length ∧ AtP (UsT c) c.P (fun u i => (u i).1) n B i s.2.1 s.2.2 [] h' (scriptS B f (q.drop s.1)) ∧ Along (UsT c) i γ.p s.2.1.p ∧ (s.2.2 i).1.length = s.1) (fun s => q.length - s.1) (0, γ, γ.p.u) ⟨rfl, rfl, rfl, rfl, rfl, trivial⟩ ⟨rfl, Nat.zero_le _, a0, Along.refl _ _, by dsimp only; rw [ht]; rfl⟩ ?_
  clear a0 T hb ho ht
  rintro ⟨j, γ1, u1⟩ h1 δ1 ⟨hδ, hj, a, al, htl⟩ again
  dsimp only at hδ hj a al htl again ⊢
  subst hδ
  have zall : ∀ (u : Nat → List SAns × Value) (h' : Hp), ToldI c u h' → hcell h' ⟨sB, 0, none⟩ = some (ptr S0) ∧ hcell h' ⟨pB, 1, none⟩ = some (.slice (some ⟨b, o, none⟩) sc.length k) ∧ hcell h' ⟨iB, 0, none⟩ = some (.int .i64 i) ∧ hcell h' ⟨b, o + i * 1, none⟩ = some (.slice a' q.length k') := fun u h' I =>
    ⟨hcell_of (E.now I).s rfl, hcell_of (E.now I).p rfl, hcell_of ((I.old _ hiB.1 hiB.2.1).trans hiB.2.2) rfl, hcell_same e3 (I.old b (E.low b e2).1 (E.low b e2).2)⟩
  have z1 := zall u1 h1 a.thr.I
  obtain ⟨q1, q2, q3, q4⟩ := z1
  by_cases hjn : j < q.length
  · obtain ⟨cj, hcj⟩ : ∃ cj, q[j]? = some cj := ⟨_, List.getElem?_eq_getElem hjn⟩
    obtain ⟨b', o', ea, f2, f3⟩ := e4 j cj hcj
    subst ea
    have zrow : ∀ (u : Nat → List SAns × Value) (h' : Hp), ToldI c u h' → TJ.hrow h' b' (o' + j * 2) (scallL cj) := fun u h' I a v hv => hcell_same (f3 a v hv) (I.old b' (E.low b' f2).1 (E.low b' f2).2)
    have q5 := zrow u1 h1 a.thr.I
    rw [drop_at hcj] at a
    unfold scriptS at a
    (repeat (first | refine EK.seq ?_ | refine EK.region ?_ | refine ER.done ?_ | refine EK.skip ?_ | refine EK.block ?_ | refine ER.move rfl rfl rfl ?_ | refine ER.fieldAddr rfl rfl rfl ?_ | refine ER.cmpT rfl rfl rfl rfl rfl (by first | (dsimp only [cmpP]; omega) | exact rfl | exact Int.le_refl _) ?_ | refine ER.len1 rfl rfl rfl ?_ | refine ER.indexSl rfl rfl rfl rfl (by omega) (by omega) ?_ | refine EK.condT rfl ?_ | refine ER.load1 rfl rfl rfl (by assumption) ?_))
    refine EK.regionAnyM (fun s : Nat × GG (UsT c) × (UsT c).U × SAns => [(6, ptr s.1), (5, .int .i64 j), (0, ptr (γ.p.tb i)), (1, ptr pB), (2, ptr iB), (3, ptr sB)]) (fun s h' δ' => δ' = ⟨0, s.2.1⟩ ∧ CallP (UsT c) c.P (fun u i => (u i).1) n B i γ1 u1 [] s.2.1 s.2.2.1 h' (.emit s.2.2.2 (scriptS B f (q.drop (j + 1)))) ∧ h'[s.1]? = some (sansO s.2.2.2) ∧ ¬ (UsT c).Dom s.2.2.1 s.1) (fun h' => hcell h' ⟨sB, 0, none⟩ = some (ptr S0) ∧ hcell h' ⟨pB, 1, none⟩ = some (.slice (some ⟨b, o, none⟩) sc.length k) ∧ hcell h' ⟨iB, 0, none⟩ = some (.int .i64 i) ∧ hcell h' ⟨b, o + i * 1, none⟩ = some (.slice (some ⟨b', o', none⟩) q.length k') ∧ TJ.hrow h' b' (o' + j * 2) (scallL cj)) 12 (fun key => ?_) ?_
    · have hZ : _ ∧ _ ∧ _ ∧ _ ∧ _ := And.intro q1 ⟨q2, q3, q4, q5⟩
      refine EA.tLoad 0 rfl (by kernel_rfl) (by kernel_rfl) (by kernel_rfl) rfl rfl rfl rfl (fun _ hz => hz.1) hZ ?_
      refine EA.tMove 1 rfl (by kernel_rfl) (by kernel_rfl) (by kernel_rfl) rfl rfl rfl rfl hZ ?_
      refine EA.tField 2 rfl (by kernel_rfl) (by kernel_rfl) (by kernel_rfl) rfl rfl rfl rfl hZ ?_
      refine EA.tLoad 3 rfl (by kernel_rfl) (by kernel_rfl) (by kernel_rfl) rfl rfl rfl rfl (fun _ hz => hz.2.1) hZ ?_
      refine EA.tLoad 4 rfl (by kernel_rfl) (by kernel_rfl) (by kernel_rfl) rfl rfl rfl rfl (fun _ hz => hz.2.2.1) hZ ?_
      refine EA.tIdxS 5 rfl (by kernel_rfl) (by kernel_rfl) (by kernel_rfl) rfl rfl rfl rfl rfl (by omega) (by omega) hZ ?_
      refine EA.tLoad 6 rfl (by kernel_rfl) (by kernel_rfl) (by kernel_rfl) rfl rfl rfl rfl (fun _ hz => hz.2.2.2.1) hZ ?_
      refine EA.tMove 7 rfl (by kernel_rfl) (by kernel_rfl) (by kernel_rfl) rfl rfl rfl rfl hZ ?_
      refine EA.tIdxS 8 rfl (by kernel_rfl) (by kernel_rfl) (by kernel_rfl) rfl rfl rfl rfl rfl (by omega) (by omega) hZ ?_
      refine EA.tLoadN (vs := scallL cj) 9 rfl (by kernel_rfl) (by kernel_rfl) (by kernel_rfl) rfl rfl rfl rfl rfl (fun _ hz => hz.2.2.2.2) hZ ?_
      refine EA.alt2 10 11 (by kernel_rfl) ?_ ?_
      · refine eaiCallP (i := 10) rfl rfl rfl rfl rfl rfl rfl (scall_T E.K E.f a hS al.tb.symm) (fun _ _ _ x => x.along al) ?_
        rintro _ h2 δ2 ⟨γ2, u2, ans, rfl, rfl, cp⟩
        have I2 : ToldI c u2 h2 := cp.at_.thr.I
        have z2 := zall u2 h2 I2
        refine ⟨⟨z2.1, z2.2.1, z2.2.2.1, z2.2.2.2, zrow u2 h2 I2⟩, ?_⟩
        have T3 := cp.at_.thr.alloc hX (sansO (0, false, 0))
        have z3 := zall u2 _ T3.I
        refine EA.val (v := ptr h2.size) (h' := h2.push (sansO (0, false, 0))) 11 rfl (by kernel_rfl) rfl rfl rfl (fun ρ Q X hρ hq => sem_allocA hq) ⟨z3.1, z3.2.1, z3.2.2.1, z3.2.2.2, zrow u2 _ T3.I⟩ ?_
        have g3 := (T3.privs.1 _ List.mem_cons_self).1
        have T4 := T3.priv1 (o := sansO ans) hX (fun q hq => by cases hq)
        refine EA.unitL (h' := (h2.push (sansO (0, false, 0))).setIfInBounds h2.size (sansO ans)) 12 rfl (by kernel_rfl) rfl rfl rfl (fun ρ Q X hρ hq => sem_storeN (vs := sansL ans) (hρ _ _ rfl) (hρ _ _ rfl) rfl (by simp [sansL, OneCell]) (fun j hj => ⟨⟨_, hcell_of g3 (by simp only [List.getElem?_toArray]; rw [Nat.zero_add]; exact List.getElem?_eq_getElem (show j < (sansL (0, false, 0)).length from hj))⟩, hfroz_of g3, T3.free (.inr (.inr (.inl ⟨_, List.mem_cons_self, rfl⟩)))⟩) (by rw [row_set (c := sansL (0, false, 0)) (vs := sansL ans) g3 rfl]; exact hq)) ?_
        refine EA.done (by kernel_rfl) ?_
        exact EK.back (key (h2.size, γ2, u2, ans) _ _ ⟨rfl, ⟨cp.al, ⟨T4.sub hX (fun q hq => by cases hq), cp.at_.res, cp.at_.pend⟩, cp.V⟩, (T4.privs.1 _ List.mem_cons_self).1, (T4.privs.1 _ List.mem_cons_self).2⟩) ⟨rfl, rfl, rfl, rfl, rfl, rfl, trivial⟩
      · have T2 := a.thr.alloc hX (sansO (0, false, 0))
        have z2 := zall u1 _ T2.I
        refine EAi.val (i := 11) (v := ptr h1.size) (h' := h1.push (sansO (0, false, 0))) rfl rfl rfl rfl (fun ρ Q X hρ hq => sem_allocA hq) ⟨z2.1, z2.2.1, z2.2.2.1, z2.2.2.2, zrow u1 _ T2.I⟩ ?_
        refine eaCallP 10 rfl (by kernel_rfl) rfl rfl rfl rfl rfl rfl (scall_T E.K E.f ⟨T2, a.res, a.pend⟩ hS al.tb.symm) (fun _ _ _ x => x.along al) ?_
        rintro _ h3 δ2 ⟨γ2, u2, ans, rfl, rfl, cp⟩
        have I3 : ToldI c u2 h3 := cp.at_.thr.I
        have z3 := zall u2 h3 I3
        refine ⟨⟨z3.1, z3.2.1, z3.2.2.1, z3.2.2.2, zrow u2 h3 I3⟩, ?_⟩
        have T3 := cp.at_.thr
        have g3 := (T3.privs.1 _ List.mem_cons_self).1
        have T4 := T3.priv1 (o := sansO ans) hX (fun q hq => by cases hq)
        refine EA.unitL (h' := h3.setIfInBounds h1.size (sansO ans)) 12 rfl (by kernel_rfl) rfl rfl rfl (fun ρ Q X hρ hq => sem_storeN (vs := sansL ans) (hρ _ _ rfl) (hρ _ _ rfl) rfl (by simp [sansL, OneCell]) (fun j hj => ⟨⟨_, hcell_of g3 (by simp only [List.getElem?_toArray]; rw [Nat.zero_add]; exact List.getElem?_eq_getElem (show j < (sansL (0, false, 0)).length from hj))⟩, hfroz_of g3, T3.free (.inr (.inr (.inl ⟨_, List.mem_cons_self, rfl⟩)))⟩) (by rw [row_set (c := sansL (0, false, 0)) (vs := sansL ans) g3 rfl]; exact hq)) ?_
        refine EA.done (by kernel_rfl) ?_
        exact EK.back (key (h1.size, γ2, u2, ans) _ _ ⟨rfl, ⟨cp.al, ⟨T4.sub hX (fun q hq => by cases hq), cp.at_.res, cp.at_.pend⟩, cp.V⟩, (T4.privs.1 _ List.mem_cons_self).1, (T4.privs.1 _ List.mem_cons_self).2⟩) ⟨rfl, rfl, rfl, rfl, rfl, rfl, trivial⟩
    · clear q1 q2 q3 q4 q5 a
      rintro ⟨y, γ2, u2, ans⟩ h2 δ2 ⟨hδ, cp, gy, ny⟩
      dsimp only at hδ cp gy ny ⊢
      subst hδ
      have I2 : ToldI c u2 h2 := cp.at_.thr.I
      have al2 := al.trans cp.al
      have hV : u2 i = u1 i := cp.V
      have hq4 := E.small q (List.mem_of_getElem? hq)
      obtain ⟨eE, etS, esz, eenc⟩ := E.ty
      have inn := I2.inn i hin
      rw [eE, esz, eenc] at inn
      have hl2 : (u2 i).1.length = j := by rw [hV]; exact htl
      obtain ⟨aS, kS, eS⟩ := inn.val
      have zt : ∀ (h' : Hp), ToldI c u2 h' → hcell h' ⟨S0, 1, none⟩ = some (.slice (some ⟨c.T, 0, none⟩) c.n c.n) ∧ hcell h' ⟨c.T, 0 + i * 1, none⟩ = some (u2 i).2 := fun h' I => ⟨hcell_of (E.now I).st rfl, hcell_of I.out (by simp [hin])⟩
      have z2 := zall u2 h2 I2
      have t2 := zt h2 I2
      have ry : TJ.hrow h2 y 0 (sansL ans) := hrow_block (rest := []) (by rw [List.append_nil]; exact gy)
      skip
      refine EK.regionAnyL (fun h' => hcell h' ⟨sB, 0, none⟩ = some (ptr S0) ∧ hcell h' ⟨S0, 1, none⟩ = some (.slice (some ⟨c.T, 0, none⟩) c.n c.n) ∧ hcell h' ⟨iB, 0, none⟩ = some (.int .i64 i) ∧ hcell h' ⟨c.T, 0 + i * 1, none⟩ = some (u2 i).2 ∧ TJ.hrow h' y 0 (sansL ans)) 16 ?_
      have hZ : _ ∧ _ ∧ _ ∧ _ ∧ _ := And.intro z2.1 ⟨t2.1, z2.2.2.1, t2.2, ry⟩
      refine EA.tLoad 0 rfl (by kernel_rfl) (by kernel_rfl) (by kernel_rfl) rfl rfl rfl rfl (fun _ hz => hz.1) hZ ?_
      refine EA.tNil 1 rfl (by kernel_rfl) (by kernel_rfl) (by kernel_rfl) rfl rfl rfl rfl hZ ?_
      refine EA.tField 2 rfl (by kernel_rfl) (by kernel_rfl) (by kernel_rfl) rfl rfl rfl rfl hZ ?_
      refine EA.tLoad 3 rfl (by kernel_rfl) (by kernel_rfl) (by kernel_rfl) rfl rfl rfl rfl (fun _ hz => hz.2.1) hZ ?_
      refine EA.tLoad 4 rfl (by kernel_rfl) (by kernel_rfl) (by kernel_rfl) rfl rfl rfl rfl (fun _ hz => hz.2.2.1) hZ ?_
      refine EA.tLoad 5 rfl (by kernel_rfl) (by kernel_rfl) (by kernel_rfl) rfl rfl rfl rfl (fun _ hz => hz.1) hZ ?_
      refine EA.tNil 6 rfl (by kernel_rfl) (by kernel_rfl) (by kernel_rfl) rfl rfl rfl rfl hZ ?_
      refine EA.tField 7 rfl (by kernel_rfl) (by kernel_rfl) (by kernel_rfl) rfl rfl rfl rfl hZ ?_
      refine EA.tLoad 8 rfl (by kernel_rfl) (by kernel_rfl) (by kernel_rfl) rfl rfl rfl rfl (fun _ hz => hz.2.1) hZ ?_
      refine EA.tLoad 9 rfl (by kernel_rfl) (by kernel_rfl) (by kernel_rfl) rfl rfl rfl rfl (fun _ hz => hz.2.2.1) hZ ?_
      refine EA.tIdxS 10 rfl (by kernel_rfl) (by kernel_rfl) (by kernel_rfl) rfl rfl rfl rfl rfl (by omega) (by omega) hZ ?_
      refine EA.tLoad 11 rfl (by kernel_rfl) (by kernel_rfl) (by kernel_rfl) rfl rfl rfl rfl (fun _ hz => hz.2.2.2.1) hZ ?_
      refine EA.tLoadN (vs := sansL ans) 12 rfl (by kernel_rfl) (by kernel_rfl) (by kernel_rfl) rfl rfl rfl rfl rfl (fun _ hz => hz.2.2.2.2) hZ ?_
      have up := Upd.push (T := fun _ => False) h2 (.cells (sansL ans).toArray 36)
      have T3 := cp.at_.thr.upd0 hX up
      have I3 : ToldI c u2 (h2.push (.cells (sansL ans).toArray 36)) := T3.I
      have z3 := zall u2 _ I3
      have t3 := zt _ I3
      have hZ5 : _ ∧ _ ∧ _ ∧ _ ∧ _ := And.intro z3.1 ⟨t3.1, z3.2.2.1, t3.2, (fun j v hv => up.hcell (ry j v hv) (fun x => x) : TJ.hrow _ y 0 (sansL ans))⟩
      refine EA.val (v := .slice (some ⟨h2.size, 0, none⟩) 1 1) (h' := h2.push (.cells (sansL ans).toArray 36)) 13 rfl (by kernel_rfl) rfl rfl rfl (fun ρ Q X hρ hq => sem_slice1 (sz := 3) hρ rfl (by omega) (by omega) rfl rfl hq) hZ5 ?_
      have inn3 := I3.inn i hin
      rw [eE, esz, eenc] at inn3
      refine EA.append1 (new := sansL ans) 14 rfl (by kernel_rfl) rfl rfl rfl rfl rfl inn3 (get_push_new _ _) rfl (by simp [sansL, OneCell]) (by omega) (by omega) rfl (fun b o hb => T3.free (.inl (.inr ⟨(I3.new i b hin hb).2, i, hin, hb⟩))) ?_
      generalize h2.push (.cells (sansL ans).toArray 36) = h3 at T3 I3 z3 t3 hZ5 inn3 ⊢
      intro s6 h4 sl6 u6 hb6
      have nOld : ∀ b, c.old b → ¬ blk (u2 i).2 = some b := fun b hb hx => (I3.new i b hin hx).1 hb
      have ny' : ¬ blk (u2 i).2 = some y := fun hx => ny (.inr ⟨(I3.new i y hin hx).2, i, hin, hx⟩)
      have hZ6 : _ ∧ _ ∧ _ ∧ _ ∧ _ := And.intro (u6.hcell hZ5.1 (nOld _ E.s.1)) ⟨u6.hcell hZ5.2.1 (nOld _ E.st.1), u6.hcell hZ5.2.2.1 (nOld _ hiB.1), u6.hcell hZ5.2.2.2.1 (nOld _ E.T), (fun j v hv => u6.hcell (hZ5.2.2.2.2 j v hv) ny' : TJ.hrow _ y 0 (sansL ans))⟩
      refine ⟨hZ6, ?_⟩
      obtain ⟨a4, k4, e4'⟩ := sl6.val
      have fT : hfroz h4 ⟨c.T, 0 + i * 1, none⟩ = false := hfroz_of (u6.get I3.out (nOld _ E.T))
      refine EA.val 15 rfl (by kernel_rfl) rfl rfl rfl (fun ρ Q X hρ hq => sem_indexSl (hρ _ _ rfl) (hρ _ _ rfl) (by omega) (by omega) hq) hZ6 ?_
      refine EA.unitL (h' := hset h4 ⟨c.T, 0 + i * 1, none⟩ s6) 16 rfl (by kernel_rfl) rfl rfl rfl (fun ρ Q X hρ hq => sem_store1 (hρ _ _ rfl) (hρ _ _ rfl) (by rw [e4']; exact ⟨nofun, nofun⟩) ⟨_, hZ6.2.2.2.1⟩ fT (T3.free (.inl (.inl E.T))) hq) ?_
      refine EA.done (by kernel_rfl) ?_
      have T5 := T3.tell E.T hin u6 (by rw [eE, esz, eenc]; exact sl6) (fun b hb => (hb6 b hb).imp id (fun e => Nat.le_of_eq e.symm))
      have e9 : (ut (u2 : Nat → List SAns × Value) i ((u2 i).1 ++ [ans], s6)) i = ((u2 i).1 ++ [ans], s6) := ut_same _ _ _
      (repeat (first | refine EK.region ?_ | refine ER.done ?_ | refine EK.inBlock ?_ | refine ER.move rfl rfl rfl ?_ | refine ER.assign rfl rfl rfl ?_ | refine ER.add (kd := .i64) rfl rfl rfl rfl (i64_in (by omega) (by omega)) ?_))
      refine EK.back (again (j + 1, γ2, ut u2 i ((u2 i).1 ++ [ans], s6)) _ _ (by dsimp only; omega) ⟨rfl, by dsimp only; omega, ⟨T5, ?_, cp.at_.pend⟩, al2, ?_⟩) ⟨rfl, rfl, rfl, rfl, rfl, trivial⟩
      · exact (congrArg (fun z : List SAns × Value => Goes i (c.P i) (ownOf i (γ2.p.acc i).log) z.1 (scriptS B f (q.drop (j + 1)))) e9).mpr (Goes.tell cp.at_.res)
      · exact (congrArg (fun z : List SAns × Value => z.1.length) e9).trans (by simp [hl2])
  · obtain rfl : j = q.length := by omega
    clear again
    rw [List.drop_length] at a
    (repeat (first | refine EK.seq ?_ | refine EK.region ?_ | refine ER.done ?_ | refine ER.move rfl rfl rfl ?_ | refine ER.fieldAddr rfl rfl rfl ?_ | refine ER.cmpF rfl rfl rfl rfl rfl (by first | (dsimp only [cmpP]; omega) | exact rfl | exact Int.le_refl _) ?_ | refine ER.len1 rfl rfl rfl ?_ | refine ER.indexSl rfl rfl rfl rfl (by omega) (by omega) ?_ | refine EK.condF rfl ?_ | refine EK.exit rfl ?_ | refine ER.load1 rfl rfl rfl (by assumption) ?_))
    exact EK.done (EU.ret0 rfl ⟨γ1, u1, [], rfl, al, a.thr, Res.over E.K.prog a.res, E.ja a.thr a.pend⟩)
end
end Go.Proofs.Ytcpcdnkemobneaa
end
section
namespace Go.Proofs.Ytcpcdnkemobneaa
open Go Go.TJ Go.Conc Go.Proofs
section
variable {Γ : Type} {P : Program} {main : Bool} {S : Sit Γ} {f : FuncId} {n : Nat} {k : List Item} {env : Env} {ds : List Deferred} {h : Hp} {δ : Ix Γ} {R : Post Γ}
variable {ops : Array Oper} {l : List Oper} {d : Nat} {ty : TypeId} {pos : String} {af : Array Edge} {g : Option (Nat × Bool)}
theorem sem_appendNil {t e by_ : Nat} {z : Value} [hinf : Inf P e 1 by_ z] [hu : Und P t (.slice e)] {x : Value} {vs : List Value} {Q : Value → Hp → Ix Γ → Prop} {X : Value → Hp → Ix Γ → Prop}
    (hx : RdS h x vs) (hfit : vs.length * by_ ≤ 140737488355328) (hm : vs.length < 1000000000000) (hz : z.cells.size = 1)
    (hq : ∀ s' h', SliceO h' s' e 1 vs.length vs → Upd (fun _ => False) h h' → (∀ b, blk s' = some b → b = h.size) → Q s' h' δ) :
    SemW P S (Builtin.append_ #[t, t] ty #[.slice none 0 0, x]) h δ Q X := by
  obtain ⟨a, c', rfl⟩ := hx.val
  obtain ⟨inf, hi1, hi2, hi3, hi4⟩ := hinf.get
  have hfirst : ∀ {Q' : Array Value → Hp → Ix Γ → Prop}, Q' vs.toArray h δ → SemW P S (Builtin.firstCells 1 vs.length (.slice a vs.length c')) h δ Q' X := fun {Q'} hq' => by
    cases hv : vs with
    | nil =>
      subst hv
      cases a with
      | none => exact hq'
      | some a => exact hq'
    | cons v0 vt =>
      obtain ⟨b, o, k, e1, -⟩ := hx.cell 0 v0 (by rw [hv]; rfl)
      injection e1 with e1
      subst e1
      rw [← hv]
      show SemW P S (loadCells ⟨b, o, none⟩ (vs.length * 1)) h δ Q' X
      rw [Nat.mul_one]
      refine semW_loadCellsFrom vs 0 #[] (fun j v hj => ?_) (by simpa using hq')
      obtain ⟨b', o', k', e2, hc⟩ := hx.cell j v hj
      injection e2 with e2
      injection e2 with e2
      injection e2 with e2 e3
      subst e2 e3
      simpa using hc
  have hout := hu.out
  unfold Builtin.append_
  show SemW P S (underlying t >>= _) h δ Q X
  refine semW_underlying hout ?_
  show SemW P S (sizeOf e >>= _) h δ Q X
  refine semW_sizeOf hi1 ?_
  rw [hi2]
  show SemW P S (underlying t >>= _) h δ Q X
  refine semW_underlying hout ?_
  refine semW_pureBind ?_
  show SemW P S (pure vs.length >>= _) h δ Q X
  refine semW_pureBind ?_
  simp only []
  by_cases hle : 0 + vs.length ≤ 0
  · rw [if_pos hle]
    have hv : vs = [] := List.length_eq_zero_iff.1 (by omega)
    show SemW P S (Builtin.firstCells 1 vs.length (.slice a vs.length c') >>= _) h δ Q X
    refine semW_bind _ _ _ _ _ _ (hfirst ?_)
    refine semW_pure (Q := _) ?_
    subst hv
    exact hq _ _ SliceO.nil (Upd.refl _ _) (fun b hb => by cases hb)
  · rw [if_neg hle]
    have hmax : IntKind.i64.max = 9223372036854775807 := by decide
    refine semW_typeInfo hi1 ?_
    rw [if_neg (by rw [hmax]; omega)]
    refine semW_typeInfo hi1 ?_
    rw [if_neg (by rw [hi3]; have := growslice_fits (need := 0 + vs.length) (old := 0) (bytes := by_) (by omega) (by rw [Nat.zero_add]; exact hfit); omega)]
    refine semW_bind _ _ _ _ _ _ ?_
    intro newCap hcut
    have hge : vs.length ≤ newCap := by
      rcases hcut with ⟨h1, h2⟩ | ⟨h1, t', h2⟩
      · cases h1
      · rw [h2]; exact Nat.le_trans (Nat.le_of_eq (Nat.zero_add _).symm) (Nat.le_add_right _ _)
    refine semW_pure (Q := _) ?_
    refine semW_typeInfo hi1 ?_
    have hroom : ∀ {Q' : Unit → Hp → Ix Γ → Prop}, Q' () h δ → SemW P S (askRoom (newCap * inf.bytes)) h δ Q' X := fun {Q'} hq' => by
      unfold askRoom
      split
      · exact ⟨nofun, nofun, hq'⟩
      · exact hq'
    refine semW_bind _ _ _ _ _ _ (hroom ?_)
    show SemW P S (Builtin.firstCells 1 0 (.slice none 0 0) >>= _) h δ Q X
    refine semW_pureBind ?_
    show SemW P S (Builtin.firstCells 1 vs.length (.slice a vs.length c') >>= _) h δ Q X
    refine semW_bind _ _ _ _ _ _ (hfirst ?_)
    refine semW_zeroValue hi1 hi4 ?_
    refine ⟨thawed, ?_⟩
    refine semW_pure (Q := _) ?_
    have hzc : (Builtin.zeroCells z.cells (newCap - (0 + vs.length))).toList.length = (newCap - vs.length) * 1 := by simp [Builtin.zeroCells, hz]
    rw [Nat.zero_add] at *
    refine hq _ _ ⟨by omega, .inr ⟨h.size, newCap, (Builtin.zeroCells z.cells (newCap - vs.length)).toList, rfl, hge, hzc, ?_⟩⟩ (Upd.push _ _) (fun b hb => by cases hb; rfl)
    rw [get_push_new]
    congr 2
    simp
theorem ER.appendNil {t e by_ : Nat} {z : Value} [Inf P e 1 by_ z] [Und P t (.slice e)] {x y : Operand} {s : Value} {vs : List Value}
    (hw : wantE ops env g = some true) (hd : Nat.blt d n = true) (hx : ev env x = some (.slice none 0 0)) (hy : ev env y = some s)
    (hs : RdS h s vs) (hfit : vs.length * by_ ≤ 140737488355328) (hm : vs.length < 1000000000000) (hz : z.cells.size = 1)
    (hn : ∀ s' h', SliceO h' s' e 1 vs.length vs → Upd (fun _ => False) h h' → (∀ b, blk s' = some b → b = h.size) → ER P main S f n ops l k ((d, s') :: env) ds h' δ R) :
    ER P main S f n ops (⟨some d, .call { callee := .builtin .append, args := #[x, y], argTypes := #[t, t] }, ty, pos, af, g⟩ :: l) k env ds h δ R := by
  refine ER.val (Q := fun s' h' δ' => δ' = δ ∧ SliceO h' s' e 1 vs.length vs ∧ Upd (fun _ => False) h h' ∧ (∀ b, blk s' = some b → b = h.size)) hw hd (fun ρ hρ => sem_builtin (vs := #[.slice none 0 0, s]) (by simp [hρ x _ hx, hρ y _ hy]) fun cs => ?_) ?_
  · show SemW P S (Builtin.append_ #[t, t] ty #[.slice none 0 0, s] >>= fun v => pure (Next.value v)) h δ _ _
    exact semW_bind _ _ _ _ _ _ (sem_appendNil hs hfit hm hz (fun s' h' h1 h2 h3 => ⟨s', rfl, rfl, h1, h2, h3⟩))
  · rintro s' h' δ' ⟨rfl, h1, h2, h3⟩
    exact hn s' h' h1 h2 h3
end
end Go.Proofs.Ytcpcdnkemobneaa
end
section
namespace Go.Proofs.Ytcpcdnkemobneaa
open Go Go.TJ Go.Conc Go.Proofs
section
variable {Γ : Type} {main : Bool} {S : Sit Γ} {δ : Ix Γ} {h : Hp}
theorem behind_ok {op was arg new : Int} (h1 : 1 ≤ op) (h2 : op ≤ 5) : CallW Try.prog main S 148 #[.int .i8 op, .int .i64 was, .int .i64 arg, .int .i64 new] h δ (Ret (Det (.tuple #[.int .i64 (behind op was arg new).1, .bool (behind op was arg new).2]) h δ)) := by
  refine CallW.start (n := 27) rfl rfl ?_
  rcases (show op = 1 ∨ op = 2 ∨ op = 3 ∨ op = 4 ∨ op = 5 by omega) with rfl | rfl | rfl | rfl | rfl
  · (repeat (first | refine EK.seq ?_ | refine EK.region ?_ | refine ER.done ?_ | refine EK.skip ?_ | refine EK.block ?_ | refine EK.inBlock ?_ | refine ER.move rfl rfl rfl ?_ | refine ER.assign rfl rfl rfl ?_ | refine ER.cmpF rfl rfl rfl rfl rfl (by first | (dsimp only [cmpP]; omega) | exact rfl | exact Int.le_refl _) ?_ | refine EK.condF rfl ?_ | refine EK.ret ?_))
    exact EU.ret2 rfl rfl rfl det
  · (repeat (first | refine EK.seq ?_ | refine EK.region ?_ | refine ER.done ?_ | refine EK.skip ?_ | refine EK.block ?_ | refine ER.move rfl rfl rfl ?_ | refine ER.assign rfl rfl rfl ?_ | refine ER.cmpT rfl rfl rfl rfl rfl (by first | (dsimp only [cmpP]; omega) | exact rfl | exact Int.le_refl _) ?_ | refine EK.condT rfl ?_ | refine EK.ret ?_))
    exact EU.ret2 rfl rfl rfl det
  · by_cases e : was = arg
    · have e1 : behind 3 was arg new = (new, true) := by unfold behind; simp [e]
      rw [e1]
      (repeat (first | refine EK.seq ?_ | refine EK.region ?_ | refine ER.done ?_ | refine EK.block ?_ | refine ER.move rfl rfl rfl ?_ | refine ER.assign rfl rfl rfl ?_ | refine ER.cmpT rfl rfl rfl rfl rfl (by first | (dsimp only [cmpP]; omega) | exact rfl | exact Int.le_refl _) ?_ | refine ER.cmpF rfl rfl rfl rfl rfl (by first | (dsimp only [cmpP]; omega) | exact rfl | exact Int.le_refl _) ?_ | refine EK.condT rfl ?_ | refine EK.condF rfl ?_ | refine EK.ret ?_))
      exact EU.ret2 rfl rfl rfl det
    · have e1 : behind 3 was arg new = (was, false) := by unfold behind; simp [e]
      rw [e1]
      (repeat (first | refine EK.seq ?_ | refine EK.region ?_ | refine ER.done ?_ | refine EK.skip ?_ | refine EK.block ?_ | refine EK.inBlock ?_ | refine ER.move rfl rfl rfl ?_ | refine ER.assign rfl rfl rfl ?_ | refine ER.cmpT rfl rfl rfl rfl rfl (by first | (dsimp only [cmpP]; omega) | exact rfl | exact Int.le_refl _) ?_ | refine ER.cmpF rfl rfl rfl rfl rfl (by first | (dsimp only [cmpP]; omega) | exact rfl | exact Int.le_refl _) ?_ | refine EK.condT rfl ?_ | refine EK.condF rfl ?_ | refine EK.ret ?_))
      exact EU.ret2 rfl rfl rfl det
  · have e1 : behind 4 was arg new = (IntKind.i64.wrap (was + arg), false) := rfl
    rw [e1]
    (repeat (first | refine EK.seq ?_ | refine EK.region ?_ | refine ER.done ?_ | refine EK.block ?_ | refine ER.move rfl rfl rfl ?_ | refine ER.assign rfl rfl rfl ?_ | refine ER.cmpT rfl rfl rfl rfl rfl (by first | (dsimp only [cmpP]; omega) | exact rfl | exact Int.le_refl _) ?_ | refine ER.cmpF rfl rfl rfl rfl rfl (by first | (dsimp only [cmpP]; omega) | exact rfl | exact Int.le_refl _) ?_ | refine EK.condT rfl ?_ | refine EK.condF rfl ?_))
    refine ER.add (kd := .i64) rfl rfl rfl rfl rfl ?_
    (repeat (first | refine ER.done ?_ | refine ER.assign rfl rfl rfl ?_ | refine EK.ret ?_))
    exact EU.ret2 rfl rfl rfl det
  · (repeat (first | refine EK.seq ?_ | refine EK.region ?_ | refine ER.done ?_ | refine EK.block ?_ | refine ER.move rfl rfl rfl ?_ | refine ER.assign rfl rfl rfl ?_ | refine ER.cmpT rfl rfl rfl rfl rfl (by first | (dsimp only [cmpP]; omega) | exact rfl | exact Int.le_refl _) ?_ | refine ER.cmpF rfl rfl rfl rfl rfl (by first | (dsimp only [cmpP]; omega) | exact rfl | exact Int.le_refl _) ?_ | refine EK.condT rfl ?_ | refine EK.condF rfl ?_ | refine EK.ret ?_))
    exact EU.ret2 rfl rfl rfl det
theorem turns_ok {m : Nat} (hm : m ≤ 65536) : CallW Try.prog main S 78 #[.int .i64 m] h δ (Ret (Det (.int .i64 m) h δ)) := by
  refine CallW.start (n := 8) rfl rfl ?_
  (repeat (first | refine EK.seq ?_ | refine EK.region ?_ | refine ER.done ?_ | refine EK.skip ?_ | refine ER.move rfl rfl rfl ?_ | refine ER.assign rfl rfl rfl ?_ | refine ER.cmpF rfl rfl rfl rfl rfl (by first | (dsimp only [cmpP]; omega) | exact rfl | exact Int.le_refl _) ?_ | refine EK.condF rfl ?_ | refine EK.ret ?_))
  exact EU.ret1 rfl rfl det
theorem place_ok {x : Int} {n : Nat} (hn : 0 < n) (hn2 : n ≤ 1000) : CallW Try.prog main S 65 #[.int .i64 x, .int .i64 n] h δ (Ret (Det (.int .i64 (x % (n : Int))) h δ)) := by
  have h1 := Int.lt_tmod_of_pos x (b := (n : Int)) (by omega)
  have h2 := Int.tmod_lt_of_pos x (b := (n : Int)) (by omega)
  have h3 := Int.emod_nonneg x (b := (n : Int)) (by omega)
  have h4 := Int.emod_lt_of_pos x (b := (n : Int)) (by omega)
  have h5 : x.tmod n = x % (n : Int) ∨ x.tmod n + n = x % (n : Int) := by
    have k := tmod_twice x (m := (n : Int)) (by omega)
    have k2 : (x.tmod n + n).tmod n = (x.tmod n + n) % (n : Int) := Int.tmod_eq_emod_of_nonneg (by omega)
    rcases Int.lt_or_le (x.tmod n) 0 with y | y
    · right
      rw [← k, k2, Int.emod_eq_of_lt (by omega) (by omega)]
    · left
      rw [← k, k2, Int.add_emod_right, Int.emod_eq_of_lt (by omega) (by omega)]
  generalize hr : x % (n : Int) = r at h3 h4 h5 ⊢
  refine CallW.start (n := 15) rfl rfl ?_
  (repeat (first | refine EK.seq ?_ | refine EK.region ?_ | refine ER.done ?_ | refine ER.move rfl rfl rfl ?_ | refine ER.assign rfl rfl rfl ?_))
  refine ER.rem (r := x.tmod (n : Int)) rfl rfl rfl rfl (by omega) rfl ?_
  generalize x.tmod (n : Int) = q at h1 h2 h5 ⊢
  by_cases hq : q < 0
  · obtain rfl : r = q + n := by omega
    (repeat (first | refine EK.seq ?_ | refine EK.region ?_ | refine ER.done ?_ | refine ER.move rfl rfl rfl ?_ | refine ER.assign rfl rfl rfl ?_ | refine ER.cmpT rfl rfl rfl rfl rfl (by first | (dsimp only [cmpP]; omega) | exact rfl | exact Int.le_refl _) ?_ | refine ER.add (kd := .i64) rfl rfl rfl rfl (i64_in (by omega) (by omega)) ?_ | refine EK.condT rfl ?_ | refine EK.ret ?_))
    exact EU.ret1 rfl rfl det
  · obtain rfl : r = q := by omega
    (repeat (first | refine EK.seq ?_ | refine EK.region ?_ | refine ER.done ?_ | refine EK.skip ?_ | refine ER.move rfl rfl rfl ?_ | refine ER.assign rfl rfl rfl ?_ | refine ER.cmpF rfl rfl rfl rfl rfl (by first | (dsimp only [cmpP]; omega) | exact rfl | exact Int.le_refl _) ?_ | refine EK.condF rfl ?_ | refine EK.ret ?_))
    exact EU.ret1 rfl rfl det
theorem most_ok {l : List Nat} {last : Int} {sv : Value} (hl : SliceO h sv 3 1 l.length (l.map fun (n : Nat) => Value.int .i64 (n : Int))) (hne : l ≠ []) (hlen : l.length ≤ 1000) : CallW Try.prog main S 178 #[sv, .int .i64 last] h δ (Ret (Det (.int .i64 (roundOf l last)) h δ)) := by
  have hpos : 0 < l.length := List.length_pos_iff.2 hne
  obtain ⟨a, kL, rfl⟩ := hl.val
  obtain ⟨bL, ea, hc0, _⟩ := slice_at hl (k := 0) (q := l.headD 0) (by cases l with | nil => exact absurd rfl hne | cons a t => rfl)
  subst ea
  refine CallW.start (n := 25) rfl rfl ?_
  (repeat (first | refine EK.seq ?_ | refine EK.region ?_ | refine ER.done ?_ | refine EK.block ?_ | refine ER.assign rfl rfl rfl ?_))
  refine EK.loopInv (fun i : Nat => [(5, .int .i64 i), (0, .slice (some ⟨bL, 0, none⟩) l.length kL), (1, .int .i64 last)]) (fun i h' δ' => i ≤ l.length ∧ h' = h ∧ δ' = δ ∧ ∀ (k x : Nat), k < i → l[k]? = some x → (x : Int) ≤ last) (fun i => l.length - i) 0 ⟨rfl, rfl, rfl, trivial⟩ ⟨Nat.zero_le _, rfl, rfl, fun k x hk => by omega⟩ ?_
  rintro i h1 δ1 ⟨hi, rfl, rfl, hb⟩ again
  by_cases hin : i < l.length
  · obtain ⟨j, hj⟩ : ∃ j, l[i]? = some j := ⟨_, List.getElem?_eq_getElem hin⟩
    obtain ⟨b2, e2, hc, _⟩ := slice_at hl hj
    injection e2 with e2
    injection e2 with e2
    subst e2
    by_cases hgt : last < (j : Int)
    · (repeat (first | refine EK.seq ?_ | refine EK.region ?_ | refine ER.done ?_ | refine EK.skip ?_ | refine EK.block ?_ | refine ER.move rfl rfl rfl ?_ | refine ER.assign rfl rfl rfl ?_ | refine ER.cmpT rfl rfl rfl rfl rfl (by first | (dsimp only [cmpP]; omega) | exact rfl | exact Int.le_refl _) ?_ | refine ER.len1 rfl rfl rfl ?_ | refine ER.indexSl rfl rfl rfl rfl (by omega) (by omega) ?_ | refine EK.condT rfl ?_ | refine EK.ret ?_ | refine ER.load1 rfl rfl rfl (by assumption) ?_))
      refine EU.ret1 rfl rfl ?_
      rw [round_at hj hgt hb]
      exact det
    · (repeat (first | refine EK.seq ?_ | refine EK.region ?_ | refine ER.done ?_ | refine EK.skip ?_ | refine EK.block ?_ | refine EK.inBlock ?_ | refine ER.move rfl rfl rfl ?_ | refine ER.assign rfl rfl rfl ?_ | refine ER.cmpT rfl rfl rfl rfl rfl (by first | (dsimp only [cmpP]; omega) | exact rfl | exact Int.le_refl _) ?_ | refine ER.cmpF rfl rfl rfl rfl rfl (by first | (dsimp only [cmpP]; omega) | exact rfl | exact Int.le_refl _) ?_ | refine ER.add (kd := .i64) rfl rfl rfl rfl (i64_in (by omega) (by omega)) ?_ | refine ER.len1 rfl rfl rfl ?_ | refine ER.indexSl rfl rfl rfl rfl (by omega) (by omega) ?_ | refine EK.condT rfl ?_ | refine EK.condF rfl ?_ | refine ER.load1 rfl rfl rfl (by assumption) ?_))
      refine EK.back (again (i + 1) _ _ (by omega) ⟨by omega, rfl, rfl, fun k x hk hx => ?_⟩) ⟨rfl, rfl, rfl, trivial⟩
      by_cases e : k = i
      · subst e
        rw [hj] at hx; cases hx; omega
      · exact hb k x (by omega) hx
  · obtain rfl : i = l.length := by omega
    clear again
    (repeat (first | refine EK.seq ?_ | refine EK.region ?_ | refine ER.done ?_ | refine ER.move rfl rfl rfl ?_ | refine ER.assign rfl rfl rfl ?_ | refine ER.cmpF rfl rfl rfl rfl rfl (by first | (dsimp only [cmpP]; omega) | exact rfl | exact Int.le_refl _) ?_ | refine ER.len1 rfl rfl rfl ?_ | refine ER.indexSl rfl rfl rfl rfl (by omega) (by omega) ?_ | refine EK.condF rfl ?_ | refine EK.ret ?_ | refine EK.exit rfl ?_ | refine ER.load1 rfl rfl rfl (by assumption) ?_))
    refine EU.ret1 rfl rfl ?_
    rw [round_none (fun k x hx => hb k x (take_mid hx).2.2 hx)]
    exact det
end
end Go.Proofs.Ytcpcdnkemobneaa
end
section
namespace Go.Proofs.Ytcpcdnkemobneaa
open Go Go.TJ Go.Conc Go.Proofs
theorem ER.join {Γ : Type} {P : Program} {main : Bool} {S : Sit Γ} {f : FuncId} {n : Nat} {ops : Array Oper} {l : List Oper} {k : List Item} {env : Env} {ds : List Deferred} {h : Hp} {δ : Ix Γ} {R : Post Γ} {σ : Type} (E : σ → Env) (I : σ → Hp → Ix Γ → Prop) (h1 : (∀ s h' δ', I s h' δ' → EK P main S f n k (E s) ds h' δ' R) → ER P main S f n ops l k env ds h δ R) (h2 : ∀ s h' δ', I s h' δ' → EK P main S f n k (E s) ds h' δ' R) : ER P main S f n ops l k env ds h δ R := h1 h2
theorem EK.join {Γ : Type} {P : Program} {main : Bool} {S : Sit Γ} {f : FuncId} {n : Nat} {c : Item} {k : List Item} {env : Env} {ds : List Deferred} {h : Hp} {δ : Ix Γ} {R : Post Γ} {σ : Type} (E : σ → Env) (I : σ → Hp → Ix Γ → Prop) (h1 : (∀ s h' δ', I s h' δ' → EK P main S f n k (E s) ds h' δ' R) → EK P main S f n (c :: k) env ds h δ R) (h2 : ∀ s h' δ', I s h' δ' → EK P main S f n k (E s) ds h' δ' R) : EK P main S f n (c :: k) env ds h δ R := h1 h2
theorem EA.join {Γ : Type} {P : Program} {main : Bool} {S : Sit Γ} {f : FuncId} {n : Nat} {ops : Array Oper} {Z : Hp → Prop} {z m : Nat} {listed : Array Bool} {k : List Item} {env : Env} {ds : List Deferred} {h : Hp} {δ : Ix Γ} {R : Post Γ} {σ : Type} (E : σ → Env) (I : σ → Hp → Ix Γ → Prop) (h1 : (∀ s h' δ', I s h' δ' → EK P main S f n k (E s) ds h' δ' R) → EA P main S f n ops Z z m listed k env ds h δ R) (h2 : ∀ s h' δ', I s h' δ' → EK P main S f n k (E s) ds h' δ' R) : EA P main S f n ops Z z m listed k env ds h δ R := h1 h2
theorem EA.tNeqB {Γ : Type} {P : Program} {main : Bool} {S : Sit Γ} {f : FuncId} {n : Nat} {ops : Array Oper} {Z : Hp → Prop} {z m : Nat} {listed l' : Array Bool} {k : List Item} {env : Env} {ds : List Deferred} {h : Hp} {δ : Ix Γ} {R : Post Γ} {d : Nat} {ty : TypeId} {pos : String} {af : Array Edge} {g : Option (Nat × Bool)} {t t2 : TypeId} {x y : Operand} {u w : Value} {dd : TypeDesc} {r : Bool} [hu : Und P t dd] (i : Nat)
    (hi : ops[i]? = some ⟨some d, .binOp .neq t x y t2, ty, pos, af, g⟩) (hs : (Region.noSelect ops && TJ.Region.pinned ops z i) = true) (hf : Region.free .any ops listed i = true) (hr : (Region.ready .any ops listed).contains i = true) (hl : listed.setIfInBounds i true = l')
    (hd : Nat.blt d n = true) (hw : wantE ops env g = some true) (hx : ev env x = some u) (hy : ev env y = some w) (he : eqRes dd u w = some r) (hZ : Z h)
    (hn : EA P main S f n ops Z z m l' k ((d, .bool (!r)) :: env) ds h δ R) : EA P main S f n ops Z z (m + 1) listed k env ds h δ R :=
  EA.take i hi hs hf hr hl hd hw (fun _ _ _ _ _ hρ _ hq => sem_neqV (hρ _ _ hx) (hρ _ _ hy) he hq) hZ hn
theorem rise_len {n : Nat} : ∀ {l : List Nat} (m : Nat), l.Pairwise (· < ·) → (∀ a, a ∈ l → m ≤ a) → (∀ a, a ∈ l → a < n) → l.length ≤ n - m
  | [], _, _, _, _ => Nat.zero_le _
  | a :: l, m, h, hm, hn => by
    obtain ⟨h1, h2⟩ := List.pairwise_cons.1 h
    have := rise_len (n := n) (a + 1) h2 h1 (fun b hb => hn b (by simp [hb]))
    have ha := hm a (by simp)
    have hb := hn a (by simp)
    simp only [List.length_cons]
    omega
theorem numsA_len : ∀ (l : List Ev) (acc : List Nat), (numsA acc l).length ≤ acc.length + l.length
  | [], acc => by simp [numsA]
  | e :: l, acc => by
    have h1 := numsA_len l acc
    have h2 := numsA_len l (acc ++ [e.b])
    unfold numsA at h1 h2 ⊢
    rw [List.foldl_cons]
    split
    · simp; omega
    · simp at h2 ⊢; omega
theorem nums_len (l : List Ev) : (nums l).length ≤ l.length := by
  have := numsA_len l []
  simpa [nums, numsA] using this
section
variable {Γ : Type} {main : Bool} {δ : Ix Γ} {h h' : Hp} {R : Rec} {picks : List Int} {lL lW lY lV sP tv cv : Value} {last : Int} {C n most : Nat} {e : Int} {X : Us}
theorem RecM.updC (m : RecM R picks lL lW lY lV sP h) (hC : h[C]? = some (chkO e n lL lW lY lV sP most tv cv last)) (hP : picks ≠ [] → ∀ b, blk sP = some b → b ≠ C) (u : Upd (fun b => b = C) h h') : RecM R picks lL lW lY lV sP h' :=
  ⟨m.log.upd u (sliceO_ne m.log hC (by decide)), m.went.upd u (sliceO_ne m.went hC (by decide)), m.rdy.upd u (sliceO_ne m.rdy hC (by decide)), m.left.upd u (sliceO_ne m.left hC (by decide)), m.picks.upd u (fun hn => hP (fun e => hn (by rw [e]; rfl)))⟩
structure MemI (R : Rec) (h : Hp) (C : Nat) (lL lW lY lV sP tv : Value) (last : Int) (n : Nat) (k : Nat) (v : Nat → Int) (nv cv : Value) (h' : Hp) : Prop where
  upd : Upd (fun b => b = C) h h'
  row : h'[C]? = some (chkO R.e n lL lW lY lV sP R.most tv cv last)
  now : SliceO h' nv 2 1 (nums (R.log.take k)).length ((nums (R.log.take k)).map fun b => Value.int .i64 (v b))
  fst : SliceO h' cv 2 1 (nums (R.log.take k)).length ((nums (R.log.take k)).map fun b => Value.int .i64 (R.v0 b))
  newn : ∀ b, blk nv = some b → h.size ≤ b
  newc : ∀ b, blk cv = some b → h.size ≤ b
  ne : ∀ b, blk nv = some b → blk cv ≠ some b
set_option maxHeartbeats 8000000 in
set_option maxRecDepth 8000 in
theorem memory_ok (ok : RecOk X picks R) (m : RecM R picks lL lW lY lV sP h) (hC : h[C]? = some (chkO R.e n lL lW lY lV sP R.most tv nilS last)) (hP : picks ≠ [] → ∀ b, blk sP = some b → b ≠ C) :
    CallW Try.prog main (NoS (Γ := Γ)) 79 #[ptr C] h δ (Ret fun v h' δ' => δ' = δ ∧ v = .bool true ∧ ∃ cv, h'[C]? = some (chkO R.e n lL lW lY lV sP R.most tv cv last) ∧ Upd (fun b => b = C) h h' ∧ SliceO h' cv 2 1 (nums R.log).length ((nums R.log).map fun b => Value.int .i64 (R.v0 b)) ∧ ∀ b, blk cv = some b → h.size ≤ b) := by
  have hlen := ok.len
  have hmost := ok.most
  have hnl : ∀ k, (nums (R.log.take k)).length ≤ 65536 := fun k => by
    have := nums_len
    have h1 := this (R.log.take k)
    have h2 := List.length_take_le k R.log
    have h3 : (R.log.take k).length ≤ R.log.length := by rw [List.length_take]; omega
    omega
  have hCl := lt_of_get hC
  obtain ⟨aL, kL, eL⟩ := m.log.val
  obtain ⟨aV, kV, eV⟩ := m.left.val
  subst eL eV
  refine CallW.start (n := 237) rfl rfl ?_
  (repeat (first | refine EK.seq ?_ | refine EK.region ?_ | refine ER.done ?_ | refine EK.block ?_ | refine ER.assign rfl rfl rfl ?_))
  refine EK.loopInv (fun q : Nat × Value × Value × (Nat → Int) => [(4, .int .i64 q.1), (3, q.2.1), (0, ptr C)]) (fun q h' δ' => q.1 ≤ R.log.length ∧ δ' = δ ∧ Chain X R.v0 (R.log.take q.1) q.2.2.2 ∧ MemI R h C (.slice aL R.log.length kL) lW lY (.slice aV R.left.length kV) sP tv last n q.1 q.2.2.2 q.2.1 q.2.2.1 h') (fun q => R.log.length - q.1) (0, nilS, nilS, R.v0) ⟨rfl, rfl, rfl, trivial⟩ ⟨Nat.zero_le _, rfl, .nil, Upd.refl _ _, hC, SliceO.nil, SliceO.nil, fun b hb => (by cases hb), fun b hb => (by cases hb), fun b hb => (by cases hb)⟩ ?_
  rintro ⟨k, nv, cv, v⟩ h1 δ1 ⟨hk, hδ, ch, mi⟩ again
  dsimp only at hk ch mi again hδ ⊢
  subst hδ
  have m1 := m.updC hC hP mi.upd
  by_cases hin : k < R.log.length
  · obtain ⟨e, he⟩ : ∃ e, R.log[k]? = some e := ⟨_, List.getElem?_eq_getElem hin⟩
    obtain ⟨bL, ea, hrow, hz⟩ := slice_row (entL_len (nums R.log)) m1.log he
    subst ea
    have c2 : hcell h1 ⟨C, 2, none⟩ = some (.slice (some ⟨bL, 0, none⟩) R.log.length kL) := hcell_of mi.row rfl
    (repeat (first | refine EK.seq ?_ | refine EK.region ?_ | refine ER.done ?_ | refine EK.skip ?_ | refine EK.block ?_ | refine ER.move rfl rfl rfl ?_ | refine ER.nilCheck rfl rfl rfl ?_ | refine ER.fieldAddr rfl rfl rfl ?_ | refine ER.cmpT rfl rfl rfl rfl rfl (by first | (dsimp only [cmpP]; omega) | exact rfl | exact Int.le_refl _) ?_ | refine ER.len1 rfl rfl rfl ?_ | refine ER.indexSl rfl rfl rfl rfl (by omega) (by omega) ?_ | refine EK.condT rfl ?_ | refine ER.load1 rfl rfl rfl (by assumption) ?_))
    refine ER.loadN (vs := entL (nums R.log) e) rfl rfl rfl rfl hrow ?_
    (repeat refine ER.allocA rfl rfl ?_)
    refine ER.storeN (vs := entL (nums R.log) e) rfl rfl rfl rfl (by simp [entL, accL, OneCell]) (fun j hj => ⟨?_, hfroz_of (get_push_new _ _), fun x => x⟩) ?_
    · have hj' : j < 8 := hj
      rcases (show j = 0 ∨ j = 1 ∨ j = 2 ∨ j = 3 ∨ j = 4 ∨ j = 5 ∨ j = 6 ∨ j = 7 by omega) with rfl | rfl | rfl | rfl | rfl | rfl | rfl | rfl <;> exact ⟨_, hcell_of (get_push_new _ _) rfl⟩
    rw [hsetRow_push (c := [.int .i64 0, .int .i8 0, .int .i64 0, .int .i64 0, .int .i64 0, .int .i64 0, .int .i64 0, .bool false]) (vs := entL (nums R.log) e) rfl]
    obtain ⟨w, i, r, cw, hr, e1, ch2⟩ := ok.chain.inv he
    obtain rfl := cw.det ch
    obtain ⟨i1, i2, i3, i4⟩ := idx_at he
    obtain ⟨hop1, hop2⟩ := And.intro hr.op1 hr.op2
    have harg := hr.arg
    have hnew := hr.new
    generalize hix : (nums R.log).idxOf e.b = ix at i1 i2 i3 i4
    have hent : entL (nums R.log) e = accL i r.op ix r.arg r.new (v r.b) (behind r.op (v r.b) r.arg r.new).1 (behind r.op (v r.b) r.arg r.new).2 := by unfold entL; rw [hix, e1]; rfl
    have heb : e.b = r.b := by rw [e1]; rfl
    rw [hent]
    rw [heb] at i1 i3 i4
    clear e1 hent hrow hz c2
    obtain ⟨op, rb, arg, new⟩ := r
    dsimp only at hop1 hop2 harg hnew i3 i4 ch2 ⊢
    generalize hx : behind op (v rb) arg new = x at ch2 ⊢
    refine ER.gen (fun h' => MemI R h C (.slice (some ⟨bL, 0, none⟩) R.log.length kL) lW lY (.slice aV R.left.length kV) sP tv last n k v nv cv h' ∧ h'[h1.size]? = some (accO (accL i op ix arg new (v rb) x.1 x.2))) ⟨⟨upd_then mi.upd (Upd.push (T := fun _ => False) h1 _) (fun _ _ x => x.elim), get_push _ mi.row, mi.now.upd (Upd.push (T := fun _ => False) h1 _) (fun _ _ x => x), mi.fst.upd (Upd.push (T := fun _ => False) h1 _) (fun _ _ x => x), mi.newn, mi.newc, mi.ne⟩, get_push_new _ _⟩ ?_
    have hy0 : h.size ≤ h1.size := mi.upd.size
    obtain ⟨y, hy⟩ : ∃ y, y = h1.size := ⟨_, rfl⟩
    rw [← hy] at hy0 ⊢
    clear mi m1 hy
    rintro h2 ⟨mi, ly⟩
    have hnk := hnl k
    have hnk1 := hnl (k + 1)
    obtain ⟨aN, kN, eN⟩ := mi.now.val
    subst eN
    have y0 : hcell h2 ⟨y, 0, none⟩ = some (.int .i64 i) := hcell_of ly rfl
    have y1 : hcell h2 ⟨y, 1, none⟩ = some (.int .i8 op) := hcell_of ly rfl
    have y2 : hcell h2 ⟨y, 2, none⟩ = some (.int .i64 ix) := hcell_of ly rfl
    have y3 : hcell h2 ⟨y, 3, none⟩ = some (.int .i64 arg) := hcell_of ly rfl
    have y4 : hcell h2 ⟨y, 4, none⟩ = some (.int .i64 new) := hcell_of ly rfl
    have y5 : hcell h2 ⟨y, 5, none⟩ = some (.int .i64 (v rb)) := hcell_of ly rfl
    have y6 : hcell h2 ⟨y, 6, none⟩ = some (.int .i64 x.1) := hcell_of ly rfl
    have y7 : hcell h2 ⟨y, 7, none⟩ = some (.bool x.2) := hcell_of ly rfl
    (repeat (first | refine EK.seq ?_ | refine EK.region ?_ | refine ER.done ?_ | refine EK.skip ?_ | refine ER.move rfl rfl rfl ?_ | refine ER.fieldAddr rfl rfl rfl ?_ | refine ER.load1 rfl rfl rfl (hcell_of (by assumption) rfl) ?_ | refine ER.pickF rfl rfl rfl rfl ?_ | refine ER.cmpF rfl rfl rfl rfl rfl (by first | (dsimp only [cmpP]; omega) | exact rfl | exact Int.le_refl _) ?_ | refine ER.len1 rfl rfl rfl ?_ | refine EK.condF rfl ?_))
    refine ER.join (fun _ : Unit => [(112, .bool false), (5, ptr y), (4, .int .i64 k), (3, .slice aN (nums (R.log.take k)).length kN), (0, ptr C)]) (fun _ h' δ' => h' = h2 ∧ δ' = δ1) (fun key => ?_) ?_
    · by_cases h3 : op = 3
      · subst h3
        (repeat (first | refine ER.move rfl rfl rfl ?_ | refine ER.fieldAddr rfl rfl rfl ?_ | refine ER.load1 rfl rfl rfl (hcell_of (by assumption) rfl) ?_ | refine ER.no rfl rfl ?_ | refine ER.pickF rfl rfl rfl rfl ?_ | refine ER.cmpF rfl rfl rfl rfl rfl (by first | (dsimp only [cmpP]; omega) | exact rfl | exact Int.le_refl _) ?_))
        exact ER.done (EK.back (key () _ _ ⟨rfl, rfl⟩) ⟨rfl, rfl, rfl, rfl, rfl, trivial⟩)
      · have hn0 := hnew h3
        subst hn0
        by_cases h1 : op = 1
        · have ha0 := harg h1
          subst h1 ha0
          (repeat (first | refine ER.move rfl rfl rfl ?_ | refine ER.fieldAddr rfl rfl rfl ?_ | refine ER.load1 rfl rfl rfl (hcell_of (by assumption) rfl) ?_ | refine ER.pickT rfl rfl rfl rfl ?_ | refine ER.pickF rfl rfl rfl rfl ?_ | refine ER.cmpT rfl rfl rfl rfl rfl (by first | (dsimp only [cmpP]; omega) | exact rfl | exact Int.le_refl _) ?_ | refine ER.cmpF rfl rfl rfl rfl rfl (by first | (dsimp only [cmpP]; omega) | exact rfl | exact Int.le_refl _) ?_))
          exact ER.done (EK.back (key () _ _ ⟨rfl, rfl⟩) ⟨rfl, rfl, rfl, rfl, rfl, trivial⟩)
        · (repeat (first | refine ER.move rfl rfl rfl ?_ | refine ER.fieldAddr rfl rfl rfl ?_ | refine ER.load1 rfl rfl rfl (hcell_of (by assumption) rfl) ?_ | refine ER.no rfl rfl ?_ | refine ER.pickT rfl rfl rfl rfl ?_ | refine ER.pickF rfl rfl rfl rfl ?_ | refine ER.cmpT rfl rfl rfl rfl rfl (by first | (dsimp only [cmpP]; omega) | exact rfl | exact Int.le_refl _) ?_ | refine ER.cmpF rfl rfl rfl rfl rfl (by first | (dsimp only [cmpP]; omega) | exact rfl | exact Int.le_refl _) ?_))
          exact ER.done (EK.back (key () _ _ ⟨rfl, rfl⟩) ⟨rfl, rfl, rfl, rfl, rfl, trivial⟩)
    rintro _ h2 δ1 ⟨rfl, rfl⟩
    refine EK.condF rfl (EK.skip (EK.seq (EK.seq (EK.region ?_))))
    (repeat (first | refine ER.move rfl rfl rfl ?_ | refine ER.fieldAddr rfl rfl rfl ?_ | refine ER.load1 rfl rfl rfl (hcell_of (by assumption) rfl) ?_ | refine ER.len1 rfl rfl rfl ?_))
    refine ER.cmpB (r := decide ((ix : Int) = ((nums (R.log.take k)).length : Int))) rfl rfl rfl rfl rfl rfl ?_
    refine ER.done ?_
    refine EK.join (fun q : Value × Value => [(5, ptr y), (4, .int .i64 k), (3, q.1), (0, ptr C)]) (fun q h' δ' => δ' = δ1 ∧ h'[y]? = some (accO (accL i op ix arg new (v rb) x.1 x.2)) ∧ MemI R h C (.slice (some ⟨bL, 0, none⟩) R.log.length kL) lW lY (.slice aV R.left.length kV) sP tv last n (k + 1) v q.1 q.2 h') (fun key => ?_) ?_
    · rcases i4 with ⟨j1, j2, j3⟩ | ⟨j1, j2, j3⟩
      · rw [decide_eq_false (by omega)]
        refine EK.condF rfl (EK.skip (EK.back (key (_, cv) _ _ ⟨rfl, ly, ⟨mi.upd, mi.row, by rw [j2]; exact mi.now, by rw [j2]; exact mi.fst, mi.newn, mi.newc, mi.ne⟩⟩) ⟨rfl, rfl, rfl, rfl, trivial⟩))
      · rw [decide_eq_true (by omega)]
        refine EK.condT rfl (EK.seq (EK.region ?_))
        (repeat (first | refine ER.move rfl rfl rfl ?_ | refine ER.fieldAddr rfl rfl rfl ?_ | refine ER.load1 rfl rfl rfl (hcell_of (by assumption) rfl) ?_))
        refine ER.slice1 (sz := 1) (z := .int .i64 0) (cells := #[.int .i64 (v rb)]) rfl rfl rfl (by omega) (by omega) rfl rfl ?_
        refine ER.append1 (new := [.int .i64 (v rb)]) rfl rfl rfl rfl (mi.now.upd (Upd.push (T := fun _ => False) h2 _) (fun _ _ x => x)) (get_push_new _ _) rfl (by simp [OneCell]) (by omega) (by omega) (by rfl) (fun _ _ _ x => x) ?_
        intro s4 h4 sl4 u4 hb4
        have p4 : Upd (fun b => b = C) h h4 := upd_then (upd_then mi.upd (Upd.push (T := fun _ => False) h2 (.cells #[.int .i64 (v rb)] 2)) (fun _ _ x => x.elim)) u4 (fun b hb hx => by have := mi.newn b hx; omega)
        have r4 := u4.get (get_push (o := .cells #[.int .i64 (v rb)] 2) mi.row) (fun hx => by have := mi.newn C hx; omega)
        have nyN : ∀ b, blk (.slice aN (nums (R.log.take k)).length kN) = some b → b ≠ y := fun b hb e => sliceO_ne mi.now ly (by decide) b hb e
        have ly4 := u4.get (get_push (o := .cells #[.int .i64 (v rb)] 2) ly) (fun hx => nyN y hx rfl)
        have f4 := (mi.fst.upd (Upd.push (T := fun _ => False) h2 (.cells #[.int .i64 (v rb)] 2)) (fun _ _ x => x)).upd u4 (fun b hb hx => mi.ne b hx hb)
        have nb4 : ∀ b, blk s4 = some b → h.size ≤ b := fun b hb => by
          rcases hb4 b hb with y | y
          · exact mi.newn b y
          · rw [Array.size_push] at y; have := mi.upd.size; omega
        have ne4 : ∀ b, blk s4 = some b → blk cv ≠ some b := fun b hb hx => by
          rcases hb4 b hb with y | y
          · exact mi.ne b y hx
          · rw [Array.size_push] at y; have := mi.fst.lt hx; omega
        have b1 : (nums (R.log.take (k + 1))).length = (nums (R.log.take k)).length + 1 := by rw [j2, List.length_append]; rfl
        have sn4 : SliceO h4 s4 2 1 (nums (R.log.take (k + 1))).length ((nums (R.log.take (k + 1))).map fun b => Value.int .i64 (v b)) := by rw [b1, j2, List.map_append]; exact sl4
        clear sl4 u4 hb4 nyN
        obtain ⟨aC, kC, eC⟩ := mi.fst.val
        subst eC
        have newc := mi.newc
        clear mi ly
        (repeat refine ER.assign rfl rfl rfl ?_)
        refine ER.done ?_
        refine EK.regionAnyL (fun h' => hcell h' ⟨C, 10, none⟩ = some (.slice aC (nums (R.log.take k)).length kC) ∧ hcell h' ⟨y, 5, none⟩ = some (.int .i64 (v rb))) 11 ?_
        have hZ : _ ∧ _ := And.intro (hcell_of r4 rfl : hcell h4 ⟨C, 10, none⟩ = some (.slice aC (nums (R.log.take k)).length kC)) (hcell_of ly4 rfl : hcell h4 ⟨y, 5, none⟩ = some (.int .i64 (v rb)))
        refine EA.tMove 0 rfl (by kernel_rfl) (by kernel_rfl) (by kernel_rfl) rfl rfl rfl rfl hZ ?_
        refine EA.tMove 1 rfl (by kernel_rfl) (by kernel_rfl) (by kernel_rfl) rfl rfl rfl rfl hZ ?_
        refine EA.tNil 2 rfl (by kernel_rfl) (by kernel_rfl) (by kernel_rfl) rfl rfl rfl rfl hZ ?_
        refine EA.tField 3 rfl (by kernel_rfl) (by kernel_rfl) (by kernel_rfl) rfl rfl rfl rfl hZ ?_
        refine EA.tLoad 4 rfl (by kernel_rfl) (by kernel_rfl) (by kernel_rfl) rfl rfl rfl rfl (fun _ hz => hz.1) hZ ?_
        refine EA.tField 5 rfl (by kernel_rfl) (by kernel_rfl) (by kernel_rfl) rfl rfl rfl rfl hZ ?_
        refine EA.tLoad 6 rfl (by kernel_rfl) (by kernel_rfl) (by kernel_rfl) rfl rfl rfl rfl (fun _ hz => hz.2) hZ ?_
        have hZ5 : _ ∧ _ := ⟨hcell_push (o := .cells #[.int .i64 (v rb)] 2) hZ.1, hcell_push (o := .cells #[.int .i64 (v rb)] 2) hZ.2⟩
        refine EA.val (v := .slice (some ⟨h4.size, 0, none⟩) 1 1) (h' := h4.push (.cells #[.int .i64 (v rb)] 2)) 7 rfl (by kernel_rfl) rfl rfl rfl (fun ρ Q X hρ hq => sem_slice1 (sz := 1) hρ rfl (by omega) (by omega) rfl rfl hq) hZ5 ?_
        refine EA.append1 (new := [.int .i64 (v rb)]) 8 rfl (by kernel_rfl) rfl rfl rfl rfl rfl (f4.upd (Upd.push (T := fun _ => False) h4 _) (fun _ _ x => x)) (get_push_new _ _) rfl (by simp [OneCell]) (by omega) (by omega) rfl (fun _ _ _ x => x) ?_
        intro s6 h6 sl6 u6 hb6
        have p6 : Upd (fun b => b = C) h h6 := upd_then (upd_then p4 (Upd.push (T := fun _ => False) h4 (.cells #[.int .i64 (v rb)] 2)) (fun _ _ x => x.elim)) u6 (fun b hb hx => by have := newc b hx; omega)
        have r6 := u6.get (get_push (o := .cells #[.int .i64 (v rb)] 2) r4) (fun hx => by have := newc C hx; omega)
        have nyC : ∀ b, blk (.slice aC (nums (R.log.take k)).length kC) = some b → b ≠ y := fun b hb e => sliceO_ne f4 ly4 (by decide) b hb e
        have ly6 := u6.get (get_push (o := .cells #[.int .i64 (v rb)] 2) ly4) (fun hx => nyC y hx rfl)
        have sn6 := (sn4.upd (Upd.push (T := fun _ => False) h4 (.cells #[.int .i64 (v rb)] 2)) (fun _ _ x => x)).upd u6 (fun b hb hx => ne4 b hb hx)
        have hZ6 : _ ∧ _ := And.intro (hcell_of r6 rfl : hcell h6 ⟨C, 10, none⟩ = some (.slice aC (nums (R.log.take k)).length kC)) (hcell_of ly6 rfl : hcell h6 ⟨y, 5, none⟩ = some (.int .i64 (v rb)))
        refine ⟨hZ6, ?_⟩
        obtain ⟨aQ, kQ, eQ⟩ := sl6.val
        refine EA.val 9 rfl (by kernel_rfl) rfl rfl rfl (fun ρ Q X hρ hq => sem_nilCheck (hρ _ _ rfl) hq) hZ6 ?_
        have hZ := hZ6
        refine EA.tField 10 rfl (by kernel_rfl) (by kernel_rfl) (by kernel_rfl) rfl rfl rfl rfl hZ ?_
        refine EA.unitL (h' := hset h6 ⟨C, 10, none⟩ s6) 11 rfl (by kernel_rfl) rfl rfl rfl (fun ρ Q X hρ hq => sem_store1 (hρ _ _ rfl) (hρ _ _ rfl) (by rw [eQ]; exact ⟨nofun, nofun⟩) ⟨_, hZ6.1⟩ (hfroz_of r6) (fun x => x) hq) ?_
        refine EA.done (by kernel_rfl) ?_
        have e7 : hset h6 ⟨C, 10, none⟩ s6 = h6.setIfInBounds C (chkO R.e n (.slice (some ⟨bL, 0, none⟩) R.log.length kL) lW lY (.slice aV R.left.length kV) sP R.most tv s6 last) := hset_block r6 _
        rw [e7]
        have u7 : Upd (fun b => b = C) h6 (h6.setIfInBounds C (chkO R.e n (.slice (some ⟨bL, 0, none⟩) R.log.length kL) lW lY (.slice aV R.left.length kV) sP R.most tv s6 last)) := Upd.set _ _ _ rfl
        have nC6 : ∀ b, blk s6 = some b → h.size ≤ b := fun b hb => by
          rcases hb6 b hb with y | y
          · exact newc b y
          · rw [Array.size_push] at y; have := p4.size; omega
        refine EK.back (key (s4, s6) _ _ ⟨rfl, by rw [get_set_ne _ (by omega)]; exact ly6, ⟨p6.trans u7, get_set_same r6, sn6.upd u7 (fun b hb e => by have := nb4 b hb; omega), ?_, nb4, nC6, fun b hb hx => ?_⟩⟩) ⟨rfl, rfl, rfl, rfl, trivial⟩
        · have := sl6.upd u7 (fun b hb e => by have := nC6 b hb; omega)
          rw [b1, j2, List.map_append]
          have ev : v rb = R.v0 rb := ch.first j1
          rw [ev] at this
          exact this
        · rcases hb6 b hx with y | y
          · exact ne4 b hb y
          · rw [Array.size_push] at y; have := sn4.lt hb; omega
    clear mi ly i4 hnk
    rintro ⟨nv, cv⟩ h2 δ1 ⟨hδ, ly, mi⟩
    dsimp only at mi hδ ⊢
    subst hδ
    obtain ⟨aN, kN, eN⟩ := mi.now.val
    subst eN
    have y1 : hcell h2 ⟨y, 1, none⟩ = some (.int .i8 op) := hcell_of ly rfl
    have y2 : hcell h2 ⟨y, 2, none⟩ = some (.int .i64 ix) := hcell_of ly rfl
    have y3 : hcell h2 ⟨y, 3, none⟩ = some (.int .i64 arg) := hcell_of ly rfl
    have y4 : hcell h2 ⟨y, 4, none⟩ = some (.int .i64 new) := hcell_of ly rfl
    have y5 : hcell h2 ⟨y, 5, none⟩ = some (.int .i64 (v rb)) := hcell_of ly rfl
    have y6 : hcell h2 ⟨y, 6, none⟩ = some (.int .i64 x.1) := hcell_of ly rfl
    have y7 : hcell h2 ⟨y, 7, none⟩ = some (.bool x.2) := hcell_of ly rfl
    (repeat (first | refine EK.seq ?_ | refine EK.region ?_ | refine ER.fieldAddr rfl rfl rfl ?_ | refine ER.load1 rfl rfl rfl (hcell_of (by assumption) rfl) ?_))
    refine ER.callD rfl rfl rfl rfl rfl (behind_ok hop1 hop2) ?_
    rw [hx]
    obtain ⟨x1, x2⟩ := x
    dsimp only at y6 y7 ch2 ⊢
    obtain ⟨bN, eN, cN, fN⟩ := slice_at mi.now i3
    subst eN
    clear y3 y4 hnl
    (repeat (first | refine EK.seq ?_ | refine ER.done ?_ | refine ER.move rfl rfl rfl ?_ | refine ER.assign rfl rfl rfl ?_ | refine ER.extract rfl rfl rfl rfl ?_))
    refine EK.regionAny (fun h' => h' = h2) ?_
    have hZ : h2 = h2 := rfl
    refine EA.tField 0 rfl (by kernel_rfl) (by kernel_rfl) (by kernel_rfl) rfl rfl rfl rfl hZ ?_
    refine EA.tLoad 1 rfl (by kernel_rfl) (by kernel_rfl) (by kernel_rfl) rfl rfl rfl rfl (fun _ hz => (by rw [hz]; exact y5)) hZ ?_
    refine EA.tMove 2 rfl (by kernel_rfl) (by kernel_rfl) (by kernel_rfl) rfl rfl rfl rfl hZ ?_
    refine EA.tField 3 rfl (by kernel_rfl) (by kernel_rfl) (by kernel_rfl) rfl rfl rfl rfl hZ ?_
    refine EA.tLoad 4 rfl (by kernel_rfl) (by kernel_rfl) (by kernel_rfl) rfl rfl rfl rfl (fun _ hz => (by rw [hz]; exact y2)) hZ ?_
    refine EA.tIdxS 5 rfl (by kernel_rfl) (by kernel_rfl) (by kernel_rfl) rfl rfl rfl rfl rfl (by omega) (by omega) hZ ?_
    refine EA.tLoad 6 rfl (by kernel_rfl) (by kernel_rfl) (by kernel_rfl) rfl rfl rfl rfl (fun _ hz => (by rw [hz]; exact cN)) hZ ?_
    refine EA.tCmpF 7 rfl (by kernel_rfl) (by kernel_rfl) (by kernel_rfl) rfl rfl rfl rfl rfl rfl (by first | (dsimp only [cmpP]; omega) | exact rfl | exact Int.le_refl _) hZ ?_
    refine EA.tMove 8 rfl (by kernel_rfl) (by kernel_rfl) (by kernel_rfl) rfl rfl rfl rfl hZ ?_
    refine EA.tField 9 rfl (by kernel_rfl) (by kernel_rfl) (by kernel_rfl) rfl rfl rfl rfl hZ ?_
    refine EA.tLoad 10 rfl (by kernel_rfl) (by kernel_rfl) (by kernel_rfl) rfl rfl rfl rfl (fun _ hz => (by rw [hz]; exact y6)) hZ ?_
    refine EA.tMove 11 rfl (by kernel_rfl) (by kernel_rfl) (by kernel_rfl) rfl rfl rfl rfl hZ ?_
    refine EA.tCmpF 12 rfl (by kernel_rfl) (by kernel_rfl) (by kernel_rfl) rfl rfl rfl rfl rfl rfl (by first | (dsimp only [cmpP]; omega) | exact rfl | exact Int.le_refl _) hZ ?_
    refine EA.tPickF 13 rfl (by kernel_rfl) (by kernel_rfl) (by kernel_rfl) rfl rfl rfl rfl rfl hZ ?_
    refine EA.tMove 14 rfl (by kernel_rfl) (by kernel_rfl) (by kernel_rfl) rfl rfl rfl rfl hZ ?_
    refine EA.tField 15 rfl (by kernel_rfl) (by kernel_rfl) (by kernel_rfl) rfl rfl rfl rfl hZ ?_
    refine EA.tLoad 16 rfl (by kernel_rfl) (by kernel_rfl) (by kernel_rfl) rfl rfl rfl rfl (fun _ hz => (by rw [hz]; exact y7)) hZ ?_
    refine EA.tMove 17 rfl (by kernel_rfl) (by kernel_rfl) (by kernel_rfl) rfl rfl rfl rfl hZ ?_
    refine EA.tNeqB (r := true) 18 rfl (by kernel_rfl) (by kernel_rfl) (by kernel_rfl) rfl rfl rfl rfl rfl (by cases x2 <;> rfl) hZ ?_
    refine EA.tPickF 19 rfl (by kernel_rfl) (by kernel_rfl) (by kernel_rfl) rfl rfl rfl rfl rfl hZ ?_
    refine EA.tMove 20 rfl (by kernel_rfl) (by kernel_rfl) (by kernel_rfl) rfl rfl rfl rfl hZ ?_
    refine EA.tField 21 rfl (by kernel_rfl) (by kernel_rfl) (by kernel_rfl) rfl rfl rfl rfl hZ ?_
    refine EA.tLoad 22 rfl (by kernel_rfl) (by kernel_rfl) (by kernel_rfl) rfl rfl rfl rfl (fun _ hz => (by rw [hz]; exact y1)) hZ ?_
    refine EA.tCmpF 23 rfl (by kernel_rfl) (by kernel_rfl) (by kernel_rfl) rfl rfl rfl rfl rfl rfl (by first | (dsimp only [cmpP]; omega) | exact rfl | exact Int.le_refl _) hZ ?_
    refine EA.tMove 24 rfl (by kernel_rfl) (by kernel_rfl) (by kernel_rfl) rfl rfl rfl rfl hZ ?_
    refine EA.takeNo 25 rfl (by kernel_rfl) (by kernel_rfl) (by kernel_rfl) rfl rfl rfl hZ ?_
    refine EA.takeNo 26 rfl (by kernel_rfl) (by kernel_rfl) (by kernel_rfl) rfl rfl rfl hZ ?_
    refine EA.takeNo 27 rfl (by kernel_rfl) (by kernel_rfl) (by kernel_rfl) rfl rfl rfl hZ ?_
    refine EA.takeNo 28 rfl (by kernel_rfl) (by kernel_rfl) (by kernel_rfl) rfl rfl rfl hZ ?_
    refine EA.takeNo 29 rfl (by kernel_rfl) (by kernel_rfl) (by kernel_rfl) rfl rfl rfl hZ ?_
    refine EA.tPickF 30 rfl (by kernel_rfl) (by kernel_rfl) (by kernel_rfl) rfl rfl rfl rfl rfl hZ ?_
    refine EA.tPickF 31 rfl (by kernel_rfl) (by kernel_rfl) (by kernel_rfl) rfl rfl rfl rfl rfl hZ ?_
    refine EA.done (by kernel_rfl) ?_
    refine EK.condF rfl (EK.skip (EK.region ?_))
    (repeat (first | refine ER.move rfl rfl rfl ?_ | refine ER.fieldAddr rfl rfl rfl ?_ | refine ER.load1 rfl rfl rfl (hcell_of (by assumption) rfl) ?_ | refine ER.indexSl rfl rfl rfl rfl (by omega) (by omega) ?_))
    refine ER.store1 rfl rfl rfl ⟨nofun, nofun⟩ ⟨_, cN⟩ (fN _) (fun x => x) ?_
    refine ER.done ?_
    have e9 : 0 + ix * 1 = ix := by omega
    have sn := mi.now.set (j := ix) (by rw [List.length_map]; exact i2) (.int .i64 x1)
    have u9 : Upd (fun b => b = bN) h2 (hset h2 ⟨bN, ix, none⟩ (.int .i64 x1)) := Upd.hset _ _ _ rfl
    have nN := mi.newn bN rfl
    have hmm : rb ∈ nums (R.log.take (k + 1)) := List.mem_of_getElem? i3
    rw [i1, ← map_ut (F := fun z => Value.int .i64 z) (nums_nodup _) hmm, ← i1] at sn
    have mi9 : MemI R h C (.slice (some ⟨bL, 0, none⟩) R.log.length kL) lW lY (.slice aV R.left.length kV) sP tv last n (k + 1) (ut v rb x1) (.slice (some ⟨bN, 0, none⟩) (nums (R.log.take (k + 1))).length kN) cv (hset h2 ⟨bN, ix, none⟩ (.int .i64 x1)) :=
      ⟨upd_then mi.upd u9 (fun b hb e => by omega), u9.get mi.row (fun e => by omega), sn, mi.fst.upd u9 (fun b hb e => mi.ne bN rfl (by rw [← e]; exact hb)), mi.newn, mi.newc, mi.ne⟩
    change EK _ _ _ _ _ _ _ _ (hset h2 ⟨bN, 0 + ix * 1, none⟩ (.int .i64 x1)) _ _
    rw [e9]
    (repeat (first | refine EK.region ?_ | refine ER.done ?_ | refine EK.inBlock ?_ | refine ER.move rfl rfl rfl ?_ | refine ER.assign rfl rfl rfl ?_ | refine ER.add (kd := .i64) rfl rfl rfl rfl (i64_in (by omega) (by omega)) ?_))
    exact EK.back (again (k + 1, _, cv, ut v rb x1) _ _ (by dsimp only; omega) ⟨by dsimp only; omega, rfl, ch2, mi9⟩) ⟨rfl, rfl, rfl, trivial⟩
  · obtain rfl : k = R.log.length := by omega
    clear again
    rw [List.take_length] at ch
    obtain rfl := ch.det ok.chain
    have c2 : hcell h1 ⟨C, 2, none⟩ = some (.slice aL R.log.length kL) := hcell_of mi.row rfl
    obtain ⟨up, row, now, fst, newn, newc, -⟩ := mi
    rw [List.take_length] at now fst
    have hnk := hnl R.log.length
    rw [List.take_length] at hnk
    clear hnl
    have c5 : hcell h1 ⟨C, 5, none⟩ = some (.slice aV R.left.length kV) := hcell_of row rfl
    obtain ⟨aN, kN, eN⟩ := now.val
    subst eN
    have hnl : R.left.length ≤ 64 := by
      have h2 := rise_len (n := R.nb) (l := R.left.map (·.1)) 0 (List.pairwise_map.2 ok.rise) (fun _ _ => Nat.zero_le _) (fun a ha => by
        obtain ⟨q, hq, rfl⟩ := List.mem_map.1 ha
        exact (ok.left q hq).1)
      rw [List.length_map] at h2
      have := ok.nb
      omega
    (repeat (first | refine EK.seq ?_ | refine EK.region ?_ | refine ER.done ?_ | refine EK.block ?_ | refine ER.move rfl rfl rfl ?_ | refine ER.assign rfl rfl rfl ?_ | refine ER.nilCheck rfl rfl rfl ?_ | refine ER.fieldAddr rfl rfl rfl ?_ | refine ER.load1 rfl rfl rfl (hcell_of (by assumption) rfl) ?_ | refine ER.cmpF rfl rfl rfl rfl rfl (by first | (dsimp only [cmpP]; omega) | exact rfl | exact Int.le_refl _) ?_ | refine ER.len1 rfl rfl rfl ?_ | refine EK.condF rfl ?_ | refine EK.exit rfl ?_))
    refine EK.loopInv (fun k : Nat => [(8, .int .i64 k), (3, .slice aN (nums R.log).length kN), (0, ptr C)]) (fun k h' δ' => k ≤ R.left.length ∧ δ' = δ1 ∧ Upd (fun _ => False) h1 h') (fun k => R.left.length - k) 0 ⟨rfl, rfl, rfl, trivial⟩ ⟨Nat.zero_le _, rfl, Upd.refl _ _⟩ ?_
    rintro k h2 δ2 ⟨hk, hδ, u2⟩ again
    subst hδ
    have c5' := u2.hcell c5 (fun x => x)
    by_cases hin : k < R.left.length
    · obtain ⟨q, hq⟩ : ∃ q, R.left[k]? = some q := ⟨_, List.getElem?_eq_getElem hin⟩
      obtain ⟨bV, ea, hrow, hz⟩ := slice_row (leftE_len (nums R.log) R.val) (m1.left.upd u2 (fun _ _ x => x)) hq
      subst ea
      (repeat (first | refine EK.seq ?_ | refine EK.region ?_ | refine ER.done ?_ | refine EK.skip ?_ | refine EK.block ?_ | refine ER.move rfl rfl rfl ?_ | refine ER.nilCheck rfl rfl rfl ?_ | refine ER.fieldAddr rfl rfl rfl ?_ | refine ER.cmpT rfl rfl rfl rfl rfl (by first | (dsimp only [cmpP]; omega) | exact rfl | exact Int.le_refl _) ?_ | refine ER.len1 rfl rfl rfl ?_ | refine ER.indexSl rfl rfl rfl rfl (by omega) (by omega) ?_ | refine EK.condT rfl ?_ | refine ER.load1 rfl rfl rfl (by assumption) ?_))
      refine ER.loadN (vs := leftE (nums R.log) R.val q) rfl rfl rfl rfl hrow ?_
      (repeat refine ER.allocA rfl rfl ?_)
      refine ER.storeN (vs := leftE (nums R.log) R.val q) rfl rfl rfl rfl (by simp [leftE, accL, OneCell]) (fun j hj => ⟨?_, hfroz_of (get_push_new _ _), fun x => x⟩) ?_
      · have hj' : j < 8 := hj
        rcases (show j = 0 ∨ j = 1 ∨ j = 2 ∨ j = 3 ∨ j = 4 ∨ j = 5 ∨ j = 6 ∨ j = 7 by omega) with rfl | rfl | rfl | rfl | rfl | rfl | rfl | rfl <;> exact ⟨_, hcell_of (get_push_new _ _) rfl⟩
      rw [hsetRow_push (c := [.int .i64 0, .int .i8 0, .int .i64 0, .int .i64 0, .int .i64 0, .int .i64 0, .int .i64 0, .bool false]) (vs := leftE (nums R.log) R.val q) rfl]
      refine ER.gen (fun h' => Upd (fun _ => False) h1 h' ∧ h'[h2.size]? = some (accO (leftE (nums R.log) R.val q))) ⟨u2.trans (Upd.push _ _), get_push_new _ _⟩ ?_
      obtain ⟨y, hy⟩ : ∃ y, y = h2.size := ⟨_, rfl⟩
      rw [← hy]
      clear hy hrow hz u2 c5'
      rintro h3 ⟨u3, ly⟩
      refine ER.done (EK.seq ?_)
      generalize hr : q.2 = r at *
      by_cases hb : r.b ∈ nums R.log
      · have hE : leftE (nums R.log) R.val q = accL q.1 r.op ((nums R.log).idxOf r.b : Nat) r.arg r.new (R.val r.b) (R.val r.b) false := by unfold leftE; rw [hr, if_pos hb]
        rw [hE] at ly
        have hlt := List.idxOf_lt_length_iff.2 hb
        generalize hix : (nums R.log).idxOf r.b = ix at ly hlt
        have hget : (nums R.log)[ix]? = some r.b := by rw [← hix, List.getElem?_eq_getElem (List.idxOf_lt_length_iff.2 hb)]; simp
        obtain ⟨bN, eN, cN, fN⟩ := slice_at (now.upd u3 (fun _ _ x => x)) hget
        subst eN
        have y2 : hcell h3 ⟨y, 2, none⟩ = some (.int .i64 ix) := hcell_of ly rfl
        have y5 : hcell h3 ⟨y, 5, none⟩ = some (.int .i64 (R.val r.b)) := hcell_of ly rfl
        have y6 : hcell h3 ⟨y, 6, none⟩ = some (.int .i64 (R.val r.b)) := hcell_of ly rfl
        have y7 : hcell h3 ⟨y, 7, none⟩ = some (.bool false) := hcell_of ly rfl
        refine EK.regionAny (fun h' => h' = h3) ?_
        have hZ : h3 = h3 := rfl
        refine EA.tField 0 rfl (by kernel_rfl) (by kernel_rfl) (by kernel_rfl) rfl rfl rfl rfl hZ ?_
        refine EA.tLoad 1 rfl (by kernel_rfl) (by kernel_rfl) (by kernel_rfl) rfl rfl rfl rfl (fun _ hz => (by rw [hz]; exact y2)) hZ ?_
        refine EA.tCmpF 2 rfl (by kernel_rfl) (by kernel_rfl) (by kernel_rfl) rfl rfl rfl rfl rfl rfl (by first | (dsimp only [cmpP]; omega) | exact rfl | exact Int.le_refl _) hZ ?_
        refine EA.tMove 3 rfl (by kernel_rfl) (by kernel_rfl) (by kernel_rfl) rfl rfl rfl rfl hZ ?_
        refine EA.tField 4 rfl (by kernel_rfl) (by kernel_rfl) (by kernel_rfl) rfl rfl rfl rfl hZ ?_
        refine EA.tLoad 5 rfl (by kernel_rfl) (by kernel_rfl) (by kernel_rfl) rfl rfl rfl rfl (fun _ hz => (by rw [hz]; exact y2)) hZ ?_
        refine EA.tMove 6 rfl (by kernel_rfl) (by kernel_rfl) (by kernel_rfl) rfl rfl rfl rfl hZ ?_
        refine EA.tLen1 7 rfl (by kernel_rfl) (by kernel_rfl) (by kernel_rfl) rfl rfl rfl rfl hZ ?_
        refine EA.tCmpF 8 rfl (by kernel_rfl) (by kernel_rfl) (by kernel_rfl) rfl rfl rfl rfl rfl rfl (by first | (dsimp only [cmpP]; omega) | exact rfl | exact Int.le_refl _) hZ ?_
        refine EA.tPickF 9 rfl (by kernel_rfl) (by kernel_rfl) (by kernel_rfl) rfl rfl rfl rfl rfl hZ ?_
        refine EA.tMove 10 rfl (by kernel_rfl) (by kernel_rfl) (by kernel_rfl) rfl rfl rfl rfl hZ ?_
        refine EA.tField 11 rfl (by kernel_rfl) (by kernel_rfl) (by kernel_rfl) rfl rfl rfl rfl hZ ?_
        refine EA.tLoad 12 rfl (by kernel_rfl) (by kernel_rfl) (by kernel_rfl) rfl rfl rfl rfl (fun _ hz => (by rw [hz]; exact y2)) hZ ?_
        refine EA.tCmpT 13 rfl (by kernel_rfl) (by kernel_rfl) (by kernel_rfl) rfl rfl rfl rfl rfl rfl (by first | (dsimp only [cmpP]; omega) | exact rfl | exact Int.le_refl _) hZ ?_
        refine EA.tMove 14 rfl (by kernel_rfl) (by kernel_rfl) (by kernel_rfl) rfl rfl rfl rfl hZ ?_
        refine EA.tField 15 rfl (by kernel_rfl) (by kernel_rfl) (by kernel_rfl) rfl rfl rfl rfl hZ ?_
        refine EA.tLoad 16 rfl (by kernel_rfl) (by kernel_rfl) (by kernel_rfl) rfl rfl rfl rfl (fun _ hz => (by rw [hz]; exact y5)) hZ ?_
        refine EA.tMove 17 rfl (by kernel_rfl) (by kernel_rfl) (by kernel_rfl) rfl rfl rfl rfl hZ ?_
        refine EA.tField 18 rfl (by kernel_rfl) (by kernel_rfl) (by kernel_rfl) rfl rfl rfl rfl hZ ?_
        refine EA.tLoad 19 rfl (by kernel_rfl) (by kernel_rfl) (by kernel_rfl) rfl rfl rfl rfl (fun _ hz => (by rw [hz]; exact y2)) hZ ?_
        refine EA.tIdxS 20 rfl (by kernel_rfl) (by kernel_rfl) (by kernel_rfl) rfl rfl rfl rfl rfl (by omega) (by omega) hZ ?_
        refine EA.tLoad 21 rfl (by kernel_rfl) (by kernel_rfl) (by kernel_rfl) rfl rfl rfl rfl (fun _ hz => (by rw [hz]; exact cN)) hZ ?_
        refine EA.tCmpF 22 rfl (by kernel_rfl) (by kernel_rfl) (by kernel_rfl) rfl rfl rfl rfl rfl rfl (by first | (dsimp only [cmpP]; omega) | exact rfl | exact Int.le_refl _) hZ ?_
        refine EA.tPickT 23 rfl (by kernel_rfl) (by kernel_rfl) (by kernel_rfl) rfl rfl rfl rfl rfl hZ ?_
        refine EA.tPickF 24 rfl (by kernel_rfl) (by kernel_rfl) (by kernel_rfl) rfl rfl rfl rfl rfl hZ ?_
        refine EA.tMove 25 rfl (by kernel_rfl) (by kernel_rfl) (by kernel_rfl) rfl rfl rfl rfl hZ ?_
        refine EA.tField 26 rfl (by kernel_rfl) (by kernel_rfl) (by kernel_rfl) rfl rfl rfl rfl hZ ?_
        refine EA.tLoad 27 rfl (by kernel_rfl) (by kernel_rfl) (by kernel_rfl) rfl rfl rfl rfl (fun _ hz => (by rw [hz]; exact y5)) hZ ?_
        refine EA.tField 28 rfl (by kernel_rfl) (by kernel_rfl) (by kernel_rfl) rfl rfl rfl rfl hZ ?_
        refine EA.tLoad 29 rfl (by kernel_rfl) (by kernel_rfl) (by kernel_rfl) rfl rfl rfl rfl (fun _ hz => (by rw [hz]; exact y6)) hZ ?_
        refine EA.tCmpF 30 rfl (by kernel_rfl) (by kernel_rfl) (by kernel_rfl) rfl rfl rfl rfl rfl rfl (by first | (dsimp only [cmpP]; omega) | exact rfl | exact Int.le_refl _) hZ ?_
        refine EA.tPickF 31 rfl (by kernel_rfl) (by kernel_rfl) (by kernel_rfl) rfl rfl rfl rfl rfl hZ ?_
        refine EA.tMove 32 rfl (by kernel_rfl) (by kernel_rfl) (by kernel_rfl) rfl rfl rfl rfl hZ ?_
        refine EA.tField 33 rfl (by kernel_rfl) (by kernel_rfl) (by kernel_rfl) rfl rfl rfl rfl hZ ?_
        refine EA.tLoad 34 rfl (by kernel_rfl) (by kernel_rfl) (by kernel_rfl) rfl rfl rfl rfl (fun _ hz => (by rw [hz]; exact y7)) hZ ?_
        refine EA.tPickF 35 rfl (by kernel_rfl) (by kernel_rfl) (by kernel_rfl) rfl rfl rfl rfl rfl hZ ?_
        refine EA.done (by kernel_rfl) ?_
        (repeat (first | refine EK.region ?_ | refine ER.done ?_ | refine EK.skip ?_ | refine EK.inBlock ?_ | refine ER.move rfl rfl rfl ?_ | refine ER.assign rfl rfl rfl ?_ | refine ER.add (kd := .i64) rfl rfl rfl rfl (i64_in (by omega) (by omega)) ?_ | refine EK.condF rfl ?_))
        exact EK.back (again (k + 1) _ _ (by omega) ⟨by omega, rfl, u3⟩) ⟨rfl, rfl, rfl, trivial⟩
      · have hE : leftE (nums R.log) R.val q = accL q.1 r.op (-1) r.arg r.new (R.val r.b) (R.val r.b) false := by unfold leftE; rw [hr, if_neg hb]
        rw [hE] at ly
        have y2 : hcell h3 ⟨y, 2, none⟩ = some (.int .i64 (-1)) := hcell_of ly rfl
        have y5 : hcell h3 ⟨y, 5, none⟩ = some (.int .i64 (R.val r.b)) := hcell_of ly rfl
        have y6 : hcell h3 ⟨y, 6, none⟩ = some (.int .i64 (R.val r.b)) := hcell_of ly rfl
        have y7 : hcell h3 ⟨y, 7, none⟩ = some (.bool false) := hcell_of ly rfl
        refine EK.regionAny (fun h' => h' = h3) ?_
        have hZ : h3 = h3 := rfl
        refine EA.tField 0 rfl (by kernel_rfl) (by kernel_rfl) (by kernel_rfl) rfl rfl rfl rfl hZ ?_
        refine EA.tLoad 1 rfl (by kernel_rfl) (by kernel_rfl) (by kernel_rfl) rfl rfl rfl rfl (fun _ hz => (by rw [hz]; exact y2)) hZ ?_
        refine EA.tCmpF 2 rfl (by kernel_rfl) (by kernel_rfl) (by kernel_rfl) rfl rfl rfl rfl rfl rfl (by first | (dsimp only [cmpP]; omega) | exact rfl | exact Int.le_refl _) hZ ?_
        refine EA.tMove 3 rfl (by kernel_rfl) (by kernel_rfl) (by kernel_rfl) rfl rfl rfl rfl hZ ?_
        refine EA.tField 4 rfl (by kernel_rfl) (by kernel_rfl) (by kernel_rfl) rfl rfl rfl rfl hZ ?_
        refine EA.tLoad 5 rfl (by kernel_rfl) (by kernel_rfl) (by kernel_rfl) rfl rfl rfl rfl (fun _ hz => (by rw [hz]; exact y2)) hZ ?_
        refine EA.tMove 6 rfl (by kernel_rfl) (by kernel_rfl) (by kernel_rfl) rfl rfl rfl rfl hZ ?_
        refine EA.tLen1 7 rfl (by kernel_rfl) (by kernel_rfl) (by kernel_rfl) rfl rfl rfl rfl hZ ?_
        refine EA.tCmpF 8 rfl (by kernel_rfl) (by kernel_rfl) (by kernel_rfl) rfl rfl rfl rfl rfl rfl (by first | (dsimp only [cmpP]; omega) | exact rfl | exact Int.le_refl _) hZ ?_
        refine EA.tPickF 9 rfl (by kernel_rfl) (by kernel_rfl) (by kernel_rfl) rfl rfl rfl rfl rfl hZ ?_
        refine EA.tMove 10 rfl (by kernel_rfl) (by kernel_rfl) (by kernel_rfl) rfl rfl rfl rfl hZ ?_
        refine EA.tField 11 rfl (by kernel_rfl) (by kernel_rfl) (by kernel_rfl) rfl rfl rfl rfl hZ ?_
        refine EA.tLoad 12 rfl (by kernel_rfl) (by kernel_rfl) (by kernel_rfl) rfl rfl rfl rfl (fun _ hz => (by rw [hz]; exact y2)) hZ ?_
        refine EA.tCmpF 13 rfl (by kernel_rfl) (by kernel_rfl) (by kernel_rfl) rfl rfl rfl rfl rfl rfl (by first | (dsimp only [cmpP]; omega) | exact rfl | exact Int.le_refl _) hZ ?_
        refine EA.tMove 14 rfl (by kernel_rfl) (by kernel_rfl) (by kernel_rfl) rfl rfl rfl rfl hZ ?_
        refine EA.takeNo 15 rfl (by kernel_rfl) (by kernel_rfl) (by kernel_rfl) rfl rfl rfl hZ ?_
        refine EA.takeNo 16 rfl (by kernel_rfl) (by kernel_rfl) (by kernel_rfl) rfl rfl rfl hZ ?_
        refine EA.takeNo 17 rfl (by kernel_rfl) (by kernel_rfl) (by kernel_rfl) rfl rfl rfl hZ ?_
        refine EA.takeNo 18 rfl (by kernel_rfl) (by kernel_rfl) (by kernel_rfl) rfl rfl rfl hZ ?_
        refine EA.takeNo 19 rfl (by kernel_rfl) (by kernel_rfl) (by kernel_rfl) rfl rfl rfl hZ ?_
        refine EA.takeNo 20 rfl (by kernel_rfl) (by kernel_rfl) (by kernel_rfl) rfl rfl rfl hZ ?_
        refine EA.takeNo 21 rfl (by kernel_rfl) (by kernel_rfl) (by kernel_rfl) rfl rfl rfl hZ ?_
        refine EA.takeNo 22 rfl (by kernel_rfl) (by kernel_rfl) (by kernel_rfl) rfl rfl rfl hZ ?_
        refine EA.tPickF 23 rfl (by kernel_rfl) (by kernel_rfl) (by kernel_rfl) rfl rfl rfl rfl rfl hZ ?_
        refine EA.tPickF 24 rfl (by kernel_rfl) (by kernel_rfl) (by kernel_rfl) rfl rfl rfl rfl rfl hZ ?_
        refine EA.tMove 25 rfl (by kernel_rfl) (by kernel_rfl) (by kernel_rfl) rfl rfl rfl rfl hZ ?_
        refine EA.tField 26 rfl (by kernel_rfl) (by kernel_rfl) (by kernel_rfl) rfl rfl rfl rfl hZ ?_
        refine EA.tLoad 27 rfl (by kernel_rfl) (by kernel_rfl) (by kernel_rfl) rfl rfl rfl rfl (fun _ hz => (by rw [hz]; exact y5)) hZ ?_
        refine EA.tField 28 rfl (by kernel_rfl) (by kernel_rfl) (by kernel_rfl) rfl rfl rfl rfl hZ ?_
        refine EA.tLoad 29 rfl (by kernel_rfl) (by kernel_rfl) (by kernel_rfl) rfl rfl rfl rfl (fun _ hz => (by rw [hz]; exact y6)) hZ ?_
        refine EA.tCmpF 30 rfl (by kernel_rfl) (by kernel_rfl) (by kernel_rfl) rfl rfl rfl rfl rfl rfl (by first | (dsimp only [cmpP]; omega) | exact rfl | exact Int.le_refl _) hZ ?_
        refine EA.tPickF 31 rfl (by kernel_rfl) (by kernel_rfl) (by kernel_rfl) rfl rfl rfl rfl rfl hZ ?_
        refine EA.tMove 32 rfl (by kernel_rfl) (by kernel_rfl) (by kernel_rfl) rfl rfl rfl rfl hZ ?_
        refine EA.tField 33 rfl (by kernel_rfl) (by kernel_rfl) (by kernel_rfl) rfl rfl rfl rfl hZ ?_
        refine EA.tLoad 34 rfl (by kernel_rfl) (by kernel_rfl) (by kernel_rfl) rfl rfl rfl rfl (fun _ hz => (by rw [hz]; exact y7)) hZ ?_
        refine EA.tPickF 35 rfl (by kernel_rfl) (by kernel_rfl) (by kernel_rfl) rfl rfl rfl rfl rfl hZ ?_
        refine EA.done (by kernel_rfl) ?_
        (repeat (first | refine EK.region ?_ | refine ER.done ?_ | refine EK.skip ?_ | refine EK.inBlock ?_ | refine ER.move rfl rfl rfl ?_ | refine ER.assign rfl rfl rfl ?_ | refine ER.add (kd := .i64) rfl rfl rfl rfl (i64_in (by omega) (by omega)) ?_ | refine EK.condF rfl ?_))
        exact EK.back (again (k + 1) _ _ (by omega) ⟨by omega, rfl, u3⟩) ⟨rfl, rfl, rfl, trivial⟩
    · obtain rfl : k = R.left.length := by omega
      clear again
      (repeat (first | refine EK.seq ?_ | refine EK.region ?_ | refine ER.done ?_ | refine ER.move rfl rfl rfl ?_ | refine ER.assign rfl rfl rfl ?_ | refine ER.nilCheck rfl rfl rfl ?_ | refine ER.fieldAddr rfl rfl rfl ?_ | refine ER.cmpF rfl rfl rfl rfl rfl (by first | (dsimp only [cmpP]; omega) | exact rfl | exact Int.le_refl _) ?_ | refine ER.len1 rfl rfl rfl ?_ | refine EK.condF rfl ?_ | refine EK.ret ?_ | refine EK.exit rfl ?_ | refine ER.load1 rfl rfl rfl (by assumption) ?_))
      exact EU.ret1 rfl rfl ⟨rfl, rfl, cv, u2.get row (fun x => x), upd_then up u2 (fun _ _ x => x.elim), fst.upd u2 (fun _ _ x => x), newc⟩
end
end Go.Proofs.Ytcpcdnkemobneaa
end
section
namespace Go.Proofs.Ytcpcdnkemobneaa
open Go Go.TJ Go.Conc Go.Proofs
section
variable {Γ : Type} {main : Bool} {S : Sit Γ} {δ : Ix Γ} {h h' : Hp} {R : Rec} {picks : List Int} {lL lW lY lV sP tv cv : Value} {last : Int} {C n most : Nat} {e : Int} {X : Us}
theorem RecOk.left_len (ok : RecOk X picks R) : R.left.length ≤ 64 := by
  have h2 := rise_len (n := R.nb) (l := R.left.map (·.1)) 0 (List.pairwise_map.2 ok.rise) (fun _ _ => Nat.zero_le _) (fun a ha => by
    obtain ⟨q, hq, rfl⟩ := List.mem_map.1 ha
    exact (ok.left q hq).1)
  rw [List.length_map] at h2
  have := ok.nb
  omega
theorem RecOk.rise_at (ok : RecOk X picks R) {k : Nat} {a b : Nat × Rq} (ha : R.left[k]? = some a) (hb : R.left[k + 1]? = some b) : a.1 < b.1 := by
  obtain ⟨_, _, h1⟩ := take_mid ha
  obtain ⟨_, _, h2⟩ := take_mid hb
  have := List.pairwise_iff_getElem.1 ok.rise k (k + 1) h1 h2 (by omega)
  rw [List.getElem?_eq_getElem h1] at ha
  rw [List.getElem?_eq_getElem h2] at hb
  cases ha; cases hb
  exact this
set_option maxHeartbeats 8000000 in
set_option maxRecDepth 8000 in
theorem shape_ok (ok : RecOk X picks R) (m : RecM R picks lL lW lY lV sP h) (hC : h[C]? = some (chkO R.e R.log.length lL lW lY lV sP R.most tv cv last)) :
    CallW Try.prog main S 80 #[ptr C] h δ (Ret (Det (.bool true) h δ)) := by
  have hlen := ok.len
  have hmost := ok.most
  have hnl := ok.left_len
  obtain ⟨aW, kW, eW⟩ := m.went.val
  obtain ⟨aY, kY, eY⟩ := m.rdy.val
  obtain ⟨aV, kV, eV⟩ := m.left.val
  subst eW eY eV
  have hrd := ok.rdy
  have hwl : (R.log.map (·.thr)).length = R.log.length := List.length_map _
  rw [hwl, hrd] at hC
  have d1 : hcell h ⟨C, 1, none⟩ = some (.int .i64 R.log.length) := hcell_of hC rfl
  have d3 : hcell h ⟨C, 3, none⟩ = some (.slice aW R.log.length kW) := hcell_of hC rfl
  have d4 : hcell h ⟨C, 4, none⟩ = some (.slice aY R.log.length kY) := hcell_of hC rfl
  have d5 : hcell h ⟨C, 5, none⟩ = some (.slice aV R.left.length kV) := hcell_of hC rfl
  have d6 : hcell h ⟨C, 6, none⟩ = some nilS := hcell_of hC rfl
  have d8 : hcell h ⟨C, 8, none⟩ = some (.int .i64 R.most) := hcell_of hC rfl
  refine CallW.start (n := 101) rfl rfl ?_
  (repeat (first | refine EK.seq ?_ | refine EK.region ?_ | refine ER.done ?_ | refine ER.assign rfl rfl rfl ?_))
  refine EK.regionAny (fun h' => h' = h) ?_
  have hZ : h = h := rfl
  refine EA.tMove 0 rfl (by kernel_rfl) (by kernel_rfl) (by kernel_rfl) rfl rfl rfl rfl hZ ?_
  refine EA.tNil 1 rfl (by kernel_rfl) (by kernel_rfl) (by kernel_rfl) rfl rfl rfl rfl hZ ?_
  refine EA.tField 2 rfl (by kernel_rfl) (by kernel_rfl) (by kernel_rfl) rfl rfl rfl rfl hZ ?_
  refine EA.tField 3 rfl (by kernel_rfl) (by kernel_rfl) (by kernel_rfl) rfl rfl rfl rfl hZ ?_
  refine EA.tLoad 4 rfl (by kernel_rfl) (by kernel_rfl) (by kernel_rfl) rfl rfl rfl rfl (fun _ hz => (by rw [hz]; exact d1)) hZ ?_
  refine EA.tMove 5 rfl (by kernel_rfl) (by kernel_rfl) (by kernel_rfl) rfl rfl rfl rfl hZ ?_
  refine EA.tNil 6 rfl (by kernel_rfl) (by kernel_rfl) (by kernel_rfl) rfl rfl rfl rfl hZ ?_
  refine EA.tField 7 rfl (by kernel_rfl) (by kernel_rfl) (by kernel_rfl) rfl rfl rfl rfl hZ ?_
  refine EA.tField 8 rfl (by kernel_rfl) (by kernel_rfl) (by kernel_rfl) rfl rfl rfl rfl hZ ?_
  refine EA.tLoad 9 rfl (by kernel_rfl) (by kernel_rfl) (by kernel_rfl) rfl rfl rfl rfl (fun _ hz => (by rw [hz]; exact d3)) hZ ?_
  refine EA.tLen1 10 rfl (by kernel_rfl) (by kernel_rfl) (by kernel_rfl) rfl rfl rfl rfl hZ ?_
  refine EA.tCmpF 11 rfl (by kernel_rfl) (by kernel_rfl) (by kernel_rfl) rfl rfl rfl rfl rfl rfl (by first | (dsimp only [cmpP]; omega) | exact rfl | exact Int.le_refl _) hZ ?_
  refine EA.tMove 12 rfl (by kernel_rfl) (by kernel_rfl) (by kernel_rfl) rfl rfl rfl rfl hZ ?_
  refine EA.tMove 13 rfl (by kernel_rfl) (by kernel_rfl) (by kernel_rfl) rfl rfl rfl rfl hZ ?_
  refine EA.tNil 14 rfl (by kernel_rfl) (by kernel_rfl) (by kernel_rfl) rfl rfl rfl rfl hZ ?_
  refine EA.tField 15 rfl (by kernel_rfl) (by kernel_rfl) (by kernel_rfl) rfl rfl rfl rfl hZ ?_
  refine EA.tField 16 rfl (by kernel_rfl) (by kernel_rfl) (by kernel_rfl) rfl rfl rfl rfl hZ ?_
  refine EA.tLoad 17 rfl (by kernel_rfl) (by kernel_rfl) (by kernel_rfl) rfl rfl rfl rfl (fun _ hz => (by rw [hz]; exact d1)) hZ ?_
  refine EA.tMove 18 rfl (by kernel_rfl) (by kernel_rfl) (by kernel_rfl) rfl rfl rfl rfl hZ ?_
  refine EA.tNil 19 rfl (by kernel_rfl) (by kernel_rfl) (by kernel_rfl) rfl rfl rfl rfl hZ ?_
  refine EA.tField 20 rfl (by kernel_rfl) (by kernel_rfl) (by kernel_rfl) rfl rfl rfl rfl hZ ?_
  refine EA.tField 21 rfl (by kernel_rfl) (by kernel_rfl) (by kernel_rfl) rfl rfl rfl rfl hZ ?_
  refine EA.tLoad 22 rfl (by kernel_rfl) (by kernel_rfl) (by kernel_rfl) rfl rfl rfl rfl (fun _ hz => (by rw [hz]; exact d4)) hZ ?_
  refine EA.tLen1 23 rfl (by kernel_rfl) (by kernel_rfl) (by kernel_rfl) rfl rfl rfl rfl hZ ?_
  refine EA.tCmpF 24 rfl (by kernel_rfl) (by kernel_rfl) (by kernel_rfl) rfl rfl rfl rfl rfl rfl (by first | (dsimp only [cmpP]; omega) | exact rfl | exact Int.le_refl _) hZ ?_
  refine EA.tPickF 25 rfl (by kernel_rfl) (by kernel_rfl) (by kernel_rfl) rfl rfl rfl rfl rfl hZ ?_
  refine EA.tMove 26 rfl (by kernel_rfl) (by kernel_rfl) (by kernel_rfl) rfl rfl rfl rfl hZ ?_
  refine EA.tMove 27 rfl (by kernel_rfl) (by kernel_rfl) (by kernel_rfl) rfl rfl rfl rfl hZ ?_
  refine EA.tNil 28 rfl (by kernel_rfl) (by kernel_rfl) (by kernel_rfl) rfl rfl rfl rfl hZ ?_
  refine EA.tField 29 rfl (by kernel_rfl) (by kernel_rfl) (by kernel_rfl) rfl rfl rfl rfl hZ ?_
  refine EA.tField 30 rfl (by kernel_rfl) (by kernel_rfl) (by kernel_rfl) rfl rfl rfl rfl hZ ?_
  refine EA.tLoad 31 rfl (by kernel_rfl) (by kernel_rfl) (by kernel_rfl) rfl rfl rfl rfl (fun _ hz => (by rw [hz]; exact d1)) hZ ?_
  refine EA.tMove 32 rfl (by kernel_rfl) (by kernel_rfl) (by kernel_rfl) rfl rfl rfl rfl hZ ?_
  refine EA.tNil 33 rfl (by kernel_rfl) (by kernel_rfl) (by kernel_rfl) rfl rfl rfl rfl hZ ?_
  refine EA.tField 34 rfl (by kernel_rfl) (by kernel_rfl) (by kernel_rfl) rfl rfl rfl rfl hZ ?_
  refine EA.tLoad 35 rfl (by kernel_rfl) (by kernel_rfl) (by kernel_rfl) rfl rfl rfl rfl (fun _ hz => (by rw [hz]; exact d8)) hZ ?_
  refine EA.tCmpF 36 rfl (by kernel_rfl) (by kernel_rfl) (by kernel_rfl) rfl rfl rfl rfl rfl rfl (by first | (dsimp only [cmpP]; omega) | exact rfl | exact Int.le_refl _) hZ ?_
  refine EA.tPickF 37 rfl (by kernel_rfl) (by kernel_rfl) (by kernel_rfl) rfl rfl rfl rfl rfl hZ ?_
  refine EA.done (by kernel_rfl) ?_
  clear hZ
  (repeat (first | refine EK.seq ?_ | refine EK.region ?_ | refine ER.done ?_ | refine EK.skip ?_ | refine EK.block ?_ | refine ER.assign rfl rfl rfl ?_ | refine EK.condF rfl ?_))
  refine EK.loopInv (fun k : Nat => [(3, .int .i64 k), (0, ptr C)]) (fun k h' δ' => 1 ≤ k ∧ (k ≤ R.left.length ∨ k = 1) ∧ h' = h ∧ δ' = δ) (fun k => R.left.length - k) 1 ⟨rfl, rfl, trivial⟩ ⟨Nat.le_refl _, .inr rfl, rfl, rfl⟩ ?_
  rintro k h2 δ2 ⟨hk1, hk, rfl, rfl⟩ again
  by_cases hin : k < R.left.length
  · obtain ⟨q, rfl⟩ : ∃ q, k = q + 1 := ⟨k - 1, by omega⟩
    obtain ⟨a, ha⟩ : ∃ a, R.left[q]? = some a := ⟨_, List.getElem?_eq_getElem (by omega)⟩
    obtain ⟨b, hb⟩ : ∃ b, R.left[q + 1]? = some b := ⟨_, List.getElem?_eq_getElem hin⟩
    have hab := ok.rise_at ha hb
    obtain ⟨bV, ea, row1, hz⟩ := slice_row (leftE_len (nums R.log) R.val) m.left ha
    subst ea
    obtain ⟨bV2, ea, row2, hz⟩ := slice_row (leftE_len (nums R.log) R.val) m.left hb
    injection ea with ea
    injection ea with ea
    subst ea
    have g1 : hcell h2 ⟨bV, 0 + (((q + 1 : Nat) : Int) - 1).toNat * 8 + 0, none⟩ = some (.int .i64 a.1) := by
      rw [show (((q + 1 : Nat) : Int) - 1).toNat = q by omega]; exact row1 0 _ rfl
    have g2 : hcell h2 ⟨bV, 0 + (q + 1) * 8 + 0, none⟩ = some (.int .i64 b.1) := row2 0 _ rfl
    (repeat (first | refine EK.seq ?_ | refine EK.region ?_ | refine ER.done ?_ | refine EK.skip ?_ | refine EK.block ?_ | refine ER.move rfl rfl rfl ?_ | refine ER.nilCheck rfl rfl rfl ?_ | refine ER.fieldAddr rfl rfl rfl ?_ | refine ER.load1 rfl rfl rfl (hcell_of (by assumption) rfl) ?_ | refine ER.cmpT rfl rfl rfl rfl rfl (by first | (dsimp only [cmpP]; omega) | exact rfl | exact Int.le_refl _) ?_ | refine ER.len1 rfl rfl rfl ?_ | refine EK.condT rfl ?_))
    refine EK.regionAny (fun h' => h' = h2) ?_
    have hZ : h2 = h2 := rfl
    refine EA.tMove 0 rfl (by kernel_rfl) (by kernel_rfl) (by kernel_rfl) rfl rfl rfl rfl hZ ?_
    refine EA.tNil 1 rfl (by kernel_rfl) (by kernel_rfl) (by kernel_rfl) rfl rfl rfl rfl hZ ?_
    refine EA.tField 2 rfl (by kernel_rfl) (by kernel_rfl) (by kernel_rfl) rfl rfl rfl rfl hZ ?_
    refine EA.tField 3 rfl (by kernel_rfl) (by kernel_rfl) (by kernel_rfl) rfl rfl rfl rfl hZ ?_
    refine EA.tLoad 4 rfl (by kernel_rfl) (by kernel_rfl) (by kernel_rfl) rfl rfl rfl rfl (fun _ hz => (by rw [hz]; exact d5)) hZ ?_
    refine EA.tMove 5 rfl (by kernel_rfl) (by kernel_rfl) (by kernel_rfl) rfl rfl rfl rfl hZ ?_
    refine EA.tIdxS 6 rfl (by kernel_rfl) (by kernel_rfl) (by kernel_rfl) rfl rfl rfl rfl rfl (by omega) (by omega) hZ ?_
    refine EA.tField 7 rfl (by kernel_rfl) (by kernel_rfl) (by kernel_rfl) rfl rfl rfl rfl hZ ?_
    refine EA.tLoad 8 rfl (by kernel_rfl) (by kernel_rfl) (by kernel_rfl) rfl rfl rfl rfl (fun _ hz => (by rw [hz]; exact g2)) hZ ?_
    refine EA.tMove 9 rfl (by kernel_rfl) (by kernel_rfl) (by kernel_rfl) rfl rfl rfl rfl hZ ?_
    refine EA.tNil 10 rfl (by kernel_rfl) (by kernel_rfl) (by kernel_rfl) rfl rfl rfl rfl hZ ?_
    refine EA.tField 11 rfl (by kernel_rfl) (by kernel_rfl) (by kernel_rfl) rfl rfl rfl rfl hZ ?_
    refine EA.tField 12 rfl (by kernel_rfl) (by kernel_rfl) (by kernel_rfl) rfl rfl rfl rfl hZ ?_
    refine EA.tLoad 13 rfl (by kernel_rfl) (by kernel_rfl) (by kernel_rfl) rfl rfl rfl rfl (fun _ hz => (by rw [hz]; exact d5)) hZ ?_
    refine EA.tMove 14 rfl (by kernel_rfl) (by kernel_rfl) (by kernel_rfl) rfl rfl rfl rfl hZ ?_
    refine EA.tSub (kd := .i64) 15 rfl (by kernel_rfl) (by kernel_rfl) (by kernel_rfl) rfl rfl rfl rfl rfl (i64_in (by omega) (by omega)) hZ ?_
    refine EA.tIdxS 16 rfl (by kernel_rfl) (by kernel_rfl) (by kernel_rfl) rfl rfl rfl rfl rfl (by omega) (by omega) hZ ?_
    refine EA.tField 17 rfl (by kernel_rfl) (by kernel_rfl) (by kernel_rfl) rfl rfl rfl rfl hZ ?_
    refine EA.tLoad 18 rfl (by kernel_rfl) (by kernel_rfl) (by kernel_rfl) rfl rfl rfl rfl (fun _ hz => (by rw [hz]; exact g1)) hZ ?_
    refine EA.tCmpF 19 rfl (by kernel_rfl) (by kernel_rfl) (by kernel_rfl) rfl rfl rfl rfl rfl rfl (by first | (dsimp only [cmpP]; omega) | exact rfl | exact Int.le_refl _) hZ ?_
    refine EA.done (by kernel_rfl) ?_
    clear hZ g1 g2
    (repeat (first | refine EK.region ?_ | refine ER.done ?_ | refine EK.skip ?_ | refine EK.inBlock ?_ | refine ER.move rfl rfl rfl ?_ | refine ER.assign rfl rfl rfl ?_ | refine ER.add (kd := .i64) rfl rfl rfl rfl (i64_in (by omega) (by omega)) ?_ | refine EK.condF rfl ?_))
    exact EK.back (again (q + 1 + 1) _ _ (by omega) ⟨by omega, .inl (by omega), rfl, rfl⟩) ⟨rfl, rfl, trivial⟩
  · clear again
    (repeat (first | refine EK.seq ?_ | refine EK.region ?_ | refine ER.done ?_ | refine EK.block ?_ | refine ER.move rfl rfl rfl ?_ | refine ER.assign rfl rfl rfl ?_ | refine ER.nilCheck rfl rfl rfl ?_ | refine ER.fieldAddr rfl rfl rfl ?_ | refine ER.load1 rfl rfl rfl (hcell_of (by assumption) rfl) ?_ | refine ER.cmpF rfl rfl rfl rfl rfl (by first | (dsimp only [cmpP]; omega) | exact rfl | exact Int.le_refl _) ?_ | refine ER.len1 rfl rfl rfl ?_ | refine EK.condF rfl ?_ | refine EK.exit rfl ?_))
    refine EK.loopInv (fun k : Nat => [(4, .int .i64 1), (0, ptr C)]) (fun k h' δ' => h' = h2 ∧ δ' = δ2) (fun k => 0) 0 ⟨rfl, rfl, trivial⟩ ⟨rfl, rfl⟩ ?_
    rintro k h2 δ2 ⟨rfl, rfl⟩ -
    (repeat (first | refine EK.seq ?_ | refine EK.region ?_ | refine ER.done ?_ | refine ER.move rfl rfl rfl ?_ | refine ER.assign rfl rfl rfl ?_ | refine ER.nilCheck rfl rfl rfl ?_ | refine ER.fieldAddr rfl rfl rfl ?_ | refine ER.load1 rfl rfl rfl (hcell_of (by assumption) rfl) ?_ | refine ER.cmpF rfl rfl rfl rfl rfl (by first | (dsimp only [cmpP]; omega) | exact rfl | exact Int.le_refl _) ?_ | refine ER.len1 rfl rfl rfl ?_ | refine EK.condF rfl ?_ | refine EK.ret ?_ | refine EK.exit rfl ?_))
    exact EU.ret1 rfl rfl det
end
end Go.Proofs.Ytcpcdnkemobneaa
end
section
namespace Go.Proofs.Ytcpcdnkemobneaa
open Go Go.TJ Go.Conc Go.Proofs
theorem sliceO_two {h : Hp} {s s' : Value} {e e' sz sz' n n' : Nat} {cells cells' : List Value} (x : SliceO h s e sz n cells) (y : SliceO h s' e' sz' n' cells') (hne : e ≠ e') : ∀ b, blk s = some b → blk s' ≠ some b := by
  intro b hb hb'
  obtain ⟨_, ⟨rfl, _⟩ | ⟨b1, cap, rest, rfl, h1, h2, h3⟩⟩ := y
  · cases hb'
  · cases hb'
    exact sliceO_ne x h3 hne _ hb rfl
structure ChkI (R : Rec) (lL lW lY lV sP : Value) (h0 : Hp) (C : Nat) (tv cv : Value) (last : Int) (thr : List Nat) (cl : List Int) (h : Hp) : Prop where
  up : Upd (fun _ => False) h0 h
  row : h[C]? = some (chkO R.e R.log.length lL lW lY lV sP R.most tv cv last)
  thr : SliceO h tv 3 1 thr.length (thr.map fun (n : Nat) => Value.int .i64 (n : Int))
  cel : SliceO h cv 2 1 cl.length (cl.map fun x => Value.int .i64 x)
  nC : h0.size ≤ C
  nt : ∀ b, blk tv = some b → h0.size ≤ b
  nc : ∀ b, blk cv = some b → h0.size ≤ b
def TI (R : Rec) (k : Nat) (thr : List Nat) : Prop := ∀ j t, thr[j]? = some t → t ≤ R.log.length ∧ ∀ i e, k ≤ i → i < t → R.log[i]? = some e → e.thr ≠ j
theorem TI.mono {R : Rec} {k k' : Nat} {thr : List Nat} (x : TI R k thr) (hk : k ≤ k') : TI R k' thr := fun j t ht => ⟨(x j t ht).1, fun i e hi => (x j t ht).2 i e (by omega)⟩
theorem TI.set {R : Rec} {k j t : Nat} {thr : List Nat} (x : TI R k thr) (h1 : t ≤ R.log.length) (h2 : ∀ i e, k ≤ i → i < t → R.log[i]? = some e → e.thr ≠ j) : TI R k (thr.set j t) := by
  intro j' t' ht
  by_cases e : j' = j
  · subst e
    have hlt : j' < thr.length := by have := (take_mid ht).2.2; simpa using this
    rw [List.getElem?_set_self hlt] at ht
    cases ht
    exact ⟨h1, h2⟩
  · rw [List.getElem?_set_ne (Ne.symm e)] at ht
    exact x j' t' ht
section
variable {R : Rec} {k j : Nat}
theorem mem_alive : j ∈ R.alive k ↔ j < R.nb ∧ ((∃ q, q ∈ R.left ∧ q.1 = j) ∨ ∃ i e, k ≤ i ∧ R.log[i]? = some e ∧ e.thr = j) := by
  unfold Rec.alive
  rw [List.mem_filter, List.mem_range, Bool.or_eq_true, List.any_eq_true, List.any_eq_true]
  refine and_congr_right fun _ => or_congr ?_ ?_
  · constructor
    · rintro ⟨q, hq, e⟩; exact ⟨q, hq, by simpa using e⟩
    · rintro ⟨q, hq, e⟩; exact ⟨q, hq, by simpa using e⟩
  · constructor
    · rintro ⟨e, he, h⟩
      obtain ⟨i, hi, rfl⟩ := List.mem_iff_getElem.1 he
      have := List.getElem?_eq_getElem hi
      rw [List.getElem?_drop] at this
      exact ⟨k + i, _, by omega, this, by simpa using h⟩
    · rintro ⟨i, e, hi, he, h⟩
      refine ⟨e, List.mem_of_getElem? (i := i - k) ?_, by simpa using h⟩
      rw [List.getElem?_drop, show k + (i - k) = i by omega]
      exact he
theorem alive_at {i : Nat} {e : Ev} (hj : j < R.nb) (hi : k ≤ i) (he : R.log[i]? = some e) (h : e.thr = j) : j ∈ R.alive k := mem_alive.2 ⟨hj, .inr ⟨i, e, hi, he, h⟩⟩
end
section
variable {Γ : Type} {main : Bool} {S : Sit Γ} {δ : Ix Γ} {h h' h0 : Hp} {R : Rec} {picks : List Int} {lL lW lY lV sP tv cv : Value} {last : Int} {C n k j : Nat} {e : Int} {X : Us} {thr : List Nat} {cl : List Int}
theorem ChkI.upd0 (I : ChkI R lL lW lY lV sP h0 C tv cv last thr cl h) (u : Upd (fun _ => False) h h') : ChkI R lL lW lY lV sP h0 C tv cv last thr cl h' :=
  ⟨I.up.trans u, u.get I.row (fun x => x), I.thr.upd u (fun _ _ x => x), I.cel.upd u (fun _ _ x => x), I.nC, I.nt, I.nc⟩
theorem ChkI.other (I : ChkI R lL lW lY lV sP h0 C tv cv last thr cl h) {y : Nat} {vs : List Value} (hy : h[y]? = some (accO vs)) (hy0 : h0.size ≤ y) (o : Obj) : ChkI R lL lW lY lV sP h0 C tv cv last thr cl (h.setIfInBounds y o) := by
  have u : Upd (fun b => b = y) h (h.setIfInBounds y o) := Upd.set _ _ _ rfl
  have hyC : C ≠ y := fun e => by
    have := I.row
    rw [e, hy] at this
    injection this with this
    injection this with _ this _
    revert this; decide
  exact ⟨I.up.over u (fun b hb => by omega), u.get I.row hyC, I.thr.upd u (sliceO_ne I.thr hy (by decide)), I.cel.upd u (sliceO_ne I.cel hy (by decide)), I.nC, I.nt, I.nc⟩
theorem ChkI.setT {b cap : Nat} (I : ChkI R lL lW lY lV sP h0 C (.slice (some ⟨b, 0, none⟩) thr.length cap) cv last thr cl h) {j t : Nat} (hj : j < thr.length) : ChkI R lL lW lY lV sP h0 C (.slice (some ⟨b, 0, none⟩) thr.length cap) cv last (thr.set j t) cl (hset h ⟨b, 0 + j * 1, none⟩ (.int .i64 t)) := by
  have u : Upd (fun x => x = b) h (hset h ⟨b, 0 + j * 1, none⟩ (.int .i64 t)) := Upd.hset _ _ _ rfl
  have hb := I.nt b rfl
  have e1 : 0 + j * 1 = j := by omega
  refine ⟨I.up.over u (fun b' hb' => by omega), u.get I.row (fun e => sliceO_ne I.thr I.row (by decide) b rfl e.symm), ?_, I.cel.upd u (fun b' hb' e => sliceO_two I.thr I.cel (by decide) b rfl (by rw [← e]; exact hb')), I.nC, I.nt, I.nc⟩
  have := I.thr.set (j := j) (by rw [List.length_map]; exact hj) (.int .i64 t)
  rw [e1, List.map_set, List.length_set]
  exact this
theorem acc_all {y : Nat} {vs : List Value} {h : Hp} (hl : vs.length = 8) (hy : h[y]? = some (accO vs)) : ∀ j, j < 8 → (∃ u, hcell h ⟨y, 0 + j, none⟩ = some u) ∧ hfroz h ⟨y, 0 + j, none⟩ = false ∧ ¬ (NoS (Γ := Γ)).still δ.g ⟨y, 0 + j, none⟩ := fun j hj => by
  obtain ⟨v, hv⟩ : ∃ v, vs[j]? = some v := ⟨_, List.getElem?_eq_getElem (by omega)⟩
  refine ⟨⟨v, ?_⟩, hfroz_of hy, fun x => x⟩
  rw [Nat.zero_add]
  exact hcell_of hy (by simp only [List.getElem?_toArray]; exact hv)
set_option maxHeartbeats 8000000 in
set_option maxRecDepth 8000 in
theorem next_ok (ok : RecOk X picks R) (m : RecM R picks lL lW lY lV sP h0) (I : ChkI R lL lW lY lV sP h0 C tv cv last thr cl h) (hl : thr.length = R.nb) (ti : TI R k thr) (hj : j < R.nb) (hk : k ≤ R.log.length) :
    CallW Try.prog main (NoS (Γ := Γ)) 177 #[ptr C, .int .i64 j, .int .i64 k] h δ (Ret fun v h' δ' => δ' = δ ∧ ∃ (thr' : List Nat) (t o c a n w x : Int) (f b : Bool), v = .tuple #[.agg (accL t o c a n w x f).toArray, .bool b] ∧ (b = true ↔ j ∈ R.alive k) ∧ (b = true → 1 ≤ o ∧ o ≤ 5 ∧ -1 ≤ c ∧ c < (nums R.log).length) ∧
      thr'.length = R.nb ∧ TI R k thr' ∧ ChkI R lL lW lY lV sP h0 C tv cv last thr' cl h' ∧ Upd (fun b => blk tv = some b) h h') := by
  have hlen := ok.len
  have hmost := ok.most
  have hnl := ok.left_len
  have hnb := ok.nb
  obtain ⟨aL, kL, eL⟩ := m.log.val
  obtain ⟨aV, kV, eV⟩ := m.left.val
  obtain ⟨aT, kT, eT⟩ := I.thr.val
  subst eL eV eT
  obtain ⟨t0, ht0⟩ : ∃ t0, thr[j]? = some t0 := ⟨_, List.getElem?_eq_getElem (by omega)⟩
  obtain ⟨ht1, ht2⟩ := ti j t0 ht0
  obtain ⟨bT, eT, cT, fT⟩ := slice_at I.thr ht0
  subst eT
  have hjl : j < thr.length := by omega
  obtain ⟨y, hy⟩ : ∃ y, y = h.size := ⟨_, rfl⟩
  have hy0 : h0.size ≤ y := by have := I.up.size; omega
  refine CallW.start (n := 109) rfl rfl ?_
  (repeat (first | refine EK.seq ?_ | refine EK.region ?_ | refine ER.done ?_ | refine ER.move rfl rfl rfl ?_ | refine ER.assign rfl rfl rfl ?_ | refine ER.nilCheck rfl rfl rfl ?_ | refine ER.fieldAddr rfl rfl rfl ?_ | refine ER.allocA rfl rfl ?_))
  refine ER.gen (fun h' => ChkI R (.slice aL R.log.length kL) lW lY (.slice aV R.left.length kV) sP h0 C (.slice (some ⟨bT, 0, none⟩) thr.length kT) cv last thr cl h' ∧ Upd (fun _ => False) h h' ∧ h'[y]? = some (accO [.int .i64 0, .int .i8 0, .int .i64 0, .int .i64 0, .int .i64 0, .int .i64 0, .int .i64 0, .bool false])) ⟨I.upd0 (Upd.push _ _), Upd.push _ _, by rw [hy]; exact get_push_new _ _⟩ ?_
  rw [← hy]
  have hys : h.size ≤ y := by omega
  clear I cT fT hy
  rintro h1 ⟨I, u1, ly⟩
  obtain ⟨bT', eT, cT, fT⟩ := slice_at I.thr ht0
  injection eT with eT
  injection eT with eT
  subst eT
  have c9 : hcell h1 ⟨C, 9, none⟩ = some (.slice (some ⟨bT, 0, none⟩) thr.length kT) := hcell_of I.row rfl
  have c2 : hcell h1 ⟨C, 2, none⟩ = some (.slice aL R.log.length kL) := hcell_of I.row rfl
  obtain ⟨i0, hi0⟩ : ∃ i0, i0 = max k t0 := ⟨_, rfl⟩
  (repeat (first | refine ER.move rfl rfl rfl ?_ | refine ER.indexSl rfl rfl rfl rfl (by omega) (by omega) ?_ | refine ER.load1 rfl rfl rfl (by assumption) ?_))
  refine ER.max (r := (i0 : Int)) rfl rfl rfl rfl (by split <;> omega) ?_
  (repeat (first | refine ER.done ?_ | refine EK.block ?_ | refine ER.assign rfl rfl rfl ?_))
  refine EK.loopInv (fun i : Nat => [(8, .int .i64 i), (6, ptr y), (0, ptr C), (1, .int .i64 j)]) (fun i h' δ' => k ≤ i ∧ i ≤ R.log.length ∧ (∀ i' e, k ≤ i' → i' < i → R.log[i']? = some e → e.thr ≠ j) ∧ h' = h1 ∧ δ' = δ) (fun i => R.log.length - i) i0 ⟨rfl, rfl, rfl, rfl, trivial⟩ ⟨by omega, by omega, fun i' e h1 h2 h3 => ht2 i' e h1 (by omega) h3, rfl, rfl⟩ ?_
  rintro i h2 δ2 ⟨hik, hil, hno, rfl, rfl⟩ again
  by_cases hin : i < R.log.length
  · obtain ⟨e, he⟩ : ∃ e, R.log[i]? = some e := ⟨_, List.getElem?_eq_getElem hin⟩
    obtain ⟨bL, ea, hrow, hz⟩ := slice_row (entL_len (nums R.log)) (m.log.upd I.up (fun _ _ x => x)) he
    subst ea
    have w0 : hcell h2 ⟨bL, 0 + i * 8 + 0, none⟩ = some (.int .i64 e.thr) := hrow 0 _ rfl
    have w1 : hcell h2 ⟨bL, 0 + i * 8 + 1, none⟩ = some (.int .i8 e.op) := hrow 1 _ rfl
    obtain ⟨w, i1, r, cw, hr, e1, ch2⟩ := ok.chain.inv he
    have hop1 : 1 ≤ e.op := by rw [e1]; exact hr.op1
    have hop2 : e.op ≤ 5 := by rw [e1]; exact hr.op2
    obtain ⟨-, i2, i3, -⟩ := idx_at he
    have hixl : (nums R.log).idxOf e.b < (nums R.log).length := by
      refine List.idxOf_lt_length_iff.2 ((nums_mem _ _).2 ⟨e, List.mem_of_getElem? he, rfl⟩)
    by_cases hej : e.thr = j
    · (repeat (first | refine EK.seq ?_ | refine EK.region ?_ | refine ER.done ?_ | refine EK.skip ?_ | refine EK.block ?_ | refine ER.move rfl rfl rfl ?_ | refine ER.nilCheck rfl rfl rfl ?_ | refine ER.fieldAddr rfl rfl rfl ?_ | refine ER.pickT rfl rfl rfl rfl ?_ | refine ER.cmpT rfl rfl rfl rfl rfl (by first | (dsimp only [cmpP]; omega) | exact rfl | exact Int.le_refl _) ?_ | refine ER.len1 rfl rfl rfl ?_ | refine ER.indexSl rfl rfl rfl rfl (by omega) (by omega) ?_ | refine EK.condT rfl ?_ | refine ER.load1 rfl rfl rfl (by assumption) ?_))
      refine ER.store1 rfl rfl rfl ⟨nofun, nofun⟩ ⟨_, cT⟩ (fT _) (fun x => x) ?_
      have I2 := I.setT (j := j) (t := i) hjl
      have row2 := hset_ne h2 ⟨bT, 0 + j * 1, none⟩ (.int .i64 i) (r := y) (fun e => sliceO_ne I.thr ly (by decide) bT rfl e)
      rw [ly] at row2
      have hrow2 : TJ.hrow (hset h2 ⟨bT, 0 + j * 1, none⟩ (.int .i64 i)) bL (0 + i * 8) (entL (nums R.log) e) := by
        obtain ⟨bL', ea, hrow2, -⟩ := slice_row (entL_len (nums R.log)) (m.log.upd I2.up (fun _ _ x => x)) he
        injection ea with ea
        injection ea with ea
        subst ea
        exact hrow2
      change ER _ _ _ _ _ _ _ _ _ _ (hset h2 ⟨bT, 0 + j * 1, none⟩ (.int .i64 i)) _ _
      have U2 : Upd (fun b => blk (.slice (some ⟨bT, 0, none⟩) thr.length kT) = some b) h (hset h2 ⟨bT, 0 + j * 1, none⟩ (.int .i64 i)) := upd_then (u1.mono (fun _ _ x => x.elim)) (Upd.hset (T := fun b => blk (.slice (some ⟨bT, 0, none⟩) thr.length kT) = some b) _ _ _ rfl) (fun _ _ x => x)
      generalize hset h2 ⟨bT, 0 + j * 1, none⟩ (.int .i64 i) = h3 at I2 row2 hrow2 U2 ⊢
      clear I c9 c2 ly cT fT hrow w0 w1 again
      have c2 : hcell h3 ⟨C, 2, none⟩ = some (.slice (some ⟨bL, 0, none⟩) R.log.length kL) := hcell_of I2.row rfl
      (repeat (first | refine EK.seq ?_ | refine EK.region ?_ | refine ER.done ?_ | refine ER.move rfl rfl rfl ?_ | refine ER.nilCheck rfl rfl rfl ?_ | refine ER.fieldAddr rfl rfl rfl ?_ | refine ER.indexSl rfl rfl rfl rfl (by omega) (by omega) ?_ | refine ER.load1 rfl rfl rfl (by assumption) ?_))
      refine ER.loadN (vs := entL (nums R.log) e) rfl rfl rfl rfl hrow2 ?_
      refine ER.storeN (vs := entL (nums R.log) e) rfl rfl rfl rfl (by simp [entL, accL, OneCell]) (acc_all rfl row2) ?_
      rw [row_set (c := [.int .i64 0, .int .i8 0, .int .i64 0, .int .i64 0, .int .i64 0, .int .i64 0, .int .i64 0, .bool false]) (vs := entL (nums R.log) e) row2 rfl]
      (repeat (first | refine ER.done ?_ | refine ER.assign rfl rfl rfl ?_ | refine EK.ret ?_))
      refine EU.retCell (vs := entL (nums R.log) e) rfl rfl rfl (hrow_block (rest := []) (by rw [List.append_nil]; exact get_set_same row2)) rfl ⟨rfl, thr.set j i, _, _, _, _, _, _, _, _, true, rfl, ⟨fun _ => alive_at hj hik he hej, fun _ => rfl⟩, fun _ => ⟨hop1, hop2, by omega, by omega⟩, by rw [List.length_set]; exact hl, ti.set hil hno, I2.other row2 hy0 _, upd_then U2 (Upd.set (T := fun b => b = y) _ _ _ rfl) (fun b hb e => by omega)⟩
    · (repeat (first | refine EK.seq ?_ | refine EK.region ?_ | refine ER.done ?_ | refine EK.skip ?_ | refine EK.block ?_ | refine EK.inBlock ?_ | refine ER.move rfl rfl rfl ?_ | refine ER.assign rfl rfl rfl ?_ | refine ER.nilCheck rfl rfl rfl ?_ | refine ER.fieldAddr rfl rfl rfl ?_ | refine ER.no rfl rfl ?_ | refine ER.pickF rfl rfl rfl rfl ?_ | refine ER.cmpT rfl rfl rfl rfl rfl (by first | (dsimp only [cmpP]; omega) | exact rfl | exact Int.le_refl _) ?_ | refine ER.cmpF rfl rfl rfl rfl rfl (by first | (dsimp only [cmpP]; omega) | exact rfl | exact Int.le_refl _) ?_ | refine ER.add (kd := .i64) rfl rfl rfl rfl (i64_in (by omega) (by omega)) ?_ | refine ER.len1 rfl rfl rfl ?_ | refine ER.indexSl rfl rfl rfl rfl (by omega) (by omega) ?_ | refine EK.condT rfl ?_ | refine EK.condF rfl ?_ | refine ER.load1 rfl rfl rfl (by assumption) ?_))
      exact EK.back (again (i + 1) _ _ (by omega) ⟨by omega, by omega, fun i' e' h1 h2 h3 => by
        by_cases e'' : i' = i
        · subst e''
          rw [he] at h3; cases h3; exact hej
        · exact hno i' e' h1 (by omega) h3, rfl, rfl⟩) ⟨rfl, rfl, rfl, rfl, trivial⟩
  · obtain rfl : i = R.log.length := by omega
    clear again hin
    (repeat (first | refine EK.seq ?_ | refine EK.region ?_ | refine ER.done ?_ | refine ER.move rfl rfl rfl ?_ | refine ER.nilCheck rfl rfl rfl ?_ | refine ER.fieldAddr rfl rfl rfl ?_ | refine ER.cmpF rfl rfl rfl rfl rfl (by first | (dsimp only [cmpP]; omega) | exact rfl | exact Int.le_refl _) ?_ | refine ER.len1 rfl rfl rfl ?_ | refine EK.condF rfl ?_ | refine EK.exit rfl ?_ | refine ER.load1 rfl rfl rfl (by assumption) ?_))
    refine EK.regionAnyL (fun h' => hcell h' ⟨C, 9, none⟩ = some (.slice (some ⟨bT, 0, none⟩) thr.length kT) ∧ hcell h' ⟨C, 2, none⟩ = some (.slice aL R.log.length kL)) 12 ?_
    have hZ : _ ∧ _ := And.intro c9 c2
    refine EA.tMove 0 rfl (by kernel_rfl) (by kernel_rfl) (by kernel_rfl) rfl rfl rfl rfl hZ ?_
    refine EA.tNil 1 rfl (by kernel_rfl) (by kernel_rfl) (by kernel_rfl) rfl rfl rfl rfl hZ ?_
    refine EA.tField 2 rfl (by kernel_rfl) (by kernel_rfl) (by kernel_rfl) rfl rfl rfl rfl hZ ?_
    refine EA.tLoad 3 rfl (by kernel_rfl) (by kernel_rfl) (by kernel_rfl) rfl rfl rfl rfl (fun _ hz => hz.1) hZ ?_
    refine EA.tMove 4 rfl (by kernel_rfl) (by kernel_rfl) (by kernel_rfl) rfl rfl rfl rfl hZ ?_
    refine EA.tMove 5 rfl (by kernel_rfl) (by kernel_rfl) (by kernel_rfl) rfl rfl rfl rfl hZ ?_
    refine EA.tNil 6 rfl (by kernel_rfl) (by kernel_rfl) (by kernel_rfl) rfl rfl rfl rfl hZ ?_
    refine EA.tField 7 rfl (by kernel_rfl) (by kernel_rfl) (by kernel_rfl) rfl rfl rfl rfl hZ ?_
    refine EA.tField 8 rfl (by kernel_rfl) (by kernel_rfl) (by kernel_rfl) rfl rfl rfl rfl hZ ?_
    refine EA.tLoad 9 rfl (by kernel_rfl) (by kernel_rfl) (by kernel_rfl) rfl rfl rfl rfl (fun _ hz => hz.2) hZ ?_
    refine EA.tLen1 10 rfl (by kernel_rfl) (by kernel_rfl) (by kernel_rfl) rfl rfl rfl rfl hZ ?_
    refine EA.val 11 rfl (by kernel_rfl) rfl rfl rfl (fun ρ Q X hρ hq => sem_indexSl (hρ _ _ rfl) (hρ _ _ rfl) (by omega) (by omega) hq) hZ ?_
    refine EA.unitL (h' := hset h2 ⟨bT, 0 + j * 1, none⟩ (.int .i64 R.log.length)) 12 rfl (by kernel_rfl) rfl rfl rfl (fun ρ Q X hρ hq => sem_store1 (hρ _ _ rfl) (hρ _ _ rfl) ⟨nofun, nofun⟩ ⟨_, cT⟩ (fT _) (fun x => x) hq) ?_
    refine EA.done (by kernel_rfl) ?_
    have I2 := I.setT (j := j) (t := R.log.length) hjl
    have row2 := hset_ne h2 ⟨bT, 0 + j * 1, none⟩ (.int .i64 R.log.length) (r := y) (fun e => sliceO_ne I.thr ly (by decide) bT rfl e)
    rw [ly] at row2
    have U2 : Upd (fun b => blk (.slice (some ⟨bT, 0, none⟩) thr.length kT) = some b) h (hset h2 ⟨bT, 0 + j * 1, none⟩ (.int .i64 R.log.length)) := upd_then (u1.mono (fun _ _ x => x.elim)) (Upd.hset (T := fun b => blk (.slice (some ⟨bT, 0, none⟩) thr.length kT) = some b) _ _ _ rfl) (fun _ _ x => x)
    generalize hset h2 ⟨bT, 0 + j * 1, none⟩ (.int .i64 R.log.length) = h3 at I2 row2 U2 ⊢
    clear hZ I c9 c2 ly cT fT
    have c5 : hcell h3 ⟨C, 5, none⟩ = some (.slice aV R.left.length kV) := hcell_of I2.row rfl
    (repeat (first | refine EK.seq ?_ | refine EK.region ?_ | refine ER.done ?_ | refine EK.block ?_ | refine ER.assign rfl rfl rfl ?_))
    refine EK.loopInv (fun i : Nat => [(9, .int .i64 i), (6, ptr y), (0, ptr C), (1, .int .i64 j)]) (fun i h' δ' => i ≤ R.left.length ∧ (∀ i' q, i' < i → R.left[i']? = some q → q.1 ≠ j) ∧ h' = h3 ∧ δ' = δ2) (fun i => R.left.length - i) 0 ⟨rfl, rfl, rfl, rfl, trivial⟩ ⟨Nat.zero_le _, fun i' q h => by omega, rfl, rfl⟩ ?_
    rintro i h3 δ3 ⟨hil2, hno2, rfl, rfl⟩ again
    by_cases hin : i < R.left.length
    · obtain ⟨q, hq⟩ : ∃ q, R.left[i]? = some q := ⟨_, List.getElem?_eq_getElem hin⟩
      obtain ⟨bV, ea, hrow, hz⟩ := slice_row (leftE_len (nums R.log) R.val) (m.left.upd I2.up (fun _ _ x => x)) hq
      subst ea
      have w0 : hcell h3 ⟨bV, 0 + i * 8 + 0, none⟩ = some (.int .i64 q.1) := hrow 0 _ rfl
      obtain ⟨hqn, hqr⟩ := ok.left q (List.mem_of_getElem? hq)
      by_cases hej : q.1 = j
      · (repeat (first | refine EK.seq ?_ | refine EK.region ?_ | refine ER.done ?_ | refine EK.skip ?_ | refine EK.block ?_ | refine ER.move rfl rfl rfl ?_ | refine ER.nilCheck rfl rfl rfl ?_ | refine ER.fieldAddr rfl rfl rfl ?_ | refine ER.cmpT rfl rfl rfl rfl rfl (by first | (dsimp only [cmpP]; omega) | exact rfl | exact Int.le_refl _) ?_ | refine ER.len1 rfl rfl rfl ?_ | refine ER.indexSl rfl rfl rfl rfl (by omega) (by omega) ?_ | refine EK.condT rfl ?_ | refine ER.load1 rfl rfl rfl (by assumption) ?_))
        refine ER.loadN (vs := leftE (nums R.log) R.val q) rfl rfl rfl rfl hrow ?_
        refine ER.storeN (vs := leftE (nums R.log) R.val q) rfl rfl rfl rfl (by simp [leftE, accL, OneCell]) (acc_all rfl row2) ?_
        rw [row_set (c := [.int .i64 0, .int .i8 0, .int .i64 0, .int .i64 0, .int .i64 0, .int .i64 0, .int .i64 0, .bool false]) (vs := leftE (nums R.log) R.val q) row2 rfl]
        (repeat (first | refine ER.done ?_ | refine ER.assign rfl rfl rfl ?_ | refine EK.ret ?_))
        refine EU.retCell (vs := leftE (nums R.log) R.val q) rfl rfl rfl (hrow_block (rest := []) (by rw [List.append_nil]; exact get_set_same row2)) rfl ⟨rfl, thr.set j R.log.length, _, _, _, _, _, _, _, _, true, rfl, ⟨fun _ => mem_alive.2 ⟨hj, .inl ⟨q, List.mem_of_getElem? hq, hej⟩⟩, fun _ => rfl⟩, fun _ => ⟨hqr.op1, hqr.op2, ?_, ?_⟩, by rw [List.length_set]; exact hl, ti.set (Nat.le_refl _) hno, I2.other row2 hy0 _, upd_then U2 (Upd.set (T := fun b => b = y) _ _ _ rfl) (fun b hb e => by omega)⟩
        · split <;> omega
        · split
          · rename_i hb
            have := List.idxOf_lt_length_iff.2 hb
            omega
          · omega
      · (repeat (first | refine EK.seq ?_ | refine EK.region ?_ | refine ER.done ?_ | refine EK.skip ?_ | refine EK.block ?_ | refine EK.inBlock ?_ | refine ER.move rfl rfl rfl ?_ | refine ER.assign rfl rfl rfl ?_ | refine ER.nilCheck rfl rfl rfl ?_ | refine ER.fieldAddr rfl rfl rfl ?_ | refine ER.cmpT rfl rfl rfl rfl rfl (by first | (dsimp only [cmpP]; omega) | exact rfl | exact Int.le_refl _) ?_ | refine ER.cmpF rfl rfl rfl rfl rfl (by first | (dsimp only [cmpP]; omega) | exact rfl | exact Int.le_refl _) ?_ | refine ER.add (kd := .i64) rfl rfl rfl rfl (i64_in (by omega) (by omega)) ?_ | refine ER.len1 rfl rfl rfl ?_ | refine ER.indexSl rfl rfl rfl rfl (by omega) (by omega) ?_ | refine EK.condT rfl ?_ | refine EK.condF rfl ?_ | refine ER.load1 rfl rfl rfl (by assumption) ?_))
        exact EK.back (again (i + 1) _ _ (by omega) ⟨by omega, fun i' q' h1 h3 => by
          by_cases e'' : i' = i
          · subst e''
            rw [hq] at h3; cases h3; exact hej
          · exact hno2 i' q' (by omega) h3, rfl, rfl⟩) ⟨rfl, rfl, rfl, rfl, trivial⟩
    · obtain rfl : i = R.left.length := by omega
      clear again hin
      have hna : j ∉ R.alive k := fun hm => by
        obtain ⟨_, ⟨q, hq, e⟩ | ⟨i, e, h1, h2, h3⟩⟩ := mem_alive.1 hm
        · obtain ⟨i, hi⟩ := List.getElem?_of_mem hq
          exact hno2 i q (take_mid hi).2.2 hi e
        · exact hno i e h1 (take_mid h2).2.2 h2 h3
      (repeat (first | refine EK.seq ?_ | refine EK.region ?_ | refine ER.done ?_ | refine ER.move rfl rfl rfl ?_ | refine ER.nilCheck rfl rfl rfl ?_ | refine ER.fieldAddr rfl rfl rfl ?_ | refine ER.cmpF rfl rfl rfl rfl rfl (by first | (dsimp only [cmpP]; omega) | exact rfl | exact Int.le_refl _) ?_ | refine ER.len1 rfl rfl rfl ?_ | refine EK.condF rfl ?_ | refine EK.exit rfl ?_ | refine ER.load1 rfl rfl rfl (by assumption) ?_))
      refine ER.buildS (cells := #[.int .i64 0, .int .i8 0, .int .i64 0, .int .i64 0, .int .i64 0, .int .i64 0, .int .i64 0, .bool false]) rfl rfl rfl rfl ?_
      refine ER.storeN (vs := accL 0 0 0 0 0 0 0 false) rfl rfl rfl rfl (by simp [accL, OneCell]) (acc_all rfl row2) ?_
      rw [row_set (c := [.int .i64 0, .int .i8 0, .int .i64 0, .int .i64 0, .int .i64 0, .int .i64 0, .int .i64 0, .bool false]) (vs := accL 0 0 0 0 0 0 0 false) row2 rfl]
      (repeat (first | refine ER.done ?_ | refine ER.assign rfl rfl rfl ?_ | refine EK.ret ?_))
      exact EU.retCell (vs := accL 0 0 0 0 0 0 0 false) rfl rfl rfl (hrow_block (rest := []) (by rw [List.append_nil]; exact get_set_same row2)) rfl ⟨rfl, thr.set j R.log.length, _, _, _, _, _, _, _, _, false, rfl, ⟨fun e => (by cases e), fun e => absurd e hna⟩, fun e => (by cases e), by rw [List.length_set]; exact hl, ti.set (Nat.le_refl _) hno, I2.other row2 hy0 _, upd_then U2 (Upd.set (T := fun b => b = y) _ _ _ rfl) (fun b hb e => by omega)⟩
end
end Go.Proofs.Ytcpcdnkemobneaa
end
section
namespace Go.Proofs.Ytcpcdnkemobneaa
open Go Go.TJ Go.Conc Go.Proofs
abbrev Nme := Int × Int
def nmeL (n : Nme) : List Value := [.int .i64 n.1, .int .i64 n.2]
abbrev nmeV (n : Nme) : Value := .agg #[.int .i64 n.1, .int .i64 n.2]
theorem nmeL_len (n : Nme) : (nmeL n).length = 2 := rfl
structure WS where
  q : List (Bool × Nme)
  hs : List (Nme × Int)
  nv : Value
  gv : Value
  fv : Value
  hv : Value
  ov : Value
def lookN : List (Nme × Int) → Nme → Int
  | [], _ => 0
  | (m, v) :: l, n => if m = n then v else lookN l n
theorem lookN_at {n : Nme} : ∀ {l : List (Nme × Int)} {k : Nat} {v : Int}, (∀ j q, j < k → l[j]? = some q → q.1 ≠ n) → l[k]? = some (n, v) → lookN l n = v
  | [], _, _, _, h => by cases h
  | (m, w) :: l, 0, v, _, h => by
    injection (show some (m, w) = some (n, v) from h) with h
    injection h with h1 h2
    subst h1 h2
    exact if_pos rfl
  | (m, w) :: l, k + 1, v, h0, h => by
    have : m ≠ n := h0 0 _ (by omega) rfl
    unfold lookN
    rw [if_neg this]
    exact lookN_at (fun j q hj hq => h0 (j + 1) q (by omega) hq) h
theorem lookN_no {n : Nme} : ∀ {l : List (Nme × Int)}, (∀ q, q ∈ l → q.1 ≠ n) → lookN l n = 0
  | [], _ => rfl
  | (m, w) :: l, h => by
    unfold lookN
    rw [if_neg (h (m, w) (by simp))]
    exact lookN_no fun q hq => h q (by simp [hq])
abbrev wkL (e : Int) (n : Nat) (lL lW lY lV : Value) (s : WS) : List Value := [.int .i8 e, .int .i64 n, lL, lW, lY, lV, nilS, .bool false, s.nv, s.gv, s.fv, s.hv, s.ov]
abbrev wkO (e : Int) (n : Nat) (lL lW lY lV : Value) (s : WS) : Obj := .cells (wkL e n lL lW lY lV s).toArray 66 (0, 0)
abbrev wrO (W i : Nat) (out : Bool) (t : Nat) : Obj := .cells #[ptr W, .int .i64 i, .bool out, .int .i64 t] 60 (0, 0)
structure WkI (R : Rec) (nm : Nat → Nme) (lL lW lY lV : Value) (h0 : Hp) (W : Nat) (F : List Int) (s : WS) (h : Hp) : Prop where
  up : Upd (fun _ => False) h0 h
  row : h[W]? = some (wkO R.e R.log.length lL lW lY lV s)
  nms : SliceO h s.nv 210 2 s.q.length (s.q.flatMap fun x => nmeL x.2)
  giv : SliceO h s.gv 4 1 s.q.length (s.q.map fun x => Value.bool x.1)
  fst : SliceO h s.fv 2 1 F.length (F.map fun x => Value.int .i64 x)
  hav : SliceO h s.hv 210 2 s.hs.length (s.hs.flatMap fun x => nmeL x.1)
  hol : SliceO h s.ov 2 1 s.hs.length (s.hs.map fun x => Value.int .i64 x.2)
  nW : h0.size ≤ W
  n1 : ∀ b, blk s.nv = some b → h0.size ≤ b
  n2 : ∀ b, blk s.gv = some b → h0.size ≤ b
  n3 : ∀ b, blk s.fv = some b → h0.size ≤ b
  n4 : ∀ b, blk s.hv = some b → h0.size ≤ b
  n5 : ∀ b, blk s.ov = some b → h0.size ≤ b
  a1 : ∀ b, blk s.nv = some b → blk s.hv ≠ some b
  a2 : ∀ b, blk s.fv = some b → blk s.ov ≠ some b
def Named (R : Rec) (nm : Nat → Nme) (q : List (Bool × Nme)) : Prop := q.length = (nums R.log).length ∧ ∀ (j b : Nat) (x : Bool × Nme), (nums R.log)[j]? = some b → q[j]? = some x → x.1 = true → x.2 = nm b
theorem Named.set {R : Rec} {nm : Nat → Nme} {q : List (Bool × Nme)} (x : Named R nm q) {j b : Nat} (hb : (nums R.log)[j]? = some b) : Named R nm (q.set j (true, nm b)) := by
  refine ⟨by rw [List.length_set]; exact x.1, fun j' b' y hb' hy ht => ?_⟩
  by_cases e : j' = j
  · subst e
    have hlt : j' < q.length := by rw [x.1]; exact (take_mid hb).2.2
    rw [List.getElem?_set_self hlt] at hy
    rw [hb] at hb'
    cases hy; cases hb'; rfl
  · rw [List.getElem?_set_ne (Ne.symm e)] at hy
    exact x.2 j' b' y hb' hy ht
section
variable {R : Rec} {nm : Nat → Nme} {lL lW lY lV : Value} {h0 h h' : Hp} {W : Nat} {F : List Int} {s : WS}
theorem WkI.upd0 (I : WkI R nm lL lW lY lV h0 W F s h) (u : Upd (fun _ => False) h h') : WkI R nm lL lW lY lV h0 W F s h' :=
  ⟨I.up.trans u, u.get I.row (fun x => x), I.nms.upd u (fun _ _ x => x), I.giv.upd u (fun _ _ x => x), I.fst.upd u (fun _ _ x => x), I.hav.upd u (fun _ _ x => x), I.hol.upd u (fun _ _ x => x), I.nW, I.n1, I.n2, I.n3, I.n4, I.n5, I.a1, I.a2⟩
theorem WkI.other (I : WkI R nm lL lW lY lV h0 W F s h) {y : Nat} {a : Array Value} {t : TypeId} (hy : h[y]? = some (.cells a t (0, 0))) (hy0 : h0.size ≤ y) (h1 : t ≠ 66) (h2 : t ≠ 210) (h3 : t ≠ 4) (h4 : t ≠ 2) (o : Obj) : WkI R nm lL lW lY lV h0 W F s (h.setIfInBounds y o) := by
  have u : Upd (fun b => b = y) h (h.setIfInBounds y o) := Upd.set _ _ _ rfl
  have hyW : W ≠ y := fun e => by
    have := I.row
    rw [e, hy] at this
    injection this with this
    injection this with _ this _
    exact h1 this
  exact ⟨I.up.over u (fun b hb => by omega), u.get I.row hyW, I.nms.upd u (sliceO_ne I.nms hy (Ne.symm h2)), I.giv.upd u (sliceO_ne I.giv hy (Ne.symm h3)), I.fst.upd u (sliceO_ne I.fst hy (Ne.symm h4)), I.hav.upd u (sliceO_ne I.hav hy (Ne.symm h2)), I.hol.upd u (sliceO_ne I.hol hy (Ne.symm h4)), I.nW, I.n1, I.n2, I.n3, I.n4, I.n5, I.a1, I.a2⟩
end
def ownFrom (R : Rec) (i t : Nat) : List Ev := ownOf i (R.log.drop t)
theorem ownFrom_zero (R : Rec) (i : Nat) : ownFrom R i 0 = ownOf i R.log := by unfold ownFrom; rw [List.drop_zero]
theorem ownFrom_end (R : Rec) (i : Nat) : ownFrom R i R.log.length = [] := by unfold ownFrom; rw [List.drop_eq_nil_of_le (Nat.le_refl _)]; rfl
theorem ownFrom_step {R : Rec} {i t : Nat} {e : Ev} (h : R.log[t]? = some e) : ownFrom R i t = if e.thr = i then e :: ownFrom R i (t + 1) else ownFrom R i (t + 1) := by
  unfold ownFrom
  have hk := (take_mid h).2.2
  rw [List.drop_eq_getElem_cons hk]
  have : R.log[t] = e := by
    have := List.getElem?_eq_getElem hk
    rw [h] at this
    injection this with this
    exact this.symm
  rw [this]
  unfold ownOf
  by_cases hc : e.thr = i
  · rw [if_pos hc, List.filter_cons_of_pos (by simpa using hc)]
  · rw [if_neg hc, List.filter_cons_of_neg (by simpa using hc)]
def PF (R : Rec) {A : Type} (i : Nat) (p : Pr A) : Prop := (∃ r k, (i, r) ∈ R.left ∧ p = .step r k) ∨ ((∀ q, q ∈ R.left → q.1 ≠ i) ∧ p = .done)
theorem PF.emit {R : Rec} {A : Type} {i : Nat} {p : Pr A} (x : PF R i p) : ∀ a k, p ≠ .emit a k := by
  rintro a k rfl
  rcases x with ⟨_, _, _, e⟩ | ⟨_, e⟩ <;> cases e
structure WAt (R : Rec) {A : Type} (pf : Pr A) (x W i : Nat) (p : Pr A) (l : List Ev) (o : List A) (h : Hp) : Prop where
  at_ : ∃ t, t ≤ R.log.length ∧ ownFrom R i t = l ∧ h[x]? = some (wrO W i false t)
  goes : Goes i p l o pf
structure WOut (R : Rec) (x W i : Nat) (h : Hp) : Prop where
  at_ : ∃ t, t ≤ R.log.length ∧ ownFrom R i t = [] ∧ h[x]? = some (wrO W i true t)
  left : ∃ r, (i, r) ∈ R.left
end Go.Proofs.Ytcpcdnkemobneaa
end
section
namespace Go.Proofs.Ytcpcdnkemobneaa
open Go Go.TJ Go.Conc Go.Proofs
section
variable {Γ : Type} {P : Program} {main : Bool} {S : Sit Γ} {f : FuncId} {n : Nat} {k : List Item} {env : Env} {ds : List Deferred} {h : Hp} {δ : Ix Γ} {R : Post Γ}
variable {ops : Array Oper} {l : List Oper} {d : Nat} {ty : TypeId} {pos : String} {af : Array Edge} {g : Option (Nat × Bool)} {Z : Hp → Prop} {zz : Nat} {m : Nat} {listed l' : Array Bool}
theorem sem_eqA2 {t t2 : TypeId} {k1 k2 : IntKind} [EqI2 P t k1 k2] {x y : Operand} {a1 a2 b1 b2 : Int} {r : Bool} {ρ : Operand → Value} {dst : Option Nat} {Q : Next → Hp → Ix Γ → Prop} {X : Value → Hp → Ix Γ → Prop} (hx : ρ x = .agg #[.int k1 a1, .int k2 a2]) (hy : ρ y = .agg #[.int k1 b1, .int k2 b2]) (hr : (a1 == b1 && a2 == b2) = r) (hq : Q (.value (.bool r)) h δ) : SemW P S (execOp ρ ⟨dst, .binOp .eql t x y t2, ty, pos, af, g⟩) h δ Q X :=
  semW_binOp (by
    rw [hx, hy]
    exact eqGuard_agg (by
      show SemW P S (Op.equal t _ _ >>= fun b => pure (Value.bool b)) h δ _ X
      exact semW_bind _ _ _ _ _ _ (semW_eqI2 (by rw [hr]; exact hq))))
theorem EA.tEqA2 (i : Nat) {t t2 : TypeId} {k1 k2 : IntKind} [EqI2 P t k1 k2] {x y : Operand} {a1 a2 b1 b2 : Int} {r : Bool} (hi : ops[i]? = some ⟨some d, .binOp .eql t x y t2, ty, pos, af, g⟩) (hs : (Region.noSelect ops && TJ.Region.pinned ops zz i) = true) (hf : Region.free .any ops listed i = true) (hrd : (Region.ready .any ops listed).contains i = true) (hl : listed.setIfInBounds i true = l')
    (hd : Nat.blt d n = true) (hw : wantE ops env g = some true) (hx : ev env x = some (.agg #[.int k1 a1, .int k2 a2])) (hy : ev env y = some (.agg #[.int k1 b1, .int k2 b2])) (hr : (a1 == b1 && a2 == b2) = r) (hZ : Z h)
    (hn : EA P main S f n ops Z zz m l' k ((d, .bool r) :: env) ds h δ R) : EA P main S f n ops Z zz (m + 1) listed k env ds h δ R :=
  EA.take i hi hs hf hrd hl hd hw (fun _ _ _ _ _ hρ _ hq => sem_eqA2 (hρ _ _ hx) (hρ _ _ hy) hr hq) hZ hn
theorem sem_field {xt : TypeId} {fs : Array Field} {fd : Field} {dd : TypeDesc} {j : Nat} {x : Operand} {cs : Array Value} {v : Value} {ρ : Operand → Value} {dst : Option Nat} {Q : Next → Hp → Ix Γ → Prop} {X : Value → Hp → Ix Γ → Prop} (hu : P.underlying xt = some (.struct fs)) (hf : fs[j]? = some fd) (ht : P.underlying fd.type = some dd) (hs : (match dd with | .struct _ => true | .array _ _ => true | _ => false) = false) (hx : ρ x = .agg cs) (hv : cs[fd.offset]? = some v) (hq : Q (.value v) h δ) :
    SemW P S (execOp ρ ⟨dst, .field xt x j, ty, pos, af, g⟩) h δ Q X := by
  show SemW P S (Instr.field xt (ρ x) j >>= fun v => pure (.value v)) h δ Q X
  rw [hx]
  refine semW_bind _ _ _ _ _ _ ?_
  unfold Instr.field
  refine semW_underlying hu ?_
  simp only [hf]
  show SemW P S (part fd.type cs fd.offset) h δ _ X
  unfold part isAgg
  refine semW_bind _ _ _ _ _ _ ?_
  refine semW_underlying ht ?_
  cases dd <;> first | (simp at hs; done) | (simp only [hv]; exact hq)
theorem ER.field {xt : TypeId} {fs : Array Field} {fd : Field} {dd : TypeDesc} {j : Nat} {x : Operand} {cs : Array Value} {v : Value} (hu : P.underlying xt = some (.struct fs)) (hf : fs[j]? = some fd) (ht : P.underlying fd.type = some dd) (hs : (match dd with | .struct _ => true | .array _ _ => true | _ => false) = false)
    (hw : wantE ops env g = some true) (hd : Nat.blt d n = true) (hx : ev env x = some (.agg cs)) (hv : cs[fd.offset]? = some v) (hn : ER P main S f n ops l k ((d, v) :: env) ds h δ R) : ER P main S f n ops (⟨some d, .field xt x j, ty, pos, af, g⟩ :: l) k env ds h δ R :=
  ER.to hw hd (fun ρ Q X hρ hq => sem_field hu hf ht hs (hρ _ _ hx) hv hq) hn
end
theorem nme_eq {a b : Nme} (h : a = b) : (a.1 == b.1 && a.2 == b.2) = true := by subst h; simp
theorem nme_ne {a b : Nme} (h : a ≠ b) : (a.1 == b.1 && a.2 == b.2) = false := by
  obtain ⟨a1, a2⟩ := a
  obtain ⟨b1, b2⟩ := b
  by_cases h1 : a1 = b1
  · by_cases h2 : a2 = b2
    · subst h1 h2; exact absurd rfl h
    · simp [h2]
  · simp [h1]
abbrev nmeO (n : Nme) : Obj := .cells #[.int .i64 n.1, .int .i64 n.2] 210 (0, 0)
section
variable {Γ : Type} {main : Bool} {S : Sit Γ} {δ : Ix Γ} {R : Rec} {nm : Nat → Nme} {lL lW lY lV : Value} {h0 h h' : Hp} {W : Nat} {F : List Int} {s : WS}
set_option maxHeartbeats 4000000 in
set_option maxRecDepth 8000 in
theorem begins_ok {n : Nme} (I : WkI R nm lL lW lY lV h0 W F s h) (hl : s.hs.length ≤ 5000) :
    CallW Try.prog main S 181 #[ptr W, nmeV n] h δ (Ret fun v h' δ' => δ' = δ ∧ v = .int .i64 (lookN s.hs n) ∧ Upd (fun _ => False) h h') := by
  obtain ⟨q, hs, nv, gv, fv, hv, ov⟩ := s
  obtain ⟨aH, kH, eH⟩ := I.hav.val
  obtain ⟨aO, kO, eO⟩ := I.hol.val
  dsimp only at eH eO hl ⊢
  subst eH eO
  obtain ⟨y, hy⟩ : ∃ y, y = h.size := ⟨_, rfl⟩
  refine CallW.start (n := 31) rfl rfl ?_
  (repeat (first | refine EK.seq ?_ | refine EK.region ?_ | refine ER.done ?_ | refine EK.block ?_ | refine ER.assign rfl rfl rfl ?_ | refine ER.boxA rfl rfl rfl ?_))
  refine EK.gen (fun h' => WkI R nm lL lW lY lV h0 W F ⟨q, hs, nv, gv, fv, .slice aH hs.length kH, .slice aO hs.length kO⟩ h' ∧ Upd (fun _ => False) h h' ∧ h'[y]? = some (nmeO n)) ⟨I.upd0 (Upd.push _ _), Upd.push _ _, by rw [hy]; exact get_push_new _ _⟩ ?_
  rw [← hy]
  clear I hy
  rintro h1 ⟨I, u1, ly⟩
  have c11 : hcell h1 ⟨W, 11, none⟩ = some (.slice aH hs.length kH) := hcell_of I.row rfl
  have c12 : hcell h1 ⟨W, 12, none⟩ = some (.slice aO hs.length kO) := hcell_of I.row rfl
  refine EK.loopInv (fun i : Nat => [(5, .int .i64 i), (0, ptr W), (3, ptr y)]) (fun i h' δ' => i ≤ hs.length ∧ δ' = δ ∧ h' = h1 ∧ ∀ j q, j < i → hs[j]? = some q → q.1 ≠ n) (fun i => hs.length - i) 0 ⟨rfl, rfl, rfl, trivial⟩ ⟨Nat.zero_le _, rfl, rfl, fun j q hj => by omega⟩ ?_
  rintro i h2 δ2 ⟨hi, rfl, rfl, hno⟩ again
  by_cases hin : i < hs.length
  · obtain ⟨⟨m, v⟩, hq⟩ : ∃ x, hs[i]? = some x := ⟨_, List.getElem?_eq_getElem hin⟩
    obtain ⟨bH, ea, hrow, -⟩ := slice_row (f := fun x : Nme × Int => nmeL x.1) (fun _ => rfl) I.hav hq
    obtain ⟨bO, eb, cO, -⟩ := slice_at (f := fun x : Nme × Int => Value.int .i64 x.2) I.hol hq
    subst ea eb
    (repeat (first | refine EK.seq ?_ | refine EK.region ?_ | refine ER.done ?_ | refine EK.skip ?_ | refine EK.block ?_ | refine ER.move rfl rfl rfl ?_ | refine ER.nilCheck rfl rfl rfl ?_ | refine ER.fieldAddr rfl rfl rfl ?_ | refine ER.cmpT rfl rfl rfl rfl rfl (by first | (dsimp only [cmpP]; omega) | exact rfl | exact Int.le_refl _) ?_ | refine ER.len1 rfl rfl rfl ?_ | refine EK.condT rfl ?_ | refine ER.load1 rfl rfl rfl (by assumption) ?_))
    refine EK.regionAny (fun h' => h' = h2) ?_
    have hZ : h2 = h2 := rfl
    refine EA.tMove 0 rfl (by kernel_rfl) (by kernel_rfl) (by kernel_rfl) rfl rfl rfl rfl hZ ?_
    refine EA.tNil 1 rfl (by kernel_rfl) (by kernel_rfl) (by kernel_rfl) rfl rfl rfl rfl hZ ?_
    refine EA.tField 2 rfl (by kernel_rfl) (by kernel_rfl) (by kernel_rfl) rfl rfl rfl rfl hZ ?_
    refine EA.tLoad 3 rfl (by kernel_rfl) (by kernel_rfl) (by kernel_rfl) rfl rfl rfl rfl (fun _ hz => (by rw [hz]; exact c11)) hZ ?_
    refine EA.tMove 4 rfl (by kernel_rfl) (by kernel_rfl) (by kernel_rfl) rfl rfl rfl rfl hZ ?_
    refine EA.tIdxS 5 rfl (by kernel_rfl) (by kernel_rfl) (by kernel_rfl) rfl rfl rfl rfl rfl (by omega) (by omega) hZ ?_
    refine EA.tLoadN (vs := nmeL m) 6 rfl (by kernel_rfl) (by kernel_rfl) (by kernel_rfl) rfl rfl rfl rfl rfl (fun _ hz => by rw [hz]; exact hrow) hZ ?_
    refine EA.tLoadN (vs := nmeL n) 7 rfl (by kernel_rfl) (by kernel_rfl) (by kernel_rfl) rfl rfl rfl rfl rfl (fun _ hz => by rw [hz]; exact hrow_block (rest := []) (by rw [List.append_nil]; exact ly)) hZ ?_
    by_cases e : m = n
    · refine EA.tEqA2 8 rfl (by kernel_rfl) (by kernel_rfl) (by kernel_rfl) rfl rfl rfl rfl rfl (nme_eq e) hZ ?_
      refine EA.done (by kernel_rfl) ?_
      subst e
      rw [lookN_at hno hq]
      (repeat (first | refine EK.seq ?_ | refine EK.region ?_ | refine ER.done ?_ | refine ER.move rfl rfl rfl ?_ | refine ER.assign rfl rfl rfl ?_ | refine ER.nilCheck rfl rfl rfl ?_ | refine ER.fieldAddr rfl rfl rfl ?_ | refine ER.indexSl rfl rfl rfl rfl (by omega) (by omega) ?_ | refine EK.condT rfl ?_ | refine EK.ret ?_ | refine ER.load1 rfl rfl rfl (by assumption) ?_))
      exact EU.ret1 rfl rfl ⟨rfl, rfl, u1⟩
    · refine EA.tEqA2 8 rfl (by kernel_rfl) (by kernel_rfl) (by kernel_rfl) rfl rfl rfl rfl rfl (nme_ne e) hZ ?_
      refine EA.done (by kernel_rfl) ?_
      (repeat (first | refine EK.region ?_ | refine ER.done ?_ | refine EK.skip ?_ | refine EK.inBlock ?_ | refine ER.move rfl rfl rfl ?_ | refine ER.assign rfl rfl rfl ?_ | refine ER.add (kd := .i64) rfl rfl rfl rfl (i64_in (by omega) (by omega)) ?_ | refine EK.condF rfl ?_))
      exact EK.back (again (i + 1) _ _ (by omega) ⟨by omega, rfl, rfl, fun j q hj hjq => by
        by_cases e' : j = i
        · subst e'
          rw [hq] at hjq; cases hjq; exact e
        · exact hno j q (by omega) hjq⟩) ⟨rfl, rfl, rfl, trivial⟩
  · obtain rfl : i = hs.length := by omega
    rw [lookN_no fun q hq => by
      obtain ⟨j, hj, rfl⟩ := List.mem_iff_getElem.1 hq
      exact hno j _ hj (List.getElem?_eq_getElem hj)]
    (repeat (first | refine EK.seq ?_ | refine EK.region ?_ | refine ER.done ?_ | refine ER.move rfl rfl rfl ?_ | refine ER.assign rfl rfl rfl ?_ | refine ER.nilCheck rfl rfl rfl ?_ | refine ER.fieldAddr rfl rfl rfl ?_ | refine ER.cmpF rfl rfl rfl rfl rfl (by first | (dsimp only [cmpP]; omega) | exact rfl | exact Int.le_refl _) ?_ | refine ER.len1 rfl rfl rfl ?_ | refine EK.condF rfl ?_ | refine EK.ret ?_ | refine EK.exit rfl ?_ | refine ER.load1 rfl rfl rfl (by assumption) ?_))
    exact EU.ret1 rfl rfl ⟨rfl, rfl, u1⟩
end
end Go.Proofs.Ytcpcdnkemobneaa
end
section
namespace Go.Proofs.Ytcpcdnkemobneaa
open Go Go.TJ Go.Conc Go.Proofs
theorem nodup_at {l : List Nat} {i j a : Nat} (hn : l.Nodup) (h1 : l[i]? = some a) (h2 : l[j]? = some a) : i = j := by
  obtain ⟨l1, e1⟩ := List.getElem?_eq_some_iff.1 h1
  obtain ⟨l2, e2⟩ := List.getElem?_eq_some_iff.1 h2
  have hp := List.pairwise_iff_getElem.1 hn
  rcases Nat.lt_trichotomy i j with y | y | y
  · exact absurd (e1.trans e2.symm) (hp i j l1 l2 y)
  · exact y
  · exact absurd (e2.trans e1.symm) (hp j i l2 l1 y)
theorem names_set : ∀ (l : List (Bool × Nme)) (j : Nat) (g : Bool) (n : Nme), (l.set j (g, n)).flatMap (fun x => nmeL x.2) = ((l.flatMap fun x => nmeL x.2).set (0 + j * 2) (.int .i64 n.1)).set (0 + j * 2 + 1) (.int .i64 n.2)
  | [], j, g, n => by simp
  | c :: t, 0, g, n => rfl
  | c :: t, j + 1, g, n => by
    have ih := names_set t j g n
    rw [show 0 + (j + 1) * 2 + 1 = (0 + j * 2 + 1) + 1 + 1 by omega, show 0 + (j + 1) * 2 = (0 + j * 2) + 1 + 1 by omega]
    rw [List.set_cons_succ, List.flatMap_cons, List.flatMap_cons, ih]
    rfl
theorem names_len (l : List (Bool × Nme)) : (l.flatMap fun x => nmeL x.2).length = l.length * 2 := by
  induction l with
  | nil => rfl
  | cons c t ih => rw [List.flatMap_cons, List.length_append, ih, nmeL_len, List.length_cons]; omega
theorem given_set (l : List (Bool × Nme)) (j : Nat) (n : Nme) : ((l.set j (true, n)).map fun x => Value.bool x.1) = (l.map fun x => Value.bool x.1).set j (.bool true) := by rw [List.map_set]
section
variable {Γ : Type} {main : Bool} {S : Sit Γ} {δ : Ix Γ} {R : Rec} {nm : Nat → Nme} {lL lW lY lV : Value} {h0 h h' : Hp} {W : Nat} {F : List Int} {s : WS} {q : List (Bool × Nme)} {hs : List (Nme × Int)} {nv gv fv hv ov : Value}
theorem WkI.setG {b k j : Nat} {m : Nme} {g : Bool} (I : WkI R nm lL lW lY lV h0 W F ⟨q, hs, nv, .slice (some ⟨b, 0, none⟩) q.length k, fv, hv, ov⟩ h) (hq : q[j]? = some (g, m)) :
    WkI R nm lL lW lY lV h0 W F ⟨q.set j (true, m), hs, nv, .slice (some ⟨b, 0, none⟩) q.length k, fv, hv, ov⟩ (hset h ⟨b, 0 + j * 1, none⟩ (.bool true)) := by
  have hj := (take_mid hq).2.2
  have u : Upd (fun x => x = b) h (hset h ⟨b, 0 + j * 1, none⟩ (.bool true)) := Upd.hset _ _ _ rfl
  have hb := I.n2 b rfl
  have e1 : 0 + j * 1 = j := by omega
  refine ⟨I.up.over u (fun b' hb' => by omega), u.get I.row (fun e => sliceO_ne I.giv I.row (by decide) b rfl e.symm), ?_, ?_, I.fst.upd u (fun b' hb' e => sliceO_two I.fst I.giv (by decide) b' hb' (by rw [e]; rfl)), I.hav.upd u (fun b' hb' e => sliceO_two I.hav I.giv (by decide) b' hb' (by rw [e]; rfl)), I.hol.upd u (fun b' hb' e => sliceO_two I.hol I.giv (by decide) b' hb' (by rw [e]; rfl)), I.nW, I.n1, I.n2, I.n3, I.n4, I.n5, I.a1, I.a2⟩
  · have := I.nms.upd u (fun b' hb' e => sliceO_two I.nms I.giv (by decide) b' hb' (by rw [e]; rfl))
    dsimp only at this ⊢
    rw [List.length_set]
    have e2 : ((q.set j (true, m)).flatMap fun x => nmeL x.2) = q.flatMap fun x => nmeL x.2 := by
      rw [List.flatMap_def, List.flatMap_def, List.map_set]
      congr 1
      refine List.ext_getElem? fun i => ?_
      by_cases e : i = j
      · subst e
        rw [List.getElem?_set_self (by simpa using hj), List.getElem?_map, hq]
        rfl
      · rw [List.getElem?_set_ne (Ne.symm e)]
    rw [e2]
    exact this
  · have := I.giv.set (j := j) (by rw [List.length_map]; exact hj) (.bool true)
    dsimp only at this ⊢
    rw [e1, given_set, List.length_set]
    exact this
theorem WkI.setN {b k j : Nat} {m n : Nme} {g : Bool} (I : WkI R nm lL lW lY lV h0 W F ⟨q, hs, .slice (some ⟨b, 0, none⟩) q.length k, gv, fv, hv, ov⟩ h) (hq : q[j]? = some (g, m)) :
    WkI R nm lL lW lY lV h0 W F ⟨q.set j (g, n), hs, .slice (some ⟨b, 0, none⟩) q.length k, gv, fv, hv, ov⟩ (hsetRow h b (0 + j * 2) (nmeL n)) := by
  have hj := (take_mid hq).2.2
  have u : Upd (fun x => x = b) h (hsetRow h b (0 + j * 2) (nmeL n)) := (Upd.hset (T := fun x => x = b) h ⟨b, 0 + j * 2, none⟩ _ rfl).trans (Upd.hset (T := fun x => x = b) _ ⟨b, 0 + j * 2 + 1, none⟩ _ rfl)
  have hb := I.n1 b rfl
  refine ⟨I.up.over u (fun b' hb' => by omega), u.get I.row (fun e => sliceO_ne I.nms I.row (by decide) b rfl e.symm), ?_, ?_, I.fst.upd u (fun b' hb' e => sliceO_two I.fst I.nms (by decide) b' hb' (by rw [e]; rfl)), I.hav.upd u (fun b' hb' e => I.a1 b rfl (by rw [← e]; exact hb')), I.hol.upd u (fun b' hb' e => sliceO_two I.hol I.nms (by decide) b' hb' (by rw [e]; rfl)), I.nW, I.n1, I.n2, I.n3, I.n4, I.n5, I.a1, I.a2⟩
  · have l0 := names_len q
    have x1 := I.nms.set (j := 0 + j * 2) (by dsimp only; rw [l0]; omega) (.int .i64 n.1)
    have x2 := x1.set (j := 0 + j * 2 + 1) (by dsimp only; rw [List.length_set, l0]; omega) (.int .i64 n.2)
    dsimp only at x2 ⊢
    rw [names_set, List.length_set]
    exact x2
  · have := I.giv.upd u (fun b' hb' e => sliceO_two I.giv I.nms (by decide) b' hb' (by rw [e]; rfl))
    dsimp only at this ⊢
    rw [List.length_set, List.map_set]
    have e2 : (q.map fun x => Value.bool x.1).set j (.bool g) = q.map fun x => Value.bool x.1 := by
      refine List.ext_getElem? fun i => ?_
      by_cases e : i = j
      · subst e
        rw [List.getElem?_set_self (by simpa using hj), List.getElem?_map, hq]
        rfl
      · rw [List.getElem?_set_ne (Ne.symm e)]
    rw [e2]
    exact this
set_option maxHeartbeats 8000000 in
set_option maxRecDepth 8000 in
theorem is_ok {j b : Nat} (I : WkI R nm lL lW lY lV h0 W F s h) (hN : Named R nm s.q) (hb : (nums R.log)[j]? = some b) (hF : F[j]? = some (lookN s.hs (nm b))) (hinj : ∀ b', b' ∈ nums R.log → nm b' = nm b → b' = b) (hql : (nums R.log).length ≤ 65536) (hhl : s.hs.length ≤ 5000) :
    CallW Try.prog main (NoS (Γ := Γ)) 179 #[ptr W, .int .i64 j, nmeV (nm b)] h δ (Ret fun v h' δ' => δ' = δ ∧ v = .bool true ∧ WkI R nm lL lW lY lV h0 W F { s with q := s.q.set j (true, nm b) } h' ∧ Upd (fun c => blk s.nv = some c ∨ blk s.gv = some c) h h') := by
  obtain ⟨q, hs, nv, gv, fv, hv, ov⟩ := s
  obtain ⟨aN, kN, eN⟩ := I.nms.val
  obtain ⟨aG, kG, eG⟩ := I.giv.val
  obtain ⟨aF, kF, eF⟩ := I.fst.val
  dsimp only at eN eG eF hF hN hhl ⊢
  subst eN eG eF
  have hq0 := hN.1
  have hjl : j < q.length := by rw [hq0]; exact (take_mid hb).2.2
  obtain ⟨⟨g0, m0⟩, hx⟩ : ∃ x, q[j]? = some x := ⟨_, List.getElem?_eq_getElem hjl⟩
  have hFl : F.length ≤ 10000000 ∨ True := .inr trivial
  obtain ⟨y, hy⟩ : ∃ y, y = h.size := ⟨_, rfl⟩
  obtain ⟨bG, eG, cG, fG⟩ := slice_at (f := fun x : Bool × Nme => Value.bool x.1) I.giv hx
  obtain ⟨bN, eN, rN, fN⟩ := slice_row (f := fun x : Bool × Nme => nmeL x.2) (fun _ => rfl) I.nms hx
  obtain ⟨bF, eF, cF, -⟩ := slice_at (f := fun x : Int => Value.int .i64 x) I.fst hF
  subst eG eN eF
  dsimp only at cG rN
  refine CallW.start (n := 86) rfl rfl ?_
  (repeat (first | refine EK.seq ?_ | refine EK.region ?_ | refine ER.done ?_ | refine ER.move rfl rfl rfl ?_ | refine ER.assign rfl rfl rfl ?_ | refine ER.nilCheck rfl rfl rfl ?_ | refine ER.fieldAddr rfl rfl rfl ?_ | refine ER.cmpF rfl rfl rfl rfl rfl (by first | (dsimp only [cmpP]; omega) | exact rfl | exact Int.le_refl _) ?_ | refine ER.boxA rfl rfl rfl ?_))
  refine ER.gen (fun h' => WkI R nm lL lW lY lV h0 W F ⟨q, hs, .slice (some ⟨bN, 0, none⟩) q.length kN, .slice (some ⟨bG, 0, none⟩) q.length kG, .slice (some ⟨bF, 0, none⟩) F.length kF, hv, ov⟩ h' ∧ Upd (fun _ => False) h h' ∧ h'[y]? = some (nmeO (nm b))) ⟨I.upd0 (Upd.push _ _), Upd.push _ _, by rw [hy]; exact get_push_new _ _⟩ ?_
  rw [← hy]
  have hyl : h.size ≤ y := by omega
  have nN := I.nms.lt (b := bN) rfl
  have nG := I.giv.lt (b := bG) rfl
  clear I cG rN cF hy
  rintro h1 ⟨I, u1, ly⟩
  obtain ⟨bG', eG, cG, fG⟩ := slice_at (f := fun x : Bool × Nme => Value.bool x.1) I.giv hx
  obtain ⟨bN', eN, rN, fN⟩ := slice_row (f := fun x : Bool × Nme => nmeL x.2) (fun _ => rfl) I.nms hx
  obtain ⟨bF', eF, cF, -⟩ := slice_at (f := fun x : Int => Value.int .i64 x) I.fst hF
  injection eG with eG
  injection eG with eG
  injection eN with eN
  injection eN with eN
  injection eF with eF
  injection eF with eF
  subst eG eN eF
  dsimp only at cG rN
  have c8 : hcell h1 ⟨W, 8, none⟩ = some (.slice (some ⟨bN, 0, none⟩) q.length kN) := hcell_of I.row rfl
  have c9 : hcell h1 ⟨W, 9, none⟩ = some (.slice (some ⟨bG, 0, none⟩) q.length kG) := hcell_of I.row rfl
  have rY : TJ.hrow h1 y 0 (nmeL (nm b)) := hrow_block (rest := []) (by rw [List.append_nil]; exact ly)
  cases g0 with
  | true =>
    have em : m0 = nm b := hN.2 j b _ hb hx rfl
    subst em
    (repeat (first | refine EK.seq ?_ | refine EK.region ?_ | refine ER.done ?_ | refine EK.skip ?_ | refine ER.move rfl rfl rfl ?_ | refine ER.nilCheck rfl rfl rfl ?_ | refine ER.fieldAddr rfl rfl rfl ?_ | refine ER.pickF rfl rfl rfl rfl ?_ | refine ER.cmpF rfl rfl rfl rfl rfl (by first | (dsimp only [cmpP]; omega) | exact rfl | exact Int.le_refl _) ?_ | refine ER.len1 rfl rfl rfl ?_ | refine ER.indexSl rfl rfl rfl rfl (by omega) (by omega) ?_ | refine EK.condT rfl ?_ | refine EK.condF rfl ?_ | refine ER.load1 rfl rfl rfl (by assumption) ?_))
    refine EK.regionAny (fun h' => h' = h1) ?_
    have hZ : h1 = h1 := rfl
    refine EA.tMove 0 rfl (by kernel_rfl) (by kernel_rfl) (by kernel_rfl) rfl rfl rfl rfl hZ ?_
    refine EA.tNil 1 rfl (by kernel_rfl) (by kernel_rfl) (by kernel_rfl) rfl rfl rfl rfl hZ ?_
    refine EA.tField 2 rfl (by kernel_rfl) (by kernel_rfl) (by kernel_rfl) rfl rfl rfl rfl hZ ?_
    refine EA.tLoad 3 rfl (by kernel_rfl) (by kernel_rfl) (by kernel_rfl) rfl rfl rfl rfl (fun _ hz => (by rw [hz]; exact c8)) hZ ?_
    refine EA.tMove 4 rfl (by kernel_rfl) (by kernel_rfl) (by kernel_rfl) rfl rfl rfl rfl hZ ?_
    refine EA.tIdxS 5 rfl (by kernel_rfl) (by kernel_rfl) (by kernel_rfl) rfl rfl rfl rfl rfl (by omega) (by omega) hZ ?_
    refine EA.tLoadN (vs := nmeL (nm b)) 6 rfl (by kernel_rfl) (by kernel_rfl) (by kernel_rfl) rfl rfl rfl rfl rfl (fun _ hz => by rw [hz]; exact rN) hZ ?_
    refine EA.tLoadN (vs := nmeL (nm b)) 7 rfl (by kernel_rfl) (by kernel_rfl) (by kernel_rfl) rfl rfl rfl rfl rfl (fun _ hz => by rw [hz]; exact rY) hZ ?_
    refine EA.tEqA2 8 rfl (by kernel_rfl) (by kernel_rfl) (by kernel_rfl) rfl rfl rfl rfl rfl (nme_eq rfl) hZ ?_
    refine EA.tAssign 9 rfl (by kernel_rfl) (by kernel_rfl) (by kernel_rfl) rfl rfl rfl rfl hZ ?_
    refine EA.done (by kernel_rfl) ?_
    have eq : q.set j (true, nm b) = q := by
      refine List.ext_getElem? fun i => ?_
      by_cases e : i = j
      · subst e; rw [List.getElem?_set_self hjl, hx]
      · rw [List.getElem?_set_ne (Ne.symm e)]
    rw [eq]
    (repeat refine EK.ret ?_)
    exact EU.ret1 rfl rfl ⟨rfl, rfl, I, u1.mono (fun _ _ z => z.elim)⟩
  | false =>
    (repeat (first | refine EK.seq ?_ | refine EK.region ?_ | refine ER.done ?_ | refine EK.skip ?_ | refine EK.block ?_ | refine ER.move rfl rfl rfl ?_ | refine ER.assign rfl rfl rfl ?_ | refine ER.nilCheck rfl rfl rfl ?_ | refine ER.fieldAddr rfl rfl rfl ?_ | refine ER.pickF rfl rfl rfl rfl ?_ | refine ER.cmpF rfl rfl rfl rfl rfl (by first | (dsimp only [cmpP]; omega) | exact rfl | exact Int.le_refl _) ?_ | refine ER.len1 rfl rfl rfl ?_ | refine ER.indexSl rfl rfl rfl rfl (by omega) (by omega) ?_ | refine EK.condF rfl ?_ | refine ER.load1 rfl rfl rfl (by assumption) ?_))
    refine EK.loopInv (fun i : Nat => [(7, .int .i64 i), (5, ptr y), (0, ptr W), (1, .int .i64 j)]) (fun i h' δ' => δ' = δ ∧ i ≤ q.length ∧ h' = h1) (fun i => q.length - i) 0 ⟨rfl, rfl, rfl, rfl, trivial⟩ ⟨rfl, Nat.zero_le _, rfl⟩ ?_
    rintro i h2 δ2 ⟨rfl, hi, rfl⟩ again
    by_cases hin : i < q.length
    · obtain ⟨⟨g1, m1⟩, hx1⟩ : ∃ x, q[i]? = some x := ⟨_, List.getElem?_eq_getElem hin⟩
      obtain ⟨bG', eG, cG1, -⟩ := slice_at (f := fun x : Bool × Nme => Value.bool x.1) I.giv hx1
      obtain ⟨bN', eN, rN1, -⟩ := slice_row (f := fun x : Bool × Nme => nmeL x.2) (fun _ => rfl) I.nms hx1
      injection eG with eG
      injection eG with eG
      injection eN with eN
      injection eN with eN
      subst eG eN
      dsimp only at cG1 rN1
      (repeat (first | refine EK.seq ?_ | refine EK.region ?_ | refine ER.done ?_ | refine EK.skip ?_ | refine EK.block ?_ | refine ER.move rfl rfl rfl ?_ | refine ER.nilCheck rfl rfl rfl ?_ | refine ER.fieldAddr rfl rfl rfl ?_ | refine ER.cmpT rfl rfl rfl rfl rfl (by first | (dsimp only [cmpP]; omega) | exact rfl | exact Int.le_refl _) ?_ | refine ER.len1 rfl rfl rfl ?_ | refine EK.condT rfl ?_ | refine ER.load1 rfl rfl rfl (by assumption) ?_))
      refine EK.regionAny (fun h' => h' = h2) ?_
      have hZ : h2 = h2 := rfl
      refine EA.tMove 0 rfl (by kernel_rfl) (by kernel_rfl) (by kernel_rfl) rfl rfl rfl rfl hZ ?_
      refine EA.tNil 1 rfl (by kernel_rfl) (by kernel_rfl) (by kernel_rfl) rfl rfl rfl rfl hZ ?_
      refine EA.tField 2 rfl (by kernel_rfl) (by kernel_rfl) (by kernel_rfl) rfl rfl rfl rfl hZ ?_
      refine EA.tLoad 3 rfl (by kernel_rfl) (by kernel_rfl) (by kernel_rfl) rfl rfl rfl rfl (fun _ hz => (by rw [hz]; exact c9)) hZ ?_
      refine EA.tMove 4 rfl (by kernel_rfl) (by kernel_rfl) (by kernel_rfl) rfl rfl rfl rfl hZ ?_
      refine EA.tIdxS 5 rfl (by kernel_rfl) (by kernel_rfl) (by kernel_rfl) rfl rfl rfl rfl rfl (by omega) (by omega) hZ ?_
      refine EA.tLoad 6 rfl (by kernel_rfl) (by kernel_rfl) (by kernel_rfl) rfl rfl rfl rfl (fun _ hz => (by rw [hz]; exact cG1)) hZ ?_
      refine EA.tMove 7 rfl (by kernel_rfl) (by kernel_rfl) (by kernel_rfl) rfl rfl rfl rfl hZ ?_
      cases g1 with
      | false =>
        refine EA.takeNo 8 rfl (by kernel_rfl) (by kernel_rfl) (by kernel_rfl) rfl rfl rfl hZ ?_
        refine EA.takeNo 9 rfl (by kernel_rfl) (by kernel_rfl) (by kernel_rfl) rfl rfl rfl hZ ?_
        refine EA.takeNo 10 rfl (by kernel_rfl) (by kernel_rfl) (by kernel_rfl) rfl rfl rfl hZ ?_
        refine EA.takeNo 11 rfl (by kernel_rfl) (by kernel_rfl) (by kernel_rfl) rfl rfl rfl hZ ?_
        refine EA.takeNo 12 rfl (by kernel_rfl) (by kernel_rfl) (by kernel_rfl) rfl rfl rfl hZ ?_
        refine EA.takeNo 13 rfl (by kernel_rfl) (by kernel_rfl) (by kernel_rfl) rfl rfl rfl hZ ?_
        refine EA.takeNo 14 rfl (by kernel_rfl) (by kernel_rfl) (by kernel_rfl) rfl rfl rfl hZ ?_
        refine EA.takeNo 15 rfl (by kernel_rfl) (by kernel_rfl) (by kernel_rfl) rfl rfl rfl hZ ?_
        refine EA.takeNo 16 rfl (by kernel_rfl) (by kernel_rfl) (by kernel_rfl) rfl rfl rfl hZ ?_
        refine EA.tPickF 17 rfl (by kernel_rfl) (by kernel_rfl) (by kernel_rfl) rfl rfl rfl rfl rfl hZ ?_
        refine EA.done (by kernel_rfl) ?_
        (repeat (first | refine EK.region ?_ | refine ER.done ?_ | refine EK.skip ?_ | refine EK.inBlock ?_ | refine ER.move rfl rfl rfl ?_ | refine ER.assign rfl rfl rfl ?_ | refine ER.add (kd := .i64) rfl rfl rfl rfl (i64_in (by omega) (by omega)) ?_ | refine EK.condF rfl ?_))
        exact EK.back (again (i + 1) _ _ (by omega) ⟨rfl, by omega, rfl⟩) ⟨rfl, rfl, rfl, rfl, trivial⟩
      | true =>
        have hni : i < (nums R.log).length := by omega
        obtain ⟨b1, hb1⟩ : ∃ b1, (nums R.log)[i]? = some b1 := ⟨_, List.getElem?_eq_getElem hni⟩
        have em : m1 = nm b1 := hN.2 i b1 _ hb1 hx1 rfl
        subst em
        have hne : nm b1 ≠ nm b := fun e => by
          have e1 := hinj b1 (List.mem_of_getElem? hb1) e
          subst e1
          have hij : i ≠ j := fun e => by
            subst e
            rw [hx] at hx1
            cases hx1
          exact hij (nodup_at (nums_nodup R.log) hb1 hb)
        refine EA.tMove 8 rfl (by kernel_rfl) (by kernel_rfl) (by kernel_rfl) rfl rfl rfl rfl hZ ?_
        refine EA.tNil 9 rfl (by kernel_rfl) (by kernel_rfl) (by kernel_rfl) rfl rfl rfl rfl hZ ?_
        refine EA.tField 10 rfl (by kernel_rfl) (by kernel_rfl) (by kernel_rfl) rfl rfl rfl rfl hZ ?_
        refine EA.tLoad 11 rfl (by kernel_rfl) (by kernel_rfl) (by kernel_rfl) rfl rfl rfl rfl (fun _ hz => (by rw [hz]; exact c8)) hZ ?_
        refine EA.tMove 12 rfl (by kernel_rfl) (by kernel_rfl) (by kernel_rfl) rfl rfl rfl rfl hZ ?_
        refine EA.tIdxS 13 rfl (by kernel_rfl) (by kernel_rfl) (by kernel_rfl) rfl rfl rfl rfl rfl (by omega) (by omega) hZ ?_
        refine EA.tLoadN (vs := nmeL (nm b1)) 14 rfl (by kernel_rfl) (by kernel_rfl) (by kernel_rfl) rfl rfl rfl rfl rfl (fun _ hz => by rw [hz]; exact rN1) hZ ?_
        refine EA.tLoadN (vs := nmeL (nm b)) 15 rfl (by kernel_rfl) (by kernel_rfl) (by kernel_rfl) rfl rfl rfl rfl rfl (fun _ hz => by rw [hz]; exact rY) hZ ?_
        refine EA.tEqA2 16 rfl (by kernel_rfl) (by kernel_rfl) (by kernel_rfl) rfl rfl rfl rfl rfl (nme_ne hne) hZ ?_
        refine EA.tPickT 17 rfl (by kernel_rfl) (by kernel_rfl) (by kernel_rfl) rfl rfl rfl rfl rfl hZ ?_
        refine EA.done (by kernel_rfl) ?_
        (repeat (first | refine EK.region ?_ | refine ER.done ?_ | refine EK.skip ?_ | refine EK.inBlock ?_ | refine ER.move rfl rfl rfl ?_ | refine ER.assign rfl rfl rfl ?_ | refine ER.add (kd := .i64) rfl rfl rfl rfl (i64_in (by omega) (by omega)) ?_ | refine EK.condF rfl ?_))
        exact EK.back (again (i + 1) _ _ (by omega) ⟨rfl, by omega, rfl⟩) ⟨rfl, rfl, rfl, rfl, trivial⟩
    · obtain rfl : i = q.length := by omega
      clear again
      (repeat (first | refine EK.seq ?_ | refine EK.region ?_ | refine ER.done ?_ | refine ER.move rfl rfl rfl ?_ | refine ER.nilCheck rfl rfl rfl ?_ | refine ER.fieldAddr rfl rfl rfl ?_ | refine ER.cmpF rfl rfl rfl rfl rfl (by first | (dsimp only [cmpP]; omega) | exact rfl | exact Int.le_refl _) ?_ | refine ER.len1 rfl rfl rfl ?_ | refine ER.indexSl rfl rfl rfl rfl (by omega) (by omega) ?_ | refine EK.condF rfl ?_ | refine EK.exit rfl ?_ | refine ER.load1 rfl rfl rfl (by assumption) ?_))
      refine ER.store1 rfl rfl rfl ⟨nofun, nofun⟩ ⟨_, cG⟩ (fG _) (fun x => x) ?_
      have I2 := I.setG hx
      have ly2 := hset_ne h2 ⟨bG, 0 + j * 1, none⟩ (.bool true) (r := y) (fun e => by change bG = y at e; omega)
      rw [ly] at ly2
      have u2 : Upd (fun c => blk (.slice (some ⟨bN, 0, none⟩) q.length kN) = some c ∨ blk (.slice (some ⟨bG, 0, none⟩) q.length kG) = some c) h (hset h2 ⟨bG, 0 + j * 1, none⟩ (.bool true)) := upd_then (u1.mono (fun _ _ z => z.elim)) (Upd.hset (T := fun c => blk (.slice (some ⟨bN, 0, none⟩) q.length kN) = some c ∨ blk (.slice (some ⟨bG, 0, none⟩) q.length kG) = some c) _ _ _ (.inr rfl)) (fun _ _ z => z)
      change ER _ _ _ _ _ _ _ _ _ _ (hset h2 ⟨bG, 0 + j * 1, none⟩ (.bool true)) _ _
      generalize hset h2 ⟨bG, 0 + j * 1, none⟩ (.bool true) = h3 at I2 ly2 u2 ⊢
      clear I u1 ly c8 c9 rY cG rN cF fN
      have hx2 : (q.set j (true, m0))[j]? = some (true, m0) := List.getElem?_set_self hjl
      have lq : (q.set j (true, m0)).length = q.length := List.length_set
      have I2' : WkI R nm lL lW lY lV h0 W F ⟨q.set j (true, m0), hs, .slice (some ⟨bN, 0, none⟩) (q.set j (true, m0)).length kN, .slice (some ⟨bG, 0, none⟩) q.length kG, .slice (some ⟨bF, 0, none⟩) F.length kF, hv, ov⟩ h3 := by rw [lq]; exact I2
      obtain ⟨bN', eN, rN, fN⟩ := slice_row (f := fun x : Bool × Nme => nmeL x.2) (fun _ => rfl) I2'.nms hx2
      injection eN with eN
      injection eN with eN
      subst eN
      dsimp only at rN
      have c8 : hcell h3 ⟨W, 8, none⟩ = some (.slice (some ⟨bN, 0, none⟩) q.length kN) := hcell_of I2.row rfl
      have rY : TJ.hrow h3 y 0 (nmeL (nm b)) := hrow_block (rest := []) (by rw [List.append_nil]; exact ly2)
      (repeat (first | refine EK.seq ?_ | refine ER.done ?_))
      refine EK.regionAnyL (fun h' => h' = h3) 7 ?_
      have hZ : h3 = h3 := rfl
      refine EA.tMove 0 rfl (by kernel_rfl) (by kernel_rfl) (by kernel_rfl) rfl rfl rfl rfl hZ ?_
      refine EA.tNil 1 rfl (by kernel_rfl) (by kernel_rfl) (by kernel_rfl) rfl rfl rfl rfl hZ ?_
      refine EA.tField 2 rfl (by kernel_rfl) (by kernel_rfl) (by kernel_rfl) rfl rfl rfl rfl hZ ?_
      refine EA.tLoad 3 rfl (by kernel_rfl) (by kernel_rfl) (by kernel_rfl) rfl rfl rfl rfl (fun _ hz => (by rw [hz]; exact c8)) hZ ?_
      refine EA.tMove 4 rfl (by kernel_rfl) (by kernel_rfl) (by kernel_rfl) rfl rfl rfl rfl hZ ?_
      refine EA.tLoadN (vs := nmeL (nm b)) 5 rfl (by kernel_rfl) (by kernel_rfl) (by kernel_rfl) rfl rfl rfl rfl rfl (fun _ hz => by rw [hz]; exact rY) hZ ?_
      refine EA.val 6 rfl (by kernel_rfl) rfl rfl rfl (fun ρ Q X hρ hq => sem_indexSl (hρ _ _ rfl) (hρ _ _ rfl) (by omega) (by omega) hq) hZ ?_
      refine EA.unitL (h' := hsetRow h3 bN (0 + j * 2) (nmeL (nm b))) 7 rfl (by kernel_rfl) rfl rfl rfl (fun ρ Q X hρ hq => sem_storeN (vs := nmeL (nm b)) (hρ _ _ rfl) (hρ _ _ rfl) rfl (by simp [nmeL, OneCell]) (fun j' hj' => ⟨by
        rcases (show j' = 0 ∨ j' = 1 by have h2 : j' < 2 := hj'; omega) with rfl | rfl
        · exact ⟨_, rN 0 _ rfl⟩
        · exact ⟨_, rN 1 _ rfl⟩, fN _, fun x => x⟩) hq) ?_
      refine EA.done (by kernel_rfl) ?_
      have I3 := I2'.setN (n := nm b) hx2
      rw [lq, List.set_set] at I3
      have u3 : Upd (fun x => x = bN) h3 (hsetRow h3 bN (0 + j * 2) (nmeL (nm b))) := (Upd.hset (T := fun x => x = bN) h3 ⟨bN, 0 + j * 2, none⟩ _ rfl).trans (Upd.hset (T := fun x => x = bN) _ ⟨bN, 0 + j * 2 + 1, none⟩ _ rfl)
      have ly3 := u3.get ly2 (fun e => by change y = bN at e; omega)
      have uu := upd_then u2 u3 (fun c _ e => .inl (by rw [e]; rfl))
      clear hZ I2 I2' u2 u3 ly2 c8 rY rN fN
      generalize hsetRow h3 bN (0 + j * 2) (nmeL (nm b)) = h4 at I3 ly3 uu ⊢
      have hjF := (take_mid hF).2.2
      obtain ⟨bF', eF, cF, -⟩ := slice_at (f := fun x : Int => Value.int .i64 x) I3.fst hF
      injection eF with eF
      injection eF with eF
      subst eF
      have c10 : hcell h4 ⟨W, 10, none⟩ = some (.slice (some ⟨bF, 0, none⟩) F.length kF) := hcell_of I3.row rfl
      have rY : TJ.hrow h4 y 0 (nmeL (nm b)) := hrow_block (rest := []) (by rw [List.append_nil]; exact ly3)
      (repeat refine EK.seq ?_)
      refine EK.regionAny (fun h' => hcell h' ⟨W, 10, none⟩ = some (.slice (some ⟨bF, 0, none⟩) F.length kF) ∧ hcell h' ⟨bF, 0 + j * 1, none⟩ = some (.int .i64 (lookN hs (nm b))) ∧ TJ.hrow h' y 0 (nmeL (nm b))) ?_
      have hZ : _ ∧ _ ∧ _ := And.intro c10 ⟨cF, rY⟩
      refine EA.tMove 0 rfl (by kernel_rfl) (by kernel_rfl) (by kernel_rfl) rfl rfl rfl rfl hZ ?_
      refine EA.tNil 1 rfl (by kernel_rfl) (by kernel_rfl) (by kernel_rfl) rfl rfl rfl rfl hZ ?_
      refine EA.tField 2 rfl (by kernel_rfl) (by kernel_rfl) (by kernel_rfl) rfl rfl rfl rfl hZ ?_
      refine EA.tLoad 3 rfl (by kernel_rfl) (by kernel_rfl) (by kernel_rfl) rfl rfl rfl rfl (fun _ hz => hz.1) hZ ?_
      refine EA.tMove 4 rfl (by kernel_rfl) (by kernel_rfl) (by kernel_rfl) rfl rfl rfl rfl hZ ?_
      refine EA.tIdxS 5 rfl (by kernel_rfl) (by kernel_rfl) (by kernel_rfl) rfl rfl rfl rfl rfl (by omega) (by omega) hZ ?_
      refine EA.tLoad 6 rfl (by kernel_rfl) (by kernel_rfl) (by kernel_rfl) rfl rfl rfl rfl (fun _ hz => hz.2.1) hZ ?_
      refine EA.tMove 7 rfl (by kernel_rfl) (by kernel_rfl) (by kernel_rfl) rfl rfl rfl rfl hZ ?_
      refine EA.tLoadN (vs := nmeL (nm b)) 8 rfl (by kernel_rfl) (by kernel_rfl) (by kernel_rfl) rfl rfl rfl rfl rfl (fun _ hz => hz.2.2) hZ ?_
      refine EA.callR 9 rfl (by kernel_rfl) rfl rfl rfl rfl rfl rfl (begins_ok I3 hhl) ?_
      rintro _ h5 δ5 ⟨rfl, rfl, u5⟩
      have hZ : _ ∧ _ ∧ _ := And.intro (u5.hcell hZ.1 (fun x => x)) ⟨u5.hcell hZ.2.1 (fun x => x), fun a v hv => u5.hcell (hZ.2.2 a v hv) (fun x => x)⟩
      refine ⟨hZ, ?_⟩
      refine EA.tCmpT 10 rfl (by kernel_rfl) (by kernel_rfl) (by kernel_rfl) rfl rfl rfl rfl rfl rfl (by first | (dsimp only [cmpP]; omega) | exact rfl | exact Int.le_refl _) hZ ?_
      refine EA.tAssign 11 rfl (by kernel_rfl) (by kernel_rfl) (by kernel_rfl) rfl rfl rfl rfl hZ ?_
      refine EA.done (by kernel_rfl) ?_
      (repeat refine EK.ret ?_)
      exact EU.ret1 rfl rfl ⟨rfl, rfl, I3.upd0 u5, uu.trans (u5.mono (fun _ _ z => z.elim))⟩
end
end Go.Proofs.Ytcpcdnkemobneaa
end
section
namespace Go.Proofs.Ytcpcdnkemobneaa
open Go Go.TJ Go.Conc Go.Proofs
abbrev acc0 : List Value := accL 0 0 0 0 0 0 0 false
section
variable {Γ : Type} {main : Bool} {S : Sit Γ} {δ : Ix Γ} {R : Rec} {nm : Nat → Nme} {lL lW lY lV sP : Value} {h0 h h' : Hp} {W x i t : Nat} {F : List Int} {s : WS} {picks : List Int} {X : Us} {out : Bool}
set_option maxHeartbeats 8000000 in
set_option maxRecDepth 8000 in
theorem wnext_ok (m : RecM R picks lL lW lY lV sP h0) (hlen : R.log.length ≤ 65536) (I : WkI R nm lL lW lY lV h0 W F s h) (hx : h[x]? = some (wrO W i out t)) (hx0 : h0.size ≤ x) (ht : t ≤ R.log.length) :
    CallW Try.prog main (NoS (Γ := Γ)) 90 #[ptr x] h δ (Ret fun v h' δ' => δ' = δ ∧ ∃ t', t' ≤ R.log.length ∧ h'[x]? = some (wrO W i out t') ∧ WkI R nm lL lW lY lV h0 W F s h' ∧ Upd (fun b => b = x) h h' ∧
      ((∃ e, ownFrom R i t = e :: ownFrom R i t' ∧ e ∈ R.log ∧ v = .tuple #[.agg (entL (nums R.log) e).toArray, .bool true]) ∨ (ownFrom R i t = [] ∧ ownFrom R i t' = [] ∧ v = .tuple #[.agg acc0.toArray, .bool false]))) := by
  obtain ⟨aL, kL, eL⟩ := m.log.val
  subst eL
  obtain ⟨y, hy⟩ : ∃ y, y = h.size := ⟨_, rfl⟩
  have hxl := lt_of_get hx
  refine CallW.start (n := 49) rfl rfl ?_
  (repeat (first | refine EK.seq ?_ | refine EK.region ?_ | refine ER.done ?_ | refine EK.block ?_ | refine ER.assign rfl rfl rfl ?_ | refine ER.allocA rfl rfl ?_))
  refine EK.gen (fun h' => WkI R nm (.slice aL R.log.length kL) lW lY lV h0 W F s h' ∧ Upd (fun b => b = x) h h' ∧ h'[x]? = some (wrO W i out t) ∧ h'[y]? = some (accO acc0) ∧ y < h'.size) ⟨I.upd0 (Upd.push _ _), Upd.push _ _, get_push _ hx, by rw [hy]; exact get_push_new _ _, by rw [hy, Array.size_push]; omega⟩ ?_
  rw [← hy]
  have hyx : y ≠ x := by omega
  have hys : h.size ≤ y := by omega
  have hy0 : h0.size ≤ y := by have := I.up.size; omega
  clear I hx hy hxl
  rintro h1 ⟨I, u1, hx, ly, hyl⟩
  refine EK.loopInv (fun _ : Nat => [(2, ptr y), (0, ptr x)]) (fun t1 h' δ' => δ' = δ ∧ t1 ≤ R.log.length ∧ ownFrom R i t = ownFrom R i t1 ∧ WkI R nm (.slice aL R.log.length kL) lW lY lV h0 W F s h' ∧ Upd (fun b => b = x) h h' ∧ h'[x]? = some (wrO W i out t1) ∧ h'[y]? = some (accO acc0) ∧ y < h'.size) (fun t1 => R.log.length - t1) t ⟨rfl, rfl, trivial⟩ ⟨rfl, ht, rfl, I, u1, hx, ly, hyl⟩ ?_
  clear I u1 hx ly hyl ht
  rintro t1 h2 δ2 ⟨rfl, ht, hown, I, u2, hx, ly, hyl⟩ again
  have x0 : hcell h2 ⟨x, 0, none⟩ = some (ptr W) := hcell_of hx rfl
  have x1 : hcell h2 ⟨x, 1, none⟩ = some (.int .i64 i) := hcell_of hx rfl
  have x3 : hcell h2 ⟨x, 3, none⟩ = some (.int .i64 t1) := hcell_of hx rfl
  have c2 : hcell h2 ⟨W, 2, none⟩ = some (.slice aL R.log.length kL) := hcell_of I.row rfl
  (repeat refine EK.seq ?_)
  refine EK.regionAny (fun h' => h' = h2) ?_
  have hZ : h2 = h2 := rfl
  refine EA.tMove 0 rfl (by kernel_rfl) (by kernel_rfl) (by kernel_rfl) rfl rfl rfl rfl hZ ?_
  refine EA.tNil 1 rfl (by kernel_rfl) (by kernel_rfl) (by kernel_rfl) rfl rfl rfl rfl hZ ?_
  refine EA.tField 2 rfl (by kernel_rfl) (by kernel_rfl) (by kernel_rfl) rfl rfl rfl rfl hZ ?_
  refine EA.tLoad 3 rfl (by kernel_rfl) (by kernel_rfl) (by kernel_rfl) rfl rfl rfl rfl (fun _ hz => (by rw [hz]; exact x3)) hZ ?_
  refine EA.tMove 4 rfl (by kernel_rfl) (by kernel_rfl) (by kernel_rfl) rfl rfl rfl rfl hZ ?_
  refine EA.tNil 5 rfl (by kernel_rfl) (by kernel_rfl) (by kernel_rfl) rfl rfl rfl rfl hZ ?_
  refine EA.tField 6 rfl (by kernel_rfl) (by kernel_rfl) (by kernel_rfl) rfl rfl rfl rfl hZ ?_
  refine EA.tLoad 7 rfl (by kernel_rfl) (by kernel_rfl) (by kernel_rfl) rfl rfl rfl rfl (fun _ hz => (by rw [hz]; exact x0)) hZ ?_
  refine EA.tNil 8 rfl (by kernel_rfl) (by kernel_rfl) (by kernel_rfl) rfl rfl rfl rfl hZ ?_
  refine EA.tField 9 rfl (by kernel_rfl) (by kernel_rfl) (by kernel_rfl) rfl rfl rfl rfl hZ ?_
  refine EA.tField 10 rfl (by kernel_rfl) (by kernel_rfl) (by kernel_rfl) rfl rfl rfl rfl hZ ?_
  refine EA.tLoad 11 rfl (by kernel_rfl) (by kernel_rfl) (by kernel_rfl) rfl rfl rfl rfl (fun _ hz => (by rw [hz]; exact c2)) hZ ?_
  refine EA.tLen1 12 rfl (by kernel_rfl) (by kernel_rfl) (by kernel_rfl) rfl rfl rfl rfl hZ ?_
  by_cases hin : t1 < R.log.length
  · obtain ⟨e, he⟩ : ∃ e, R.log[t1]? = some e := ⟨_, List.getElem?_eq_getElem hin⟩
    obtain ⟨bL, ea, hrow, -⟩ := slice_row (entL_len (nums R.log)) (m.log.upd I.up (fun _ _ x => x)) he
    subst ea
    refine EA.tCmpT 13 rfl (by kernel_rfl) (by kernel_rfl) (by kernel_rfl) rfl rfl rfl rfl rfl rfl (by first | (dsimp only [cmpP]; omega) | exact rfl | exact Int.le_refl _) hZ ?_
    refine EA.done (by kernel_rfl) ?_
    clear hZ
    (repeat (first | refine EK.seq ?_ | refine EK.skip ?_ | refine EK.block ?_ | refine EK.condT rfl ?_))
    refine EK.regionAnyL (fun h' => hcell h' ⟨x, 0, none⟩ = some (ptr W) ∧ hcell h' ⟨x, 3, none⟩ = some (.int .i64 t1) ∧ hcell h' ⟨W, 2, none⟩ = some (.slice (some ⟨bL, 0, none⟩) R.log.length kL) ∧ TJ.hrow h' bL (0 + t1 * 8) (entL (nums R.log) e)) 15 ?_
    have hZ : _ ∧ _ ∧ _ ∧ _ := And.intro x0 ⟨x3, c2, hrow⟩
    refine EA.tMove 0 rfl (by kernel_rfl) (by kernel_rfl) (by kernel_rfl) rfl rfl rfl rfl hZ ?_
    refine EA.tNil 1 rfl (by kernel_rfl) (by kernel_rfl) (by kernel_rfl) rfl rfl rfl rfl hZ ?_
    refine EA.tField 2 rfl (by kernel_rfl) (by kernel_rfl) (by kernel_rfl) rfl rfl rfl rfl hZ ?_
    refine EA.tLoad 3 rfl (by kernel_rfl) (by kernel_rfl) (by kernel_rfl) rfl rfl rfl rfl (fun _ hz => hz.1) hZ ?_
    refine EA.tNil 4 rfl (by kernel_rfl) (by kernel_rfl) (by kernel_rfl) rfl rfl rfl rfl hZ ?_
    refine EA.tField 5 rfl (by kernel_rfl) (by kernel_rfl) (by kernel_rfl) rfl rfl rfl rfl hZ ?_
    refine EA.tField 6 rfl (by kernel_rfl) (by kernel_rfl) (by kernel_rfl) rfl rfl rfl rfl hZ ?_
    refine EA.tLoad 7 rfl (by kernel_rfl) (by kernel_rfl) (by kernel_rfl) rfl rfl rfl rfl (fun _ hz => hz.2.2.1) hZ ?_
    refine EA.tMove 8 rfl (by kernel_rfl) (by kernel_rfl) (by kernel_rfl) rfl rfl rfl rfl hZ ?_
    refine EA.tNil 9 rfl (by kernel_rfl) (by kernel_rfl) (by kernel_rfl) rfl rfl rfl rfl hZ ?_
    refine EA.tField 10 rfl (by kernel_rfl) (by kernel_rfl) (by kernel_rfl) rfl rfl rfl rfl hZ ?_
    refine EA.tLoad 11 rfl (by kernel_rfl) (by kernel_rfl) (by kernel_rfl) rfl rfl rfl rfl (fun _ hz => hz.2.1) hZ ?_
    refine EA.tIdxS 12 rfl (by kernel_rfl) (by kernel_rfl) (by kernel_rfl) rfl rfl rfl rfl rfl (by omega) (by omega) hZ ?_
    refine EA.tLoadN (vs := entL (nums R.log) e) 13 rfl (by kernel_rfl) (by kernel_rfl) (by kernel_rfl) rfl rfl rfl rfl rfl (fun _ hz => hz.2.2.2) hZ ?_
    have up := Upd.push (T := fun _ => False) h2 (.cells acc0.toArray 75)
    refine EA.val (v := ptr h2.size) (h' := h2.push (.cells acc0.toArray 75)) 14 rfl (by kernel_rfl) rfl rfl rfl (fun ρ Q X hρ hq => sem_allocA hq) ⟨up.hcell x0 (fun x => x), up.hcell x3 (fun x => x), up.hcell c2 (fun x => x), fun j v hv => up.hcell (hrow j v hv) (fun x => x)⟩ ?_
    refine EA.unitL (h' := h2.push (.cells (entL (nums R.log) e).toArray 75)) 15 rfl (by kernel_rfl) rfl rfl rfl (fun ρ Q X hρ hq => sem_storeN (vs := entL (nums R.log) e) (hρ _ _ rfl) (hρ _ _ rfl) rfl (by simp [entL, accL, OneCell]) (acc_all (vs := acc0) rfl (get_push_new _ _)) (by rw [hsetRow_push (c := acc0) (vs := entL (nums R.log) e) rfl]; exact hq)) ?_
    refine EA.done (by kernel_rfl) ?_
    clear hZ up
    obtain ⟨z, hz⟩ : ∃ z, z = h2.size := ⟨_, rfl⟩
    have hzx : z ≠ x := by have := lt_of_get hx; omega
    have hzy : z ≠ y := by omega
    refine EK.gen (fun h' => WkI R nm (.slice (some ⟨bL, 0, none⟩) R.log.length kL) lW lY lV h0 W F s h' ∧ Upd (fun b => b = x) h h' ∧ h'[x]? = some (wrO W i out t1) ∧ h'[y]? = some (accO acc0) ∧ h'[z]? = some (accO (entL (nums R.log) e))) ⟨I.upd0 (Upd.push _ _), u2.trans (Upd.push _ _), get_push _ hx, get_push _ ly, by rw [hz]; exact get_push_new _ _⟩ ?_
    rw [← hz]
    clear I u2 hx ly hyl x0 x1 x3 c2 hrow hz
    rintro h3 ⟨I, u3, hx, ly, lz⟩
    have x3 : hcell h3 ⟨x, 3, none⟩ = some (.int .i64 t1) := hcell_of hx rfl
    (repeat (first | refine EK.seq ?_ | refine EK.region ?_ | refine ER.move rfl rfl rfl ?_ | refine ER.nilCheck rfl rfl rfl ?_ | refine ER.fieldAddr rfl rfl rfl ?_ | refine ER.load1 rfl rfl rfl (hcell_of (by assumption) rfl) ?_ | refine ER.add (kd := .i64) rfl rfl rfl rfl (i64_in (by omega) (by omega)) ?_))
    refine ER.store1 rfl rfl rfl ⟨nofun, nofun⟩ ⟨_, x3⟩ (hfroz_of hx) (fun x => x) ?_
    have e7 : hset h3 ⟨x, 3, none⟩ (.int .i64 (t1 + 1 : Nat)) = h3.setIfInBounds x (wrO W i out (t1 + 1)) := hset_block hx _
    have I4 := I.other hx hx0 (by decide) (by decide) (by decide) (by decide) (wrO W i out (t1 + 1))
    have u4 : Upd (fun b => b = x) h (h3.setIfInBounds x (wrO W i out (t1 + 1))) := u3.trans (Upd.set _ _ _ rfl)
    have hx4 : (h3.setIfInBounds x (wrO W i out (t1 + 1)))[x]? = some (wrO W i out (t1 + 1)) := get_set_same hx
    have ly4 : (h3.setIfInBounds x (wrO W i out (t1 + 1)))[y]? = some (accO acc0) := by rw [get_set_ne _ (Ne.symm hyx)]; exact ly
    have lz4 : (h3.setIfInBounds x (wrO W i out (t1 + 1)))[z]? = some (accO (entL (nums R.log) e)) := by rw [get_set_ne _ (Ne.symm hzx)]; exact lz
    rw [show ((t1 : Int) + 1) = ((t1 + 1 : Nat) : Int) by omega]
    change ER _ _ _ _ _ _ _ _ _ _ (hset h3 ⟨x, 3, none⟩ (.int .i64 (t1 + 1 : Nat))) _ _
    rw [e7]
    generalize h3.setIfInBounds x (wrO W i out (t1 + 1)) = h4 at I4 u4 hx4 ly4 lz4 ⊢
    clear e7 I u3 hx ly lz x3
    have z0 : hcell h4 ⟨z, 0, none⟩ = some (.int .i64 e.thr) := hcell_of lz4 rfl
    have x1 : hcell h4 ⟨x, 1, none⟩ = some (.int .i64 i) := hcell_of hx4 rfl
    (repeat (first | refine EK.seq ?_ | refine ER.done ?_))
    refine EK.regionAny (fun h' => h' = h4) ?_
    have hZ : h4 = h4 := rfl
    refine EA.tField 0 rfl (by kernel_rfl) (by kernel_rfl) (by kernel_rfl) rfl rfl rfl rfl hZ ?_
    refine EA.tLoad 1 rfl (by kernel_rfl) (by kernel_rfl) (by kernel_rfl) rfl rfl rfl rfl (fun _ hz => (by rw [hz]; exact z0)) hZ ?_
    refine EA.tMove 2 rfl (by kernel_rfl) (by kernel_rfl) (by kernel_rfl) rfl rfl rfl rfl hZ ?_
    refine EA.tNil 3 rfl (by kernel_rfl) (by kernel_rfl) (by kernel_rfl) rfl rfl rfl rfl hZ ?_
    refine EA.tField 4 rfl (by kernel_rfl) (by kernel_rfl) (by kernel_rfl) rfl rfl rfl rfl hZ ?_
    refine EA.tLoad 5 rfl (by kernel_rfl) (by kernel_rfl) (by kernel_rfl) rfl rfl rfl rfl (fun _ hz => (by rw [hz]; exact x1)) hZ ?_
    by_cases hei : e.thr = i
    · refine EA.tCmpT 6 rfl (by kernel_rfl) (by kernel_rfl) (by kernel_rfl) rfl rfl rfl rfl rfl rfl (by first | (dsimp only [cmpP]; omega) | exact rfl | exact Int.le_refl _) hZ ?_
      refine EA.done (by kernel_rfl) ?_
      rw [ownFrom_step he, if_pos hei] at hown
      clear hZ
      (repeat (first | refine EK.seq ?_ | refine EK.region ?_ | refine EK.condT rfl ?_))
      refine ER.loadN (vs := entL (nums R.log) e) rfl rfl rfl rfl (hrow_block (rest := []) (by rw [List.append_nil]; exact lz4)) ?_
      refine ER.storeN (vs := entL (nums R.log) e) rfl rfl rfl rfl (by simp [entL, accL, OneCell]) (acc_all rfl ly4) ?_
      rw [row_set (c := acc0) (vs := entL (nums R.log) e) ly4 rfl]
      (repeat (first | refine ER.done ?_ | refine ER.assign rfl rfl rfl ?_ | refine EK.ret ?_))
      refine EU.retCell (vs := entL (nums R.log) e) rfl rfl rfl (hrow_block (rest := []) (by rw [List.append_nil]; exact get_set_same ly4)) rfl ⟨rfl, t1 + 1, by omega, by rw [get_set_ne _ hyx]; exact hx4, I4.other ly4 hy0 (by decide) (by decide) (by decide) (by decide) _, upd_then u4 (Upd.set (T := fun b => b = y) _ _ _ rfl) (fun b hb e => by omega), .inl ⟨e, hown, List.mem_of_getElem? he, rfl⟩⟩
    · refine EA.tCmpF 6 rfl (by kernel_rfl) (by kernel_rfl) (by kernel_rfl) rfl rfl rfl rfl rfl rfl (by first | (dsimp only [cmpP]; omega) | exact rfl | exact Int.le_refl _) hZ ?_
      refine EA.done (by kernel_rfl) ?_
      rw [ownFrom_step he, if_neg hei] at hown
      clear hZ
      (repeat (first | refine EK.skip ?_ | refine EK.inBlock ?_ | refine EK.condF rfl ?_))
      exact EK.back (again (t1 + 1) _ _ (by omega) ⟨rfl, by omega, hown, I4, u4, hx4, ly4, lt_of_get ly4⟩) ⟨rfl, rfl, trivial⟩
  · obtain rfl : t1 = R.log.length := by omega
    refine EA.tCmpF 13 rfl (by kernel_rfl) (by kernel_rfl) (by kernel_rfl) rfl rfl rfl rfl rfl rfl (by first | (dsimp only [cmpP]; omega) | exact rfl | exact Int.le_refl _) hZ ?_
    refine EA.done (by kernel_rfl) ?_
    rw [ownFrom_end] at hown
    clear hZ
    (repeat (first | refine EK.seq ?_ | refine EK.region ?_ | refine EK.condF rfl ?_ | refine EK.exit rfl ?_))
    refine ER.buildS (cells := acc0.toArray) rfl rfl (by rfl) rfl ?_
    refine ER.storeN (vs := acc0) rfl rfl rfl rfl (by simp [accL, OneCell]) (acc_all rfl ly) ?_
    rw [row_set (c := acc0) (vs := acc0) ly rfl]
    (repeat (first | refine ER.done ?_ | refine ER.assign rfl rfl rfl ?_ | refine EK.ret ?_))
    refine EU.retCell (vs := acc0) rfl rfl rfl (hrow_block (rest := []) (by rw [List.append_nil]; exact get_set_same ly)) rfl ⟨rfl, R.log.length, Nat.le_refl _, by rw [get_set_ne _ hyx]; exact hx, I.other ly hy0 (by decide) (by decide) (by decide) (by decide) _, upd_then u2 (Upd.set (T := fun b => b = y) _ _ _ rfl) (fun b hb e => by omega), .inr ⟨hown, ownFrom_end _ _, rfl⟩⟩
set_option maxHeartbeats 8000000 in
set_option maxRecDepth 8000 in
theorem wleft_ok (m : RecM R picks lL lW lY lV sP h0) (hlen : R.left.length ≤ 65536) (I : WkI R nm lL lW lY lV h0 W F s h) (hx : h[x]? = some (wrO W i out t)) (hx0 : h0.size ≤ x) :
    CallW Try.prog main (NoS (Γ := Γ)) 91 #[ptr x] h δ (Ret fun v h' δ' => δ' = δ ∧ Upd (fun _ => False) h h' ∧
      ((∃ q, q ∈ R.left ∧ q.1 = i ∧ v = .tuple #[.agg (leftE (nums R.log) R.val q).toArray, .bool true]) ∨ ((∀ q, q ∈ R.left → q.1 ≠ i) ∧ v = .tuple #[.agg acc0.toArray, .bool false]))) := by
  obtain ⟨aV, kV, eV⟩ := m.left.val
  subst eV
  obtain ⟨y, hy⟩ : ∃ y, y = h.size := ⟨_, rfl⟩
  refine CallW.start (n := 47) rfl rfl ?_
  (repeat (first | refine EK.seq ?_ | refine EK.region ?_ | refine ER.done ?_ | refine EK.block ?_ | refine ER.assign rfl rfl rfl ?_ | refine ER.allocA rfl rfl ?_))
  refine EK.gen (fun h' => WkI R nm lL lW lY (.slice aV R.left.length kV) h0 W F s h' ∧ Upd (fun _ => False) h h' ∧ h'[x]? = some (wrO W i out t) ∧ h'[y]? = some (accO acc0)) ⟨I.upd0 (Upd.push _ _), Upd.push _ _, get_push _ hx, by rw [hy]; exact get_push_new _ _⟩ ?_
  rw [← hy]
  have hys : h.size ≤ y := by omega
  clear I hx hy
  rintro h1 ⟨I, u1, hx, ly⟩
  have x0 : hcell h1 ⟨x, 0, none⟩ = some (ptr W) := hcell_of hx rfl
  have x1 : hcell h1 ⟨x, 1, none⟩ = some (.int .i64 i) := hcell_of hx rfl
  have c5 : hcell h1 ⟨W, 5, none⟩ = some (.slice aV R.left.length kV) := hcell_of I.row rfl
  refine EK.loopInv (fun j : Nat => [(4, .int .i64 j), (2, ptr y), (0, ptr x)]) (fun j h' δ' => δ' = δ ∧ j ≤ R.left.length ∧ h' = h1 ∧ ∀ j' q, j' < j → R.left[j']? = some q → q.1 ≠ i) (fun j => R.left.length - j) 0 ⟨rfl, rfl, rfl, trivial⟩ ⟨rfl, Nat.zero_le _, rfl, fun j' q hj => by omega⟩ ?_
  rintro j h2 δ2 ⟨rfl, hj, rfl, hno⟩ again
  by_cases hin : j < R.left.length
  · obtain ⟨q, hq⟩ : ∃ q, R.left[j]? = some q := ⟨_, List.getElem?_eq_getElem hin⟩
    obtain ⟨bV, ea, hrow, -⟩ := slice_row (leftE_len (nums R.log) R.val) (m.left.upd I.up (fun _ _ x => x)) hq
    subst ea
    have w0 : hcell h2 ⟨bV, 0 + j * 8 + 0, none⟩ = some (.int .i64 q.1) := hrow 0 _ rfl
    (repeat (first | refine EK.seq ?_ | refine EK.region ?_ | refine ER.done ?_ | refine EK.skip ?_ | refine EK.block ?_ | refine ER.move rfl rfl rfl ?_ | refine ER.nilCheck rfl rfl rfl ?_ | refine ER.fieldAddr rfl rfl rfl ?_ | refine ER.load1 rfl rfl rfl (hcell_of (by assumption) rfl) ?_ | refine ER.cmpT rfl rfl rfl rfl rfl (by first | (dsimp only [cmpP]; omega) | exact rfl | exact Int.le_refl _) ?_ | refine ER.len1 rfl rfl rfl ?_ | refine EK.condT rfl ?_ | refine ER.load1 rfl rfl rfl (by assumption) ?_))
    refine EK.regionAny (fun h' => h' = h2) ?_
    have hZ : h2 = h2 := rfl
    refine EA.tMove 0 rfl (by kernel_rfl) (by kernel_rfl) (by kernel_rfl) rfl rfl rfl rfl hZ ?_
    refine EA.tNil 1 rfl (by kernel_rfl) (by kernel_rfl) (by kernel_rfl) rfl rfl rfl rfl hZ ?_
    refine EA.tField 2 rfl (by kernel_rfl) (by kernel_rfl) (by kernel_rfl) rfl rfl rfl rfl hZ ?_
    refine EA.tLoad 3 rfl (by kernel_rfl) (by kernel_rfl) (by kernel_rfl) rfl rfl rfl rfl (fun _ hz => (by rw [hz]; exact x0)) hZ ?_
    refine EA.tNil 4 rfl (by kernel_rfl) (by kernel_rfl) (by kernel_rfl) rfl rfl rfl rfl hZ ?_
    refine EA.tField 5 rfl (by kernel_rfl) (by kernel_rfl) (by kernel_rfl) rfl rfl rfl rfl hZ ?_
    refine EA.tField 6 rfl (by kernel_rfl) (by kernel_rfl) (by kernel_rfl) rfl rfl rfl rfl hZ ?_
    refine EA.tLoad 7 rfl (by kernel_rfl) (by kernel_rfl) (by kernel_rfl) rfl rfl rfl rfl (fun _ hz => (by rw [hz]; exact c5)) hZ ?_
    refine EA.tMove 8 rfl (by kernel_rfl) (by kernel_rfl) (by kernel_rfl) rfl rfl rfl rfl hZ ?_
    refine EA.tIdxS 9 rfl (by kernel_rfl) (by kernel_rfl) (by kernel_rfl) rfl rfl rfl rfl rfl (by omega) (by omega) hZ ?_
    refine EA.tField 10 rfl (by kernel_rfl) (by kernel_rfl) (by kernel_rfl) rfl rfl rfl rfl hZ ?_
    refine EA.tLoad 11 rfl (by kernel_rfl) (by kernel_rfl) (by kernel_rfl) rfl rfl rfl rfl (fun _ hz => (by rw [hz]; exact w0)) hZ ?_
    refine EA.tMove 12 rfl (by kernel_rfl) (by kernel_rfl) (by kernel_rfl) rfl rfl rfl rfl hZ ?_
    refine EA.tNil 13 rfl (by kernel_rfl) (by kernel_rfl) (by kernel_rfl) rfl rfl rfl rfl hZ ?_
    refine EA.tField 14 rfl (by kernel_rfl) (by kernel_rfl) (by kernel_rfl) rfl rfl rfl rfl hZ ?_
    refine EA.tLoad 15 rfl (by kernel_rfl) (by kernel_rfl) (by kernel_rfl) rfl rfl rfl rfl (fun _ hz => (by rw [hz]; exact x1)) hZ ?_
    by_cases hqi : q.1 = i
    · refine EA.tCmpT 16 rfl (by kernel_rfl) (by kernel_rfl) (by kernel_rfl) rfl rfl rfl rfl rfl rfl (by first | (dsimp only [cmpP]; omega) | exact rfl | exact Int.le_refl _) hZ ?_
      refine EA.done (by kernel_rfl) ?_
      clear hZ
      (repeat (first | refine EK.seq ?_ | refine EK.region ?_ | refine ER.move rfl rfl rfl ?_ | refine ER.nilCheck rfl rfl rfl ?_ | refine ER.fieldAddr rfl rfl rfl ?_ | refine ER.load1 rfl rfl rfl (hcell_of (by assumption) rfl) ?_ | refine ER.indexSl rfl rfl rfl rfl (by omega) (by omega) ?_ | refine EK.condT rfl ?_ | refine ER.load1 rfl rfl rfl (by assumption) ?_))
      refine ER.loadN (vs := leftE (nums R.log) R.val q) rfl rfl rfl rfl hrow ?_
      refine ER.storeN (vs := leftE (nums R.log) R.val q) rfl rfl rfl rfl (by simp [leftE, accL, OneCell]) (acc_all rfl ly) ?_
      rw [row_set (c := acc0) (vs := leftE (nums R.log) R.val q) ly rfl]
      (repeat (first | refine ER.done ?_ | refine ER.assign rfl rfl rfl ?_ | refine EK.ret ?_))
      exact EU.retCell (vs := leftE (nums R.log) R.val q) rfl rfl rfl (hrow_block (rest := []) (by rw [List.append_nil]; exact get_set_same ly)) rfl ⟨rfl, upd_then u1 (Upd.set (T := fun b => b = y) _ _ _ rfl) (fun b hb e => by omega), .inl ⟨q, List.mem_of_getElem? hq, hqi, rfl⟩⟩
    · refine EA.tCmpF 16 rfl (by kernel_rfl) (by kernel_rfl) (by kernel_rfl) rfl rfl rfl rfl rfl rfl (by first | (dsimp only [cmpP]; omega) | exact rfl | exact Int.le_refl _) hZ ?_
      refine EA.done (by kernel_rfl) ?_
      clear hZ
      (repeat (first | refine EK.region ?_ | refine ER.done ?_ | refine EK.skip ?_ | refine EK.inBlock ?_ | refine ER.move rfl rfl rfl ?_ | refine ER.assign rfl rfl rfl ?_ | refine ER.add (kd := .i64) rfl rfl rfl rfl (i64_in (by omega) (by omega)) ?_ | refine EK.condF rfl ?_))
      exact EK.back (again (j + 1) _ _ (by omega) ⟨rfl, by omega, rfl, fun j' q' h1 h2 => by
        by_cases e : j' = j
        · subst e
          rw [hq] at h2; cases h2; exact hqi
        · exact hno j' q' (by omega) h2⟩) ⟨rfl, rfl, rfl, trivial⟩
  · obtain rfl : j = R.left.length := by omega
    (repeat (first | refine EK.seq ?_ | refine EK.region ?_ | refine ER.done ?_ | refine ER.move rfl rfl rfl ?_ | refine ER.nilCheck rfl rfl rfl ?_ | refine ER.fieldAddr rfl rfl rfl ?_ | refine ER.load1 rfl rfl rfl (hcell_of (by assumption) rfl) ?_ | refine ER.cmpF rfl rfl rfl rfl rfl (by first | (dsimp only [cmpP]; omega) | exact rfl | exact Int.le_refl _) ?_ | refine ER.len1 rfl rfl rfl ?_ | refine EK.condF rfl ?_ | refine EK.exit rfl ?_ | refine ER.load1 rfl rfl rfl (by assumption) ?_))
    refine ER.buildS (cells := acc0.toArray) rfl rfl (by rfl) rfl ?_
    refine ER.storeN (vs := acc0) rfl rfl rfl rfl (by simp [accL, OneCell]) (acc_all rfl ly) ?_
    rw [row_set (c := acc0) (vs := acc0) ly rfl]
    (repeat (first | refine ER.done ?_ | refine ER.assign rfl rfl rfl ?_ | refine EK.ret ?_))
    exact EU.retCell (vs := acc0) rfl rfl rfl (hrow_block (rest := []) (by rw [List.append_nil]; exact get_set_same ly)) rfl ⟨rfl, upd_then u1 (Upd.set (T := fun b => b = y) _ _ _ rfl) (fun b hb e => by omega), .inr ⟨fun q hq => by
      obtain ⟨j', hj', rfl⟩ := List.mem_iff_getElem.1 hq
      exact hno j' _ hj' (List.getElem?_eq_getElem hj'), rfl⟩⟩
set_option maxHeartbeats 1000000 in
theorem fell_ok {j : Int} (I : WkI R nm lL lW lY lV h0 W F s h) : CallW Try.prog main S 92 #[ptr W, .int .i64 j] h δ (Ret (Det (.bool false) h δ)) := by
  have c6 : hcell h ⟨W, 6, none⟩ = some nilS := hcell_of I.row rfl
  refine CallW.start (n := 26) rfl rfl ?_
  (repeat (first | refine EK.seq ?_ | refine EK.region ?_ | refine ER.done ?_ | refine EK.block ?_ | refine ER.assign rfl rfl rfl ?_))
  refine EK.loop ?_
  (repeat (first | refine EK.seq ?_ | refine EK.region ?_ | refine ER.done ?_ | refine ER.move rfl rfl rfl ?_ | refine ER.assign rfl rfl rfl ?_ | refine ER.nilCheck rfl rfl rfl ?_ | refine ER.fieldAddr rfl rfl rfl ?_ | refine ER.cmpF rfl rfl rfl rfl rfl (by first | (dsimp only [cmpP]; omega) | exact rfl | exact Int.le_refl _) ?_ | refine ER.len1 rfl rfl rfl ?_ | refine EK.condF rfl ?_ | refine EK.ret ?_ | refine EK.exit rfl ?_ | refine ER.load1 rfl rfl rfl (by assumption) ?_))
  exact EU.ret1 rfl rfl det
end
end Go.Proofs.Ytcpcdnkemobneaa
end
