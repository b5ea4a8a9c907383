/- Steps of the walk and of the plain law (SoW to SoQ). Conditions: as each lemma says. -/
import Derived.Deep.SlicePairs
import Derived.OpenShut
import Derived.WalkKit
import Derived.ProofKit
import Derived.Test.YthkpbenhchkkoaaSoMD
namespace Go.Proofs.Ythkpbenhchkkoaa
section
open Go Go.TJ Go.Conc Go.Proofs
theorem slice_cut {h : Hp} {s : Value} {e m : Nat} {cells : List Value} {v : Value} (x : SliceO h s e 1 (m + 1) (cells ++ [v])) : ∃ b cap, s = .slice (some ⟨b, 0, none⟩) (m + 1) cap /\ m + 1 <= cap /\ SliceO h (.slice (some ⟨b, 0, none⟩) m cap) e 1 m cells := by
  obtain ⟨hl, ⟨h0, h1⟩ | ⟨b, cap, rest, rfl, h1, h2, h3⟩⟩ := x
  · omega
  · rw [List.length_append, List.length_singleton] at hl
    refine ⟨b, cap, rfl, h1, by omega, .inr ⟨b, cap, v :: rest, rfl, by omega, by simp only [List.length_cons, h2]; omega, ?_⟩⟩
    rw [h3]
    simp
theorem stell_len {i k : Nat} : ∀ {l : List Bool}, (stell i l k).length <= 1
  | [] => Nat.zero_le _
  | true :: _ => Nat.le_refl _
  | false :: _ => Nat.le_refl _
section
variable {d : S1} {base bp bs bt : Nat} {scv pS : Value} {sc : List (List SCal)} {h h' : Hp} {i : Nat} {γ γ' : GG (XS d)} {u : (XS d).U}
theorem slawB (E : SEn d base bp bs bt scv pS sc) {p : Pr SE} (a : AtP (XS d) d.c.P (stold d) d.c.n d.c.B i γ u [] h p) (hp : (norm p).1.length <= 2) :
    0 <= (sfold u.1).begun /\ (sfold u.1).begun <= 3300 /\ (sfold u.1).last.length <= 3302 /\ -2 <= (sfold u.1).busy /\ (sfold u.1).busy <= 10 := by
  obtain ⟨-, l1, l2, l3, l4, l5⟩ := slaw E a
  omega
theorem skeep {g : List (Nat × SE)} {mv : MV} (I : SMI d g mv h) (up : Upd (fun b => (∃ k, b = d.D k) \/ blk mv.1 = some b) h h') : ∀ b, d.old b -> h'[b]? = d.hN[b]? := fun b hb =>
  (up.2 b (I.oldlt hb) (fun x => x.elim (fun ⟨k, e⟩ => hb.2.2.2 k e) fun x => (I.new b x).1 hb)).trans (I.old b hb)
theorem sstep_bpush {s : SS} {i : Nat} {v : Int} : sstep s (i, .bpush v) = { s.begin i with there := s.there ++ [v] } := rfl
theorem sstep_bpop {s : SS} {i : Nat} : sstep s (i, .bpop) = s.begin i := rfl
theorem sstep_no {s : SS} {i : Nat} {y : Int} : sstep s (i, .popped y false) = { s with busy := s.busy - 1 } := by simp [sstep]
abbrev SCallD (d : S1) (i : Nat) (γ γ' : GG (XS d)) (u' : (XS d).U) (h' : Hp) (p : Pr SE) : Prop := Along (XS d) i γ.p γ'.p /\ AtP (XS d) d.c.P (stold d) d.c.n d.c.B i γ' u' [] h' p
set_option maxRecDepth 8000 in
set_option maxHeartbeats 8000000 in
theorem sbody_T (E : SEn d base bp bs bt scv pS sc) {iB : Nat} {l : List SCal} (hi : d.old iB /\ d.hN[iB]? = some (.cells #[.int .i64 (i : Int)] 3 (0, 0))) (hl : sc[i]? = some l) (a : AtP (XS d) d.c.P (stold d) d.c.n d.c.B i γ u [] h (stP d.c.B d.c.F i (l.map fun q => decide (q.1 = 0)) 0)) {t : Nat} (ht : t = γ.p.tb i) :
    CallW Try.prog false (SitT Try.prog (PX (XS d)) (i + 1)) 9 #[ptr t, ptr bp, ptr iB, ptr (d.D .busy), ptr (d.D .begun), ptr bt, ptr bs, ptr (d.D .stk), ptr (d.D .wrong)] h ⟨0, γ⟩ (RetP (fun w h' δ' => ∃ (γ' : GG (XS d)) (u' : (XS d).U), δ' = ⟨0, γ'⟩ /\ w = .tuple #[] /\ SCallD d i γ γ' u' h' .done) (Halt (XS d) i γ.p)) := by
  subst ht
  obtain ⟨bR, oR, kR, aQ, kQ, rfl, e2, e3, e4⟩ := E.scr.row i l hl
  have hil : i < sc.length := (List.getElem?_eq_some_iff.1 hl).1
  have hlen : l.length <= 400 := by
    have := E.ok.len (l.map fun q => decide (q.1 = 0)) (by rw [E.sc]; exact List.mem_map.2 ⟨l, List.mem_of_getElem? hl, rfl⟩)
    rwa [List.length_map] at this
  have hT8 : sc.length <= 8 := by
    have := E.ok.T8
    unfold SP.T at this
    rwa [E.sc, List.length_map] at this
  have hn2 := E.ok.n2
  have hn1 := E.ok.n1
  have hF := E.ok.F
  have hlone : d.c.lone = true ↔ sc.length = 1 := by
    unfold SP.lone
    rw [E.sc, List.length_map]
    exact beq_iff_eq
  have hbig := E.scr.big.1
  refine CallW.start (n := 165) rfl rfl ?_
  (repeat (first | refine EK.seq ?_ | refine EK.region ?_ | refine ER.done ?_ | refine EK.block ?_ | refine ER.assign rfl rfl rfl ?_))
  refine EK.loopInv (fun q : GG (XS d) × (XS d).U × Nat => [(10, .int .i64 q.2.2), (8, ptr (d.D .wrong)), (7, ptr (d.D .stk)), (6, ptr bs), (5, ptr bt), (4, ptr (d.D .begun)), (3, ptr (d.D .busy)), (2, ptr iB), (1, ptr bp), (0, ptr (γ.p.tb i))]) (fun q h' δ' => δ' = ⟨0, q.1⟩ /\ AtP (XS d) d.c.P (stold d) d.c.n d.c.B i q.1 q.2.1 [] h' (stP d.c.B d.c.F i ((l.drop q.2.2).map fun q => decide (q.1 = 0)) q.2.2) /\ Along (XS d) i γ.p q.1.p /\ q.2.2 <= l.length) (fun q => l.length - q.2.2) (γ, u, 0) ⟨rfl, rfl, rfl, rfl, rfl, rfl, rfl, rfl, rfl, rfl, trivial⟩ ⟨rfl, a, Along.refl _ _, Nat.zero_le _⟩ ?_
  clear a
  rintro ⟨γ1, u1, k⟩ h1 δ1 ⟨hδ, a1, al, hk⟩ again
  dsimp only at hδ a1 al hk again ⊢
  subst hδ
  have I1 : SMI d u1.1 u1.2 h1 := a1.thr.I
  have N1 := E.now I1.old
  have c1 : hcell h1 ⟨bp, 1, none⟩ = some (.slice (some ⟨bR, oR, none⟩) sc.length kR) := hcell_of N1.p rfl
  have ci : hcell h1 ⟨iB, 0, none⟩ = some (.int .i64 (i : Int)) := hcell_of ((I1.old _ hi.1).trans hi.2) rfl
  have cR : hcell h1 ⟨bR, oR + i * 1, none⟩ = some (.slice aQ l.length kQ) := hcell_sameO e3 (I1.old _ (E.low _ e2))
  by_cases hlt : k < l.length
  · obtain ⟨x, hx⟩ : ∃ x, l[k]? = some x := ⟨_, List.getElem?_eq_getElem hlt⟩
    obtain ⟨bQ, oQ, rfl, f2, f3⟩ := e4 k x hx
    have hd : l.drop k = x :: l.drop (k + 1) := by
      rw [List.drop_eq_getElem_cons hlt]
      rw [List.getElem?_eq_getElem hlt] at hx
      injection hx with hx
      rw [hx]
    rw [hd, List.map_cons] at a1
    obtain ⟨b1, b2, b3, b4, b5⟩ := slawB E a1 (by rw [norm_stP]; exact Nat.le_trans stell_len (by omega))
    have T1 := a1.thr
    have hS : ∀ k o, ¬ (SitT Try.prog (PX (XS d)) (i + 1)).still γ1 ⟨d.D k, o, none⟩ := fun k o => T1.free (.inl (.inr (.inl ⟨k, rfl⟩)))
    have r1 := I1.rep
    have cb : hcell h1 ⟨d.D .busy, 0, none⟩ = some (.int .i64 (sfold u1.1).busy) := scell r1 .busy rfl (i := 0) rfl
    have cg : hcell h1 ⟨d.D .begun, 0, none⟩ = some (.int .i64 (sfold u1.1).begun) := scell r1 .begun rfl (i := 0) rfl
    (repeat (first | refine EK.seq ?_ | refine EK.region ?_ | refine ER.done ?_ | refine EK.skip ?_ | refine EK.block ?_ | refine ER.move rfl rfl rfl ?_ | refine ER.assign rfl rfl rfl ?_ | refine ER.fieldAddr rfl rfl rfl ?_ | refine ER.cmpT rfl rfl rfl rfl rfl (by first | (dsimp only [cmpP]; omega) | exact rfl | exact Int.le_refl _) ?_ | refine ER.add (kd := .i64) rfl rfl rfl rfl (i64_in (by omega) (by omega)) ?_ | refine ER.mul (kd := .i64) rfl rfl rfl rfl (i64_in (by omega) (by omega)) ?_ | refine ER.len1 rfl rfl rfl ?_ | refine ER.indexSl rfl rfl rfl rfl (by omega) (by omega) ?_ | refine EK.condT rfl ?_ | refine ER.load1 rfl rfl rfl (by assumption) ?_))
    refine ER.store1 (v := (.int .i64 ((sfold u1.1).busy + 1))) rfl rfl rfl ⟨nofun, nofun⟩ ⟨_, scell r1 .busy rfl rfl⟩ (sfroz r1 .busy rfl) (hS .busy _) ?_
    have u' := Upd.hset (T := fun b => ∃ k, b = d.D k) h1 ⟨d.D .busy, 0, none⟩ (.int .i64 ((sfold u1.1).busy + 1)) ⟨_, rfl⟩
    have r' := swrite r1 .busy rfl 0 (.int .i64 ((sfold u1.1).busy + 1)) (q' := { QS.of (sfold u1.1) u1.2 with busy := (sfold u1.1).busy + 1 }) rfl (fun j hj => by cases j <;> first | rfl | exact absurd rfl hj)
    have u2 := u'
    have r2 := r'
    clear u' r' cb cg c1 ci cR r1
    generalize hset h1 ⟨d.D .busy, 0, none⟩ (.int .i64 ((sfold u1.1).busy + 1)) = h2 at u2 r2 ⊢
    have cg : hcell h2 ⟨d.D .begun, 0, none⟩ = some (.int .i64 (sfold u1.1).begun) := scell r2 .begun rfl (i := 0) rfl
    (repeat (first | refine EK.seq ?_ | refine EK.region ?_ | refine ER.done ?_ | refine ER.add (kd := .i64) rfl rfl rfl rfl (i64_in (by omega) (by omega)) ?_ | refine ER.load1 rfl rfl rfl (by assumption) ?_))
    refine ER.store1 (v := (.int .i64 ((sfold u1.1).begun + 1))) rfl rfl rfl ⟨nofun, nofun⟩ ⟨_, scell r2 .begun rfl rfl⟩ (sfroz r2 .begun rfl) (hS .begun _) ?_
    have u' := Upd.hset (T := fun b => ∃ k, b = d.D k) h2 ⟨d.D .begun, 0, none⟩ (.int .i64 ((sfold u1.1).begun + 1)) ⟨_, rfl⟩
    have r' := swrite r2 .begun rfl 0 (.int .i64 ((sfold u1.1).begun + 1)) (q' := { QS.of (sfold u1.1) u1.2 with busy := (sfold u1.1).busy + 1, begun := (sfold u1.1).begun + 1 }) rfl (fun j hj => by cases j <;> first | rfl | exact absurd rfl hj)
    have u3 := u2.trans u'
    have r3 := r'
    clear u' r' cg r2 u2
    generalize hset h2 ⟨d.D .begun, 0, none⟩ (.int .i64 ((sfold u1.1).begun + 1)) = h3 at u3 r3 ⊢
    have hold3 := skeep I1 (u3.mono fun b _ x => .inl x)
    have N3 := E.now hold3
    have c1 : hcell h3 ⟨bp, 1, none⟩ = some (.slice (some ⟨bR, oR, none⟩) sc.length kR) := hcell_of N3.p rfl
    have ci : hcell h3 ⟨iB, 0, none⟩ = some (.int .i64 (i : Int)) := hcell_of ((hold3 _ hi.1).trans hi.2) rfl
    have cR : hcell h3 ⟨bR, oR + i * 1, none⟩ = some (.slice (some ⟨bQ, oQ, none⟩) l.length kQ) := hcell_sameO e3 (hold3 _ (E.low _ e2))
    have cQ : hcell h3 ⟨bQ, oQ + k * 2, none⟩ = some (.int .i64 x.1) := hcell_sameO f3 (hold3 _ (E.low _ f2))
    have cb : hcell h3 ⟨d.D .busy, 0, none⟩ = some (.int .i64 ((sfold u1.1).busy + 1)) := scell r3 .busy rfl (i := 0) rfl
    have cg : hcell h3 ⟨d.D .begun, 0, none⟩ = some (.int .i64 ((sfold u1.1).begun + 1)) := scell r3 .begun rfl (i := 0) rfl
    have cs := N3.s
    have ct := N3.t
    obtain ⟨v, hv⟩ : ∃ v, v = valN i k := ⟨_, rfl⟩
    obtain ⟨bA, hA⟩ : ∃ bA, decide ((sfold u1.1).busy + 1 = 1) = bA := ⟨_, rfl⟩
    (repeat (first | refine EK.seq ?_ | refine EK.region ?_ | refine ER.done ?_ | refine ER.assign rfl rfl rfl ?_ | refine ER.load1 rfl rfl rfl (by assumption) ?_))
    refine ER.cmpB (r := bA) rfl rfl rfl rfl rfl hA ?_
    (repeat (first | refine EK.seq ?_ | refine EK.region ?_ | refine ER.done ?_ | refine ER.assign rfl rfl rfl ?_ | refine ER.load1 rfl rfl rfl (by assumption) ?_))
    refine ER.lenMap (v := (sfold u1.1).there.length) rfl rfl rfl (smap r3) I1.key.size ?_
    by_cases hq : x.1 = 0
    · rw [decide_eq_true hq] at a1
      have a1' : AtP (XS d) d.c.P (stold d) d.c.n d.c.B i γ1 u1 [] h1 (.emit (.bpush (valN i k)) (pushP d.c.B (valN i k) (fun e => .emit (.pushed (valN i k) e) (stP d.c.B d.c.F i ((l.drop (k + 1)).map fun q => decide (q.1 = 0)) (k + 1))) d.c.F)) := a1
      have hnew : valN i k ∉ (sfold u1.1).there := snext' E a1'
      (repeat (first | refine EK.seq ?_ | refine EK.region ?_ | refine ER.done ?_ | refine ER.move rfl rfl rfl ?_ | refine ER.assign rfl rfl rfl ?_ | refine ER.fieldAddr rfl rfl rfl ?_ | refine ER.cmpT rfl rfl rfl rfl rfl (by first | (dsimp only [cmpP]; omega) | exact rfl | exact Int.le_refl _) ?_ | refine ER.indexSl rfl rfl rfl rfl (by omega) (by omega) ?_ | refine EK.condT rfl ?_ | refine ER.load1 rfl rfl rfl (by assumption) ?_))
      refine ER.newI (z := valN i k) rfl rfl rfl rfl (smap r3) I1.key hnew ?_
      obtain ⟨es4, he4⟩ : ∃ x, x = u1.2.2.1.push { key := .int .i64 (valN i k), val := .int .i64 1, born := u1.2.2.2 } := ⟨_, rfl⟩
      have key4 : KeyI es4 ((sfold u1.1).there ++ [valN i k]) := by rw [he4]; exact I1.key.push _ _
      have u4 := u3.trans (Upd.set (T := fun b => ∃ k, b = d.D k) h3 (d.D .map) (.map es4 (u1.2.2.2 + 1)) ⟨_, rfl⟩)
      have r4 := swriteM r3 es4 (u1.2.2.2 + 1)
      change ER _ _ _ _ _ _ _ _ _ _ (h3.setIfInBounds (d.D .map) (.map (u1.2.2.1.push { key := .int .i64 (valN i k), val := .int .i64 1, born := u1.2.2.2 }) (u1.2.2.2 + 1))) _ _
      rw [<- he4]
      clear r3 u3 N3 hold3 c1 ci cR cQ cb cg cs ct he4 hv
      generalize h3.setIfInBounds (d.D .map) (.map es4 (u1.2.2.2 + 1)) = h4 at u4 r4 ⊢
      have e1 : sfold (u1.1 ++ [(i, .bpush (valN i k))]) = _ := sfold_snoc.trans sstep_bpush
      have T2 := sput E.hD T1 (a := .bpush (valN i k)) (m' := (u1.2.1, es4, u1.2.2.2 + 1)) (u4.mono fun b _ x => .inl x) (by rw [e1]; exact r4) (by rw [e1]; exact key4) (by rw [e1]; exact I1.sl.upd u4 fun b hb ⟨k, e⟩ => (I1.new b hb).2.2 k e) (fun b hb => .inl hb)
      have a2 := stells a1' T2
      have w1 : (sfold (u1.1 ++ [(i, .bpush (valN i k))])).when i = (sfold u1.1).begun + 1 /\ (sfold (u1.1 ++ [(i, .bpush (valN i k))])).alone i = bA /\ (sfold (u1.1 ++ [(i, .bpush (valN i k))])).was i = (sfold u1.1).there.length := by
        rw [e1]
        exact ⟨ut_same _ _ _, (ut_same _ _ _).trans hA, ut_same _ _ _⟩
      have I2 : SMI d (u1.1 ++ [(i, .bpush (valN i k))]) (u1.2.1, es4, u1.2.2.2 + 1) h4 := T2.I
      have cs := (E.now I2.old).s
      clear e1 r4 key4 u4 I1 N1 hA T2 I2 hnew a1'
      generalize (sfold u1.1).begun = G0 at w1 ⊢
      generalize (sfold u1.1).there.length = W0 at w1 ⊢
      (repeat (first | refine EK.seq ?_ | refine EK.region ?_ | refine ER.done ?_ | refine ER.move rfl rfl rfl ?_ | refine ER.load1 rfl rfl rfl (by assumption) ?_))
      refine ER.callP rfl rfl rfl rfl rfl (push_T E.K a2 (by omega) al.tb.symm) (fun _ _ _ x => x.along al) ?_
      rintro _ h5 δ5 ⟨γ2, e, rfl, rfl, nx⟩
      have al2 := al.trans nx.al
      have a3 : AtP (XS d) d.c.P (stold d) d.c.n d.c.B i γ2 γ2.p.u [] h5 (.emit (.pushed (valN i k) e) (stP d.c.B d.c.F i ((l.drop (k + 1)).map fun q => decide (q.1 = 0)) (k + 1))) := nx.at_
      have T3 := a3.thr
      have I3 : SMI d γ2.p.u.1 γ2.p.u.2 h5 := T3.I
      clear hS T1 b1 b2 b3 b4 b5 a1 cs
      have hS : ∀ k o, ¬ (SitT Try.prog (PX (XS d)) (i + 1)).still γ2 ⟨d.D k, o, none⟩ := fun k o => T3.free (.inl (.inr (.inl ⟨k, rfl⟩)))
      obtain ⟨he, hin, hal⟩ := snext' E a3
      obtain ⟨b1, b2, b3, b4, b5⟩ := slawB E a3 (by
        show ((norm (stP d.c.B d.c.F i ((l.drop (k + 1)).map fun q => decide (q.1 = 0)) (k + 1))).1.length + 1) <= 2
        rw [norm_stP]
        exact Nat.succ_le_succ stell_len)
      obtain ⟨w2, w3, w4⟩ : (sfold γ2.p.u.1).when i = G0 + 1 /\ (sfold γ2.p.u.1).alone i = bA /\ (sfold γ2.p.u.1).was i = W0 := by
        obtain ⟨es, he, hes⟩ := nx.V
        have he' : γ2.p.u.1 = (u1.1 ++ [(i, SE.bpush (valN i k))]) ++ es := he
        obtain ⟨z1, z2, z3⟩ := sfold_other (g := u1.1 ++ [(i, SE.bpush (valN i k))]) hes
        rw [he']
        exact ⟨z1.trans w1.1, z2.trans w1.2.1, z3.trans w1.2.2⟩
      rw [w2, w3, w4] at hal
      clear w1 w2 w3 w4 a2 nx
      rcases he with rfl | rfl
      · have r6 := I3.rep
        have l6 := I3.sl
        have u6 := Upd.refl (fun b => ∃ k, b = d.D k) h5
        obtain ⟨aS, kS, eS⟩ := l6.val
        have cs : hcell h5 ⟨d.D .stk, 0, none⟩ = some (.slice aS (sfold γ2.p.u.1).last.length kS) := by rw [<- eS]; exact scell r6 .stk rfl (i := 0) rfl
        (repeat (first | refine EK.seq ?_ | refine EK.region ?_ | refine ER.done ?_ | refine EK.skip ?_ | refine ER.move rfl rfl rfl ?_ | refine ER.assign rfl rfl rfl ?_ | refine ER.cmpF rfl rfl rfl rfl rfl (by first | (dsimp only [cmpP]; omega) | exact rfl | exact Int.le_refl _) ?_ | refine EK.condF rfl ?_ | refine ER.load1 rfl rfl rfl (by assumption) ?_))
        refine ER.slice1 (sz := 1) (z := .int .i64 0) (cells := #[.int .i64 (valN i k)]) rfl rfl rfl (by omega) (by omega) (by rfl) rfl ?_
        have u7 := u6.trans (Upd.push (T := fun b => ∃ k, b = d.D k) h5 (.cells #[.int .i64 (valN i k)] 2))
        have r7 := r6.upd0 (Upd.push (T := fun _ => False) h5 (.cells #[.int .i64 (valN i k)] 2))
        have l7 := l6.upd (Upd.push (T := fun _ => False) h5 (.cells #[.int .i64 (valN i k)] 2)) (fun _ _ x => x)
        rw [eS] at l7
        refine ER.append1 (new := [.int .i64 (valN i k)]) rfl rfl rfl rfl l7 (get_push_new _ _) rfl (by simp [OneCell]) (by omega) (by omega) (by rfl) (fun b o hb => T3.free (.inl (.inr (.inr ⟨(I3.new b (by rw [eS]; exact hb)).2.1, by rw [eS]; exact hb⟩)))) ?_
        clear cs r6 u6
        generalize h5.push (.cells #[.int .i64 (valN i k)] 2) = h7 at u7 r7 l7 ⊢
        intro s8 h8 l8 u8 hb8
        rw [<- eS] at u8 hb8
        have r8 := r7.upd u8 fun k _ hk => (I3.new _ hk).2.2 k rfl
        have v8 : Upd (fun b => (∃ k, b = d.D k) \/ blk γ2.p.u.2.1 = some b) h5 h8 := (u7.mono fun b _ x => .inl x).trans (u8.mono fun b _ x => .inr x)
        obtain ⟨a8, k8, e8⟩ := l8.val
        refine ER.store1 (v := s8) rfl rfl rfl (by rw [e8]; exact ⟨nofun, nofun⟩) ⟨_, scell r8 .stk rfl rfl⟩ (sfroz r8 .stk rfl) (hS .stk _) ?_
        have u9 := Upd.hset (T := fun b => ∃ k, b = d.D k) h8 ⟨d.D .stk, 0, none⟩ s8 ⟨_, rfl⟩
        have r9 := swrite r8 .stk rfl 0 s8 (q' := { QS.of (sfold γ2.p.u.1) γ2.p.u.2 with stk := s8 }) rfl (fun j hj => by cases j <;> first | rfl | exact absurd rfl hj)
        have hb7 : h5.size <= h7.size := u7.size
        have n8 : ∀ b, blk s8 = some b -> blk γ2.p.u.2.1 = some b \/ h5.size <= b := fun b hb => (hb8 b hb).imp id fun e => by omega
        have d8 : ∀ b, blk s8 = some b -> ∀ k, b ≠ d.D k := fun b hb k e => by
          rcases n8 b hb with y | y
          · exact (I3.new b y).2.2 k e
          · have := I3.rep.lt (k := k) trivial
            change d.D k < _ at this
            omega
        have l9 := l8.upd u9 fun b hb ⟨k, e⟩ => d8 b hb k e
        have v9 := v8.trans (u9.mono fun b _ x => Or.inl x)
        clear u7 r7 l7 u8 hb8 r8 v8 l8 u9
        generalize hset h8 ⟨d.D .stk, 0, none⟩ s8 = h9 at r9 l9 v9 ⊢
        have N9 := E.now (skeep I3 v9)
        have cw : hcell h9 ⟨d.D .wrong, 0, none⟩ = some (.bool false) := scell r9 .wrong rfl (i := 0) rfl
        have cg : hcell h9 ⟨d.D .begun, 0, none⟩ = some (.int .i64 (sfold γ2.p.u.1).begun) := scell r9 .begun rfl (i := 0) rfl
        have c0 : hcell h9 ⟨bp, 0, none⟩ = some (.int .i64 d.c.n) := hcell_of N9.p rfl
        cases bA with
        | false =>
          (repeat (first | refine EK.seq ?_ | refine EK.region ?_ | refine ER.done ?_ | refine ER.move rfl rfl rfl ?_ | refine ER.no rfl rfl ?_ | refine ER.pickF rfl rfl rfl rfl ?_ | refine ER.cmpF rfl rfl rfl rfl rfl (by first | (dsimp only [cmpP]; omega) | exact rfl | exact Int.le_refl _) ?_ | refine ER.load1 rfl rfl rfl (by assumption) ?_))
          refine ER.store1 (v := (.bool false)) rfl rfl rfl ⟨nofun, nofun⟩ ⟨_, scell r9 .wrong rfl rfl⟩ (sfroz r9 .wrong rfl) (hS .wrong _) ?_
          have u' := Upd.hset (T := fun b => ∃ k, b = d.D k) h9 ⟨d.D .wrong, 0, none⟩ (.bool false) ⟨_, rfl⟩
          have r' := swrite r9 .wrong rfl 0 (.bool false) (q' := { QS.of (sfold γ2.p.u.1) γ2.p.u.2 with stk := s8 }) rfl (fun j hj => by cases j <;> first | rfl | exact absurd rfl hj)
          have v10 := v9.trans (u'.mono fun b _ x => Or.inl x)
          have r10 := r'
          have l10 := l9.upd u' fun b hb ⟨k, e⟩ => d8 b hb k e
          clear u' r' cw cg c0
          generalize hset h9 ⟨d.D .wrong, 0, none⟩ (.bool false) = h10 at v10 r10 l10 ⊢
          have cb : hcell h10 ⟨d.D .busy, 0, none⟩ = some (.int .i64 (sfold γ2.p.u.1).busy) := scell r10 .busy rfl (i := 0) rfl
          (repeat (first | refine EK.seq ?_ | refine EK.region ?_ | refine ER.done ?_ | refine EK.skip ?_ | refine ER.move rfl rfl rfl ?_ | refine ER.cmpF rfl rfl rfl rfl rfl (by first | (dsimp only [cmpP]; omega) | exact rfl | exact Int.le_refl _) ?_ | refine ER.sub' (kd := .i64) rfl rfl rfl rfl (i64_in (by omega) (by omega)) ?_ | refine EK.condF rfl ?_ | refine ER.load1 rfl rfl rfl (by assumption) ?_))
          refine ER.store1 (v := (.int .i64 ((sfold γ2.p.u.1).busy - 1))) rfl rfl rfl ⟨nofun, nofun⟩ ⟨_, scell r10 .busy rfl rfl⟩ (sfroz r10 .busy rfl) (hS .busy _) ?_
          have u' := Upd.hset (T := fun b => ∃ k, b = d.D k) h10 ⟨d.D .busy, 0, none⟩ (.int .i64 ((sfold γ2.p.u.1).busy - 1)) ⟨_, rfl⟩
          have r' := swrite r10 .busy rfl 0 (.int .i64 ((sfold γ2.p.u.1).busy - 1)) (q' := { QS.of (sfold γ2.p.u.1) γ2.p.u.2 with stk := s8, busy := (sfold γ2.p.u.1).busy - 1 }) rfl (fun j hj => by cases j <;> first | rfl | exact absurd rfl hj)
          have v11 := v10.trans (u'.mono fun b _ x => Or.inl x)
          have l11 := l10.upd u' fun b hb ⟨k, e⟩ => d8 b hb k e
          clear u' cb v10 r10 l10
          generalize hset h10 ⟨d.D .busy, 0, none⟩ (.int .i64 ((sfold γ2.p.u.1).busy - 1)) = h11 at v11 r' l11 ⊢
          have ee : sfold (γ2.p.u.1 ++ [(i, .pushed (valN i k) 0)]) = _ := sfold_snoc.trans sstep_in
          have T5 := sput E.hD T3 (a := .pushed (valN i k) 0) (m' := (s8, γ2.p.u.2.2)) v11 (by rw [ee]; exact r') (by rw [ee]; exact I3.key) (by rw [ee]; dsimp only; rw [List.length_append, List.map_append]; exact l11) n8
          have a5 := stells a3 T5
          (repeat (first | refine EK.region ?_ | refine ER.done ?_ | refine EK.inBlock ?_ | refine ER.move rfl rfl rfl ?_ | refine ER.assign rfl rfl rfl ?_ | refine ER.add (kd := .i64) rfl rfl rfl rfl (i64_in (by omega) (by omega)) ?_))
          exact EK.back (again (γ2, (γ2.p.u.1 ++ [(i, .pushed (valN i k) 0)], (s8, γ2.p.u.2.2)), k + 1) _ _ (by dsimp only; omega) ⟨rfl, by dsimp only; exact a5, al2, by dsimp only; omega⟩) ⟨rfl, rfl, rfl, rfl, rfl, rfl, rfl, rfl, rfl, rfl, trivial⟩
        | true =>
          by_cases hat : (sfold γ2.p.u.1).begun = G0 + 1
          · have hfit := (hal rfl hat.symm).1 rfl
            (repeat (first | refine EK.seq ?_ | refine EK.region ?_ | refine ER.done ?_ | refine ER.move rfl rfl rfl ?_ | refine ER.fieldAddr rfl rfl rfl ?_ | refine ER.no rfl rfl ?_ | refine ER.neqV rfl rfl rfl rfl rfl ?_ | refine ER.pickT rfl rfl rfl rfl ?_ | refine ER.pickF rfl rfl rfl rfl ?_ | refine ER.cmpT rfl rfl rfl rfl rfl (by first | (dsimp only [cmpP]; omega) | exact rfl | exact Int.le_refl _) ?_ | refine ER.cmpF rfl rfl rfl rfl rfl (by first | (dsimp only [cmpP]; omega) | exact rfl | exact Int.le_refl _) ?_ | refine ER.load1 rfl rfl rfl (by assumption) ?_))
            refine ER.store1 (v := (.bool false)) rfl rfl rfl ⟨nofun, nofun⟩ ⟨_, scell r9 .wrong rfl rfl⟩ (sfroz r9 .wrong rfl) (hS .wrong _) ?_
            have u' := Upd.hset (T := fun b => ∃ k, b = d.D k) h9 ⟨d.D .wrong, 0, none⟩ (.bool false) ⟨_, rfl⟩
            have r' := swrite r9 .wrong rfl 0 (.bool false) (q' := { QS.of (sfold γ2.p.u.1) γ2.p.u.2 with stk := s8 }) rfl (fun j hj => by cases j <;> first | rfl | exact absurd rfl hj)
            have v10 := v9.trans (u'.mono fun b _ x => Or.inl x)
            have r10 := r'
            have l10 := l9.upd u' fun b hb ⟨k, e⟩ => d8 b hb k e
            clear u' r' cw cg c0
            generalize hset h9 ⟨d.D .wrong, 0, none⟩ (.bool false) = h10 at v10 r10 l10 ⊢
            have cb : hcell h10 ⟨d.D .busy, 0, none⟩ = some (.int .i64 (sfold γ2.p.u.1).busy) := scell r10 .busy rfl (i := 0) rfl
            (repeat (first | refine EK.seq ?_ | refine EK.region ?_ | refine ER.done ?_ | refine EK.skip ?_ | refine ER.move rfl rfl rfl ?_ | refine ER.cmpF rfl rfl rfl rfl rfl (by first | (dsimp only [cmpP]; omega) | exact rfl | exact Int.le_refl _) ?_ | refine ER.sub' (kd := .i64) rfl rfl rfl rfl (i64_in (by omega) (by omega)) ?_ | refine EK.condF rfl ?_ | refine ER.load1 rfl rfl rfl (by assumption) ?_))
            refine ER.store1 (v := (.int .i64 ((sfold γ2.p.u.1).busy - 1))) rfl rfl rfl ⟨nofun, nofun⟩ ⟨_, scell r10 .busy rfl rfl⟩ (sfroz r10 .busy rfl) (hS .busy _) ?_
            have u' := Upd.hset (T := fun b => ∃ k, b = d.D k) h10 ⟨d.D .busy, 0, none⟩ (.int .i64 ((sfold γ2.p.u.1).busy - 1)) ⟨_, rfl⟩
            have r' := swrite r10 .busy rfl 0 (.int .i64 ((sfold γ2.p.u.1).busy - 1)) (q' := { QS.of (sfold γ2.p.u.1) γ2.p.u.2 with stk := s8, busy := (sfold γ2.p.u.1).busy - 1 }) rfl (fun j hj => by cases j <;> first | rfl | exact absurd rfl hj)
            have v11 := v10.trans (u'.mono fun b _ x => Or.inl x)
            have l11 := l10.upd u' fun b hb ⟨k, e⟩ => d8 b hb k e
            clear u' cb v10 r10 l10
            generalize hset h10 ⟨d.D .busy, 0, none⟩ (.int .i64 ((sfold γ2.p.u.1).busy - 1)) = h11 at v11 r' l11 ⊢
            have ee : sfold (γ2.p.u.1 ++ [(i, .pushed (valN i k) 0)]) = _ := sfold_snoc.trans sstep_in
            have T5 := sput E.hD T3 (a := .pushed (valN i k) 0) (m' := (s8, γ2.p.u.2.2)) v11 (by rw [ee]; exact r') (by rw [ee]; exact I3.key) (by rw [ee]; dsimp only; rw [List.length_append, List.map_append]; exact l11) n8
            have a5 := stells a3 T5
            (repeat (first | refine EK.region ?_ | refine ER.done ?_ | refine EK.inBlock ?_ | refine ER.move rfl rfl rfl ?_ | refine ER.assign rfl rfl rfl ?_ | refine ER.add (kd := .i64) rfl rfl rfl rfl (i64_in (by omega) (by omega)) ?_))
            exact EK.back (again (γ2, (γ2.p.u.1 ++ [(i, .pushed (valN i k) 0)], (s8, γ2.p.u.2.2)), k + 1) _ _ (by dsimp only; omega) ⟨rfl, by dsimp only; exact a5, al2, by dsimp only; omega⟩) ⟨rfl, rfl, rfl, rfl, rfl, rfl, rfl, rfl, rfl, rfl, trivial⟩
          · skip
            (repeat (first | refine EK.seq ?_ | refine EK.region ?_ | refine ER.done ?_ | refine ER.move rfl rfl rfl ?_ | refine ER.no rfl rfl ?_ | refine ER.pickT rfl rfl rfl rfl ?_ | refine ER.pickF rfl rfl rfl rfl ?_ | refine ER.cmpF rfl rfl rfl rfl rfl (by first | (dsimp only [cmpP]; omega) | exact rfl | exact Int.le_refl _) ?_ | refine ER.load1 rfl rfl rfl (by assumption) ?_))
            refine ER.store1 (v := (.bool false)) rfl rfl rfl ⟨nofun, nofun⟩ ⟨_, scell r9 .wrong rfl rfl⟩ (sfroz r9 .wrong rfl) (hS .wrong _) ?_
            have u' := Upd.hset (T := fun b => ∃ k, b = d.D k) h9 ⟨d.D .wrong, 0, none⟩ (.bool false) ⟨_, rfl⟩
            have r' := swrite r9 .wrong rfl 0 (.bool false) (q' := { QS.of (sfold γ2.p.u.1) γ2.p.u.2 with stk := s8 }) rfl (fun j hj => by cases j <;> first | rfl | exact absurd rfl hj)
            have v10 := v9.trans (u'.mono fun b _ x => Or.inl x)
            have r10 := r'
            have l10 := l9.upd u' fun b hb ⟨k, e⟩ => d8 b hb k e
            clear u' r' cw cg c0
            generalize hset h9 ⟨d.D .wrong, 0, none⟩ (.bool false) = h10 at v10 r10 l10 ⊢
            have cb : hcell h10 ⟨d.D .busy, 0, none⟩ = some (.int .i64 (sfold γ2.p.u.1).busy) := scell r10 .busy rfl (i := 0) rfl
            (repeat (first | refine EK.seq ?_ | refine EK.region ?_ | refine ER.done ?_ | refine EK.skip ?_ | refine ER.move rfl rfl rfl ?_ | refine ER.cmpF rfl rfl rfl rfl rfl (by first | (dsimp only [cmpP]; omega) | exact rfl | exact Int.le_refl _) ?_ | refine ER.sub' (kd := .i64) rfl rfl rfl rfl (i64_in (by omega) (by omega)) ?_ | refine EK.condF rfl ?_ | refine ER.load1 rfl rfl rfl (by assumption) ?_))
            refine ER.store1 (v := (.int .i64 ((sfold γ2.p.u.1).busy - 1))) rfl rfl rfl ⟨nofun, nofun⟩ ⟨_, scell r10 .busy rfl rfl⟩ (sfroz r10 .busy rfl) (hS .busy _) ?_
            have u' := Upd.hset (T := fun b => ∃ k, b = d.D k) h10 ⟨d.D .busy, 0, none⟩ (.int .i64 ((sfold γ2.p.u.1).busy - 1)) ⟨_, rfl⟩
            have r' := swrite r10 .busy rfl 0 (.int .i64 ((sfold γ2.p.u.1).busy - 1)) (q' := { QS.of (sfold γ2.p.u.1) γ2.p.u.2 with stk := s8, busy := (sfold γ2.p.u.1).busy - 1 }) rfl (fun j hj => by cases j <;> first | rfl | exact absurd rfl hj)
            have v11 := v10.trans (u'.mono fun b _ x => Or.inl x)
            have l11 := l10.upd u' fun b hb ⟨k, e⟩ => d8 b hb k e
            clear u' cb v10 r10 l10
            generalize hset h10 ⟨d.D .busy, 0, none⟩ (.int .i64 ((sfold γ2.p.u.1).busy - 1)) = h11 at v11 r' l11 ⊢
            have ee : sfold (γ2.p.u.1 ++ [(i, .pushed (valN i k) 0)]) = _ := sfold_snoc.trans sstep_in
            have T5 := sput E.hD T3 (a := .pushed (valN i k) 0) (m' := (s8, γ2.p.u.2.2)) v11 (by rw [ee]; exact r') (by rw [ee]; exact I3.key) (by rw [ee]; dsimp only; rw [List.length_append, List.map_append]; exact l11) n8
            have a5 := stells a3 T5
            (repeat (first | refine EK.region ?_ | refine ER.done ?_ | refine EK.inBlock ?_ | refine ER.move rfl rfl rfl ?_ | refine ER.assign rfl rfl rfl ?_ | refine ER.add (kd := .i64) rfl rfl rfl rfl (i64_in (by omega) (by omega)) ?_))
            exact EK.back (again (γ2, (γ2.p.u.1 ++ [(i, .pushed (valN i k) 0)], (s8, γ2.p.u.2.2)), k + 1) _ _ (by dsimp only; omega) ⟨rfl, by dsimp only; exact a5, al2, by dsimp only; omega⟩) ⟨rfl, rfl, rfl, rfl, rfl, rfl, rfl, rfl, rfl, rfl, trivial⟩
      · have ct := (E.now I3.old).t
        (repeat (first | refine EK.seq ?_ | refine EK.region ?_ | refine ER.done ?_ | refine ER.move rfl rfl rfl ?_ | refine ER.assign rfl rfl rfl ?_ | refine ER.cmpT rfl rfl rfl rfl rfl (by first | (dsimp only [cmpP]; omega) | exact rfl | exact Int.le_refl _) ?_ | refine EK.condT rfl ?_ | refine ER.load1 rfl rfl rfl (by assumption) ?_))
        refine ER.delI (z := valN i k) rfl rfl rfl (smap I3.rep) I3.key hin ?_
        obtain ⟨es6, he6⟩ : ∃ x, x = γ2.p.u.2.2.1.eraseIdxIfInBounds ((sfold γ2.p.u.1).there.idxOf (valN i k)) := ⟨_, rfl⟩
        have key6 : KeyI es6 ((sfold γ2.p.u.1).there.erase (valN i k)) := by rw [he6]; exact I3.key.erase _ hin
        have u6 := Upd.set (T := fun b => ∃ k, b = d.D k) h5 (d.D .map) (.map es6 γ2.p.u.2.2.2) ⟨_, rfl⟩
        have r6 := swriteM I3.rep es6 γ2.p.u.2.2.2
        have l6 := I3.sl.upd u6 fun b hb ⟨k, e⟩ => (I3.new b hb).2.2 k e
        change ER _ _ _ _ _ _ _ _ _ _ (h5.setIfInBounds (d.D .map) (.map (γ2.p.u.2.2.1.eraseIdxIfInBounds ((sfold γ2.p.u.1).there.idxOf (valN i k))) γ2.p.u.2.2.2)) _ _
        rw [<- he6]
        clear he6 ct
        generalize h5.setIfInBounds (d.D .map) (.map es6 γ2.p.u.2.2.2) = h6 at u6 r6 l6 ⊢
        obtain ⟨aS, kS, eS⟩ := l6.val
        have cs : hcell h6 ⟨d.D .stk, 0, none⟩ = some (.slice aS (sfold γ2.p.u.1).last.length kS) := by rw [<- eS]; exact scell r6 .stk rfl (i := 0) rfl
        (repeat (first | refine EK.seq ?_ | refine EK.region ?_ | refine ER.done ?_ | refine ER.move rfl rfl rfl ?_ | refine ER.load1 rfl rfl rfl (by assumption) ?_))
        refine ER.slice1 (sz := 1) (z := .int .i64 0) (cells := #[.int .i64 (valN i k)]) rfl rfl rfl (by omega) (by omega) (by rfl) rfl ?_
        have u7 := u6.trans (Upd.push (T := fun b => ∃ k, b = d.D k) h6 (.cells #[.int .i64 (valN i k)] 2))
        have r7 := r6.upd0 (Upd.push (T := fun _ => False) h6 (.cells #[.int .i64 (valN i k)] 2))
        have l7 := l6.upd (Upd.push (T := fun _ => False) h6 (.cells #[.int .i64 (valN i k)] 2)) (fun _ _ x => x)
        rw [eS] at l7
        refine ER.append1 (new := [.int .i64 (valN i k)]) rfl rfl rfl rfl l7 (get_push_new _ _) rfl (by simp [OneCell]) (by omega) (by omega) (by rfl) (fun b o hb => T3.free (.inl (.inr (.inr ⟨(I3.new b (by rw [eS]; exact hb)).2.1, by rw [eS]; exact hb⟩)))) ?_
        clear cs r6 u6
        generalize h6.push (.cells #[.int .i64 (valN i k)] 2) = h7 at u7 r7 l7 ⊢
        intro s8 h8 l8 u8 hb8
        rw [<- eS] at u8 hb8
        have r8 := r7.upd u8 fun k _ hk => (I3.new _ hk).2.2 k rfl
        have v8 : Upd (fun b => (∃ k, b = d.D k) \/ blk γ2.p.u.2.1 = some b) h5 h8 := (u7.mono fun b _ x => .inl x).trans (u8.mono fun b _ x => .inr x)
        obtain ⟨a8, k8, e8⟩ := l8.val
        refine ER.store1 (v := s8) rfl rfl rfl (by rw [e8]; exact ⟨nofun, nofun⟩) ⟨_, scell r8 .stk rfl rfl⟩ (sfroz r8 .stk rfl) (hS .stk _) ?_
        have u9 := Upd.hset (T := fun b => ∃ k, b = d.D k) h8 ⟨d.D .stk, 0, none⟩ s8 ⟨_, rfl⟩
        have r9 := swrite r8 .stk rfl 0 s8 (q' := { QS.of (sfold γ2.p.u.1) γ2.p.u.2 with stk := s8, es := es6 }) rfl (fun j hj => by cases j <;> first | rfl | exact absurd rfl hj)
        have hb7 : h5.size <= h7.size := u7.size
        have n8 : ∀ b, blk s8 = some b -> blk γ2.p.u.2.1 = some b \/ h5.size <= b := fun b hb => (hb8 b hb).imp id fun e => by omega
        have d8 : ∀ b, blk s8 = some b -> ∀ k, b ≠ d.D k := fun b hb k e => by
          rcases n8 b hb with y | y
          · exact (I3.new b y).2.2 k e
          · have := I3.rep.lt (k := k) trivial
            change d.D k < _ at this
            omega
        have l9 := l8.upd u9 fun b hb ⟨k, e⟩ => d8 b hb k e
        have v9 := v8.trans (u9.mono fun b _ x => Or.inl x)
        clear u7 r7 l7 u8 hb8 r8 v8 l8 u9
        generalize hset h8 ⟨d.D .stk, 0, none⟩ s8 = h9 at r9 l9 v9 ⊢
        have N9 := E.now (skeep I3 v9)
        have cw : hcell h9 ⟨d.D .wrong, 0, none⟩ = some (.bool false) := scell r9 .wrong rfl (i := 0) rfl
        have cg : hcell h9 ⟨d.D .begun, 0, none⟩ = some (.int .i64 (sfold γ2.p.u.1).begun) := scell r9 .begun rfl (i := 0) rfl
        have c0 : hcell h9 ⟨bp, 0, none⟩ = some (.int .i64 d.c.n) := hcell_of N9.p rfl
        cases bA with
        | false =>
          (repeat (first | refine EK.seq ?_ | refine EK.region ?_ | refine ER.done ?_ | refine ER.move rfl rfl rfl ?_ | refine ER.no rfl rfl ?_ | refine ER.pickT rfl rfl rfl rfl ?_ | refine ER.pickF rfl rfl rfl rfl ?_ | refine ER.cmpT rfl rfl rfl rfl rfl (by first | (dsimp only [cmpP]; omega) | exact rfl | exact Int.le_refl _) ?_ | refine ER.cmpF rfl rfl rfl rfl rfl (by first | (dsimp only [cmpP]; omega) | exact rfl | exact Int.le_refl _) ?_ | refine ER.load1 rfl rfl rfl (by assumption) ?_))
          refine ER.store1 (v := (.bool false)) rfl rfl rfl ⟨nofun, nofun⟩ ⟨_, scell r9 .wrong rfl rfl⟩ (sfroz r9 .wrong rfl) (hS .wrong _) ?_
          have u' := Upd.hset (T := fun b => ∃ k, b = d.D k) h9 ⟨d.D .wrong, 0, none⟩ (.bool false) ⟨_, rfl⟩
          have r' := swrite r9 .wrong rfl 0 (.bool false) (q' := { QS.of (sfold γ2.p.u.1) γ2.p.u.2 with stk := s8, es := es6 }) rfl (fun j hj => by cases j <;> first | rfl | exact absurd rfl hj)
          have v10 := v9.trans (u'.mono fun b _ x => Or.inl x)
          have r10 := r'
          have l10 := l9.upd u' fun b hb ⟨k, e⟩ => d8 b hb k e
          clear u' r' cw cg c0
          generalize hset h9 ⟨d.D .wrong, 0, none⟩ (.bool false) = h10 at v10 r10 l10 ⊢
          obtain ⟨bC, kC, eC, hC, lC⟩ := slice_cut l10
          have cs : hcell h10 ⟨d.D .stk, 0, none⟩ = some (.slice (some ⟨bC, 0, none⟩) ((sfold γ2.p.u.1).last.length + 1) kC) := by rw [<- eC]; exact scell r10 .stk rfl (i := 0) rfl
          (repeat (first | refine EK.seq ?_ | refine EK.region ?_ | refine ER.done ?_ | refine ER.move rfl rfl rfl ?_ | refine ER.cmpT rfl rfl rfl rfl rfl (by first | (dsimp only [cmpP]; omega) | exact rfl | exact Int.le_refl _) ?_ | refine ER.sub' (kd := .i64) rfl rfl rfl rfl (i64_in (by omega) (by omega)) ?_ | refine ER.len1 rfl rfl rfl ?_ | refine EK.condT rfl ?_ | refine ER.load1 rfl rfl rfl (by assumption) ?_))
          refine ER.sliceTo (hi := (sfold γ2.p.u.1).last.length) rfl rfl rfl (by show some (Value.int .i64 ((((sfold γ2.p.u.1).last.length + 1 : Nat) : Int) - 1)) = _; rw [show ((((sfold γ2.p.u.1).last.length + 1 : Nat) : Int) - 1) = ((sfold γ2.p.u.1).last.length : Int) by omega]) (by omega) ?_
          rw [if_neg (by omega)]
          refine ER.store1 (v := (.slice (some ⟨bC, 0, none⟩) (sfold γ2.p.u.1).last.length kC)) rfl rfl rfl ⟨nofun, nofun⟩ ⟨_, scell r10 .stk rfl rfl⟩ (sfroz r10 .stk rfl) (hS .stk _) ?_
          have u' := Upd.hset (T := fun b => ∃ k, b = d.D k) h10 ⟨d.D .stk, 0, none⟩ (.slice (some ⟨bC, 0, none⟩) (sfold γ2.p.u.1).last.length kC) ⟨_, rfl⟩
          have r' := swrite r10 .stk rfl 0 (.slice (some ⟨bC, 0, none⟩) (sfold γ2.p.u.1).last.length kC) (q' := { QS.of (sfold γ2.p.u.1) γ2.p.u.2 with stk := .slice (some ⟨bC, 0, none⟩) (sfold γ2.p.u.1).last.length kC, es := es6 }) rfl (fun j hj => by cases j <;> first | rfl | exact absurd rfl hj)
          have v11 := v10.trans (u'.mono fun b _ x => Or.inl x)
          have r11 := r'
          have dC : ∀ b, blk (.slice (some ⟨bC, 0, none⟩) (sfold γ2.p.u.1).last.length kC) = some b -> blk s8 = some b := fun b hb => by rw [eC]; exact hb
          have l11 := lC.upd u' fun b hb ⟨k, e⟩ => d8 b (dC b hb) k e
          clear u' r' cs v10 r10 l10 lC
          generalize hset h10 ⟨d.D .stk, 0, none⟩ (.slice (some ⟨bC, 0, none⟩) (sfold γ2.p.u.1).last.length kC) = h11 at v11 r11 l11 ⊢
          have cb : hcell h11 ⟨d.D .busy, 0, none⟩ = some (.int .i64 (sfold γ2.p.u.1).busy) := scell r11 .busy rfl (i := 0) rfl
          (repeat (first | refine EK.region ?_ | refine ER.done ?_ | refine ER.sub' (kd := .i64) rfl rfl rfl rfl (i64_in (by omega) (by omega)) ?_ | refine ER.load1 rfl rfl rfl (by assumption) ?_))
          refine ER.store1 (v := (.int .i64 ((sfold γ2.p.u.1).busy - 1))) rfl rfl rfl ⟨nofun, nofun⟩ ⟨_, scell r11 .busy rfl rfl⟩ (sfroz r11 .busy rfl) (hS .busy _) ?_
          have u' := Upd.hset (T := fun b => ∃ k, b = d.D k) h11 ⟨d.D .busy, 0, none⟩ (.int .i64 ((sfold γ2.p.u.1).busy - 1)) ⟨_, rfl⟩
          have r' := swrite r11 .busy rfl 0 (.int .i64 ((sfold γ2.p.u.1).busy - 1)) (q' := { QS.of (sfold γ2.p.u.1) γ2.p.u.2 with stk := .slice (some ⟨bC, 0, none⟩) (sfold γ2.p.u.1).last.length kC, es := es6, busy := (sfold γ2.p.u.1).busy - 1 }) rfl (fun j hj => by cases j <;> first | rfl | exact absurd rfl hj)
          have v12 := v11.trans (u'.mono fun b _ x => Or.inl x)
          have l12 := l11.upd u' fun b hb ⟨k, e⟩ => d8 b (dC b hb) k e
          clear u' cb v11 r11 l11
          generalize hset h11 ⟨d.D .busy, 0, none⟩ (.int .i64 ((sfold γ2.p.u.1).busy - 1)) = h12 at v12 r' l12 ⊢
          have ee : sfold (γ2.p.u.1 ++ [(i, .pushed (valN i k) 12)]) = _ := sfold_snoc.trans sstep_full
          have T5 := sput E.hD T3 (a := .pushed (valN i k) 12) (m' := (.slice (some ⟨bC, 0, none⟩) (sfold γ2.p.u.1).last.length kC, es6, γ2.p.u.2.2.2)) v12 (by rw [ee]; exact r') (by rw [ee]; exact key6) (by rw [ee]; exact l12) (fun b hb => n8 b (dC b hb))
          have a5 := stells a3 T5
          (repeat (first | refine EK.region ?_ | refine ER.done ?_ | refine EK.inBlock ?_ | refine ER.move rfl rfl rfl ?_ | refine ER.assign rfl rfl rfl ?_ | refine ER.add (kd := .i64) rfl rfl rfl rfl (i64_in (by omega) (by omega)) ?_))
          exact EK.back (again (γ2, (γ2.p.u.1 ++ [(i, .pushed (valN i k) 12)], (.slice (some ⟨bC, 0, none⟩) (sfold γ2.p.u.1).last.length kC, es6, γ2.p.u.2.2.2)), k + 1) _ _ (by dsimp only; omega) ⟨rfl, by dsimp only; exact a5, al2, by dsimp only; omega⟩) ⟨rfl, rfl, rfl, rfl, rfl, rfl, rfl, rfl, rfl, rfl, trivial⟩
        | true =>
          by_cases hat : (sfold γ2.p.u.1).begun = G0 + 1
          · have hfit : ¬ ((W0 : Int) < d.c.n) := fun x => by have := (hal rfl hat.symm).2 x; omega
            (repeat (first | refine EK.seq ?_ | refine EK.region ?_ | refine ER.done ?_ | refine ER.move rfl rfl rfl ?_ | refine ER.fieldAddr rfl rfl rfl ?_ | refine ER.neqV rfl rfl rfl rfl rfl ?_ | refine ER.pickT rfl rfl rfl rfl ?_ | refine ER.pickF rfl rfl rfl rfl ?_ | refine ER.cmpT rfl rfl rfl rfl rfl (by first | (dsimp only [cmpP]; omega) | exact rfl | exact Int.le_refl _) ?_ | refine ER.cmpF rfl rfl rfl rfl rfl (by first | (dsimp only [cmpP]; omega) | exact rfl | exact Int.le_refl _) ?_ | refine ER.load1 rfl rfl rfl (by assumption) ?_))
            refine ER.store1 (v := (.bool false)) rfl rfl rfl ⟨nofun, nofun⟩ ⟨_, scell r9 .wrong rfl rfl⟩ (sfroz r9 .wrong rfl) (hS .wrong _) ?_
            have u' := Upd.hset (T := fun b => ∃ k, b = d.D k) h9 ⟨d.D .wrong, 0, none⟩ (.bool false) ⟨_, rfl⟩
            have r' := swrite r9 .wrong rfl 0 (.bool false) (q' := { QS.of (sfold γ2.p.u.1) γ2.p.u.2 with stk := s8, es := es6 }) rfl (fun j hj => by cases j <;> first | rfl | exact absurd rfl hj)
            have v10 := v9.trans (u'.mono fun b _ x => Or.inl x)
            have r10 := r'
            have l10 := l9.upd u' fun b hb ⟨k, e⟩ => d8 b hb k e
            clear u' r' cw cg c0
            generalize hset h9 ⟨d.D .wrong, 0, none⟩ (.bool false) = h10 at v10 r10 l10 ⊢
            obtain ⟨bC, kC, eC, hC, lC⟩ := slice_cut l10
            have cs : hcell h10 ⟨d.D .stk, 0, none⟩ = some (.slice (some ⟨bC, 0, none⟩) ((sfold γ2.p.u.1).last.length + 1) kC) := by rw [<- eC]; exact scell r10 .stk rfl (i := 0) rfl
            (repeat (first | refine EK.seq ?_ | refine EK.region ?_ | refine ER.done ?_ | refine ER.move rfl rfl rfl ?_ | refine ER.cmpT rfl rfl rfl rfl rfl (by first | (dsimp only [cmpP]; omega) | exact rfl | exact Int.le_refl _) ?_ | refine ER.sub' (kd := .i64) rfl rfl rfl rfl (i64_in (by omega) (by omega)) ?_ | refine ER.len1 rfl rfl rfl ?_ | refine EK.condT rfl ?_ | refine ER.load1 rfl rfl rfl (by assumption) ?_))
            refine ER.sliceTo (hi := (sfold γ2.p.u.1).last.length) rfl rfl rfl (by show some (Value.int .i64 ((((sfold γ2.p.u.1).last.length + 1 : Nat) : Int) - 1)) = _; rw [show ((((sfold γ2.p.u.1).last.length + 1 : Nat) : Int) - 1) = ((sfold γ2.p.u.1).last.length : Int) by omega]) (by omega) ?_
            rw [if_neg (by omega)]
            refine ER.store1 (v := (.slice (some ⟨bC, 0, none⟩) (sfold γ2.p.u.1).last.length kC)) rfl rfl rfl ⟨nofun, nofun⟩ ⟨_, scell r10 .stk rfl rfl⟩ (sfroz r10 .stk rfl) (hS .stk _) ?_
            have u' := Upd.hset (T := fun b => ∃ k, b = d.D k) h10 ⟨d.D .stk, 0, none⟩ (.slice (some ⟨bC, 0, none⟩) (sfold γ2.p.u.1).last.length kC) ⟨_, rfl⟩
            have r' := swrite r10 .stk rfl 0 (.slice (some ⟨bC, 0, none⟩) (sfold γ2.p.u.1).last.length kC) (q' := { QS.of (sfold γ2.p.u.1) γ2.p.u.2 with stk := .slice (some ⟨bC, 0, none⟩) (sfold γ2.p.u.1).last.length kC, es := es6 }) rfl (fun j hj => by cases j <;> first | rfl | exact absurd rfl hj)
            have v11 := v10.trans (u'.mono fun b _ x => Or.inl x)
            have r11 := r'
            have dC : ∀ b, blk (.slice (some ⟨bC, 0, none⟩) (sfold γ2.p.u.1).last.length kC) = some b -> blk s8 = some b := fun b hb => by rw [eC]; exact hb
            have l11 := lC.upd u' fun b hb ⟨k, e⟩ => d8 b (dC b hb) k e
            clear u' r' cs v10 r10 l10 lC
            generalize hset h10 ⟨d.D .stk, 0, none⟩ (.slice (some ⟨bC, 0, none⟩) (sfold γ2.p.u.1).last.length kC) = h11 at v11 r11 l11 ⊢
            have cb : hcell h11 ⟨d.D .busy, 0, none⟩ = some (.int .i64 (sfold γ2.p.u.1).busy) := scell r11 .busy rfl (i := 0) rfl
            (repeat (first | refine EK.region ?_ | refine ER.done ?_ | refine ER.sub' (kd := .i64) rfl rfl rfl rfl (i64_in (by omega) (by omega)) ?_ | refine ER.load1 rfl rfl rfl (by assumption) ?_))
            refine ER.store1 (v := (.int .i64 ((sfold γ2.p.u.1).busy - 1))) rfl rfl rfl ⟨nofun, nofun⟩ ⟨_, scell r11 .busy rfl rfl⟩ (sfroz r11 .busy rfl) (hS .busy _) ?_
            have u' := Upd.hset (T := fun b => ∃ k, b = d.D k) h11 ⟨d.D .busy, 0, none⟩ (.int .i64 ((sfold γ2.p.u.1).busy - 1)) ⟨_, rfl⟩
            have r' := swrite r11 .busy rfl 0 (.int .i64 ((sfold γ2.p.u.1).busy - 1)) (q' := { QS.of (sfold γ2.p.u.1) γ2.p.u.2 with stk := .slice (some ⟨bC, 0, none⟩) (sfold γ2.p.u.1).last.length kC, es := es6, busy := (sfold γ2.p.u.1).busy - 1 }) rfl (fun j hj => by cases j <;> first | rfl | exact absurd rfl hj)
            have v12 := v11.trans (u'.mono fun b _ x => Or.inl x)
            have l12 := l11.upd u' fun b hb ⟨k, e⟩ => d8 b (dC b hb) k e
            clear u' cb v11 r11 l11
            generalize hset h11 ⟨d.D .busy, 0, none⟩ (.int .i64 ((sfold γ2.p.u.1).busy - 1)) = h12 at v12 r' l12 ⊢
            have ee : sfold (γ2.p.u.1 ++ [(i, .pushed (valN i k) 12)]) = _ := sfold_snoc.trans sstep_full
            have T5 := sput E.hD T3 (a := .pushed (valN i k) 12) (m' := (.slice (some ⟨bC, 0, none⟩) (sfold γ2.p.u.1).last.length kC, es6, γ2.p.u.2.2.2)) v12 (by rw [ee]; exact r') (by rw [ee]; exact key6) (by rw [ee]; exact l12) (fun b hb => n8 b (dC b hb))
            have a5 := stells a3 T5
            (repeat (first | refine EK.region ?_ | refine ER.done ?_ | refine EK.inBlock ?_ | refine ER.move rfl rfl rfl ?_ | refine ER.assign rfl rfl rfl ?_ | refine ER.add (kd := .i64) rfl rfl rfl rfl (i64_in (by omega) (by omega)) ?_))
            exact EK.back (again (γ2, (γ2.p.u.1 ++ [(i, .pushed (valN i k) 12)], (.slice (some ⟨bC, 0, none⟩) (sfold γ2.p.u.1).last.length kC, es6, γ2.p.u.2.2.2)), k + 1) _ _ (by dsimp only; omega) ⟨rfl, by dsimp only; exact a5, al2, by dsimp only; omega⟩) ⟨rfl, rfl, rfl, rfl, rfl, rfl, rfl, rfl, rfl, rfl, trivial⟩
          · skip
            (repeat (first | refine EK.seq ?_ | refine EK.region ?_ | refine ER.done ?_ | refine ER.move rfl rfl rfl ?_ | refine ER.no rfl rfl ?_ | refine ER.pickT rfl rfl rfl rfl ?_ | refine ER.pickF rfl rfl rfl rfl ?_ | refine ER.cmpT rfl rfl rfl rfl rfl (by first | (dsimp only [cmpP]; omega) | exact rfl | exact Int.le_refl _) ?_ | refine ER.cmpF rfl rfl rfl rfl rfl (by first | (dsimp only [cmpP]; omega) | exact rfl | exact Int.le_refl _) ?_ | refine ER.load1 rfl rfl rfl (by assumption) ?_))
            refine ER.store1 (v := (.bool false)) rfl rfl rfl ⟨nofun, nofun⟩ ⟨_, scell r9 .wrong rfl rfl⟩ (sfroz r9 .wrong rfl) (hS .wrong _) ?_
            have u' := Upd.hset (T := fun b => ∃ k, b = d.D k) h9 ⟨d.D .wrong, 0, none⟩ (.bool false) ⟨_, rfl⟩
            have r' := swrite r9 .wrong rfl 0 (.bool false) (q' := { QS.of (sfold γ2.p.u.1) γ2.p.u.2 with stk := s8, es := es6 }) rfl (fun j hj => by cases j <;> first | rfl | exact absurd rfl hj)
            have v10 := v9.trans (u'.mono fun b _ x => Or.inl x)
            have r10 := r'
            have l10 := l9.upd u' fun b hb ⟨k, e⟩ => d8 b hb k e
            clear u' r' cw cg c0
            generalize hset h9 ⟨d.D .wrong, 0, none⟩ (.bool false) = h10 at v10 r10 l10 ⊢
            obtain ⟨bC, kC, eC, hC, lC⟩ := slice_cut l10
            have cs : hcell h10 ⟨d.D .stk, 0, none⟩ = some (.slice (some ⟨bC, 0, none⟩) ((sfold γ2.p.u.1).last.length + 1) kC) := by rw [<- eC]; exact scell r10 .stk rfl (i := 0) rfl
            (repeat (first | refine EK.seq ?_ | refine EK.region ?_ | refine ER.done ?_ | refine ER.move rfl rfl rfl ?_ | refine ER.cmpT rfl rfl rfl rfl rfl (by first | (dsimp only [cmpP]; omega) | exact rfl | exact Int.le_refl _) ?_ | refine ER.sub' (kd := .i64) rfl rfl rfl rfl (i64_in (by omega) (by omega)) ?_ | refine ER.len1 rfl rfl rfl ?_ | refine EK.condT rfl ?_ | refine ER.load1 rfl rfl rfl (by assumption) ?_))
            refine ER.sliceTo (hi := (sfold γ2.p.u.1).last.length) rfl rfl rfl (by show some (Value.int .i64 ((((sfold γ2.p.u.1).last.length + 1 : Nat) : Int) - 1)) = _; rw [show ((((sfold γ2.p.u.1).last.length + 1 : Nat) : Int) - 1) = ((sfold γ2.p.u.1).last.length : Int) by omega]) (by omega) ?_
            rw [if_neg (by omega)]
            refine ER.store1 (v := (.slice (some ⟨bC, 0, none⟩) (sfold γ2.p.u.1).last.length kC)) rfl rfl rfl ⟨nofun, nofun⟩ ⟨_, scell r10 .stk rfl rfl⟩ (sfroz r10 .stk rfl) (hS .stk _) ?_
            have u' := Upd.hset (T := fun b => ∃ k, b = d.D k) h10 ⟨d.D .stk, 0, none⟩ (.slice (some ⟨bC, 0, none⟩) (sfold γ2.p.u.1).last.length kC) ⟨_, rfl⟩
            have r' := swrite r10 .stk rfl 0 (.slice (some ⟨bC, 0, none⟩) (sfold γ2.p.u.1).last.length kC) (q' := { QS.of (sfold γ2.p.u.1) γ2.p.u.2 with stk := .slice (some ⟨bC, 0, none⟩) (sfold γ2.p.u.1).last.length kC, es := es6 }) rfl (fun j hj => by cases j <;> first | rfl | exact absurd rfl hj)
            have v11 := v10.trans (u'.mono fun b _ x => Or.inl x)
            have r11 := r'
            have dC : ∀ b, blk (.slice (some ⟨bC, 0, none⟩) (sfold γ2.p.u.1).last.length kC) = some b -> blk s8 = some b := fun b hb => by rw [eC]; exact hb
            have l11 := lC.upd u' fun b hb ⟨k, e⟩ => d8 b (dC b hb) k e
            clear u' r' cs v10 r10 l10 lC
            generalize hset h10 ⟨d.D .stk, 0, none⟩ (.slice (some ⟨bC, 0, none⟩) (sfold γ2.p.u.1).last.length kC) = h11 at v11 r11 l11 ⊢
            have cb : hcell h11 ⟨d.D .busy, 0, none⟩ = some (.int .i64 (sfold γ2.p.u.1).busy) := scell r11 .busy rfl (i := 0) rfl
            (repeat (first | refine EK.region ?_ | refine ER.done ?_ | refine ER.sub' (kd := .i64) rfl rfl rfl rfl (i64_in (by omega) (by omega)) ?_ | refine ER.load1 rfl rfl rfl (by assumption) ?_))
            refine ER.store1 (v := (.int .i64 ((sfold γ2.p.u.1).busy - 1))) rfl rfl rfl ⟨nofun, nofun⟩ ⟨_, scell r11 .busy rfl rfl⟩ (sfroz r11 .busy rfl) (hS .busy _) ?_
            have u' := Upd.hset (T := fun b => ∃ k, b = d.D k) h11 ⟨d.D .busy, 0, none⟩ (.int .i64 ((sfold γ2.p.u.1).busy - 1)) ⟨_, rfl⟩
            have r' := swrite r11 .busy rfl 0 (.int .i64 ((sfold γ2.p.u.1).busy - 1)) (q' := { QS.of (sfold γ2.p.u.1) γ2.p.u.2 with stk := .slice (some ⟨bC, 0, none⟩) (sfold γ2.p.u.1).last.length kC, es := es6, busy := (sfold γ2.p.u.1).busy - 1 }) rfl (fun j hj => by cases j <;> first | rfl | exact absurd rfl hj)
            have v12 := v11.trans (u'.mono fun b _ x => Or.inl x)
            have l12 := l11.upd u' fun b hb ⟨k, e⟩ => d8 b (dC b hb) k e
            clear u' cb v11 r11 l11
            generalize hset h11 ⟨d.D .busy, 0, none⟩ (.int .i64 ((sfold γ2.p.u.1).busy - 1)) = h12 at v12 r' l12 ⊢
            have ee : sfold (γ2.p.u.1 ++ [(i, .pushed (valN i k) 12)]) = _ := sfold_snoc.trans sstep_full
            have T5 := sput E.hD T3 (a := .pushed (valN i k) 12) (m' := (.slice (some ⟨bC, 0, none⟩) (sfold γ2.p.u.1).last.length kC, es6, γ2.p.u.2.2.2)) v12 (by rw [ee]; exact r') (by rw [ee]; exact key6) (by rw [ee]; exact l12) (fun b hb => n8 b (dC b hb))
            have a5 := stells a3 T5
            (repeat (first | refine EK.region ?_ | refine ER.done ?_ | refine EK.inBlock ?_ | refine ER.move rfl rfl rfl ?_ | refine ER.assign rfl rfl rfl ?_ | refine ER.add (kd := .i64) rfl rfl rfl rfl (i64_in (by omega) (by omega)) ?_))
            exact EK.back (again (γ2, (γ2.p.u.1 ++ [(i, .pushed (valN i k) 12)], (.slice (some ⟨bC, 0, none⟩) (sfold γ2.p.u.1).last.length kC, es6, γ2.p.u.2.2.2)), k + 1) _ _ (by dsimp only; omega) ⟨rfl, by dsimp only; exact a5, al2, by dsimp only; omega⟩) ⟨rfl, rfl, rfl, rfl, rfl, rfl, rfl, rfl, rfl, rfl, trivial⟩
    · rw [decide_eq_false hq] at a1
      have a1' : AtP (XS d) d.c.P (stold d) d.c.n d.c.B i γ1 u1 [] h1 (.emit .bpop (popP d.c.B (fun y is => .emit (.popped y is) (stP d.c.B d.c.F i ((l.drop (k + 1)).map fun q => decide (q.1 = 0)) (k + 1))) d.c.F)) := a1
      (repeat (first | refine EK.seq ?_ | refine EK.region ?_ | refine ER.done ?_ | refine ER.move rfl rfl rfl ?_ | refine ER.assign rfl rfl rfl ?_ | refine ER.fieldAddr rfl rfl rfl ?_ | refine ER.cmpF rfl rfl rfl rfl rfl (by first | (dsimp only [cmpP]; omega) | exact rfl | exact Int.le_refl _) ?_ | refine ER.indexSl rfl rfl rfl rfl (by omega) (by omega) ?_ | refine EK.condF rfl ?_ | refine ER.load1 rfl rfl rfl (by assumption) ?_))
      clear c1 ci cR cQ cb cg cs ct N3 hold3 hv v
      have e1 : sfold (u1.1 ++ [(i, .bpop)]) = _ := sfold_snoc.trans sstep_bpop
      have T2 := sput E.hD T1 (a := .bpop) (m' := u1.2) (u3.mono fun b _ x => .inl x) (by rw [e1]; exact r3) (by rw [e1]; exact I1.key) (by rw [e1]; exact I1.sl.upd u3 fun b hb ⟨k, e⟩ => (I1.new b hb).2.2 k e) (fun b hb => .inl hb)
      have a2 := stells a1' T2
      have w1 : (sfold (u1.1 ++ [(i, .bpop)])).when i = (sfold u1.1).begun + 1 /\ (sfold (u1.1 ++ [(i, .bpop)])).alone i = bA /\ (sfold (u1.1 ++ [(i, .bpop)])).was i = (sfold u1.1).there.length := by
        rw [e1]
        exact ⟨ut_same _ _ _, (ut_same _ _ _).trans hA, ut_same _ _ _⟩
      clear e1 r3 u3 I1 N1 hA T2 a1'
      generalize (sfold u1.1).begun = G0 at w1 ⊢
      generalize (sfold u1.1).there.length = W0 at w1 ⊢
      refine ER.callP rfl rfl rfl rfl rfl (pop_T E.K a2 (by omega) al.tb.symm) (fun _ _ _ x => x.along al) ?_
      rintro _ h5 δ5 ⟨γ2, y, is, rfl, rfl, nx⟩
      have al2 := al.trans nx.al
      have a3 : AtP (XS d) d.c.P (stold d) d.c.n d.c.B i γ2 γ2.p.u [] h5 (.emit (.popped y is) (stP d.c.B d.c.F i ((l.drop (k + 1)).map fun q => decide (q.1 = 0)) (k + 1))) := nx.at_
      have T3 := a3.thr
      have I3 : SMI d γ2.p.u.1 γ2.p.u.2 h5 := T3.I
      clear hS T1 b1 b2 b3 b4 b5 a1
      have hS : ∀ k o, ¬ (SitT Try.prog (PX (XS d)) (i + 1)).still γ2 ⟨d.D k, o, none⟩ := fun k o => T3.free (.inl (.inr (.inl ⟨k, rfl⟩)))
      obtain ⟨hin, hal⟩ := snext' E a3
      obtain ⟨b1, b2, b3, b4, b5⟩ := slawB E a3 (by
        show ((norm (stP d.c.B d.c.F i ((l.drop (k + 1)).map fun q => decide (q.1 = 0)) (k + 1))).1.length + 1) <= 2
        rw [norm_stP]
        exact Nat.succ_le_succ stell_len)
      obtain ⟨w2, w3, w4⟩ : (sfold γ2.p.u.1).when i = G0 + 1 /\ (sfold γ2.p.u.1).alone i = bA /\ (sfold γ2.p.u.1).was i = W0 := by
        obtain ⟨es, he, hes⟩ := nx.V
        have he' : γ2.p.u.1 = (u1.1 ++ [(i, SE.bpop)]) ++ es := he
        obtain ⟨z1, z2, z3⟩ := sfold_other (g := u1.1 ++ [(i, SE.bpop)]) hes
        rw [he']
        exact ⟨z1.trans w1.1, z2.trans w1.2.1, z3.trans w1.2.2⟩
      rw [w2, w3, w4] at hal
      clear w1 w2 w3 w4 a2 nx
      have cw : hcell h5 ⟨d.D .wrong, 0, none⟩ = some (.bool false) := scell I3.rep .wrong rfl (i := 0) rfl
      cases is with
      | false =>
        have cg : hcell h5 ⟨d.D .begun, 0, none⟩ = some (.int .i64 (sfold γ2.p.u.1).begun) := scell I3.rep .begun rfl (i := 0) rfl
        cases bA with
        | false =>
          (repeat (first | refine EK.seq ?_ | refine EK.region ?_ | refine ER.done ?_ | refine EK.skip ?_ | refine ER.move rfl rfl rfl ?_ | refine ER.assign rfl rfl rfl ?_ | refine ER.no rfl rfl ?_ | refine ER.pickF rfl rfl rfl rfl ?_ | refine ER.extract rfl rfl rfl rfl ?_ | refine EK.condF rfl ?_ | refine ER.load1 rfl rfl rfl (by assumption) ?_))
          refine ER.store1 (v := (.bool false)) rfl rfl rfl ⟨nofun, nofun⟩ ⟨_, scell I3.rep .wrong rfl rfl⟩ (sfroz I3.rep .wrong rfl) (hS .wrong _) ?_
          have u' := Upd.hset (T := fun b => ∃ k, b = d.D k) h5 ⟨d.D .wrong, 0, none⟩ (.bool false) ⟨_, rfl⟩
          have r' := swrite I3.rep .wrong rfl 0 (.bool false) (q' := (QS.of (sfold γ2.p.u.1) γ2.p.u.2)) rfl (fun j hj => by cases j <;> first | rfl | exact absurd rfl hj)
          have u10 := u'
          have r10 := r'
          clear u' r' cw cg
          generalize hset h5 ⟨d.D .wrong, 0, none⟩ (.bool false) = h10 at u10 r10 ⊢
          have cb : hcell h10 ⟨d.D .busy, 0, none⟩ = some (.int .i64 (sfold γ2.p.u.1).busy) := scell r10 .busy rfl (i := 0) rfl
          (repeat (first | refine EK.region ?_ | refine ER.done ?_ | refine ER.sub' (kd := .i64) rfl rfl rfl rfl (i64_in (by omega) (by omega)) ?_ | refine ER.load1 rfl rfl rfl (by assumption) ?_))
          refine ER.store1 (v := (.int .i64 ((sfold γ2.p.u.1).busy - 1))) rfl rfl rfl ⟨nofun, nofun⟩ ⟨_, scell r10 .busy rfl rfl⟩ (sfroz r10 .busy rfl) (hS .busy _) ?_
          have u' := Upd.hset (T := fun b => ∃ k, b = d.D k) h10 ⟨d.D .busy, 0, none⟩ (.int .i64 ((sfold γ2.p.u.1).busy - 1)) ⟨_, rfl⟩
          have r' := swrite r10 .busy rfl 0 (.int .i64 ((sfold γ2.p.u.1).busy - 1)) (q' := { QS.of (sfold γ2.p.u.1) γ2.p.u.2 with busy := (sfold γ2.p.u.1).busy - 1 }) rfl (fun j hj => by cases j <;> first | rfl | exact absurd rfl hj)
          have u11 := u10.trans u'
          clear u' cb u10 r10
          generalize hset h10 ⟨d.D .busy, 0, none⟩ (.int .i64 ((sfold γ2.p.u.1).busy - 1)) = h11 at u11 r' ⊢
          have ee : sfold (γ2.p.u.1 ++ [(i, .popped y false)]) = _ := sfold_snoc.trans sstep_no
          have T5 := sput E.hD T3 (a := .popped y false) (m' := γ2.p.u.2) (u11.mono fun b _ x => .inl x) (by rw [ee]; exact r') (by rw [ee]; exact I3.key) (by rw [ee]; exact I3.sl.upd u11 fun b hb ⟨k, e⟩ => (I3.new b hb).2.2 k e) (fun b hb => .inl hb)
          have a5 := stells a3 T5
          (repeat (first | refine EK.region ?_ | refine ER.done ?_ | refine EK.inBlock ?_ | refine ER.move rfl rfl rfl ?_ | refine ER.assign rfl rfl rfl ?_ | refine ER.add (kd := .i64) rfl rfl rfl rfl (i64_in (by omega) (by omega)) ?_))
          exact EK.back (again (γ2, (γ2.p.u.1 ++ [(i, .popped y false)], γ2.p.u.2), k + 1) _ _ (by dsimp only; omega) ⟨rfl, by dsimp only; exact a5, al2, by dsimp only; omega⟩) ⟨rfl, rfl, rfl, rfl, rfl, rfl, rfl, rfl, rfl, rfl, trivial⟩
        | true =>
          by_cases hat : (sfold γ2.p.u.1).begun = G0 + 1
          · have hfit : ¬ (0 < (W0 : Int)) := fun x => by have := (hal rfl hat.symm).2 x; cases this
            (repeat (first | refine EK.seq ?_ | refine EK.region ?_ | refine ER.done ?_ | refine EK.skip ?_ | refine ER.move rfl rfl rfl ?_ | refine ER.assign rfl rfl rfl ?_ | refine ER.no rfl rfl ?_ | refine ER.neqV rfl rfl rfl rfl rfl ?_ | refine ER.pickT rfl rfl rfl rfl ?_ | refine ER.pickF rfl rfl rfl rfl ?_ | refine ER.extract rfl rfl rfl rfl ?_ | refine ER.cmpT rfl rfl rfl rfl rfl (by first | (dsimp only [cmpP]; omega) | exact rfl | exact Int.le_refl _) ?_ | refine ER.cmpF rfl rfl rfl rfl rfl (by first | (dsimp only [cmpP]; omega) | exact rfl | exact Int.le_refl _) ?_ | refine EK.condF rfl ?_ | refine ER.load1 rfl rfl rfl (by assumption) ?_))
            refine ER.store1 (v := (.bool false)) rfl rfl rfl ⟨nofun, nofun⟩ ⟨_, scell I3.rep .wrong rfl rfl⟩ (sfroz I3.rep .wrong rfl) (hS .wrong _) ?_
            have u' := Upd.hset (T := fun b => ∃ k, b = d.D k) h5 ⟨d.D .wrong, 0, none⟩ (.bool false) ⟨_, rfl⟩
            have r' := swrite I3.rep .wrong rfl 0 (.bool false) (q' := (QS.of (sfold γ2.p.u.1) γ2.p.u.2)) rfl (fun j hj => by cases j <;> first | rfl | exact absurd rfl hj)
            have u10 := u'
            have r10 := r'
            clear u' r' cw cg
            generalize hset h5 ⟨d.D .wrong, 0, none⟩ (.bool false) = h10 at u10 r10 ⊢
            have cb : hcell h10 ⟨d.D .busy, 0, none⟩ = some (.int .i64 (sfold γ2.p.u.1).busy) := scell r10 .busy rfl (i := 0) rfl
            (repeat (first | refine EK.region ?_ | refine ER.done ?_ | refine ER.sub' (kd := .i64) rfl rfl rfl rfl (i64_in (by omega) (by omega)) ?_ | refine ER.load1 rfl rfl rfl (by assumption) ?_))
            refine ER.store1 (v := (.int .i64 ((sfold γ2.p.u.1).busy - 1))) rfl rfl rfl ⟨nofun, nofun⟩ ⟨_, scell r10 .busy rfl rfl⟩ (sfroz r10 .busy rfl) (hS .busy _) ?_
            have u' := Upd.hset (T := fun b => ∃ k, b = d.D k) h10 ⟨d.D .busy, 0, none⟩ (.int .i64 ((sfold γ2.p.u.1).busy - 1)) ⟨_, rfl⟩
            have r' := swrite r10 .busy rfl 0 (.int .i64 ((sfold γ2.p.u.1).busy - 1)) (q' := { QS.of (sfold γ2.p.u.1) γ2.p.u.2 with busy := (sfold γ2.p.u.1).busy - 1 }) rfl (fun j hj => by cases j <;> first | rfl | exact absurd rfl hj)
            have u11 := u10.trans u'
            clear u' cb u10 r10
            generalize hset h10 ⟨d.D .busy, 0, none⟩ (.int .i64 ((sfold γ2.p.u.1).busy - 1)) = h11 at u11 r' ⊢
            have ee : sfold (γ2.p.u.1 ++ [(i, .popped y false)]) = _ := sfold_snoc.trans sstep_no
            have T5 := sput E.hD T3 (a := .popped y false) (m' := γ2.p.u.2) (u11.mono fun b _ x => .inl x) (by rw [ee]; exact r') (by rw [ee]; exact I3.key) (by rw [ee]; exact I3.sl.upd u11 fun b hb ⟨k, e⟩ => (I3.new b hb).2.2 k e) (fun b hb => .inl hb)
            have a5 := stells a3 T5
            (repeat (first | refine EK.region ?_ | refine ER.done ?_ | refine EK.inBlock ?_ | refine ER.move rfl rfl rfl ?_ | refine ER.assign rfl rfl rfl ?_ | refine ER.add (kd := .i64) rfl rfl rfl rfl (i64_in (by omega) (by omega)) ?_))
            exact EK.back (again (γ2, (γ2.p.u.1 ++ [(i, .popped y false)], γ2.p.u.2), k + 1) _ _ (by dsimp only; omega) ⟨rfl, by dsimp only; exact a5, al2, by dsimp only; omega⟩) ⟨rfl, rfl, rfl, rfl, rfl, rfl, rfl, rfl, rfl, rfl, trivial⟩
          · skip
            (repeat (first | refine EK.seq ?_ | refine EK.region ?_ | refine ER.done ?_ | refine EK.skip ?_ | refine ER.move rfl rfl rfl ?_ | refine ER.assign rfl rfl rfl ?_ | refine ER.no rfl rfl ?_ | refine ER.pickT rfl rfl rfl rfl ?_ | refine ER.pickF rfl rfl rfl rfl ?_ | refine ER.extract rfl rfl rfl rfl ?_ | refine ER.cmpF rfl rfl rfl rfl rfl (by first | (dsimp only [cmpP]; omega) | exact rfl | exact Int.le_refl _) ?_ | refine EK.condF rfl ?_ | refine ER.load1 rfl rfl rfl (by assumption) ?_))
            refine ER.store1 (v := (.bool false)) rfl rfl rfl ⟨nofun, nofun⟩ ⟨_, scell I3.rep .wrong rfl rfl⟩ (sfroz I3.rep .wrong rfl) (hS .wrong _) ?_
            have u' := Upd.hset (T := fun b => ∃ k, b = d.D k) h5 ⟨d.D .wrong, 0, none⟩ (.bool false) ⟨_, rfl⟩
            have r' := swrite I3.rep .wrong rfl 0 (.bool false) (q' := (QS.of (sfold γ2.p.u.1) γ2.p.u.2)) rfl (fun j hj => by cases j <;> first | rfl | exact absurd rfl hj)
            have u10 := u'
            have r10 := r'
            clear u' r' cw cg
            generalize hset h5 ⟨d.D .wrong, 0, none⟩ (.bool false) = h10 at u10 r10 ⊢
            have cb : hcell h10 ⟨d.D .busy, 0, none⟩ = some (.int .i64 (sfold γ2.p.u.1).busy) := scell r10 .busy rfl (i := 0) rfl
            (repeat (first | refine EK.region ?_ | refine ER.done ?_ | refine ER.sub' (kd := .i64) rfl rfl rfl rfl (i64_in (by omega) (by omega)) ?_ | refine ER.load1 rfl rfl rfl (by assumption) ?_))
            refine ER.store1 (v := (.int .i64 ((sfold γ2.p.u.1).busy - 1))) rfl rfl rfl ⟨nofun, nofun⟩ ⟨_, scell r10 .busy rfl rfl⟩ (sfroz r10 .busy rfl) (hS .busy _) ?_
            have u' := Upd.hset (T := fun b => ∃ k, b = d.D k) h10 ⟨d.D .busy, 0, none⟩ (.int .i64 ((sfold γ2.p.u.1).busy - 1)) ⟨_, rfl⟩
            have r' := swrite r10 .busy rfl 0 (.int .i64 ((sfold γ2.p.u.1).busy - 1)) (q' := { QS.of (sfold γ2.p.u.1) γ2.p.u.2 with busy := (sfold γ2.p.u.1).busy - 1 }) rfl (fun j hj => by cases j <;> first | rfl | exact absurd rfl hj)
            have u11 := u10.trans u'
            clear u' cb u10 r10
            generalize hset h10 ⟨d.D .busy, 0, none⟩ (.int .i64 ((sfold γ2.p.u.1).busy - 1)) = h11 at u11 r' ⊢
            have ee : sfold (γ2.p.u.1 ++ [(i, .popped y false)]) = _ := sfold_snoc.trans sstep_no
            have T5 := sput E.hD T3 (a := .popped y false) (m' := γ2.p.u.2) (u11.mono fun b _ x => .inl x) (by rw [ee]; exact r') (by rw [ee]; exact I3.key) (by rw [ee]; exact I3.sl.upd u11 fun b hb ⟨k, e⟩ => (I3.new b hb).2.2 k e) (fun b hb => .inl hb)
            have a5 := stells a3 T5
            (repeat (first | refine EK.region ?_ | refine ER.done ?_ | refine EK.inBlock ?_ | refine ER.move rfl rfl rfl ?_ | refine ER.assign rfl rfl rfl ?_ | refine ER.add (kd := .i64) rfl rfl rfl rfl (i64_in (by omega) (by omega)) ?_))
            exact EK.back (again (γ2, (γ2.p.u.1 ++ [(i, .popped y false)], γ2.p.u.2), k + 1) _ _ (by dsimp only; omega) ⟨rfl, by dsimp only; exact a5, al2, by dsimp only; omega⟩) ⟨rfl, rfl, rfl, rfl, rfl, rfl, rfl, rfl, rfl, rfl, trivial⟩
      | true =>
        obtain ⟨hy, hlast⟩ := hin rfl
        rw [hlone] at hlast
        have N5 := E.now I3.old
        have ct := N5.t
        have c1 : hcell h5 ⟨bp, 1, none⟩ = some (.slice (some ⟨bR, oR, none⟩) sc.length kR) := hcell_of N5.p rfl
        clear N5
        rcases List.eq_nil_or_concat (sfold γ2.p.u.1).last with hst | ⟨st, y', hst⟩
        · have hl1 : ¬ sc.length = 1 := fun e => by have := hlast e; rw [hst] at this; cases this
          obtain ⟨aS, kS, eS⟩ := I3.sl.val
          (repeat (first | refine EK.seq ?_ | refine EK.region ?_ | refine ER.done ?_ | refine ER.move rfl rfl rfl ?_ | refine ER.assign rfl rfl rfl ?_ | refine ER.extract rfl rfl rfl rfl ?_ | refine EK.condT rfl ?_ | refine ER.load1 rfl rfl rfl (by assumption) ?_))
          refine ER.lookI (z := y) rfl rfl rfl rfl (smap I3.rep) I3.key hy ?_
          (repeat (first | refine ER.move rfl rfl rfl ?_ | refine ER.fieldAddr rfl rfl rfl ?_ | refine ER.no rfl rfl ?_ | refine ER.pickF rfl rfl rfl rfl ?_ | refine ER.cmpF rfl rfl rfl rfl rfl (by first | (dsimp only [cmpP]; omega) | exact rfl | exact Int.le_refl _) ?_ | refine ER.len1 rfl rfl rfl ?_ | refine ER.load1 rfl rfl rfl (by assumption) ?_))
          refine ER.store1 (v := (.bool false)) rfl rfl rfl ⟨nofun, nofun⟩ ⟨_, scell I3.rep .wrong rfl rfl⟩ (sfroz I3.rep .wrong rfl) (hS .wrong _) ?_
          have u' := Upd.hset (T := fun b => ∃ k, b = d.D k) h5 ⟨d.D .wrong, 0, none⟩ (.bool false) ⟨_, rfl⟩
          have r' := swrite I3.rep .wrong rfl 0 (.bool false) (q' := (QS.of (sfold γ2.p.u.1) γ2.p.u.2)) rfl (fun j hj => by cases j <;> first | rfl | exact absurd rfl hj)
          have u6 := u'
          have r6 := r'
          clear u' r' cw ct c1
          generalize hset h5 ⟨d.D .wrong, 0, none⟩ (.bool false) = h6 at u6 r6 ⊢
          have ct := (E.now (skeep I3 (u6.mono fun b _ x => .inl x))).t
          (repeat (first | refine EK.region ?_ | refine ER.done ?_ | refine ER.move rfl rfl rfl ?_ | refine ER.load1 rfl rfl rfl (by assumption) ?_))
          refine ER.delI (z := y) rfl rfl rfl (smap r6) I3.key hy ?_
          obtain ⟨es7, he7⟩ : ∃ x, x = γ2.p.u.2.2.1.eraseIdxIfInBounds ((sfold γ2.p.u.1).there.idxOf y) := ⟨_, rfl⟩
          have key7 : KeyI es7 ((sfold γ2.p.u.1).there.erase y) := by rw [he7]; exact I3.key.erase _ hy
          have u7 := u6.trans (Upd.set (T := fun b => ∃ k, b = d.D k) h6 (d.D .map) (.map es7 γ2.p.u.2.2.2) ⟨_, rfl⟩)
          have r7 := swriteM r6 es7 γ2.p.u.2.2.2
          change ER _ _ _ _ _ _ _ _ _ _ (h6.setIfInBounds (d.D .map) (.map (γ2.p.u.2.2.1.eraseIdxIfInBounds ((sfold γ2.p.u.1).there.idxOf y)) γ2.p.u.2.2.2)) _ _
          rw [<- he7]
          clear he7 ct
          generalize h6.setIfInBounds (d.D .map) (.map es7 γ2.p.u.2.2.2) = h7 at u7 r7 ⊢
          clear u6 r6
          have l7 := I3.sl.upd u7 fun b hb ⟨k, e⟩ => (I3.new b hb).2.2 k e
          have cs : hcell h7 ⟨d.D .stk, 0, none⟩ = some (.slice aS 0 kS) := by
            rw [hst] at eS
            rw [<- show γ2.p.u.2.1 = Value.slice aS 0 kS from eS]; exact scell r7 .stk rfl (i := 0) rfl
          have hdl : (sfold γ2.p.u.1).last.dropLast = [] := by rw [hst]; rfl
          have l8 : ∀ h', Upd (fun b => ∃ k, b = d.D k) h5 h' -> SliceO h' γ2.p.u.2.1 2 1 ([] : List Int).length (([] : List Int).map fun x => .int .i64 x) := fun h' up => by
            have := I3.sl.upd up fun b hb ⟨k, e⟩ => (I3.new b hb).2.2 k e
            rw [hst] at this
            exact this
          have n8 : ∀ b, blk γ2.p.u.2.1 = some b -> blk γ2.p.u.2.1 = some b \/ h5.size <= b := fun b hb => .inl hb
          have u8 := u7
          have r8 := r7
          clear u7 r7 l7
          generalize h7 = h8 at u8 r8 cs ⊢
          have cw : hcell h8 ⟨d.D .wrong, 0, none⟩ = some (.bool false) := scell r8 .wrong rfl (i := 0) rfl
          have cg : hcell h8 ⟨d.D .begun, 0, none⟩ = some (.int .i64 (sfold γ2.p.u.1).begun) := scell r8 .begun rfl (i := 0) rfl
          cases bA with
          | false =>
            (repeat (first | refine EK.seq ?_ | refine EK.region ?_ | refine ER.done ?_ | refine EK.skip ?_ | refine ER.move rfl rfl rfl ?_ | refine ER.no rfl rfl ?_ | refine ER.pickT rfl rfl rfl rfl ?_ | refine ER.pickF rfl rfl rfl rfl ?_ | refine ER.cmpF rfl rfl rfl rfl rfl (by first | (dsimp only [cmpP]; omega) | exact rfl | exact Int.le_refl _) ?_ | refine ER.len1 rfl rfl rfl ?_ | refine EK.condF rfl ?_ | refine ER.load1 rfl rfl rfl (by assumption) ?_))
            refine ER.store1 (v := (.bool false)) rfl rfl rfl ⟨nofun, nofun⟩ ⟨_, scell r8 .wrong rfl rfl⟩ (sfroz r8 .wrong rfl) (hS .wrong _) ?_
            have u' := Upd.hset (T := fun b => ∃ k, b = d.D k) h8 ⟨d.D .wrong, 0, none⟩ (.bool false) ⟨_, rfl⟩
            have r' := swrite r8 .wrong rfl 0 (.bool false) (q' := { QS.of (sfold γ2.p.u.1) γ2.p.u.2 with es := es7, stk := γ2.p.u.2.1 }) rfl (fun j hj => by cases j <;> first | rfl | exact absurd rfl hj)
            have u10 := u8.trans u'
            have r10 := r'
            clear u' r' cw cg
            generalize hset h8 ⟨d.D .wrong, 0, none⟩ (.bool false) = h10 at u10 r10 ⊢
            have cb : hcell h10 ⟨d.D .busy, 0, none⟩ = some (.int .i64 (sfold γ2.p.u.1).busy) := scell r10 .busy rfl (i := 0) rfl
            (repeat (first | refine EK.region ?_ | refine ER.done ?_ | refine ER.sub' (kd := .i64) rfl rfl rfl rfl (i64_in (by omega) (by omega)) ?_ | refine ER.load1 rfl rfl rfl (by assumption) ?_))
            refine ER.store1 (v := (.int .i64 ((sfold γ2.p.u.1).busy - 1))) rfl rfl rfl ⟨nofun, nofun⟩ ⟨_, scell r10 .busy rfl rfl⟩ (sfroz r10 .busy rfl) (hS .busy _) ?_
            have u' := Upd.hset (T := fun b => ∃ k, b = d.D k) h10 ⟨d.D .busy, 0, none⟩ (.int .i64 ((sfold γ2.p.u.1).busy - 1)) ⟨_, rfl⟩
            have r' := swrite r10 .busy rfl 0 (.int .i64 ((sfold γ2.p.u.1).busy - 1)) (q' := { QS.of (sfold γ2.p.u.1) γ2.p.u.2 with es := es7, stk := γ2.p.u.2.1, busy := (sfold γ2.p.u.1).busy - 1 }) rfl (fun j hj => by cases j <;> first | rfl | exact absurd rfl hj)
            have u11 := u10.trans u'
            clear u' cb u10 r10
            generalize hset h10 ⟨d.D .busy, 0, none⟩ (.int .i64 ((sfold γ2.p.u.1).busy - 1)) = h11 at u11 r' ⊢
            have ee : sfold (γ2.p.u.1 ++ [(i, .popped y true)]) = _ := sfold_snoc.trans sstep_out
            have T5 := sput E.hD T3 (a := .popped y true) (m' := (γ2.p.u.2.1, es7, γ2.p.u.2.2.2)) (u11.mono fun b _ x => .inl x) (by rw [ee]; exact r') (by rw [ee]; exact key7) (by rw [ee]; dsimp only; rw [hdl]; exact l8 h11 u11) n8
            have a5 := stells a3 T5
            (repeat (first | refine EK.region ?_ | refine ER.done ?_ | refine EK.inBlock ?_ | refine ER.move rfl rfl rfl ?_ | refine ER.assign rfl rfl rfl ?_ | refine ER.add (kd := .i64) rfl rfl rfl rfl (i64_in (by omega) (by omega)) ?_))
            exact EK.back (again (γ2, (γ2.p.u.1 ++ [(i, .popped y true)], (γ2.p.u.2.1, es7, γ2.p.u.2.2.2)), k + 1) _ _ (by dsimp only; omega) ⟨rfl, by dsimp only; exact a5, al2, by dsimp only; omega⟩) ⟨rfl, rfl, rfl, rfl, rfl, rfl, rfl, rfl, rfl, rfl, trivial⟩
          | true =>
            by_cases hat : (sfold γ2.p.u.1).begun = G0 + 1
            · have hfit := (hal rfl hat.symm).1 rfl
              (repeat (first | refine EK.seq ?_ | refine EK.region ?_ | refine ER.done ?_ | refine EK.skip ?_ | refine ER.move rfl rfl rfl ?_ | refine ER.neqV rfl rfl rfl rfl rfl ?_ | refine ER.pickT rfl rfl rfl rfl ?_ | refine ER.pickF rfl rfl rfl rfl ?_ | refine ER.cmpT rfl rfl rfl rfl rfl (by first | (dsimp only [cmpP]; omega) | exact rfl | exact Int.le_refl _) ?_ | refine ER.cmpF rfl rfl rfl rfl rfl (by first | (dsimp only [cmpP]; omega) | exact rfl | exact Int.le_refl _) ?_ | refine ER.len1 rfl rfl rfl ?_ | refine EK.condF rfl ?_ | refine ER.load1 rfl rfl rfl (by assumption) ?_))
              refine ER.store1 (v := (.bool false)) rfl rfl rfl ⟨nofun, nofun⟩ ⟨_, scell r8 .wrong rfl rfl⟩ (sfroz r8 .wrong rfl) (hS .wrong _) ?_
              have u' := Upd.hset (T := fun b => ∃ k, b = d.D k) h8 ⟨d.D .wrong, 0, none⟩ (.bool false) ⟨_, rfl⟩
              have r' := swrite r8 .wrong rfl 0 (.bool false) (q' := { QS.of (sfold γ2.p.u.1) γ2.p.u.2 with es := es7, stk := γ2.p.u.2.1 }) rfl (fun j hj => by cases j <;> first | rfl | exact absurd rfl hj)
              have u10 := u8.trans u'
              have r10 := r'
              clear u' r' cw cg
              generalize hset h8 ⟨d.D .wrong, 0, none⟩ (.bool false) = h10 at u10 r10 ⊢
              have cb : hcell h10 ⟨d.D .busy, 0, none⟩ = some (.int .i64 (sfold γ2.p.u.1).busy) := scell r10 .busy rfl (i := 0) rfl
              (repeat (first | refine EK.region ?_ | refine ER.done ?_ | refine ER.sub' (kd := .i64) rfl rfl rfl rfl (i64_in (by omega) (by omega)) ?_ | refine ER.load1 rfl rfl rfl (by assumption) ?_))
              refine ER.store1 (v := (.int .i64 ((sfold γ2.p.u.1).busy - 1))) rfl rfl rfl ⟨nofun, nofun⟩ ⟨_, scell r10 .busy rfl rfl⟩ (sfroz r10 .busy rfl) (hS .busy _) ?_
              have u' := Upd.hset (T := fun b => ∃ k, b = d.D k) h10 ⟨d.D .busy, 0, none⟩ (.int .i64 ((sfold γ2.p.u.1).busy - 1)) ⟨_, rfl⟩
              have r' := swrite r10 .busy rfl 0 (.int .i64 ((sfold γ2.p.u.1).busy - 1)) (q' := { QS.of (sfold γ2.p.u.1) γ2.p.u.2 with es := es7, stk := γ2.p.u.2.1, busy := (sfold γ2.p.u.1).busy - 1 }) rfl (fun j hj => by cases j <;> first | rfl | exact absurd rfl hj)
              have u11 := u10.trans u'
              clear u' cb u10 r10
              generalize hset h10 ⟨d.D .busy, 0, none⟩ (.int .i64 ((sfold γ2.p.u.1).busy - 1)) = h11 at u11 r' ⊢
              have ee : sfold (γ2.p.u.1 ++ [(i, .popped y true)]) = _ := sfold_snoc.trans sstep_out
              have T5 := sput E.hD T3 (a := .popped y true) (m' := (γ2.p.u.2.1, es7, γ2.p.u.2.2.2)) (u11.mono fun b _ x => .inl x) (by rw [ee]; exact r') (by rw [ee]; exact key7) (by rw [ee]; dsimp only; rw [hdl]; exact l8 h11 u11) n8
              have a5 := stells a3 T5
              (repeat (first | refine EK.region ?_ | refine ER.done ?_ | refine EK.inBlock ?_ | refine ER.move rfl rfl rfl ?_ | refine ER.assign rfl rfl rfl ?_ | refine ER.add (kd := .i64) rfl rfl rfl rfl (i64_in (by omega) (by omega)) ?_))
              exact EK.back (again (γ2, (γ2.p.u.1 ++ [(i, .popped y true)], (γ2.p.u.2.1, es7, γ2.p.u.2.2.2)), k + 1) _ _ (by dsimp only; omega) ⟨rfl, by dsimp only; exact a5, al2, by dsimp only; omega⟩) ⟨rfl, rfl, rfl, rfl, rfl, rfl, rfl, rfl, rfl, rfl, trivial⟩
            · skip
              (repeat (first | refine EK.seq ?_ | refine EK.region ?_ | refine ER.done ?_ | refine EK.skip ?_ | refine ER.move rfl rfl rfl ?_ | refine ER.no rfl rfl ?_ | refine ER.pickT rfl rfl rfl rfl ?_ | refine ER.pickF rfl rfl rfl rfl ?_ | refine ER.cmpF rfl rfl rfl rfl rfl (by first | (dsimp only [cmpP]; omega) | exact rfl | exact Int.le_refl _) ?_ | refine ER.len1 rfl rfl rfl ?_ | refine EK.condF rfl ?_ | refine ER.load1 rfl rfl rfl (by assumption) ?_))
              refine ER.store1 (v := (.bool false)) rfl rfl rfl ⟨nofun, nofun⟩ ⟨_, scell r8 .wrong rfl rfl⟩ (sfroz r8 .wrong rfl) (hS .wrong _) ?_
              have u' := Upd.hset (T := fun b => ∃ k, b = d.D k) h8 ⟨d.D .wrong, 0, none⟩ (.bool false) ⟨_, rfl⟩
              have r' := swrite r8 .wrong rfl 0 (.bool false) (q' := { QS.of (sfold γ2.p.u.1) γ2.p.u.2 with es := es7, stk := γ2.p.u.2.1 }) rfl (fun j hj => by cases j <;> first | rfl | exact absurd rfl hj)
              have u10 := u8.trans u'
              have r10 := r'
              clear u' r' cw cg
              generalize hset h8 ⟨d.D .wrong, 0, none⟩ (.bool false) = h10 at u10 r10 ⊢
              have cb : hcell h10 ⟨d.D .busy, 0, none⟩ = some (.int .i64 (sfold γ2.p.u.1).busy) := scell r10 .busy rfl (i := 0) rfl
              (repeat (first | refine EK.region ?_ | refine ER.done ?_ | refine ER.sub' (kd := .i64) rfl rfl rfl rfl (i64_in (by omega) (by omega)) ?_ | refine ER.load1 rfl rfl rfl (by assumption) ?_))
              refine ER.store1 (v := (.int .i64 ((sfold γ2.p.u.1).busy - 1))) rfl rfl rfl ⟨nofun, nofun⟩ ⟨_, scell r10 .busy rfl rfl⟩ (sfroz r10 .busy rfl) (hS .busy _) ?_
              have u' := Upd.hset (T := fun b => ∃ k, b = d.D k) h10 ⟨d.D .busy, 0, none⟩ (.int .i64 ((sfold γ2.p.u.1).busy - 1)) ⟨_, rfl⟩
              have r' := swrite r10 .busy rfl 0 (.int .i64 ((sfold γ2.p.u.1).busy - 1)) (q' := { QS.of (sfold γ2.p.u.1) γ2.p.u.2 with es := es7, stk := γ2.p.u.2.1, busy := (sfold γ2.p.u.1).busy - 1 }) rfl (fun j hj => by cases j <;> first | rfl | exact absurd rfl hj)
              have u11 := u10.trans u'
              clear u' cb u10 r10
              generalize hset h10 ⟨d.D .busy, 0, none⟩ (.int .i64 ((sfold γ2.p.u.1).busy - 1)) = h11 at u11 r' ⊢
              have ee : sfold (γ2.p.u.1 ++ [(i, .popped y true)]) = _ := sfold_snoc.trans sstep_out
              have T5 := sput E.hD T3 (a := .popped y true) (m' := (γ2.p.u.2.1, es7, γ2.p.u.2.2.2)) (u11.mono fun b _ x => .inl x) (by rw [ee]; exact r') (by rw [ee]; exact key7) (by rw [ee]; dsimp only; rw [hdl]; exact l8 h11 u11) n8
              have a5 := stells a3 T5
              (repeat (first | refine EK.region ?_ | refine ER.done ?_ | refine EK.inBlock ?_ | refine ER.move rfl rfl rfl ?_ | refine ER.assign rfl rfl rfl ?_ | refine ER.add (kd := .i64) rfl rfl rfl rfl (i64_in (by omega) (by omega)) ?_))
              exact EK.back (again (γ2, (γ2.p.u.1 ++ [(i, .popped y true)], (γ2.p.u.2.1, es7, γ2.p.u.2.2.2)), k + 1) _ _ (by dsimp only; omega) ⟨rfl, by dsimp only; exact a5, al2, by dsimp only; omega⟩) ⟨rfl, rfl, rfl, rfl, rfl, rfl, rfl, rfl, rfl, rfl, trivial⟩
        · rw [List.concat_eq_append] at hst
          have hdl : (sfold γ2.p.u.1).last.dropLast = st := by rw [hst, List.dropLast_concat]
          have hsl : (sfold γ2.p.u.1).last.length = st.length + 1 := by rw [hst]; simp
          rw [hsl] at b3
          have l5 := I3.sl
          rw [hsl, hst, List.map_append] at l5
          obtain ⟨bC, kC, eC, hC, lC⟩ := slice_cut l5
          by_cases hl1 : sc.length = 1
          · obtain rfl : y = y' := by
              have := hlast hl1
              rw [hst, List.getLast?_concat] at this
              injection this with this
              exact this.symm
            obtain ⟨bS, kS', eS', cSS, -⟩ := l5.cell (by omega)
            have hbc := eC.symm.trans eS'
            injection hbc with hbc _ hkc
            injection hbc with hbc
            injection hbc with hbc _
            subst hbc hkc
            have cs : hcell h5 ⟨d.D .stk, 0, none⟩ = some (.slice (some ⟨bC, 0, none⟩) (st.length + 1) kC) := by rw [<- eC]; exact scell I3.rep .stk rfl (i := 0) rfl
            have cv : hcell h5 ⟨bC, 0 + (((st.length + 1 : Nat) : Int) - 1).toNat * 1, none⟩ = some (.int .i64 y) := by
              rw [show 0 + (((st.length + 1 : Nat) : Int) - 1).toNat * 1 = st.length by omega]
              exact cSS _ _ (by rw [List.getElem?_append_right (by simp)]; simp)
            (repeat (first | refine EK.seq ?_ | refine EK.region ?_ | refine ER.done ?_ | refine ER.move rfl rfl rfl ?_ | refine ER.assign rfl rfl rfl ?_ | refine ER.extract rfl rfl rfl rfl ?_ | refine EK.condT rfl ?_ | refine ER.load1 rfl rfl rfl (by assumption) ?_))
            refine ER.lookI (z := y) rfl rfl rfl rfl (smap I3.rep) I3.key hy ?_
            (repeat (first | refine ER.move rfl rfl rfl ?_ | refine ER.fieldAddr rfl rfl rfl ?_ | refine ER.pickT rfl rfl rfl rfl ?_ | refine ER.pickF rfl rfl rfl rfl ?_ | refine ER.cmpT rfl rfl rfl rfl rfl (by first | (dsimp only [cmpP]; omega) | exact rfl | exact Int.le_refl _) ?_ | refine ER.cmpF rfl rfl rfl rfl rfl (by first | (dsimp only [cmpP]; omega) | exact rfl | exact Int.le_refl _) ?_ | refine ER.sub' (kd := .i64) rfl rfl rfl rfl (i64_in (by omega) (by omega)) ?_ | refine ER.len1 rfl rfl rfl ?_ | refine ER.indexSl rfl rfl rfl rfl (by omega) (by omega) ?_ | refine ER.load1 rfl rfl rfl (by assumption) ?_))
            refine ER.store1 (v := (.bool false)) rfl rfl rfl ⟨nofun, nofun⟩ ⟨_, scell I3.rep .wrong rfl rfl⟩ (sfroz I3.rep .wrong rfl) (hS .wrong _) ?_
            have u' := Upd.hset (T := fun b => ∃ k, b = d.D k) h5 ⟨d.D .wrong, 0, none⟩ (.bool false) ⟨_, rfl⟩
            have r' := swrite I3.rep .wrong rfl 0 (.bool false) (q' := (QS.of (sfold γ2.p.u.1) γ2.p.u.2)) rfl (fun j hj => by cases j <;> first | rfl | exact absurd rfl hj)
            have u6 := u'
            have r6 := r'
            clear u' r' cw ct c1
            generalize hset h5 ⟨d.D .wrong, 0, none⟩ (.bool false) = h6 at u6 r6 ⊢
            have ct := (E.now (skeep I3 (u6.mono fun b _ x => .inl x))).t
            (repeat (first | refine EK.region ?_ | refine ER.done ?_ | refine ER.move rfl rfl rfl ?_ | refine ER.load1 rfl rfl rfl (by assumption) ?_))
            refine ER.delI (z := y) rfl rfl rfl (smap r6) I3.key hy ?_
            obtain ⟨es7, he7⟩ : ∃ x, x = γ2.p.u.2.2.1.eraseIdxIfInBounds ((sfold γ2.p.u.1).there.idxOf y) := ⟨_, rfl⟩
            have key7 : KeyI es7 ((sfold γ2.p.u.1).there.erase y) := by rw [he7]; exact I3.key.erase _ hy
            have u7 := u6.trans (Upd.set (T := fun b => ∃ k, b = d.D k) h6 (d.D .map) (.map es7 γ2.p.u.2.2.2) ⟨_, rfl⟩)
            have r7 := swriteM r6 es7 γ2.p.u.2.2.2
            change ER _ _ _ _ _ _ _ _ _ _ (h6.setIfInBounds (d.D .map) (.map (γ2.p.u.2.2.1.eraseIdxIfInBounds ((sfold γ2.p.u.1).there.idxOf y)) γ2.p.u.2.2.2)) _ _
            rw [<- he7]
            clear he7 ct
            generalize h6.setIfInBounds (d.D .map) (.map es7 γ2.p.u.2.2.2) = h7 at u7 r7 ⊢
            clear u6 r6
            have l7 := I3.sl.upd u7 fun b hb ⟨k, e⟩ => (I3.new b hb).2.2 k e
            clear cs cv
            have cs : hcell h7 ⟨d.D .stk, 0, none⟩ = some (.slice (some ⟨bC, 0, none⟩) (st.length + 1) kC) := by rw [<- eC]; exact scell r7 .stk rfl (i := 0) rfl
            (repeat (first | refine EK.seq ?_ | refine EK.region ?_ | refine ER.done ?_ | refine ER.move rfl rfl rfl ?_ | refine ER.pickT rfl rfl rfl rfl ?_ | refine ER.cmpT rfl rfl rfl rfl rfl (by first | (dsimp only [cmpP]; omega) | exact rfl | exact Int.le_refl _) ?_ | refine ER.sub' (kd := .i64) rfl rfl rfl rfl (i64_in (by omega) (by omega)) ?_ | refine ER.len1 rfl rfl rfl ?_ | refine EK.condT rfl ?_ | refine ER.load1 rfl rfl rfl (by assumption) ?_))
            refine ER.sliceTo (hi := st.length) rfl rfl rfl (by show some (Value.int .i64 (((st.length + 1 : Nat) : Int) - 1)) = _; rw [show (((st.length + 1 : Nat) : Int) - 1) = (st.length : Int) by omega]) (by omega) ?_
            rw [if_neg (by omega)]
            refine ER.store1 (v := (.slice (some ⟨bC, 0, none⟩) st.length kC)) rfl rfl rfl ⟨nofun, nofun⟩ ⟨_, scell r7 .stk rfl rfl⟩ (sfroz r7 .stk rfl) (hS .stk _) ?_
            have u' := Upd.hset (T := fun b => ∃ k, b = d.D k) h7 ⟨d.D .stk, 0, none⟩ (.slice (some ⟨bC, 0, none⟩) st.length kC) ⟨_, rfl⟩
            have r' := swrite r7 .stk rfl 0 (.slice (some ⟨bC, 0, none⟩) st.length kC) (q' := { QS.of (sfold γ2.p.u.1) γ2.p.u.2 with es := es7, stk := .slice (some ⟨bC, 0, none⟩) st.length kC }) rfl (fun j hj => by cases j <;> first | rfl | exact absurd rfl hj)
            have u8 := u7.trans u'
            have r8 := r'
            have l8 : ∀ h', Upd (fun b => ∃ k, b = d.D k) h5 h' -> SliceO h' (.slice (some ⟨bC, 0, none⟩) st.length kC) 2 1 st.length (st.map fun x => .int .i64 x) := fun h' up => lC.upd up fun b hb ⟨k, e⟩ => (I3.new b (by rw [eC]; exact hb)).2.2 k e
            have n8 : ∀ b, blk (.slice (some ⟨bC, 0, none⟩) st.length kC) = some b -> blk γ2.p.u.2.1 = some b \/ h5.size <= b := fun b hb => .inl (by rw [eC]; exact hb)
            clear u' r' cs u7 r7
            generalize hset h7 ⟨d.D .stk, 0, none⟩ (.slice (some ⟨bC, 0, none⟩) st.length kC) = h8 at u8 r8 ⊢
            have cw : hcell h8 ⟨d.D .wrong, 0, none⟩ = some (.bool false) := scell r8 .wrong rfl (i := 0) rfl
            have cg : hcell h8 ⟨d.D .begun, 0, none⟩ = some (.int .i64 (sfold γ2.p.u.1).begun) := scell r8 .begun rfl (i := 0) rfl
            cases bA with
            | false =>
              (repeat (first | refine EK.region ?_ | refine ER.done ?_ | refine ER.move rfl rfl rfl ?_ | refine ER.no rfl rfl ?_ | refine ER.pickF rfl rfl rfl rfl ?_ | refine ER.load1 rfl rfl rfl (by assumption) ?_))
              refine ER.store1 (v := (.bool false)) rfl rfl rfl ⟨nofun, nofun⟩ ⟨_, scell r8 .wrong rfl rfl⟩ (sfroz r8 .wrong rfl) (hS .wrong _) ?_
              have u' := Upd.hset (T := fun b => ∃ k, b = d.D k) h8 ⟨d.D .wrong, 0, none⟩ (.bool false) ⟨_, rfl⟩
              have r' := swrite r8 .wrong rfl 0 (.bool false) (q' := { QS.of (sfold γ2.p.u.1) γ2.p.u.2 with es := es7, stk := .slice (some ⟨bC, 0, none⟩) st.length kC }) rfl (fun j hj => by cases j <;> first | rfl | exact absurd rfl hj)
              have u10 := u8.trans u'
              have r10 := r'
              clear u' r' cw cg
              generalize hset h8 ⟨d.D .wrong, 0, none⟩ (.bool false) = h10 at u10 r10 ⊢
              have cb : hcell h10 ⟨d.D .busy, 0, none⟩ = some (.int .i64 (sfold γ2.p.u.1).busy) := scell r10 .busy rfl (i := 0) rfl
              (repeat (first | refine EK.region ?_ | refine ER.done ?_ | refine ER.sub' (kd := .i64) rfl rfl rfl rfl (i64_in (by omega) (by omega)) ?_ | refine ER.load1 rfl rfl rfl (by assumption) ?_))
              refine ER.store1 (v := (.int .i64 ((sfold γ2.p.u.1).busy - 1))) rfl rfl rfl ⟨nofun, nofun⟩ ⟨_, scell r10 .busy rfl rfl⟩ (sfroz r10 .busy rfl) (hS .busy _) ?_
              have u' := Upd.hset (T := fun b => ∃ k, b = d.D k) h10 ⟨d.D .busy, 0, none⟩ (.int .i64 ((sfold γ2.p.u.1).busy - 1)) ⟨_, rfl⟩
              have r' := swrite r10 .busy rfl 0 (.int .i64 ((sfold γ2.p.u.1).busy - 1)) (q' := { QS.of (sfold γ2.p.u.1) γ2.p.u.2 with es := es7, stk := .slice (some ⟨bC, 0, none⟩) st.length kC, busy := (sfold γ2.p.u.1).busy - 1 }) rfl (fun j hj => by cases j <;> first | rfl | exact absurd rfl hj)
              have u11 := u10.trans u'
              clear u' cb u10 r10
              generalize hset h10 ⟨d.D .busy, 0, none⟩ (.int .i64 ((sfold γ2.p.u.1).busy - 1)) = h11 at u11 r' ⊢
              have ee : sfold (γ2.p.u.1 ++ [(i, .popped y true)]) = _ := sfold_snoc.trans sstep_out
              have T5 := sput E.hD T3 (a := .popped y true) (m' := (.slice (some ⟨bC, 0, none⟩) st.length kC, es7, γ2.p.u.2.2.2)) (u11.mono fun b _ x => .inl x) (by rw [ee]; exact r') (by rw [ee]; exact key7) (by rw [ee]; dsimp only; rw [hdl]; exact l8 h11 u11) n8
              have a5 := stells a3 T5
              (repeat (first | refine EK.region ?_ | refine ER.done ?_ | refine EK.inBlock ?_ | refine ER.move rfl rfl rfl ?_ | refine ER.assign rfl rfl rfl ?_ | refine ER.add (kd := .i64) rfl rfl rfl rfl (i64_in (by omega) (by omega)) ?_))
              exact EK.back (again (γ2, (γ2.p.u.1 ++ [(i, .popped y true)], (.slice (some ⟨bC, 0, none⟩) st.length kC, es7, γ2.p.u.2.2.2)), k + 1) _ _ (by dsimp only; omega) ⟨rfl, by dsimp only; exact a5, al2, by dsimp only; omega⟩) ⟨rfl, rfl, rfl, rfl, rfl, rfl, rfl, rfl, rfl, rfl, trivial⟩
            | true =>
              by_cases hat : (sfold γ2.p.u.1).begun = G0 + 1
              · have hfit := (hal rfl hat.symm).1 rfl
                (repeat (first | refine EK.region ?_ | refine ER.done ?_ | refine ER.move rfl rfl rfl ?_ | refine ER.neqV rfl rfl rfl rfl rfl ?_ | refine ER.pickT rfl rfl rfl rfl ?_ | refine ER.pickF rfl rfl rfl rfl ?_ | refine ER.cmpT rfl rfl rfl rfl rfl (by first | (dsimp only [cmpP]; omega) | exact rfl | exact Int.le_refl _) ?_ | refine ER.load1 rfl rfl rfl (by assumption) ?_))
                refine ER.store1 (v := (.bool false)) rfl rfl rfl ⟨nofun, nofun⟩ ⟨_, scell r8 .wrong rfl rfl⟩ (sfroz r8 .wrong rfl) (hS .wrong _) ?_
                have u' := Upd.hset (T := fun b => ∃ k, b = d.D k) h8 ⟨d.D .wrong, 0, none⟩ (.bool false) ⟨_, rfl⟩
                have r' := swrite r8 .wrong rfl 0 (.bool false) (q' := { QS.of (sfold γ2.p.u.1) γ2.p.u.2 with es := es7, stk := .slice (some ⟨bC, 0, none⟩) st.length kC }) rfl (fun j hj => by cases j <;> first | rfl | exact absurd rfl hj)
                have u10 := u8.trans u'
                have r10 := r'
                clear u' r' cw cg
                generalize hset h8 ⟨d.D .wrong, 0, none⟩ (.bool false) = h10 at u10 r10 ⊢
                have cb : hcell h10 ⟨d.D .busy, 0, none⟩ = some (.int .i64 (sfold γ2.p.u.1).busy) := scell r10 .busy rfl (i := 0) rfl
                (repeat (first | refine EK.region ?_ | refine ER.done ?_ | refine ER.sub' (kd := .i64) rfl rfl rfl rfl (i64_in (by omega) (by omega)) ?_ | refine ER.load1 rfl rfl rfl (by assumption) ?_))
                refine ER.store1 (v := (.int .i64 ((sfold γ2.p.u.1).busy - 1))) rfl rfl rfl ⟨nofun, nofun⟩ ⟨_, scell r10 .busy rfl rfl⟩ (sfroz r10 .busy rfl) (hS .busy _) ?_
                have u' := Upd.hset (T := fun b => ∃ k, b = d.D k) h10 ⟨d.D .busy, 0, none⟩ (.int .i64 ((sfold γ2.p.u.1).busy - 1)) ⟨_, rfl⟩
                have r' := swrite r10 .busy rfl 0 (.int .i64 ((sfold γ2.p.u.1).busy - 1)) (q' := { QS.of (sfold γ2.p.u.1) γ2.p.u.2 with es := es7, stk := .slice (some ⟨bC, 0, none⟩) st.length kC, busy := (sfold γ2.p.u.1).busy - 1 }) rfl (fun j hj => by cases j <;> first | rfl | exact absurd rfl hj)
                have u11 := u10.trans u'
                clear u' cb u10 r10
                generalize hset h10 ⟨d.D .busy, 0, none⟩ (.int .i64 ((sfold γ2.p.u.1).busy - 1)) = h11 at u11 r' ⊢
                have ee : sfold (γ2.p.u.1 ++ [(i, .popped y true)]) = _ := sfold_snoc.trans sstep_out
                have T5 := sput E.hD T3 (a := .popped y true) (m' := (.slice (some ⟨bC, 0, none⟩) st.length kC, es7, γ2.p.u.2.2.2)) (u11.mono fun b _ x => .inl x) (by rw [ee]; exact r') (by rw [ee]; exact key7) (by rw [ee]; dsimp only; rw [hdl]; exact l8 h11 u11) n8
                have a5 := stells a3 T5
                (repeat (first | refine EK.region ?_ | refine ER.done ?_ | refine EK.inBlock ?_ | refine ER.move rfl rfl rfl ?_ | refine ER.assign rfl rfl rfl ?_ | refine ER.add (kd := .i64) rfl rfl rfl rfl (i64_in (by omega) (by omega)) ?_))
                exact EK.back (again (γ2, (γ2.p.u.1 ++ [(i, .popped y true)], (.slice (some ⟨bC, 0, none⟩) st.length kC, es7, γ2.p.u.2.2.2)), k + 1) _ _ (by dsimp only; omega) ⟨rfl, by dsimp only; exact a5, al2, by dsimp only; omega⟩) ⟨rfl, rfl, rfl, rfl, rfl, rfl, rfl, rfl, rfl, rfl, trivial⟩
              · skip
                (repeat (first | refine EK.region ?_ | refine ER.done ?_ | refine ER.move rfl rfl rfl ?_ | refine ER.no rfl rfl ?_ | refine ER.pickT rfl rfl rfl rfl ?_ | refine ER.pickF rfl rfl rfl rfl ?_ | refine ER.cmpF rfl rfl rfl rfl rfl (by first | (dsimp only [cmpP]; omega) | exact rfl | exact Int.le_refl _) ?_ | refine ER.load1 rfl rfl rfl (by assumption) ?_))
                refine ER.store1 (v := (.bool false)) rfl rfl rfl ⟨nofun, nofun⟩ ⟨_, scell r8 .wrong rfl rfl⟩ (sfroz r8 .wrong rfl) (hS .wrong _) ?_
                have u' := Upd.hset (T := fun b => ∃ k, b = d.D k) h8 ⟨d.D .wrong, 0, none⟩ (.bool false) ⟨_, rfl⟩
                have r' := swrite r8 .wrong rfl 0 (.bool false) (q' := { QS.of (sfold γ2.p.u.1) γ2.p.u.2 with es := es7, stk := .slice (some ⟨bC, 0, none⟩) st.length kC }) rfl (fun j hj => by cases j <;> first | rfl | exact absurd rfl hj)
                have u10 := u8.trans u'
                have r10 := r'
                clear u' r' cw cg
                generalize hset h8 ⟨d.D .wrong, 0, none⟩ (.bool false) = h10 at u10 r10 ⊢
                have cb : hcell h10 ⟨d.D .busy, 0, none⟩ = some (.int .i64 (sfold γ2.p.u.1).busy) := scell r10 .busy rfl (i := 0) rfl
                (repeat (first | refine EK.region ?_ | refine ER.done ?_ | refine ER.sub' (kd := .i64) rfl rfl rfl rfl (i64_in (by omega) (by omega)) ?_ | refine ER.load1 rfl rfl rfl (by assumption) ?_))
                refine ER.store1 (v := (.int .i64 ((sfold γ2.p.u.1).busy - 1))) rfl rfl rfl ⟨nofun, nofun⟩ ⟨_, scell r10 .busy rfl rfl⟩ (sfroz r10 .busy rfl) (hS .busy _) ?_
                have u' := Upd.hset (T := fun b => ∃ k, b = d.D k) h10 ⟨d.D .busy, 0, none⟩ (.int .i64 ((sfold γ2.p.u.1).busy - 1)) ⟨_, rfl⟩
                have r' := swrite r10 .busy rfl 0 (.int .i64 ((sfold γ2.p.u.1).busy - 1)) (q' := { QS.of (sfold γ2.p.u.1) γ2.p.u.2 with es := es7, stk := .slice (some ⟨bC, 0, none⟩) st.length kC, busy := (sfold γ2.p.u.1).busy - 1 }) rfl (fun j hj => by cases j <;> first | rfl | exact absurd rfl hj)
                have u11 := u10.trans u'
                clear u' cb u10 r10
                generalize hset h10 ⟨d.D .busy, 0, none⟩ (.int .i64 ((sfold γ2.p.u.1).busy - 1)) = h11 at u11 r' ⊢
                have ee : sfold (γ2.p.u.1 ++ [(i, .popped y true)]) = _ := sfold_snoc.trans sstep_out
                have T5 := sput E.hD T3 (a := .popped y true) (m' := (.slice (some ⟨bC, 0, none⟩) st.length kC, es7, γ2.p.u.2.2.2)) (u11.mono fun b _ x => .inl x) (by rw [ee]; exact r') (by rw [ee]; exact key7) (by rw [ee]; dsimp only; rw [hdl]; exact l8 h11 u11) n8
                have a5 := stells a3 T5
                (repeat (first | refine EK.region ?_ | refine ER.done ?_ | refine EK.inBlock ?_ | refine ER.move rfl rfl rfl ?_ | refine ER.assign rfl rfl rfl ?_ | refine ER.add (kd := .i64) rfl rfl rfl rfl (i64_in (by omega) (by omega)) ?_))
                exact EK.back (again (γ2, (γ2.p.u.1 ++ [(i, .popped y true)], (.slice (some ⟨bC, 0, none⟩) st.length kC, es7, γ2.p.u.2.2.2)), k + 1) _ _ (by dsimp only; omega) ⟨rfl, by dsimp only; exact a5, al2, by dsimp only; omega⟩) ⟨rfl, rfl, rfl, rfl, rfl, rfl, rfl, rfl, rfl, rfl, trivial⟩
          · skip
            (repeat (first | refine EK.seq ?_ | refine EK.region ?_ | refine ER.done ?_ | refine ER.move rfl rfl rfl ?_ | refine ER.assign rfl rfl rfl ?_ | refine ER.extract rfl rfl rfl rfl ?_ | refine EK.condT rfl ?_ | refine ER.load1 rfl rfl rfl (by assumption) ?_))
            refine ER.lookI (z := y) rfl rfl rfl rfl (smap I3.rep) I3.key hy ?_
            (repeat (first | refine ER.move rfl rfl rfl ?_ | refine ER.fieldAddr rfl rfl rfl ?_ | refine ER.no rfl rfl ?_ | refine ER.pickF rfl rfl rfl rfl ?_ | refine ER.cmpF rfl rfl rfl rfl rfl (by first | (dsimp only [cmpP]; omega) | exact rfl | exact Int.le_refl _) ?_ | refine ER.len1 rfl rfl rfl ?_ | refine ER.load1 rfl rfl rfl (by assumption) ?_))
            refine ER.store1 (v := (.bool false)) rfl rfl rfl ⟨nofun, nofun⟩ ⟨_, scell I3.rep .wrong rfl rfl⟩ (sfroz I3.rep .wrong rfl) (hS .wrong _) ?_
            have u' := Upd.hset (T := fun b => ∃ k, b = d.D k) h5 ⟨d.D .wrong, 0, none⟩ (.bool false) ⟨_, rfl⟩
            have r' := swrite I3.rep .wrong rfl 0 (.bool false) (q' := (QS.of (sfold γ2.p.u.1) γ2.p.u.2)) rfl (fun j hj => by cases j <;> first | rfl | exact absurd rfl hj)
            have u6 := u'
            have r6 := r'
            clear u' r' cw ct c1
            generalize hset h5 ⟨d.D .wrong, 0, none⟩ (.bool false) = h6 at u6 r6 ⊢
            have ct := (E.now (skeep I3 (u6.mono fun b _ x => .inl x))).t
            (repeat (first | refine EK.region ?_ | refine ER.done ?_ | refine ER.move rfl rfl rfl ?_ | refine ER.load1 rfl rfl rfl (by assumption) ?_))
            refine ER.delI (z := y) rfl rfl rfl (smap r6) I3.key hy ?_
            obtain ⟨es7, he7⟩ : ∃ x, x = γ2.p.u.2.2.1.eraseIdxIfInBounds ((sfold γ2.p.u.1).there.idxOf y) := ⟨_, rfl⟩
            have key7 : KeyI es7 ((sfold γ2.p.u.1).there.erase y) := by rw [he7]; exact I3.key.erase _ hy
            have u7 := u6.trans (Upd.set (T := fun b => ∃ k, b = d.D k) h6 (d.D .map) (.map es7 γ2.p.u.2.2.2) ⟨_, rfl⟩)
            have r7 := swriteM r6 es7 γ2.p.u.2.2.2
            change ER _ _ _ _ _ _ _ _ _ _ (h6.setIfInBounds (d.D .map) (.map (γ2.p.u.2.2.1.eraseIdxIfInBounds ((sfold γ2.p.u.1).there.idxOf y)) γ2.p.u.2.2.2)) _ _
            rw [<- he7]
            clear he7 ct
            generalize h6.setIfInBounds (d.D .map) (.map es7 γ2.p.u.2.2.2) = h7 at u7 r7 ⊢
            clear u6 r6
            have l7 := I3.sl.upd u7 fun b hb ⟨k, e⟩ => (I3.new b hb).2.2 k e
            have cs : hcell h7 ⟨d.D .stk, 0, none⟩ = some (.slice (some ⟨bC, 0, none⟩) (st.length + 1) kC) := by rw [<- eC]; exact scell r7 .stk rfl (i := 0) rfl
            (repeat (first | refine EK.seq ?_ | refine EK.region ?_ | refine ER.done ?_ | refine ER.move rfl rfl rfl ?_ | refine ER.pickT rfl rfl rfl rfl ?_ | refine ER.cmpT rfl rfl rfl rfl rfl (by first | (dsimp only [cmpP]; omega) | exact rfl | exact Int.le_refl _) ?_ | refine ER.sub' (kd := .i64) rfl rfl rfl rfl (i64_in (by omega) (by omega)) ?_ | refine ER.len1 rfl rfl rfl ?_ | refine EK.condT rfl ?_ | refine ER.load1 rfl rfl rfl (by assumption) ?_))
            refine ER.sliceTo (hi := st.length) rfl rfl rfl (by show some (Value.int .i64 (((st.length + 1 : Nat) : Int) - 1)) = _; rw [show (((st.length + 1 : Nat) : Int) - 1) = (st.length : Int) by omega]) (by omega) ?_
            rw [if_neg (by omega)]
            refine ER.store1 (v := (.slice (some ⟨bC, 0, none⟩) st.length kC)) rfl rfl rfl ⟨nofun, nofun⟩ ⟨_, scell r7 .stk rfl rfl⟩ (sfroz r7 .stk rfl) (hS .stk _) ?_
            have u' := Upd.hset (T := fun b => ∃ k, b = d.D k) h7 ⟨d.D .stk, 0, none⟩ (.slice (some ⟨bC, 0, none⟩) st.length kC) ⟨_, rfl⟩
            have r' := swrite r7 .stk rfl 0 (.slice (some ⟨bC, 0, none⟩) st.length kC) (q' := { QS.of (sfold γ2.p.u.1) γ2.p.u.2 with es := es7, stk := .slice (some ⟨bC, 0, none⟩) st.length kC }) rfl (fun j hj => by cases j <;> first | rfl | exact absurd rfl hj)
            have u8 := u7.trans u'
            have r8 := r'
            have l8 : ∀ h', Upd (fun b => ∃ k, b = d.D k) h5 h' -> SliceO h' (.slice (some ⟨bC, 0, none⟩) st.length kC) 2 1 st.length (st.map fun x => .int .i64 x) := fun h' up => lC.upd up fun b hb ⟨k, e⟩ => (I3.new b (by rw [eC]; exact hb)).2.2 k e
            have n8 : ∀ b, blk (.slice (some ⟨bC, 0, none⟩) st.length kC) = some b -> blk γ2.p.u.2.1 = some b \/ h5.size <= b := fun b hb => .inl (by rw [eC]; exact hb)
            clear u' r' cs u7 r7
            generalize hset h7 ⟨d.D .stk, 0, none⟩ (.slice (some ⟨bC, 0, none⟩) st.length kC) = h8 at u8 r8 ⊢
            have cw : hcell h8 ⟨d.D .wrong, 0, none⟩ = some (.bool false) := scell r8 .wrong rfl (i := 0) rfl
            have cg : hcell h8 ⟨d.D .begun, 0, none⟩ = some (.int .i64 (sfold γ2.p.u.1).begun) := scell r8 .begun rfl (i := 0) rfl
            cases bA with
            | false =>
              (repeat (first | refine EK.region ?_ | refine ER.done ?_ | refine ER.move rfl rfl rfl ?_ | refine ER.no rfl rfl ?_ | refine ER.pickF rfl rfl rfl rfl ?_ | refine ER.load1 rfl rfl rfl (by assumption) ?_))
              refine ER.store1 (v := (.bool false)) rfl rfl rfl ⟨nofun, nofun⟩ ⟨_, scell r8 .wrong rfl rfl⟩ (sfroz r8 .wrong rfl) (hS .wrong _) ?_
              have u' := Upd.hset (T := fun b => ∃ k, b = d.D k) h8 ⟨d.D .wrong, 0, none⟩ (.bool false) ⟨_, rfl⟩
              have r' := swrite r8 .wrong rfl 0 (.bool false) (q' := { QS.of (sfold γ2.p.u.1) γ2.p.u.2 with es := es7, stk := .slice (some ⟨bC, 0, none⟩) st.length kC }) rfl (fun j hj => by cases j <;> first | rfl | exact absurd rfl hj)
              have u10 := u8.trans u'
              have r10 := r'
              clear u' r' cw cg
              generalize hset h8 ⟨d.D .wrong, 0, none⟩ (.bool false) = h10 at u10 r10 ⊢
              have cb : hcell h10 ⟨d.D .busy, 0, none⟩ = some (.int .i64 (sfold γ2.p.u.1).busy) := scell r10 .busy rfl (i := 0) rfl
              (repeat (first | refine EK.region ?_ | refine ER.done ?_ | refine ER.sub' (kd := .i64) rfl rfl rfl rfl (i64_in (by omega) (by omega)) ?_ | refine ER.load1 rfl rfl rfl (by assumption) ?_))
              refine ER.store1 (v := (.int .i64 ((sfold γ2.p.u.1).busy - 1))) rfl rfl rfl ⟨nofun, nofun⟩ ⟨_, scell r10 .busy rfl rfl⟩ (sfroz r10 .busy rfl) (hS .busy _) ?_
              have u' := Upd.hset (T := fun b => ∃ k, b = d.D k) h10 ⟨d.D .busy, 0, none⟩ (.int .i64 ((sfold γ2.p.u.1).busy - 1)) ⟨_, rfl⟩
              have r' := swrite r10 .busy rfl 0 (.int .i64 ((sfold γ2.p.u.1).busy - 1)) (q' := { QS.of (sfold γ2.p.u.1) γ2.p.u.2 with es := es7, stk := .slice (some ⟨bC, 0, none⟩) st.length kC, busy := (sfold γ2.p.u.1).busy - 1 }) rfl (fun j hj => by cases j <;> first | rfl | exact absurd rfl hj)
              have u11 := u10.trans u'
              clear u' cb u10 r10
              generalize hset h10 ⟨d.D .busy, 0, none⟩ (.int .i64 ((sfold γ2.p.u.1).busy - 1)) = h11 at u11 r' ⊢
              have ee : sfold (γ2.p.u.1 ++ [(i, .popped y true)]) = _ := sfold_snoc.trans sstep_out
              have T5 := sput E.hD T3 (a := .popped y true) (m' := (.slice (some ⟨bC, 0, none⟩) st.length kC, es7, γ2.p.u.2.2.2)) (u11.mono fun b _ x => .inl x) (by rw [ee]; exact r') (by rw [ee]; exact key7) (by rw [ee]; dsimp only; rw [hdl]; exact l8 h11 u11) n8
              have a5 := stells a3 T5
              (repeat (first | refine EK.region ?_ | refine ER.done ?_ | refine EK.inBlock ?_ | refine ER.move rfl rfl rfl ?_ | refine ER.assign rfl rfl rfl ?_ | refine ER.add (kd := .i64) rfl rfl rfl rfl (i64_in (by omega) (by omega)) ?_))
              exact EK.back (again (γ2, (γ2.p.u.1 ++ [(i, .popped y true)], (.slice (some ⟨bC, 0, none⟩) st.length kC, es7, γ2.p.u.2.2.2)), k + 1) _ _ (by dsimp only; omega) ⟨rfl, by dsimp only; exact a5, al2, by dsimp only; omega⟩) ⟨rfl, rfl, rfl, rfl, rfl, rfl, rfl, rfl, rfl, rfl, trivial⟩
            | true =>
              by_cases hat : (sfold γ2.p.u.1).begun = G0 + 1
              · have hfit := (hal rfl hat.symm).1 rfl
                (repeat (first | refine EK.region ?_ | refine ER.done ?_ | refine ER.move rfl rfl rfl ?_ | refine ER.neqV rfl rfl rfl rfl rfl ?_ | refine ER.pickT rfl rfl rfl rfl ?_ | refine ER.pickF rfl rfl rfl rfl ?_ | refine ER.cmpT rfl rfl rfl rfl rfl (by first | (dsimp only [cmpP]; omega) | exact rfl | exact Int.le_refl _) ?_ | refine ER.load1 rfl rfl rfl (by assumption) ?_))
                refine ER.store1 (v := (.bool false)) rfl rfl rfl ⟨nofun, nofun⟩ ⟨_, scell r8 .wrong rfl rfl⟩ (sfroz r8 .wrong rfl) (hS .wrong _) ?_
                have u' := Upd.hset (T := fun b => ∃ k, b = d.D k) h8 ⟨d.D .wrong, 0, none⟩ (.bool false) ⟨_, rfl⟩
                have r' := swrite r8 .wrong rfl 0 (.bool false) (q' := { QS.of (sfold γ2.p.u.1) γ2.p.u.2 with es := es7, stk := .slice (some ⟨bC, 0, none⟩) st.length kC }) rfl (fun j hj => by cases j <;> first | rfl | exact absurd rfl hj)
                have u10 := u8.trans u'
                have r10 := r'
                clear u' r' cw cg
                generalize hset h8 ⟨d.D .wrong, 0, none⟩ (.bool false) = h10 at u10 r10 ⊢
                have cb : hcell h10 ⟨d.D .busy, 0, none⟩ = some (.int .i64 (sfold γ2.p.u.1).busy) := scell r10 .busy rfl (i := 0) rfl
                (repeat (first | refine EK.region ?_ | refine ER.done ?_ | refine ER.sub' (kd := .i64) rfl rfl rfl rfl (i64_in (by omega) (by omega)) ?_ | refine ER.load1 rfl rfl rfl (by assumption) ?_))
                refine ER.store1 (v := (.int .i64 ((sfold γ2.p.u.1).busy - 1))) rfl rfl rfl ⟨nofun, nofun⟩ ⟨_, scell r10 .busy rfl rfl⟩ (sfroz r10 .busy rfl) (hS .busy _) ?_
                have u' := Upd.hset (T := fun b => ∃ k, b = d.D k) h10 ⟨d.D .busy, 0, none⟩ (.int .i64 ((sfold γ2.p.u.1).busy - 1)) ⟨_, rfl⟩
                have r' := swrite r10 .busy rfl 0 (.int .i64 ((sfold γ2.p.u.1).busy - 1)) (q' := { QS.of (sfold γ2.p.u.1) γ2.p.u.2 with es := es7, stk := .slice (some ⟨bC, 0, none⟩) st.length kC, busy := (sfold γ2.p.u.1).busy - 1 }) rfl (fun j hj => by cases j <;> first | rfl | exact absurd rfl hj)
                have u11 := u10.trans u'
                clear u' cb u10 r10
                generalize hset h10 ⟨d.D .busy, 0, none⟩ (.int .i64 ((sfold γ2.p.u.1).busy - 1)) = h11 at u11 r' ⊢
                have ee : sfold (γ2.p.u.1 ++ [(i, .popped y true)]) = _ := sfold_snoc.trans sstep_out
                have T5 := sput E.hD T3 (a := .popped y true) (m' := (.slice (some ⟨bC, 0, none⟩) st.length kC, es7, γ2.p.u.2.2.2)) (u11.mono fun b _ x => .inl x) (by rw [ee]; exact r') (by rw [ee]; exact key7) (by rw [ee]; dsimp only; rw [hdl]; exact l8 h11 u11) n8
                have a5 := stells a3 T5
                (repeat (first | refine EK.region ?_ | refine ER.done ?_ | refine EK.inBlock ?_ | refine ER.move rfl rfl rfl ?_ | refine ER.assign rfl rfl rfl ?_ | refine ER.add (kd := .i64) rfl rfl rfl rfl (i64_in (by omega) (by omega)) ?_))
                exact EK.back (again (γ2, (γ2.p.u.1 ++ [(i, .popped y true)], (.slice (some ⟨bC, 0, none⟩) st.length kC, es7, γ2.p.u.2.2.2)), k + 1) _ _ (by dsimp only; omega) ⟨rfl, by dsimp only; exact a5, al2, by dsimp only; omega⟩) ⟨rfl, rfl, rfl, rfl, rfl, rfl, rfl, rfl, rfl, rfl, trivial⟩
              · skip
                (repeat (first | refine EK.region ?_ | refine ER.done ?_ | refine ER.move rfl rfl rfl ?_ | refine ER.no rfl rfl ?_ | refine ER.pickT rfl rfl rfl rfl ?_ | refine ER.pickF rfl rfl rfl rfl ?_ | refine ER.cmpF rfl rfl rfl rfl rfl (by first | (dsimp only [cmpP]; omega) | exact rfl | exact Int.le_refl _) ?_ | refine ER.load1 rfl rfl rfl (by assumption) ?_))
                refine ER.store1 (v := (.bool false)) rfl rfl rfl ⟨nofun, nofun⟩ ⟨_, scell r8 .wrong rfl rfl⟩ (sfroz r8 .wrong rfl) (hS .wrong _) ?_
                have u' := Upd.hset (T := fun b => ∃ k, b = d.D k) h8 ⟨d.D .wrong, 0, none⟩ (.bool false) ⟨_, rfl⟩
                have r' := swrite r8 .wrong rfl 0 (.bool false) (q' := { QS.of (sfold γ2.p.u.1) γ2.p.u.2 with es := es7, stk := .slice (some ⟨bC, 0, none⟩) st.length kC }) rfl (fun j hj => by cases j <;> first | rfl | exact absurd rfl hj)
                have u10 := u8.trans u'
                have r10 := r'
                clear u' r' cw cg
                generalize hset h8 ⟨d.D .wrong, 0, none⟩ (.bool false) = h10 at u10 r10 ⊢
                have cb : hcell h10 ⟨d.D .busy, 0, none⟩ = some (.int .i64 (sfold γ2.p.u.1).busy) := scell r10 .busy rfl (i := 0) rfl
                (repeat (first | refine EK.region ?_ | refine ER.done ?_ | refine ER.sub' (kd := .i64) rfl rfl rfl rfl (i64_in (by omega) (by omega)) ?_ | refine ER.load1 rfl rfl rfl (by assumption) ?_))
                refine ER.store1 (v := (.int .i64 ((sfold γ2.p.u.1).busy - 1))) rfl rfl rfl ⟨nofun, nofun⟩ ⟨_, scell r10 .busy rfl rfl⟩ (sfroz r10 .busy rfl) (hS .busy _) ?_
                have u' := Upd.hset (T := fun b => ∃ k, b = d.D k) h10 ⟨d.D .busy, 0, none⟩ (.int .i64 ((sfold γ2.p.u.1).busy - 1)) ⟨_, rfl⟩
                have r' := swrite r10 .busy rfl 0 (.int .i64 ((sfold γ2.p.u.1).busy - 1)) (q' := { QS.of (sfold γ2.p.u.1) γ2.p.u.2 with es := es7, stk := .slice (some ⟨bC, 0, none⟩) st.length kC, busy := (sfold γ2.p.u.1).busy - 1 }) rfl (fun j hj => by cases j <;> first | rfl | exact absurd rfl hj)
                have u11 := u10.trans u'
                clear u' cb u10 r10
                generalize hset h10 ⟨d.D .busy, 0, none⟩ (.int .i64 ((sfold γ2.p.u.1).busy - 1)) = h11 at u11 r' ⊢
                have ee : sfold (γ2.p.u.1 ++ [(i, .popped y true)]) = _ := sfold_snoc.trans sstep_out
                have T5 := sput E.hD T3 (a := .popped y true) (m' := (.slice (some ⟨bC, 0, none⟩) st.length kC, es7, γ2.p.u.2.2.2)) (u11.mono fun b _ x => .inl x) (by rw [ee]; exact r') (by rw [ee]; exact key7) (by rw [ee]; dsimp only; rw [hdl]; exact l8 h11 u11) n8
                have a5 := stells a3 T5
                (repeat (first | refine EK.region ?_ | refine ER.done ?_ | refine EK.inBlock ?_ | refine ER.move rfl rfl rfl ?_ | refine ER.assign rfl rfl rfl ?_ | refine ER.add (kd := .i64) rfl rfl rfl rfl (i64_in (by omega) (by omega)) ?_))
                exact EK.back (again (γ2, (γ2.p.u.1 ++ [(i, .popped y true)], (.slice (some ⟨bC, 0, none⟩) st.length kC, es7, γ2.p.u.2.2.2)), k + 1) _ _ (by dsimp only; omega) ⟨rfl, by dsimp only; exact a5, al2, by dsimp only; omega⟩) ⟨rfl, rfl, rfl, rfl, rfl, rfl, rfl, rfl, rfl, rfl, trivial⟩
  · obtain rfl : k = l.length := by omega
    rw [List.drop_length] at a1
    clear again
    (repeat (first | refine EK.seq ?_ | refine EK.region ?_ | refine ER.done ?_ | refine ER.move rfl rfl rfl ?_ | refine ER.fieldAddr rfl rfl rfl ?_ | refine ER.cmpF rfl rfl rfl rfl rfl (by first | (dsimp only [cmpP]; omega) | exact rfl | exact Int.le_refl _) ?_ | refine ER.len1 rfl rfl rfl ?_ | refine ER.indexSl rfl rfl rfl rfl (by omega) (by omega) ?_ | refine EK.condF rfl ?_ | refine EK.exit rfl ?_ | refine ER.load1 rfl rfl rfl (by assumption) ?_))
    exact EK.done (EU.ret0 rfl ⟨γ1, u1, rfl, rfl, al, a1⟩)
end
end
end Go.Proofs.Ythkpbenhchkkoaa
namespace Go.TJ
section
open Go Go.Conc
open Go.ConcN (sumTo upd sumTo_upd upd_ne upd_same)
def SwS (P : Program) : Sit Nat where
  still := fun _ _ => False
  yld g h δ Y := δ.d = 0 /\ ∃ (Γ' : Type) (X : Proto Γ') (γ : Γ'), X.Ok /\ X.num γ = δ.g /\ δ.g = 1 /\
    Runs P true (SitM P X) (fun g' h' δ' => δ'.d = 0 /\ (∀ i, i ≠ 0 -> i < X.num δ'.g -> X.ch δ'.g i = none) /\ Y g' h' ⟨0, X.num δ'.g⟩) g h ⟨0, γ⟩
theorem CallW.sw {P : Program} {Γ' : Type} {X : Proto Γ'} (hX : X.Ok) {γ : Γ'} (h1 : X.num γ = 1) {f : FuncId} {args : Array Value} {h : Hp} {R : Post Nat} (hc : CallW P true (SitM P X) f args h ⟨0, γ⟩ fun r h' δ' => δ'.d = 0 /\ (∀ i, i ≠ 0 -> i < X.num δ'.g -> X.ch δ'.g i = none) /\ R r h' ⟨0, X.num δ'.g⟩) : CallW P true (SwS P) f args h ⟨0, 1⟩ R := by
  intro kind hk cs
  refine .hands (fun g' h' δ' => Left P f kind cs R g' h' δ') (fun g' h' δ' y => .stop y) ⟨rfl, Γ', X, γ, hX, h1, rfl, (hc kind hk cs).mono ?_⟩
  rintro g' h' δ' ⟨a, todo, mode, fn, h1, h2, h3, ⟨h5, v, h6, h7, h8, h9⟩ | ⟨c, h5, h7, h8, h9⟩⟩
  · exact ⟨h7, h8, a, todo, mode, fn, h1, h2, h3, .inl ⟨h5, v, h6, h9⟩⟩
  · exact ⟨h7, h8, a, todo, mode, fn, h1, h2, h3, .inr ⟨c, h5, h9⟩⟩
def PN : Proto Nat where
  num n := n
  ch _ _ := none
  cells _ _ _ := none
  R _ _ _ := True
  Pass _ _ _ := True
section
variable {P : Program}
theorem lk_none {h : Nat} {n : Nat} {I : Nat -> Option Wait} (hI : ∀ i, i ≠ h -> I i = none) : Lk P PN h n I n :=
  ⟨rfl, fun i hi _ => (by rw [hI i hi]; rfl), fun i W hi e => (by rw [hI i hi] at e; cases e), fun i W hi _ e => (by rw [hI i hi] at e; cases e)⟩
theorem lk_end {Γ' : Type} {X : Proto Γ'} {γ : Γ'} {I : Nat -> Option Wait} {T : Trace} {gs : Array Goroutine} {w : World} {q : Nat -> Nat} (F : Fr P 0 I T gs w q) (L : Lk P X 0 γ I gs.size) (hch : ∀ i, i ≠ 0 -> i < X.num γ -> X.ch γ i = none) : ∀ i, i ≠ 0 -> I i = none := fun i hi => by
  cases e : I i with
  | none => rfl
  | some V =>
    have hlt := F.room i hi (by rw [e]; rfl)
    have h1 := L.ch i hi hlt
    rw [hch i hi (by rw [L.num]; exact hlt), e] at h1
    cases h1
theorem company_sw {Stop : Goroutine -> Hp -> Ix Nat -> Prop} {g : Goroutine} {hp : Hp} {δ : Ix Nat} (H : Runs P true (SwS P) Stop g hp δ) :
    ∀ {I : Nat -> Option Wait} {T : Trace} {gs : Array Goroutine} {w : World} {q : Nat -> Nat} {sl : Option (Nat × Nat)}, w.heap = hp -> Fr P 0 I T gs w q -> (∀ i, i ≠ 0 -> I i = none) -> gs.size = δ.g -> gs[0]? = some g -> Deaf T 0 = δ.d ->
    ∃ (N : Nat) (gs' : Array Goroutine) (g' : Goroutine) (w' : World) (sl' : Option (Nat × Nat)) (T' : Trace) (q' : Nat -> Nat) (δ' : Ix Nat) (I' : Nat -> Option Wait),
      runNT P N (crowd gs w sl) T = (.next (crowd gs' w' sl'), T') /\ gs'[0]? = some g' /\ Fr P 0 I' T' gs' w' q' /\ (∀ i, i ≠ 0 -> I' i = none) /\ Deaf T' 0 = δ'.d /\ Same w w' /\ Stop g' w'.heap δ' := by
  induction H with
  | stop hs =>
    intro I T gs w q sl hw F hI hn hg hd
    subst hw
    exact ⟨0, gs, _, w, sl, T, q, _, I, rfl, hg, F, hI, hd, Same.refl _, hs⟩
  | step Y _ hst ih =>
    intro I T gs w q sl hw F hI hn hg hd
    subst hw
    obtain ⟨N, gs', g', w', sl', T', q', δ', h1, h2, h3, h4, h5, h6, h7, h8⟩ := step_run (X := PN) (i := 0) (by rfl) (S := SwS P) (funext fun n => funext fun a => propext ⟨fun x => x.elim, fun ⟨j, _, _, x, _⟩ => by cases x⟩) (sl := sl) F (by rw [hn]; exact lk_none hI) hg hd hst
    obtain ⟨N₂, gs₂, g₂, w₂, sl₂, T₂, q₂, δ₂, I', k1, k3, k5, k6, k7, k8, k9⟩ := ih _ _ _ h8 (sl := sl') rfl h4 hI (by rw [h5, h2]; exact hn) h3 h6
    exact ⟨N + N₂, gs₂, g₂, w₂, sl₂, T₂, q₂, δ₂, I', runNT_then h1 k1, k3, k5, k6, k7, h7.trans k8, k9⟩
  | @hands g hp δ Y _ hY ih =>
    intro I T gs w q sl hw F hI hn hg hd
    subst hw
    obtain ⟨hd0, Γ', X, γ, hX, e1, e2, hrun⟩ := hY
    obtain ⟨N, gs', g', w', sl', T', q', δ', I', h1, h2, h3, h4, h5, h6, h7, h8, h9⟩ := company hX hrun (sl := sl) rfl F ⟨by rw [e1, hn], fun i hi hlt => by omega, fun i W hi e => (by rw [hI i hi] at e; cases e), fun i W hi _ e => (by rw [hI i hi] at e; cases e)⟩ hg (hd.trans hd0)
    obtain ⟨N₂, gs₂, g₂, w₂, sl₂, T₂, q₂, δ₂, I₂, k1, k3, k5, k6, k7, k8, k9⟩ := ih _ _ _ h9 (sl := sl') rfl h3 (lk_end h3 h4 h8) h4.num.symm h2 (h5.trans h7)
    exact ⟨N + N₂, gs₂, g₂, w₂, sl₂, T₂, q₂, δ₂, I₂, runNT_then h1 k1, k3, k5, k6, k7, h6.trans k8, k9⟩
theorem sw_run {f : FuncId} {args : Array Value} {W : World} {R : Value -> Hp -> Prop} (hini : P.inits.idxOf? f = none)
    (hc : CallW P true (SwS P) f args W.heap ⟨0, 1⟩ fun
      | .ret v, h', δ' => δ'.d = 0 /\ R v h'
      | .pan _, _, _ => False) :
    ∃ M last o w' t', runNT P (M + 1) (solo (G (Frame.enter P f args .normal) []) W) #[] = (.ended o w', t') /\ runN P M (solo (G (Frame.enter P f args .normal) []) W) = .next last /\ step P last = .ended o w' /\
      Conc.Good P (fun v W' => R v W'.heap /\ Same W W') last o w' t' := by
  obtain ⟨N, gs, g', w, sl, T, q, δ, I, hr, hg, F, hI, hd, hs, a, todo, mode, fn, rfl, hda, hf, hend⟩ := company_sw (hc .normal (by simp) []) (sl := none) (w := W) rfl (fr_one P _ W) (fun i _ => rfl) rfl rfl rfl
  rcases hend with ⟨rfl, v, hv, hd0, hR⟩ | ⟨_, _, hp⟩
  · obtain ⟨N₂, gs₂, d, d', sl₂, sl₃, T₂, q₂, hr₂, hst, hsz, ha₂, F₂, hd₂⟩ := F.picked (sl := sl) hg rfl
    obtain ⟨es, hrun, hes⟩ := hv (w.at d') rfl
    have hend := stepG_last (w := w.at d') (todo := todo) hda hf hini hrun
    have hrt := runT_many_ended (P := P) (sl := sl₃) (i := 0) ha₂ hend
    have hops : ∀ op ∈ MemOp.ofEvents 0 f (G { (fb f .normal).at a todo with mode := .returning } []).frame.place (seen P f es), op.g = 0 := fun op hop => by obtain ⟨e, _, rfl⟩ := Go.Conc.mem_ofEvents hop; rfl
    have hTr : Tr 0 (loOf 0 I) (stOf I) (T₂ ++ MemOp.ofEvents 0 f (G { (fb f .normal).at a todo with mode := .returning } []).frame.place (seen P f es)) :=
      F₂.tr.own (fun x => x.1 rfl) hops fun op hop b hb g hg' hS => by
        have := hg'.2
        rw [hI g hg'.1] at this
        cases this
    refine ⟨N + N₂, _, .done v, w.at d', _, runNT_succ_end (runNT_then hr hr₂) (hst.trans hrt), runN_of_runNT _ _ _ _ _ (runNT_then hr hr₂), ?_, v, rfl, ⟨hR, hs.trans (same_at w d')⟩, hTr.clean, tr_over hTr hI, ⟨fun x hx => ?_, rfl⟩, fun j x hx hj => ?_⟩
    · rw [step, hst, hrt]
    · obtain ⟨j, hj⟩ := List.mem_iff_getElem?.1 hx
      rw [List.getElem?_drop] at hj
      have hid := F₂.idle (1 + j) x (by omega) (by simpa [crowd] using hj)
      rw [hI _ (by omega)] at hid
      exact ⟨_, hid.2.leaves⟩
    · have hid := F₂.idle j x hj hx
      rw [hI j hj] at hid
      refine ⟨q₂ j, ?_⟩
      have e : (T₂ ++ MemOp.ofEvents 0 f (G { (fb f .normal).at a todo with mode := .returning } []).frame.place (seen P f es)).deaf j (T₂ ++ MemOp.ofEvents 0 f (G { (fb f .normal).at a todo with mode := .returning } []).frame.place (seen P f es)).size = Deaf T₂ j :=
        Deaf_other T₂ (g := j) (g' := 0) (Ne.symm hj) _ hops
      rw [show (G { (fb f .normal).at a todo with mode := .returning } []).frame.fn = f from rfl, e]
      exact hid.2.hears _
  · exact hp.elim
end
end
end Go.TJ
namespace Go.Proofs.Ythkpbenhchkkoaa
section
open Go Go.TJ Go.Conc Go.Proofs
abbrev sbV (d : S1) (bp bs bt iB : Nat) : FuncId × Array Value := (9, #[ptr bp, ptr iB, ptr (d.D .busy), ptr (d.D .begun), ptr bt, ptr bs, ptr (d.D .stk), ptr (d.D .wrong)])
def vNewN (n : Nat) : Nat -> Int := fun k => if k = 2 then 0 else if k = 3 then 1 else if k % 2 = 0 then (((k - 4) / 2 + 1) % (n + 1) : Nat) else 0
structure SPre (d : S1) (base bp bs bt : Nat) (scv pS bv : Value) (sc : List (List SCal)) (iBs : List Nat) (picks : List Int) : Prop where
  ok : d.c.Ok
  rep : Rep d.hN (stkM d.c.n d.c.B (vNewN d.c.n))
  ex : ∀ b, d.ex b ↔ blk bv = some b
  vs : Rep d.hN (sM d.D (QS.of SS.z (nilS, #[], 0)))
  v0 : ∀ k, 2 <= k -> k < 6 + 2 * d.c.n -> d.v0 (d.c.B k) = vNewN d.c.n k
  p : d.hN[bp]? = some (.cells #[.int .i64 d.c.n, scv, pS] 27 (0, 0))
  s : d.hN[bs]? = some (.cells #[ptr (d.c.B 0)] 29 (0, 0))
  t : d.hN[bt]? = some (.cells #[.map (some (d.D .map))] 33 (0, 0))
  lowB : ∀ k, k < 6 + 2 * d.c.n -> base <= d.c.B k
  lowD : ∀ k, base <= d.D k
  lowb : ∀ b, blk bv = some b -> base <= b
  scr : ScrO base d.hN scv sc
  pk : RdS d.hN pS (picks.map fun x => .int .i64 x) /\ (picks ≠ [] -> ∀ b, blk pS = some b -> b < base)
  scd : d.c.sc = sc.map fun l => l.map fun q => decide (q.1 = 0)
  ib : iBs.length = sc.length
  ibx : ∀ (j b : Nat), iBs[j]? = some b -> d.hN[b]? = some (.cells #[.int .i64 (j : Int)] 3 (0, 0)) /\ ∀ k, b ≠ d.D k
  bods : SliceO d.hN bv 43 1 sc.length ((iBs.map fun b => sbV d bp bs bt b).map fun q => .func (.func q.1) #[] q.2)
section
variable {d : S1} {base bp bs bt : Nat} {scv pS bv : Value} {sc : List (List SCal)} {iBs : List Nat} {picks : List Int}
theorem SPre.cell (x : SPre d base bp bs bt scv pS bv sc iBs picks) {k : Nat} (h2 : 2 <= k) (hk : k < 6 + 2 * d.c.n) : d.hN[d.c.B k]? = some (cellO (d.v0 (d.c.B k))) := by
  rw [x.v0 k h2 hk]; exact stk_cell x.rep h2 hk rfl
theorem SPre.notC (x : SPre d base bp bs bt scv pS bv sc iBs picks) {y : Nat} {o : Obj} (hy : d.hN[y]? = some o) (ht : ∀ v, o ≠ cellO v) : ¬ d.isC y := by
  rintro ⟨k, h2, hk, -, -, rfl⟩
  rw [x.cell h2 hk] at hy
  injection hy with hy
  exact ht _ hy.symm
theorem SPre.hD (x : SPre d base bp bs bt scv pS bv sc iBs picks) (k : SNm) : ¬ d.isC (d.D k) := by
  have h := x.vs.has k trivial
  refine x.notC h fun v e => ?_
  cases k <;> first | (cases e; done) | (injection e with _ e _; exact absurd e (by decide))
theorem SPre.neD (x : SPre d base bp bs bt scv pS bv sc iBs picks) {y : Nat} {a : Array Value} {t : TypeId} (hy : d.hN[y]? = some (.cells a t (0, 0))) (t1 : t ≠ 4) (t2 : t ≠ 34) (t3 : t ≠ 3) (k : SNm) : y ≠ d.D k := by
  rintro rfl
  have h := x.vs.has k trivial
  change d.hN[d.D k]? = _ at h
  rw [hy] at h
  injection h with h
  cases k <;> first | (cases h; done) | (injection h with _ h _; first | exact t1 h | exact t2 h | exact t3 h)
theorem SPre.nb (x : SPre d base bp bs bt scv pS bv sc iBs picks) {y : Nat} {a : Array Value} {t : TypeId} (hy : d.hN[y]? = some (.cells a t (0, 0))) (h1 : t ≠ 43) : ¬ d.ex y := fun e => sliceO_ne x.bods hy (Ne.symm h1) y ((x.ex y).1 e) rfl
theorem SPre.old (x : SPre d base bp bs bt scv pS bv sc iBs picks) {y : Nat} {a : Array Value} {t : TypeId} (hy : d.hN[y]? = some (.cells a t (0, 0))) (h0 : t ≠ 188) (h1 : t ≠ 43) (hD : ∀ k, y ≠ d.D k) : d.old y :=
  ⟨lt_of_get hy, x.notC hy (fun v e => by injection e with _ e _; exact h0 e), x.nb hy h1, hD⟩
theorem SPre.low (x : SPre d base bp bs bt scv pS bv sc iBs picks) (hb : base <= d.hN.size) {y : Nat} (hy : y < base) : d.old y :=
  ⟨by omega, fun ⟨k, _, hk, _, _, e⟩ => by have := x.lowB k hk; omega, fun e => by have := x.lowb y ((x.ex y).1 e); omega, fun k e => by have := x.lowD k; omega⟩
theorem SPre.apart (x : SPre d base bp bs bt scv pS bv sc iBs picks) {y : Nat} {a : Array Value} {t : TypeId} (hy : d.hN[y]? = some (.cells a t (0, 0))) (t1 : t ≠ 4) (t2 : t ≠ 34) (t3 : t ≠ 3) (t5 : t ≠ 188) (t6 : t ≠ 105) (t7 : t ≠ 109) : ¬ ((∃ k, y = d.D k) \/ KOwn d.c.n d.c.B y) := by
  rintro (⟨k, e⟩ | ⟨k, hk, rfl⟩)
  · exact x.neD hy t1 t2 t3 k e
  · have h1 : d.hN[d.c.B k]? = some (if k = 0 then _ else if k = 1 then _ else _) := x.rep.has k hk
    rw [hy] at h1
    by_cases k0 : k = 0
    · rw [if_pos k0] at h1
      injection h1 with h1
      injection h1 with _ h1 _
      exact t6 h1
    · by_cases k1 : k = 1
      · rw [if_neg k0, if_pos k1] at h1
        injection h1 with h1
        injection h1 with _ h1 _
        exact t7 h1
      · rw [if_neg k0, if_neg k1] at h1
        injection h1 with h1
        injection h1 with _ h1 _
        exact t5 h1
theorem spend (ok : d.c.Ok) {i : Nat} {γ : GG (XS d)} {u : (XS d).U} {L : List (Nat × Obj)} {h : Hp} (T : Thr (XS d) i γ u L h) (pd : PendS d.c.n d.c.B i γ) : JStk d.c.n d.c.B (γ.p.acc i).val := by
  have hJ : JStk d.c.n d.c.B γ.p.val := T.J.2
  rcases pd with hb | ⟨r, hr, hfine⟩
  · rw [acc_born _ _ hb]; exact hJ
  · rw [acc_stands _ _ hr]
    exact hJ.fine (fun j k _ _ _ _ e => ok.inj j k e) hfine
theorem vNewN_x {n k : Nat} (h1 : 1 <= k) (h2 : k <= n) : vNewN n (4 + 2 * k) = if k < n then (k : Int) + 1 else 0 := by
  unfold vNewN
  rw [if_neg (by omega), if_neg (by omega), if_pos (by omega), show (4 + 2 * k - 4) / 2 + 1 = k + 1 by omega]
  by_cases e : k < n
  · rw [if_pos e, Nat.mod_eq_of_lt (by omega)]; rfl
  · rw [if_neg e, show k + 1 = n + 1 by omega, Nat.mod_self]; rfl
theorem SPre.s0 (x : SPre d base bp bs bt scv pS bv sc iBs picks) : S0 d.c d.v0 := by
  refine ⟨?_, ?_, fun k h1 h2 => ?_⟩
  · rw [x.v0 2 (by omega) (by omega)]; rfl
  · rw [x.v0 3 (by omega) (by omega)]; rfl
  · rw [x.v0 _ (by omega) (by omega), vNewN_x h1 h2]
theorem SPre.jv (x : SPre d base bp bs bt scv pS bv sc iBs picks) : JStk d.c.n d.c.B d.v0 := by
  have z := x.s0
  have n1 := x.ok.n1
  refine ⟨by rw [z.l]; omega, by rw [z.f]; omega, fun k h1 h2 => ?_⟩
  rw [z.x k h1 h2]
  split <;> omega
theorem senv_of (x : SPre d base bp bs bt scv pS bv sc iBs picks) (hb : base <= d.hN.size) : SEn d base bp bs bt scv pS sc := by
  have o0 : d.hN[d.c.B 0]? = some (.cells #[ptr (d.c.B 2), ptr (d.c.B 3), .slice (some ⟨d.c.B 1, 0, none⟩) (d.c.n + 1) (d.c.n + 1)] 105 (0, 0)) := x.rep.get (k := 0) (show 0 < 6 + 2 * d.c.n by omega) rfl
  have o1 : d.hN[d.c.B 1]? = some (.cells (itemsL (d.c.n + 1) d.c.B).toArray 109 (0, 0)) := x.rep.get (k := 1) (show 1 < 6 + 2 * d.c.n by omega) rfl
  have q0 : d.old (d.c.B 0) := x.old o0 (by decide) (by decide) (x.neD o0 (by decide) (by decide) (by decide))
  have q1 : d.old (d.c.B 1) := x.old o1 (by decide) (by decide) (x.neD o1 (by decide) (by decide) (by decide))
  refine ⟨x.ok, x.hD, ⟨gcS_ok x.hD, usN_prog, fun k h1 h2 h3 h4 => ⟨k, h1, h2, h3, h4, rfl⟩, fun u h I => ?_, fun l u v hJ => hJ.2, fun T pd ext g => usN_j (c := gcS d) T g nofun ext (spend x.ok T pd), fun i u => nrefl, x.ok.n1, x.ok.n2⟩, x.s0,
    ⟨x.old x.p (by decide) (by decide) (x.neD x.p (by decide) (by decide) (by decide)), x.p⟩, ⟨x.old x.s (by decide) (by decide) (x.neD x.s (by decide) (by decide) (by decide)), x.s⟩, ⟨x.old x.t (by decide) (by decide) (x.neD x.t (by decide) (by decide) (by decide)), x.t⟩, x.scr, fun b h => x.low hb h, x.scd⟩
  have I' : SMI d u.1 u.2 h := I
  exact ⟨(I'.old _ q0).trans o0, (I'.old _ q1).trans o1⟩
theorem sbody1 (x : SPre d base bp bs bt scv pS bv sc iBs picks) (hb : base <= d.hN.size) {i iB : Nat} {l : List SCal} (hi : iBs[i]? = some iB) (hl : sc[i]? = some l) : Body (XS d) i (sbV d bp bs bt iB).1 (sbV d bp bs bt iB).2 := by
  intro h γ T hbn ho
  have E := senv_of x hb
  have ht : toldOf i γ.p.u.1 = [] := by
    obtain ⟨p, -, hp⟩ := T.Q i
    rw [hbn] at hp
    exact hp
  have eP : d.c.P i = stP d.c.B d.c.F i (l.map fun q => decide (q.1 = 0)) 0 := by
    unfold SP.P
    rw [x.scd, List.getElem?_map, hl]; rfl
  have a0 : AtP (XS d) d.c.P (stold d) d.c.n d.c.B i γ γ.p.u [] h (stP d.c.B d.c.F i (l.map fun q => decide (q.1 = 0)) 0) := by
    rw [<- eP]
    exact ⟨T, Res.born E.K.prog T hbn ho ht, .inl hbn, nrefl⟩
  obtain ⟨r1, r2⟩ := x.ibx i iB hi
  refine (sbody_T E ⟨x.old r1 (by decide) (by decide) r2, r1⟩ hl a0 rfl).conseqP ?_
  rintro w h' δ' ⟨γ', u', rfl, -, al, at_⟩
  exact ⟨γ', u', [], rfl, al, at_.thr, Res.over E.K.prog at_.res, usN_j (c := gcS d) at_.thr at_.res nofun at_.ext (spend x.ok at_.thr at_.pend)⟩
end
theorem rds_low {h h' : Hp} {s : Value} {vs : List Value} (x : RdS h s vs) (hb : vs ≠ [] -> ∀ b, blk s = some b -> h'[b]? = h[b]?) : RdS h' s vs := by
  refine ⟨x.val, fun i v hv => ?_⟩
  obtain ⟨b, o, k, e, hc⟩ := x.cell i v hv
  refine ⟨b, o, k, e, ?_⟩
  unfold TJ.hcell at hc ⊢
  rw [hb (fun y => by rw [y] at hv; cases hv) b (by rw [e]; rfl)]
  exact hc
theorem fmT_nil {A : Type} {f : Nat -> Option A} {n : Nat} (h : ∀ j, j < n -> f j = none) : fmT f n = [] := by
  induction n with
  | zero => rfl
  | succ n ih => rw [fmT_succ, ih fun j hj => h j (by omega), h n (by omega)]; rfl
theorem chn_id {B : Nat -> Nat} {v : Nat -> Int} : ∀ {l : List Nat}, Chn B v l -> Chn id (fun k => v (B k)) l
  | [], _ => trivial
  | _ :: _, ⟨h1, h2⟩ => ⟨h1, chn_id h2⟩
structure CI (n : Nat) (v : Nat -> Int) (l2 l3 : List Nat) : Prop where
  t2 : v 2 % 65536 = hdN l2
  t3 : v 3 % 65536 = hdN l3
  c2 : Chn id v l2
  c3 : Chn id v l3
  np : (l2 ++ l3).Perm (List.range' 1 n)
theorem sdone {c : SP} {l : List Ev} {g : List (Nat × SE)} {S : Nat -> Pr SE} {v : Nat -> Int} {a : SA} {k : Nat -> SC} (ok : c.Ok) (I : SInv c l g S v a k) {i : Nat} (h : S i = .done) : ∃ q, k i = .fin q := by
  have hs := I.short ok
  have hF := ok.F
  have r := I.res i
  have t := I.T i
  rw [h] at r
  cases e : k i with
  | fin q => exact ⟨q, rfl⟩
  | raw l q =>
    rw [e] at r t
    rcases l with - | ⟨b, l⟩
    · exact absurd rfl t.1
    · cases b
      · have r' : (Pr.done : Pr SE) = .emit _ _ := r
        cases r'
      · have r' : (Pr.done : Pr SE) = .emit _ _ := r
        cases r'
  | g0 q f =>
    rw [e] at r t
    obtain ⟨f', rfl⟩ : ∃ f', f = f' + 1 := ⟨f - 1, by have := t.2; omega⟩
    have r' : (Pr.done : Pr SE) = .step _ _ := r
    cases r'
  | g1 q f h => rw [e] at r; cases r
  | g2 q f h m => rw [e] at r; cases r
  | vl q x y =>
    rw [e] at r
    change _ = (if q.push then _ else _) at r
    by_cases hp : q.push = true
    · rw [if_pos hp] at r; cases r
    · rw [if_neg hp] at r; cases r
  | l0 q x y f =>
    rw [e] at r t
    obtain ⟨f', rfl⟩ : ∃ f', f = f' + 1 := ⟨f - 1, by have := t.2.1; omega⟩
    have r' : (Pr.done : Pr SE) = .step _ _ := r
    cases r'
  | l1 q x y f h => rw [e] at r; cases r
  | l2 q x y f h => rw [e] at r; cases r
theorem sends {c : SP} {l : List Ev} {g : List (Nat × SE)} {S : Nat -> Pr SE} {v : Nat -> Int} {a : SA} {k : Nat -> SC} (ok : c.Ok) (I : SInv c l g S v a k) (h : ∀ i, i < c.T -> S i = .done) :
    CI c.n (fun j => v (c.B j)) (a.ch 2) (a.ch 3) /\ a.s.there.Perm ((a.ch 2).map fun x => v (c.B (5 + 2 * x))) := by
  have n1 : fmT (fun j => hnS (k j)) c.T = [] := fmT_nil fun j hj => by obtain ⟨q, e⟩ := sdone ok I (h j hj); rw [e]; rfl
  have n2 : fmT (fun j => tvS j (k j)) c.T = [] := fmT_nil fun j hj => by obtain ⟨q, e⟩ := sdone ok I (h j hj); rw [e]; rfl
  have np := I.np
  have vp := I.vp
  rw [n1, List.append_nil] at np
  rw [n2, List.append_nil] at vp
  exact ⟨⟨(I.cell ok (.inl rfl)).1, (I.cell ok (.inr rfl)).1, chn_id (I.cel 2 (.inl rfl)).2.2.2, chn_id (I.cel 3 (.inr rfl)).2.2.2, np⟩, vp⟩
structure SEd (d : S1) (s : SS) (l2 l3 : List Nat) (mv : MV) (v : Nat -> Int) (h : Hp) : Prop where
  ci : CI d.c.n v l2 l3
  vp : s.there.Perm (l2.map fun x => v (5 + 2 * x))
  vs : Rep h (sM d.D (QS.of s mv))
  key : KeyI mv.2.1 s.there
  rep : Rep h (stkM d.c.n d.c.B v)
  pos : ∀ y, y ∈ s.there -> 1 <= y
section
variable {d : S1} {base bp bs bt : Nat} {scv pS bv : Value} {sc : List (List SCal)} {iBs : List Nat} {picks : List Int}
set_option maxRecDepth 8000 in
set_option maxHeartbeats 4000000 in
theorem srun_ok (x : SPre d base bp bs bt scv pS bv sc iBs picks) (hb : base <= d.hN.size) :
    CallW Try.prog true (SwS Try.prog) 12 #[pS, .int .i64 16384, bv] d.hN ⟨0, 1⟩ (Ret fun v h' δ' => (∃ m, δ' = ⟨0, m⟩) /\ ∃ (lL lW lY lV : Value) (mv : MV) (n : Nat) (s : SS) (l2 l3 : List Nat) (val : Nat -> Int), v = .agg (repL 1 n lL lW lY lV).toArray /\
      ((∃ a n k, lL = .slice a n k) /\ (∃ a n k, lW = .slice a n k) /\ (∃ a n k, lY = .slice a n k) /\ (∃ a n k, lV = .slice a n k)) /\ SEd d s l2 l3 mv val h' /\ d.hN.size <= h'.size /\ ∀ b, d.old b -> h'[b]? = d.hN[b]?) := by
  have E := senv_of x hb
  have hX : (XS d).Ok := E.K.ok
  let u0 : (XS d).U := ([], nilS, #[], 0)
  have hnb : ∀ c, blk bv = some c -> ∀ k, c ≠ d.D k := fun c hc k e => by
    obtain ⟨hl, ⟨h1, h2⟩ | ⟨b, cap, rest, h1, -, -, h3⟩⟩ := x.bods
    · rw [h1] at hc; cases hc
    · rw [h1] at hc
      injection hc with hc
      change b = c at hc
      subst hc
      exact x.neD h3 (by decide) (by decide) (by decide) k e
  have hnD : ∀ c, (XS d).Dom u0 c -> d.old c \/ ∃ k, c = d.D k := fun c hc => hc.elim .inl fun y => y.elim .inr fun y => (by cases y.2)
  have lb : (iBs.map fun b => sbV d bp bs bt b).length = sc.length := by rw [List.length_map, x.ib]
  have hT8 : sc.length <= 8 := by
    have := x.ok.T8
    unfold SP.T at this
    rwa [x.scd, List.length_map] at this
  have hT : d.c.T = sc.length := by unfold SP.T; rw [x.scd, List.length_map]
  have hI0 : SMI d [] (nilS, #[], 0) d.hN := ⟨fun _ _ => rfl, x.vs, KeyI.nil, SliceO.nil, fun b e => (by cases e)⟩
  have hrun := runG (X := XS d) (γ := ⟨psZ 0 0 d.v0 u0, psZ 0 0 d.v0 u0, d.hN, fun _ => False, 0⟩) (h := d.hN) hX (v0 := d.v0) (u0 := u0) (picks := picks) (m := 16384) (bods := iBs.map fun b => sbV d bp bs bt b) (sP := pS) (sB := bv) rfl (by decide) (by decide)
    (fun b hb => by
      obtain ⟨k, h2, hk, -, -, rfl⟩ := hb
      exact x.cell h2 hk)
    (fun b hb => (hnD b hb).elim (fun y => y.1) fun ⟨k, e⟩ => e ▸ x.vs.lt (k := k) trivial) hI0 ⟨⟨_, .init⟩, x.jv⟩ (fun i => ⟨_, .nil _, rfl⟩) (by rw [lb]; omega)
    (by rw [lb]; exact x.bods)
    (fun c hc => ⟨fun ⟨k, h2, hk, _, _, e⟩ => sliceO_ne x.bods (x.cell h2 hk) (by decide) c hc e, fun hd => (hnD c hd).elim (fun y => y.2.2.1 ((x.ex c).2 hc)) fun ⟨k, e⟩ => hnb c hc k e⟩)
    (fun u h' I _ => rds_low x.pk.1 fun hv b hb' => SMI.old (show SMI d u.1 u.2 h' from I) b (x.low hb (x.pk.2 (fun e => hv (by rw [e]; rfl)) b hb')))
    (fun k q hq => by
      rw [List.getElem?_map] at hq
      obtain ⟨b, hbk, rfl⟩ := Option.map_eq_some_iff.1 hq
      have hk : k < sc.length := by rw [<- x.ib]; exact (List.getElem?_eq_some_iff.1 hbk).1
      exact ⟨inferInstance, sbody1 x hb hbk (List.getElem?_eq_getElem hk)⟩)
  refine CallW.sw (px_ok hX) rfl (hrun.mono ?_)
  rintro (v | ps) h' δ' y
  · obtain ⟨γ', p, e, lL, lW, lY, lV, rfl, h1, h2, rfl, En, up⟩ := y
    refine ⟨rfl, h2, ⟨_, rfl⟩, ?_⟩
    rw [lb] at En
    have En' : Ended (XS d) d.v0 picks sc.length 16384 p e lL lW lY lV h' := En
    obtain ⟨⟨S, R⟩, -⟩ := En'.J
    have hgo : ∀ i, ∃ q, Goes i (d.c.P i) (ownOf i p.log) (toldOf i p.u.1) q /\ (match p.st i with | .born => toldOf i p.u.1 = [] | .stands r => ∃ k, q = .step r k | .over => q = .done) := fun i => En'.Q i
    obtain ⟨a, k, I⟩ := sinv_all x.ok x.s0 R
    have hlog := I.short x.ok
    obtain ⟨rfl, hlive, -⟩ : e = 1 /\ p.live sc.length = [] /\ p.log.length <= (16384 : Int).toNat := by
      rcases En'.how with z | z
      · exact z
      · have := z.2.2
        omega
    have hS : ∀ i, i < d.c.T -> S i = .done := fun i hi => by
      obtain ⟨q, hq, hs⟩ := hgo i
      rcases En'.reg.alive i (by omega) with ⟨a1, -⟩ | ⟨a1, a2⟩
      · have : i ∈ p.live sc.length := mem_live.2 ⟨by omega, a1⟩
        rw [hlive] at this; cases this
      · rw [a2] at hs
        subst hs
        exact R.left hq nofun
    obtain ⟨ci, vp⟩ := sends x.ok I hS
    have IM : SMI d p.u.1 p.u.2 h' := En'.I
    obtain ⟨aw, kw, ew⟩ := En'.went.val
    obtain ⟨ay, ky, ey⟩ := En'.rdy.val
    obtain ⟨av, kv, ev⟩ := En'.left.val
    obtain ⟨al, kl, el⟩ := En'.log.val
    have o0 : d.hN[d.c.B 0]? = some (.cells #[ptr (d.c.B 2), ptr (d.c.B 3), .slice (some ⟨d.c.B 1, 0, none⟩) (d.c.n + 1) (d.c.n + 1)] 105 (0, 0)) := x.rep.get (k := 0) (show 0 < 6 + 2 * d.c.n by omega) rfl
    have o1 : d.hN[d.c.B 1]? = some (.cells (itemsL (d.c.n + 1) d.c.B).toArray 109 (0, 0)) := x.rep.get (k := 1) (show 1 < 6 + 2 * d.c.n by omega) rfl
    have cellz : ∀ k, k = 4 \/ k = 5 -> h'[d.c.B k]? = some (cellO (vNewN d.c.n k)) := fun k hk => by
      have hk6 : k < 6 + 2 * d.c.n := by omega
      have hc : d.hN[d.c.B k]? = some (cellO (vNewN d.c.n k)) := stk_cell x.rep (by omega) hk6 rfl
      refine (IM.old _ ⟨lt_of_get hc, fun ⟨j, _, _, j4, j5, e⟩ => ?_, x.nb hc (by decide), x.neD hc (by decide) (by decide) (by decide)⟩).trans hc
      have := x.ok.inj _ _ e
      omega
    refine ⟨lL, lW, lY, lV, p.u.2, p.log.length, a.s, a.ch 2, a.ch 3, fun k => if k = 4 \/ k = 5 then vNewN d.c.n k else p.val (d.c.B k), rfl, ⟨⟨_, _, _, el⟩, ⟨_, _, _, ew⟩, ⟨_, _, _, ey⟩, ⟨_, _, _, ev⟩⟩, ?_, up.size, fun b hb' => IM.old b hb'⟩
    have hmem : ∀ x, x ∈ a.ch 2 \/ x ∈ a.ch 3 -> 1 <= x := fun x hx => (List.mem_range'_1.1 ((ci.np.mem_iff).1 (List.mem_append.2 hx))).1
    have chg : ∀ l : List Nat, (∀ x, x ∈ l -> 1 <= x) -> Chn id (fun j => p.val (d.c.B j)) l -> Chn id (fun k => if k = 4 \/ k = 5 then vNewN d.c.n k else p.val (d.c.B k)) l := fun l hl hc => hc.congr fun x hx => by
      have := hl x hx
      show (if 4 + 2 * x = 4 \/ 4 + 2 * x = 5 then _ else _) = _
      rw [if_neg (by omega)]
    refine ⟨⟨ci.t2, ci.t3, chg _ (fun x hx => hmem x (.inl hx)) ci.c2, chg _ (fun x hx => hmem x (.inr hx)) ci.c3, ci.np⟩, ?_, by rw [I.s]; exact IM.rep, by rw [I.s]; exact IM.key, ⟨fun k hk => ?_, x.rep.inj⟩, fun y hy => ?_⟩
    · have e : ((a.ch 2).map fun x => if 5 + 2 * x = 4 \/ 5 + 2 * x = 5 then vNewN d.c.n (5 + 2 * x) else p.val (d.c.B (5 + 2 * x))) = (a.ch 2).map fun x => p.val (d.c.B (5 + 2 * x)) := List.map_congr_left fun x hx => by
        have := hmem x (.inl hx)
        rw [if_neg (by omega)]
      rw [e]; exact vp
    · have hk' : k < 6 + 2 * d.c.n := hk
      show h'[d.c.B k]? = some (if k = 0 then _ else if k = 1 then _ else cellO (if k = 4 \/ k = 5 then _ else _))
      by_cases k0 : k = 0
      · subst k0; rw [if_pos rfl]
        exact (IM.old _ (x.old o0 (by decide) (by decide) (x.neD o0 (by decide) (by decide) (by decide)))).trans o0
      · by_cases k1 : k = 1
        · subst k1; rw [if_neg k0, if_pos rfl]
          exact (IM.old _ (x.old o1 (by decide) (by decide) (x.neD o1 (by decide) (by decide) (by decide)))).trans o1
        · rw [if_neg k0, if_neg k1]
          by_cases k4 : k = 4 \/ k = 5
          · rw [if_pos k4]; exact cellz k k4
          · rw [if_neg k4]
            exact En'.cel (d.c.B k) ⟨k, by omega, hk', fun e => k4 (.inl e), fun e => k4 (.inr e), rfl⟩
    · obtain ⟨j, q, e, -⟩ := I.old y hy
      rw [e]
      unfold valN
      omega
  · exact y.elim
end
end
section
open Go Go.TJ Go.Conc Go.Proofs
def pushV (v : Nat -> Int) (k : Nat) (x : Int) : Nat -> Int := ut (ut (ut (ut v 3 (laidZ (v 3) (v (4 + 2 * k)))) (5 + 2 * k) x) (4 + 2 * k) (v 2 % 65536)) 2 (laidZ (v 2) k)
section
variable {Γ : Type} {main : Bool} {S : Sit Γ} {h : Hp} {δ : Ix Γ} {n : Nat} {B : Nat -> Nat} {v : Nat -> Int}
set_option maxRecDepth 8000 in
set_option maxHeartbeats 1000000 in
theorem kpushX {k : Nat} {x : Int} (r : Rep h (stkM n B v)) (hn : n <= 4096) (hk : v 3 % 65536 = k) (hk1 : 1 <= k) (hkn : k <= n) (hS : KFree S δ.g n B) :
    CallW Try.prog main S 10 #[ptr (B 0), .pointer none, .int .i64 x] h δ (Ret fun w h' δ' => w = .int .i64 0 /\ δ' = δ /\ Rep h' (stkM n B (pushV v k x)) /\ Upd (KOwn n B) h h') := by
  have ci := stk_items r
  have cf := stk_free r
  refine CallW.start (n := 47) rfl rfl ?_
  (repeat (first | refine EK.seq ?_ | refine EK.region ?_ | refine ER.done ?_ | refine EK.skip ?_ | refine ER.move rfl rfl rfl ?_ | refine ER.assign rfl rfl rfl ?_ | refine ER.nilCheck rfl rfl rfl ?_ | refine ER.fieldAddr rfl rfl rfl ?_ | refine ER.eqV rfl rfl rfl rfl rfl ?_ | refine ER.pickF rfl rfl rfl rfl ?_ | refine ER.cmpF rfl rfl rfl rfl rfl (by first | (dsimp only [cmpP]; omega) | exact rfl | exact Int.le_refl _) ?_ | refine ER.len1 rfl rfl rfl ?_ | refine EK.condF rfl ?_ | refine ER.load1 rfl rfl rfl (by assumption) ?_))
  refine ER.callR rfl rfl rfl rfl rfl (get_some (c := 3) (k := k) r hn (.inr rfl) hk hk1 hkn hS) ?_
  rintro _ h1 δ1 ⟨rfl, rfl, r1, u1⟩
  clear ci cf
  have ci := stk_items r1
  have cv := stk_val r1 (k := k) hkn
  (repeat (first | refine EK.seq ?_ | refine EK.region ?_ | refine ER.done ?_ | refine EK.skip ?_ | refine ER.move rfl rfl rfl ?_ | refine ER.assign rfl rfl rfl ?_ | refine ER.nilCheck rfl rfl rfl ?_ | refine ER.fieldAddr rfl rfl rfl ?_ | refine ER.cmpF rfl rfl rfl rfl rfl (by first | (dsimp only [cmpP]; omega) | exact rfl | exact Int.le_refl _) ?_ | refine ER.indexSl rfl rfl rfl rfl (by omega) (by omega) ?_ | refine EK.condF rfl ?_ | refine ER.load1 rfl rfl rfl (by assumption) ?_))
  refine ER.callD rfl rfl rfl rfl rfl (cstore (stk_cell r1 (k := 5 + 2 * k) (by omega) (by omega) rfl) (fun o => hS _ o (by omega))) ?_
  have r2 := stk_set r1 (k := 5 + 2 * k) (by omega) (by omega) x
  have u2 := Upd.set (T := KOwn n B) h1 (B (5 + 2 * k)) (cellO x) ⟨_, by omega, rfl⟩
  clear ci cv
  generalize h1.setIfInBounds (B (5 + 2 * k)) (cellO x) = h2 at r2 u2 ⊢
  have cl := stk_list r2
  (repeat (first | refine EK.seq ?_ | refine EK.region ?_ | refine ER.done ?_ | refine ER.move rfl rfl rfl ?_ | refine ER.nilCheck rfl rfl rfl ?_ | refine ER.fieldAddr rfl rfl rfl ?_ | refine ER.load1 rfl rfl rfl (by assumption) ?_))
  refine ER.callR rfl rfl rfl rfl rfl (lay_ok (c := 2) (k := k) r2 hn (.inl rfl) hk1 hkn hS) ?_
  rintro _ h3 δ3 ⟨rfl, r3, u3⟩
  (repeat (first | refine EK.seq ?_ | refine EK.region ?_ | refine ER.done ?_ | refine ER.assign rfl rfl rfl ?_ | refine EK.ret ?_))
  have e2 : ut (ut v 3 (laidZ (v 3) (v (4 + 2 * k)))) (5 + 2 * k) x 2 = v 2 := by rw [ut_ne _ _ (by omega), ut_ne _ _ (by omega)]
  rw [e2] at r3
  exact EU.ret1 rfl rfl ⟨rfl, rfl, r3, (u1.trans u2).trans u3⟩
end
theorem CI.bd {n : Nat} {v : Nat -> Int} {l2 l3 : List Nat} (ci : CI n v l2 l3) {x : Nat} (hx : x ∈ l2 \/ x ∈ l3) : 1 <= x /\ x <= n := by
  have := List.mem_range'_1.1 ((ci.np.mem_iff).1 (List.mem_append.2 hx))
  omega
theorem CI.nd {n : Nat} {v : Nat -> Int} {l2 l3 : List Nat} (ci : CI n v l2 l3) : (l2 ++ l3).Nodup := ci.np.nodup_iff.2 List.nodup_range'
theorem CI.hd {n : Nat} {v : Nat -> Int} {l2 l3 : List Nat} (ci : CI n v l2 l3) : (0 <= hdN l2 /\ hdN l2 <= n) /\ (0 <= hdN l3 /\ hdN l3 <= n) := by
  refine ⟨?_, ?_⟩
  · cases l2 with
    | nil => exact ⟨Int.le_refl _, by show (0 : Int) <= n; omega⟩
    | cons y r => have := ci.bd (.inl (List.mem_cons_self (a := y) (l := r))); show 0 <= (y : Int) /\ (y : Int) <= n; omega
  · cases l3 with
    | nil => exact ⟨Int.le_refl _, by show (0 : Int) <= n; omega⟩
    | cons y r => have := ci.bd (.inr (List.mem_cons_self (a := y) (l := r))); show 0 <= (y : Int) /\ (y : Int) <= n; omega
theorem CI.len {n : Nat} {v : Nat -> Int} {l2 l3 : List Nat} (ci : CI n v l2 l3) : l2.length + l3.length = n := by
  have := ci.np.length_eq
  rwa [List.length_append, List.length_range'] at this
theorem hd_le {n : Nat} {l : List Nat} (h : ∀ x, x ∈ l -> x <= n) : 0 <= hdN l /\ hdN l <= n := by
  cases l with
  | nil => exact ⟨Int.le_refl _, by show (0 : Int) <= n; omega⟩
  | cons y r => have := h y List.mem_cons_self; show 0 <= (y : Int) /\ (y : Int) <= n; omega
section
variable {Γ : Type} {main : Bool} {S : Sit Γ} {h : Hp} {δ : Ix Γ} {n : Nat} {B : Nat -> Nat} {v : Nat -> Int} {l2 l3 : List Nat} {y : Nat}
theorem cpush_ok {x : Int} (r : Rep h (stkM n B v)) (hn : n <= 4096) (ci : CI n v l2 (y :: l3)) (hS : KFree S δ.g n B) :
    CallW Try.prog main S 10 #[ptr (B 0), .pointer none, .int .i64 x] h δ (Ret fun w h' δ' => w = .int .i64 0 /\ δ' = δ /\ (∃ v', Rep h' (stkM n B v') /\ CI n v' (y :: l2) l3 /\ v' (5 + 2 * y) = x /\ ∀ k, k ≠ y -> v' (5 + 2 * k) = v (5 + 2 * k)) /\ Upd (KOwn n B) h h') := by
  obtain ⟨y1, y2⟩ := ci.bd (.inr (List.mem_cons_self (a := y) (l := l3)))
  obtain ⟨nd1, nd2, nd3⟩ := List.nodup_append.1 ci.nd
  have ny3 : y ∉ l3 := (List.nodup_cons.1 nd2).1
  have ny2 : y ∉ l2 := fun e => nd3 y e y List.mem_cons_self rfl
  obtain ⟨h31, h32⟩ := hd_le (n := n) (l := l3) fun z hz => (ci.bd (.inr (List.mem_cons_of_mem _ hz))).2
  have c1 : v (4 + 2 * y) = hdN l3 := ci.c3.1
  refine (kpushX (k := y) (x := x) r hn ci.t3 y1 y2 hS).mono ?_
  rintro (w | p) h' δ' z
  · obtain ⟨rfl, rfl, r', u⟩ := z
    refine ⟨rfl, rfl, ⟨_, r', ⟨?_, ?_, ⟨?_, ci.c2.congr fun z hz => ?_⟩, ci.c3.2.congr fun z hz => ?_, ?_⟩, ?_, fun k hk => ?_⟩, u⟩
    · unfold pushV
      rw [ut_same, laidZ_mod (by omega) (by omega)]; rfl
    · unfold pushV
      rw [ut_ne _ _ (by omega), ut_ne _ _ (by omega), ut_ne _ _ (by omega), ut_same, c1, laidZ_mod (by omega) (by omega)]
    · unfold pushV
      show ut _ _ _ (4 + 2 * y) = _
      rw [ut_ne _ _ (by omega), ut_same, ci.t2]
    · have : z ≠ y := fun e => ny2 (e ▸ hz)
      unfold pushV
      show ut _ _ _ (4 + 2 * z) = v (4 + 2 * z)
      rw [ut_ne _ _ (by omega), ut_ne _ _ (by omega), ut_ne _ _ (by omega), ut_ne _ _ (by omega)]
    · have : z ≠ y := fun e => ny3 (e ▸ hz)
      unfold pushV
      show ut _ _ _ (4 + 2 * z) = v (4 + 2 * z)
      rw [ut_ne _ _ (by omega), ut_ne _ _ (by omega), ut_ne _ _ (by omega), ut_ne _ _ (by omega)]
    · exact (List.perm_middle.symm).trans ci.np
    · unfold pushV
      rw [ut_ne _ _ (by omega), ut_ne _ _ (by omega), ut_same]
    · unfold pushV
      rw [ut_ne _ _ (by omega), ut_ne _ _ (by omega), ut_ne _ _ (by omega), ut_ne _ _ (by omega)]
  · exact z.elim
theorem cpush_full {x : Int} (r : Rep h (stkM n B v)) (hn1 : 1 <= n) (ci : CI n v l2 []) : CallW Try.prog main S 10 #[ptr (B 0), .pointer none, .int .i64 x] h δ (Ret (Det (.int .i64 12) h δ)) := by
  have ci' := stk_items r
  have cf := stk_free r
  refine CallW.start (n := 47) rfl rfl ?_
  (repeat (first | refine EK.seq ?_ | refine EK.region ?_ | refine ER.done ?_ | refine EK.skip ?_ | refine ER.move rfl rfl rfl ?_ | refine ER.assign rfl rfl rfl ?_ | refine ER.nilCheck rfl rfl rfl ?_ | refine ER.fieldAddr rfl rfl rfl ?_ | refine ER.eqV rfl rfl rfl rfl rfl ?_ | refine ER.pickF rfl rfl rfl rfl ?_ | refine ER.cmpF rfl rfl rfl rfl rfl (by first | (dsimp only [cmpP]; omega) | exact rfl | exact Int.le_refl _) ?_ | refine ER.len1 rfl rfl rfl ?_ | refine EK.condF rfl ?_ | refine ER.load1 rfl rfl rfl (by assumption) ?_))
  refine ER.callD rfl rfl rfl rfl rfl (get_none (c := 3) r (.inr rfl) ci.t3) ?_
  (repeat (first | refine EK.seq ?_ | refine EK.region ?_ | refine ER.done ?_ | refine ER.move rfl rfl rfl ?_ | refine ER.assign rfl rfl rfl ?_ | refine ER.cmpT rfl rfl rfl rfl rfl (by first | (dsimp only [cmpP]; omega) | exact rfl | exact Int.le_refl _) ?_ | refine EK.condT rfl ?_ | refine EK.ret ?_))
  exact EU.ret1 rfl rfl det
theorem cpop_empty (r : Rep h (stkM n B v)) (ci : CI n v [] l3) : CallW Try.prog main S 11 #[ptr (B 0), .pointer none] h δ (Ret (Det (.tuple #[.int .i64 0, .bool false]) h δ)) := by
  have ci' := stk_items r
  have cl := stk_list r
  refine CallW.start (n := 47) rfl rfl ?_
  (repeat (first | refine EK.seq ?_ | refine EK.region ?_ | refine ER.done ?_ | refine EK.skip ?_ | refine ER.move rfl rfl rfl ?_ | refine ER.assign rfl rfl rfl ?_ | refine ER.nilCheck rfl rfl rfl ?_ | refine ER.fieldAddr rfl rfl rfl ?_ | refine ER.eqV rfl rfl rfl rfl rfl ?_ | refine ER.pickF rfl rfl rfl rfl ?_ | refine ER.cmpF rfl rfl rfl rfl rfl (by first | (dsimp only [cmpP]; omega) | exact rfl | exact Int.le_refl _) ?_ | refine ER.len1 rfl rfl rfl ?_ | refine EK.condF rfl ?_ | refine ER.load1 rfl rfl rfl (by assumption) ?_))
  refine ER.callD rfl rfl rfl rfl rfl (get_none (c := 2) r (.inl rfl) ci.t2) ?_
  (repeat (first | refine EK.seq ?_ | refine EK.region ?_ | refine ER.done ?_ | refine ER.move rfl rfl rfl ?_ | refine ER.assign rfl rfl rfl ?_ | refine ER.cmpT rfl rfl rfl rfl rfl (by first | (dsimp only [cmpP]; omega) | exact rfl | exact Int.le_refl _) ?_ | refine EK.condT rfl ?_ | refine EK.ret ?_))
  exact EU.ret2 rfl rfl rfl det
set_option maxRecDepth 8000 in
set_option maxHeartbeats 1000000 in
theorem cpop_ok (r : Rep h (stkM n B v)) (hn : n <= 4096) (ci : CI n v (y :: l2) l3) (hS : KFree S δ.g n B) :
    CallW Try.prog main S 11 #[ptr (B 0), .pointer none] h δ (Ret fun w h' δ' => w = .tuple #[.int .i64 (v (5 + 2 * y)), .bool true] /\ δ' = δ /\ (∃ v', Rep h' (stkM n B v') /\ CI n v' l2 (y :: l3) /\ ∀ k, v' (5 + 2 * k) = v (5 + 2 * k)) /\ Upd (KOwn n B) h h') := by
  obtain ⟨y1, y2⟩ := ci.bd (.inl (List.mem_cons_self (a := y) (l := l2)))
  obtain ⟨nd1, nd2, nd3⟩ := List.nodup_append.1 ci.nd
  have ny2 : y ∉ l2 := (List.nodup_cons.1 nd1).1
  have ny3 : y ∉ l3 := fun e => nd3 y List.mem_cons_self y e rfl
  obtain ⟨h21, h22⟩ := hd_le (n := n) (l := l2) fun z hz => (ci.bd (.inl (List.mem_cons_of_mem _ hz))).2
  have c1 : v (4 + 2 * y) = hdN l2 := ci.c2.1
  have ci' := stk_items r
  have cl := stk_list r
  refine CallW.start (n := 47) rfl rfl ?_
  (repeat (first | refine EK.seq ?_ | refine EK.region ?_ | refine ER.done ?_ | refine EK.skip ?_ | refine ER.move rfl rfl rfl ?_ | refine ER.assign rfl rfl rfl ?_ | refine ER.nilCheck rfl rfl rfl ?_ | refine ER.fieldAddr rfl rfl rfl ?_ | refine ER.eqV rfl rfl rfl rfl rfl ?_ | refine ER.pickF rfl rfl rfl rfl ?_ | refine ER.cmpF rfl rfl rfl rfl rfl (by first | (dsimp only [cmpP]; omega) | exact rfl | exact Int.le_refl _) ?_ | refine ER.len1 rfl rfl rfl ?_ | refine EK.condF rfl ?_ | refine ER.load1 rfl rfl rfl (by assumption) ?_))
  refine ER.callR rfl rfl rfl rfl rfl (get_some (c := 2) (k := y) r hn (.inl rfl) ci.t2 y1 y2 hS) ?_
  rintro _ h1 δ1 ⟨rfl, rfl, r1, u1⟩
  generalize hf2 : laidZ (v 2) (v (4 + 2 * y)) = f2 at r1
  have f2m : f2 % 65536 = hdN l2 := by
    rw [<- hf2, c1, laidZ_mod (by omega) (by omega)]
  clear ci' cl hf2
  have ci' := stk_items r1
  have cv := stk_val r1 (k := y) y2
  have hx1 : ut v 2 f2 (5 + 2 * y) = v (5 + 2 * y) := by rw [ut_ne _ _ (by omega)]
  (repeat (first | refine EK.seq ?_ | refine EK.region ?_ | refine ER.done ?_ | refine EK.skip ?_ | refine ER.move rfl rfl rfl ?_ | refine ER.assign rfl rfl rfl ?_ | refine ER.nilCheck rfl rfl rfl ?_ | refine ER.fieldAddr rfl rfl rfl ?_ | refine ER.cmpF rfl rfl rfl rfl rfl (by first | (dsimp only [cmpP]; omega) | exact rfl | exact Int.le_refl _) ?_ | refine ER.indexSl rfl rfl rfl rfl (by omega) (by omega) ?_ | refine EK.condF rfl ?_ | refine ER.load1 rfl rfl rfl (by assumption) ?_))
  refine ER.callD rfl rfl rfl rfl rfl (cload (stk_cell r1 (k := 5 + 2 * y) (by omega) (by omega) hx1)) ?_
  have cf := stk_free r1
  (repeat (first | refine EK.seq ?_ | refine EK.region ?_ | refine ER.done ?_ | refine ER.move rfl rfl rfl ?_ | refine ER.assign rfl rfl rfl ?_ | refine ER.nilCheck rfl rfl rfl ?_ | refine ER.fieldAddr rfl rfl rfl ?_ | refine ER.load1 rfl rfl rfl (by assumption) ?_))
  refine ER.callR rfl rfl rfl rfl rfl (lay_ok (c := 3) (k := y) r1 hn (.inr rfl) y1 y2 hS) ?_
  rintro _ h3 δ3 ⟨rfl, r3, u3⟩
  (repeat (first | refine EK.seq ?_ | refine EK.region ?_ | refine ER.done ?_ | refine ER.move rfl rfl rfl ?_ | refine ER.assign rfl rfl rfl ?_ | refine EK.ret ?_))
  have e2 : ut v 2 f2 3 = v 3 := ut_ne _ _ (by omega)
  rw [e2] at r3
  refine EU.ret2 rfl rfl rfl ⟨rfl, rfl, ⟨_, r3, ⟨?_, ?_, ci.c2.2.congr fun z hz => ?_, ⟨?_, ci.c3.congr fun z hz => ?_⟩, ?_⟩, fun k => ?_⟩, u1.trans u3⟩
  · rw [ut_ne _ _ (by omega), ut_ne _ _ (by omega), ut_same]; exact f2m
  · rw [ut_same, laidZ_mod (by omega) (by omega)]; rfl
  · have : z ≠ y := fun e => ny2 (e ▸ hz)
    show ut _ _ _ (4 + 2 * z) = v (4 + 2 * z)
    rw [ut_ne _ _ (by omega), ut_ne _ _ (by omega), ut_ne _ _ (by omega)]
  · show ut _ _ _ (4 + 2 * y) = _
    rw [ut_ne _ _ (by omega), ut_same]; exact ci.t3
  · have : z ≠ y := fun e => ny3 (e ▸ hz)
    show ut _ _ _ (4 + 2 * z) = v (4 + 2 * z)
    rw [ut_ne _ _ (by omega), ut_ne _ _ (by omega), ut_ne _ _ (by omega)]
  · exact (List.perm_middle).trans ci.np
  · rw [ut_ne _ _ (by omega), ut_ne _ _ (by omega), ut_ne _ _ (by omega)]
end
end
section
open Go Go.TJ Go.Conc Go.Proofs
def StkS (n : Nat) (B : Nat -> Nat) (vals : List Int) (f : Nat) (h : Hp) : Prop :=
  ∃ (v : Nat -> Int) (l2 l3 : List Nat), Rep h (stkM n B v) /\ CI n v l2 l3 /\ l2.map (fun x => v (5 + 2 * x)) = vals /\ l3.length = f
theorem StkS.len {n : Nat} {B : Nat -> Nat} {vals : List Int} {f : Nat} {h : Hp} (s : StkS n B vals f h) : vals.length + f = n := by
  obtain ⟨v, l2, l3, -, ci, rfl, rfl⟩ := s
  rw [List.length_map]
  exact ci.len
theorem StkS.upd {n : Nat} {B : Nat -> Nat} {vals : List Int} {f : Nat} {h h' : Hp} {T : Nat -> Prop} (s : StkS n B vals f h) (u : Upd T h h') (hT : ∀ k, k < 6 + 2 * n -> ¬ T (B k)) : StkS n B vals f h' := by
  obtain ⟨v, l2, l3, r, ci, e1, e2⟩ := s
  exact ⟨v, l2, l3, r.upd u fun k hk => hT k hk, ci, e1, e2⟩
section
variable {Γ : Type} {main : Bool} {S : Sit Γ} {h : Hp} {δ : Ix Γ} {n f : Nat} {B : Nat -> Nat} {vals : List Int} {y : Int}
theorem ss_push {x : Int} (s : StkS n B vals (f + 1) h) (hn : n <= 4096) (hS : KFree S δ.g n B) :
    CallW Try.prog main S 10 #[ptr (B 0), .pointer none, .int .i64 x] h δ (Ret fun w h' δ' => w = .int .i64 0 /\ δ' = δ /\ StkS n B (x :: vals) f h' /\ Upd (KOwn n B) h h') := by
  obtain ⟨v, l2, l3, r, ci, e1, e2⟩ := s
  rcases l3 with - | ⟨y, l3⟩
  · cases e2
  have nd := ci.nd
  refine (cpush_ok r hn ci hS).mono ?_
  rintro (w | p) h' δ' z
  · obtain ⟨rfl, rfl, ⟨v', r', ci', hx, hk⟩, u⟩ := z
    refine ⟨rfl, rfl, ⟨v', y :: l2, l3, r', ci', ?_, by simpa using e2⟩, u⟩
    rw [List.map_cons, hx, <- e1]
    congr 1
    refine List.map_congr_left fun z hz => hk z fun e => ?_
    exact (List.nodup_append.1 nd).2.2 z hz y List.mem_cons_self e
  · exact z.elim
theorem ss_full {x : Int} (s : StkS n B vals 0 h) (hn1 : 1 <= n) : CallW Try.prog main S 10 #[ptr (B 0), .pointer none, .int .i64 x] h δ (Ret (Det (.int .i64 12) h δ)) := by
  obtain ⟨v, l2, l3, r, ci, e1, e2⟩ := s
  obtain rfl := List.length_eq_zero_iff.1 e2
  exact cpush_full r hn1 ci
theorem ss_pop (s : StkS n B (y :: vals) f h) (hn : n <= 4096) (hS : KFree S δ.g n B) :
    CallW Try.prog main S 11 #[ptr (B 0), .pointer none] h δ (Ret fun w h' δ' => w = .tuple #[.int .i64 y, .bool true] /\ δ' = δ /\ StkS n B vals (f + 1) h' /\ Upd (KOwn n B) h h') := by
  obtain ⟨v, l2, l3, r, ci, e1, e2⟩ := s
  rcases l2 with - | ⟨z, l2⟩
  · cases e1
  rw [List.map_cons] at e1
  injection e1 with e0 e1
  refine (cpop_ok r hn ci hS).mono ?_
  rintro (w | p) h' δ' q
  · obtain ⟨rfl, rfl, ⟨v', r', ci', hk⟩, u⟩ := q
    refine ⟨by rw [e0], rfl, ⟨v', l2, z :: l3, r', ci', ?_, by rw [List.length_cons, e2]⟩, u⟩
    rw [<- e1]
    exact List.map_congr_left fun z _ => hk z
  · exact q.elim
theorem ss_none (s : StkS n B [] f h) : CallW Try.prog main S 11 #[ptr (B 0), .pointer none] h δ (Ret (Det (.tuple #[.int .i64 0, .bool false]) h δ)) := by
  obtain ⟨v, l2, l3, r, ci, e1, e2⟩ := s
  obtain rfl := List.map_eq_nil_iff.1 e1
  exact cpop_empty r ci
end
section
variable {Γ : Type} {P : Program} {S : Sit Γ} {h : Hp} {δ : Ix Γ}
theorem set_self {h : Hp} {r : Nat} {o : Obj} (hr : h[r]? = some o) : h.setIfInBounds r o = h := by
  apply Array.ext
  · simp
  · intro i h1 h2
    rw [Array.getElem_setIfInBounds]
    split
    · rename_i e
      subst e
      rw [Array.getElem?_eq_getElem h2] at hr
      injection hr with hr
      exact hr.symm
    · rfl
theorem semW_delN {t kt kt' et ty : TypeId} (ht : P.underlying t = some (.map kt et)) (hu : P.underlying kt = some (.int .i64)) {r c : Nat} {es : Array MapEntry} {l : List Int} {y : Int} (hr : h[r]? = some (.map es c)) (hk : KeyI es l) (hy : y ∉ l) {Q : Value -> Hp -> Ix Γ -> Prop} {X : Value -> Hp -> Ix Γ -> Prop}
    (hq : Q (.tuple #[]) h δ) : SemW P S (Builtin.delete_ #[t, kt'] ty #[.map (some r), .int .i64 y]) h δ Q X := by
  unfold Builtin.delete_
  refine semW_underlying ht ?_
  refine semW_bind _ _ _ _ _ _ ?_
  refine ⟨_, hr, nofun, ?_⟩
  refine semW_pureBind (a := Obj.map es c) ?_
  refine semW_bind _ _ _ _ _ _ (semW_checkI hu ?_)
  refine semW_bind _ _ _ _ _ _ (semW_findI hu hk ?_)
  rw [if_neg hy]
  refine ⟨rfl, nofun, ⟨_, hr, nofun, rfl⟩, ?_⟩
  rw [set_self hr]
  exact hq
end
section
variable {Γ : Type} {P : Program} {main : Bool} {S : Sit Γ} {f : FuncId} {n : Nat} {k : List Item} {env : Env} {ds : List Deferred} {h : Hp} {δ : Ix Γ} {R : Post Γ}
variable {ops : Array Oper} {l : List Oper} {d : Nat} {ty : TypeId} {pos : String} {af : Array Edge} {g : Option (Nat × Bool)}
theorem ER.delN {t kt kt' et : TypeId} [ht : Und P t (.map kt et)] [hu : Und P kt (.int .i64)] {x y : Operand} {r c : Nat} {es : Array MapEntry} {ls : List Int} {z : Int}
    (hw : wantE ops env g = some true) (hx : ev env x = some (.map (some r))) (hy : ev env y = some (.int .i64 z)) (hr : h[r]? = some (.map es c)) (hk : KeyI es ls) (hz : z ∉ ls)
    (hn : ER P main S f n ops l k env ds h δ R) : ER P main S f n ops (⟨none, .call { callee := .builtin .delete, args := #[x, y], argTypes := #[t, kt'] }, ty, pos, af, g⟩ :: l) k env ds h δ R :=
  ER.unit (Q := fun h' δ' => h' = h /\ δ' = δ) hw (fun ρ hρ => sem_builtin (vs := #[.map (some r), .int .i64 z]) (by simp [hρ x _ hx, hρ y _ hy]) fun cs => by
    show SemW P S (Builtin.delete_ #[t, kt'] ty #[.map (some r), .int .i64 z] >>= fun v => pure (Next.value v)) h δ _ _
    exact semW_bind _ _ _ _ _ _ (semW_delN ht.out hu.out hr hk hz ⟨.inr ⟨_, rfl⟩, rfl, rfl⟩)) (by rintro _ _ ⟨rfl, rfl⟩; exact hn)
end
end
section
open Go Go.TJ Go.Conc Go.Proofs
section
variable {Γ : Type} {main : Bool} {S : Sit Γ} {δ : Ix Γ} {h h' : Hp} {base : Nat} {scv pv : Value} {sc : List (List SCal)} {N : Int}
set_option maxRecDepth 8000 in
set_option maxHeartbeats 8000000 in
theorem solong_ok {vp : List Value} (hs : ScrO base h scv sc) (hp : RdS h pv vp) (hpl : vp.length <= 1000000000000000) :
    CallW Try.prog main S 7 #[.agg #[.int .i64 N, scv, pv]] h δ (Ret fun v h' δ' => δ' = δ /\ Upd (fun _ => False) h h' /\ ∃ b, v = .bool b /\ (b = false -> sc.length <= 8 /\ (∀ l, l ∈ sc -> l.length <= 400) /\ sumT (fun j => ((sc.getD j []).length : Int)) sc.length <= 400 /\ vp.length <= 2000 /\ 1 <= N /\ N <= 200)) := by
  obtain ⟨aS, kS, eS⟩ := hs.val
  obtain ⟨aP, kP, eP⟩ := hp.val
  subst eS eP
  have big1 := hs.big.1
  obtain ⟨y, hy⟩ : ∃ y, y = h.size := ⟨_, rfl⟩
  refine CallW.start (n := 51) rfl rfl ?_
  (repeat (first | refine EK.seq ?_ | refine EK.region ?_ | refine ER.done ?_ | refine EK.block ?_ | refine ER.assign rfl rfl rfl ?_ | refine ER.boxA rfl rfl rfl ?_))
  refine EK.gen (fun h' => ScrO base h' (.slice aS sc.length kS) sc /\ Upd (fun _ => False) h h' /\ h'[y]? = some (.cells #[.int .i64 N, .slice aS sc.length kS, .slice aP vp.length kP] 27 (0, 0))) ⟨?_, Upd.push _ _, by rw [hy]; exact get_push_new _ _⟩ ?_
  · refine ⟨hs.val, hs.big, fun i l hl => ?_⟩
    obtain ⟨b, o, k, a', k', e1, e2, e3, e4⟩ := hs.row i l hl
    refine ⟨b, o, k, a', k', e1, e2, hcell_push e3, fun j q hq => ?_⟩
    obtain ⟨b', o', f1, f2, f3⟩ := e4 j q hq
    exact ⟨b', o', f1, f2, hcell_push f3⟩
  rw [<- hy]
  clear hs hp hy
  rintro h1 ⟨hs, uu, gy⟩
  have y1 : hcell h1 ⟨y, 1, none⟩ = some (.slice aS sc.length kS) := hcell_of gy rfl
  refine EK.loopInv (fun q : Nat × Nat => [(4, .int .i64 q.1), (3, .int .i64 q.2), (1, ptr y)]) (fun q h' δ' => δ' = δ /\ h' = h1 /\ q.1 <= sc.length /\ q.2 <= 2000000000000000 /\ (∀ j l, j < q.1 -> sc[j]? = some l -> l.length <= q.2) /\ sumT (fun j => ((sc.getD j []).length : Int)) q.1 <= q.2) (fun q => sc.length - q.1) (0, 0) ⟨rfl, rfl, rfl, trivial⟩ ⟨rfl, rfl, Nat.zero_le _, by omega, fun j l hj => by omega, Int.le_refl _⟩ ?_
  rintro ⟨i, m⟩ h2 δ2 ⟨rfl, rfl, hi, hm, hno, hsu⟩ again
  dsimp only at hi hm hno hsu again ⊢
  by_cases hin : i < sc.length
  · by_cases hm4 : m <= 400
    · obtain ⟨l, hl⟩ : ∃ l, sc[i]? = some l := ⟨_, List.getElem?_eq_getElem hin⟩
      obtain ⟨b, o, k, a', k', e1, e2, e3, e4⟩ := hs.row i l hl
      injection e1 with e1
      subst e1
      have hlb := hs.big.2 l (List.mem_of_getElem? hl)
      (repeat (first | refine EK.seq ?_ | refine EK.region ?_ | refine ER.done ?_ | refine EK.skip ?_ | refine EK.block ?_ | refine EK.inBlock ?_ | refine ER.move rfl rfl rfl ?_ | refine ER.assign rfl rfl rfl ?_ | refine ER.fieldAddr rfl rfl rfl ?_ | refine ER.load1 rfl rfl rfl (hcell_of (by assumption) rfl) ?_ | refine ER.pickT rfl rfl rfl rfl ?_ | refine ER.cmpT rfl rfl rfl rfl rfl (by first | (dsimp only [cmpP]; omega) | exact rfl | exact Int.le_refl _) ?_ | refine ER.add (kd := .i64) rfl rfl rfl rfl (i64_in (by omega) (by omega)) ?_ | refine ER.len1 rfl rfl rfl ?_ | refine ER.indexSl rfl rfl rfl rfl (by omega) (by omega) ?_ | refine EK.condT rfl ?_ | refine ER.load1 rfl rfl rfl (by assumption) ?_))
      exact EK.back (again (i + 1, m + 1 + l.length) _ _ (by dsimp only; omega) ⟨rfl, rfl, by dsimp only; omega, by dsimp only; omega, fun j l' hj hl' => by
        dsimp only at hj ⊢
        by_cases e : j = i
        · subst e; rw [hl] at hl'; cases hl'; omega
        · have := hno j l' (by omega) hl'; omega, by
        show sumT (fun j => ((sc.getD j []).length : Int)) i + ((sc.getD i []).length : Int) <= _
        rw [List.getD_eq_getElem?_getD, hl, Option.getD_some]
        show _ <= ((m + 1 + l.length : Nat) : Int)
        omega⟩) ⟨rfl, rfl, rfl, trivial⟩
    · have y2 : hcell h2 ⟨y, 2, none⟩ = some (.slice aP vp.length kP) := hcell_of gy rfl
      (repeat (first | refine EK.seq ?_ | refine EK.region ?_ | refine ER.done ?_ | refine ER.move rfl rfl rfl ?_ | refine ER.assign rfl rfl rfl ?_ | refine ER.fieldAddr rfl rfl rfl ?_ | refine ER.load1 rfl rfl rfl (hcell_of (by assumption) rfl) ?_ | refine ER.no rfl rfl ?_ | refine ER.pickT rfl rfl rfl rfl ?_ | refine ER.cmpT rfl rfl rfl rfl rfl (by first | (dsimp only [cmpP]; omega) | exact rfl | exact Int.le_refl _) ?_ | refine ER.cmpF rfl rfl rfl rfl rfl (by first | (dsimp only [cmpP]; omega) | exact rfl | exact Int.le_refl _) ?_ | refine ER.len1 rfl rfl rfl ?_ | refine EK.condF rfl ?_ | refine EK.ret ?_ | refine EK.exit rfl ?_))
      exact EU.ret1 rfl rfl ⟨rfl, uu, _, rfl, fun e => by cases e⟩
  · obtain rfl : i = sc.length := by omega
    have y2 : hcell h2 ⟨y, 2, none⟩ = some (.slice aP vp.length kP) := hcell_of gy rfl
    have y0 : hcell h2 ⟨y, 0, none⟩ = some (.int .i64 N) := hcell_of gy rfl
    clear again
    by_cases c1 : m <= 400
    · by_cases c2 : sc.length <= 8
      · by_cases c3 : vp.length <= 2000
        · by_cases c4 : 1 <= N
          · by_cases c5 : N <= 200
            · (repeat (first | refine EK.seq ?_ | refine EK.region ?_ | refine ER.done ?_ | refine ER.move rfl rfl rfl ?_ | refine ER.assign rfl rfl rfl ?_ | refine ER.fieldAddr rfl rfl rfl ?_ | refine ER.load1 rfl rfl rfl (hcell_of (by assumption) rfl) ?_ | refine ER.no rfl rfl ?_ | refine ER.pickF rfl rfl rfl rfl ?_ | refine ER.cmpF rfl rfl rfl rfl rfl (by first | (dsimp only [cmpP]; omega) | exact rfl | exact Int.le_refl _) ?_ | refine ER.len1 rfl rfl rfl ?_ | refine EK.condF rfl ?_ | refine EK.ret ?_ | refine EK.exit rfl ?_))
              exact EU.ret1 rfl rfl ⟨rfl, uu, _, rfl, fun _ => ⟨c2, fun l hl => by
                obtain ⟨j, hj, rfl⟩ := List.mem_iff_getElem.1 hl
                have := hno j _ hj (List.getElem?_eq_getElem hj)
                omega, by omega, c3, c4, c5⟩⟩
            · skip
              (repeat (first | refine EK.seq ?_ | refine EK.region ?_ | refine ER.done ?_ | refine ER.move rfl rfl rfl ?_ | refine ER.assign rfl rfl rfl ?_ | refine ER.fieldAddr rfl rfl rfl ?_ | refine ER.load1 rfl rfl rfl (hcell_of (by assumption) rfl) ?_ | refine ER.no rfl rfl ?_ | refine ER.pickF rfl rfl rfl rfl ?_ | refine ER.cmpT rfl rfl rfl rfl rfl (by first | (dsimp only [cmpP]; omega) | exact rfl | exact Int.le_refl _) ?_ | refine ER.cmpF rfl rfl rfl rfl rfl (by first | (dsimp only [cmpP]; omega) | exact rfl | exact Int.le_refl _) ?_ | refine ER.len1 rfl rfl rfl ?_ | refine EK.condF rfl ?_ | refine EK.ret ?_ | refine EK.exit rfl ?_))
              exact EU.ret1 rfl rfl ⟨rfl, uu, _, rfl, fun e => by cases e⟩
          · skip
            (repeat (first | refine EK.seq ?_ | refine EK.region ?_ | refine ER.done ?_ | refine ER.move rfl rfl rfl ?_ | refine ER.assign rfl rfl rfl ?_ | refine ER.fieldAddr rfl rfl rfl ?_ | refine ER.load1 rfl rfl rfl (hcell_of (by assumption) rfl) ?_ | refine ER.no rfl rfl ?_ | refine ER.pickT rfl rfl rfl rfl ?_ | refine ER.pickF rfl rfl rfl rfl ?_ | refine ER.cmpT rfl rfl rfl rfl rfl (by first | (dsimp only [cmpP]; omega) | exact rfl | exact Int.le_refl _) ?_ | refine ER.cmpF rfl rfl rfl rfl rfl (by first | (dsimp only [cmpP]; omega) | exact rfl | exact Int.le_refl _) ?_ | refine ER.len1 rfl rfl rfl ?_ | refine EK.condF rfl ?_ | refine EK.ret ?_ | refine EK.exit rfl ?_))
            exact EU.ret1 rfl rfl ⟨rfl, uu, _, rfl, fun e => by cases e⟩
        · skip
          (repeat (first | refine EK.seq ?_ | refine EK.region ?_ | refine ER.done ?_ | refine ER.move rfl rfl rfl ?_ | refine ER.assign rfl rfl rfl ?_ | refine ER.fieldAddr rfl rfl rfl ?_ | refine ER.load1 rfl rfl rfl (hcell_of (by assumption) rfl) ?_ | refine ER.no rfl rfl ?_ | refine ER.pickT rfl rfl rfl rfl ?_ | refine ER.pickF rfl rfl rfl rfl ?_ | refine ER.cmpT rfl rfl rfl rfl rfl (by first | (dsimp only [cmpP]; omega) | exact rfl | exact Int.le_refl _) ?_ | refine ER.cmpF rfl rfl rfl rfl rfl (by first | (dsimp only [cmpP]; omega) | exact rfl | exact Int.le_refl _) ?_ | refine ER.len1 rfl rfl rfl ?_ | refine EK.condF rfl ?_ | refine EK.ret ?_ | refine EK.exit rfl ?_))
          exact EU.ret1 rfl rfl ⟨rfl, uu, _, rfl, fun e => by cases e⟩
      · skip
        (repeat (first | refine EK.seq ?_ | refine EK.region ?_ | refine ER.done ?_ | refine ER.move rfl rfl rfl ?_ | refine ER.assign rfl rfl rfl ?_ | refine ER.fieldAddr rfl rfl rfl ?_ | refine ER.load1 rfl rfl rfl (hcell_of (by assumption) rfl) ?_ | refine ER.no rfl rfl ?_ | refine ER.pickT rfl rfl rfl rfl ?_ | refine ER.pickF rfl rfl rfl rfl ?_ | refine ER.cmpT rfl rfl rfl rfl rfl (by first | (dsimp only [cmpP]; omega) | exact rfl | exact Int.le_refl _) ?_ | refine ER.cmpF rfl rfl rfl rfl rfl (by first | (dsimp only [cmpP]; omega) | exact rfl | exact Int.le_refl _) ?_ | refine ER.len1 rfl rfl rfl ?_ | refine EK.condF rfl ?_ | refine EK.ret ?_ | refine EK.exit rfl ?_))
        exact EU.ret1 rfl rfl ⟨rfl, uu, _, rfl, fun e => by cases e⟩
    · skip
      (repeat (first | refine EK.seq ?_ | refine EK.region ?_ | refine ER.done ?_ | refine ER.move rfl rfl rfl ?_ | refine ER.assign rfl rfl rfl ?_ | refine ER.fieldAddr rfl rfl rfl ?_ | refine ER.load1 rfl rfl rfl (hcell_of (by assumption) rfl) ?_ | refine ER.no rfl rfl ?_ | refine ER.pickT rfl rfl rfl rfl ?_ | refine ER.pickF rfl rfl rfl rfl ?_ | refine ER.cmpT rfl rfl rfl rfl rfl (by first | (dsimp only [cmpP]; omega) | exact rfl | exact Int.le_refl _) ?_ | refine ER.cmpF rfl rfl rfl rfl rfl (by first | (dsimp only [cmpP]; omega) | exact rfl | exact Int.le_refl _) ?_ | refine ER.len1 rfl rfl rfl ?_ | refine EK.condF rfl ?_ | refine EK.ret ?_ | refine EK.exit rfl ?_))
      exact EU.ret1 rfl rfl ⟨rfl, uu, _, rfl, fun e => by cases e⟩
end
end
section
open Go Go.TJ Go.Conc Go.Proofs
theorem sx_inj {n : Nat} (B : Nat -> Nat) (m : Nat) (inj : ∀ j k, j < n -> k < n -> B j = B k -> j = k) (lt : ∀ k, k < n -> B k < m) : ∃ B' : Nat -> Nat, (∀ k, k < n -> B' k = B k) /\ ∀ j k, B' j = B' k -> j = k := by
  refine ⟨fun k => if k < n then B k else m + k, fun k hk => if_pos hk, fun j k e => ?_⟩
  dsimp only at e
  by_cases hj : j < n <;> by_cases hk : k < n
  · rw [if_pos hj, if_pos hk] at e; exact inj j k hj hk e
  · rw [if_pos hj, if_neg hk] at e; have := lt j hj; omega
  · rw [if_neg hj, if_pos hk] at e; have := lt k hk; omega
  · rw [if_neg hj, if_neg hk] at e; omega
theorem sx_back {B : Nat -> Nat} (inj : ∀ j k, B j = B k -> j = k) : ∃ idx : Nat -> Nat, ∀ k, idx (B k) = k := by
  classical
  refine ⟨fun b => if h : ∃ k, B k = b then Classical.choose h else 0, fun k => ?_⟩
  have h : ∃ j, B j = B k := ⟨k, rfl⟩
  simp only [dif_pos h]
  exact inj _ _ (Classical.choose_spec h)
theorem stkM_congr {n : Nat} {B B' : Nat -> Nat} {v : Nat -> Int} {h : Hp} (r : Rep h (stkM n B v)) (hB : ∀ k, k < 6 + 2 * n -> B' k = B k) : Rep h (stkM n B' v) := by
  refine r.congr (fun k hk => hk) hB (fun k hk => ?_)
  have hk' : k < 6 + 2 * n := hk
  show (if k = 0 then _ else if k = 1 then _ else _) = (if k = 0 then _ else if k = 1 then _ else _)
  by_cases k0 : k = 0
  · rw [if_pos k0, if_pos k0, hB 2 (by omega), hB 3 (by omega), hB 1 (by omega)]
  · by_cases k1 : k = 1
    · rw [if_neg k0, if_pos k1, if_neg k0, if_pos k1, itemsL_congr (B := B') (B' := B) (i := n + 1) (fun k _ hk => hB k (by omega))]
    · rw [if_neg k0, if_neg k1, if_neg k0, if_neg k1]
theorem pushesS (h : Hp) : ∀ (l : List Obj), Upd (fun _ => False) h (l.foldl Array.push h) /\ (l.foldl Array.push h).size = h.size + l.length /\ ∀ i o, l[i]? = some o -> (l.foldl Array.push h)[h.size + i]? = some o := by
  intro l
  induction l generalizing h with
  | nil => exact ⟨Upd.refl _ _, rfl, fun i o hi => by cases hi⟩
  | cons a l ih =>
    obtain ⟨i1, i2, i3⟩ := ih (h.push a)
    refine ⟨(Upd.push _ _).trans i1, ?_, fun i o hi => ?_⟩
    · show (l.foldl Array.push (h.push a)).size = _
      rw [i2, Array.size_push, List.length_cons]; omega
    · show (l.foldl Array.push (h.push a))[h.size + i]? = _
      cases i with
      | zero =>
        have e : a = o := by simpa using hi
        subst e
        exact i1.get (get_push_new h a) (fun x => x)
      | succ i =>
        have := i3 i o (by simpa using hi)
        rw [Array.size_push] at this
        rw [show h.size + (i + 1) = h.size + 1 + i by omega]; exact this
def snm (y : Nat) : SNm -> Nat
  | .map => y
  | .stk => y + 2
  | .busy => y + 3
  | .begun => y + 4
  | .wrong => y + 5
theorem snm_inj {y : Nat} : ∀ {j k : SNm}, snm y j = snm y k -> j = k := by
  intro j k e
  cases j <;> cases k <;> first | rfl | (exfalso; simp only [snm] at e; omega)
abbrev bodF (y bx bs b : Nat) : Value := .func (.func 9) #[] #[ptr bx, ptr b, ptr (y + 3), ptr (y + 4), ptr (y + 1), ptr bs, ptr (y + 2), ptr (y + 5)]
structure SLI (hA : Hp) (y bx bs i z : Nat) (bv : Value) (iBs : List Nat) (h : Hp) : Prop where
  up : Upd (fun _ => False) hA h
  bods : SliceO h bv 43 1 i (iBs.map fun b => bodF y bx bs b)
  nb : ∀ b, blk bv = some b -> hA.size <= b
  ib : iBs.length = i
  ibx : ∀ (j b : Nat), iBs[j]? = some b -> h[b]? = some (.cells #[.int .i64 (j : Int)] 3 (0, 0)) /\ y + 6 <= b
  box : h[z]? = some (.cells #[.int .i64 (i : Int)] 3 (0, 0)) /\ y + 6 <= z
theorem SLI.next {hA h h1 : Hp} {y bx bs i z : Nat} {bv bv' : Value} {iBs : List Nat} (hy : y + 6 <= hA.size) (I : SLI hA y bx bs i z bv iBs h) (u : Upd (fun b => blk bv = some b) h h1) (sl : SliceO h1 bv' 43 1 (i + 1) ((iBs.map fun b => bodF y bx bs b) ++ [bodF y bx bs z])) (hbb : ∀ b, blk bv' = some b -> blk bv = some b \/ h.size <= b) :
    SLI hA y bx bs (i + 1) h1.size bv' (iBs ++ [z]) (h1.push (.cells #[.int .i64 ((i + 1 : Nat) : Int)] 3)) := by
  have keep : ∀ {q : Nat} {a : Array Value} {t : TypeId}, h[q]? = some (.cells a t (0, 0)) -> t ≠ 43 -> (h1.push (.cells #[.int .i64 ((i + 1 : Nat) : Int)] 3))[q]? = some (.cells a t (0, 0)) := fun hq ht => get_push _ (u.get hq (fun e => sliceO_ne I.bods hq (Ne.symm ht) _ e rfl))
  have hs := I.up.size
  refine ⟨(I.up.over u I.nb).trans (Upd.push _ _), ?_, fun b hb => (hbb b hb).elim (I.nb b) (fun z => by omega), by rw [List.length_append, I.ib]; rfl, fun j b hj => ?_, get_push_new _ _, by have := u.size; omega⟩
  · have e : ((iBs ++ [z]).map fun b => bodF y bx bs b) = (iBs.map fun b => bodF y bx bs b) ++ [bodF y bx bs z] := by rw [List.map_append]; rfl
    rw [e]
    exact sl.upd (Upd.push (T := fun _ => False) _ _) (fun _ _ z => z)
  · by_cases e : j < iBs.length
    · rw [List.getElem?_append_left e] at hj
      exact ⟨keep (I.ibx j b hj).1 (by decide), (I.ibx j b hj).2⟩
    · rw [List.getElem?_append_right (by omega)] at hj
      have : j - iBs.length = 0 := by
        rcases Nat.eq_zero_or_pos (j - iBs.length) with z | z
        · exact z
        · rw [List.getElem?_eq_none (by rw [List.length_singleton]; exact z)] at hj; cases hj
      rw [this] at hj
      have ey : z = b := by simpa using hj
      have ej : j = i := by rw [<- I.ib]; omega
      subst ey ej
      exact ⟨keep I.box.1 (by decide), I.box.2⟩
structure SDr (f0 n i : Nat) (rest th : List Int) : Prop where
  len : rest.length + i = n
  neg : ∀ j, j < f0 - i -> rest[j]? = some (-1)
  pos : ∀ y, y ∈ th -> 1 <= y
  pm : th.Perm (rest.drop (f0 - i))
theorem SDr.init {f0 n : Nat} {vals th : List Int} (hl : f0 + vals.length = n) (hp : ∀ y, y ∈ th -> 1 <= y) (pm : th.Perm vals) : SDr f0 n 0 (List.replicate f0 (-1) ++ vals) th :=
  ⟨by rw [List.length_append, List.length_replicate]; exact hl, fun j hj => by rw [List.getElem?_append_left (by rw [List.length_replicate]; exact hj), List.getElem?_replicate, if_pos (by omega)], hp, by
    rw [Nat.sub_zero, List.drop_append_of_le_length (by simp), List.drop_eq_nil_of_le (by simp)]; exact pm⟩
theorem SDr.one {f0 n i : Nat} {rest th : List Int} (s : SDr f0 n i rest th) (h : i < f0) (hi : i < n) : ∃ r, rest = (-1) :: r /\ (-1 : Int) ∉ th /\ SDr f0 n (i + 1) r th := by
  obtain ⟨s1, s2, s3, s4⟩ := s
  rcases rest with - | ⟨y, r⟩
  · simp at s1; omega
  have e : y = -1 := by simpa using s2 0 (by omega)
  subst e
  refine ⟨r, rfl, fun hm => by have := s3 _ hm; omega, ⟨by simp at s1; omega, fun j hj => ?_, s3, ?_⟩⟩
  · have := s2 (j + 1) (by omega)
    simpa using this
  · rw [show f0 - i = (f0 - (i + 1)) + 1 by omega, List.drop_succ_cons] at s4
    exact s4
theorem SDr.two {f0 n i : Nat} {rest th : List Int} (s : SDr f0 n i rest th) (h : f0 <= i) (hi : i < n) : ∃ y r, rest = y :: r /\ y ∈ th /\ SDr f0 n (i + 1) r (th.erase y) := by
  obtain ⟨s1, s2, s3, s4⟩ := s
  rcases rest with - | ⟨y, r⟩
  · simp at s1; omega
  rw [show f0 - i = 0 by omega, List.drop_zero] at s4
  refine ⟨y, r, rfl, (s4.mem_iff).2 List.mem_cons_self, ⟨by simp at s1; omega, fun j hj => by omega, fun z hz => s3 z (List.mem_of_mem_erase hz), ?_⟩⟩
  rw [show f0 - (i + 1) = 0 by omega, List.drop_zero]
  have := s4.erase y
  rwa [List.erase_cons_head] at this
set_option maxRecDepth 8000 in
set_option maxHeartbeats 40000000 in
theorem sonce_ok {h : Hp} {N : Int} {scv pv : Value} {sc : List (List SCal)} {picks : List Int} (hs : ScrO h.size h scv sc) (hp : RdS h pv (picks.map fun x => .int .i64 x)) (hpl : picks.length <= 1000000000000000) :
    CallW Try.prog true (SwS Try.prog) 3 #[.agg #[.int .i64 N, scv, pv]] h ⟨0, 1⟩ (Ret fun v h' δ' => δ'.d = 0 /\ v = .bool true /\ Upd (fun _ => False) h h') := by
  obtain ⟨aS, kS, eS⟩ := hs.val
  obtain ⟨aP, kP, eP⟩ := hp.val
  rw [List.length_map] at eP
  subst eS eP
  have big1 := hs.big.1
  have no : ∀ a, ¬ (SwS Try.prog).still 1 a := fun a x => x
  obtain ⟨bx, hbx⟩ : ∃ bx, bx = h.size := ⟨_, rfl⟩
  refine CallW.start (n := 134) rfl rfl ?_
  (repeat (first | refine EK.seq ?_ | refine EK.region ?_ | refine ER.done ?_ | refine ER.assign rfl rfl rfl ?_ | refine ER.boxA rfl rfl rfl ?_))
  refine ER.callR rfl rfl rfl rfl rfl (stkworks_ok.noS no) ?_
  rintro _ h1 δ1 ⟨rfl, u1, rfl⟩
  have gx : h1[bx]? = some (.cells #[.int .i64 N, .slice aS sc.length kS, .slice aP picks.length kP] 27 (0, 0)) := u1.get (by rw [hbx]; exact get_push_new _ _) (fun x => x)
  have uu : Upd (fun _ => False) h h1 := (Upd.push _ _).trans u1
  rw [<- hbx]
  have hbx0 : h.size <= bx := by omega
  clear u1 hbx
  (repeat (first | refine EK.seq ?_ | refine EK.region ?_ | refine ER.done ?_ | refine ER.move rfl rfl rfl ?_ | refine ER.assign rfl rfl rfl ?_ | refine ER.notB rfl rfl rfl ?_))
  refine ER.loadN (vs := [.int .i64 N, .slice aS sc.length kS, .slice aP picks.length kP]) rfl rfl rfl rfl (hrow_block (rest := []) gx) ?_
  have hs1 : ScrO h.size h1 (.slice aS sc.length kS) sc := hs.low fun b hb => uu.2 b hb (fun x => x)
  have hp1 : RdS h1 (.slice aP picks.length kP) (picks.map fun x => .int .i64 x) := hp.upd uu (fun _ _ _ x => x)
  refine ER.callR rfl rfl rfl rfl rfl (solong_ok hs1 hp1 (by rw [List.length_map]; exact hpl)) ?_
  rintro _ h2 δ2 ⟨rfl, u2, b, rfl, hlong⟩
  replace gx := u2.get gx (fun x => x)
  replace uu := uu.trans u2
  clear u2 hs1 hp1
  cases b with
  | true =>
    (repeat (first | refine EK.seq ?_ | refine EK.region ?_ | refine ER.done ?_ | refine ER.move rfl rfl rfl ?_ | refine ER.assign rfl rfl rfl ?_ | refine ER.pickF rfl rfl rfl rfl ?_ | refine EK.condT rfl ?_ | refine EK.ret ?_))
    exact EU.ret1 rfl rfl ⟨rfl, rfl, uu⟩
  | false =>
    obtain ⟨l1, l2, l3, l4, l5, l6⟩ := hlong rfl
    rw [List.length_map] at l4
    obtain ⟨n, rfl⟩ : ∃ n : Nat, N = n := ⟨N.toNat, by omega⟩
    clear hlong
    have c0 : hcell h2 ⟨bx, 0, none⟩ = some (.int .i64 n) := hcell_of gx rfl
    (repeat (first | refine EK.seq ?_ | refine EK.region ?_ | refine ER.done ?_ | refine EK.skip ?_ | refine ER.fieldAddr rfl rfl rfl ?_ | refine ER.load1 rfl rfl rfl (hcell_of (by assumption) rfl) ?_ | refine ER.pickF rfl rfl rfl rfl ?_ | refine EK.condF rfl ?_))
    refine ER.callR rfl rfl rfl rfl rfl ((stknew_ok (n := n) (by omega) (by omega) (fun _ _ _ x => x)).noS no) ?_
    rintro _ h3 δ3 ⟨rfl, u3, B0, rfl, r3, ab⟩
    have hh2 := uu.size
    obtain ⟨B, hB, inj⟩ := sx_inj B0 h3.size (fun j k hj hk e => r3.inj j k hj hk e) (fun k hk => r3.lt (k := k) hk)
    have lowB : ∀ k, k < 6 + 2 * n -> h.size <= B k := fun k hk => by rw [hB k hk]; exact Nat.le_trans hh2 (ab k hk)
    replace r3 : Rep h3 (stkM n B (vNewN n)) := stkM_congr r3 hB
    rw [<- hB 0 (by omega)]
    replace gx := u3.get gx (fun x => x)
    replace uu := uu.trans u3
    clear u3 ab hh2 hB c0
    (repeat (first | refine ER.move rfl rfl rfl ?_ | refine ER.extract rfl rfl rfl rfl ?_ | refine ER.alloc rfl rfl ?_))
    refine ER.storeNew rfl rfl rfl rfl ⟨nofun, nofun⟩ (no _) ?_
    obtain ⟨bs, hbs⟩ : ∃ bs, bs = h3.size := ⟨_, rfl⟩
    refine ER.gen (fun h' => Upd (fun _ => False) h3 h' /\ h'[bs]? = some (.cells #[ptr (B 0)] 29 (0, 0))) ⟨Upd.push _ _, by rw [hbs]; exact get_push_new _ _⟩ ?_
    rw [<- hbs]
    have hbs0 : h.size <= bs := by have := uu.size; omega
    clear hbs
    rintro h4 ⟨u4, gs⟩
    replace gx := u4.get gx (fun x => x)
    replace r3 := r3.upd0 u4
    replace uu := uu.trans u4
    clear u4
    have cs : hcell h4 ⟨bs, 0, none⟩ = some (ptr (B 0)) := hcell_of gs rfl
    obtain ⟨y, hy⟩ : ∃ y, y = h4.size := ⟨_, rfl⟩
    have hy0 : h.size <= y := by rw [hy]; exact uu.size
    (repeat (first | refine EK.seq ?_ | refine EK.region ?_ | refine ER.done ?_ | refine EK.skip ?_ | refine ER.move rfl rfl rfl ?_ | refine ER.assign rfl rfl rfl ?_ | refine ER.load1 rfl rfl rfl (hcell_of (by assumption) rfl) ?_ | refine ER.eqV rfl rfl rfl rfl rfl ?_ | refine ER.pickF rfl rfl rfl rfl ?_ | refine ER.cmpF rfl rfl rfl rfl rfl (by first | (dsimp only [cmpP]; omega) | exact rfl | exact Int.le_refl _) ?_ | refine EK.condF rfl ?_))
    refine ER.makeMap rfl rfl ?_
    (repeat refine ER.alloc rfl rfl ?_)
    refine ER.storeNew rfl rfl rfl rfl ⟨nofun, nofun⟩ (no _) ?_
    (repeat (first | refine EK.seq ?_ | refine EK.region ?_ | refine ER.done ?_ | refine ER.alloc rfl rfl ?_))
    refine ER.storeNew rfl rfl rfl rfl ⟨nofun, nofun⟩ (no _) ?_
    (repeat (first | refine EK.seq ?_ | refine EK.region ?_ | refine ER.done ?_ | refine ER.alloc rfl rfl ?_))
    refine ER.storeNew rfl rfl rfl rfl ⟨nofun, nofun⟩ (no _) ?_
    (repeat (first | refine EK.seq ?_ | refine EK.region ?_ | refine ER.done ?_ | refine ER.alloc rfl rfl ?_))
    refine ER.storeNew rfl rfl rfl rfl ⟨nofun, nofun⟩ (no _) ?_
    (repeat (first | refine EK.seq ?_ | refine EK.region ?_ | refine ER.done ?_ | refine ER.assign rfl rfl rfl ?_ | refine ER.alloc rfl rfl ?_))
    refine ER.storeNew rfl rfl rfl rfl ⟨nofun, nofun⟩ (no _) ?_
    simp only [Array.size_push]
    rw [<- hy]
    refine ER.gen (fun h' => Upd (fun _ => False) h4 h' /\ h'.size = y + 7 /\ h'[y]? = some (.map #[] 0) /\ h'[y + 1]? = some (.cells #[.map (some y)] 33 (0, 0)) /\ h'[y + 2]? = some (.cells #[nilS] 34 (0, 0)) /\ h'[y + 3]? = some (.cells #[.int .i64 0] 3 (0, 0)) /\ h'[y + 4]? = some (.cells #[.int .i64 0] 3 (0, 0)) /\
      h'[y + 5]? = some (.cells #[.bool false] 4 (0, 0)) /\ h'[y + 6]? = some (.cells #[.int .i64 0] 3 (0, 0))) ?_ ?_
    · have q := pushesS h4 [.map #[] 0, .cells #[.map (some y)] 33, .cells #[nilS] 34, .cells #[.int .i64 0] 3, .cells #[.int .i64 0] 3, .cells #[.bool false] 4, .cells #[.int .i64 0] 3]
      rw [<- hy] at q
      exact ⟨q.1, q.2.1, q.2.2 0 _ rfl, q.2.2 1 _ rfl, q.2.2 2 _ rfl, q.2.2 3 _ rfl, q.2.2 4 _ rfl, q.2.2 5 _ rfl, q.2.2 6 _ rfl⟩
    rintro hA ⟨uA, sA, f0, f1, f2, f3, f4, f5, f6⟩
    replace gx := uA.get gx (fun x => x)
    replace gs := uA.get gs (fun x => x)
    replace r3 := r3.upd0 uA
    replace uu := uu.trans uA
    clear uA cs
    have I : SLI hA y bx bs 0 (y + 6) nilS [] hA := ⟨Upd.refl _ _, SliceO.nil, fun b hb => (by cases hb), rfl, fun j b hj => (by cases hj), f6, Nat.le_refl _⟩
    (repeat (first | refine ER.done ?_ | refine EK.block ?_))
    refine EK.loopInv (fun q : Nat × Nat × Value × List Nat => [(12, ptr q.2.1), (11, q.2.2.1), (10, ptr (y + 5)), (9, ptr (y + 4)), (8, ptr (y + 3)), (7, ptr (y + 2)), (6, ptr (y + 1)), (4, ptr bs), (2, .bool false), (1, ptr bx)]) (fun q h' δ' => δ' = ⟨0, 1⟩ /\ q.1 <= sc.length /\ SLI hA y bx bs q.1 q.2.1 q.2.2.1 q.2.2.2 h') (fun q => sc.length - q.1) (0, y + 6, nilS, []) ⟨rfl, rfl, rfl, rfl, rfl, rfl, rfl, rfl, rfl, rfl, trivial⟩ ⟨rfl, Nat.zero_le _, I⟩ ?_
    clear I
    rintro ⟨i, z, bv, iBs⟩ h6 δ6 ⟨hδ, hi, I⟩ again
    dsimp only at hδ hi I again ⊢
    subst hδ
    have bz : hcell h6 ⟨z, 0, none⟩ = some (.int .i64 (i : Int)) := hcell_of I.box.1 rfl
    have c1 : hcell h6 ⟨bx, 1, none⟩ = some (.slice aS sc.length kS) := hcell_of (I.up.get gx (fun x => x)) rfl
    by_cases hin : i < sc.length
    · obtain ⟨aB, kB, eB⟩ := I.bods.val
      subst eB
      have hsl := I.bods
      (repeat (first | refine EK.seq ?_ | refine EK.region ?_ | refine ER.done ?_ | refine EK.skip ?_ | refine EK.block ?_ | refine ER.move rfl rfl rfl ?_ | refine ER.fieldAddr rfl rfl rfl ?_ | refine ER.cmpT rfl rfl rfl rfl rfl (by first | (dsimp only [cmpP]; omega) | exact rfl | exact Int.le_refl _) ?_ | refine ER.len1 rfl rfl rfl ?_ | refine EK.condT rfl ?_ | refine ER.load1 rfl rfl rfl (by assumption) ?_))
      refine ER.makeFunc (fv := #[]) (cv := #[ptr bx, ptr z, ptr (y + 3), ptr (y + 4), ptr (y + 1), ptr bs, ptr (y + 2), ptr (y + 5)]) rfl rfl (fun ρ hρ => ⟨map_ofL hρ (vs := []) rfl, map_ofL hρ (vs := [ptr bx, ptr z, ptr (y + 3), ptr (y + 4), ptr (y + 1), ptr bs, ptr (y + 2), ptr (y + 5)]) rfl⟩) ?_
      refine ER.slice1 (sz := 1) (z := .nilFunc) (cells := #[bodF y bx bs z]) rfl rfl rfl (by omega) (by omega) (by rfl) rfl ?_
      have u6 := Upd.push (T := fun _ => False) h6 (.cells #[bodF y bx bs z] 43)
      refine ER.append1 (new := [bodF y bx bs z]) rfl rfl rfl rfl (hsl.upd u6 (fun _ _ z => z)) (get_push_new _ _) rfl (by simp [OneCell]) (by omega) (by omega) (by rfl) (fun _ _ _ => no _) ?_
      intro s7 h7 sl7 u7 hb7
      have uu7 : Upd (fun b => blk (.slice aB i kB) = some b) h6 h7 := upd_then (u6.mono (fun _ _ z => z.elim)) u7 (fun _ _ z => z)
      have I7 := I.next (by omega) uu7 sl7 (fun b hb => (hb7 b hb).imp id (fun e => by rw [e, Array.size_push]; omega))
      have bz7 : h7[z]? = some (.cells #[.int .i64 i] 3 (0, 0)) := uu7.get I.box.1 (fun e => sliceO_ne I.bods I.box.1 (by decide) z e rfl)
      clear I u6 sl7 u7 hb7 uu7 bz c1 hsl
      (repeat (first | refine EK.seq ?_ | refine EK.region ?_ | refine ER.done ?_ | refine EK.inBlock ?_ | refine ER.assign rfl rfl rfl ?_ | refine ER.load1 rfl rfl rfl (hcell_of (by assumption) rfl) ?_ | refine ER.alloc rfl rfl ?_))
      refine ER.storeNew rfl rfl rfl rfl ⟨nofun, nofun⟩ (no _) ?_
      have g8 := get_push_new h7 (.cells #[.int .i64 i] 3)
      (repeat (first | refine EK.region ?_ | refine ER.done ?_ | refine ER.load1 rfl rfl rfl (hcell_of (by assumption) rfl) ?_ | refine ER.add (kd := .i64) rfl rfl rfl rfl (i64_in (by omega) (by omega)) ?_))
      refine ER.store1 rfl rfl rfl ⟨nofun, nofun⟩ ⟨_, hcell_of g8 rfl⟩ (hfroz_of g8) (no _) ?_
      have e9 : hset (h7.push (.cells #[.int .i64 i] 3)) ⟨h7.size, 0, none⟩ (.int .i64 ((i + 1 : Nat) : Int)) = h7.push (.cells #[.int .i64 ((i + 1 : Nat) : Int)] 3) := by
        rw [hset_one g8]; exact push_set _ _ _
      rw [show ((i : Int) + 1) = ((i + 1 : Nat) : Int) by omega]
      change ER _ _ _ _ _ _ _ _ _ _ (hset (h7.push (.cells #[.int .i64 i] 3)) ⟨h7.size, 0, none⟩ (.int .i64 ((i + 1 : Nat) : Int))) _ _
      rw [e9]
      clear e9 g8 bz7
      (repeat refine ER.done ?_)
      exact EK.back (again (i + 1, h7.size, s7, iBs ++ [z]) _ _ (by dsimp only; omega) ⟨rfl, by dsimp only; omega, I7⟩) ⟨rfl, rfl, rfl, rfl, rfl, rfl, rfl, rfl, rfl, rfl, trivial⟩
    · obtain rfl : i = sc.length := by omega
      clear again hin hi
      have uu6 := uu.trans I.up
      have hA0 : h.size <= hA.size := uu.size
      obtain ⟨idx, hidx⟩ := sx_back inj
      obtain ⟨d, hd⟩ : ∃ d : S1, d = ⟨⟨n, 65537, B, sc.map fun l => l.map fun q => decide (q.1 = 0)⟩, h6, fun b => blk bv = some b, snm y, fun b => vNewN n (idx b)⟩ := ⟨_, rfl⟩
      have pre : SPre d h.size bx bs (y + 1) (.slice aS sc.length kS) (.slice aP picks.length kP) bv sc iBs picks := by
        subst hd
        refine ⟨⟨inj, by show 1 <= n; omega, by show n <= 4096; omega, by show (sc.map _).length <= 8; rw [List.length_map]; exact l1, fun l hl => ?_, Nat.le_refl _, ?_⟩, r3.upd0 I.up, fun b => Iff.rfl, ⟨fun k _ => ?_, fun j k _ _ e => snm_inj e⟩, fun k h2 hk => by show vNewN n (idx (B k)) = _; rw [hidx k], I.up.get gx (fun x => x), I.up.get gs (fun x => x), I.up.get f1 (fun x => x), lowB, fun k => ?_, fun b hb => Nat.le_trans hA0 (I.nb b hb), hs.low fun b hb => uu6.2 b hb (fun x => x), ⟨hp.upd uu6 (fun _ _ _ x => x), fun hne b hb => hp.lt (fun e => hne (List.map_eq_nil_iff.1 e)) b hb⟩, rfl, I.ib, fun j b hj => ⟨(I.ibx j b hj).1, fun k e => ?_⟩, ?_⟩
        · obtain ⟨l', hl', rfl⟩ := List.mem_map.1 hl
          rw [List.length_map]
          exact l2 l' hl'
        · show sumT (fun j => (((sc.map fun l => l.map fun q => decide (q.1 = 0)).getD j []).length : Int)) (sc.map fun l => l.map fun q => decide (q.1 = 0)).length <= 400
          rw [List.length_map]
          refine Int.le_trans (Int.le_of_eq (sumT_congr fun j hj => ?_)) l3
          rw [List.getD_eq_getElem?_getD, List.getElem?_map, List.getElem?_eq_getElem hj, List.getD_eq_getElem?_getD, List.getElem?_eq_getElem hj]
          simp
        · show h6[snm y k]? = _
          cases k with
          | map => exact I.up.get f0 (fun x => x)
          | stk => exact I.up.get f2 (fun x => x)
          | busy => exact I.up.get f3 (fun x => x)
          | begun => exact I.up.get f4 (fun x => x)
          | wrong => exact I.up.get f5 (fun x => x)
        · show h.size <= snm y k
          cases k <;> (simp only [snm]; omega)
        · have h1 := (I.ibx j b hj).2
          have e' : b = snm y k := e
          cases k <;> (simp only [snm] at e'; omega)
        · rw [List.map_map]
          exact I.bods
      have c2 : hcell h6 ⟨bx, 2, none⟩ = some (.slice aP picks.length kP) := hcell_of (I.up.get gx (fun x => x)) rfl
      have eh : d.hN = h6 := by rw [hd]
      have en : d.c.n = n := by rw [hd]
      have eB : d.c.B = B := by rw [hd]
      have eD : ∀ k, d.D k = snm y k := by rw [hd]; exact fun k => rfl
      have hbase : h.size <= d.hN.size := by rw [eh]; exact uu6.size
      have hrun := srun_ok pre hbase
      rw [eh] at hrun
      (repeat (first | refine EK.seq ?_ | refine EK.region ?_ | refine ER.done ?_ | refine ER.move rfl rfl rfl ?_ | refine ER.fieldAddr rfl rfl rfl ?_ | refine ER.cmpF rfl rfl rfl rfl rfl (by first | (dsimp only [cmpP]; omega) | exact rfl | exact Int.le_refl _) ?_ | refine ER.len1 rfl rfl rfl ?_ | refine EK.condF rfl ?_ | refine EK.exit rfl ?_ | refine ER.load1 rfl rfl rfl (by assumption) ?_))
      refine ER.callR rfl rfl rfl rfl rfl hrun ?_
      rintro _ h7 δ7 ⟨⟨m, rfl⟩, lL, lW, lY, lV, mv, nl, s, q2, q3, val, rfl, ⟨⟨aL, nL, kL, eL⟩, ⟨aW, nW, kW, eW⟩, ⟨aY, nY, kY, eY⟩, ⟨aV, nV, kV, eV⟩⟩, En, sz7, keep⟩
      subst eL eW eY eV
      have E := senv_of pre hbase
      have nx := pre.apart pre.p (by decide) (by decide) (by decide) (by decide) (by decide) (by decide)
      have ns := pre.apart pre.s (by decide) (by decide) (by decide) (by decide) (by decide) (by decide)
      have nt := pre.apart pre.t (by decide) (by decide) (by decide) (by decide) (by decide) (by decide)
      have gx7 := (keep _ E.p.1).trans (I.up.get gx (fun x => x))
      have gs7 := (keep _ E.s.1).trans (I.up.get gs (fun x => x))
      have gt7 := (keep _ E.t.1).trans (I.up.get f1 (fun x => x))
      have hD0 : ∀ b, ((∃ k, b = d.D k) \/ KOwn d.c.n d.c.B b) -> h.size <= b /\ b < h6.size := fun b hb => by
        rcases hb with ⟨k, rfl⟩ | ⟨k, hk, rfl⟩
        · have := pre.vs.lt (k := k) trivial
          rw [eh] at this
          exact ⟨pre.lowD k, this⟩
        · have := pre.rep.lt (k := k) hk
          rw [eh] at this
          exact ⟨pre.lowB k hk, this⟩
      have apD : ∀ k j, j < 6 + 2 * d.c.n -> d.D k ≠ d.c.B j := fun k j hj e => by
        have h1 := pre.vs.has k trivial
        change d.hN[d.D k]? = _ at h1
        have h2 : d.hN[d.c.B j]? = some (if j = 0 then _ else if j = 1 then _ else _) := pre.rep.has j hj
        rw [<- e, h1] at h2
        by_cases j0 : j = 0
        · rw [if_pos j0] at h2
          cases k <;> first | (cases h2; done) | (injection h2 with h2; injection h2 with _ h2 _; exact absurd h2 (by decide))
        · by_cases j1 : j = 1
          · rw [if_neg j0, if_pos j1] at h2
            cases k <;> first | (cases h2; done) | (injection h2 with h2; injection h2 with _ h2 _; exact absurd h2 (by decide))
          · rw [if_neg j0, if_neg j1] at h2
            cases k <;> first | (cases h2; done) | (injection h2 with h2; injection h2 with _ h2 _; exact absurd h2 (by decide))
      have uu7 : Upd (fun _ => False) h h7 := ⟨by have := uu6.size; omega, fun b hb _ => (keep b (pre.low hbase hb)).trans (uu6.2 b hb (fun x => x))⟩
      have no7 : ∀ a, ¬ (SwS Try.prog).still m a := fun a x => x
      rw [en, eB] at hD0 apD nx ns nt
      have ss7 : StkS n B (q2.map fun x => val (5 + 2 * x)) q3.length h7 := ⟨val, q2, q3, by rw [<- en, <- eB]; exact En.rep, by rw [<- en]; exact En.ci, rfl, rfl⟩
      have hlen := ss7.len
      have hpm := En.vp
      have hpos := En.pos
      have hkey := En.key
      have hvs := En.vs
      clear keep I hrun f0 f1 f2 f3 f4 f5 f6 gx gs r3 uu bz c1 c2 hs hp E En pre hidx lowB
      (repeat refine ER.allocA rfl rfl ?_)
      refine ER.storeN (vs := repL 1 nl (.slice aL nL kL) (.slice aW nW kW) (.slice aY nY kY) (.slice aV nV kV)) rfl rfl rfl rfl (by simp [OneCell]) (fun j hj => ⟨?_, hfroz_of (get_push_new _ _), no7 _⟩) ?_
      · have hj' : j < 7 := hj
        rcases (show j = 0 \/ j = 1 \/ j = 2 \/ j = 3 \/ j = 4 \/ j = 5 \/ j = 6 by omega) with rfl | rfl | rfl | rfl | rfl | rfl | rfl <;> exact ⟨_, hcell_of (get_push_new _ _) rfl⟩
      rw [hsetRow_push (c := [.int .i8 0, .int .i64 0, nilS, nilS, nilS, nilS, nilS]) (vs := repL 1 nl (.slice aL nL kL) (.slice aW nW kW) (.slice aY nY kY) (.slice aV nV kV)) rfl]
      obtain ⟨rB, hrB⟩ : ∃ rB, rB = h7.size := ⟨_, rfl⟩
      refine ER.gen (fun h' => Upd (fun _ => False) h7 h' /\ h'[rB]? = some (.cells (repL 1 nl (.slice aL nL kL) (.slice aW nW kW) (.slice aY nY kY) (.slice aV nV kV)).toArray 47 (0, 0))) ⟨Upd.push _ _, by rw [hrB]; exact get_push_new _ _⟩ ?_
      rw [<- hrB]
      rintro h8 ⟨u8', gr⟩
      have nr : ¬ ((∃ k, rB = d.D k) \/ KOwn n B rB) := fun x => by have := (hD0 _ x).2; omega
      have gx8 := u8'.get gx7 (fun x => x)
      have gs8 := u8'.get gs7 (fun x => x)
      have gt8 := u8'.get gt7 (fun x => x)
      have uu8 := uu7.trans u8'
      have ss8 := ss7.upd u8' (fun _ _ x => x)
      have vs8 := hvs.upd0 u8'
      clear u8' gx7 gs7 gt7 uu7 hrB ss7 hvs
      generalize hvals : (q2.map fun x => val (5 + 2 * x)) = vals at ss8 hlen hpm
      generalize hf0 : q3.length = f0 at ss8 hlen
      (repeat (first | refine EK.seq ?_ | refine EK.region ?_ | refine ER.done ?_ | refine EK.block ?_ | refine ER.assign rfl rfl rfl ?_))
      refine EK.loopInv (fun k : Nat => [(14, .int .i64 k), (13, ptr rB), (10, ptr (y + 5)), (6, ptr (y + 1)), (4, ptr bs), (2, .bool false), (1, ptr bx)]) (fun k h' δ' => δ' = ⟨0, m⟩ /\ k <= f0 /\ StkS n B (List.replicate k (-1) ++ vals) (f0 - k) h' /\ Upd (KOwn n B) h8 h') (fun k => f0 - k) 0 ⟨rfl, rfl, rfl, rfl, rfl, rfl, rfl, trivial⟩ ⟨rfl, Nat.zero_le _, ss8, Upd.refl _ _⟩ ?_
      clear ss8
      rintro k h9 δ9 ⟨hδ, hk, ss, u9⟩ again
      subst hδ
      have gx9 := u9.get gx8 (fun x => nx (.inr x))
      have gs9 := u9.get gs8 (fun x => ns (.inr x))
      have c0 : hcell h9 ⟨bx, 0, none⟩ = some (.int .i64 n) := hcell_of gx9 rfl
      have cs : hcell h9 ⟨bs, 0, none⟩ = some (ptr (B 0)) := hcell_of gs9 rfl
      by_cases hkn : k < f0
      · have hpu := (ss_push (Γ := Nat) (main := true) (S := NoS) (δ := ⟨0, m⟩) (f := f0 - k - 1) (x := -1) (by rw [show f0 - k - 1 + 1 = f0 - k by omega]; exact ss) (by omega) (fun _ _ _ x => x)).noS no7
        (repeat (first | refine EK.seq ?_ | refine EK.region ?_ | refine ER.load1 rfl rfl rfl (hcell_of (by assumption) rfl) ?_))
        refine ER.callR rfl rfl rfl rfl rfl hpu ?_
        rintro _ h10 δ10 ⟨rfl, rfl, ss', u10⟩
        have c0 : hcell h10 ⟨bx, 0, none⟩ = some (.int .i64 n) := hcell_of (u10.get gx9 (fun x => nx (.inr x))) rfl
        clear cs gs9 gx9 ss hpu
        (repeat (first | refine EK.region ?_ | refine ER.done ?_ | refine EK.skip ?_ | refine EK.block ?_ | refine EK.inBlock ?_ | refine ER.move rfl rfl rfl ?_ | refine ER.assign rfl rfl rfl ?_ | refine ER.fieldAddr rfl rfl rfl ?_ | refine ER.pickT rfl rfl rfl rfl ?_ | refine ER.cmpT rfl rfl rfl rfl rfl (by first | (dsimp only [cmpP]; omega) | exact rfl | exact Int.le_refl _) ?_ | refine ER.add (kd := .i64) rfl rfl rfl rfl (i64_in (by omega) (by omega)) ?_ | refine EK.condT rfl ?_ | refine ER.load1 rfl rfl rfl (by assumption) ?_))
        exact EK.back (again (k + 1) _ _ (by omega) ⟨rfl, by omega, by rw [List.replicate_succ, List.cons_append, show f0 - (k + 1) = f0 - k - 1 by omega]; exact ss', u9.trans u10⟩) ⟨rfl, rfl, rfl, rfl, rfl, rfl, rfl, trivial⟩
      · obtain rfl : k = f0 := by omega
        rw [Nat.sub_self] at ss
        have hpu := (ss_full (Γ := Nat) (main := true) (S := NoS) (δ := ⟨0, m⟩) (x := -1) ss (by omega)).noS no7
        clear again hk hkn
        (repeat (first | refine EK.seq ?_ | refine EK.region ?_ | refine ER.load1 rfl rfl rfl (hcell_of (by assumption) rfl) ?_))
        refine ER.callD rfl rfl rfl rfl rfl hpu ?_
        have gr9 := u9.get gr (fun x => nr (.inr x))
        have gt9 := u9.get gt8 (fun x => nt (.inr x))
        have vs9 := vs8.upd u9 fun k _ ⟨j, hj, e⟩ => apD k j hj e
        have ce : hcell h9 ⟨rB, 0, none⟩ = some (.int .i8 1) := hcell_of gr9 rfl
        have cw : hcell h9 ⟨y + 5, 0, none⟩ = some (.bool false) := by rw [show y + 5 = d.D .wrong from (eD .wrong).symm]; exact scell vs9 .wrong rfl (i := 0) rfl
        have eM : d.D .map = y := eD .map
        have ct : hcell h9 ⟨y + 1, 0, none⟩ = some (.map (some y)) := hcell_of gt9 rfl
        have hm9 : h9[y]? = some (.map mv.2.1 mv.2.2) := by rw [<- eM]; exact smap vs9
        have hth : s.there.length = vals.length := hpm.length_eq
        (repeat (first | refine EK.seq ?_ | refine EK.region ?_ | refine ER.done ?_ | refine ER.move rfl rfl rfl ?_ | refine ER.fieldAddr rfl rfl rfl ?_ | refine ER.load1 rfl rfl rfl (hcell_of (by assumption) rfl) ?_ | refine ER.no rfl rfl ?_ | refine ER.pickF rfl rfl rfl rfl ?_ | refine ER.cmpF rfl rfl rfl rfl rfl (by first | (dsimp only [cmpP]; omega) | exact rfl | exact Int.le_refl _) ?_ | refine EK.condF rfl ?_ | refine EK.exit rfl ?_ | refine ER.load1 rfl rfl rfl (by assumption) ?_))
        refine ER.lenMap (v := s.there.length) rfl rfl rfl hm9 hkey.size ?_
        clear gr9 ce cw ct gt9 cs gs9 hpu
        (repeat (first | refine EK.seq ?_ | refine EK.region ?_ | refine ER.done ?_ | refine EK.skip ?_ | refine EK.block ?_ | refine ER.assign rfl rfl rfl ?_ | refine ER.fieldAddr rfl rfl rfl ?_ | refine ER.load1 rfl rfl rfl (hcell_of (by assumption) rfl) ?_ | refine ER.pickF rfl rfl rfl rfl ?_ | refine ER.cmpF rfl rfl rfl rfl rfl (by first | (dsimp only [cmpP]; omega) | exact rfl | exact Int.le_refl _) ?_ | refine ER.add (kd := .i64) rfl rfl rfl rfl (i64_in (by omega) (by omega)) ?_ | refine EK.condF rfl ?_))
        clear c0 gx9
        refine EK.loopInv (fun q : Nat × Array MapEntry × List Int × List Int => [(15, .int .i64 q.1), (14, .int .i64 k), (6, ptr (y + 1)), (4, ptr bs), (2, .bool false), (1, ptr bx)]) (fun q h' δ' => δ' = ⟨0, m⟩ /\ q.1 <= n /\ SDr k n q.1 q.2.2.2 q.2.2.1 /\ StkS n B q.2.2.2 q.1 h' /\ KeyI q.2.1 q.2.2.1 /\ h'[y]? = some (.map q.2.1 mv.2.2) /\ Upd (fun b => (∃ k, b = d.D k) \/ KOwn n B b) h9 h') (fun q => n - q.1) (0, mv.2.1, s.there, List.replicate k (-1) ++ vals) ⟨rfl, rfl, rfl, rfl, rfl, rfl, trivial⟩ ⟨rfl, Nat.zero_le _, SDr.init (by omega) hpos hpm, ss, hkey, hm9, Upd.refl _ _⟩ ?_
        clear ss vs9 hm9
        rintro ⟨i, es, th, rest⟩ h10 δ10 ⟨hδ, hi, dr, ss, key, hm, u10⟩ again
        dsimp only at hδ hi dr ss key hm u10 again ⊢
        subst hδ
        have u810 : Upd (fun b => (∃ k, b = d.D k) \/ KOwn n B b) h8 h10 := (u9.mono fun b _ x => Or.inr x).trans u10
        have gx10 := u810.get gx8 nx
        have gs10 := u810.get gs8 ns
        have gt10 := u810.get gt8 nt
        have c0 : hcell h10 ⟨bx, 0, none⟩ = some (.int .i64 n) := hcell_of gx10 rfl
        have cs : hcell h10 ⟨bs, 0, none⟩ = some (ptr (B 0)) := hcell_of gs10 rfl
        by_cases hin : i < n
        · by_cases hik : i < k
          · obtain ⟨r, rfl, hno, dr'⟩ := dr.one hik hin
            have hpo := (ss_pop (Γ := Nat) (main := true) (S := NoS) (δ := ⟨0, m⟩) ss (by omega) (fun _ _ _ x => x)).noS no7
            (repeat (first | refine EK.seq ?_ | refine EK.region ?_ | refine ER.done ?_ | refine EK.skip ?_ | refine EK.block ?_ | refine ER.move rfl rfl rfl ?_ | refine ER.fieldAddr rfl rfl rfl ?_ | refine ER.load1 rfl rfl rfl (hcell_of (by assumption) rfl) ?_ | refine ER.cmpT rfl rfl rfl rfl rfl (by first | (dsimp only [cmpP]; omega) | exact rfl | exact Int.le_refl _) ?_ | refine EK.condT rfl ?_))
            refine ER.callR rfl rfl rfl rfl rfl hpo ?_
            rintro _ h11 δ11 ⟨rfl, rfl, ss', u11⟩
            have gt11 := u11.get gt10 (fun x => nt (.inr x))
            have ct : hcell h11 ⟨y + 1, 0, none⟩ = some (.map (some y)) := hcell_of gt11 rfl
            have hm' := u11.get hm (fun ⟨j, hj, e⟩ => apD .map j hj (eM.trans e))
            clear hpo ss c0 cs gx10 gs10 gt10 hm
            (repeat (first | refine EK.seq ?_ | refine EK.region ?_ | refine ER.done ?_ | refine EK.skip ?_ | refine ER.move rfl rfl rfl ?_ | refine ER.assign rfl rfl rfl ?_ | refine ER.load1 rfl rfl rfl (hcell_of (by assumption) rfl) ?_ | refine ER.no rfl rfl ?_ | refine ER.notB rfl rfl rfl ?_ | refine ER.pickT rfl rfl rfl rfl ?_ | refine ER.pickF rfl rfl rfl rfl ?_ | refine ER.extract rfl rfl rfl rfl ?_ | refine ER.cmpT rfl rfl rfl rfl rfl (by first | (dsimp only [cmpP]; omega) | exact rfl | exact Int.le_refl _) ?_ | refine ER.cmpF rfl rfl rfl rfl rfl (by first | (dsimp only [cmpP]; omega) | exact rfl | exact Int.le_refl _) ?_ | refine EK.condF rfl ?_))
            refine ER.delN rfl rfl rfl hm' key hno ?_
            clear ct gt11
            (repeat (first | refine EK.region ?_ | refine ER.done ?_ | refine EK.inBlock ?_ | refine ER.move rfl rfl rfl ?_ | refine ER.assign rfl rfl rfl ?_ | refine ER.add (kd := .i64) rfl rfl rfl rfl (i64_in (by omega) (by omega)) ?_))
            exact EK.back (again (i + 1, es, th, r) _ _ (by dsimp only; omega) ⟨rfl, by dsimp only; omega, dr', ss', key, hm', u10.trans (u11.mono fun b _ x => Or.inr x)⟩) ⟨rfl, rfl, rfl, rfl, rfl, rfl, trivial⟩
          · obtain ⟨x, r, rfl, hx, dr'⟩ := dr.two (by omega) hin
            have hpo := (ss_pop (Γ := Nat) (main := true) (S := NoS) (δ := ⟨0, m⟩) ss (by omega) (fun _ _ _ x => x)).noS no7
            (repeat (first | refine EK.seq ?_ | refine EK.region ?_ | refine ER.done ?_ | refine EK.skip ?_ | refine EK.block ?_ | refine ER.move rfl rfl rfl ?_ | refine ER.fieldAddr rfl rfl rfl ?_ | refine ER.load1 rfl rfl rfl (hcell_of (by assumption) rfl) ?_ | refine ER.cmpT rfl rfl rfl rfl rfl (by first | (dsimp only [cmpP]; omega) | exact rfl | exact Int.le_refl _) ?_ | refine EK.condT rfl ?_))
            refine ER.callR rfl rfl rfl rfl rfl hpo ?_
            rintro _ h11 δ11 ⟨rfl, rfl, ss', u11⟩
            have gt11 := u11.get gt10 (fun x => nt (.inr x))
            have ct : hcell h11 ⟨y + 1, 0, none⟩ = some (.map (some y)) := hcell_of gt11 rfl
            have hm' := u11.get hm (fun ⟨j, hj, e⟩ => apD .map j hj (eM.trans e))
            clear hpo ss c0 cs gx10 gs10 gt10 hm
            (repeat (first | refine EK.seq ?_ | refine EK.region ?_ | refine ER.done ?_ | refine ER.move rfl rfl rfl ?_ | refine ER.assign rfl rfl rfl ?_ | refine ER.load1 rfl rfl rfl (hcell_of (by assumption) rfl) ?_ | refine ER.no rfl rfl ?_ | refine ER.notB rfl rfl rfl ?_ | refine ER.pickF rfl rfl rfl rfl ?_ | refine ER.extract rfl rfl rfl rfl ?_ | refine ER.cmpT rfl rfl rfl rfl rfl (by first | (dsimp only [cmpP]; omega) | exact rfl | exact Int.le_refl _) ?_ | refine ER.cmpF rfl rfl rfl rfl rfl (by first | (dsimp only [cmpP]; omega) | exact rfl | exact Int.le_refl _) ?_))
            refine ER.lookI (z := x) rfl rfl rfl rfl hm' key hx ?_
            (repeat (first | refine EK.region ?_ | refine ER.done ?_ | refine EK.skip ?_ | refine ER.move rfl rfl rfl ?_ | refine ER.load1 rfl rfl rfl (hcell_of (by assumption) rfl) ?_ | refine ER.pickT rfl rfl rfl rfl ?_ | refine ER.pickF rfl rfl rfl rfl ?_ | refine ER.cmpF rfl rfl rfl rfl rfl (by first | (dsimp only [cmpP]; omega) | exact rfl | exact Int.le_refl _) ?_ | refine EK.condF rfl ?_))
            refine ER.delI (z := x) rfl rfl rfl hm' key hx ?_
            have u12 := Upd.set (T := fun b => ∃ k, b = d.D k) h11 y (.map (es.eraseIdxIfInBounds (th.idxOf x)) mv.2.2) ⟨.map, eM.symm⟩
            have hm12 : (h11.setIfInBounds y (.map (es.eraseIdxIfInBounds (th.idxOf x)) mv.2.2))[y]? = some (.map (es.eraseIdxIfInBounds (th.idxOf x)) mv.2.2) := get_set_same hm'
            have ss12 := ss'.upd u12 fun j hj ⟨k, e⟩ => apD k j hj e.symm
            have key12 := key.erase x hx
            clear ct gt11 hm' key ss'
            (repeat (first | refine EK.region ?_ | refine ER.done ?_ | refine EK.inBlock ?_ | refine ER.move rfl rfl rfl ?_ | refine ER.assign rfl rfl rfl ?_ | refine ER.add (kd := .i64) rfl rfl rfl rfl (i64_in (by omega) (by omega)) ?_))
            exact EK.back (again (i + 1, es.eraseIdxIfInBounds (th.idxOf x), th.erase x, r) _ _ (by dsimp only; omega) ⟨rfl, by dsimp only; omega, dr', ss12, key12, hm12, (u10.trans (u11.mono fun b _ x => Or.inr x)).trans (u12.mono fun b _ x => Or.inl x)⟩) ⟨rfl, rfl, rfl, rfl, rfl, rfl, trivial⟩
        · obtain rfl : i = n := by omega
          have hr := dr.len
          obtain rfl : rest = [] := List.length_eq_zero_iff.1 (by omega)
          have ht0 : th = [] := by
            have := dr.pm
            simpa using this
          subst ht0
          have hpo := (ss_none (Γ := Nat) (main := true) (S := NoS) (δ := ⟨0, m⟩) ss).noS no7
          clear again hin hi
          (repeat (first | refine EK.seq ?_ | refine EK.region ?_ | refine ER.done ?_ | refine ER.move rfl rfl rfl ?_ | refine ER.fieldAddr rfl rfl rfl ?_ | refine ER.load1 rfl rfl rfl (hcell_of (by assumption) rfl) ?_ | refine ER.cmpF rfl rfl rfl rfl rfl (by first | (dsimp only [cmpP]; omega) | exact rfl | exact Int.le_refl _) ?_ | refine EK.condF rfl ?_ | refine EK.exit rfl ?_))
          refine ER.callD rfl rfl rfl rfl rfl hpo ?_
          have ct : hcell h10 ⟨y + 1, 0, none⟩ = some (.map (some y)) := hcell_of gt10 rfl
          (repeat (first | refine EK.seq ?_ | refine EK.region ?_ | refine ER.done ?_ | refine ER.move rfl rfl rfl ?_ | refine ER.assign rfl rfl rfl ?_ | refine ER.load1 rfl rfl rfl (hcell_of (by assumption) rfl) ?_ | refine ER.notB rfl rfl rfl ?_ | refine ER.extract rfl rfl rfl rfl ?_))
          refine ER.lenMap (v := 0) rfl rfl rfl hm key.size ?_
          (repeat (first | refine ER.done ?_ | refine ER.assign rfl rfl rfl ?_ | refine ER.pickT rfl rfl rfl rfl ?_ | refine ER.cmpT rfl rfl rfl rfl rfl (by first | (dsimp only [cmpP]; omega) | exact rfl | exact Int.le_refl _) ?_ | refine EK.ret ?_))
          exact EU.ret1 rfl rfl ⟨rfl, rfl, uu8.over u810 fun b hb => (hD0 b hb).1⟩
end
section
open Go Go.TJ Go.Conc Go.Proofs
open Go.ChangeShapes Go.WideShapes Go.ChangeAt Go.RowKit
theorem plain0 {w : World} {a : Addr} {v : Value} (h : w.cell? a = some v) : ∃ b o, a = ⟨b, o, none⟩ /\ b < w.heap.size := by
  have h' : hcell w.heap a = some v := h
  rcases a with ⟨b, o, s⟩
  obtain ⟨c, e, f, h1, h2, _⟩ := hcell_some h'
  obtain rfl : s = none := h2
  exact ⟨b, o, rfl, lt_of_get h1⟩
theorem plainAt {w : World} {b o i : Nat} {v : Value} (h : w.cell? ((⟨b, o, none⟩ : Addr).add i) = some v) : hcell w.heap ⟨b, o + i, none⟩ = some v := by
  rw [add_eq] at h; exact h
section
variable {H : Type} {enc : TypeId × Value -> H} {w : World} {base : Nat} {spare : Nat -> Bool} {held : Bool}
theorem weightsAll_mem {P : Program} {e : TypeId} : ∀ {l : List (DataW H)} {d : DataW H}, d ∈ l -> ∀ n, n ∈ d.weights P e -> n ∈ DataW.weightsAll P e l
  | [], _, h, _, _ => by cases h
  | x :: r, d, h, n, hn => by
    rw [DataW.weightsAll]
    rcases List.mem_cons.1 h with rfl | h
    · exact List.mem_append_left _ hn
    · exact List.mem_append_right _ (weightsAll_mem h n hn)
theorem weights_slice {P : Program} {t e : TypeId} (ht : P.underlying t = some (.slice e)) (els sp : List (DataW H)) : (DataW.slice els sp).weights P t = (els.length + sp.length) * P.bytesOf e :: (DataW.weightsAll P e els ++ DataW.weightsAll P e sp) := by
  simp only [DataW.weights, ht]
theorem open_calls {fuel : Nat} {v : Value} {x : DataW H × List MemPlace} (h : DataW.trod enc Try.prog w base spare held fuel 37 [v] = some x) (hz : ∀ n, n ∈ x.1.weights Try.prog 37 -> n <= reachBytes) :
    ∃ (a' : Option Addr) (l : List SCal) (k' : Nat), v = .slice a' l.length k' /\ l.length <= 1000000000000000 /\ ∀ j q, l[j]? = some q -> ∃ b' o', a' = some ⟨b', o', none⟩ /\ b' < w.heap.size /\ TJ.hcell w.heap ⟨b', o' + j * 2, none⟩ = some (.int .i64 q.1) := by
  rcases Go.Deep.open_slice_pairs Try.underlying37 Try.underlying39 (by kernel_rfl) rfl rfl (by kernel_rfl) (by kernel_rfl) h with ⟨hcs, _⟩ | ⟨a, l, c, m, n, V0, V1, D0, D1, P0, P1, hcs, _, hl, hm, hmm, hxe, hx⟩
  · injection hcs with hcs _
    exact ⟨none, [], 0, hcs, Nat.zero_le _, fun j q hq => by cases hq⟩
  · injection hcs with hcs _
    have hbig : l <= 1000000000000000 := by
      have hb : Try.prog.bytesOf 39 = 16 := by kernel_rfl
      have := hz _ (by rw [hxe, weights_slice Try.underlying37]; exact List.mem_cons_self ..)
      rw [hb] at this
      simp only [List.length_map, List.length_range, reachBytes] at this
      omega
    have hlm : l <= m := by rw [hmm]; split <;> omega
    obtain ⟨f, hf⟩ := Go.Deep.choose_lt (n := l) (p := fun i (x : Int × Int) => w.cell? (a.add (i * 2)) = some (.int .i64 x.1) /\ w.cell? (a.add (i * 2 + 1)) = some (.int .i64 x.2)) (fun i hi => by
      obtain ⟨c0, c1, t0, t1⟩ := hx i (by omega)
      obtain ⟨z0, e0, _, _⟩ := DataW.trod_int Try.underlying3 t0
      obtain ⟨z1, e1, _, _⟩ := DataW.trod_int Try.underlying2 t1
      simp at e0 e1
      exact ⟨(z0, z1), by rw [c0, e0], by rw [c1, e1]⟩)
    refine ⟨some a, (List.range l).map f, c, by rw [List.length_map, List.length_range]; exact hcs, by rw [List.length_map, List.length_range]; exact hbig, fun j q hq => ?_⟩
    rw [List.getElem?_map] at hq
    obtain ⟨j', hj', rfl⟩ := Option.map_eq_some_iff.1 hq
    have hjl : j < l := by
      have := (List.getElem?_eq_some_iff.1 hj').1
      rwa [List.length_range] at this
    rw [List.getElem?_range hjl] at hj'
    injection hj' with hj'
    subst hj'
    obtain ⟨b', o', rfl, hb⟩ := plain0 (a := a) (by have := (hf 0 (by omega)).1; exact this)
    obtain ⟨g0, g1⟩ := hf j hjl
    exact ⟨b', o', rfl, hb, plainAt g0⟩
theorem open_picks {fuel : Nat} {v : Value} {x : DataW H × List MemPlace} (h : DataW.trod enc Try.prog w base spare held fuel 25 [v] = some x) (hz : ∀ n, n ∈ x.1.weights Try.prog 25 -> n <= reachBytes) :
    ∃ picks : List Int, RdS w.heap v (picks.map fun x => .int .i64 x) /\ picks.length <= 1000000000000000 := by
  rcases Go.Deep.open_slice1 Try.underlying25 (by kernel_rfl) h with ⟨hcs, _⟩ | ⟨a, l, c, m, n, V, D, Pl, hcs, _, hl, hm, hmm, hxe, hx⟩
  · injection hcs with hcs _
    subst hcs
    exact ⟨[], ⟨⟨none, 0, rfl⟩, fun i v hv => by cases hv⟩, Nat.zero_le _⟩
  · injection hcs with hcs _
    subst hcs
    have hbig : l <= 1000000000000000 := by
      have hb : Try.prog.bytesOf 3 = 8 := by kernel_rfl
      have := hz _ (by rw [hxe, weights_slice Try.underlying25]; exact List.mem_cons_self ..)
      rw [hb] at this
      simp only [List.length_map, List.length_range, reachBytes] at this
      omega
    have hlm : l <= m := by rw [hmm]; split <;> omega
    obtain ⟨f, hf⟩ := Go.Deep.choose_lt (n := l) (p := fun i (x : Int) => w.cell? (a.add i) = some (.int .i64 x)) (fun i hi => by
      obtain ⟨c0, t0⟩ := hx i (by omega)
      obtain ⟨z0, e0, _, _⟩ := DataW.trod_int Try.underlying3 t0
      simp at e0
      exact ⟨z0, by rw [c0, e0]⟩)
    refine ⟨(List.range l).map f, ⟨⟨some a, c, by simp⟩, fun i v hv => ?_⟩, by rw [List.length_map, List.length_range]; exact hbig⟩
    rw [List.getElem?_map] at hv
    obtain ⟨z, hv', rfl⟩ := Option.map_eq_some_iff.1 hv
    rw [List.getElem?_map] at hv'
    obtain ⟨j', hj', rfl⟩ := Option.map_eq_some_iff.1 hv'
    have hjl : i < l := by
      have := (List.getElem?_eq_some_iff.1 hj').1
      rwa [List.length_range] at this
    rw [List.getElem?_range hjl] at hj'
    injection hj' with hj'
    subst hj'
    obtain ⟨b', o', rfl, hb⟩ := plain0 (a := a) (by have := hf 0 (by omega); exact this)
    exact ⟨b', o', c, by simp, by rw [Nat.mul_one]; exact plainAt (hf i hjl)⟩
theorem open_scripts {fuel : Nat} {v : Value} {x : DataW H × List MemPlace} (h : DataW.trod enc Try.prog w base spare held fuel 24 [v] = some x) (hz : ∀ n, n ∈ x.1.weights Try.prog 24 -> n <= reachBytes) :
    ∃ sc : List (List SCal), ScrO w.heap.size w.heap v sc := by
  rcases Go.Deep.open_slice1 Try.underlying24 (by kernel_rfl) h with ⟨hcs, _⟩ | ⟨a, l, c, m, n, V, D, Pl, hcs, _, hl, hm, hmm, hxe, hx⟩
  · injection hcs with hcs _
    subst hcs
    exact ⟨[], ⟨none, 0, rfl⟩, ⟨Nat.zero_le _, fun l hl => by cases hl⟩, fun i l hl => by cases hl⟩
  · injection hcs with hcs _
    subst hcs
    rw [hxe, weights_slice Try.underlying24] at hz
    have hbig : l <= 1000000000000000 := by
      have hb : Try.prog.bytesOf 37 = 24 := by kernel_rfl
      have := hz _ (List.mem_cons_self ..)
      rw [hb] at this
      simp only [List.length_map, List.length_range, reachBytes] at this
      omega
    have hlm : l <= m := by rw [hmm]; split <;> omega
    obtain ⟨f, hf⟩ := Go.Deep.choose_lt (n := l) (p := fun i (x : Option Addr × List SCal × Nat) => w.cell? (a.add i) = some (.slice x.1 x.2.1.length x.2.2) /\ x.2.1.length <= 1000000000000000 /\ ∀ j q, x.2.1[j]? = some q -> ∃ b' o', x.1 = some ⟨b', o', none⟩ /\ b' < w.heap.size /\ TJ.hcell w.heap ⟨b', o' + j * 2, none⟩ = some (.int .i64 q.1)) (fun i hi => by
      obtain ⟨c0, t0⟩ := hx i (by omega)
      obtain ⟨a', l', k', e1, e2, e3⟩ := open_calls t0 (fun n hn => hz n (List.mem_cons_of_mem _ (List.mem_append_left _ (weightsAll_mem (d := D i) (List.mem_map_of_mem (List.mem_range.2 hi)) n hn))))
      exact ⟨(a', l', k'), by rw [c0, e1], e2, e3⟩)
    refine ⟨(List.range l).map fun i => (f i).2.1, ⟨some a, c, by simp⟩, ⟨by simpa using hbig, fun q hq => ?_⟩, fun i q hq => ?_⟩
    · obtain ⟨i, hi, rfl⟩ := List.mem_map.1 hq
      exact (hf i (List.mem_range.1 hi)).2.1
    · rw [List.getElem?_map] at hq
      obtain ⟨j', hj', rfl⟩ := Option.map_eq_some_iff.1 hq
      have hjl : i < l := by
        have := (List.getElem?_eq_some_iff.1 hj').1
        rwa [List.length_range] at this
      rw [List.getElem?_range hjl] at hj'
      injection hj' with hj'
      subst hj'
      obtain ⟨b', o', rfl, hb⟩ := plain0 (a := a) (by have := (hf 0 (by omega)).1; exact this)
      obtain ⟨g0, g1, g2⟩ := hf i hjl
      exact ⟨b', o', c, (f i).1, (f i).2.2, by simp, hb, by rw [Nat.mul_one]; exact plainAt g0, g2⟩
set_option maxRecDepth 100000 in
theorem open_play {fuel : Nat} {cs : List Value} {x : DataW H × List MemPlace} (h : DataW.trod enc Try.prog w base spare held fuel 27 cs = some x) (hz : ∀ n, n ∈ x.1.weights Try.prog 27 -> n <= reachBytes) :
    ∃ (N : Int) (scv pv : Value) (sc : List (List SCal)) (picks : List Int), cs = [.int .i64 N, scv, pv] /\ ScrO w.heap.size w.heap scv sc /\ RdS w.heap pv (picks.map fun x => .int .i64 x) /\ picks.length <= 1000000000000000 := by
  obtain ⟨xs, n, -, hxe, hl, hxl, hfs⟩ := DataW.trod_struct Try.underlying27 h
  have h3 : Try.prog.cellsOf 27 = 3 := by kernel_rfl
  have hm1 : Try.prog.cellsOf 23 = 1 := by kernel_rfl
  have hs1 : Try.prog.cellsOf 24 = 1 := by kernel_rfl
  have hp1 : Try.prog.cellsOf 25 = 1 := by kernel_rfl
  have hi1 : Try.prog.cellsOf 3 = 1 := by kernel_rfl
  rw [h3] at hl
  obtain ⟨c0, c1, c2, rfl⟩ : ∃ c0 c1 c2, cs = [c0, c1, c2] := by
    match cs, hl with
    | [c0, c1, c2], _ => exact ⟨c0, c1, c2, rfl⟩
  obtain ⟨x0, x1, x2, rfl⟩ : ∃ c0 c1 c2, xs = [c0, c1, c2] := by
    match xs, hxl with
    | [c0, c1, c2], _ => exact ⟨c0, c1, c2, rfl⟩
  have f0 := hfs 0 _ rfl
  have f1 := hfs 1 _ rfl
  have f2 := hfs 2 _ rfl
  simp [hm1, hs1, hp1] at f0 f1 f2
  have hw : x.1.weights Try.prog 27 = x0.1.weights Try.prog 23 ++ (x1.1.weights Try.prog 24 ++ (x2.1.weights Try.prog 25 ++ [])) := by
    rw [hxe]
    simp only [DataW.weights, Try.underlying27]
    rfl
  rw [hw] at hz
  obtain ⟨sc, hsc⟩ := open_scripts f1 (fun n hn => hz n (List.mem_append_right _ (List.mem_append_left _ hn)))
  obtain ⟨picks, hp, hpl⟩ := open_picks f2 (fun n hn => hz n (List.mem_append_right _ (List.mem_append_right _ (List.mem_append_left _ hn))))
  obtain ⟨ys, n', -, -, -, hyl, hgs⟩ := DataW.trod_struct Try.underlying23 f0
  obtain ⟨y0, rfl⟩ : ∃ c0, ys = [c0] := by
    match ys, hyl with
    | [c0], _ => exact ⟨c0, rfl⟩
  have g0 := hgs 0 _ rfl
  simp [hi1] at g0
  obtain ⟨z0, e0, _, _⟩ := DataW.trod_int Try.underlying3 g0
  simp at e0
  exact ⟨z0, c1, c2, sc, picks, by rw [e0], hsc, hp, hpl⟩
end
end
end Go.Proofs.Ythkpbenhchkkoaa
