/- Steps of the walk and of the plain law (CountYLaw to CountYPlaysProof). Conditions: as each lemma says. -/
import Derived.Deep.SlicePairs
import Derived.OpenShut
import Derived.WalkKit
import Derived.ProofKit
import Derived.Test.YtcpcdnkemobneaaRows
import Derived.Conc.HoldsTime
import Derived.Test.YtcpcdnkemobneaaCQF
namespace Go.Proofs.Ytcpcdnkemobneaa
section
open Go Go.TJ Go.Conc Go.Proofs
theorem WAll.up {R : Rec} {nm : Nat -> Nme} {lL lW lY lV : Value} {h0 h : Hp} {W : Nat} {s : WS} (a : WAll R nm lL lW lY lV h0 W s h) : Upd (fun _ => False) h0 h := by
  obtain ⟨q, I, -⟩ := a
  exact I.up
theorem goes_emit {R : Rec} {A : Type} {i : Nat} {a : A} {k pf : Pr A} {l : List Ev} {o : List A} (hpf : PF R i pf) (g : Goes i (.emit a k) l o pf) : ∃ o', o = a :: o' /\ Goes i k l o' pf := by
  generalize hp : Pr.emit a k = p at g
  cases g with
  | nil => exact absurd hp.symm (hpf.emit a k)
  | emit g =>
    injection hp with h1 h2
    subst h1 h2
    exact ⟨_, rfl, g⟩
  | step => cases hp
theorem EK.join2 {Γ : Type} {P : Program} {main : Bool} {S : Sit Γ} {f : FuncId} {n : Nat} {c : Item} {b : Nat} {k : List Item} {env : Env} {ds : List Deferred} {h : Hp} {δ : Ix Γ} {R : Post Γ} {σ : Type} (E : σ -> Env) (I : σ -> Hp -> Ix Γ -> Prop) (h1 : (∀ s h' δ', I s h' δ' -> EK P main S f n k (E s) ds h' δ' R) -> EK P main S f n (c :: .inBlock b :: k) env ds h δ R) (h2 : ∀ s h' δ', I s h' δ' -> EK P main S f n k (E s) ds h' δ' R) : EK P main S f n (c :: .inBlock b :: k) env ds h δ R := h1 h2
theorem goes_done {A : Type} {i : Nat} {pf : Pr A} {l : List Ev} {o : List A} (g : Goes i .done l o pf) : l = [] /\ o = [] /\ pf = .done := by
  generalize hp : Pr.done = p at g
  cases g with
  | nil => exact ⟨rfl, rfl, rfl⟩
  | emit => cases hp
  | step => cases hp
set_option maxRecDepth 8000 in
set_option maxHeartbeats 40000000 in
theorem slaw_ok {h : Hp} {scv pv : Value} {sc : List (List GCall)} {picks : List Int} {N pk tk : Int} (hs : ScrM h.size h scv sc) (hp : RdS h pv (picks.map fun x => .int .i64 x)) (hpl : picks.length <= 1000000000000000) :
    CallW Try.prog true (SwS Try.prog) 8 #[.agg #[.int .i64 N, .int .i64 pk, .int .i64 tk, scv, pv]] h ⟨0, 1⟩ (Ret fun v h' δ' => δ'.d = 0 /\ v = .bool true /\ Upd (fun _ => False) h h') := by
  obtain ⟨aS, kS, eS⟩ := hs.val
  subst eS
  have no : ∀ a, ¬ (SwS Try.prog).still 1 a := fun a x => x
  obtain ⟨pB, hpB⟩ : ∃ pB, pB = h.size := ⟨_, rfl⟩
  refine CallW.start (n := 120) rfl rfl ?_
  (repeat (first | refine EK.seq ?_ | refine EK.region ?_ | refine ER.done ?_ | refine ER.assign rfl rfl rfl ?_ | refine ER.boxA rfl rfl rfl ?_))
  refine ER.callR rfl rfl rfl rfl rfl (cntworks_ok.noS no) ?_
  rintro _ h1 δ1 ⟨rfl, u1, rfl⟩
  have gp : h1[pB]? = some (.cells #[.int .i64 N, .int .i64 pk, .int .i64 tk, .slice aS sc.length kS, pv] 110 (0, 0)) := u1.get (by rw [hpB]; exact get_push_new _ _) (fun x => x)
  have uu : Upd (fun _ => False) h h1 := (Upd.push _ _).trans u1
  rw [<- hpB]
  have hpB1 : pB < h1.size := lt_of_get gp
  clear u1
  (repeat (first | refine EK.seq ?_ | refine EK.region ?_ | refine ER.done ?_ | refine ER.move rfl rfl rfl ?_ | refine ER.assign rfl rfl rfl ?_ | refine ER.notB rfl rfl rfl ?_))
  refine ER.loadN (vs := [.int .i64 N, .int .i64 pk, .int .i64 tk, .slice aS sc.length kS, pv]) rfl rfl rfl rfl (hrow_block (rest := []) (by rw [List.append_nil]; exact gp)) ?_
  refine ER.callR rfl rfl rfl rfl rfl (glong_ok (hs.low fun b hb => uu.2 b hb (fun x => x)) (hp.upd uu (fun _ _ _ x => x)) (by rw [List.length_map]; exact hpl)) ?_
  rintro _ h2 δ2 ⟨rfl, u2, b, rfl, hlong⟩
  replace gp := u2.get gp (fun x => x)
  replace uu := uu.trans u2
  clear u2
  cases b with
  | true =>
    (repeat (first | refine EK.seq ?_ | refine EK.region ?_ | refine ER.done ?_ | refine ER.move rfl rfl rfl ?_ | refine ER.assign rfl rfl rfl ?_ | refine ER.pickF rfl rfl rfl rfl ?_ | refine EK.condT rfl ?_ | refine EK.ret ?_))
    exact EU.ret1 rfl rfl ⟨rfl, rfl, uu⟩
  | false =>
    obtain ⟨l8, small, p2k, hmade⟩ := hlong rfl
    rw [List.length_map] at p2k
    obtain ⟨n, rfl, hn1, hn, htk⟩ := hmade
    clear hlong
    (repeat (first | refine EK.seq ?_ | refine EK.region ?_ | refine ER.done ?_ | refine EK.skip ?_ | refine ER.pickF rfl rfl rfl rfl ?_ | refine EK.condF rfl ?_))
    refine ER.loadN (vs := [.int .i64 (n : Int), .int .i64 pk, .int .i64 tk, .slice aS sc.length kS, pv]) rfl rfl rfl rfl (hrow_block (rest := []) (by rw [List.append_nil]; exact gp)) ?_
    refine ER.callR rfl rfl rfl rfl rfl ((gnew_ok hn1 hn htk l8).noS no) ?_
    rintro _ h3 δ3 ⟨rfl, u3, S0, T, cap, rest, B, rfl, gS, gT, r3', lowB, lS, lT⟩
    have lowB' : ∀ k, (cfM n cap rest B pk tk).ok k -> h.size <= (cfM n cap rest B pk tk).B k := fun k hk => by
      have := lowB k hk
      have := uu.size
      omega
    replace gp := u3.get gp (fun x => x)
    have lT' : h.size <= T := by have := uu.size; omega
    have lS' : h.size <= S0 := by have := uu.size; omega
    replace uu := uu.trans u3
    clear u3 lowB lT lS
    obtain ⟨f, hf⟩ : ∃ f : Nat, 65536 < f := ⟨65537, by decide⟩
    obtain ⟨idx, hidx⟩ := exists_idxG (cs := csC n) (B := B) (fun j k hj hk e => r3'.inj j k hj.2 hk.2 e)
    (repeat (first | refine EK.seq ?_ | refine EK.region ?_ | refine ER.done ?_ | refine EK.skip ?_ | refine ER.move rfl rfl rfl ?_ | refine ER.assign rfl rfl rfl ?_ | refine ER.eqV rfl rfl rfl rfl rfl ?_ | refine EK.condF rfl ?_))
    refine ER.loadN (vs := [.int .i64 (n : Int), .int .i64 pk, .int .i64 tk, .slice aS sc.length kS, pv]) rfl rfl rfl rfl (hrow_block (rest := []) (by rw [List.append_nil]; exact gp)) ?_
    refine ER.callR rfl rfl rfl rfl rfl (splays_ok hs hp uu p2k l8 small hn1 hn gS gT r3' lowB' lS' lT' hf hidx) ?_
    rintro _ h7 δ7 ⟨⟨m, rfl⟩, hN, h6, pv2, bv, p, e, lL, lW, lY, lV, rfl, En, uu7, sz7, keep, st7, out7, inn7, m7⟩
    have nC : ¬ isCG (cfM n cap rest B pk tk) (csC n) pB := by
      rintro ⟨k, hk, e⟩
      have h1 := r3'.has k hk.2
      rw [(cf_tg (cap := cap) (rest := rest) (B := B)).cel k hk, <- e, gp] at h1
      injection h1 with h1
      injection h1 with _ h1 _
      exact absurd h1 (by decide)
    have nT : pB ≠ T := fun e => by
      rw [<- e, gp] at gT
      injection gT with h1
      injection h1 with _ h1 _
      exact absurd h1 (by decide)
    have nS : pB ≠ S0 := fun e => by
      rw [<- e, gp] at gS
      injection gS with h1
      injection h1 with _ h1 _
      exact absurd h1 (by decide)
    have gp7 := (keep pB (lt_of_get gp) nC nT nS).trans gp
    clear keep nC nT nS gp gS gT r3' lowB' lS' lT' sz7 uu
    have ok := En.record (_sP := pv) (show sc.length <= 64 by omega) (show 16384 <= 65536 by decide)
    have hQ := En.Q
    have hal := En.reg.alive
    obtain ⟨R, hR⟩ : ∃ R, R = recOf p (fun b => (v1C n pk tk) (idx b)) sc.length 16384 e := ⟨_, rfl⟩
    rw [<- hR] at ok m7
    have r1 : R.e = e := by rw [hR]; rfl
    have r2 : R.log = p.log := by rw [hR]; rfl
    have r3 : R.nb = sc.length := by rw [hR]; rfl
    have r4 : R.most = 16384 := by rw [hR]; rfl
    have r5 : R.v0 = fun b => (v1C n pk tk) (idx b) := by rw [hR]; rfl
    have r6 : R.left = (p.live sc.length).map fun j => (j, rqOf (p.st j)) := by rw [hR]; rfl
    have no7 : ∀ a, ¬ (SwS Try.prog).still m a := fun a x => x
    clear hR En
    (repeat refine ER.allocA rfl rfl ?_)
    refine ER.storeN (vs := repL e p.log.length lL lW lY lV) rfl rfl rfl rfl (by
      obtain ⟨a1, k1, e1⟩ := m7.log.val
      obtain ⟨a2, k2, e2⟩ := m7.went.val
      obtain ⟨a3, k3, e3⟩ := m7.rdy.val
      obtain ⟨a4, k4, e4⟩ := m7.left.val
      rw [e1, e2, e3, e4]; simp [OneCell]) (fun j hj => ⟨?_, hfroz_of (get_push_new _ _), no7 _⟩) ?_
    · have hj' : j < 7 := hj
      rcases (show j = 0 \/ j = 1 \/ j = 2 \/ j = 3 \/ j = 4 \/ j = 5 \/ j = 6 by omega) with rfl | rfl | rfl | rfl | rfl | rfl | rfl <;> exact ⟨_, hcell_of (get_push_new _ _) rfl⟩
    rw [hsetRow_push (c := [.int .i8 0, .int .i64 0, nilS, nilS, nilS, nilS, nilS]) (vs := repL e p.log.length lL lW lY lV) rfl]
    obtain ⟨y7, hy7⟩ : ∃ y7, y7 = h7.size := ⟨_, rfl⟩
    refine ER.gen (fun h' => Upd (fun _ => False) h7 h' /\ h'[y7]? = some (repOb e p.log.length lL lW lY lV)) ⟨Upd.push _ _, by rw [hy7]; exact get_push_new _ _⟩ ?_
    rw [<- hy7]
    clear hy7
    rintro h8 ⟨v8, g8⟩
    have gp8 := v8.get gp7 (fun x => x)
    (repeat (first | refine EK.seq ?_ | refine EK.region ?_ | refine ER.done ?_))
    refine ER.loadN (vs := repL e p.log.length lL lW lY lV) rfl rfl rfl rfl (hrow_block (rest := []) (by rw [List.append_nil]; exact g8)) ?_
    (repeat (first | refine ER.fieldAddr rfl rfl rfl ?_ | refine ER.load1 rfl rfl rfl (hcell_of (by assumption) rfl) ?_ | refine ER.len1 rfl rfl rfl ?_))
    have hck := (checked_ok (main := true) (δ := ⟨0, m⟩) ok (m7.upd v8)).noS (S := SwS Try.prog) no7
    rw [r1, r2, r3, r4] at hck
    refine ER.callR rfl rfl rfl rfl rfl hck ?_
    clear hck
    rintro _ h9 δ9 ⟨rfl, rfl, u9⟩
    have v9 : Upd (fun _ => False) h7 h9 := v8.trans u9
    have g9 := u9.get g8 (fun x => x)
    have gp9 := u9.get gp8 (fun x => x)
    have m9 := m7.upd v9
    clear v8 u9 g8 gp8
    (repeat (first | refine EK.seq ?_ | refine EK.region ?_ | refine ER.done ?_ | refine EK.skip ?_ | refine ER.notB rfl rfl rfl ?_ | refine EK.condF rfl ?_))
    refine ER.loadN (vs := repL e p.log.length lL lW lY lV) rfl rfl rfl rfl (hrow_block (rest := []) (by rw [List.append_nil]; exact g9)) ?_
    have hnw := (newwalk_ok (main := true) (δ := ⟨0, m⟩) ok m9).noS (S := SwS Try.prog) no7
    rw [r1, r2] at hnw
    refine ER.callR rfl rfl rfl rfl rfl hnw ?_
    clear hnw
    rintro _ h10 δ10 ⟨rfl, W, nv, gv, fv, rfl, I10⟩
    have gp10 := I10.up.get gp9 (fun x => x)
    (repeat (first | refine EK.seq ?_ | refine EK.region ?_ | refine ER.done ?_ | refine ER.move rfl rfl rfl ?_ | refine ER.assign rfl rfl rfl ?_ | refine ER.fieldAddr rfl rfl rfl ?_))
    refine ER.loadN (vs := [.int .i64 (n : Int), .int .i64 pk, .int .i64 tk]) rfl rfl rfl rfl (hrow_block (rest := [.slice aS sc.length kS, pv]) gp10) ?_
    refine ER.callR rfl rfl rfl rfl rfl ((gbegin_ok I10 ).noS no7) ?_
    rintro _ h11 δ11 ⟨rfl, hv, ov, I11⟩
    clear gp10 I10
    obtain ⟨s, hsd⟩ : ∃ s : WS, s = ⟨[], hsC pk tk, nv, gv, fv, hv, ov⟩ := ⟨_, rfl⟩
    have W11 : WAll R (fun b => nmC n (idx b)) lL lW lY lV h9 W s h11 := by
      refine ⟨List.replicate (nums R.log).length (false, (0, 0)), ?_, ?_, fun j b x hb hx ht => ?_⟩
      · rw [hsd, r2]
        exact I11.toI (hs := hsC pk tk) (by rw [List.map_replicate]) (by rw [List.map_replicate]) rfl rfl
      · rw [List.length_replicate]
      · have := List.eq_of_mem_replicate (List.mem_of_getElem? hx)
        rw [this] at ht; cases ht
    have C : WC (UsT (tcG (cfM n cap rest B pk tk) (csC n) (callC n B tk f) sc hN T S0 (B 0) (B 2) (B 3) pv2 bv)) picks R (fun b => nmC n (idx b)) lL lW lY lV pv h9 s := by
      refine ⟨ok, m9, fun b b' hb hb' e => ?_, fun b hb => ?_, by rw [hsd]; show (hsC pk tk).length <= 5000; simp [hsC]⟩
      · obtain ⟨k, h1, rfl⟩ := hb
        obtain ⟨k', h3, rfl⟩ := hb'
        have e' : nmC n (idx (B k)) = nmC n (idx (B k')) := e
        rw [hidx k h1, hidx k' h3] at e'
        rw [nmC_inj h1 h3 e']
      · obtain ⟨k, h1, rfl⟩ := hb
        rw [hsd, r5]
        show lookN (hsC pk tk) (nmC n (idx (B k))) = (v1C n pk tk) (idx (B k))
        rw [hidx k h1]
        exact look_hsC h1
    have NS : ∀ k, (csC n) k -> (fun b => nmC n (idx b)) (B k) = nmC n k := fun k hk => by
      show nmC n (idx (B k)) = _
      rw [hidx k hk]
    have gS9 := v9.get st7 (fun x => x)
    have gT9 := v9.get out7 (fun x => x)
    have ll : p.log.length < f := by have := ok.len; rw [r2, r4] at this; omega
    clear I11 hsd out7 st7
    (repeat (first | refine EK.seq ?_ | refine EK.region ?_ | refine ER.done ?_ | refine EK.block ?_ | refine ER.assign rfl rfl rfl ?_))
    refine EK.loopInv (fun i : Nat => [(7, .int .i64 i), (6, ptr W), (4, ptr S0), (1, ptr pB)]) (fun i h' δ' => δ' = ⟨0, m⟩ /\ i <= sc.length /\ WAll R (fun b => nmC n (idx b)) lL lW lY lV h9 W s h') (fun i => sc.length - i) 0 ⟨rfl, rfl, rfl, rfl, trivial⟩ ⟨rfl, Nat.zero_le _, W11⟩ ?_
    clear W11 h11
    rintro i h12 δ12 ⟨rfl, hi, a12⟩ again
    have gp := a12.up.get gp9 (fun x => x)
    by_cases hin : i < sc.length
    · obtain ⟨q, hq⟩ : ∃ q, sc[i]? = some q := ⟨_, List.getElem?_eq_getElem hin⟩
      (repeat (first | refine EK.seq ?_ | refine EK.region ?_ | refine ER.done ?_ | refine EK.skip ?_ | refine EK.block ?_ | refine ER.move rfl rfl rfl ?_ | refine ER.fieldAddr rfl rfl rfl ?_ | refine ER.load1 rfl rfl rfl (hcell_of (by assumption) rfl) ?_ | refine ER.cmpT rfl rfl rfl rfl rfl (by first | (dsimp only [cmpP]; omega) | exact rfl | exact Int.le_refl _) ?_ | refine ER.len1 rfl rfl rfl ?_ | refine EK.condT rfl ?_))
      refine ER.callR rfl rfl rfl rfl rfl (of_ok (i := i)) ?_
      rintro _ h13 δ13 ⟨rfl, x, rfl, hx, gx, u13⟩
      have hx0 : h9.size <= x := by rw [hx]; exact a12.up.size
      have a13 := a12.upd0 u13
      clear hx u13 a12 gp
      obtain ⟨pr, hg, hpr⟩ := hQ i
      have hpf : PF R i pr := by
        rcases hal i hin with ⟨g1, r, g2, -⟩ | ⟨g1, g2⟩
        · rw [g2] at hpr
          obtain ⟨k, rfl⟩ := hpr
          refine .inl ⟨r, k, ?_, rfl⟩
          rw [r6]
          refine List.mem_map.2 ⟨i, mem_live.2 ⟨hin, g1⟩, ?_⟩
          rw [g2]; rfl
        · rw [g2] at hpr
          refine .inr ⟨fun z hz e => ?_, hpr⟩
          rw [r6] at hz
          obtain ⟨j, hj, rfl⟩ := List.mem_map.1 hz
          have := (mem_live.1 hj).2
          dsimp only at e
          rw [e, g1] at this
          cases this
      clear hpr
      have w13 : WIn R (fun b => nmC n (idx b)) lL lW lY lV h9 W s pr x i (scriptG (callC n B tk f) (q.drop 0)) (ownOf i p.log) ((p.u.1 i).1.drop 0) h13 := ⟨a13, ⟨⟨0, Nat.zero_le _, by rw [ownFrom_zero, r2], gx⟩, by
        have hg' : Goes i (scriptG (callC n B tk f) (sc.getD i [])) (ownOf i p.log) (p.u.1 i).1 pr := hg
        rw [List.getD_eq_getElem?_getD, hq] at hg'
        exact hg'⟩, hx0⟩
      have hl13 : (ownOf i p.log).length < f := Nat.lt_of_le_of_lt (List.length_filter_le _ _) ll
      generalize ownOf i p.log = l at w13 hl13
      clear a13 gx hg
      (repeat (first | refine EK.seq ?_ | refine EK.region ?_ | refine ER.done ?_ | refine EK.block ?_ | refine ER.assign rfl rfl rfl ?_))
      obtain ⟨b, o, k0, a', k', e1, e2, e3, e4⟩ := hs.row i q hq
      injection e1 with e1
      subst e1
      have hq4 := small q (List.mem_of_getElem? hq)
      have inn := inn7 i hin
      change SliceO h7 (p.u.1 i).2 116 3 (p.u.1 i).1.length ((p.u.1 i).1.flatMap gansL) at inn
      obtain ⟨aA, kA, eA⟩ := inn.val
      have lowAt : ∀ h', Upd (fun _ => False) h9 h' -> ∀ b, b < h.size -> h'[b]? = h[b]? := fun h' u b hb => ((v9.trans u).2 b (Nat.lt_of_lt_of_le hb uu7.size) (fun x => x)).trans (uu7.2 b hb (fun x => x))
      have lowS : h.size <= h9.size := Nat.le_trans uu7.size v9.size
      refine EK.join2 (fun k : Nat => [(9, .int .i64 k), (8, ptr x), (7, .int .i64 i), (6, ptr W), (4, ptr S0), (1, ptr pB)]) (fun k h' δ' => δ' = ⟨0, m⟩ /\ k = (p.u.1 i).1.length /\ WAll R (fun b => nmC n (idx b)) lL lW lY lV h9 W s h' /\ ∃ out t, h'[x]? = some (wrO W i out t) /\ t <= R.log.length /\ ownFrom R i t = [] /\ (out = true ↔ ∃ q, q ∈ R.left /\ q.1 = i)) (fun key => ?_) ?_
      · refine EK.loopInv (fun s : Nat × List Ev => [(10, .int .i64 s.1), (9, .int .i64 s.1), (8, ptr x), (7, .int .i64 i), (6, ptr W), (4, ptr S0), (1, ptr pB)]) (fun z h' δ' => δ' = ⟨0, m⟩ /\ z.1 <= q.length /\ z.1 <= (p.u.1 i).1.length /\ z.2.length < f /\ WIn R (fun b => nmC n (idx b)) lL lW lY lV h9 W s pr x i (scriptG (callC n B tk f) (q.drop z.1)) z.2 ((p.u.1 i).1.drop z.1) h') (fun z => q.length - z.1) (0, l) ⟨rfl, rfl, rfl, rfl, rfl, rfl, rfl, trivial⟩ ⟨rfl, Nat.zero_le _, Nat.zero_le _, hl13, w13⟩ ?_
        clear w13 hl13 l h13
        rintro ⟨k, l⟩ h14 δ14 ⟨hδ, hk, hkt, hl, w⟩ again2
        dsimp only at hδ hk hkt hl w again2 ⊢
        subst hδ
        have u14 := w.all.up
        have gp := u14.get gp9 (fun x => x)
        have c3 : hcell h14 ⟨b, o + i * 1, none⟩ = some (.slice a' q.length k') := hcell_same e3 (lowAt h14 u14 b e2)
        by_cases hkn : k < q.length
        · obtain ⟨cq, hcq⟩ : ∃ cq, q[k]? = some cq := ⟨_, List.getElem?_eq_getElem hkn⟩
          obtain ⟨b', o', ea, f2, f3⟩ := e4 k cq hcq
          subst ea
          rw [drop_at hcq] at w
          unfold scriptG at w
          have rw4 : TJ.hrow h14 b' (o' + k * 3) (gcallL cq) := fun j v hv => hcell_same (f3 j v hv) (lowAt h14 u14 b' f2)
          (repeat (first | refine EK.seq ?_ | refine EK.region ?_ | refine ER.done ?_ | refine EK.skip ?_ | refine EK.block ?_ | refine ER.move rfl rfl rfl ?_ | refine ER.fieldAddr rfl rfl rfl ?_ | refine ER.load1 rfl rfl rfl (hcell_of (by assumption) rfl) ?_ | refine ER.cmpT rfl rfl rfl rfl rfl (by first | (dsimp only [cmpP]; omega) | exact rfl | exact Int.le_refl _) ?_ | refine ER.len1 rfl rfl rfl ?_ | refine ER.indexSl rfl rfl rfl rfl (by omega) (by omega) ?_ | refine EK.condT rfl ?_ | refine ER.load1 rfl rfl rfl (by assumption) ?_))
          refine EK.regionAnyM (fun z : Nat × GAns × Option (List Ev) => [(11, ptr z.1), (10, .int .i64 k), (9, .int .i64 k), (8, ptr x), (7, .int .i64 i), (6, ptr W), (4, ptr S0), (1, ptr pB)]) (fun z h' δ' => δ' = ⟨0, m⟩ /\ h'[z.1]? = some (gansO z.2.1) /\ (match z.2.2 with | some l' => l'.length < f /\ WIn R (fun b => nmC n (idx b)) lL lW lY lV h9 W s pr x i (.emit z.2.1 (scriptG (callC n B tk f) (q.drop (k + 1)))) l' ((p.u.1 i).1.drop k) h' | none => (p.u.1 i).1.drop k = [] /\ WOu R (fun b => nmC n (idx b)) lL lW lY lV h9 W s x i h')) (fun h' => hcell h' ⟨pB, 3, none⟩ = some (.slice (some ⟨b, o, none⟩) sc.length kS) /\ TJ.hrow h' pB 0 [.int .i64 (n : Int), .int .i64 pk, .int .i64 tk] /\ hcell h' ⟨b, o + i * 1, none⟩ = some (.slice (some ⟨b', o', none⟩) q.length k') /\ TJ.hrow h' b' (o' + k * 3) (gcallL cq)) 13 (fun key2 => ?_) ?_
          · have zall : ∀ {h1 h2 : Hp}, (hcell h1 ⟨pB, 3, none⟩ = some (.slice (some ⟨b, o, none⟩) sc.length kS) /\ TJ.hrow h1 pB 0 [.int .i64 (n : Int), .int .i64 pk, .int .i64 tk] /\ hcell h1 ⟨b, o + i * 1, none⟩ = some (.slice (some ⟨b', o', none⟩) q.length k') /\ TJ.hrow h1 b' (o' + k * 3) (gcallL cq)) -> Upd (fun c => h9.size <= c) h1 h2 -> (hcell h2 ⟨pB, 3, none⟩ = some (.slice (some ⟨b, o, none⟩) sc.length kS) /\ TJ.hrow h2 pB 0 [.int .i64 (n : Int), .int .i64 pk, .int .i64 tk] /\ hcell h2 ⟨b, o + i * 1, none⟩ = some (.slice (some ⟨b', o', none⟩) q.length k') /\ TJ.hrow h2 b' (o' + k * 3) (gcallL cq)) := fun z u => by
              have np : ¬ h9.size <= pB := by have := lt_of_get gp9; omega
              exact ⟨u.hcell z.1 np, fun j v hv => u.hcell (z.2.1 j v hv) np, u.hcell z.2.2.1 (by show ¬ h9.size <= b; omega), fun j v hv => u.hcell (z.2.2.2 j v hv) (by show ¬ h9.size <= b'; omega)⟩
            have hZ : _ /\ _ /\ _ /\ _ := And.intro (hcell_of gp rfl : hcell h14 ⟨pB, 3, none⟩ = some (.slice (some ⟨b, o, none⟩) sc.length kS)) ⟨(hrow_block (vs := [.int .i64 (n : Int), .int .i64 pk, .int .i64 tk]) (rest := [.slice (some ⟨b, o, none⟩) sc.length kS, pv]) gp), c3, rw4⟩
            refine EA.tMove 0 rfl (by kernel_rfl) rfl rfl rfl rfl hZ ?_
            refine EA.tField 1 rfl (by kernel_rfl) rfl rfl rfl rfl hZ ?_
            refine EA.tLoadN (vs := [.int .i64 (n : Int), .int .i64 pk, .int .i64 tk]) 2 rfl (by kernel_rfl) rfl rfl rfl rfl rfl (fun _ hz => hz.2.1) hZ ?_
            refine EA.tField 3 rfl (by kernel_rfl) rfl rfl rfl rfl hZ ?_
            refine EA.tLoad 4 rfl (by kernel_rfl) rfl rfl rfl rfl (fun _ hz => hz.1) hZ ?_
            refine EA.tMove 5 rfl (by kernel_rfl) rfl rfl rfl rfl hZ ?_
            refine EA.tIdxS 6 rfl (by kernel_rfl) rfl rfl rfl rfl rfl (by omega) (by omega) hZ ?_
            refine EA.tLoad 7 rfl (by kernel_rfl) rfl rfl rfl rfl (fun _ hz => hz.2.2.1) hZ ?_
            refine EA.tMove 8 rfl (by kernel_rfl) rfl rfl rfl rfl hZ ?_
            refine EA.tIdxS 9 rfl (by kernel_rfl) rfl rfl rfl rfl rfl (by omega) (by omega) hZ ?_
            refine EA.tLoadN (vs := gcallL cq) 10 rfl (by kernel_rfl) rfl rfl rfl rfl rfl (fun _ hz => hz.2.2.2) hZ ?_
            refine EA.alt2 11 12 (by kernel_rfl) ?_ ?_
            · refine eaiCallR (i := 11) rfl rfl rfl rfl rfl rfl rfl ((gdoes_w (main := true) (δ := ⟨0, m⟩) C hpf (.inl ⟨l, hl, w⟩) NS hn1 hn).noS (S := SwS Try.prog) no7) ?_
              rintro _ h15 δ15 ⟨rfl, u15, av, rfl, hc15⟩
              have hZ2 := zall hZ (u15.mono (fun c _ hc => (w.wt c hc).1))
              refine ⟨hZ2, ?_⟩
              have z15 := zall hZ2 (Upd.push (T := fun c => h9.size <= c) h15 (gansO zA))
              refine EA.val (v := ptr h15.size) (h' := h15.push (gansO zA)) 12 rfl (by kernel_rfl) rfl rfl rfl (fun ρ Q X hρ hq => sem_allocA hq) z15 ?_
              have g15 := get_push_new h15 (gansO zA)
              refine EA.unitL (h' := h15.push (gansO av)) 13 rfl (by kernel_rfl) rfl rfl rfl (fun ρ Q X hρ hq => sem_storeN (vs := gansL av) (hρ _ _ rfl) (hρ _ _ rfl) rfl (by simp [gansL, OneCell]) (fun j hj => ⟨⟨_, hcell_of g15 (by simp only [List.getElem?_toArray]; rw [Nat.zero_add]; exact List.getElem?_eq_getElem (show j < (gansL zA).length from hj))⟩, hfroz_of g15, no7 _⟩) (by rw [row_set (c := gansL zA) (vs := gansL av) g15 rfl]; have e9 := push_set h15 (gansO zA) (gansO av); rw [show (h15.push (gansO zA)).setIfInBounds h15.size (.cells (gansL av).toArray 116 (0, 0)) = h15.push (gansO av) from e9]; exact hq)) ?_
              refine EA.done (by kernel_rfl) ?_
              rcases hc15 with ⟨l', hl', w15⟩ | ⟨ho, w15⟩
              · exact EK.back (key2 (h15.size, av, some l') _ _ ⟨rfl, get_push_new _ _, hl', w15.upd0 (Upd.push _ _)⟩) ⟨rfl, rfl, rfl, rfl, rfl, rfl, rfl, rfl, trivial⟩
              · exact EK.back (key2 (h15.size, av, none) _ _ ⟨rfl, get_push_new _ _, ho, w15.upd0 (Upd.push _ _)⟩) ⟨rfl, rfl, rfl, rfl, rfl, rfl, rfl, rfl, trivial⟩
            · have up14 := Upd.push (T := fun _ => False) h14 (gansO zA)
              have z14 := zall hZ (up14.mono (fun _ _ z => z.elim))
              refine EAi.val (i := 12) (v := ptr h14.size) (h' := h14.push (gansO zA)) rfl rfl rfl rfl (fun ρ Q X hρ hq => sem_allocA hq) z14 ?_
              have wp := w.upd0 up14
              refine EA.callR 11 rfl (by kernel_rfl) rfl rfl rfl rfl rfl rfl ((gdoes_w (main := true) (δ := ⟨0, m⟩) C hpf (.inl ⟨l, hl, wp⟩) NS hn1 hn).noS (S := SwS Try.prog) no7) ?_
              rintro _ h15 δ15 ⟨rfl, u15, av, rfl, hc15⟩
              have hZ2 := zall z14 (u15.mono (fun c _ hc => (wp.wt c hc).1))
              refine ⟨hZ2, ?_⟩
              have g15 : h15[h14.size]? = some (gansO zA) := u15.get (get_push_new _ _) (fun hc => by have := (w.wt _ hc).2; omega)
              have hh14 : h9.size <= h14.size := u14.size
              refine EA.unitL (h' := h15.setIfInBounds h14.size (gansO av)) 13 rfl (by kernel_rfl) rfl rfl rfl (fun ρ Q X hρ hq => sem_storeN (vs := gansL av) (hρ _ _ rfl) (hρ _ _ rfl) rfl (by simp [gansL, OneCell]) (fun j hj => ⟨⟨_, hcell_of g15 (by simp only [List.getElem?_toArray]; rw [Nat.zero_add]; exact List.getElem?_eq_getElem (show j < (gansL zA).length from hj))⟩, hfroz_of g15, no7 _⟩) (by rw [row_set (c := gansL zA) (vs := gansL av) g15 rfl]; exact hq)) ?_
              refine EA.done (by kernel_rfl) ?_
              rcases hc15 with ⟨l', hl', w15⟩ | ⟨ho, w15⟩
              · exact EK.back (key2 (h14.size, av, some l') _ _ ⟨rfl, get_set_same g15, hl', w15.setA g15 hh14 (by decide) (by decide) (by decide) (by decide) (by decide) _⟩) ⟨rfl, rfl, rfl, rfl, rfl, rfl, rfl, rfl, trivial⟩
              · exact EK.back (key2 (h14.size, av, none) _ _ ⟨rfl, get_set_same g15, ho, w15.setA g15 hh14 (by decide) (by decide) (by decide) (by decide) (by decide) _⟩) ⟨rfl, rfl, rfl, rfl, rfl, rfl, rfl, rfl, trivial⟩
          · clear w gp c3 rw4 u14
            rintro ⟨y, av, ol⟩ h15 δ15 ⟨hδ, gy, hc⟩
            dsimp only at hδ gy hc ⊢
            subst hδ
            cases ol with
            | none =>
              obtain ⟨ho, w⟩ := hc
              have r28 := w.row
              have hkl : k = (p.u.1 i).1.length := by
                have := List.drop_eq_nil_iff.1 ho
                omega
              obtain ⟨t, ht, ho2, hx⟩ := w.out.at_
              (repeat (first | refine EK.seq ?_ | refine EK.region ?_ | refine ER.done ?_ | refine ER.move rfl rfl rfl ?_ | refine ER.nilCheck rfl rfl rfl ?_ | refine ER.fieldAddr rfl rfl rfl ?_ | refine ER.load1 rfl rfl rfl (hcell_of (by assumption) rfl) ?_ | refine EK.condT rfl ?_))
              refine EK.exit rfl ?_
              exact EK.back (key k _ _ ⟨rfl, hkl, w.all, true, t, hx, ht, ho2, ⟨fun _ => by obtain ⟨r, hr⟩ := w.out.left; exact ⟨_, hr, rfl⟩, fun _ => rfl⟩⟩) ⟨rfl, rfl, rfl, rfl, rfl, rfl, trivial⟩
            | some l' =>
              obtain ⟨hl', w⟩ := hc
              obtain ⟨o', ho', g'⟩ := goes_emit hpf w.at_.goes
              have htk : (p.u.1 i).1[k]? = some av := by
                have := congrArg (fun z : List GAns => z[0]?) ho'
                simpa using this
              have hd : (p.u.1 i).1.drop (k + 1) = o' := by
                rw [<- List.tail_drop, ho']; rfl
              have hkt' := (take_mid htk).2.2
              have w2 : WIn R (fun b => nmC n (idx b)) lL lW lY lV h9 W s pr x i (scriptG (callC n B tk f) (q.drop (k + 1))) l' ((p.u.1 i).1.drop (k + 1)) h15 := ⟨w.all, ⟨w.at_.at_, by rw [hd]; exact g'⟩, w.x0⟩
              have r28 := w.row
              have u15 := w.all.up
              have gS : hcell h15 ⟨S0, 3, none⟩ = some (.slice (some ⟨T, 0, none⟩) sc.length sc.length) := hcell_of (u15.get gS9 (fun x => x)) rfl
              have gT : hcell h15 ⟨T, 0 + i * 1, none⟩ = some (.slice aA (p.u.1 i).1.length kA) := by
                rw [<- eA]
                exact hcell_of (u15.get gT9 (fun x => x)) (by
                  show ((List.range sc.length).map fun i => (p.u.1 i).2).toArray[0 + i * 1]? = _
                  simp [hin])
              have inn15 := (inn.upd v9 (fun _ _ x => x)).upd u15 (fun _ _ x => x)
              rw [eA] at inn15
              obtain ⟨bA, ea, hrow, -⟩ := slice_row (f := gansL) (fun _ => rfl) inn15 htk
              rw [ea] at gT
              have ry : TJ.hrow h15 y 0 (gansL av) := hrow_block (rest := []) (by rw [List.append_nil]; exact gy)
              clear w
              (repeat (first | refine EK.seq ?_ | refine EK.region ?_ | refine ER.done ?_ | refine EK.skip ?_ | refine ER.move rfl rfl rfl ?_ | refine ER.nilCheck rfl rfl rfl ?_ | refine ER.fieldAddr rfl rfl rfl ?_ | refine EK.condF rfl ?_ | refine ER.load1 rfl rfl rfl (by assumption) ?_))
              refine EK.regionAny (fun h' => h' = h15) ?_
              have hZ : h15 = h15 := rfl
              refine EA.tMove 0 rfl (by kernel_rfl) rfl rfl rfl rfl hZ ?_
              refine EA.tMove 1 rfl (by kernel_rfl) rfl rfl rfl rfl hZ ?_
              refine EA.tNil 2 rfl (by kernel_rfl) rfl rfl rfl rfl hZ ?_
              refine EA.tField 3 rfl (by kernel_rfl) rfl rfl rfl rfl hZ ?_
              refine EA.tLoad 4 rfl (by kernel_rfl) rfl rfl rfl rfl (fun _ hz => (by rw [hz]; exact gS)) hZ ?_
              refine EA.tMove 5 rfl (by kernel_rfl) rfl rfl rfl rfl hZ ?_
              refine EA.tIdxS 6 rfl (by kernel_rfl) rfl rfl rfl rfl rfl (by omega) (by omega) hZ ?_
              refine EA.tLoad 7 rfl (by kernel_rfl) rfl rfl rfl rfl (fun _ hz => (by rw [hz]; exact gT)) hZ ?_
              refine EA.tLen1 8 rfl (by kernel_rfl) rfl rfl rfl rfl hZ ?_
              refine EA.tCmpF 9 rfl (by kernel_rfl) rfl rfl rfl rfl rfl rfl (by first | (dsimp only [cmpP]; omega) | exact rfl | exact Int.le_refl _) hZ ?_
              refine EA.tMove 10 rfl (by kernel_rfl) rfl rfl rfl rfl hZ ?_
              refine EA.tMove 11 rfl (by kernel_rfl) rfl rfl rfl rfl hZ ?_
              refine EA.tNil 12 rfl (by kernel_rfl) rfl rfl rfl rfl hZ ?_
              refine EA.tField 13 rfl (by kernel_rfl) rfl rfl rfl rfl hZ ?_
              refine EA.tLoad 14 rfl (by kernel_rfl) rfl rfl rfl rfl (fun _ hz => (by rw [hz]; exact gS)) hZ ?_
              refine EA.tMove 15 rfl (by kernel_rfl) rfl rfl rfl rfl hZ ?_
              refine EA.tIdxS 16 rfl (by kernel_rfl) rfl rfl rfl rfl rfl (by omega) (by omega) hZ ?_
              refine EA.tLoad 17 rfl (by kernel_rfl) rfl rfl rfl rfl (fun _ hz => (by rw [hz]; exact gT)) hZ ?_
              refine EA.tMove 18 rfl (by kernel_rfl) rfl rfl rfl rfl hZ ?_
              refine EA.tIdxS 19 rfl (by kernel_rfl) rfl rfl rfl rfl rfl (by omega) (by omega) hZ ?_
              refine EA.tLoadN (vs := gansL av) 20 rfl (by kernel_rfl) rfl rfl rfl rfl rfl (fun _ hz => by rw [hz]; exact hrow) hZ ?_
              refine EA.tLoadN (vs := gansL av) 21 rfl (by kernel_rfl) rfl rfl rfl rfl rfl (fun _ hz => by rw [hz]; exact ry) hZ ?_
              refine EA.val (h' := h15) 22 rfl (by kernel_rfl) rfl rfl rfl (fun ρ Q X hρ hq => sem_neqA3 (hρ _ _ rfl) (hρ _ _ rfl) hq) hZ ?_
              refine EA.tPickF 23 rfl (by kernel_rfl) rfl rfl rfl rfl rfl hZ ?_
              refine EA.done (by kernel_rfl) ?_
              (repeat (first | refine EK.region ?_ | refine ER.done ?_ | refine EK.skip ?_ | refine EK.inBlock ?_ | refine ER.move rfl rfl rfl ?_ | refine ER.assign rfl rfl rfl ?_ | refine ER.add (kd := .i64) rfl rfl rfl rfl (i64_in (by omega) (by omega)) ?_ | refine EK.condF rfl ?_))
              exact EK.back (again2 (k + 1, l') _ _ (by dsimp only; omega) ⟨rfl, by dsimp only; omega, by dsimp only; omega, by dsimp only; omega, w2⟩) ⟨rfl, rfl, rfl, rfl, rfl, rfl, rfl, trivial⟩
        · obtain rfl : k = q.length := by omega
          clear again2
          rw [List.drop_length] at w
          obtain ⟨hl0, ho0, hp0⟩ := goes_done w.at_.goes
          obtain ⟨t, ht, ho2, hx⟩ := w.at_.at_
          rw [hl0] at ho2
          have hkl : q.length = (p.u.1 i).1.length := by
            have := List.drop_eq_nil_iff.1 ho0
            omega
          have hnl : ∀ z, z ∈ R.left -> z.1 ≠ i := by
            rcases hpf with ⟨r, k, -, e⟩ | ⟨h, -⟩
            · rw [hp0] at e; cases e
            · exact h
          have wa := w.all
          clear w
          (repeat (first | refine EK.seq ?_ | refine EK.region ?_ | refine ER.done ?_ | refine ER.move rfl rfl rfl ?_ | refine ER.fieldAddr rfl rfl rfl ?_ | refine ER.load1 rfl rfl rfl (hcell_of (by assumption) rfl) ?_ | refine ER.cmpF rfl rfl rfl rfl rfl (by first | (dsimp only [cmpP]; omega) | exact rfl | exact Int.le_refl _) ?_ | refine ER.len1 rfl rfl rfl ?_ | refine ER.indexSl rfl rfl rfl rfl (by omega) (by omega) ?_ | refine EK.condF rfl ?_ | refine ER.load1 rfl rfl rfl (by assumption) ?_))
          refine EK.exit rfl ?_
          exact EK.back (key q.length _ _ ⟨rfl, hkl, wa, false, t, hx, ht, ho2, ⟨fun e => (by cases e), fun ⟨z, hz, e⟩ => absurd e (hnl z hz)⟩⟩) ⟨rfl, rfl, rfl, rfl, rfl, rfl, trivial⟩
      · clear w13 hl13
        rintro k h15 δ15 ⟨rfl, hkl, a15, out, t, gx, ht, ho, hlo⟩
        (repeat (first | refine EK.seq ?_ | refine EK.region ?_ | refine ER.move rfl rfl rfl ?_))
        refine ER.callR rfl rfl rfl rfl rfl ((end_ok (main := true) (δ := ⟨0, m⟩) C a15 gx hx0 ht ho hlo).noS (S := SwS Try.prog) no7) ?_
        rintro _ h16 δ16 ⟨rfl, a16, u16⟩
        have u15 := a16.up
        have gS : hcell h16 ⟨S0, 3, none⟩ = some (.slice (some ⟨T, 0, none⟩) sc.length sc.length) := hcell_of (u15.get gS9 (fun x => x)) rfl
        have gT : hcell h16 ⟨T, 0 + i * 1, none⟩ = some (.slice aA (p.u.1 i).1.length kA) := by
          rw [<- eA]
          exact hcell_of (u15.get gT9 (fun x => x)) (by
            show ((List.range sc.length).map fun i => (p.u.1 i).2).toArray[0 + i * 1]? = _
            simp [hin])
        subst hkl
        (repeat (first | refine EK.seq ?_ | refine EK.region ?_ | refine ER.done ?_ | refine EK.skip ?_ | refine EK.inBlock ?_ | refine ER.move rfl rfl rfl ?_ | refine ER.assign rfl rfl rfl ?_ | refine ER.nilCheck rfl rfl rfl ?_ | refine ER.fieldAddr rfl rfl rfl ?_ | refine ER.cmpF rfl rfl rfl rfl rfl (by first | (dsimp only [cmpP]; omega) | exact rfl | exact Int.le_refl _) ?_ | refine ER.add (kd := .i64) rfl rfl rfl rfl (i64_in (by omega) (by omega)) ?_ | refine ER.len1 rfl rfl rfl ?_ | refine ER.indexSl rfl rfl rfl rfl (by omega) (by omega) ?_ | refine EK.condF rfl ?_ | refine ER.load1 rfl rfl rfl (by assumption) ?_))
        exact EK.back (again (i + 1) _ _ (by omega) ⟨rfl, by omega, a16⟩) ⟨rfl, rfl, rfl, rfl, trivial⟩
    · obtain rfl : i = sc.length := by omega
      clear again
      obtain ⟨q, Iw, -⟩ := a12
      have c7 : hcell h12 ⟨W, 7, none⟩ = some (.bool false) := hcell_of Iw.row rfl
      (repeat (first | refine EK.seq ?_ | refine EK.region ?_ | refine ER.done ?_ | refine ER.move rfl rfl rfl ?_ | refine ER.assign rfl rfl rfl ?_ | refine ER.nilCheck rfl rfl rfl ?_ | refine ER.fieldAddr rfl rfl rfl ?_ | refine ER.load1 rfl rfl rfl (hcell_of (by assumption) rfl) ?_ | refine ER.notB rfl rfl rfl ?_ | refine ER.cmpF rfl rfl rfl rfl rfl (by first | (dsimp only [cmpP]; omega) | exact rfl | exact Int.le_refl _) ?_ | refine ER.len1 rfl rfl rfl ?_ | refine EK.condF rfl ?_ | refine EK.ret ?_ | refine EK.exit rfl ?_ | refine ER.load1 rfl rfl rfl (by assumption) ?_))
      exact EU.ret1 rfl rfl ⟨rfl, rfl, (uu7.trans v9).trans Iw.up⟩
end
section
open Go Go.TJ Go.Conc Go.Proofs
open Go.ChangeShapes Go.WideShapes Go.ChangeAt Go.RowKit
theorem plain0 {w : World} {a : Addr} {v : Value} (h : w.cell? a = some v) : ∃ b o, a = ⟨b, o, none⟩ /\ b < w.heap.size := by
  have h' : hcell w.heap a = some v := h
  rcases a with ⟨b, o, s⟩
  obtain ⟨c, e, f, h1, h2, _⟩ := hcell_some h'
  obtain rfl : s = none := h2
  exact ⟨b, o, rfl, lt_of_get h1⟩
theorem plainAt {w : World} {b o i : Nat} {v : Value} (h : w.cell? ((⟨b, o, none⟩ : Addr).add i) = some v) : hcell w.heap ⟨b, o + i, none⟩ = some v := by
  rw [add_eq] at h; exact h
section
variable {H : Type} {enc : TypeId × Value -> H} {w : World} {base : Nat} {spare : Nat -> Bool} {held : Bool}
theorem weightsAll_mem {P : Program} {e : TypeId} : ∀ {l : List (DataW H)} {d : DataW H}, d ∈ l -> ∀ n, n ∈ d.weights P e -> n ∈ DataW.weightsAll P e l
  | [], _, h, _, _ => by cases h
  | x :: r, d, h, n, hn => by
    rw [DataW.weightsAll]
    rcases List.mem_cons.1 h with rfl | h
    · exact List.mem_append_left _ hn
    · exact List.mem_append_right _ (weightsAll_mem h n hn)
theorem weights_slice {P : Program} {t e : TypeId} (ht : P.underlying t = some (.slice e)) (els sp : List (DataW H)) : (DataW.slice els sp).weights P t = (els.length + sp.length) * P.bytesOf e :: (DataW.weightsAll P e els ++ DataW.weightsAll P e sp) := by
  simp only [DataW.weights, ht]
open Go.Deep in
theorem open_slice_triples {P : Program} {t e : TypeId} {f0 f1 f2 : Field} {fuel : Nat} {cs : List Value} {x : DataW H × List MemPlace} (ht : P.underlying t = some (.slice e)) (he : P.underlying e = some (.struct #[f0, f1, f2]))
    (ce : P.cellsOf e = 3) (o0 : f0.offset = 0) (o1 : f1.offset = 1) (o2 : f2.offset = 2) (c0 : P.cellsOf f0.type = 1) (c1 : P.cellsOf f1.type = 1) (c2 : P.cellsOf f2.type = 1) (h : DataW.trod enc P w base spare held fuel t cs = some x) :
    (cs = [.slice none 0 0] /\ x = (.nil, [])) \/
    ∃ (a : Addr) (len cap m n : Nat) (V : Nat -> Value × Value × Value) (D : Nat -> DataW H), cs = [.slice (some a) len cap] /\ len <= m /\
      (∃ sp, x.1 = .slice ((List.range len).map fun i => D i) sp) /\
      ∀ i, i < m -> w.cell? (a.add (i * 3)) = some (V i).1 /\ w.cell? (a.add (i * 3 + 1)) = some (V i).2.1 /\ w.cell? (a.add (i * 3 + 2)) = some (V i).2.2 /\
        (∃ y, DataW.trod enc P w base spare held n f0.type [(V i).1] = some y) /\ (∃ y, DataW.trod enc P w base spare held n f1.type [(V i).2.1] = some y) /\ ∃ y, DataW.trod enc P w base spare held n f2.type [(V i).2.2] = some y := by
  rcases open_slice ht h with h0 | ⟨a, len, cap, m, n, D, Pl, rfl, hb, hl, hm, hmm, rfl, hx⟩
  · exact Or.inl h0
  right
  have hlm : len <= m := by rw [hmm]; split <;> omega
  have each : ∀ i, i < m -> ∃ q : Value × Value × Value, w.cell? (a.add (i * 3)) = some q.1 /\ w.cell? (a.add (i * 3 + 1)) = some q.2.1 /\ w.cell? (a.add (i * 3 + 2)) = some q.2.2 /\
      (∃ y, DataW.trod enc P w base spare held (n - 1) f0.type [q.1] = some y) /\ (∃ y, DataW.trod enc P w base spare held (n - 1) f1.type [q.2.1] = some y) /\ ∃ y, DataW.trod enc P w base spare held (n - 1) f2.type [q.2.2] = some y := by
    intro i hi
    obtain ⟨cs', h1, h2⟩ := hx i hi
    rw [ce] at h1
    obtain ⟨_, hlen, hcell⟩ := World.cells?_some h1
    obtain ⟨xs, k, hk, hxy, _, hxl, hf⟩ := DataW.trod_struct he h2
    have hk' : k = n - 1 := by omega
    subst hk'
    match xs, hxl, cs', hlen with
    | [y0, y1, y2], _, [v0, v1, v2], _ =>
      have g0 := hf 0 f0 rfl
      have g1 := hf 1 f1 rfl
      have g2 := hf 2 f2 rfl
      simp [o0, o1, o2, c0, c1, c2] at g0 g1 g2
      have e0 := hcell 0 (by omega)
      have e1 := hcell 1 (by omega)
      have e2 := hcell 2 (by omega)
      rw [add_add] at e0 e1 e2
      exact ⟨(v0, v1, v2), by simpa using e0, by simpa using e1, by simpa using e2, ⟨_, g0⟩, ⟨_, g1⟩, ⟨_, g2⟩⟩
  obtain ⟨q, hq⟩ := choose_lt each
  exact ⟨a, len, cap, m, n - 1, q, D, rfl, hlm, ⟨_, rfl⟩, hq⟩
theorem open_calls {fuel : Nat} {v : Value} {x : DataW H × List MemPlace} (h : DataW.trod enc Try.prog w base spare held fuel 115 [v] = some x) (hz : ∀ n, n ∈ x.1.weights Try.prog 115 -> n <= reachBytes) :
    ∃ (a' : Option Addr) (l : List GCall) (k' : Nat), v = .slice a' l.length k' /\ l.length <= 1000000000000000 /\ ∀ j q, l[j]? = some q -> ∃ b' o', a' = some ⟨b', o', none⟩ /\ b' < w.heap.size /\ TJ.hrow w.heap b' (o' + j * 3) (gcallL q) := by
  rcases open_slice_triples Try.underlying115 Try.underlying119 (by kernel_rfl) rfl rfl rfl (by kernel_rfl) (by kernel_rfl) (by kernel_rfl) h with ⟨hcs, _⟩ | ⟨a, l, c, m, n, V, D, hcs, hlm, ⟨sp, hxe⟩, hx⟩
  · injection hcs with hcs _
    exact ⟨none, [], 0, hcs, Nat.zero_le _, fun j q hq => by cases hq⟩
  · injection hcs with hcs _
    have hbig : l <= 1000000000000000 := by
      have hb : Try.prog.bytesOf 119 = 24 := by kernel_rfl
      have := hz _ (by rw [hxe, weights_slice Try.underlying115]; exact List.mem_cons_self ..)
      rw [hb] at this
      simp only [List.length_map, List.length_range, reachBytes] at this
      omega
    obtain ⟨f, hf⟩ := Go.Deep.choose_lt (n := l) (p := fun i (x : Int × Int × Int) => w.cell? (a.add (i * 3)) = some (.int .i64 x.1) /\ w.cell? (a.add (i * 3 + 1)) = some (.int .i64 x.2.1) /\ w.cell? (a.add (i * 3 + 2)) = some (.int .i64 x.2.2)) (fun i hi => by
      obtain ⟨c0, c1, c2, ⟨_, t0⟩, ⟨_, t1⟩, ⟨_, t2⟩⟩ := hx i (by omega)
      obtain ⟨z0, e0, _, _⟩ := DataW.trod_int Try.underlying3 t0
      obtain ⟨z1, e1, _, _⟩ := DataW.trod_int Try.underlying3 t1
      obtain ⟨z2, e2, _, _⟩ := DataW.trod_int Try.underlying2 t2
      simp at e0 e1 e2
      exact ⟨(z0, z1, z2), by rw [c0, e0], by rw [c1, e1], by rw [c2, e2]⟩)
    refine ⟨some a, (List.range l).map f, c, by rw [List.length_map, List.length_range]; exact hcs, by rw [List.length_map, List.length_range]; exact hbig, fun j q hq => ?_⟩
    rw [List.getElem?_map] at hq
    obtain ⟨j', hj', rfl⟩ := Option.map_eq_some_iff.1 hq
    have hjl : j < l := by
      have := (take_mid hj').2.2
      rwa [List.length_range] at this
    rw [List.getElem?_range hjl] at hj'
    injection hj' with hj'
    subst hj'
    obtain ⟨b', o', rfl, hb⟩ := plain0 (a := a) (by have := (hf 0 (by omega)).1; exact this)
    obtain ⟨g0, g1, g2⟩ := hf j hjl
    refine ⟨b', o', rfl, hb, fun i v hv => ?_⟩
    match i, hv with
    | 0, hv =>
      obtain rfl : Value.int .i64 (f j).1 = v := by simpa [gcallL] using hv
      have g := plainAt g0
      exact g
    | 1, hv =>
      obtain rfl : Value.int .i64 (f j).2.1 = v := by simpa [gcallL] using hv
      have g := plainAt g1
      exact g
    | 2, hv =>
      obtain rfl : Value.int .i64 (f j).2.2 = v := by simpa [gcallL] using hv
      have g := plainAt g2
      exact g
    | i + 3, hv => simp [gcallL] at hv
theorem open_picks {fuel : Nat} {v : Value} {x : DataW H × List MemPlace} (h : DataW.trod enc Try.prog w base spare held fuel 25 [v] = some x) (hz : ∀ n, n ∈ x.1.weights Try.prog 25 -> n <= reachBytes) :
    ∃ picks : List Int, RdS w.heap v (picks.map fun x => .int .i64 x) /\ picks.length <= 1000000000000000 := by
  rcases Go.Deep.open_slice1 Try.underlying25 (by kernel_rfl) h with ⟨hcs, _⟩ | ⟨a, l, c, m, n, V, D, Pl, hcs, _, hl, hm, hmm, hxe, hx⟩
  · injection hcs with hcs _
    subst hcs
    exact ⟨[], ⟨⟨none, 0, rfl⟩, fun i v hv => by cases hv⟩, Nat.zero_le _⟩
  · injection hcs with hcs _
    subst hcs
    have hbig : l <= 1000000000000000 := by
      have hb : Try.prog.bytesOf 3 = 8 := by kernel_rfl
      have := hz _ (by rw [hxe, weights_slice Try.underlying25]; exact List.mem_cons_self ..)
      rw [hb] at this
      simp only [List.length_map, List.length_range, reachBytes] at this
      omega
    have hlm : l <= m := by rw [hmm]; split <;> omega
    obtain ⟨f, hf⟩ := Go.Deep.choose_lt (n := l) (p := fun i (x : Int) => w.cell? (a.add i) = some (.int .i64 x)) (fun i hi => by
      obtain ⟨c0, t0⟩ := hx i (by omega)
      obtain ⟨z0, e0, _, _⟩ := DataW.trod_int Try.underlying3 t0
      simp at e0
      exact ⟨z0, by rw [c0, e0]⟩)
    refine ⟨(List.range l).map f, ⟨⟨some a, c, by simp⟩, fun i v hv => ?_⟩, by rw [List.length_map, List.length_range]; exact hbig⟩
    rw [List.getElem?_map] at hv
    obtain ⟨z, hv', rfl⟩ := Option.map_eq_some_iff.1 hv
    rw [List.getElem?_map] at hv'
    obtain ⟨j', hj', rfl⟩ := Option.map_eq_some_iff.1 hv'
    have hjl : i < l := by
      have := (take_mid hj').2.2
      rwa [List.length_range] at this
    rw [List.getElem?_range hjl] at hj'
    injection hj' with hj'
    subst hj'
    obtain ⟨b', o', rfl, hb⟩ := plain0 (a := a) (by have := hf 0 (by omega); exact this)
    exact ⟨b', o', c, by simp, by rw [Nat.mul_one]; exact plainAt (hf i hjl)⟩
theorem open_scripts {fuel : Nat} {v : Value} {x : DataW H × List MemPlace} (h : DataW.trod enc Try.prog w base spare held fuel 108 [v] = some x) (hz : ∀ n, n ∈ x.1.weights Try.prog 108 -> n <= reachBytes) :
    ∃ sc : List (List GCall), ScrM w.heap.size w.heap v sc := by
  rcases Go.Deep.open_slice1 Try.underlying108 (by kernel_rfl) h with ⟨hcs, _⟩ | ⟨a, l, c, m, n, V, D, Pl, hcs, _, hl, hm, hmm, hxe, hx⟩
  · injection hcs with hcs _
    subst hcs
    exact ⟨[], ⟨none, 0, rfl⟩, ⟨Nat.zero_le _, fun l hl => by cases hl⟩, fun i l hl => by cases hl⟩
  · injection hcs with hcs _
    subst hcs
    rw [hxe, weights_slice Try.underlying108] at hz
    have hbig : l <= 1000000000000000 := by
      have hb : Try.prog.bytesOf 115 = 24 := by kernel_rfl
      have := hz _ (List.mem_cons_self ..)
      rw [hb] at this
      simp only [List.length_map, List.length_range, reachBytes] at this
      omega
    have hlm : l <= m := by rw [hmm]; split <;> omega
    obtain ⟨f, hf⟩ := Go.Deep.choose_lt (n := l) (p := fun i (x : Option Addr × List GCall × Nat) => w.cell? (a.add i) = some (.slice x.1 x.2.1.length x.2.2) /\ x.2.1.length <= 1000000000000000 /\ ∀ j q, x.2.1[j]? = some q -> ∃ b' o', x.1 = some ⟨b', o', none⟩ /\ b' < w.heap.size /\ TJ.hrow w.heap b' (o' + j * 3) (gcallL q)) (fun i hi => by
      obtain ⟨c0, t0⟩ := hx i (by omega)
      obtain ⟨a', l', k', e1, e2, e3⟩ := open_calls t0 (fun n hn => hz n (List.mem_cons_of_mem _ (List.mem_append_left _ (weightsAll_mem (d := D i) (List.mem_map_of_mem (List.mem_range.2 hi)) n hn))))
      exact ⟨(a', l', k'), by rw [c0, e1], e2, e3⟩)
    refine ⟨(List.range l).map fun i => (f i).2.1, ⟨some a, c, by simp⟩, ⟨by simpa using hbig, fun q hq => ?_⟩, fun i q hq => ?_⟩
    · obtain ⟨i, hi, rfl⟩ := List.mem_map.1 hq
      exact (hf i (List.mem_range.1 hi)).2.1
    · rw [List.getElem?_map] at hq
      obtain ⟨j', hj', rfl⟩ := Option.map_eq_some_iff.1 hq
      have hjl : i < l := by
        have := (take_mid hj').2.2
        rwa [List.length_range] at this
      rw [List.getElem?_range hjl] at hj'
      injection hj' with hj'
      subst hj'
      obtain ⟨b', o', rfl, hb⟩ := plain0 (a := a) (by have := (hf 0 (by omega)).1; exact this)
      obtain ⟨g0, g1, g2⟩ := hf i hjl
      exact ⟨b', o', c, (f i).1, (f i).2.2, by simp, hb, by rw [Nat.mul_one]; exact plainAt g0, g2⟩
set_option maxRecDepth 100000 in
theorem open_play {fuel : Nat} {cs : List Value} {x : DataW H × List MemPlace} (h : DataW.trod enc Try.prog w base spare held fuel 110 cs = some x) (hz : ∀ n, n ∈ x.1.weights Try.prog 110 -> n <= reachBytes) :
    ∃ (N pk tk : Int) (scv pv : Value) (sc : List (List GCall)) (picks : List Int), cs = [.int .i64 N, .int .i64 pk, .int .i64 tk, scv, pv] /\ ScrM w.heap.size w.heap scv sc /\ RdS w.heap pv (picks.map fun x => .int .i64 x) /\ picks.length <= 1000000000000000 := by
  obtain ⟨xs, n, -, hxe, hl, hxl, hfs⟩ := DataW.trod_struct Try.underlying110 h
  have h3 : Try.prog.cellsOf 110 = 5 := by kernel_rfl
  have hm1 : Try.prog.cellsOf 107 = 3 := by kernel_rfl
  have hs1 : Try.prog.cellsOf 108 = 1 := by kernel_rfl
  have hp1 : Try.prog.cellsOf 25 = 1 := by kernel_rfl
  have hi1 : Try.prog.cellsOf 3 = 1 := by kernel_rfl
  have hi2 : Try.prog.cellsOf 2 = 1 := by kernel_rfl
  rw [h3] at hl
  obtain ⟨c0, c1, c2, c3, c4, rfl⟩ : ∃ c0 c1 c2 c3 c4, cs = [c0, c1, c2, c3, c4] := by
    match cs, hl with
    | [c0, c1, c2, c3, c4], _ => exact ⟨c0, c1, c2, c3, c4, rfl⟩
  obtain ⟨x0, x1, x2, rfl⟩ : ∃ c0 c1 c2, xs = [c0, c1, c2] := by
    match xs, hxl with
    | [c0, c1, c2], _ => exact ⟨c0, c1, c2, rfl⟩
  have f0 := hfs 0 _ rfl
  have f1 := hfs 1 _ rfl
  have f2 := hfs 2 _ rfl
  simp [hm1, hs1, hp1] at f0 f1 f2
  have hw : x.1.weights Try.prog 110 = x0.1.weights Try.prog 107 ++ (x1.1.weights Try.prog 108 ++ (x2.1.weights Try.prog 25 ++ [])) := by
    rw [hxe]
    simp only [DataW.weights, Try.underlying110]
    rfl
  rw [hw] at hz
  obtain ⟨sc, hsc⟩ := open_scripts f1 (fun n hn => hz n (List.mem_append_right _ (List.mem_append_left _ hn)))
  obtain ⟨picks, hp, hpl⟩ := open_picks f2 (fun n hn => hz n (List.mem_append_right _ (List.mem_append_right _ (List.mem_append_left _ hn))))
  obtain ⟨ys, n', -, -, -, hyl, hgs⟩ := DataW.trod_struct Try.underlying107 f0
  obtain ⟨y0, y1, y2, rfl⟩ : ∃ y0 y1 y2, ys = [y0, y1, y2] := by
    match ys, hyl with
    | [y0, y1, y2], _ => exact ⟨y0, y1, y2, rfl⟩
  have g0 := hgs 0 _ rfl
  simp [hi1] at g0
  obtain ⟨z0, e0, _, _⟩ := DataW.trod_int Try.underlying3 g0
  simp at e0
  have g1 := hgs 1 _ rfl
  simp [hi2] at g1
  obtain ⟨z1, e1, _, _⟩ := DataW.trod_int Try.underlying2 g1
  simp at e1
  have g2 := hgs 2 _ rfl
  simp [hi2] at g2
  obtain ⟨z2, e2, _, _⟩ := DataW.trod_int Try.underlying2 g2
  simp at e2
  exact ⟨z0, z1, z2, c3, c4, sc, picks, by rw [e0, e1, e2], hsc, hp, hpl⟩
end
end
end Go.Proofs.Ytcpcdnkemobneaa
namespace Go.Proofs.Ytcpcdnkemobneaa.countPlays
section
open Go.ChangeShapes Go.WideShapes Go.ChangeAt Go.RowKit Go.Conc Go.ConcM
theorem own : ownKnob Try.prog.godebug = none := by kernel_rfl
theorem laidOut : laidOutB Try.prog = true := by kernel_rfl
set_option maxRecDepth 100000 in
theorem lifted (os : Os) (started : os.Started) (H : Type) (enc : TypeId × Value -> H) (F : Stop.Interp) :
    ReturnsInLeavingWide Rows.countPlaysRow.assume Try.checked os 8 .any (Rows.countPlaysSpec.pre6 enc Try.prog Try.f8 Rows.countPlaysRow.domain false) ((OpenSpec.ofChange Rows.countPlaysSpec).postWith enc Try.prog Try.f8 F (outsideKept [.timePasses]) false true false) := by
  refine returnsInLeavingWide_of_change_time (C := Try.checked) own started Try.func8
    (ChangeSpec.witness6c (enc := enc) (C := Try.checked) ⟨#[], #[.agg #[.int .i64 0, .int .i64 0, .int .i64 0, .slice none 0 0, .slice none 0 0]], []⟩ 8 (by kernel_rfl) (by kernel_rfl) (by kernel_rfl) (by kernel_rfl)) ?_
  intro W base args ds gs before hval0 hW _ hsz0 _
  have hval : ∀ (j : Nat) t v, Try.f8.params[j]? = some t -> args[j]? = some v -> Value.okWide Try.prog W .any base t v := hval0
  have hsz : (DataW.weightsEach Try.prog (Try.f8.params.toList ++ Rows.countPlaysSpec.plain.varTypes Try.prog) (ds ++ gs)).all (· <= reachBytes) = true := hsz0
  have hW' := hW
  obtain ⟨p, q, hA0, hV, rfl, hfz, hnd⟩ := hW
  have hA : DataW.TrodAll enc Try.prog W 0 (fun _ => true) true Try.f8.params.toList args.toList ds p := hA0
  rw [Try.params8] at hA hval hsz
  obtain ⟨v0, vs0, d0, ds0, p0, q0, hargs0, rfl, rfl, h0, r0⟩ := trodAll_cons hA
  obtain ⟨rfl, rfl, rfl⟩ := trodAll_nil r0
  obtain rfl : args = #[v0] := by cases args; simp_all
  obtain ⟨rfl, rfl⟩ := trodVars_none hV
  obtain ⟨cs0, rfl, hcs0⟩ := okWide_struct Try.underlying110 (hval 0 110 v0 rfl rfl)
  have k0 := h0
  have lt0 : ∀ x ∈ p0, x.block < W.heap.size := by obtain ⟨m, hm⟩ := k0; exact DataW.trod_lt m _ _ _ hm
  obtain ⟨N, pk, tk, scv, pv, sc, picks, ecs, hsc, hpk, hpl⟩ : ∃ (N pk tk : Int) (scv pv : Value) (sc : List (List GCall)) (picks : List Int), cs0 = #[.int .i64 N, .int .i64 pk, .int .i64 tk, scv, pv] /\ ScrM W.heap.size W.heap scv sc /\ RdS W.heap pv (picks.map fun x => .int .i64 x) /\ picks.length <= 1000000000000000 := by
    obtain ⟨m, hm⟩ := h0
    obtain ⟨N, pk, tk, scv, pv, sc, picks, e, r1, r2, r3⟩ := open_play (cs := cs0.toList) hm (fun n hn => by
      have := List.all_eq_true.1 hsz n (DataW.weights_mem_each (j := 0) (t := 110) rfl rfl n hn)
      exact of_decide_eq_true this)
    exact ⟨N, pk, tk, scv, pv, sc, picks, by cases cs0; simp at e; subst e; rfl, r1, r2, r3⟩
  subst ecs
  clear hA0 hval0
  obtain ⟨M, last, o, w', t', z1, z2, z3, v, e, ⟨⟨rfl, hu⟩, hs⟩, g1, g2, g3, g4⟩ := Go.TJ.sw_run (f := 8) (args := #[.agg #[.int .i64 N, .int .i64 pk, .int .i64 tk, scv, pv]]) (W := W) (R := fun v h' => v = .bool true /\ Go.TJ.Upd (fun _ => False) W.heap h') (by kernel_rfl)
    ((slaw_ok hsc hpk hpl).mono (by
      rintro (w | w) h' δ' x
      · obtain ⟨x1, x2, x3⟩ := x
        exact ⟨x1, x2, x3⟩
      · exact x.elim))
  refine ⟨M, last, o, w', t', z1, z2, z3, _, e, ⟨?_, by rw [hs.os]; exact OsLater.refl _⟩, g1, g2, g3, g4⟩
  have hbel : Below W.heap.size W { w' with os := W.os } := ⟨rfl, hs.tape, hs.output, hu.size, fun k hk => hu.same k hk (fun x => x)⟩
  exact ⟨_, _, _, [], _, [], hW', trodAll_mk1 (shut_bool Try.underlying4 _), (trodAll_cons_mk (Below.trod laidOut (by kernel_rfl) (of_decide_eq_true (by kernel_rfl)) k0 hbel lt0) trodAll_mk0), rfl, hbel.frame _, fun h => by cases h⟩
theorem proved : Rows.CountPlaysSaid :=
  OpenClaim.holds_of_wide_leaving_time 8 Try.f8 rfl rfl rfl rfl rfl rfl rfl ⟨rfl, rfl, rfl, rfl, rfl⟩ rfl rfl rfl rfl rfl (by kernel_rfl) Try.func8 (by kernel_rfl)
    (of_decide_eq_true (by kernel_rfl)) (by unfold Func.isWrapper; first | (rw [if_pos (by decide +kernel)]; kernel_rfl) | (rw [if_neg (by decide +kernel)]; exact ⟨rfl, rfl⟩))
    (fun os started H enc _ F => lifted os started H enc F)
#print axioms proved
end
end Go.Proofs.Ytcpcdnkemobneaa.countPlays
