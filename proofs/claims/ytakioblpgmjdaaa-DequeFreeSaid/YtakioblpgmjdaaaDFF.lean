/- Steps of the walk and of the plain law (DfC to TjGR). Conditions: as each lemma says. -/
import Derived.Test.YtakioblpgmjdaaaDFE
set_option linter.unusedSectionVars false
set_option linter.unusedVariables false
set_option linter.unusedSimpArgs false
namespace Go.Proofs.Ytakioblpgmjdaaa
section
open Go Go.TJ Go.Proofs
variable [Dm]
section
variable {i : Nat} {c : Dc} {y : Dy}
theorem mem_b (j : Nat) (h1 : 2 <= j) (h2 : j < 4) (hc : y.c = c) : c.B j ∈ dL.cls y := by rw [<- hc]; exact d_cls h1 (by omega)
theorem mem_s (L0 : 0 < c.L) (x : Nat) (hc : y.c = c) : c.sl x ∈ dL.cls y := by
  have := slot_lt L0 (c.F + x)
  rw [<- hc]
  rw [<- hc] at this
  exact d_cls (by omega) (by omega)
end
section
variable {h : Hp} {δ : Ix (Gf Dy)} {i : Nat} {c : Dc} {po : List Int} {bd bt np sb rb cap : Nat} {sq : Value}
set_option maxRecDepth 8000 in
set_option maxHeartbeats 8000000 in
theorem pop_d (hA : Idle dL i δ.g) (hi : i = c.n + 1) (o : OwnD i c po bd sq δ.g.y) (oo : OwnO c bt np 0 δ.g.y) (hbd : 3 <= bd) (hL : c.L = 2 ^ c.e) (he : 1 <= c.e /\ c.e <= 12) (m : KQ c sb rb cap h) :
    CallW Try.prog false (SitW Try.prog (XF TT dL) i) 21 #[ptr sb, .pointer none] h δ (Ret (Cq dL i h δ.d δ.g.wg fun v y => (v = .tuple #[.int .i64 0, .bool false] /\ OwnD i c po (bd - 3) sq y /\ OwnO c bt np 0 y /\ bt <= y.tp) \/ (∃ z, v = .tuple #[.int .i64 z, .bool true] /\ OwnD i c (po ++ [z]) (bd - 3) sq y /\ ∃ bt', bt' <= bt /\ OwnO c bt' np 0 y /\ bt' < y.tp + c.L))) := by
  have i0 := hA.i0
  have mt := m.t
  have mb := m.b
  have L2 : 2 <= c.L := by rw [hL]; exact Nat.pow_le_pow_right (n := 2) (by decide) he.1
  have L0 : 0 < c.L := by omega
  refine CallW.start (n := 74) rfl rfl ?_
  (repeat (first | refine EK.seq ?_ | refine EK.region ?_ | refine ER.done ?_ | refine ER.move rfl rfl rfl ?_ | refine ER.assign rfl rfl rfl ?_))
  refine ER.callD rfl rfl rfl rfl rfl (dnone_ok mt) ?_
  (repeat (first | refine EK.seq ?_ | refine EK.region ?_ | refine ER.done ?_ | refine EK.skip ?_ | refine ER.move rfl rfl rfl ?_ | refine ER.nilCheck rfl rfl rfl ?_ | refine ER.fieldAddr rfl rfl rfl ?_ | refine EK.condF rfl ?_ | refine ER.load1 rfl rfl rfl (by assumption) ?_))
  refine ER.callR rfl rfl rfl rfl rfl (cload_f (F := fun v y => v = .int .i64 (c.W bt) /\ OwnD i c po bd sq y /\ OwnO c bt np 0 y) dL_ok hA (b := c.B 3) (mem_b 3 (by omega) (by omega) o.cc) fun y₁ q1 j1 => ?_) ?_
  · have oo1 := oo.rel o.cc hi q1
    refine ⟨y₁, LMove.none dL_ok j1, ?_, o.rel i0 q1, oo1⟩
    have := oo1.vb
    rw [show ((bt : Int) - ((0 : Nat) : Int)) = bt by omega] at this
    exact congrArg (Value.int .i64) this
  rintro v h2 ⟨d2, γ2⟩ ⟨rfl, e2, w2, a2, rfl, o2, oo2⟩
  simp only at e2 w2 a2 o2 oo2
  refine ER.sub' (r := c.W ((bt : Int) - 1)) rfl rfl rfl rfl w_down ?_
  (repeat (first | refine EK.seq ?_ | refine EK.region ?_ | refine ER.done ?_ | refine ER.move rfl rfl rfl ?_ | refine ER.assign rfl rfl rfl ?_ | refine ER.nilCheck rfl rfl rfl ?_ | refine ER.fieldAddr rfl rfl rfl ?_ | refine ER.load1 rfl rfl rfl (by assumption) ?_))
  refine ER.callR rfl rfl rfl rfl rfl (cstore_f (F := fun _ y => OwnD i c po (bd - 1) sq y /\ OwnO c bt np 1 y) dL_ok a2 (b := c.B 3) (mem_b 3 (by omega) (by omega) o2.cc) fun y₁ q1 j1 => ?_) ?_
  · have o1 := o2.rel i0 q1
    have oo1 := oo2.rel o2.cc hi q1
    have ec := o1.cc
    have hbd1 := o1.bd
    have hi' : i = y₁.c.n + 1 := by rw [ec]; exact hi
    have st := bot_step (o := 1) j1 hi' (by omega) (by omega)
    have eb := oo1.bt
    have ev : (botY y₁ i 1).v (c.B 3) = c.W ((bt : Int) - 1) := by
      show u1 y₁.v (y₁.c.B 3) (y₁.c.W ((y₁.bt : Int) - ((1 : Nat) : Int))) (c.B 3) = _
      rw [ec, eb, u1_same]
      rfl
    have o2' : OwnD i c po (bd - 1) sq (botY y₁ i 1) := ⟨ec, o1.ln, o1.po, by show bd - 1 <= u1 y₁.bd i _ i; rw [u1_same]; omega, o1.sq⟩
    have oo2' : OwnO c bt np 1 (botY y₁ i 1) := ⟨by rw [ev]; rfl, oo1.bt, oo1.np, rfl⟩
    exact ⟨botY y₁ i 1, by rw [<- ec]; exact st, ev, fun y₂ q2 => ⟨o2'.rel i0 q2, oo2'.rel ec hi q2⟩⟩
  rintro v h3 ⟨d3, γ3⟩ ⟨rfl, e3, w3, a3, o3, oo3⟩
  simp only at e3 w3 a3 o3 oo3
  (repeat (first | refine EK.seq ?_ | refine EK.region ?_ | refine ER.done ?_ | refine ER.move rfl rfl rfl ?_ | refine ER.nilCheck rfl rfl rfl ?_ | refine ER.fieldAddr rfl rfl rfl ?_ | refine ER.load1 rfl rfl rfl (by assumption) ?_))
  refine ER.callR rfl rfl rfl rfl rfl (cload_f (F := fun v y => ∃ p : Nat, v = .int .i64 (c.W p) /\ p <= bt /\ bt <= 1000 /\ ((p = bt /\ OwnD i c po (bd - 1) sq y /\ OwnO c bt np 1 y /\ y.tp = bt) \/ (p + 1 = bt /\ OwnD i c po (bd - 1) sq y /\ OwnO c bt np 1 y /\ p <= y.tp /\ ∃ z, y.v (c.sl p) = z) \/ (p + 1 < bt /\ ∃ z, OwnD i c (po ++ [z]) (bd - 1) sq y /\ OwnO c (bt - 1) np 0 y /\ y.v (c.sl (bt - 1)) = z /\ bt - 1 < y.tp + c.L))) dL_ok a3 (b := c.B 2) (mem_b 2 (by omega) (by omega) o3.cc) fun y₁ q1 j1 => ?_) ?_
  · have o1 := o3.rel i0 q1
    have oo1 := oo3.rel o3.cc hi q1
    have ec := o1.cc
    have eb := oo1.bt
    have h1 := j1.r1
    have h2 := j1.r2
    have h3 := j1.r3
    have h4 := j1.np
    have h5 := j1.m1
    have hv := j1.vt
    rw [ec] at h2 h4 h5 hv
    have hi' : i = y₁.c.n + 1 := by rw [ec]; exact hi
    have hv' : Value.int .i64 (dL.val y₁ (c.B 2)) = .int .i64 (c.W y₁.tp) := congrArg (Value.int .i64) hv
    by_cases c1 : y₁.tp = bt
    · exact ⟨y₁, LMove.none dL_ok j1, y₁.tp, hv', by omega, by omega, .inl ⟨c1, o1, oo1, c1⟩⟩
    · by_cases c2 : y₁.tp + 1 = bt
      · exact ⟨y₁, LMove.none dL_ok j1, y₁.tp, hv', by omega, by omega, .inr (.inl ⟨c2, o1, oo1, Nat.le_refl _, _, rfl⟩)⟩
      · have hs := j1.sl (y₁.bt - 1) (by omega) (by omega)
        rw [ec, eb] at hs
        have tm := take_move j1 hi' oo1.ow (by omega)
        have epo : (takeY y₁ i).po i = po ++ [y₁.V (bt - 1)] := by
          show u1 y₁.po i (y₁.po i ++ [y₁.V (y₁.bt - 1)]) i = _
          rw [u1_same, o1.po, eb]
        have eln := tm.J.polen i0 (show i <= y₁.c.n + 1 by omega)
        rw [epo] at eln
        refine ⟨takeY y₁ i, tm, y₁.tp, hv', by omega, by omega, .inr (.inr ⟨by omega, y₁.V (bt - 1), ⟨ec, eln, epo, o1.bd, o1.sq⟩, ⟨?_, by show y₁.bt - 1 = bt - 1; rw [eb], oo1.np, rfl⟩, hs, by show bt - 1 < y₁.tp + c.L; omega⟩)⟩
        refine oo1.vb.trans ?_
        congr 1
        omega
  rintro v h4 ⟨d4, γ4⟩ ⟨rfl, e4, w4, a4, p, rfl, hp, hb1, hF⟩
  simp only at e4 w4 a4 hF
  (repeat (first | refine EK.seq ?_ | refine EK.region ?_ | refine ER.done ?_ | refine ER.move rfl rfl rfl ?_ | refine ER.assign rfl rfl rfl ?_))
  refine ER.sub' (r := ((bt : Int) - 1) - p) rfl rfl rfl rfl (w_diff (by omega) (by omega)) ?_
  rcases hF with ⟨c1, o4, oo4, t4⟩ | ⟨c2, o4, oo4, t4, z, hs4⟩ | ⟨c3, z, o4, oo4, hs4, t4⟩
  · have hneg : ((bt : Int) - 1) - p < 0 := by omega
    have TU : ∀ (y₁ y₂ : Dy), LRel dL i γ4.y y₁ -> LRel dL i (botY y₁ i 0) y₂ -> Dj y₁ -> y₂.tp ≥ bt := fun y₁ y₂ q1 q2 _ => by
      have h1 : γ4.y.tp <= y₁.tp := (show Dr i _ y₁ from q1.law).tp
      have h2 : y₁.tp <= y₂.tp := (show Dr i _ y₂ from q2.law).tp
      omega
    (repeat (first | refine EK.seq ?_ | refine EK.region ?_ | refine ER.done ?_ | refine ER.move rfl rfl rfl ?_ | refine ER.nilCheck rfl rfl rfl ?_ | refine ER.fieldAddr rfl rfl rfl ?_ | refine ER.cmpT rfl rfl rfl rfl rfl (by first | (dsimp only [cmpP]; omega) | exact rfl | exact Int.le_refl _) ?_ | refine EK.condT rfl ?_ | refine ER.load1 rfl rfl rfl (by assumption) ?_))
    refine ER.add (r := c.W (bt : Int)) rfl rfl rfl rfl (by rw [w_up]; congr 1; omega) ?_
    refine ER.callR rfl rfl rfl rfl rfl (cstore_f (F := fun _ y => OwnD i c po (bd - 2) sq y /\ OwnO c bt np 0 y /\ bt <= y.tp) dL_ok a4 (b := c.B 3) (mem_b 3 (by omega) (by omega) o4.cc) fun y₁ q1 j1 => ?_) ?_
    · have o1 := o4.rel i0 q1
      have oo1 := oo4.rel o4.cc hi q1
      have ec := o1.cc
      have hbd1 := o1.bd
      have hi' : i = y₁.c.n + 1 := by rw [ec]; exact hi
      have st := bot_step (o := 0) j1 hi' (by omega) (by omega)
      have eb := oo1.bt
      have ev : (botY y₁ i 0).v (c.B 3) = c.W (bt : Int) := by
        show u1 y₁.v (y₁.c.B 3) (y₁.c.W ((y₁.bt : Int) - ((0 : Nat) : Int))) (c.B 3) = _
        rw [ec, eb, u1_same]
        congr 1
      have o2' : OwnD i c po (bd - 2) sq (botY y₁ i 0) := ⟨ec, o1.ln, o1.po, by show bd - 2 <= u1 y₁.bd i _ i; rw [u1_same]; omega, o1.sq⟩
      have oo2' : OwnO c bt np 0 (botY y₁ i 0) := ⟨by rw [ev]; congr 1, oo1.bt, oo1.np, rfl⟩
      exact ⟨botY y₁ i 0, by rw [<- ec]; exact st, ev, fun y₂ q2 => ⟨o2'.rel i0 q2, oo2'.rel ec hi q2, TU y₁ y₂ q1 q2 j1⟩⟩
    rintro v h5 ⟨d5, γ5⟩ ⟨rfl, e5, w5, a5, o5, oo5, t5⟩
    simp only at e5 w5 a5 o5 oo5 t5
    (repeat (first | refine EK.seq ?_ | refine EK.region ?_ | refine ER.done ?_ | refine ER.assign rfl rfl rfl ?_ | refine EK.ret ?_))
    exact EU.ret2 rfl rfl rfl ⟨rfl, ((e5.trans e4).trans e3).trans e2, ((w5.trans w4).trans w3).trans w2, a5, .inl ⟨rfl, o5.less (by omega), oo5, t5⟩⟩
  · have hz0 : ¬ (((bt : Int) - 1) - p < 0) := by omega
    have hz1 : ¬ (((bt : Int) - 1) - p > 0) := by omega
    (repeat (first | refine EK.seq ?_ | refine EK.region ?_ | refine ER.done ?_ | refine EK.skip ?_ | refine ER.move rfl rfl rfl ?_ | refine ER.cmpF rfl rfl rfl rfl rfl (by first | (dsimp only [cmpP]; omega) | exact rfl | exact Int.le_refl _) ?_ | refine EK.condF rfl ?_))
    refine ER.callD rfl rfl rfl rfl rfl (dat_g m.s m.r hL he.2 a4.at.nd) ?_
    rw [sl_w hL he.2 (x := p) (a := (bt : Int) - 1) (by omega)]
    (repeat refine ER.move rfl rfl rfl ?_)
    refine ER.callR rfl rfl rfl rfl rfl (cload_f (F := fun v y => v = .int .i64 z /\ OwnD i c po (bd - 1) sq y /\ OwnO c bt np 1 y /\ p <= y.tp /\ y.v (c.sl p) = z) dL_ok a4 (b := c.sl p) (mem_s L0 p o4.cc) fun y₁ q1 j1 => ?_) ?_
    · have hs1 := own_slot L0 o4.cc hi q1 hs4
      exact ⟨y₁, LMove.none dL_ok j1, congrArg (Value.int .i64) hs1, o4.rel i0 q1, oo4.rel o4.cc hi q1, Nat.le_trans t4 (show Dr i _ y₁ from q1.law).tp, hs1⟩
    rintro v h5 ⟨d5, γ5⟩ ⟨rfl, e5, w5, a5, rfl, o5, oo5, t5, hs5⟩
    simp only at e5 w5 a5 o5 oo5 t5 hs5
    (repeat (first | refine EK.seq ?_ | refine EK.region ?_ | refine ER.done ?_ | refine ER.move rfl rfl rfl ?_ | refine ER.assign rfl rfl rfl ?_))
    refine ER.sub' (r := ((bt : Int) - 1) - p) rfl rfl rfl rfl (w_diff (by omega) (by omega)) ?_
    (repeat (first | refine EK.seq ?_ | refine EK.region ?_ | refine ER.done ?_ | refine EK.skip ?_ | refine ER.move rfl rfl rfl ?_ | refine ER.nilCheck rfl rfl rfl ?_ | refine ER.fieldAddr rfl rfl rfl ?_ | refine ER.cmpF rfl rfl rfl rfl rfl (by first | (dsimp only [cmpP]; omega) | exact rfl | exact Int.le_refl _) ?_ | refine EK.condF rfl ?_ | refine ER.load1 rfl rfl rfl (by assumption) ?_))
    refine ER.add (r := c.W ((p : Int) + 1)) rfl rfl rfl rfl w_up ?_
    refine ER.callR rfl rfl rfl rfl rfl (ccas_f (F := fun v y => (v = .bool true /\ OwnD i c (po ++ [z]) (bd - 2) sq y /\ OwnO c bt np 1 y /\ bt <= y.tp) \/ (v = .bool false /\ OwnD i c po (bd - 2) sq y /\ OwnO c bt np 1 y /\ bt <= y.tp)) dL_ok a5 (b := c.B 2) (mem_b 2 (by omega) (by omega) o5.cc) fun y₁ q1 j1 => ?_) ?_
    · have o1 := o5.rel i0 q1
      have oo1 := oo5.rel o5.cc hi q1
      have ec := o1.cc
      have eb := oo1.bt
      have hbd1 := o1.bd
      have hs1 := own_slot L0 o5.cc hi q1 hs5
      have hr1 := j1.r1
      have htp : γ5.y.tp <= y₁.tp := (show Dr i _ y₁ from q1.law).tp
      have hv := j1.vt
      rw [ec] at hv
      refine ⟨fun e => ?_, fun e => ?_⟩
      · have e' : y₁.v (c.B 2) = c.W p := e
        rw [hv] at e'
        have etp : c.F + (y₁.tp : Int) = c.F + p := w_inj e' (by omega) (by omega)
        have etp' : y₁.tp = p := by omega
        have st := top_step (i := i) j1 i0 (by rw [ec]; omega) (by omega) (by omega)
        have hV := j1.sl p (by omega) (by omega)
        rw [ec, hs1] at hV
        have epo : (topY y₁ i).po i = po ++ [z] := by
          show u1 y₁.po i (y₁.po i ++ [y₁.V y₁.tp]) i = _
          rw [u1_same, o1.po, etp', <- hV]
        have eln := st.J.polen i0 (show i <= y₁.c.n + 1 by rw [ec]; omega)
        rw [epo] at eln
        have o2' : OwnD i c (po ++ [z]) (bd - 2) sq (topY y₁ i) := ⟨ec, eln, epo, by show bd - 2 <= u1 y₁.bd i _ i; rw [u1_same]; omega, o1.sq⟩
        have oo2' : OwnO c bt np 1 (topY y₁ i) := ⟨by
          refine (u1_ne fun e => ?_).trans oo1.vb
          have := j1.inj 3 2 (by rw [ec] at e ⊢; exact e)
          omega, oo1.bt, oo1.np, oo1.ow⟩
        refine ⟨topY y₁ i, by rw [<- ec]; exact st, ?_, fun y₂ q2 => .inl ⟨rfl, o2'.rel i0 q2, oo2'.rel ec hi q2, ?_⟩⟩
        · show u1 y₁.v (y₁.c.B 2) (y₁.c.W ((y₁.tp + 1 : Nat) : Int)) (c.B 2) = _
          rw [ec, u1_same, etp']
          rfl
        · have h1 : y₁.tp + 1 <= y₂.tp := (show Dr i _ y₂ from q2.law).tp
          omega
      · refine ⟨y₁, LMove.none dL_ok j1, .inr ⟨rfl, o1.less (by omega), oo1, ?_⟩⟩
        have : y₁.tp ≠ p := fun e' => e (by show y₁.v (c.B 2) = _; rw [hv, e'])
        omega
    rintro v h6 ⟨d6, γ6⟩ ⟨rfl, e6, w6, a6, hF⟩
    simp only at e6 w6 a6 hF
    obtain ⟨r, po', hv', o6, oo6, t6, hpo⟩ : ∃ (r : Bool) (po' : List Int), v = .bool r /\ OwnD i c po' (bd - 2) sq γ6.y /\ OwnO c bt np 1 γ6.y /\ bt <= γ6.y.tp /\ po' = (if r then po ++ [z] else po) := by
      rcases hF with ⟨rfl, x1, x2, x3⟩ | ⟨rfl, x1, x2, x3⟩
      · exact ⟨true, _, rfl, x1, x2, x3, rfl⟩
      · exact ⟨false, _, rfl, x1, x2, x3, rfl⟩
    subst hv'
    clear hF
    (repeat (first | refine EK.seq ?_ | refine EK.region ?_ | refine ER.done ?_ | refine ER.move rfl rfl rfl ?_ | refine ER.assign rfl rfl rfl ?_ | refine ER.nilCheck rfl rfl rfl ?_ | refine ER.fieldAddr rfl rfl rfl ?_ | refine ER.load1 rfl rfl rfl (by assumption) ?_))
    refine ER.add (r := c.W (bt : Int)) rfl rfl rfl rfl (by rw [w_up]; congr 1; omega) ?_
    refine ER.callR rfl rfl rfl rfl rfl (cstore_f (F := fun _ y => OwnD i c po' (bd - 3) sq y /\ OwnO c bt np 0 y /\ bt <= y.tp) dL_ok a6 (b := c.B 3) (mem_b 3 (by omega) (by omega) o6.cc) fun y₁ q1 j1 => ?_) ?_
    · have o1 := o6.rel i0 q1
      have oo1 := oo6.rel o6.cc hi q1
      have ec := o1.cc
      have hbd1 := o1.bd
      have hi' : i = y₁.c.n + 1 := by rw [ec]; exact hi
      have st := bot_step (o := 0) j1 hi' (by omega) (by omega)
      have eb := oo1.bt
      have ev : (botY y₁ i 0).v (c.B 3) = c.W (bt : Int) := by
        show u1 y₁.v (y₁.c.B 3) (y₁.c.W ((y₁.bt : Int) - ((0 : Nat) : Int))) (c.B 3) = _
        rw [ec, eb, u1_same]
        congr 1
      have o2' : OwnD i c po' (bd - 3) sq (botY y₁ i 0) := ⟨ec, o1.ln, o1.po, by show bd - 3 <= u1 y₁.bd i _ i; rw [u1_same]; omega, o1.sq⟩
      have oo2' : OwnO c bt np 0 (botY y₁ i 0) := ⟨by rw [ev]; congr 1, oo1.bt, oo1.np, rfl⟩
      refine ⟨botY y₁ i 0, by rw [<- ec]; exact st, ev, fun y₂ q2 => ⟨o2'.rel i0 q2, oo2'.rel ec hi q2, ?_⟩⟩
      have h1 : γ6.y.tp <= y₁.tp := (show Dr i _ y₁ from q1.law).tp
      have h2 : y₁.tp <= y₂.tp := (show Dr i _ y₂ from q2.law).tp
      omega
    rintro v h7 ⟨d7, γ7⟩ ⟨rfl, e7, w7, a7, o7, oo7, t7⟩
    simp only at e7 w7 a7 o7 oo7 t7
    have ed := (((((e7.trans e6).trans e5).trans e4).trans e3).trans e2)
    have ew := (((((w7.trans w6).trans w5).trans w4).trans w3).trans w2)
    cases r
    · (repeat (first | refine EK.seq ?_ | refine EK.region ?_ | refine ER.done ?_ | refine ER.move rfl rfl rfl ?_ | refine ER.assign rfl rfl rfl ?_ | refine ER.notB rfl rfl rfl ?_ | refine EK.condT rfl ?_ | refine EK.ret ?_))
      subst hpo
      exact EU.ret2 rfl rfl rfl ⟨rfl, ed, ew, a7, .inl ⟨rfl, o7, oo7, t7⟩⟩
    · (repeat (first | refine EK.seq ?_ | refine EK.region ?_ | refine ER.done ?_ | refine EK.skip ?_ | refine ER.move rfl rfl rfl ?_ | refine ER.assign rfl rfl rfl ?_ | refine ER.notB rfl rfl rfl ?_ | refine EK.condF rfl ?_ | refine EK.ret ?_))
      subst hpo
      exact EU.ret2 rfl rfl rfl ⟨rfl, ed, ew, a7, .inr ⟨z, rfl, o7, bt, Nat.le_refl _, oo7, Nat.lt_of_le_of_lt t7 (Nat.lt_add_of_pos_right L0)⟩⟩
  · have hz0 : ¬ (((bt : Int) - 1) - p < 0) := by omega
    have hz1 : ((bt : Int) - 1) - p > 0 := by omega
    (repeat (first | refine EK.seq ?_ | refine EK.region ?_ | refine ER.done ?_ | refine EK.skip ?_ | refine ER.move rfl rfl rfl ?_ | refine ER.cmpF rfl rfl rfl rfl rfl (by first | (dsimp only [cmpP]; omega) | exact rfl | exact Int.le_refl _) ?_ | refine EK.condF rfl ?_))
    refine ER.callD rfl rfl rfl rfl rfl (dat_g m.s m.r hL he.2 a4.at.nd) ?_
    rw [sl_w hL he.2 (x := bt - 1) (a := (bt : Int) - 1) (by omega)]
    (repeat refine ER.move rfl rfl rfl ?_)
    refine ER.callR rfl rfl rfl rfl rfl (cload_f (F := fun v y => v = .int .i64 z /\ OwnD i c (po ++ [z]) (bd - 1) sq y /\ OwnO c (bt - 1) np 0 y /\ bt - 1 < y.tp + c.L) dL_ok a4 (b := c.sl (bt - 1)) (mem_s L0 _ o4.cc) fun y₁ q1 j1 => ?_) ?_
    · have hs1 := own_slot L0 o4.cc hi q1 hs4
      have h1 : γ4.y.tp <= y₁.tp := (show Dr i _ y₁ from q1.law).tp
      exact ⟨y₁, LMove.none dL_ok j1, congrArg (Value.int .i64) hs1, o4.rel i0 q1, oo4.rel o4.cc hi q1, by omega⟩
    rintro v h5 ⟨d5, γ5⟩ ⟨rfl, e5, w5, a5, rfl, o5, oo5, t5⟩
    simp only at e5 w5 a5 o5 oo5 t5
    (repeat (first | refine EK.seq ?_ | refine EK.region ?_ | refine ER.done ?_ | refine ER.move rfl rfl rfl ?_ | refine ER.assign rfl rfl rfl ?_))
    refine ER.sub' (r := ((bt : Int) - 1) - p) rfl rfl rfl rfl (w_diff (by omega) (by omega)) ?_
    (repeat (first | refine EK.seq ?_ | refine EK.region ?_ | refine ER.done ?_ | refine ER.move rfl rfl rfl ?_ | refine ER.assign rfl rfl rfl ?_ | refine ER.cmpT rfl rfl rfl rfl rfl (by first | (dsimp only [cmpP]; omega) | exact rfl | exact Int.le_refl _) ?_ | refine EK.condT rfl ?_ | refine EK.ret ?_))
    exact EU.ret2 rfl rfl rfl ⟨rfl, ((e5.trans e4).trans e3).trans e2, ((w5.trans w4).trans w3).trans w2, a5, .inr ⟨z, rfl, o5.less (by omega), bt - 1, Nat.sub_le _ _, oo5, t5⟩⟩
set_option maxRecDepth 8000 in
set_option maxHeartbeats 8000000 in
theorem steal_d (hA : Idle dL i δ.g) (hi : i <= c.n) (o : OwnD i c po bd sq δ.g.y) (hbd : 1 <= bd) (hL : c.L = 2 ^ c.e) (he : 1 <= c.e /\ c.e <= 12) (m : KQ c sb rb cap h) :
    CallW Try.prog false (SitW Try.prog (XF TT dL) i) 24 #[ptr sb, .pointer none] h δ (Ret (Cq dL i h δ.d δ.g.wg fun v y => (∃ how : Int, v = .tuple #[.int .i64 0, .int .i8 how] /\ how ≠ 1 /\ OwnD i c po (bd - 1) sq y) \/ ∃ z, v = .tuple #[.int .i64 z, .int .i8 1] /\ OwnD i c (po ++ [z]) (bd - 1) sq y)) := by
  have i0 := hA.i0
  have mt := m.t
  have mb := m.b
  have L2 : 2 <= c.L := by rw [hL]; exact Nat.pow_le_pow_right (n := 2) (by decide) he.1
  have L0 : 0 < c.L := by omega
  refine CallW.start (n := 44) rfl rfl ?_
  (repeat (first | refine EK.seq ?_ | refine EK.region ?_ | refine ER.done ?_ | refine ER.move rfl rfl rfl ?_ | refine ER.assign rfl rfl rfl ?_))
  refine ER.callD rfl rfl rfl rfl rfl (dnone_ok mt) ?_
  (repeat (first | refine EK.seq ?_ | refine EK.region ?_ | refine ER.done ?_ | refine EK.skip ?_ | refine ER.move rfl rfl rfl ?_ | refine ER.nilCheck rfl rfl rfl ?_ | refine ER.fieldAddr rfl rfl rfl ?_ | refine EK.condF rfl ?_ | refine ER.load1 rfl rfl rfl (by assumption) ?_))
  refine ER.callR rfl rfl rfl rfl rfl (cload_f (F := fun v y => ∃ p : Nat, v = .int .i64 (c.W p) /\ OwnD i c po bd sq y /\ p <= y.tp /\ p <= 1000) dL_ok hA (b := c.B 2) (mem_b 2 (by omega) (by omega) o.cc) fun y₁ q1 j1 => ?_) ?_
  · have o1 := o.rel i0 q1
    have h1 := j1.r1
    have h3 := j1.r3
    have h4 := j1.np
    have h5 := j1.m1
    have hv := j1.vt
    rw [o1.cc] at hv
    exact ⟨y₁, LMove.none dL_ok j1, y₁.tp, congrArg (Value.int .i64) hv, o1, Nat.le_refl _, by omega⟩
  rintro v h2 ⟨d2, γ2⟩ ⟨rfl, e2, w2, a2, p, rfl, o2, t2, p1⟩
  simp only at e2 w2 a2 o2 t2
  (repeat (first | refine EK.seq ?_ | refine EK.region ?_ | refine ER.done ?_ | refine ER.move rfl rfl rfl ?_ | refine ER.assign rfl rfl rfl ?_ | refine ER.nilCheck rfl rfl rfl ?_ | refine ER.fieldAddr rfl rfl rfl ?_ | refine ER.load1 rfl rfl rfl (by assumption) ?_))
  refine ER.callR rfl rfl rfl rfl rfl (cload_f (F := fun v y => ∃ q : Int, v = .int .i64 (c.W q) /\ -1 <= q /\ q <= 1000 /\ OwnD i c po bd sq y /\ (p < q -> TTd p y)) dL_ok a2 (b := c.B 3) (mem_b 3 (by omega) (by omega) o2.cc) fun y₁ q1 j1 => ?_) ?_
  · have o1 := o2.rel i0 q1
    have h1 := j1.r1
    have h3 := j1.r3
    have h4 := j1.np
    have h5 := j1.m1
    have h6 := j1.ow1
    have hv := j1.vb
    rw [o1.cc] at hv
    have ht : γ2.y.tp <= y₁.tp := (show Dr i _ y₁ from q1.law).tp
    exact ⟨y₁, LMove.none dL_ok j1, _, congrArg (Value.int .i64) hv, by omega, by omega, o1, fun hq => ⟨Nat.le_trans t2 ht, fun e => by omega⟩⟩
  rintro v h3 ⟨d3, γ3⟩ ⟨rfl, e3, w3, a3, q, rfl, q0, q1, o3, t3⟩
  simp only at e3 w3 a3 o3 t3
  (repeat refine ER.move rfl rfl rfl ?_)
  refine ER.sub' (r := q - p) rfl rfl rfl rfl (w_diff (by omega) (by omega)) ?_
  rcases Int.lt_or_le (p : Int) q with hlt | hge
  · replace t3 := t3 hlt
    have hz : ¬ (q - p <= 0) := by omega
    (repeat (first | refine EK.seq ?_ | refine EK.region ?_ | refine ER.done ?_ | refine EK.skip ?_ | refine ER.move rfl rfl rfl ?_ | refine ER.cmpF rfl rfl rfl rfl rfl (by first | (dsimp only [cmpP]; omega) | exact rfl | exact Int.le_refl _) ?_ | refine EK.condF rfl ?_))
    refine ER.callD rfl rfl rfl rfl rfl (dat_g m.s m.r hL he.2 a3.at.nd) ?_
    rw [sl_w hL he.2 (x := p) rfl]
    refine ER.makeF rfl rfl rfl rfl rfl rfl ?_
    (repeat (first | refine EK.seq ?_ | refine EK.region ?_ | refine ER.done ?_ | refine ER.move rfl rfl rfl ?_ | refine ER.assign rfl rfl rfl ?_))
    refine ER.callFR rfl rfl rfl rfl rfl (cload_f (F := fun v y => ∃ z, v = .int .i64 z /\ OwnD i c po bd sq y /\ TTd p y /\ (y.tp = p -> z = y.V p)) dL_ok a3 (b := c.sl p) (mem_s L0 p o3.cc) fun y₁ q1 j1 => ?_) ?_
    · have o1 := o3.rel i0 q1
      have t1 := t3.rel q1
      refine ⟨y₁, LMove.none dL_ok j1, _, rfl, o1, t1, fun e => ?_⟩
      have := j1.sl p (by omega) (t1.t e)
      rw [o1.cc] at this
      exact this
    rintro v h4 ⟨d4, γ4⟩ ⟨rfl, e4, w4, a4, z, rfl, o4, t4, z4⟩
    simp only at e4 w4 a4 o4 t4 z4
    (repeat (first | refine EK.seq ?_ | refine EK.region ?_ | refine ER.done ?_ | refine ER.move rfl rfl rfl ?_ | refine ER.assign rfl rfl rfl ?_ | refine ER.nilCheck rfl rfl rfl ?_ | refine ER.fieldAddr rfl rfl rfl ?_ | refine ER.load1 rfl rfl rfl (by assumption) ?_))
    refine ER.add (r := c.W ((p : Int) + 1)) rfl rfl rfl rfl w_up ?_
    refine ER.callR rfl rfl rfl rfl rfl (ccas_f (F := fun v y => (v = .bool true /\ OwnD i c (po ++ [z]) (bd - 1) sq y) \/ (v = .bool false /\ OwnD i c po (bd - 1) sq y)) dL_ok a4 (b := c.B 2) (mem_b 2 (by omega) (by omega) o4.cc) fun y₁ q1 j1 => ?_) ?_
    · have o1 := o4.rel i0 q1
      have ec := o1.cc
      have hbd1 := o1.bd
      have t1 := t4.rel q1
      have z1 := tv_rel t4 z4 q1
      have hv := j1.vt
      have h1 := j1.r1
      have h3 := j1.r3
      have h4 := j1.np
      have h5 := j1.m1
      rw [ec] at hv
      refine ⟨fun e => ?_, fun e => ⟨y₁, LMove.none dL_ok j1, .inr ⟨rfl, o1.less (by omega)⟩⟩⟩
      have e' : y₁.v (c.B 2) = c.W p := e
      rw [hv] at e'
      have etp : c.F + (y₁.tp : Int) = c.F + p := w_inj e' (by omega) (by omega)
      have etp' : y₁.tp = p := by omega
      have st := top_step (i := i) j1 i0 (by rw [ec]; omega) (by have := t1.t etp'; omega) (by omega)
      have epo : (topY y₁ i).po i = po ++ [z] := by
        show u1 y₁.po i (y₁.po i ++ [y₁.V y₁.tp]) i = _
        rw [u1_same, o1.po, z1 etp', etp']
      have eln := st.J.polen i0 (show i <= y₁.c.n + 1 by rw [ec]; omega)
      rw [epo] at eln
      have o2' : OwnD i c (po ++ [z]) (bd - 1) sq (topY y₁ i) := ⟨ec, eln, epo, by show bd - 1 <= u1 y₁.bd i _ i; rw [u1_same]; omega, o1.sq⟩
      refine ⟨topY y₁ i, by rw [<- ec]; exact st, ?_, fun y₂ q2 => .inl ⟨rfl, o2'.rel i0 q2⟩⟩
      show u1 y₁.v (y₁.c.B 2) (y₁.c.W ((y₁.tp + 1 : Nat) : Int)) (c.B 2) = _
      rw [ec, u1_same, etp']
      rfl
    rintro v h5 ⟨d5, γ5⟩ ⟨rfl, e5, w5, a5, ⟨rfl, o5⟩ | ⟨rfl, o5⟩⟩
    · simp only at e5 w5 a5 o5
      (repeat (first | refine EK.seq ?_ | refine EK.region ?_ | refine ER.done ?_ | refine EK.skip ?_ | refine ER.move rfl rfl rfl ?_ | refine ER.assign rfl rfl rfl ?_ | refine ER.notB rfl rfl rfl ?_ | refine EK.condF rfl ?_ | refine EK.ret ?_))
      exact EU.ret2 rfl rfl rfl ⟨rfl, ((e5.trans e4).trans e3).trans e2, ((w5.trans w4).trans w3).trans w2, a5, .inr ⟨z, rfl, o5⟩⟩
    · simp only at e5 w5 a5 o5
      (repeat (first | refine EK.seq ?_ | refine EK.region ?_ | refine ER.done ?_ | refine ER.assign rfl rfl rfl ?_ | refine ER.notB rfl rfl rfl ?_ | refine EK.condT rfl ?_ | refine EK.ret ?_))
      exact EU.ret2 rfl rfl rfl ⟨rfl, ((e5.trans e4).trans e3).trans e2, ((w5.trans w4).trans w3).trans w2, a5, .inl ⟨2, rfl, by decide, o5⟩⟩
  · have hz : q - p <= 0 := by omega
    (repeat (first | refine EK.seq ?_ | refine EK.region ?_ | refine ER.done ?_ | refine ER.assign rfl rfl rfl ?_ | refine ER.cmpT rfl rfl rfl rfl rfl (by first | (dsimp only [cmpP]; omega) | exact rfl | exact Int.le_refl _) ?_ | refine EK.condT rfl ?_ | refine EK.ret ?_))
    exact EU.ret2 rfl rfl rfl ⟨rfl, e3.trans e2, w3.trans w2, a3, .inl ⟨0, rfl, by decide, o3.less (by omega)⟩⟩
end
end
section
open Go Go.TJ Go.Proofs
variable [Dm]
structure Ke where
  vN : Nat
  vM : Nat
  vD : Nat
  vL : Nat
  vE : Nat
  sb : Nat
  rb : Nat
  cap : Nat
structure KE (c : Dc) (q : Ke) (h : Hp) : Prop where
  N : hcell h ⟨q.vN, 0, none⟩ = some (.int .i64 c.n)
  M : hcell h ⟨q.vM, 0, none⟩ = some (.int .i64 c.m)
  D : hcell h ⟨q.vD, 0, none⟩ = some (.pointer (some ⟨q.sb, 0, none⟩))
  L : hcell h ⟨q.vL, 0, none⟩ = some (.slice (some ⟨c.pb, 0, none⟩) (c.n + 1) (c.n + 1))
  E : hcell h ⟨q.vE, 0, none⟩ = some (.pointer (some ⟨c.B (4 + c.L), 0, none⟩))
  K : KQ c q.sb q.rb q.cap h
theorem KE.upd {c : Dc} {q : Ke} {h h' : Hp} (m : KE c q h) (u : Upd (fun _ => False) h h') : KE c q h' where
  N := u.hcell m.N fun z => z
  M := u.hcell m.M fun z => z
  D := u.hcell m.D fun z => z
  L := u.hcell m.L fun z => z
  E := u.hcell m.E fun z => z
  K := ⟨u.hcell m.K.t fun z => z, u.hcell m.K.b fun z => z, u.hcell m.K.s fun z => z, fun k hk => u.hcell (m.K.r k hk) fun z => z⟩
section
variable {h : Hp} {δ : Ix (Gf Dy)} {i : Nat} {c : Dc} {po : List Int} {bd : Nat} {sq : Value} {y : Dy}
theorem mem_e (hc : y.c = c) : c.B (4 + c.L) ∈ dL.cls y := by rw [<- hc]; exact d_cls (by omega) (by omega)
theorem own_pd (o : OwnD i c po bd sq y) (i0 : 0 < i) (hi : i <= c.n + 1) : dL.arrT y c.pb = some c.tS /\ (dL.arr y c.pb)[0 + ((i - 1 : Nat) : Int).toNat * 1]? = some sq /\ dL.may y i ⟨c.pb, 0 + ((i - 1 : Nat) : Int).toNat * 1, none⟩ true := by
  have e : 0 + ((i - 1 : Nat) : Int).toNat * 1 = i - 1 := by simp
  have ec := o.cc
  rw [e]
  refine ⟨?_, ?_, .inl (by rw [ec]), i0, rfl⟩
  · show (if c.pb = y.c.pb then some y.c.tS else _) = _
    rw [ec, if_pos rfl]
  · show (if c.pb = y.c.pb then _ else _ : Array Value)[i - 1]? = _
    rw [ec, if_pos rfl, range_get (by omega), o.sq]
theorem mv_pd (o : OwnD i c po bd sq y) (hJ : Dj y) (i0 : 0 < i) (v : Value) : AMove dL i c.pb (0 + ((i - 1 : Nat) : Int).toNat * 1) v y (dqY y i v) := by
  have e : 0 + ((i - 1 : Nat) : Int).toNat * 1 = i - 1 := by simp
  have := dq_move (v := v) hJ i0
  rw [o.cc] at this
  rw [e]; exact this
theorem OwnD.setQ (o : OwnD i c po bd sq y) (v : Value) : OwnD i c po bd v (dqY y i v) := ⟨o.cc, o.ln, o.po, o.bd, u1_same⟩
theorem app1_ok {h' h5 h6 : Hp} {s1 v : Value} {l1 : List Int} {N : Nat} {o : Obj} {z : Int} (u : Upd (fun _ => False) h h') (x1 : SliceO h' s1 2 1 l1.length (l1.map intv)) (b1 : ∀ b, blk s1 = some b -> h.size <= b) (hN : h'.size <= N) (e5 : h5 = (padTo h' N).push o)
    (x6 : SliceO h6 v 2 1 (l1.length + 1) (l1.map intv ++ [intv z])) (u6 : Upd (fun b => blk s1 = some b) h5 h6) (b6 : ∀ b, blk v = some b -> blk s1 = some b \/ h5.size <= b) :
    Upd (fun _ => False) h h6 /\ SliceO h6 v 2 1 (l1 ++ [z]).length ((l1 ++ [z]).map intv) /\ True /\ (∀ b, blk v = some b -> h.size <= b) /\ True := by
  obtain ⟨r1, r2, _, r4, _⟩ := app_ok (s2 := nilS) (l2 := []) u x1 SliceO.nil b1 (fun b _ z => (by cases z)) hN e5 x6 u6 b6
  exact ⟨r1, r2, trivial, r4, trivial⟩
structure WD (i : Nat) (c : Dc) (h : Hp) (d wg bd : Nat) (po : List Int) (sq : Value) (h' : Hp) (δ' : Ix (Gf Dy)) : Prop where
  d : δ'.d = d
  wg : δ'.g.wg = wg
  a : Idle dL i δ'.g
  o : OwnD i c po bd sq δ'.g.y
  u : Upd (fun _ => False) h h'
  s : SliceO h' sq 2 1 po.length (po.map intv)
  b : ∀ b, blk sq = some b -> h.size <= b
theorem WD.step {d wg bd' : Nat} {h' : Hp} {δ' δ2 : Ix (Gf Dy)} (W : WD i c h d wg bd po sq h' δ') (e : δ2.d = d) (g : δ2.g.wg = wg) (a : Idle dL i δ2.g) (o : OwnD i c po bd' sq δ2.g.y) : WD i c h d wg bd' po sq h' δ2 := ⟨e, g, a, o, W.u, W.s, W.b⟩
def WQd (i : Nat) (c : Dc) (h : Hp) (d wg : Nat) : Value -> Hp -> Ix (Gf Dy) -> Prop := fun _ h' δ' => ∃ po bd sq, WD i c h d wg bd po sq h' δ' /\ (i = c.n + 1 -> ∃ bt, OwnO c bt c.m 0 δ'.g.y /\ bt <= δ'.g.y.tp)
structure LD where
  v : Nat
  bt : Nat
  po : List Int
  sq : Value
def envO (i : Nat) (q : Ke) (v : Nat) : Env := [(7, .int .i64 v), (0, .int .i64 ((i - 1 : Nat) : Int)), (1, .pointer (some ⟨q.vN, 0, none⟩)), (2, .pointer (some ⟨q.vM, 0, none⟩)), (3, .pointer (some ⟨q.vD, 0, none⟩)), (4, .pointer (some ⟨q.vL, 0, none⟩)), (5, .pointer (some ⟨q.vE, 0, none⟩))]
def envD (i : Nat) (q : Ke) : Env := [(0, .int .i64 ((i - 1 : Nat) : Int)), (3, .pointer (some ⟨q.vD, 0, none⟩)), (4, .pointer (some ⟨q.vL, 0, none⟩)), (5, .pointer (some ⟨q.vE, 0, none⟩))]
def envT (i : Nat) (q : Ke) (k : Nat) : Env := [(14, .int .i64 k), (0, .int .i64 ((i - 1 : Nat) : Int)), (3, .pointer (some ⟨q.vD, 0, none⟩)), (4, .pointer (some ⟨q.vL, 0, none⟩)), (5, .pointer (some ⟨q.vE, 0, none⟩))]
set_option maxRecDepth 8000 in
set_option maxHeartbeats 16000000 in
theorem thief_ok {q : Ke} (hA : Idle dL i δ.g) (hi : i <= c.n) (hn7 : c.n <= 7) (hL : c.L = 2 ^ c.e) (he : 1 <= c.e /\ c.e <= 12) (mem : KE c q h) (htop : c.top <= h.size) (hro : ∀ b, c.ro b -> b < c.top) (ho : OwnD i c [] 1000 (.slice none 0 0) δ.g.y) :
    CallW Try.prog false (SitW Try.prog (XF TT dL) i) 19 #[.int .i64 ((i - 1 : Nat) : Int), .pointer (some ⟨q.vN, 0, none⟩), .pointer (some ⟨q.vM, 0, none⟩), .pointer (some ⟨q.vD, 0, none⟩), .pointer (some ⟨q.vL, 0, none⟩), .pointer (some ⟨q.vE, 0, none⟩)] h δ (Ret (WQd i c h δ.d δ.g.wg)) := by
  have i0 := hA.i0
  have hi1 : i <= c.n + 1 := by omega
  have hvN := mem.N
  have hne : ((i - 1 : Nat) : Int) ≠ c.n := by omega
  refine CallW.start (n := 109) rfl rfl ?_
  (repeat (first | refine EK.seq ?_ | refine EK.region ?_ | refine ER.done ?_ | refine EK.skip ?_ | refine EK.block ?_ | refine ER.move rfl rfl rfl ?_ | refine ER.assign rfl rfl rfl ?_ | refine ER.cmpF rfl rfl rfl rfl rfl (by first | (dsimp only [cmpP]; omega) | exact rfl | exact Int.le_refl _) ?_ | refine EK.condF rfl ?_ | refine ER.load1 rfl rfl rfl (by assumption) ?_))
  refine EK.loopInv (fun s : LD => envT i q s.v) (fun s h' δ' => s.v <= 1000 /\ WD i c h δ.d δ.g.wg (1000 - s.v) s.po s.sq h' δ') (fun s => 1000 - s.v) ⟨0, 0, [], .slice none 0 0⟩ ⟨rfl, rfl, rfl, rfl, rfl, trivial⟩ ⟨Nat.zero_le _, rfl, rfl, hA, ho, Upd.refl _ _, SliceO.nil, fun b hb => (by cases hb)⟩ ?_
  rintro ⟨k, _, po, sq⟩ h1 ⟨d1, γ1⟩ ⟨hk, W⟩ again
  dsimp only [envT] at hk W again ⊢
  have e1 := W.d
  have w1 := W.wg
  have a1 := W.a
  have o1 := W.o
  simp only at e1 w1 a1 o1
  have m1 := mem.upd W.u
  have mD := m1.D
  have mL := m1.L
  have mE := m1.E
  have fin : WQd i c h δ.d δ.g.wg (.tuple #[]) h1 ⟨d1, γ1⟩ := ⟨_, _, _, W, fun e => absurd e (by omega)⟩
  rcases Nat.lt_or_ge k 1000 with hlt | hge
  · (repeat (first | refine EK.seq ?_ | refine EK.region ?_ | refine ER.move rfl rfl rfl ?_ | refine ER.cmpT rfl rfl rfl rfl rfl (by first | (dsimp only [cmpP]; omega) | exact rfl | exact Int.le_refl _) ?_ | refine ER.load1 rfl rfl rfl (by assumption) ?_))
    refine ER.callR rfl rfl rfl rfl rfl (cload_f (F := fun v y => ∃ z, v = .int .i64 z /\ OwnD i c po (1000 - k) sq y) dL_ok a1 (b := c.B (4 + c.L)) (mem_e o1.cc) fun y₁ q1 j1 => ⟨y₁, LMove.none dL_ok j1, _, rfl, o1.rel i0 q1⟩) ?_
    rintro v h2 ⟨d2, γ2⟩ ⟨rfl, e2, w2, a2, z, rfl, o2⟩
    simp only at e2 w2 a2 o2
    by_cases hz : z = 0
    · (repeat (first | refine EK.seq ?_ | refine EK.region ?_ | refine ER.done ?_ | refine EK.skip ?_ | refine EK.block ?_ | refine ER.pickT rfl rfl rfl rfl ?_ | refine ER.cmpT rfl rfl rfl rfl rfl (by first | (dsimp only [cmpP]; omega) | exact rfl | exact Int.le_refl _) ?_ | refine EK.condT rfl ?_ | refine ER.load1 rfl rfl rfl (by assumption) ?_))
      refine ER.callR rfl rfl rfl rfl rfl (steal_d a2 hi o2 (by omega) hL he m1.K) ?_
      rintro v h3 ⟨d3, γ3⟩ ⟨rfl, e3, w3, a3, ⟨how, rfl, hh, o3⟩ | ⟨u, rfl, o3⟩⟩
      · simp only at e3 w3 a3 o3
        (repeat (first | refine EK.seq ?_ | refine EK.region ?_ | refine ER.done ?_ | refine EK.skip ?_ | refine EK.inBlock ?_ | refine ER.move rfl rfl rfl ?_ | refine ER.assign rfl rfl rfl ?_ | refine ER.extract rfl rfl rfl rfl ?_ | refine ER.cmpF rfl rfl rfl rfl rfl (by first | (dsimp only [cmpP]; omega) | exact rfl | exact Int.le_refl _) ?_ | refine ER.add (kd := .i64) rfl rfl rfl rfl (i64_in (by omega) (by omega)) ?_ | refine EK.condF rfl ?_))
        refine EK.back (again ⟨k + 1, 0, po, sq⟩ _ _ (by dsimp only; omega) ⟨hlt, W.step ((e3.trans e2).trans e1) ((w3.trans w2).trans w1) a3 (o3.less (by dsimp only; omega))⟩) ⟨rfl, rfl, rfl, rfl, rfl, trivial⟩
      · simp only at e3 w3 a3 o3
        have hlp := o1.ln
        have zL : ¬ blk sq = some q.vL := fun z => by
          have hz : h.size <= q.vL := W.b _ z
          obtain ⟨_, _, _, hb, _⟩ := hcell_some mem.L
          have : q.vL < h.size := lt_of_get hb
          omega
        (repeat (first | refine EK.seq ?_ | refine EK.region ?_ | refine ER.done ?_ | refine ER.move rfl rfl rfl ?_ | refine ER.assign rfl rfl rfl ?_ | refine ER.extract rfl rfl rfl rfl ?_ | refine ER.cmpT rfl rfl rfl rfl rfl (by first | (dsimp only [cmpP]; omega) | exact rfl | exact Int.le_refl _) ?_ | refine EK.condT rfl ?_))
        refine EK.regionAny (fun h' => hcell h' ⟨q.vL, 0, none⟩ = some (.slice (some ⟨c.pb, 0, none⟩) (c.n + 1) (c.n + 1))) ?_ (hDu := a3.at.nd)
        have hZ : hcell h3 ⟨q.vL, 0, none⟩ = some (.slice (some ⟨c.pb, 0, none⟩) (c.n + 1) (c.n + 1)) := mL
        refine EA.tLoad 0 rfl (by kernel_rfl) rfl rfl rfl rfl (fun _ hz => hz) hZ ?_
        refine EA.tMove 1 rfl (by kernel_rfl) rfl rfl rfl rfl hZ ?_
        refine EA.tLoad 2 rfl (by kernel_rfl) rfl rfl rfl rfl (fun _ hz => hz) hZ ?_
        refine EA.tMove 3 rfl (by kernel_rfl) rfl rfl rfl rfl hZ ?_
        refine EA.tIdxS 4 rfl (by kernel_rfl) rfl rfl rfl rfl rfl (by omega) (by omega) hZ ?_
        refine EA.tMove 6 rfl (by kernel_rfl) rfl rfl rfl rfl hZ ?_
        have hZp : ∀ N, h3.size <= N -> hcell ((padTo h3 N).push (.cells #[.int .i64 (u)] 2)) ⟨q.vL, 0, none⟩ = some (.slice (some ⟨c.pb, 0, none⟩) (c.n + 1) (c.n + 1)) := fun N hN => ((Upd.pad (fun _ => False) hN).trans (Upd.push _ _)).hcell hZ fun z => z
        refine EA.both 5 7 (fun vi vj h5 δ5 => vi = sq /\ (∃ N, h3.size <= N /\ vj = .slice (some ⟨N, 0, none⟩) 1 1 /\ h5 = (padTo h3 N).push (.cells #[.int .i64 (u)] 2)) /\ δ5.d = δ.d /\ δ5.g.wg = δ.g.wg /\ Idle dL i δ5.g /\ OwnD i c (po ++ [u]) (1000 - k - 1) sq δ5.g.y) rfl rfl (by kernel_rfl) rfl rfl (by kernel_rfl) (by kernel_rfl) rfl (by kernel_rfl) rfl rfl rfl rfl rfl rfl (by decide) (fun ρ hρ => ?_) (fun ρ hρ => ?_) ?_
        · refine ⟨fun v h4 δ4 => h4 = h3 /\ δ4.d = δ.d /\ δ4.g.wg = δ.g.wg /\ Idle dL i δ4.g /\ v = sq /\ OwnD i c (po ++ [u]) (1000 - k - 1) sq δ4.g.y, yields_loadA dL_ok (hρ _ _ rfl) a3 fun γ4 hR a4 j4 => ?_, ?_⟩
          · have o4 := o3.rel i0 hR.toRo.lrel
            obtain ⟨f1, f2, f3⟩ := own_pd o4 i0 hi1
            exact ⟨_, _, _, f1, f2, f3, rfl, ((e3.trans e2).trans e1), hR.wg.trans ((w3.trans w2).trans w1), a4, rfl, o4⟩
          rintro v h4 ⟨d4, γ4⟩ ⟨rfl, e4, w4, a4, rfl, o4⟩
          simp only at e4 w4 a4 o4
          refine ⟨hZ, fun ρ' hρ' => ⟨_, yields_build (e := 2) (sz := 1) (z := .int .i64 0) (cells := #[.int .i64 (u)]) (parts := [(0, .int .i64 (u))]) (fun _ => idle_fin a4) hρ' rfl (by omega) (by omega) rfl rfl, ?_⟩⟩
          rintro v h5 δ5 ⟨rfl, N, hN, rfl, rfl⟩
          exact ⟨hZp N hN, rfl, ⟨N, hN, rfl, rfl⟩, e4, w4, a4, o4⟩
        · refine ⟨_, yields_build (e := 2) (sz := 1) (z := .int .i64 0) (cells := #[.int .i64 (u)]) (parts := [(0, .int .i64 (u))]) (fun _ => idle_fin a3) hρ rfl (by omega) (by omega) rfl rfl, ?_⟩
          rintro v h5 δ5 ⟨rfl, N, hN, rfl, rfl⟩
          refine ⟨hZp N hN, fun ρ' hρ' => ⟨fun v h4 δ4 => h4 = (padTo h3 N).push (.cells #[.int .i64 (u)] 2) /\ δ4.d = δ.d /\ δ4.g.wg = δ.g.wg /\ Idle dL i δ4.g /\ v = sq /\ OwnD i c (po ++ [u]) (1000 - k - 1) sq δ4.g.y, yields_loadA dL_ok (hρ' _ _ rfl) a3 fun γ4 hR a4 j4 => ?_, ?_⟩⟩
          · have o4 := o3.rel i0 hR.toRo.lrel
            obtain ⟨f1, f2, f3⟩ := own_pd o4 i0 hi1
            exact ⟨_, _, _, f1, f2, f3, rfl, ((e3.trans e2).trans e1), hR.wg.trans ((w3.trans w2).trans w1), a4, rfl, o4⟩
          rintro v h4 ⟨d4, γ4⟩ ⟨rfl, e4, w4, a4, rfl, o4⟩
          exact ⟨hZp N hN, rfl, ⟨N, hN, rfl, rfl⟩, e4, w4, a4, o4⟩
        rintro vi vj h5 ⟨d5, γ5⟩ ⟨evi, ⟨N, hN, rfl, e5h⟩, e5, w5, a5, o5⟩ hZ5
        replace evi := evi.symm
        subst evi
        simp only at e5 w5 a5 o5
        have u5 : Upd (fun _ => False) h3 h5 := by rw [e5h]; exact (Upd.pad _ hN).trans (Upd.push _ _)
        have hro5 : ∀ b, blk sq = some b -> ¬ ((XF TT dL).cf γ5).ro b := fun b hb z => by
          have z' : γ5.y.c.ro b := z.2.1
          rw [o5.cc] at z'
          have := hro b z'
          have := (fun b hb => Nat.le_trans htop (W.b b hb) : ∀ b, blk sq = some b -> c.top <= b) b hb
          omega
        refine EA.onlyH 8 rfl (by kernel_rfl) rfl rfl rfl (.inl ⟨_, rfl, rfl⟩) fun ρ hρ => ⟨_, yields_append (e := 2) (sz := 1) (new := [intv (u)]) (fun _ => idle_fin a5) (hρ _ _ rfl) (hρ _ _ rfl) (W.s.upd u5 fun _ _ z => z) rfl (by rw [e5h]; exact mk_new hN) rfl (by simp [OneCell, intv]) (by omega) (by omega) rfl hro5, ?_⟩
        rintro v h6 δ6 ⟨rfl, x6, u6, b6⟩
        obtain ⟨r1, r2, r3, r4, r5⟩ := app1_ok W.u W.s W.b hN e5h x6 u6 b6
        clear hZp hZ hro5
        have hZ := u6.hcell hZ5 zL
        refine ⟨.inr hZ, ?_⟩
        obtain ⟨va, vcap, rfl⟩ := x6.val
        refine EA.tIdxS 9 rfl (by kernel_rfl) rfl rfl rfl rfl rfl (by omega) (by omega) hZ ?_
        refine EA.onlyH 10 rfl (by kernel_rfl) rfl rfl rfl (.inr rfl) fun ρ hρ => ⟨fun _ h7 δ7 => h7 = h6 /\ δ7.d = δ.d /\ δ7.g.wg = δ.g.wg /\ Idle dL i δ7.g /\ OwnD i c (po ++ [u]) (1000 - k - 1) (.slice va (po.length + 1) vcap) δ7.g.y, yields_storeA dL_ok (hρ _ _ rfl) (hρ _ _ rfl) (by simp [OneCell]) a5 fun γ7 hR a7 j7 => ?_, ?_⟩
        · have o4 := o5.rel i0 hR.toRo.lrel
          have j4 := j7
          obtain ⟨f1, f2, f3⟩ := own_pd o4 i0 hi1
          exact ⟨_, _, _, f1, f2, f3, mv_pd o4 j4 i0 _, fun γ8 y8 w8 a8 => ⟨rfl, e5, w8.trans w5, a8, by rw [y8]; exact o4.setQ _⟩⟩
        rintro v h7 ⟨d7, γ7⟩ ⟨rfl, e7, w7, a7, o7⟩
        simp only at e7 w7 a7 o7
        refine ⟨.inr hZ, EA.done (by kernel_rfl) ?_⟩
        clear hZ
        (repeat (first | refine EK.region ?_ | refine ER.done ?_ | refine EK.inBlock ?_ | refine ER.move rfl rfl rfl ?_ | refine ER.assign rfl rfl rfl ?_ | refine ER.add (kd := .i64) rfl rfl rfl rfl (i64_in (by omega) (by omega)) ?_))
        exact EK.back (again ⟨k + 1, 0, po ++ [u], .slice va (po.length + 1) vcap⟩ _ _ (by dsimp only; omega) ⟨hlt, ⟨e7, w7, a7, o7.less (by dsimp only; omega), r1, r2, r4⟩⟩) ⟨rfl, rfl, rfl, rfl, rfl, trivial⟩
    · (repeat (first | refine ER.done ?_ | refine ER.pickT rfl rfl rfl rfl ?_ | refine ER.cmpF rfl rfl rfl rfl rfl (by first | (dsimp only [cmpP]; omega) | exact rfl | exact Int.le_refl _) ?_ | refine EK.condF rfl ?_ | refine EK.exit rfl ?_))
      exact EK.done (EU.ret0 rfl ⟨_, _, _, W.step (e2.trans e1) (w2.trans w1) a2 o2, fun e => absurd e (by omega)⟩)
  · (repeat (first | refine EK.seq ?_ | refine EK.region ?_ | refine ER.done ?_ | refine ER.move rfl rfl rfl ?_ | refine ER.no rfl rfl ?_ | refine ER.pickF rfl rfl rfl rfl ?_ | refine ER.cmpF rfl rfl rfl rfl rfl (by first | (dsimp only [cmpP]; omega) | exact rfl | exact Int.le_refl _) ?_ | refine EK.condF rfl ?_ | refine EK.exit rfl ?_))
    exact EK.done (EU.ret0 rfl fin)
end
end
section
open Go Go.TJ Go.Proofs
variable [Dm]
section
variable {h : Hp} {δ : Ix (Gf Dy)} {i : Nat} {c : Dc} {po : List Int} {bd bt np tl : Nat} {sq : Value} {y y' : Dy}
structure OwnX (i : Nat) (c : Dc) (po : List Int) (bd : Nat) (sq : Value) (bt np tl : Nat) (y : Dy) : Prop where
  hi : i = c.n + 1
  d : OwnD i c po bd sq y
  o : OwnO c bt np 0 y
  t : tl <= y.tp
theorem OwnX.cc (o : OwnX i c po bd sq bt np tl y) : y.c = c := o.d.cc
theorem OwnX.rel (o : OwnX i c po bd sq bt np tl y) (h0 : 0 < i) (r : LRel dL i y y') : OwnX i c po bd sq bt np tl y' := ⟨o.hi, o.d.rel h0 r, o.o.rel o.d.cc o.hi r, Nat.le_trans o.t (show Dr i _ y' from r.law).tp⟩
theorem OwnX.setQ (o : OwnX i c po bd sq bt np tl y) (v : Value) : OwnX i c po bd v bt np tl (dqY y i v) := ⟨o.hi, o.d.setQ v, ⟨o.o.vb, o.o.bt, o.o.np, o.o.ow⟩, o.t⟩
structure LO where
  room : Bool
  bt : Nat
  po : List Int
  sq : Value
set_option maxRecDepth 8000 in
set_option maxHeartbeats 32000000 in
theorem owner_ok {q : Ke} (hA : Idle dL i δ.g) (hi : i = c.n + 1) (hn7 : c.n <= 7) (hm : c.m <= 1000) (hL : c.L = 2 ^ c.e) (he : 1 <= c.e /\ c.e <= 12) (mem : KE c q h) (htop : c.top <= h.size) (hro : ∀ b, c.ro b -> b < c.top) (ho : OwnD i c [] (8 * c.m + 3007) (.slice none 0 0) δ.g.y) (oo : OwnO c 0 0 0 δ.g.y) :
    CallW Try.prog false (SitW Try.prog (XF TT dL) i) 19 #[.int .i64 ((i - 1 : Nat) : Int), .pointer (some ⟨q.vN, 0, none⟩), .pointer (some ⟨q.vM, 0, none⟩), .pointer (some ⟨q.vD, 0, none⟩), .pointer (some ⟨q.vL, 0, none⟩), .pointer (some ⟨q.vE, 0, none⟩)] h δ (Ret (WQd i c h δ.d δ.g.wg)) := by
  have i0 := hA.i0
  have hi1 : i <= c.n + 1 := by omega
  have L2 : 2 <= c.L := by rw [hL]; exact Nat.pow_le_pow_right (n := 2) (by decide) he.1
  have hvN := mem.N
  have hne : ((i - 1 : Nat) : Int) = c.n := by omega
  refine CallW.start (n := 109) rfl rfl ?_
  (repeat (first | refine EK.seq ?_ | refine EK.region ?_ | refine ER.done ?_ | refine EK.block ?_ | refine ER.move rfl rfl rfl ?_ | refine ER.assign rfl rfl rfl ?_ | refine ER.cmpT rfl rfl rfl rfl rfl (by first | (dsimp only [cmpP]; omega) | exact rfl | exact Int.le_refl _) ?_ | refine EK.condT rfl ?_ | refine ER.load1 rfl rfl rfl (by assumption) ?_))
  refine EK.loopInv (fun s : LD => envO i q s.v) (fun s h' δ' => 1 <= s.v /\ s.v <= c.m + 1 /\ WD i c h δ.d δ.g.wg (8 * (c.m + 1 - s.v) + 3007) s.po s.sq h' δ' /\ OwnO c s.bt (s.v - 1) 0 δ'.g.y) (fun s => c.m + 1 - s.v) ⟨1, 0, [], .slice none 0 0⟩ ⟨rfl, rfl, rfl, rfl, rfl, rfl, rfl, trivial⟩ ⟨Nat.le_refl _, by dsimp only; omega, ⟨rfl, rfl, hA, ho.less (by dsimp only; omega), Upd.refl _ _, SliceO.nil, fun b hb => (by cases hb)⟩, oo⟩ ?_
  rintro ⟨u0, bt, po, sq⟩ h1 ⟨d1, γ1⟩ ⟨hv1, hv, W, o1⟩ again
  dsimp only [envO] at hv1 hv W o1 again ⊢
  rcases Nat.lt_or_ge u0 (c.m + 1) with hlt | hge
  · have mM := (mem.upd W.u).M
    (repeat (first | refine EK.seq ?_ | refine EK.region ?_ | refine ER.done ?_ | refine EK.skip ?_ | refine EK.block ?_ | refine ER.move rfl rfl rfl ?_ | refine ER.cmpT rfl rfl rfl rfl rfl (by first | (dsimp only [cmpP]; omega) | exact rfl | exact Int.le_refl _) ?_ | refine EK.condT rfl ?_ | refine ER.load1 rfl rfl rfl (by assumption) ?_))
    refine EK.loopInv (fun _ : LO => envO i q u0) (fun s h' δ' => WD i c h δ.d δ.g.wg (8 * (c.m + 1 - u0) + 3007 - (if s.room then 3 else 0)) s.po s.sq h' δ' /\ OwnO c s.bt (u0 - 1) 0 δ'.g.y /\ (s.room = true -> s.bt < δ'.g.y.tp + c.L)) (fun s => if s.room then 0 else 1) ⟨false, bt, po, sq⟩ ⟨rfl, rfl, rfl, rfl, rfl, rfl, rfl, trivial⟩ ⟨W, o1, fun e => (by cases e)⟩ ?_
    clear W o1 mM
    rintro ⟨room, bt, po, sq⟩ h1 ⟨d1, γ1⟩ ⟨W, oo1, hr1⟩ again2
    dsimp only [envO] at W oo1 hr1 again2 ⊢
    have e1 := W.d
    have w1 := W.wg
    have a1 := W.a
    have o1 := W.o
    simp only at e1 w1 a1 o1
    have m1 := mem.upd W.u
    have mD := m1.D
    have mL := m1.L
    have rb : (if room then 3 else 0) <= 3 := by cases room <;> decide
    (repeat (first | refine EK.seq ?_ | refine EK.region ?_ | refine ER.move rfl rfl rfl ?_ | refine ER.load1 rfl rfl rfl (by assumption) ?_))
    refine ER.callR rfl rfl rfl rfl rfl (push_d (room := room) (w := u0) a1 hi o1 oo1 (by omega) hL he (by omega) (by omega) hr1 m1.K) ?_
    rintro x h2 ⟨d2, γ2⟩ ⟨rfl, e2, w2, a2, ⟨rfl, rfl, o2, oo2⟩ | ⟨rfl, o2, oo2⟩⟩
    · simp only at e2 w2 a2 o2 oo2
      (repeat (first | refine EK.seq ?_ | refine EK.region ?_ | refine ER.done ?_ | refine EK.skip ?_ | refine EK.block ?_ | refine ER.cmpT rfl rfl rfl rfl rfl (by first | (dsimp only [cmpP]; omega) | exact rfl | exact Int.le_refl _) ?_ | refine EK.condT rfl ?_ | refine ER.load1 rfl rfl rfl (by assumption) ?_))
      refine ER.callR rfl rfl rfl rfl rfl (pop_d a2 hi o2 oo2 (by simp) hL he m1.K) ?_
      rintro x h3 ⟨d3, γ3⟩ ⟨rfl, e3, w3, a3, ⟨rfl, o3, oo3, t3⟩ | ⟨z, rfl, o3, bt', hb', oo3, t3⟩⟩
      · simp only at e3 w3 a3 o3 oo3 t3
        (repeat (first | refine EK.seq ?_ | refine EK.region ?_ | refine ER.done ?_ | refine EK.skip ?_ | refine EK.inBlock ?_ | refine ER.move rfl rfl rfl ?_ | refine ER.assign rfl rfl rfl ?_ | refine ER.extract rfl rfl rfl rfl ?_ | refine EK.condF rfl ?_))
        exact EK.back (again2 ⟨true, bt, po, sq⟩ _ _ (by simp) ⟨W.step ((e3.trans e2).trans e1) ((w3.trans w2).trans w1) a3 (o3.less (by simp)), oo3, fun _ => Nat.lt_of_le_of_lt t3 (Nat.lt_add_of_pos_right (by omega))⟩) ⟨rfl, rfl, rfl, rfl, rfl, rfl, rfl, trivial⟩
      · simp only at e3 w3 a3 o3 oo3 t3
        have hlp := o1.ln
        have ox : OwnX i c (po ++ [z]) (8 * (c.m + 1 - u0) + 3007 - 3) sq bt' (u0 - 1) γ3.y.tp γ3.y := ⟨hi, o3.less (by simp), oo3, Nat.le_refl _⟩
        have zL : ¬ blk sq = some q.vL := fun z => by
          have hz : h.size <= q.vL := W.b _ z
          obtain ⟨_, _, _, hb, _⟩ := hcell_some mem.L
          have : q.vL < h.size := lt_of_get hb
          omega
        (repeat (first | refine EK.seq ?_ | refine EK.region ?_ | refine ER.done ?_ | refine ER.move rfl rfl rfl ?_ | refine ER.assign rfl rfl rfl ?_ | refine ER.extract rfl rfl rfl rfl ?_ | refine EK.condT rfl ?_))
        refine EK.regionAny (fun h' => hcell h' ⟨q.vL, 0, none⟩ = some (.slice (some ⟨c.pb, 0, none⟩) (c.n + 1) (c.n + 1))) ?_ (hDu := a3.at.nd)
        have hZ : hcell h3 ⟨q.vL, 0, none⟩ = some (.slice (some ⟨c.pb, 0, none⟩) (c.n + 1) (c.n + 1)) := mL
        refine EA.tLoad 0 rfl (by kernel_rfl) rfl rfl rfl rfl (fun _ hz => hz) hZ ?_
        refine EA.tMove 1 rfl (by kernel_rfl) rfl rfl rfl rfl hZ ?_
        refine EA.tLoad 2 rfl (by kernel_rfl) rfl rfl rfl rfl (fun _ hz => hz) hZ ?_
        refine EA.tMove 3 rfl (by kernel_rfl) rfl rfl rfl rfl hZ ?_
        refine EA.tIdxS 4 rfl (by kernel_rfl) rfl rfl rfl rfl rfl (by omega) (by omega) hZ ?_
        refine EA.tMove 6 rfl (by kernel_rfl) rfl rfl rfl rfl hZ ?_
        have hZp : ∀ N, h3.size <= N -> hcell ((padTo h3 N).push (.cells #[.int .i64 (z)] 2)) ⟨q.vL, 0, none⟩ = some (.slice (some ⟨c.pb, 0, none⟩) (c.n + 1) (c.n + 1)) := fun N hN => ((Upd.pad (fun _ => False) hN).trans (Upd.push _ _)).hcell hZ fun z => z
        refine EA.both 5 7 (fun vi vj h5 δ5 => vi = sq /\ (∃ N, h3.size <= N /\ vj = .slice (some ⟨N, 0, none⟩) 1 1 /\ h5 = (padTo h3 N).push (.cells #[.int .i64 (z)] 2)) /\ δ5.d = δ.d /\ δ5.g.wg = δ.g.wg /\ Idle dL i δ5.g /\ OwnX i c (po ++ [z]) (8 * (c.m + 1 - u0) + 3007 - 3) sq bt' (u0 - 1) γ3.y.tp δ5.g.y) rfl rfl (by kernel_rfl) rfl rfl (by kernel_rfl) (by kernel_rfl) rfl (by kernel_rfl) rfl rfl rfl rfl rfl rfl (by decide) (fun ρ hρ => ?_) (fun ρ hρ => ?_) ?_
        · refine ⟨fun v h4 δ4 => h4 = h3 /\ δ4.d = δ.d /\ δ4.g.wg = δ.g.wg /\ Idle dL i δ4.g /\ v = sq /\ OwnX i c (po ++ [z]) (8 * (c.m + 1 - u0) + 3007 - 3) sq bt' (u0 - 1) γ3.y.tp δ4.g.y, yields_loadA dL_ok (hρ _ _ rfl) a3 fun γ4 hR a4 j4 => ?_, ?_⟩
          · have o4 := ox.rel i0 hR.toRo.lrel
            obtain ⟨f1, f2, f3⟩ := own_pd o4.d i0 hi1
            exact ⟨_, _, _, f1, f2, f3, rfl, ((e3.trans e2).trans e1), hR.wg.trans ((w3.trans w2).trans w1), a4, rfl, o4⟩
          rintro v h4 ⟨d4, γ4⟩ ⟨rfl, e4, w4, a4, rfl, o4⟩
          simp only at e4 w4 a4 o4
          refine ⟨hZ, fun ρ' hρ' => ⟨_, yields_build (e := 2) (sz := 1) (z := .int .i64 0) (cells := #[.int .i64 (z)]) (parts := [(0, .int .i64 (z))]) (fun _ => idle_fin a4) hρ' rfl (by omega) (by omega) rfl rfl, ?_⟩⟩
          rintro v h5 δ5 ⟨rfl, N, hN, rfl, rfl⟩
          exact ⟨hZp N hN, rfl, ⟨N, hN, rfl, rfl⟩, e4, w4, a4, o4⟩
        · refine ⟨_, yields_build (e := 2) (sz := 1) (z := .int .i64 0) (cells := #[.int .i64 (z)]) (parts := [(0, .int .i64 (z))]) (fun _ => idle_fin a3) hρ rfl (by omega) (by omega) rfl rfl, ?_⟩
          rintro v h5 δ5 ⟨rfl, N, hN, rfl, rfl⟩
          refine ⟨hZp N hN, fun ρ' hρ' => ⟨fun v h4 δ4 => h4 = (padTo h3 N).push (.cells #[.int .i64 (z)] 2) /\ δ4.d = δ.d /\ δ4.g.wg = δ.g.wg /\ Idle dL i δ4.g /\ v = sq /\ OwnX i c (po ++ [z]) (8 * (c.m + 1 - u0) + 3007 - 3) sq bt' (u0 - 1) γ3.y.tp δ4.g.y, yields_loadA dL_ok (hρ' _ _ rfl) a3 fun γ4 hR a4 j4 => ?_, ?_⟩⟩
          · have o4 := ox.rel i0 hR.toRo.lrel
            obtain ⟨f1, f2, f3⟩ := own_pd o4.d i0 hi1
            exact ⟨_, _, _, f1, f2, f3, rfl, ((e3.trans e2).trans e1), hR.wg.trans ((w3.trans w2).trans w1), a4, rfl, o4⟩
          rintro v h4 ⟨d4, γ4⟩ ⟨rfl, e4, w4, a4, rfl, o4⟩
          exact ⟨hZp N hN, rfl, ⟨N, hN, rfl, rfl⟩, e4, w4, a4, o4⟩
        rintro vi vj h5 ⟨d5, γ5⟩ ⟨evi, ⟨N, hN, rfl, e5h⟩, e5, w5, a5, o5⟩ hZ5
        replace evi := evi.symm
        subst evi
        simp only at e5 w5 a5 o5
        have u5 : Upd (fun _ => False) h3 h5 := by rw [e5h]; exact (Upd.pad _ hN).trans (Upd.push _ _)
        have hro5 : ∀ b, blk sq = some b -> ¬ ((XF TT dL).cf γ5).ro b := fun b hb z => by
          have z' : γ5.y.c.ro b := z.2.1
          rw [o5.cc] at z'
          have := hro b z'
          have := (fun b hb => Nat.le_trans htop (W.b b hb) : ∀ b, blk sq = some b -> c.top <= b) b hb
          omega
        refine EA.onlyH 8 rfl (by kernel_rfl) rfl rfl rfl (.inl ⟨_, rfl, rfl⟩) fun ρ hρ => ⟨_, yields_append (e := 2) (sz := 1) (new := [intv (z)]) (fun _ => idle_fin a5) (hρ _ _ rfl) (hρ _ _ rfl) (W.s.upd u5 fun _ _ z => z) rfl (by rw [e5h]; exact mk_new hN) rfl (by simp [OneCell, intv]) (by omega) (by omega) rfl hro5, ?_⟩
        rintro v h6 δ6 ⟨rfl, x6, u6, b6⟩
        obtain ⟨r1, r2, r3, r4, r5⟩ := app1_ok W.u W.s W.b hN e5h x6 u6 b6
        clear hZp hZ hro5
        have hZ := u6.hcell hZ5 zL
        refine ⟨.inr hZ, ?_⟩
        obtain ⟨va, vcap, rfl⟩ := x6.val
        refine EA.tIdxS 9 rfl (by kernel_rfl) rfl rfl rfl rfl rfl (by omega) (by omega) hZ ?_
        refine EA.onlyH 10 rfl (by kernel_rfl) rfl rfl rfl (.inr rfl) fun ρ hρ => ⟨fun _ h7 δ7 => h7 = h6 /\ δ7.d = δ.d /\ δ7.g.wg = δ.g.wg /\ Idle dL i δ7.g /\ OwnX i c (po ++ [z]) (8 * (c.m + 1 - u0) + 3007 - 3) (.slice va (po.length + 1) vcap) bt' (u0 - 1) γ3.y.tp δ7.g.y, yields_storeA dL_ok (hρ _ _ rfl) (hρ _ _ rfl) (by simp [OneCell]) a5 fun γ7 hR a7 j7 => ?_, ?_⟩
        · have o4 := o5.rel i0 hR.toRo.lrel
          have j4 := j7
          obtain ⟨f1, f2, f3⟩ := own_pd o4.d i0 hi1
          exact ⟨_, _, _, f1, f2, f3, mv_pd o4.d j4 i0 _, fun γ8 y8 w8 a8 => ⟨rfl, e5, w8.trans w5, a8, by rw [y8]; exact o4.setQ _⟩⟩
        rintro v h7 ⟨d7, γ7⟩ ⟨rfl, e7, w7, a7, o7⟩
        simp only at e7 w7 a7 o7
        refine ⟨.inr hZ, EA.done (by kernel_rfl) ?_⟩
        clear hZ
        (repeat refine EK.inBlock ?_)
        exact EK.back (again2 ⟨true, bt', po ++ [z], .slice va (po.length + 1) vcap⟩ _ _ (by simp) ⟨⟨e7, w7, a7, o7.d.less (by simp), r1, r2, r4⟩, o7.o, fun _ => Nat.lt_of_lt_of_le t3 (Nat.add_le_add_right o7.t _)⟩) ⟨rfl, rfl, rfl, rfl, rfl, rfl, rfl, trivial⟩
    · simp only at e2 w2 a2 o2 oo2
      clear again2
      rw [show u0 - 1 + 1 = u0 by omega] at oo2
      by_cases h5 : ((u0 : Nat) : Int).tmod 5 = 0
      · (repeat (first | refine EK.seq ?_ | refine EK.region ?_ | refine ER.done ?_ | refine ER.move rfl rfl rfl ?_ | refine ER.cmpT rfl rfl rfl rfl rfl (by first | (dsimp only [cmpP]; omega) | exact rfl | exact Int.le_refl _) ?_ | refine ER.cmpF rfl rfl rfl rfl rfl (by first | (dsimp only [cmpP]; omega) | exact rfl | exact Int.le_refl _) ?_ | refine ER.rem (kd := .i64) rfl rfl rfl rfl (by decide) rfl ?_ | refine EK.condT rfl ?_ | refine EK.condF rfl ?_ | refine EK.exit rfl ?_ | refine ER.load1 rfl rfl rfl (by assumption) ?_))
        refine ER.callR rfl rfl rfl rfl rfl (pop_d a2 hi o2 oo2 (by omega) hL he m1.K) ?_
        rintro x h3 ⟨d3, γ3⟩ ⟨rfl, e3, w3, a3, ⟨rfl, o3, oo3, t3⟩ | ⟨z, rfl, o3, bt', hb', oo3, t3⟩⟩
        · simp only at e3 w3 a3 o3 oo3 t3
          (repeat (first | refine EK.seq ?_ | refine EK.region ?_ | refine ER.done ?_ | refine EK.skip ?_ | refine EK.inBlock ?_ | refine ER.move rfl rfl rfl ?_ | refine ER.assign rfl rfl rfl ?_ | refine ER.extract rfl rfl rfl rfl ?_ | refine ER.add (kd := .i64) rfl rfl rfl rfl (i64_in (by omega) (by omega)) ?_ | refine EK.condF rfl ?_))
          exact EK.back (again ⟨u0 + 1, bt + 1, po, sq⟩ _ _ (by dsimp only; omega) ⟨by dsimp only; omega, by dsimp only; omega, W.step ((e3.trans e2).trans e1) ((w3.trans w2).trans w1) a3 (o3.less (by dsimp only; omega)), oo3⟩) ⟨rfl, rfl, rfl, rfl, rfl, rfl, rfl, trivial⟩
        · simp only at e3 w3 a3 o3 oo3 t3
          have hlp := o1.ln
          have ox : OwnX i c (po ++ [z]) (8 * (c.m + 1 - (u0 + 1)) + 3007) sq bt' u0 γ3.y.tp γ3.y := ⟨hi, o3.less (by omega), oo3, Nat.le_refl _⟩
          have zL : ¬ blk sq = some q.vL := fun z => by
            have hz : h.size <= q.vL := W.b _ z
            obtain ⟨_, _, _, hb, _⟩ := hcell_some mem.L
            have : q.vL < h.size := lt_of_get hb
            omega
          (repeat (first | refine EK.seq ?_ | refine EK.region ?_ | refine ER.done ?_ | refine ER.move rfl rfl rfl ?_ | refine ER.assign rfl rfl rfl ?_ | refine ER.extract rfl rfl rfl rfl ?_ | refine EK.condT rfl ?_))
          refine EK.regionAny (fun h' => hcell h' ⟨q.vL, 0, none⟩ = some (.slice (some ⟨c.pb, 0, none⟩) (c.n + 1) (c.n + 1))) ?_ (hDu := a3.at.nd)
          have hZ : hcell h3 ⟨q.vL, 0, none⟩ = some (.slice (some ⟨c.pb, 0, none⟩) (c.n + 1) (c.n + 1)) := mL
          refine EA.tLoad 0 rfl (by kernel_rfl) rfl rfl rfl rfl (fun _ hz => hz) hZ ?_
          refine EA.tMove 1 rfl (by kernel_rfl) rfl rfl rfl rfl hZ ?_
          refine EA.tLoad 2 rfl (by kernel_rfl) rfl rfl rfl rfl (fun _ hz => hz) hZ ?_
          refine EA.tMove 3 rfl (by kernel_rfl) rfl rfl rfl rfl hZ ?_
          refine EA.tIdxS 4 rfl (by kernel_rfl) rfl rfl rfl rfl rfl (by omega) (by omega) hZ ?_
          refine EA.tMove 6 rfl (by kernel_rfl) rfl rfl rfl rfl hZ ?_
          have hZp : ∀ N, h3.size <= N -> hcell ((padTo h3 N).push (.cells #[.int .i64 (z)] 2)) ⟨q.vL, 0, none⟩ = some (.slice (some ⟨c.pb, 0, none⟩) (c.n + 1) (c.n + 1)) := fun N hN => ((Upd.pad (fun _ => False) hN).trans (Upd.push _ _)).hcell hZ fun z => z
          refine EA.both 5 7 (fun vi vj h5 δ5 => vi = sq /\ (∃ N, h3.size <= N /\ vj = .slice (some ⟨N, 0, none⟩) 1 1 /\ h5 = (padTo h3 N).push (.cells #[.int .i64 (z)] 2)) /\ δ5.d = δ.d /\ δ5.g.wg = δ.g.wg /\ Idle dL i δ5.g /\ OwnX i c (po ++ [z]) (8 * (c.m + 1 - (u0 + 1)) + 3007) sq bt' u0 γ3.y.tp δ5.g.y) rfl rfl (by kernel_rfl) rfl rfl (by kernel_rfl) (by kernel_rfl) rfl (by kernel_rfl) rfl rfl rfl rfl rfl rfl (by decide) (fun ρ hρ => ?_) (fun ρ hρ => ?_) ?_
          · refine ⟨fun v h4 δ4 => h4 = h3 /\ δ4.d = δ.d /\ δ4.g.wg = δ.g.wg /\ Idle dL i δ4.g /\ v = sq /\ OwnX i c (po ++ [z]) (8 * (c.m + 1 - (u0 + 1)) + 3007) sq bt' u0 γ3.y.tp δ4.g.y, yields_loadA dL_ok (hρ _ _ rfl) a3 fun γ4 hR a4 j4 => ?_, ?_⟩
            · have o4 := ox.rel i0 hR.toRo.lrel
              obtain ⟨f1, f2, f3⟩ := own_pd o4.d i0 hi1
              exact ⟨_, _, _, f1, f2, f3, rfl, ((e3.trans e2).trans e1), hR.wg.trans ((w3.trans w2).trans w1), a4, rfl, o4⟩
            rintro v h4 ⟨d4, γ4⟩ ⟨rfl, e4, w4, a4, rfl, o4⟩
            simp only at e4 w4 a4 o4
            refine ⟨hZ, fun ρ' hρ' => ⟨_, yields_build (e := 2) (sz := 1) (z := .int .i64 0) (cells := #[.int .i64 (z)]) (parts := [(0, .int .i64 (z))]) (fun _ => idle_fin a4) hρ' rfl (by omega) (by omega) rfl rfl, ?_⟩⟩
            rintro v h5 δ5 ⟨rfl, N, hN, rfl, rfl⟩
            exact ⟨hZp N hN, rfl, ⟨N, hN, rfl, rfl⟩, e4, w4, a4, o4⟩
          · refine ⟨_, yields_build (e := 2) (sz := 1) (z := .int .i64 0) (cells := #[.int .i64 (z)]) (parts := [(0, .int .i64 (z))]) (fun _ => idle_fin a3) hρ rfl (by omega) (by omega) rfl rfl, ?_⟩
            rintro v h5 δ5 ⟨rfl, N, hN, rfl, rfl⟩
            refine ⟨hZp N hN, fun ρ' hρ' => ⟨fun v h4 δ4 => h4 = (padTo h3 N).push (.cells #[.int .i64 (z)] 2) /\ δ4.d = δ.d /\ δ4.g.wg = δ.g.wg /\ Idle dL i δ4.g /\ v = sq /\ OwnX i c (po ++ [z]) (8 * (c.m + 1 - (u0 + 1)) + 3007) sq bt' u0 γ3.y.tp δ4.g.y, yields_loadA dL_ok (hρ' _ _ rfl) a3 fun γ4 hR a4 j4 => ?_, ?_⟩⟩
            · have o4 := ox.rel i0 hR.toRo.lrel
              obtain ⟨f1, f2, f3⟩ := own_pd o4.d i0 hi1
              exact ⟨_, _, _, f1, f2, f3, rfl, ((e3.trans e2).trans e1), hR.wg.trans ((w3.trans w2).trans w1), a4, rfl, o4⟩
            rintro v h4 ⟨d4, γ4⟩ ⟨rfl, e4, w4, a4, rfl, o4⟩
            exact ⟨hZp N hN, rfl, ⟨N, hN, rfl, rfl⟩, e4, w4, a4, o4⟩
          rintro vi vj h5 ⟨d5, γ5⟩ ⟨evi, ⟨N, hN, rfl, e5h⟩, e5, w5, a5, o5⟩ hZ5
          replace evi := evi.symm
          subst evi
          simp only at e5 w5 a5 o5
          have u5 : Upd (fun _ => False) h3 h5 := by rw [e5h]; exact (Upd.pad _ hN).trans (Upd.push _ _)
          have hro5 : ∀ b, blk sq = some b -> ¬ ((XF TT dL).cf γ5).ro b := fun b hb z => by
            have z' : γ5.y.c.ro b := z.2.1
            rw [o5.cc] at z'
            have := hro b z'
            have := (fun b hb => Nat.le_trans htop (W.b b hb) : ∀ b, blk sq = some b -> c.top <= b) b hb
            omega
          refine EA.onlyH 8 rfl (by kernel_rfl) rfl rfl rfl (.inl ⟨_, rfl, rfl⟩) fun ρ hρ => ⟨_, yields_append (e := 2) (sz := 1) (new := [intv (z)]) (fun _ => idle_fin a5) (hρ _ _ rfl) (hρ _ _ rfl) (W.s.upd u5 fun _ _ z => z) rfl (by rw [e5h]; exact mk_new hN) rfl (by simp [OneCell, intv]) (by omega) (by omega) rfl hro5, ?_⟩
          rintro v h6 δ6 ⟨rfl, x6, u6, b6⟩
          obtain ⟨r1, r2, r3, r4, r5⟩ := app1_ok W.u W.s W.b hN e5h x6 u6 b6
          clear hZp hZ hro5
          have hZ := u6.hcell hZ5 zL
          refine ⟨.inr hZ, ?_⟩
          obtain ⟨va, vcap, rfl⟩ := x6.val
          refine EA.tIdxS 9 rfl (by kernel_rfl) rfl rfl rfl rfl rfl (by omega) (by omega) hZ ?_
          refine EA.onlyH 10 rfl (by kernel_rfl) rfl rfl rfl (.inr rfl) fun ρ hρ => ⟨fun _ h7 δ7 => h7 = h6 /\ δ7.d = δ.d /\ δ7.g.wg = δ.g.wg /\ Idle dL i δ7.g /\ OwnX i c (po ++ [z]) (8 * (c.m + 1 - (u0 + 1)) + 3007) (.slice va (po.length + 1) vcap) bt' u0 γ3.y.tp δ7.g.y, yields_storeA dL_ok (hρ _ _ rfl) (hρ _ _ rfl) (by simp [OneCell]) a5 fun γ7 hR a7 j7 => ?_, ?_⟩
          · have o4 := o5.rel i0 hR.toRo.lrel
            have j4 := j7
            obtain ⟨f1, f2, f3⟩ := own_pd o4.d i0 hi1
            exact ⟨_, _, _, f1, f2, f3, mv_pd o4.d j4 i0 _, fun γ8 y8 w8 a8 => ⟨rfl, e5, w8.trans w5, a8, by rw [y8]; exact o4.setQ _⟩⟩
          rintro v h7 ⟨d7, γ7⟩ ⟨rfl, e7, w7, a7, o7⟩
          simp only at e7 w7 a7 o7
          refine ⟨.inr hZ, EA.done (by kernel_rfl) ?_⟩
          clear hZ
          (repeat (first | refine EK.region ?_ | refine ER.done ?_ | refine EK.inBlock ?_ | refine ER.move rfl rfl rfl ?_ | refine ER.assign rfl rfl rfl ?_ | refine ER.add (kd := .i64) rfl rfl rfl rfl (i64_in (by omega) (by omega)) ?_))
          exact EK.back (again ⟨u0 + 1, bt', po ++ [z], .slice va (po.length + 1) vcap⟩ _ _ (by dsimp only; omega) ⟨by dsimp only; omega, by dsimp only; omega, ⟨e7, w7, a7, o7.d, r1, r2, r4⟩, o7.o⟩) ⟨rfl, rfl, rfl, rfl, rfl, rfl, rfl, trivial⟩
      · (repeat (first | refine EK.seq ?_ | refine EK.region ?_ | refine ER.done ?_ | refine EK.skip ?_ | refine EK.inBlock ?_ | refine ER.move rfl rfl rfl ?_ | refine ER.assign rfl rfl rfl ?_ | refine ER.cmpF rfl rfl rfl rfl rfl (by first | (dsimp only [cmpP]; omega) | exact rfl | exact Int.le_refl _) ?_ | refine ER.add (kd := .i64) rfl rfl rfl rfl (i64_in (by omega) (by omega)) ?_ | refine ER.rem (kd := .i64) rfl rfl rfl rfl (by decide) rfl ?_ | refine EK.condF rfl ?_ | refine EK.exit rfl ?_))
        exact EK.back (again ⟨u0 + 1, bt + 1, po, sq⟩ _ _ (by dsimp only; omega) ⟨by dsimp only; omega, by dsimp only; omega, W.step (e2.trans e1) (w2.trans w1) a2 (o2.less (by dsimp only; omega)), oo2⟩) ⟨rfl, rfl, rfl, rfl, rfl, rfl, rfl, trivial⟩
  · obtain rfl : u0 = c.m + 1 := by omega
    rw [show c.m + 1 - 1 = c.m by omega] at o1
    have mM := (mem.upd W.u).M
    (repeat (first | refine EK.seq ?_ | refine EK.region ?_ | refine ER.done ?_ | refine EK.block ?_ | refine ER.move rfl rfl rfl ?_ | refine ER.cmpF rfl rfl rfl rfl rfl (by first | (dsimp only [cmpP]; omega) | exact rfl | exact Int.le_refl _) ?_ | refine EK.condF rfl ?_ | refine EK.exit rfl ?_ | refine ER.load1 rfl rfl rfl (by assumption) ?_))
    refine EK.loopInv (fun _ : LO => envD i q) (fun s h' δ' => WD i c h δ.d δ.g.wg (3 * (1001 - s.po.length) + 1) s.po s.sq h' δ' /\ OwnO c s.bt c.m 0 δ'.g.y) (fun s => 1001 - s.po.length) ⟨false, bt, po, sq⟩ ⟨rfl, rfl, rfl, rfl, trivial⟩ ⟨W.step W.d W.wg W.a (W.o.less (by dsimp only; omega)), o1⟩ ?_
    clear W o1 mM again
    rintro ⟨_, bt, po, sq⟩ h1 ⟨d1, γ1⟩ ⟨W, oo1⟩ again
    dsimp only [envD] at W oo1 again ⊢
    have e1 := W.d
    have w1 := W.wg
    have a1 := W.a
    have o1 := W.o
    simp only at e1 w1 a1 o1
    have hlp := o1.ln
    have m1 := mem.upd W.u
    have mD := m1.D
    have mL := m1.L
    have mE := m1.E
    (repeat (first | refine EK.seq ?_ | refine EK.region ?_ | refine EK.block ?_ | refine ER.load1 rfl rfl rfl (by assumption) ?_))
    refine ER.callR rfl rfl rfl rfl rfl (pop_d a1 hi o1 oo1 (by omega) hL he m1.K) ?_
    rintro x h3 ⟨d3, γ3⟩ ⟨rfl, e3, w3, a3, ⟨rfl, o3, oo3, t3⟩ | ⟨z, rfl, o3, bt', hb', oo3, t3⟩⟩
    · simp only at e3 w3 a3 o3 oo3 t3
      have ox : OwnX i c po (3 * (1001 - po.length) + 1 - 3) sq bt c.m bt γ3.y := ⟨hi, o3, oo3, t3⟩
      (repeat (first | refine EK.seq ?_ | refine EK.region ?_ | refine ER.done ?_ | refine ER.move rfl rfl rfl ?_ | refine ER.assign rfl rfl rfl ?_ | refine ER.notB rfl rfl rfl ?_ | refine ER.extract rfl rfl rfl rfl ?_ | refine EK.condT rfl ?_ | refine EK.exit rfl ?_ | refine ER.load1 rfl rfl rfl (by assumption) ?_))
      refine ER.callR rfl rfl rfl rfl rfl (cstore_f (F := fun _ y => OwnX i c po 0 sq bt c.m bt y) dL_ok a3 (b := c.B (4 + c.L)) (mem_e ox.cc) fun y₁ q1 j1 => ?_) ?_
      · have o4 := ox.rel i0 q1
        have ec := o4.cc
        have hi' : i = y₁.c.n + 1 := by rw [ec]; exact hi
        have hbd := o4.d.bd
        have st := done_step (w := 1) j1 hi' (by omega)
        have ev : (doneY y₁ i 1).v (c.B (4 + c.L)) = 1 := by
          show u1 y₁.v (y₁.c.B (4 + y₁.c.L)) 1 (c.B (4 + c.L)) = 1
          rw [ec, u1_same]
        have ox' : OwnX i c po 0 sq bt c.m bt (doneY y₁ i 1) := ⟨hi, ⟨ec, o4.d.ln, o4.d.po, Nat.zero_le _, o4.d.sq⟩, ⟨by
          refine (u1_ne fun e => ?_).trans o4.o.vb
          have := j1.inj 3 (4 + y₁.c.L) (by rw [ec] at e ⊢; exact e)
          omega, o4.o.bt, o4.o.np, o4.o.ow⟩, o4.t⟩
        exact ⟨doneY y₁ i 1, by rw [<- ec]; exact st, ev, fun y₂ q2 => ox'.rel i0 q2⟩
      rintro x h4 ⟨d4, γ4⟩ ⟨rfl, e4, w4, a4, o4⟩
      simp only at e4 w4 a4 o4
      (repeat (first | refine ER.done ?_ | refine EK.ret ?_))
      exact EU.ret0 rfl ⟨_, _, _, W.step ((e4.trans e3).trans e1) ((w4.trans w3).trans w1) a4 o4.d, fun _ => ⟨bt, o4.o, o4.t⟩⟩
    · simp only at e3 w3 a3 o3 oo3 t3
      have hl3 := o3.ln
      rw [List.length_append] at hl3
      have hl3' : po.length + 1 <= 1000 := hl3
      have ox : OwnX i c (po ++ [z]) (3 * (1001 - (po.length + 1)) + 1) sq bt' c.m γ3.y.tp γ3.y := ⟨hi, o3.less (by omega), oo3, Nat.le_refl _⟩
      have zL : ¬ blk sq = some q.vL := fun z => by
        have hz : h.size <= q.vL := W.b _ z
        obtain ⟨_, _, _, hb, _⟩ := hcell_some mem.L
        have : q.vL < h.size := lt_of_get hb
        omega
      (repeat (first | refine EK.seq ?_ | refine EK.region ?_ | refine ER.done ?_ | refine EK.skip ?_ | refine ER.move rfl rfl rfl ?_ | refine ER.assign rfl rfl rfl ?_ | refine ER.notB rfl rfl rfl ?_ | refine ER.extract rfl rfl rfl rfl ?_ | refine EK.condF rfl ?_))
      refine EK.regionAny (fun h' => hcell h' ⟨q.vL, 0, none⟩ = some (.slice (some ⟨c.pb, 0, none⟩) (c.n + 1) (c.n + 1))) ?_ (hDu := a3.at.nd)
      have hZ : hcell h3 ⟨q.vL, 0, none⟩ = some (.slice (some ⟨c.pb, 0, none⟩) (c.n + 1) (c.n + 1)) := mL
      refine EA.tLoad 0 rfl (by kernel_rfl) rfl rfl rfl rfl (fun _ hz => hz) hZ ?_
      refine EA.tMove 1 rfl (by kernel_rfl) rfl rfl rfl rfl hZ ?_
      refine EA.tLoad 2 rfl (by kernel_rfl) rfl rfl rfl rfl (fun _ hz => hz) hZ ?_
      refine EA.tMove 3 rfl (by kernel_rfl) rfl rfl rfl rfl hZ ?_
      refine EA.tIdxS 4 rfl (by kernel_rfl) rfl rfl rfl rfl rfl (by omega) (by omega) hZ ?_
      refine EA.tMove 6 rfl (by kernel_rfl) rfl rfl rfl rfl hZ ?_
      have hZp : ∀ N, h3.size <= N -> hcell ((padTo h3 N).push (.cells #[.int .i64 (z)] 2)) ⟨q.vL, 0, none⟩ = some (.slice (some ⟨c.pb, 0, none⟩) (c.n + 1) (c.n + 1)) := fun N hN => ((Upd.pad (fun _ => False) hN).trans (Upd.push _ _)).hcell hZ fun z => z
      refine EA.both 5 7 (fun vi vj h5 δ5 => vi = sq /\ (∃ N, h3.size <= N /\ vj = .slice (some ⟨N, 0, none⟩) 1 1 /\ h5 = (padTo h3 N).push (.cells #[.int .i64 (z)] 2)) /\ δ5.d = δ.d /\ δ5.g.wg = δ.g.wg /\ Idle dL i δ5.g /\ OwnX i c (po ++ [z]) (3 * (1001 - (po.length + 1)) + 1) sq bt' c.m γ3.y.tp δ5.g.y) rfl rfl (by kernel_rfl) rfl rfl (by kernel_rfl) (by kernel_rfl) rfl (by kernel_rfl) rfl rfl rfl rfl rfl rfl (by decide) (fun ρ hρ => ?_) (fun ρ hρ => ?_) ?_
      · refine ⟨fun v h4 δ4 => h4 = h3 /\ δ4.d = δ.d /\ δ4.g.wg = δ.g.wg /\ Idle dL i δ4.g /\ v = sq /\ OwnX i c (po ++ [z]) (3 * (1001 - (po.length + 1)) + 1) sq bt' c.m γ3.y.tp δ4.g.y, yields_loadA dL_ok (hρ _ _ rfl) a3 fun γ4 hR a4 j4 => ?_, ?_⟩
        · have o4 := ox.rel i0 hR.toRo.lrel
          obtain ⟨f1, f2, f3⟩ := own_pd o4.d i0 hi1
          exact ⟨_, _, _, f1, f2, f3, rfl, (e3.trans e1), hR.wg.trans (w3.trans w1), a4, rfl, o4⟩
        rintro v h4 ⟨d4, γ4⟩ ⟨rfl, e4, w4, a4, rfl, o4⟩
        simp only at e4 w4 a4 o4
        refine ⟨hZ, fun ρ' hρ' => ⟨_, yields_build (e := 2) (sz := 1) (z := .int .i64 0) (cells := #[.int .i64 (z)]) (parts := [(0, .int .i64 (z))]) (fun _ => idle_fin a4) hρ' rfl (by omega) (by omega) rfl rfl, ?_⟩⟩
        rintro v h5 δ5 ⟨rfl, N, hN, rfl, rfl⟩
        exact ⟨hZp N hN, rfl, ⟨N, hN, rfl, rfl⟩, e4, w4, a4, o4⟩
      · refine ⟨_, yields_build (e := 2) (sz := 1) (z := .int .i64 0) (cells := #[.int .i64 (z)]) (parts := [(0, .int .i64 (z))]) (fun _ => idle_fin a3) hρ rfl (by omega) (by omega) rfl rfl, ?_⟩
        rintro v h5 δ5 ⟨rfl, N, hN, rfl, rfl⟩
        refine ⟨hZp N hN, fun ρ' hρ' => ⟨fun v h4 δ4 => h4 = (padTo h3 N).push (.cells #[.int .i64 (z)] 2) /\ δ4.d = δ.d /\ δ4.g.wg = δ.g.wg /\ Idle dL i δ4.g /\ v = sq /\ OwnX i c (po ++ [z]) (3 * (1001 - (po.length + 1)) + 1) sq bt' c.m γ3.y.tp δ4.g.y, yields_loadA dL_ok (hρ' _ _ rfl) a3 fun γ4 hR a4 j4 => ?_, ?_⟩⟩
        · have o4 := ox.rel i0 hR.toRo.lrel
          obtain ⟨f1, f2, f3⟩ := own_pd o4.d i0 hi1
          exact ⟨_, _, _, f1, f2, f3, rfl, (e3.trans e1), hR.wg.trans (w3.trans w1), a4, rfl, o4⟩
        rintro v h4 ⟨d4, γ4⟩ ⟨rfl, e4, w4, a4, rfl, o4⟩
        exact ⟨hZp N hN, rfl, ⟨N, hN, rfl, rfl⟩, e4, w4, a4, o4⟩
      rintro vi vj h5 ⟨d5, γ5⟩ ⟨evi, ⟨N, hN, rfl, e5h⟩, e5, w5, a5, o5⟩ hZ5
      replace evi := evi.symm
      subst evi
      simp only at e5 w5 a5 o5
      have u5 : Upd (fun _ => False) h3 h5 := by rw [e5h]; exact (Upd.pad _ hN).trans (Upd.push _ _)
      have hro5 : ∀ b, blk sq = some b -> ¬ ((XF TT dL).cf γ5).ro b := fun b hb z => by
        have z' : γ5.y.c.ro b := z.2.1
        rw [o5.cc] at z'
        have := hro b z'
        have := (fun b hb => Nat.le_trans htop (W.b b hb) : ∀ b, blk sq = some b -> c.top <= b) b hb
        omega
      refine EA.onlyH 8 rfl (by kernel_rfl) rfl rfl rfl (.inl ⟨_, rfl, rfl⟩) fun ρ hρ => ⟨_, yields_append (e := 2) (sz := 1) (new := [intv (z)]) (fun _ => idle_fin a5) (hρ _ _ rfl) (hρ _ _ rfl) (W.s.upd u5 fun _ _ z => z) rfl (by rw [e5h]; exact mk_new hN) rfl (by simp [OneCell, intv]) (by omega) (by omega) rfl hro5, ?_⟩
      rintro v h6 δ6 ⟨rfl, x6, u6, b6⟩
      obtain ⟨r1, r2, r3, r4, r5⟩ := app1_ok W.u W.s W.b hN e5h x6 u6 b6
      clear hZp hZ hro5
      have hZ := u6.hcell hZ5 zL
      refine ⟨.inr hZ, ?_⟩
      obtain ⟨va, vcap, rfl⟩ := x6.val
      refine EA.tIdxS 9 rfl (by kernel_rfl) rfl rfl rfl rfl rfl (by omega) (by omega) hZ ?_
      refine EA.onlyH 10 rfl (by kernel_rfl) rfl rfl rfl (.inr rfl) fun ρ hρ => ⟨fun _ h7 δ7 => h7 = h6 /\ δ7.d = δ.d /\ δ7.g.wg = δ.g.wg /\ Idle dL i δ7.g /\ OwnX i c (po ++ [z]) (3 * (1001 - (po.length + 1)) + 1) (.slice va (po.length + 1) vcap) bt' c.m γ3.y.tp δ7.g.y, yields_storeA dL_ok (hρ _ _ rfl) (hρ _ _ rfl) (by simp [OneCell]) a5 fun γ7 hR a7 j7 => ?_, ?_⟩
      · have o4 := o5.rel i0 hR.toRo.lrel
        have j4 := j7
        obtain ⟨f1, f2, f3⟩ := own_pd o4.d i0 hi1
        exact ⟨_, _, _, f1, f2, f3, mv_pd o4.d j4 i0 _, fun γ8 y8 w8 a8 => ⟨rfl, e5, w8.trans w5, a8, by rw [y8]; exact o4.setQ _⟩⟩
      rintro v h7 ⟨d7, γ7⟩ ⟨rfl, e7, w7, a7, o7⟩
      simp only at e7 w7 a7 o7
      refine ⟨.inr hZ, EA.done (by kernel_rfl) ?_⟩
      clear hZ
      (repeat refine EK.inBlock ?_)
      exact EK.back (again ⟨false, bt', po ++ [z], .slice va (po.length + 1) vcap⟩ _ _ (by dsimp only; rw [List.length_append]; show 1001 - (po.length + 1) < _; omega) ⟨⟨e7, w7, a7, o7.d.less (by dsimp only; rw [List.length_append]; exact Nat.le_refl _), r1, r2, r4⟩, o7.o⟩) ⟨rfl, rfl, rfl, rfl, trivial⟩
end
end
section
open Go Go.TJ Go.Proofs
variable [Dm]
variable {Y : Type} {L : Law Y}
theorem freed_mu {γ : Gf Y} {H : Hp} (hI : InvF TT L γ H) (hd : AllDn γ) {b : Nat} (hb : b ∈ L.cls γ.y) : H[b]? = some (cellO (L.val γ.y b)) := by
  have hc : ∀ j, j < γ.num -> (γ.ph j).c = 0 := fun j hj => Classical.byContradiction fun h => by
    obtain ⟨j0, _, hw⟩ := hI.j.wh j hj h
    have := (hd j j0 hj).1
    omega
  have hz : ∀ x, x ≠ 0 -> ct γ.ph γ.num b x = 0 := fun x hx => ct_zero fun j hj _ e => hx (by rw [<- e, hc j hj])
  obtain ⟨i1, i2, i3, i4, i5, i6, i7⟩ := hI.j.mi b hb
  rw [hz 6 (by omega)] at i4
  rw [hz 9 (by omega), hz 5 (by omega), hz 3 (by omega), hz 8 (by omega), hz 2 (by omega), hz 4 (by omega)] at i5
  rw [hz 2 (by omega), hz 8 (by omega), hz 3 (by omega), hz 4 (by omega), hz 5 (by omega), hz 9 (by omega)] at i6
  have hc := hI.cell b hb
  generalize γ.mu b = m at i1 i2 i3 i4 i5 i6 i7 hc
  obtain ⟨mb, mk, ms, mn, mz⟩ := m
  simp only at i1 i2 i3 i4 i5 i6
  obtain ⟨rfl, rfl, rfl, rfl, rfl⟩ : mb = 0 /\ mk = 0 /\ ms = 0 /\ mn = 0 /\ mz = 0 := by omega
  exact hc
theorem sl_ne {h : Hp} {s : Value} {e sz n : Nat} {cells : List Value} (x : SliceO h s e sz n cells) {R : Nat} {c : Array Value} {e' : TypeId} {f : Nat × Nat} (hR : h[R]? = some (.cells c e' f)) (hne : e ≠ e') : ¬ blk s = some R := by
  intro hb
  obtain ⟨_, ⟨rfl, _⟩ | ⟨b', cap, rest, rfl, h1, h2, h3⟩⟩ := x
  · cases hb
  · cases hb
    rw [h3] at hR
    injection hR with hR
    injection hR with _ hR _
    exact hne hR
end
section
open Go Go.TJ Go.Proofs
variable [Dm]
section
variable {Y : Type} {L : Law Y}
theorem freed_out2 {y₀ : Y} {h h' : Hp} {n : Nat} {γ' : Gf Y} (x : Freed L y₀ h n h' γ') (hW : h.size + 2 ∉ L.cls y₀ /\ L.arrT y₀ (h.size + 2) = none) {tF : TypeId} (hF : L.arrT y₀ h.size = some tF) :
    ∃ y₁, LRel L 0 y₀ y₁ /\ L.J y₁ /\ (∀ j, 0 < j -> j <= n -> ∃ hf, L.fin y₁ j hf /\ ∀ b o v, h.size + 3 <= b -> hcell hf ⟨b, o, none⟩ = some v -> hcell h' ⟨b, o, none⟩ = some v) /\ (∀ b o, h[b]? = some o -> o ≠ dum -> b ∉ L.cls y₀ -> L.arrT y₀ b = none -> h'[b]? = some o) /\ (∀ b, b ∈ L.cls y₀ -> h'[b]? = some (cellO (L.val y₁ b))) /\ (∀ b t, L.arrT y₀ b = some t -> h'[b]? = some (.cells (L.arr y₁ b) t (0, 0))) /\ h.size < h'.size := by
  obtain ⟨γ₁, H, h1, h2, h3, h4, h5, h6, rfl⟩ := x.out
  have hlt : ∀ b o, h[b]? = some o -> b < h.size := fun b o hb => (Array.getElem?_eq_some_iff.1 hb).1
  have harr : ∀ b t, L.arrT y₀ b = some t -> (H.setIfInBounds (h.size + 2) dum)[b]? = some (.cells (L.arr γ₁.y b) t (0, 0)) := fun b t hb => by
    rw [Array.getElem?_setIfInBounds_ne (fun e => by rw [<- e, hW.2] at hb; cases hb)]
    rw [<- h1.stat.arrT] at hb
    exact h4.arr b t hb
  refine ⟨γ₁.y, h1, h4.j.law, fun j j0 hj => ?_, fun b o hb hd hc ha => ?_, fun b hb => ?_, harr, (Array.getElem?_eq_some_iff.1 (harr _ _ hF)).1⟩
  · obtain ⟨_, hs⟩ := h3 j j0 (by omega)
    obtain ⟨hf, hf'⟩ := Option.isSome_iff_exists.1 hs
    refine ⟨hf, h4.j.fin j hf j0 (by omega) hf', fun b o v hb hv => ?_⟩
    obtain ⟨c, e, f, g1, g2, g3⟩ := hcell_some hv
    refine hcell_of (e := e) (f := f) ?_ g3
    rw [Array.getElem?_setIfInBounds_ne (by show h.size + 2 ≠ b; omega)]
    exact (h6 j hf j0 hf').get b _ g1 (ne_dum g3)
  · have := hlt b o hb
    rw [Array.getElem?_setIfInBounds_ne (by omega)]
    exact h5 b o (frH_old hb) hd hc ha (by omega)
  · rw [Array.getElem?_setIfInBounds_ne (fun e => by subst e; exact hW.1 hb)]
    have hb' : b ∈ L.cls γ₁.y := by rw [h1.stat.cls]; exact hb
    exact freed_mu h4 h3 hb'
theorem hcell_same {h h' : Hp} {b o : Nat} (e : h'[b]? = h[b]?) : hcell h' ⟨b, o, none⟩ = hcell h ⟨b, o, none⟩ := by
  unfold hcell
  simp only [e]
theorem rd_of {h : Hp} {v : Value} {l : List Int} {top : Nat} (x : SliceO h v 2 1 l.length (l.map intv)) (b1 : ∀ b, blk v = some b -> top <= b) : Rd top h v l := by
  obtain ⟨a, cap, rfl⟩ := x.val
  refine ⟨a, cap, rfl, fun i z hz => ?_⟩
  have hl : i < l.length := by
    rcases Nat.lt_or_ge i l.length with y | y
    · exact y
    · rw [List.getElem?_eq_none y] at hz; cases hz
  obtain ⟨b, cap', e, h1, _⟩ := x.cell (by omega)
  injection e with e1 e2 e3
  subst e1
  exact ⟨b, rfl, b1 b rfl, h1 i _ (by rw [List.getElem?_map, hz]; rfl)⟩
theorem Rd.mono {h h' : Hp} {v : Value} {l : List Int} {top top' : Nat} (x : Rd top h v l) (ht : top' <= top) (hm : ∀ b o v, top <= b -> hcell h ⟨b, o, none⟩ = some v -> hcell h' ⟨b, o, none⟩ = some v) : Rd top' h' v l := by
  obtain ⟨a, cap, rfl, g⟩ := x
  refine ⟨a, cap, rfl, fun i z hz => ?_⟩
  obtain ⟨b, e, h1, h2⟩ := g i z hz
  exact ⟨b, e, Nat.le_trans ht h1, hm _ _ _ h1 h2⟩
end
def Kw.caps (q : Kw) : Array Value := #[.pointer (some ⟨q.vM, 0, none⟩), .pointer (some ⟨q.vS, 0, none⟩), .pointer (some ⟨q.vP, 0, none⟩), .pointer (some ⟨q.vQ, 0, none⟩)]
structure KWro (c : Sc) (q : Kw) : Prop where
  M : c.ro q.vM
  S : c.ro q.vS
  P : c.ro q.vP
  Q : c.ro q.vQ
  s : c.ro q.sb
  i : c.ro q.ib
theorem KW.move {c : Sc} {q : Kw} {h h' : Hp} (m : KW c q h) (r : KWro c q) (hm : ∀ b o v, c.ro b -> hcell h ⟨b, o, none⟩ = some v -> hcell h' ⟨b, o, none⟩ = some v) : KW c q h' where
  M := hm _ _ _ r.M m.M
  S := hm _ _ _ r.S m.S
  P := hm _ _ _ r.P m.P
  Q := hm _ _ _ r.Q m.Q
  K := ⟨hm _ _ _ r.s m.K.l, hm _ _ _ r.s m.K.f, hm _ _ _ r.s m.K.s, fun k hk => ⟨hm _ _ _ r.i (m.K.n k hk).1, hm _ _ _ r.i (m.K.n k hk).2⟩⟩
theorem sarr_f {y : Sy} (hJ : Sj y) {w : Nat} (hw : w < y.c.n) : sL.arrT y y.c.fb = some y.c.tB /\ sL.arr y y.c.fb = Array.replicate y.c.n (.bool false) /\ (sL.arr y y.c.fb)[w]? = some (.bool false) := by
  have e : y.c.fb ≠ y.c.pb := fun z => hJ.ad.2.1 z.symm
  have e2 : y.c.fb ≠ y.c.qb := fun z => hJ.ad.2.2 z.symm
  have e3 : sL.arr y y.c.fb = Array.replicate y.c.n (.bool false) := by
    show (if y.c.fb = y.c.pb then _ else if y.c.fb = y.c.qb then _ else _ : Array Value) = _
    rw [if_neg e, if_neg e2]
  refine ⟨by show (if y.c.fb = y.c.pb then some y.c.tS else if y.c.fb = y.c.qb then some y.c.tS else if y.c.fb = y.c.fb then some y.c.tB else none) = _; rw [if_neg e, if_neg e2, if_pos rfl], e3, by rw [e3, Array.getElem?_replicate, if_pos hw]⟩
theorem sfall_move {y : Sy} {i : Nat} (hJ : Sj y) (hi0 : 0 < i) (hi : i <= y.c.n) : AMove sL i y.c.fb (i - 1) (.bool false) y y := by
  refine ⟨Stt.refl _ _, fun j _ => sL_ok.refl _ _, Nat.le_refl _, rfl, fun _ _ => rfl, ?_, hJ, fun _ _ _ h => h⟩
  rw [(sarr_f hJ (w := i - 1) (by omega)).2.1]
  apply Array.ext_getElem?
  intro x
  rw [Array.getElem?_setIfInBounds]
  by_cases e : i - 1 = x
  · subst e; rw [if_pos rfl, Array.getElem?_replicate]; simp
  · rw [if_neg e]
set_option maxHeartbeats 4000000 in
theorem sbody_ok {h : Hp} {c : Sc} {q : Kw} {y₀ : Sy} {fB : Nat} {ib : Nat -> Nat} (hc : y₀.c = c) (hn : c.n <= 8) (hm100 : c.m <= 100) (hN : c.N <= 60000) (m : KW c q h) (r : KWro c q) (hfb : c.fb = h.size) (htop : c.top = h.size + 3) (hrt : ∀ b, c.ro b -> b < c.top)
    (hF : hcell h ⟨fB, 0, none⟩ = some (.func (.func 12) #[] q.caps)) (hFr : c.ro fB) (hI : ∀ k, k < c.n -> hcell h ⟨ib k, 0, none⟩ = some (.int .i64 k) /\ c.ro (ib k))
    (ho : ∀ k, k < c.n -> OwnS (k + 1) c none none 0 [] [] (43 * c.m) (.slice none 0 0) (.slice none 0 0) y₀) :
    BodyOk sL y₀ h c.n (fun _ => 58) (fun k => #[.pointer (some ⟨fB, 0, none⟩), .pointer (some ⟨ib k, 0, none⟩)]) := by
  intro k hk h' γ₂ ti hti0 hti hro hrel hJ hA hwg
  have hm : ∀ b o v, c.ro b -> hcell h ⟨b, o, none⟩ = some v -> hcell h' ⟨b, o, none⟩ = some v := fun b o v hb hv => by
    obtain ⟨cs, e, f, h1, h3, h4⟩ := hcell_some hv
    exact hcell_of (hro b _ (by show y₀.c.ro b; rw [hc]; exact hb) (frH_old h1)) h4
  have m' := m.move r hm
  have oo := (ho k hk).rel (Nat.succ_pos k) hrel
  have kF := hm _ _ _ hFr hF
  have kI := hm _ _ _ (hI k hk).2 (hI k hk).1
  have hsz : ti < h'.size := by
    obtain ⟨_, _, _, h1, _⟩ := hcell_some hti
    exact lt_of_get h1
  clear hro hm
  refine CallW.start (n := 7) rfl rfl ?_
  (repeat (first | refine EK.seq ?_ | refine EK.region ?_ | refine ER.done ?_ | refine EK.skip ?_ | refine EK.block ?_ | refine EK.inBlock ?_ | refine ER.move rfl rfl rfl ?_ | refine ER.assign rfl rfl rfl ?_ | refine ER.nilCheck rfl rfl rfl ?_ | refine ER.fieldAddr rfl rfl rfl ?_ | refine ER.load1 rfl rfl rfl (hcell_of (by assumption) rfl) ?_ | refine ER.no rfl rfl ?_ | refine ER.noU rfl ?_ | refine ER.eqV rfl rfl rfl rfl rfl ?_ | refine ER.neqV rfl rfl rfl rfl rfl ?_ | refine ER.eqA rfl rfl rfl rfl rfl ?_ | refine ER.neqA rfl rfl rfl rfl rfl ?_ | refine ER.notB rfl rfl rfl ?_ | refine ER.pickT rfl rfl rfl rfl ?_ | refine ER.pickF rfl rfl rfl rfl ?_ | refine ER.extract rfl rfl rfl rfl ?_ | refine ER.cmpT rfl rfl rfl rfl rfl (by first | (dsimp only [cmpP]; omega) | exact rfl | exact Int.le_refl _) ?_ | refine ER.cmpF rfl rfl rfl rfl rfl (by first | (dsimp only [cmpP]; omega) | exact rfl | exact Int.le_refl _) ?_ | refine ER.boxA rfl rfl rfl ?_ | refine ER.box rfl rfl rfl ?_ | refine ER.allocA rfl rfl ?_ | refine ER.alloc rfl rfl ?_ | refine ER.add (kd := .i64) rfl rfl rfl rfl (i64_in (by omega) (by omega)) ?_ | refine ER.sub' (kd := .i64) rfl rfl rfl rfl (i64_in (by omega) (by omega)) ?_ | refine ER.mul (kd := .i64) rfl rfl rfl rfl (i64_in (by omega) (by omega)) ?_ | refine ER.rem (kd := .i64) rfl rfl rfl rfl (by decide) rfl ?_ | refine ER.indexArr rfl rfl rfl rfl (by omega) (by omega) ?_ | refine ER.len1 rfl rfl rfl ?_ | refine ER.indexSl rfl rfl rfl rfl (by omega) (by omega) ?_ | refine EK.condT rfl ?_ | refine EK.condF rfl ?_ | refine EK.ret ?_ | refine EK.exit rfl ?_ | refine ER.load1 rfl rfl rfl (by assumption) ?_ | refine EK.scope ?_ | refine EK.inScope ?_ | refine EK.label ?_))
  refine ER.callR rfl rfl rfl rfl rfl (sworker_ok (δ := ⟨0, γ₂⟩) (i := k + 1) hA hk hn hm100 hN m' (by omega) hrt oo) ?_
  rintro v h2 ⟨d2, γ⟩ ⟨w, pu, po, bd, sp, sq, W⟩
  have e2 := W.d
  have w2 := W.wg
  have a2 := W.a
  have o2 := W.o
  simp only at e2 w2 a2 o2
  refine ER.done (EK.done (EU.ret0 rfl ⟨e2, w2.trans hwg, a2, hcell_same (W.u.same _ (by omega) fun z => z), hcell_same (W.u.same _ (by omega) fun z => z), fun y₁ q1 j1 => ?_⟩))
  have o3 := o2.rel (Nat.succ_pos k) q1
  have f3 := sarr_f j1 (w := k) (by rw [o3.cc]; exact hk)
  have f4 := sfall_move (i := k + 1) j1 (Nat.succ_pos k) (by rw [o3.cc]; exact hk)
  rw [o3.cc, hfb] at f3 f4
  refine ⟨_, _, y₁, f3.1, f3.2.2, ⟨.inr (.inr (by rw [o3.cc, hfb])), Nat.succ_pos k, rfl⟩, f4, fun y₃ q3 j3 => ?_⟩
  have o4 := o3.rel (Nat.succ_pos k) q3
  have hb : c.top <= h'.size := by omega
  refine fun _ => ⟨o4.hn, by rw [o4.pu]; exact W.nd, fun z hz => ?_, ?_, ?_⟩
  · rw [o4.pu] at hz
    rw [o4.cc]
    exact W.rg z hz
  · rw [o4.sp, o4.pu, o4.cc]
    exact rd_of W.s1 fun b hb' => Nat.le_trans hb (W.b1 b hb')
  · rw [o4.sq, o4.po, o4.cc]
    exact rd_of W.s2 fun b hb' => Nat.le_trans hb (W.b2 b hb')
end
section
open Go Go.TJ Go.Proofs
variable [Dm]
def Ke.caps (q : Ke) : Array Value := #[.pointer (some ⟨q.vN, 0, none⟩), .pointer (some ⟨q.vM, 0, none⟩), .pointer (some ⟨q.vD, 0, none⟩), .pointer (some ⟨q.vL, 0, none⟩), .pointer (some ⟨q.vE, 0, none⟩)]
structure KEro (c : Dc) (q : Ke) : Prop where
  N : c.ro q.vN
  M : c.ro q.vM
  D : c.ro q.vD
  L : c.ro q.vL
  E : c.ro q.vE
  s : c.ro q.sb
  r : c.ro q.rb
theorem KE.move {c : Dc} {q : Ke} {h h' : Hp} (m : KE c q h) (r : KEro c q) (hm : ∀ b o v, c.ro b -> hcell h ⟨b, o, none⟩ = some v -> hcell h' ⟨b, o, none⟩ = some v) : KE c q h' where
  N := hm _ _ _ r.N m.N
  M := hm _ _ _ r.M m.M
  D := hm _ _ _ r.D m.D
  L := hm _ _ _ r.L m.L
  E := hm _ _ _ r.E m.E
  K := ⟨hm _ _ _ r.s m.K.t, hm _ _ _ r.s m.K.b, hm _ _ _ r.s m.K.s, fun k hk => hm _ _ _ r.r (m.K.r k hk)⟩
theorem darr_f {y : Dy} (hJ : Dj y) {w : Nat} (hw : w < y.c.n + 1) : dL.arrT y y.c.fb = some y.c.tB /\ dL.arr y y.c.fb = Array.replicate (y.c.n + 1) (.bool false) /\ (dL.arr y y.c.fb)[w]? = some (.bool false) := by
  have e : y.c.fb ≠ y.c.pb := fun z => hJ.ad z.symm
  have e3 : dL.arr y y.c.fb = Array.replicate (y.c.n + 1) (.bool false) := by
    show (if y.c.fb = y.c.pb then _ else _ : Array Value) = _
    rw [if_neg e]
  refine ⟨by show (if y.c.fb = y.c.pb then some y.c.tS else if y.c.fb = y.c.fb then some y.c.tB else none) = _; rw [if_neg e, if_pos rfl], e3, by rw [e3, Array.getElem?_replicate, if_pos hw]⟩
theorem dfall_move {y : Dy} {i : Nat} (hJ : Dj y) (hi0 : 0 < i) (hi : i <= y.c.n + 1) : AMove dL i y.c.fb (i - 1) (.bool false) y y := by
  refine ⟨Stt.refl _ _, fun j _ => dL_ok.refl _ _, Nat.le_refl _, rfl, fun _ _ => rfl, ?_, hJ, fun _ _ _ h => h⟩
  rw [(darr_f hJ (w := i - 1) (by omega)).2.1]
  apply Array.ext_getElem?
  intro x
  rw [Array.getElem?_setIfInBounds]
  by_cases e : i - 1 = x
  · subst e; rw [if_pos rfl, Array.getElem?_replicate]; simp
  · rw [if_neg e]
set_option maxHeartbeats 4000000 in
theorem dbody_ok {h : Hp} {c : Dc} {q : Ke} {y₀ : Dy} {fB : Nat} {ib : Nat -> Nat} (hc : y₀.c = c) (hn7 : c.n <= 7) (hm1 : c.m <= 1000) (hL : c.L = 2 ^ c.e) (he : 1 <= c.e /\ c.e <= 12) (m : KE c q h) (r : KEro c q) (hfb : c.fb = h.size) (htop : c.top = h.size + 3) (hrt : ∀ b, c.ro b -> b < c.top)
    (hF : hcell h ⟨fB, 0, none⟩ = some (.func (.func 19) #[] q.caps)) (hFr : c.ro fB) (hI : ∀ k, k < c.n + 1 -> hcell h ⟨ib k, 0, none⟩ = some (.int .i64 k) /\ c.ro (ib k))
    (ho : ∀ k, k < c.n + 1 -> OwnD (k + 1) c [] (if k = c.n then 8 * c.m + 3007 else 1000) (.slice none 0 0) y₀) (oo : OwnO c 0 0 0 y₀) :
    BodyOk dL y₀ h (c.n + 1) (fun _ => 62) (fun k => #[.pointer (some ⟨fB, 0, none⟩), .pointer (some ⟨ib k, 0, none⟩)]) := by
  intro k hk h' γ₂ ti hti0 hti hro hrel hJ hA hwg
  have hm : ∀ b o v, c.ro b -> hcell h ⟨b, o, none⟩ = some v -> hcell h' ⟨b, o, none⟩ = some v := fun b o v hb hv => by
    obtain ⟨cs, e, f, h1, h3, h4⟩ := hcell_some hv
    exact hcell_of (hro b _ (by show y₀.c.ro b; rw [hc]; exact hb) (frH_old h1)) h4
  have m' := m.move r hm
  have od := (ho k hk).rel (Nat.succ_pos k) hrel
  have kF := hm _ _ _ hFr hF
  have kI := hm _ _ _ (hI k hk).2 (hI k hk).1
  have hsz : ti < h'.size := by
    obtain ⟨_, _, _, h1, _⟩ := hcell_some hti
    exact lt_of_get h1
  have hw : CallW Try.prog false (SitW Try.prog (XF TT dL) (k + 1)) 19 #[.int .i64 k, .pointer (some ⟨q.vN, 0, none⟩), .pointer (some ⟨q.vM, 0, none⟩), .pointer (some ⟨q.vD, 0, none⟩), .pointer (some ⟨q.vL, 0, none⟩), .pointer (some ⟨q.vE, 0, none⟩)] h' ⟨0, γ₂⟩ (Ret (WQd (k + 1) c h' 0 γ₂.wg)) := by
    by_cases e : k = c.n
    · rw [if_pos e] at od
      exact owner_ok (δ := ⟨0, γ₂⟩) (i := k + 1) hA (by omega) hn7 hm1 hL he m' (by omega) hrt od (oo.rel (i := k + 1) hc (by omega) hrel)
    · rw [if_neg e] at od
      exact thief_ok (δ := ⟨0, γ₂⟩) (i := k + 1) hA (by omega) hn7 hL he m' (by omega) hrt od
  clear hro hm
  refine CallW.start (n := 7) rfl rfl ?_
  (repeat (first | refine EK.seq ?_ | refine EK.region ?_ | refine ER.done ?_ | refine EK.skip ?_ | refine EK.block ?_ | refine EK.inBlock ?_ | refine ER.move rfl rfl rfl ?_ | refine ER.assign rfl rfl rfl ?_ | refine ER.nilCheck rfl rfl rfl ?_ | refine ER.fieldAddr rfl rfl rfl ?_ | refine ER.load1 rfl rfl rfl (hcell_of (by assumption) rfl) ?_ | refine ER.no rfl rfl ?_ | refine ER.noU rfl ?_ | refine ER.eqV rfl rfl rfl rfl rfl ?_ | refine ER.neqV rfl rfl rfl rfl rfl ?_ | refine ER.eqA rfl rfl rfl rfl rfl ?_ | refine ER.neqA rfl rfl rfl rfl rfl ?_ | refine ER.notB rfl rfl rfl ?_ | refine ER.pickT rfl rfl rfl rfl ?_ | refine ER.pickF rfl rfl rfl rfl ?_ | refine ER.extract rfl rfl rfl rfl ?_ | refine ER.cmpT rfl rfl rfl rfl rfl (by first | (dsimp only [cmpP]; omega) | exact rfl | exact Int.le_refl _) ?_ | refine ER.cmpF rfl rfl rfl rfl rfl (by first | (dsimp only [cmpP]; omega) | exact rfl | exact Int.le_refl _) ?_ | refine ER.boxA rfl rfl rfl ?_ | refine ER.box rfl rfl rfl ?_ | refine ER.allocA rfl rfl ?_ | refine ER.alloc rfl rfl ?_ | refine ER.add (kd := .i64) rfl rfl rfl rfl (i64_in (by omega) (by omega)) ?_ | refine ER.sub' (kd := .i64) rfl rfl rfl rfl (i64_in (by omega) (by omega)) ?_ | refine ER.mul (kd := .i64) rfl rfl rfl rfl (i64_in (by omega) (by omega)) ?_ | refine ER.rem (kd := .i64) rfl rfl rfl rfl (by decide) rfl ?_ | refine ER.indexArr rfl rfl rfl rfl (by omega) (by omega) ?_ | refine ER.len1 rfl rfl rfl ?_ | refine ER.indexSl rfl rfl rfl rfl (by omega) (by omega) ?_ | refine EK.condT rfl ?_ | refine EK.condF rfl ?_ | refine EK.ret ?_ | refine EK.exit rfl ?_ | refine ER.load1 rfl rfl rfl (by assumption) ?_ | refine EK.scope ?_ | refine EK.inScope ?_ | refine EK.label ?_))
  refine ER.callR rfl rfl rfl rfl rfl hw ?_
  rintro v h2 ⟨d2, γ⟩ ⟨po, bd, sq, W, hO⟩
  have e2 := W.d
  have w2 := W.wg
  have a2 := W.a
  have o2 := W.o
  simp only at e2 w2 a2 o2 hO
  refine ER.done (EK.done (EU.ret0 rfl ⟨e2, w2.trans hwg, a2, hcell_same (W.u.same _ (by omega) fun z => z), hcell_same (W.u.same _ (by omega) fun z => z), fun y₁ q1 j1 => ?_⟩))
  have o3 := o2.rel (Nat.succ_pos k) q1
  have f3 := darr_f j1 (w := k) (by rw [o3.cc]; exact hk)
  have f4 := dfall_move (i := k + 1) j1 (Nat.succ_pos k) (by rw [o3.cc]; exact hk)
  rw [o3.cc, hfb] at f3 f4
  refine ⟨_, _, y₁, f3.1, f3.2.2, ⟨.inr (by rw [o3.cc, hfb]), Nat.succ_pos k, rfl⟩, f4, fun y₃ q3 j3 => ?_⟩
  have o4 := o3.rel (Nat.succ_pos k) q3
  have hb : c.top <= h'.size := by omega
  refine fun _ => ⟨?_, fun e => ?_⟩
  · rw [o4.sq, o4.po, o4.cc]
    exact rd_of W.s fun b hb' => Nat.le_trans hb (W.b b hb')
  · rw [o4.cc] at e ⊢
    obtain ⟨bt, oo1, ht⟩ := hO e
    have oo2 := (oo1.rel o2.cc e q1).rel o3.cc e q3
    have h1 : γ.y.tp <= y₁.tp := (show Dr (k + 1) _ y₁ from q1.law).tp
    have h2 : y₁.tp <= y₃.tp := (show Dr (k + 1) _ y₃ from q3.law).tp
    have h3 := j3.r1
    have h4 := oo2.bt
    exact ⟨by omega, oo2.ow, oo2.np⟩
end
section
open Go Go.TJ Go.Proofs
variable [Dm]
variable {Y : Type} {L : Law Y}
set_option maxHeartbeats 8000000 in
theorem all07_ok {n : Nat} {fb : FuncId} {caps : Array Value} {h : Hp} {γ₀ : Gf Y} {R : Value -> Hp -> Ix (Gf Y) -> Prop} (hst : γ₀.st = 0) (hnum : γ₀.num = 1) (hn0 : 0 < n) (hn : n <= 64)
    (hgo : ∀ (h' : Hp) (B cap fB : Nat) (ib : Nat -> Nat), Upd (fun _ => False) h h' -> h.size <= fB -> h'[fB]? = some (.cells #[.func (.func fb) #[] caps] 34 (0, 0)) -> (∀ k, k < n -> h.size <= ib k /\ h'[ib k]? = some (.cells #[.int .i64 k] 3 (0, 0))) -> h.size <= B -> (∀ k, k < n -> hcell h' ⟨B, k, none⟩ = some (.func (.func 62) #[] #[.pointer (some ⟨fB, 0, none⟩), .pointer (some ⟨ib k, 0, none⟩)])) ->
      CallW Try.prog true (SitM Try.prog (XF TT L)) 49 #[.slice (some ⟨B, 0, none⟩) n cap] h' ⟨0, γ₀⟩ (Ret R)) :
    CallW Try.prog true (SitM Try.prog (XF TT L)) 18 #[.int .i64 n, .func (.func fb) #[] caps] h ⟨0, γ₀⟩ (Ret fun _ h' δ' => ∃ v, R v h' δ') := by
  have hlo : (SitM Try.prog (XF TT L)).lone γ₀ := ⟨by omega, fun j j0 hj => by have hj' : j < γ₀.num := hj; omega⟩
  have hsl : ∀ a, ¬ (SitM Try.prog (XF TT L)).still γ₀ a := fun a z => by have : γ₀.st = 1 := z.1; omega
  refine CallW.start (n := 18) rfl rfl ?_
  (repeat (first | refine EK.seq ?_ | refine EK.region ?_ | refine ER.done ?_ | refine ER.assign rfl rfl rfl ?_ | refine ER.box rfl rfl rfl ?_ | refine ER.alloc rfl rfl ?_))
  obtain ⟨u1, s1, k0, k1⟩ := push2 h (.cells #[.func (.func fb) #[] caps] 34 (0, 0)) (.cells #[.int .i64 0] 3 (0, 0))
  refine ER.storeNew rfl rfl rfl rfl (by simp [OneCell]) (hsl _) ?_
  (repeat (first | refine ER.done ?_ | refine EK.block ?_))
  refine EK.gen (fun h2 => Upd (fun _ => False) h h2 /\ h2[h.size]? = some (.cells #[.func (.func fb) #[] caps] 34 (0, 0)) /\ h2[h.size + 1]? = some (.cells #[.int .i64 0] 3 (0, 0))) ⟨u1, k0, k1⟩ ?_
  rintro h2 ⟨u1, k0, k1⟩
  clear s1
  have hszp : (h.push (.cells #[.func (.func fb) #[] caps] 34 (0, 0))).size = h.size + 1 := by simp
  refine EK.loopInv (fun s : Nat × Value × Nat × (Nat -> Nat) => [(4, s.2.1), (5, .pointer (some ⟨s.2.2.1, 0, none⟩)), (3, .pointer (some ⟨h.size, 0, none⟩)), (0, .int .i64 n)])
    (fun s h' δ' => δ' = ⟨0, γ₀⟩ /\ s.1 <= n /\ Upd (fun _ => False) h h' /\ h'[h.size]? = some (.cells #[.func (.func fb) #[] caps] 34 (0, 0)) /\ h.size <= s.2.2.1 /\ h'[s.2.2.1]? = some (.cells #[.int .i64 s.1] 3 (0, 0)) /\
      SliceO h' s.2.1 76 1 s.1 ((List.range s.1).map fun k => .func (.func 62) #[] #[.pointer (some ⟨h.size, 0, none⟩), .pointer (some ⟨s.2.2.2 k, 0, none⟩)]) /\ (∀ b, blk s.2.1 = some b -> h.size <= b) /\
      ∀ k, k < s.1 -> h.size <= s.2.2.2 k /\ s.2.2.2 k ≠ s.2.2.1 /\ h'[s.2.2.2 k]? = some (.cells #[.int .i64 k] 3 (0, 0)))
    (fun s => n - s.1) (0, .slice none 0 0, h.size + 1, fun _ => 0) ⟨rfl, congrArg (fun z => some (Value.pointer (some ⟨z, 0, none⟩))) hszp, rfl, rfl, trivial⟩ ⟨rfl, Nat.zero_le _, u1, k0, by dsimp only; omega, k1, SliceO.nil, fun b hb => by (cases hb), fun k hk => absurd hk (Nat.not_lt_zero _)⟩ ?_
  clear u1 k0 k1 h2 hszp
  rintro ⟨k, s, cb, ib⟩ h2 δ2 ⟨rfl, hk, u2, kF, hcb, kc, sl, hab, hib⟩ again
  dsimp only at hk u2 kF hcb kc sl hab hib again ⊢
  rcases Nat.lt_or_ge k n with hlt | hge
  · (repeat (first | refine EK.seq ?_ | refine EK.region ?_ | refine ER.done ?_ | refine EK.skip ?_ | refine EK.block ?_ | refine ER.move rfl rfl rfl ?_ | refine ER.load1 rfl rfl rfl (hcell_of (by assumption) rfl) ?_ | refine ER.cmpT rfl rfl rfl rfl rfl (by first | (dsimp only [cmpP]; omega) | exact rfl | exact Int.le_refl _) ?_ | refine EK.condT rfl ?_))
    refine ER.makeF rfl rfl rfl rfl rfl rfl ?_
    refine ER.slice1 (sz := 1) (z := .nilFunc) (cells := #[.func (.func 62) #[] #[.pointer (some ⟨h.size, 0, none⟩), .pointer (some ⟨cb, 0, none⟩)]]) rfl rfl rfl (by omega) (by omega) rfl rfl ?_
    refine ER.append1 (new := [.func (.func 62) #[] #[.pointer (some ⟨h.size, 0, none⟩), .pointer (some ⟨cb, 0, none⟩)]]) rfl rfl rfl rfl (sl.upd (Upd.push (T := fun _ => False) h2 _) (fun _ _ x => x)) (get_push_new _ _) rfl (by simp [OneCell]) (by omega) (by omega) (by rfl) (fun b o hb => hsl _) ?_
    intro s' h5 sl5 u5 hb5
    have up := Upd.push (T := fun _ => False) h2 (.cells #[.func (.func 62) #[] #[.pointer (some ⟨h.size, 0, none⟩), .pointer (some ⟨cb, 0, none⟩)]] 76)
    have hs0 := u2.size
    have ha5 : ∀ b, blk s' = some b -> h.size <= b := fun b hb => by
      rcases hb5 b hb with z | z
      · exact hab b z
      · rw [z, Array.size_push]; omega
    have hsz5 : h2.size + 1 <= h5.size := by have := u5.size; rwa [Array.size_push] at this
    have uu : Upd (fun _ => False) h h5 := (u2.trans up).over u5 hab
    have mv : ∀ (x : Nat) (t : TypeId) (v : Value), h2[x]? = some (.cells #[v] t (0, 0)) -> 76 ≠ t -> h5[x]? = some (.cells #[v] t (0, 0)) := fun x t v hx ht => u5.get (up.get hx fun z => z) (sl_ne sl hx ht)
    have kF5 := mv _ _ _ kF (by decide)
    have kc5 := mv _ _ _ kc (by decide)
    have hib5 : ∀ j, j < k -> h.size <= ib j /\ ib j ≠ cb /\ ib j < h2.size /\ h5[ib j]? = some (.cells #[.int .i64 j] 3 (0, 0)) := fun j hj => ⟨(hib j hj).1, (hib j hj).2.1, (Array.getElem?_eq_some_iff.1 (hib j hj).2.2).1, mv _ _ _ (hib j hj).2.2 (by decide)⟩
    have hcb2 : cb < h2.size := (Array.getElem?_eq_some_iff.1 kc).1
    have hF2 : h.size < h2.size := (Array.getElem?_eq_some_iff.1 kF).1
    clear mv up u5 hb5 hib kF kc sl hab u2
    (repeat (first | refine EK.seq ?_ | refine EK.region ?_ | refine ER.done ?_ | refine EK.inBlock ?_ | refine ER.assign rfl rfl rfl ?_ | refine ER.load1 rfl rfl rfl (hcell_of (by assumption) rfl) ?_ | refine ER.alloc rfl rfl ?_))
    refine ER.storeNew rfl rfl rfl rfl (by simp [OneCell]) (hsl _) ?_
    refine ER.gen (fun h6 => Upd (fun _ => False) h5 h6 /\ h6[h5.size]? = some (.cells #[.int .i64 k] 3 (0, 0))) ⟨Upd.push _ _, get_push_new _ _⟩ ?_
    rintro h6 ⟨u6, n6⟩
    (repeat (first | refine EK.region ?_ | refine ER.done ?_ | refine ER.load1 rfl rfl rfl (hcell_of (by assumption) rfl) ?_ | refine ER.add (kd := .i64) rfl rfl rfl rfl (i64_in (by omega) (by omega)) ?_))
    refine ER.store1 rfl rfl rfl (by simp [OneCell]) ⟨_, hcell_of n6 rfl⟩ (hfroz_of n6) (hsl _) ?_
    have n7 : (hset h6 ⟨h5.size, 0, none⟩ (.int .i64 ((k : Int) + 1)))[h5.size]? = some (.cells #[.int .i64 ((k : Int) + 1)] 3 (0, 0)) := by rw [hset_get, if_pos rfl, n6]; rfl
    have u7 : Upd (fun b => b = h5.size) h6 (hset h6 ⟨h5.size, 0, none⟩ (.int .i64 ((k : Int) + 1))) := Upd.hset _ _ _ rfl
    generalize hset h6 ⟨h5.size, 0, none⟩ (.int .i64 ((k : Int) + 1)) = h7 at n7 u7 ⊢
    have mv : ∀ (x : Nat) (o : Obj), x < h5.size -> h5[x]? = some o -> h7[x]? = some o := fun x o hx ho => u7.get (u6.get ho fun z => z) (by omega)
    (repeat refine ER.done ?_)
    refine EK.back (again (k + 1, s', h5.size, fun j => if j = k then cb else ib j) _ _ (by dsimp only; omega) ⟨rfl, hlt, (uu.trans u6).over u7 (fun b hb => by omega), mv _ _ (by omega) kF5, by dsimp only; omega, n7, ?_, ha5, fun j hj => ?_⟩) ⟨rfl, rfl, rfl, rfl, trivial⟩
    · have := (sl5.upd u6 (fun _ _ z => z)).upd u7 fun b hb => by have := sl5.lt hb; omega
      dsimp only
      rw [List.range_succ, List.map_append, List.map_singleton, if_pos rfl]
      have e : ((List.range k).map fun j => Value.func (.func 62) #[] #[.pointer (some ⟨h.size, 0, none⟩), .pointer (some ⟨if j = k then cb else ib j, 0, none⟩)]) = ((List.range k).map fun j => Value.func (.func 62) #[] #[.pointer (some ⟨h.size, 0, none⟩), .pointer (some ⟨ib j, 0, none⟩)]) := List.map_congr_left fun j hj => by
        have := List.mem_range.1 hj
        rw [if_neg (by omega)]
      rw [e]
      exact this
    · dsimp only
      by_cases e : j = k
      · subst e
        rw [if_pos rfl]
        exact ⟨hcb, by omega, mv _ _ (by omega) kc5⟩
      · rw [if_neg e]
        obtain ⟨i1, i2, i3, i4⟩ := hib5 j (by dsimp only at hj; omega)
        exact ⟨i1, by omega, mv _ _ (by omega) i4⟩
  · obtain rfl : k = n := by omega
    clear again
    obtain ⟨hl, ⟨_, hz⟩ | ⟨B, cap, rest, rfl, c1, c2, c3⟩⟩ := sl
    · omega
    (repeat (first | refine EK.seq ?_ | refine EK.region ?_ | refine ER.done ?_ | refine ER.move rfl rfl rfl ?_ | refine ER.load1 rfl rfl rfl (hcell_of (by assumption) rfl) ?_ | refine ER.cmpF rfl rfl rfl rfl rfl (by first | (dsimp only [cmpP]; omega) | exact rfl | exact Int.le_refl _) ?_ | refine EK.condF rfl ?_ | refine EK.exit rfl ?_))
    refine ER.callR rfl rfl rfl rfl rfl (hgo h2 B cap h.size ib u2 (Nat.le_refl _) kF (fun j hj => ⟨(hib j hj).1, (hib j hj).2.2⟩) (hab B rfl) fun j hj => hcell_of c3 ?_) ?_
    · rw [List.getElem?_toArray, List.getElem?_append_left (by rw [hl]; omega), List.getElem?_map, List.getElem?_range hj]
      rfl
    · intro v h' δ' hr
      refine ER.done (EK.done (EU.ret0 rfl ⟨v, hr⟩))
end
section
open Go Go.TJ Go.Proofs
variable [Dm]
variable {Y : Type} {L : Law Y}
end
section
open Go Go.TJ Go.Proofs
variable [Dm]
structure Kq where
  vA : Nat
  vN : Nat
  vC : Nat
  vP : Nat
  vR : Nat
  vT : Nat
  vH : Nat
  cb : Nat
  sb : Nat
  S : Nat
  cap : Nat
  B : Nat -> Nat
  pk : Nat
  tb : Nat
  aS : Option Addr
  kA : Nat
structure Km (c : Cc) (q : Kq) (h : Hp) : Prop where
  A : hcell h ⟨q.vA, 0, none⟩ = some (.slice q.aS c.adds.length q.kA)
  Ai : ∀ k, k < c.adds.length -> ∃ b o, q.aS = some ⟨b, o, none⟩ /\ hcell h ⟨b, o + k * 1, none⟩ = some (.int .i64 (c.adds.getD k 0))
  N : hcell h ⟨q.vN, 0, none⟩ = some (.int .i64 c.n)
  C : hcell h ⟨q.vC, 0, none⟩ = some (.pointer (some ⟨q.cb, 0, none⟩))
  Cb : hcell h ⟨q.cb, 0, none⟩ = some (.slice (some ⟨q.sb, 0, none⟩) q.S q.cap)
  Cs : ∀ j, j < q.S -> hcell h ⟨q.sb, j, none⟩ = some (.pointer (some ⟨q.B j, 0, none⟩)) /\ q.B j ∈ c.sl
  S0 : 0 < q.S
  S1 : q.S <= 1000
  P : hcell h ⟨q.vP, 0, none⟩ = some (.pointer (some ⟨q.pk, 0, none⟩))
  Pk : hcell h ⟨q.pk, 0, none⟩ = some (.pointer (some ⟨c.pb, 0, none⟩))
  R : hcell h ⟨q.vR, 0, none⟩ = some (.slice (some ⟨c.rb, 0, none⟩) c.n c.n)
  T : hcell h ⟨q.vT, 0, none⟩ = some (.pointer (some ⟨q.tb, 0, none⟩))
  T0 : hcell h ⟨q.tb, 0, none⟩ = some (.int .i64 c.tk)
  T1 : hcell h ⟨q.tb, 1, none⟩ = some (.pointer (some ⟨c.lb, 0, none⟩))
  H : hcell h ⟨q.vH, 0, none⟩ = some (.slice (some ⟨c.hb, 0, none⟩) c.n c.n)
section
variable {i : Nat} {c : Cc} {fa fr fa' fr' : Nat -> Bool} {hd : Int} {rs : Bool} {bd : Nat} {ha : Int} {ra : Bool} {y : Cy}
theorem Own.congr (o : Own i c fa fr hd rs bd ha ra y) (h1 : ∀ k, k % c.n = i - 1 -> fa' k = fa k) (h2 : ∀ k, k % c.n = i - 1 -> fr' k = fr k) : Own i c fa' fr' hd rs bd ha ra y :=
  ⟨o.cc, fun k hk => (o.fa k hk).trans (h1 k hk).symm, fun k hk => (o.fr k hk).trans (h2 k hk).symm, o.hd, o.rs, o.bd, o.ha, o.ra⟩
end
section
variable {h : Hp} {δ : Ix (Gf Cy)} {i : Nat} {c : Cc} {q : Kq}
end
end
section
open Go Go.TJ Go.Proofs
variable [Dm]
def Kq.caps (q : Kq) : Array Value := #[.pointer (some ⟨q.vA, 0, none⟩), .pointer (some ⟨q.vN, 0, none⟩), .pointer (some ⟨q.vC, 0, none⟩), .pointer (some ⟨q.vP, 0, none⟩), .pointer (some ⟨q.vR, 0, none⟩), .pointer (some ⟨q.vT, 0, none⟩), .pointer (some ⟨q.vH, 0, none⟩)]
structure Kro (c : Cc) (q : Kq) : Prop where
  A : c.ro q.vA
  Ai : 0 < c.adds.length -> ∀ a, q.aS = some a -> c.ro a.block
  N : c.ro q.vN
  C : c.ro q.vC
  Cb : c.ro q.cb
  Cs : c.ro q.sb
  P : c.ro q.vP
  Pk : c.ro q.pk
  R : c.ro q.vR
  T : c.ro q.vT
  Tb : c.ro q.tb
  H : c.ro q.vH
theorem Km.move {c : Cc} {q : Kq} {h h' : Hp} (m : Km c q h) (r : Kro c q) (hm : ∀ b o v, c.ro b -> hcell h ⟨b, o, none⟩ = some v -> hcell h' ⟨b, o, none⟩ = some v) : Km c q h' where
  A := hm _ _ _ r.A m.A
  Ai k hk := by
    obtain ⟨b, o, h1, h2⟩ := m.Ai k hk
    exact ⟨b, o, h1, hm _ _ _ (r.Ai (by omega) _ h1) h2⟩
  N := hm _ _ _ r.N m.N
  C := hm _ _ _ r.C m.C
  Cb := hm _ _ _ r.Cb m.Cb
  Cs j hj := ⟨hm _ _ _ r.Cs (m.Cs j hj).1, (m.Cs j hj).2⟩
  S0 := m.S0
  S1 := m.S1
  P := hm _ _ _ r.P m.P
  Pk := hm _ _ _ r.Pk m.Pk
  R := hm _ _ _ r.R m.R
  T := hm _ _ _ r.T m.T
  T0 := hm _ _ _ r.Tb m.T0
  T1 := hm _ _ _ r.Tb m.T1
  H := hm _ _ _ r.H m.H
end
section
open Go Go.TJ Go.Proofs
variable [Dm]
def cntM (n cap : Nat) (rest : List Value) (B : Nat -> Nat) (v : Nat -> Int) : Mem Nat := ⟨fun k => k = 0 \/ k = 1 \/ (4 <= k /\ k < 4 + n), B, fun k =>
  if k = 0 then .cells #[.slice (some ⟨B 1, 0, none⟩) n cap] 116 (0, 0)
  else if k = 1 then .cells (((List.range n).map fun j => ptr (B (4 + j))) ++ rest).toArray 40 (0, 0)
  else cellO (v (k - 4))⟩
section
variable {Γ : Type} {main : Bool} {h : Hp} {δ : Ix Γ}
structure RS where
  i : Nat
  M : Mem Nat
  s : Value
end
end
section
open Go Go.TJ Go.Proofs
variable [Dm]
theorem cnt_set {h : Hp} {n cap : Nat} {rest : List Value} {B : Nat -> Nat} {v : Nat -> Int} (r : Rep h (cntM n cap rest B v)) {j : Nat} (hj : j < n) (x : Int) : Rep (h.setIfInBounds (B (4 + j)) (cellO x)) (cntM n cap rest B (ut v j x)) := by
  refine (r.set (k := 4 + j) (.inr (.inr ⟨by omega, by omega⟩)) (cellO x)).congr (fun _ hk => hk) (fun _ _ => rfl) (fun k hk => ?_)
  show (cntM n cap rest B (ut v j x)).O k = ut (cntM n cap rest B v).O (4 + j) (cellO x) k
  by_cases e : k = 4 + j
  · subst e
    rw [ut_same]
    show (if 4 + j = 0 then _ else if 4 + j = 1 then _ else cellO (ut v j x (4 + j - 4))) = _
    rw [if_neg (by omega), if_neg (by omega), show 4 + j - 4 = j by omega, ut_same]
  · rw [ut_ne _ _ e]
    show (if k = 0 then _ else if k = 1 then _ else cellO (ut v j x (k - 4))) = (if k = 0 then _ else if k = 1 then _ else cellO (v (k - 4)))
    by_cases k0 : k = 0
    · rw [if_pos k0, if_pos k0]
    · by_cases k1 : k = 1
      · rw [if_neg k0, if_pos k1, if_neg k0, if_pos k1]
      · have hk' : 4 <= k /\ k < 4 + n := by
          rcases hk with y | y | y
          · exact absurd y k0
          · exact absurd y k1
          · exact y
        rw [if_neg k0, if_neg k1, if_neg k0, if_neg k1, ut_ne _ _ (by omega)]
section
variable {Γ : Type} {main : Bool} {h : Hp} {δ : Ix Γ}
end
end
section
open Go Go.TJ Go.Proofs
variable [Dm]
section
variable {Γ : Type} {main : Bool} {h : Hp} {δ : Ix Γ}
theorem place_ok {x : Int} {n : Nat} (hn : 0 < n) (hn2 : n <= 1000) : CallW Try.prog main NoS 9 #[.int .i64 x, .int .i64 n] h δ (Ret (Det (.int .i64 (x % (n : Int))) h δ)) := by
  have h1 := Int.lt_tmod_of_pos x (b := (n : Int)) (by omega)
  have h2 := Int.tmod_lt_of_pos x (b := (n : Int)) (by omega)
  have e1 : x.tmod n < 0 -> x % (n : Int) = x.tmod n + n := fun hx => by
    have a := Int.mul_tdiv_add_tmod x n
    have b : x % (n : Int) = (x.tmod n + n) % n := by
      rw [Int.add_emod_right]
      conv => lhs; rw [<- a]
      rw [Int.add_comm, Int.add_mul_emod_self_left]
    rw [b, Int.emod_eq_of_lt (by omega) (by omega)]
  have e2 : 0 <= x.tmod n -> x % (n : Int) = x.tmod n := fun hx => by
    have a := Int.mul_tdiv_add_tmod x n
    have b : x % (n : Int) = (x.tmod n) % n := by
      conv => lhs; rw [<- a]
      rw [Int.add_comm, Int.add_mul_emod_self_left]
    rw [b, Int.emod_eq_of_lt (by omega) (by omega)]
  refine CallW.start (n := 15) rfl rfl ?_
  (repeat (first | refine EK.seq ?_ | refine EK.region ?_ | refine ER.done ?_ | refine ER.move rfl rfl rfl ?_ | refine ER.assign rfl rfl rfl ?_))
  refine ER.rem (kd := .i64) rfl rfl rfl rfl (by omega) rfl ?_
  generalize x.tmod (n : Int) = r at h1 h2 e1 e2 ⊢
  rcases Int.lt_or_le r 0 with y | y
  · (repeat (first | refine EK.seq ?_ | refine EK.region ?_ | refine ER.done ?_ | refine ER.move rfl rfl rfl ?_ | refine ER.assign rfl rfl rfl ?_ | refine ER.cmpT rfl rfl rfl rfl rfl (by first | (dsimp only [cmpP]; omega) | exact rfl | exact Int.le_refl _) ?_ | refine ER.add (kd := .i64) rfl rfl rfl rfl (i64_in (by omega) (by omega)) ?_ | refine EK.condT rfl ?_ | refine EK.ret ?_))
    exact EU.ret1 rfl rfl ⟨by rw [e1 y], rfl, rfl⟩
  · (repeat (first | refine EK.seq ?_ | refine EK.region ?_ | refine ER.done ?_ | refine EK.skip ?_ | refine ER.move rfl rfl rfl ?_ | refine ER.assign rfl rfl rfl ?_ | refine ER.cmpF rfl rfl rfl rfl rfl (by first | (dsimp only [cmpP]; omega) | exact rfl | exact Int.le_refl _) ?_ | refine EK.condF rfl ?_ | refine EK.ret ?_))
    exact EU.ret1 rfl rfl ⟨by rw [e2 y], rfl, rfl⟩
end
end
section
open Go Go.TJ Go.Proofs
variable [Dm]
def stk0 (N k : Nat) : Int := if k = 2 then 0 else if k = 3 then 1 else if k % 2 = 0 then (((k - 4) / 2 + 1) % (N + 1) : Nat) else 0
structure Sd where
  n : Nat
  m : Nat
  N : Nat
  B : Nat -> Nat
  idx : Nat -> Nat
  vM : Nat
  vS : Nat
  vP : Nat
  vQ : Nat
  pb : Nat
  qb : Nat
def nilSl : Value := .slice none 0 0
structure Sst (h : Hp) (x : Sd) (h' : Hp) : Prop where
  u : Upd (fun _ => False) h h'
  M : h'[x.vM]? = some (.cells #[.int .i64 x.m] 3 (0, 0))
  S : h'[x.vS]? = some (.cells #[.pointer (some ⟨x.B 0, 0, none⟩)] 24 (0, 0))
  r : Rep h' (stkM x.N x.B (stk0 x.N))
  bl : ∀ k, k < 6 + 2 * x.N -> h.size <= x.B k
  bi : ∀ k, x.idx (x.B k) = k
  P : h'[x.vP]? = some (.cells #[.slice (some ⟨x.pb, 0, none⟩) x.n x.n] 28 (0, 0))
  pb : h'[x.pb]? = some (.cells (List.replicate x.n nilSl).toArray 31 (0, 0))
  Q : h'[x.vQ]? = some (.cells #[.slice (some ⟨x.qb, 0, none⟩) (x.n + 1) (x.n + 1)] 28 (0, 0))
  qb : h'[x.qb]? = some (.cells (List.replicate (x.n + 1) nilSl).toArray 31 (0, 0))
  pl : h.size <= x.pb
  ql : h.size <= x.qb
  pq : x.pb ≠ x.qb
  vql : h.size <= x.vQ
  n1 : 1 <= x.n
  n8 : x.n <= 8
  m1 : x.m <= 100
  N1 : 1 <= x.N
  N2 : x.N <= 256
theorem Sst.upd {h h1 h2 : Hp} {x : Sd} (k : Sst h x h1) (u : Upd (fun _ => False) h1 h2) : Sst h x h2 where
  u := k.u.trans u
  M := u.get k.M fun z => z
  S := u.get k.S fun z => z
  r := k.r.upd0 u
  bl := k.bl
  bi := k.bi
  P := u.get k.P fun z => z
  pb := u.get k.pb fun z => z
  Q := u.get k.Q fun z => z
  qb := u.get k.qb fun z => z
  pl := k.pl
  ql := k.ql
  pq := k.pq
  vql := k.vql
  n1 := k.n1
  n8 := k.n8
  m1 := k.m1
  N1 := k.N1
  N2 := k.N2
theorem Sst.inj {h h1 : Hp} {x : Sd} (k : Sst h x h1) : ∀ i j, x.B i = x.B j -> i = j := fun i j e => by
  have h1 := k.bi i
  rw [e, k.bi j] at h1
  exact h1.symm
def Sd.cl (x : Sd) : List Nat := (List.range (2 * x.N + 4)).map fun j => x.B (j + 2)
def kSc (x : Sd) (hF : Hp) : Sc where
  n := x.n
  m := x.m
  N := x.N
  K := ((nsum (x.n + 1) fun _ => 43 * x.m : Nat) : Int)
  B := x.B
  pb := x.pb
  qb := x.qb
  fb := hF.size
  top := hF.size + 3
  tS := 31
  tB := 4
  ro b := b < hF.size + 2 /\ b ∉ x.cl /\ b ≠ x.pb /\ b ≠ x.qb /\ b ≠ hF.size /\ ∃ c e f, (frH hF x.n)[b]? = some (.cells c e f) /\ Pres (frH hF x.n) b
def sY (x : Sd) (c : Sc) : Sy := ⟨c, fun b => stk0 x.N (x.idx b), fun _ => 0, fun X => if X = 3 then List.range' 1 x.N else [], fun _ => none, fun _ => none, fun _ => 43 * c.m, fun _ => [], fun _ => [], fun _ => nilSl, fun _ => nilSl⟩
def Sd.q (x : Sd) : Kw := ⟨x.vM, x.vS, x.vP, x.vQ, x.B 0, x.B 1⟩
theorem nsum_const (a : Nat) : ∀ n : Nat, nsum n (fun _ => a) = n * a
  | 0 => by simp [nsum]
  | n + 1 => by rw [nsum, nsum_const a n, Nat.succ_mul]
theorem chn_new {N : Nat} {B : Nat -> Nat} {v : Nat -> Int} (hv : ∀ k, v (B (4 + 2 * k)) = stk0 N (4 + 2 * k)) : ∀ (k a : Nat), 1 <= a -> a + k = N + 1 -> Chn B v (List.range' a k)
  | 0, _, _, _ => trivial
  | k + 1, a, ha, hk => by
    rw [List.range'_succ]
    refine ⟨?_, chn_new hv k (a + 1) (by omega) (by omega)⟩
    rw [hv]
    have e : stk0 N (4 + 2 * a) = (((a + 1) % (N + 1) : Nat) : Int) := by
      unfold stk0
      rw [if_neg (by omega), if_neg (by omega), if_pos (by omega), show (4 + 2 * a - 4) / 2 + 1 = a + 1 by omega]
    rw [e]
    rcases Nat.eq_zero_or_pos k with z | z
    · subst z
      rw [show a + 1 = N + 1 by omega, Nat.mod_self]
      rfl
    · obtain ⟨k', rfl⟩ : ∃ k', k = k' + 1 := ⟨k - 1, by omega⟩
      rw [List.range'_succ, Nat.mod_eq_of_lt (by omega)]
      rfl
section
variable {h hF : Hp} {x : Sd}
theorem Sst.cls (k : Sst h x hF) {b : Nat} (hb : b ∈ x.cl) : h.size <= b /\ b < hF.size /\ hF[b]? = some (cellO (stk0 x.N (x.idx b))) := by
  obtain ⟨j, hj, rfl⟩ := List.mem_map.1 hb
  have hj := List.mem_range.1 hj
  have hc := stk_cell k.r (k := j + 2) (by omega) (by omega) rfl
  exact ⟨k.bl (j + 2) (by omega), lt_of_get hc, by rw [k.bi]; exact hc⟩
theorem Sst.ncls (k : Sst h x hF) {b : Nat} {c : Array Value} {e : TypeId} (hb : hF[b]? = some (.cells c e (0, 0))) (he : e ≠ 109) : b ∉ x.cl := fun hm => by
  obtain ⟨_, _, hv⟩ := k.cls hm
  rw [hv] at hb
  injection hb with hb
  injection hb with _ hb _
  exact he hb.symm
theorem cells_ne' {b b' : Nat} {c c' : Array Value} {e e' : TypeId} (h1 : hF[b]? = some (.cells c e (0, 0))) (h2 : hF[b']? = some (.cells c' e' (0, 0))) (he : e ≠ e') : b ≠ b' := by
  rintro rfl
  rw [h1] at h2
  injection h2 with h2
  injection h2 with _ h2 _
  exact he h2
theorem Sst.roOf (k : Sst h x hF) {b : Nat} {c : Array Value} {e : TypeId} (hb : hF[b]? = some (.cells c e (0, 0))) (hc : c ≠ #[]) (h1 : e ≠ 109) (h2 : e ≠ 31) : (kSc x hF).ro b := by
  have hlt := lt_of_get hb
  exact ⟨by omega, k.ncls hb h1, cells_ne' hb k.pb h2, cells_ne' hb k.qb h2, by omega, _, _, _, frH_old hb, pres_of (frH_old hb) (by unfold dum; intro z; injection z with z; exact hc z)⟩
theorem Sst.km (k : Sst h x hF) : KW (kSc x hF) x.q hF where
  M := hcell_of k.M rfl
  S := hcell_of k.S rfl
  P := hcell_of k.P rfl
  Q := hcell_of k.Q rfl
  K := ⟨stk_list k.r, stk_free k.r, stk_items k.r, fun j hj => ⟨stk_next k.r hj, stk_val k.r hj⟩⟩
theorem Sst.kro (k : Sst h x hF) : KWro (kSc x hF) x.q where
  M := k.roOf k.M (by simp) (by decide) (by decide)
  S := k.roOf k.S (by simp) (by decide) (by decide)
  P := k.roOf k.P (by simp) (by decide) (by decide)
  Q := k.roOf k.Q (by simp) (by decide) (by decide)
  s := k.roOf (k.r.get (k := 0) (by show 0 < 6 + 2 * x.N; omega) rfl) (by simp) (by decide) (by decide)
  i := k.roOf (k.r.get (k := 1) (by show 1 < 6 + 2 * x.N; omega) rfl) (by
    intro z
    have := congrArg Array.size z
    simp only [List.size_toArray, itemsL_len] at this
    simp at this) (by decide) (by decide)
theorem Sst.kJ (k : Sst h x hF) : Sj (sY x (kSc x hF)) where
  inj := k.inj
  ar j h1 h2 := by
    have hm : x.B j ∈ x.cl := List.mem_map.2 ⟨j - 2, List.mem_range.2 (by have : j < 2 * x.N + 6 := h2; omega), by rw [show j - 2 + 2 = j by omega]⟩
    exact ⟨fun e => k.ncls k.pb (by decide) ((show x.B j = x.pb from e) ▸ hm), fun e => k.ncls k.qb (by decide) ((show x.B j = x.qb from e) ▸ hm), fun e => by
      have := (k.cls hm).2.1
      have e' : x.B j = hF.size := e
      omega⟩
  ad := ⟨k.pq, Nat.ne_of_lt (lt_of_get k.pb), Nat.ne_of_lt (lt_of_get k.qb)⟩
  n1 := ⟨k.n1, k.n8⟩
  N1 := Nat.le_trans k.N2 (by decide)
  cK := by
    have h1 := k.n8
    have h2 := k.m1
    show ((nsum (x.n + 1) fun _ => 43 * x.m : Nat) : Int) <= 1000000000
    rw [nsum_const]
    have : (x.n + 1) * (43 * x.m) <= 9 * 4300 := Nat.mul_le_mul (by omega) (by omega)
    omega
  sx _ _ _ z := by cases z
  out _ _ z := by cases z
  cel X hX := by
    have hN := k.N1
    rcases hX with rfl | rfl
    · refine ⟨?_, Int.le_refl _, trivial⟩
      show stk0 x.N (x.idx (x.B 2)) = 65536 * 0 + hdN []
      rw [k.bi]
      rfl
    · refine ⟨?_, Int.le_refl _, ?_⟩
      · show stk0 x.N (x.idx (x.B 3)) = 65536 * 0 + hdN (List.range' 1 x.N)
        rw [k.bi]
        obtain ⟨N', hN'⟩ : ∃ N', x.N = N' + 1 := ⟨x.N - 1, by omega⟩
        rw [hN', List.range'_succ]
        rfl
      · exact chn_new (fun j => by show stk0 x.N (x.idx (x.B (4 + 2 * j))) = _; rw [k.bi]) x.N 1 (Nat.le_refl _) (by omega)
  np := by
    show ([] ++ (List.range' 1 x.N ++ fmW (fun _ => (none : Option Nat)) x.n)).Perm (List.range' 1 x.N)
    have : fmW (fun _ => (none : Option Nat)) x.n = [] := by unfold fmW; simp
    rw [this]
    simp
  vp := by
    have : ∀ n, flW (fun _ => ([] : List Int)) n = [] := fun n => by unfold flW; simp
    show (flW (fun _ => ([] : List Int)) x.n).Perm (([] : List Nat).map _ ++ flW (fun _ => ([] : List Int)) x.n)
    rw [this]
    exact List.Perm.refl _
  K := by
    show (0 : Int) + 0 + ((nsum (x.n + 1) (fun i => 43 * x.m + (sY x (kSc x hF)).stl i) : Nat) : Int) <= ((nsum (x.n + 1) fun _ => 43 * x.m : Nat) : Int)
    rw [nsum_congr (x.n + 1) (fun i => 43 * x.m + (sY x (kSc x hF)).stl i) (fun _ => 43 * x.m) fun _ _ => rfl]
    omega
theorem scls_eq : sL.cls (sY x (kSc x hF)) = x.cl := rfl
theorem sarrT_eq {b : Nat} : sL.arrT (sY x (kSc x hF)) b = if b = x.pb then some 31 else if b = x.qb then some 31 else if b = hF.size then some 4 else none := rfl
theorem Sst.arrN (_ : Sst h x hF) {b : Nat} (h1 : b ≠ x.pb) (h2 : b ≠ x.qb) (h3 : b ≠ hF.size) : sL.arrT (sY x (kSc x hF)) b = none := by
  rw [sarrT_eq, if_neg h1, if_neg h2, if_neg h3]
theorem Sst.arrF (k : Sst h x hF) : sL.arrT (sY x (kSc x hF)) hF.size = some 4 := by
  rw [sarrT_eq, if_neg (Nat.ne_of_lt (lt_of_get k.pb)).symm, if_neg (Nat.ne_of_lt (lt_of_get k.qb)).symm, if_pos rfl]
theorem Sst.arrP (_ : Sst h x hF) : sL.arrT (sY x (kSc x hF)) x.pb = some 31 := by rw [sarrT_eq, if_pos rfl]
theorem Sst.arrQ (k : Sst h x hF) : sL.arrT (sY x (kSc x hF)) x.qb = some 31 := by
  rw [sarrT_eq, if_neg (fun z => k.pq z.symm), if_pos rfl]
theorem Sst.starts (k : Sst h x hF) : Starts TT sL (sY x (kSc x hF)) (hF.size + 2) (frH hF x.n) where
  cell b hb := by
    rw [scls_eq] at hb
    exact frH_old (k.cls hb).2.2
  arr b t hb := by
    rw [sarrT_eq] at hb
    show (frH hF x.n)[b]? = some (.cells (if b = x.pb then _ else if b = x.qb then _ else _) t (0, 0))
    by_cases h1 : b = x.pb
    · rw [if_pos h1] at hb
      cases hb
      subst h1
      rw [if_pos rfl, frH_old k.pb]
      congr 3
      show List.replicate x.n nilSl = (List.range x.n).map fun _ => nilSl
      rw [List.map_const', List.length_range]
    · rw [if_neg h1] at hb
      by_cases h2 : b = x.qb
      · rw [if_pos h2] at hb
        cases hb
        subst h2
        rw [if_neg h1, if_pos rfl, frH_old k.qb]
        congr 3
        show List.replicate (x.n + 1) nilSl = (List.range (x.n + 1)).map fun _ => nilSl
        rw [List.map_const', List.length_range]
      · rw [if_neg h2] at hb
        by_cases h3 : b = hF.size
        · rw [if_pos h3] at hb
          cases hb
          subst h3
          rw [if_neg h1, if_neg h2, (frH_at hF x.n).1]
          simp
          rfl
        · rw [if_neg h3] at hb; cases hb
  ne b t hb := by
    have n1 := k.n1
    show (if b = x.pb then _ else if b = x.qb then _ else Array.replicate x.n (Value.bool false)) ≠ #[]
    intro z
    have z := congrArg Array.size z
    split at z
    · simp [sY, kSc] at z; omega
    · split at z
      · simp [sY, kSc] at z
      · simp at z; omega
  wg := (frH_at hF x.n).2.2
  wc := ⟨fun hm => absurd (k.cls hm).2.1 (by omega), k.arrN (by have := lt_of_get k.pb; omega) (by have := lt_of_get k.qb; omega) (by omega)⟩
  J := k.kJ
  ro b hb := hb.2.2.2.2.2
set_option maxHeartbeats 4000000 in
theorem Sst.free {hA : Hp} (k : Sst h x hA) (u : Upd (fun _ => False) hA hF) {γ₀ : Gf Sy} (hst : γ₀.st = 0) (hnum : γ₀.num = 1) {B cap fB : Nat} {ib : Nat -> Nat} (hfB : hF[fB]? = some (.cells #[.func (.func 12) #[] x.q.caps] 34 (0, 0)))
    (hib : ∀ j, j < x.n -> hF[ib j]? = some (.cells #[.int .i64 j] 3 (0, 0))) (hB1 : hA.size <= B) (hB : ∀ j, j < x.n -> hcell hF ⟨B, j, none⟩ = some (.func (.func 58) #[] #[.pointer (some ⟨fB, 0, none⟩), .pointer (some ⟨ib j, 0, none⟩)])) :
    CallW Try.prog true (SitM Try.prog (XF TT sL)) 49 #[.slice (some ⟨B, 0, none⟩) x.n cap] hF ⟨0, γ₀⟩ (Ret fun v h' δ' => v = .slice none 0 0 /\ δ'.d = 0 /\ Freed sL (sY x (kSc x hF)) hF x.n h' δ'.g) := by
  have k' := k.upd u
  have hBlt : B < hF.size := by
    obtain ⟨_, _, _, h1, _⟩ := hcell_some (hB 0 k.n1)
    exact lt_of_get h1
  have b1 := lt_of_get k.pb
  have b2 := lt_of_get k.qb
  refine free_ok sL_ok (bf := fun _ => 58) (bcap := fun j => #[.pointer (some ⟨fB, 0, none⟩), .pointer (some ⟨ib j, 0, none⟩)]) (hbf := fun _ => inferInstance) hst hnum (Nat.le_trans k.n8 (by decide)) hB k'.starts ⟨fun hm => ?_, k'.arrN (by omega) (by omega) (by omega)⟩ k'.arrF (fun y hJ hr => ?_) ?_ (fun b hb => ⟨hb.2.1, k'.arrN hb.2.2.1 hb.2.2.2.1 hb.2.2.2.2.1, hb.1⟩) ?_
  · have := (k.cls hm).2.1
    omega
  · have e : y.c = kSc x hF := hr.law.c
    have := (sarr_f hJ (w := 0) (by rw [e]; exact k.n1)).2.1
    rw [e] at this
    exact this
  · have hV := (frH_at hF x.n).2.1
    exact ⟨by omega, fun hm => absurd (k'.cls hm).2.1 (by omega), by have := lt_of_get k'.pb; omega, by have := lt_of_get k'.qb; omega, by omega, _, _, _, hV, pres_of hV (by unfold dum; simp)⟩
  · refine sbody_ok (c := kSc x hF) (q := x.q) rfl k.n8 k.m1 (Nat.le_trans k.N2 (by decide)) k'.km k'.kro rfl rfl (fun b hb => by show b < hF.size + 3; have := hb.1; omega) (hcell_of hfB rfl) (k'.roOf hfB (by simp) (by decide) (by decide)) (fun j hj => ⟨hcell_of (hib j hj) rfl, k'.roOf (hib j hj) (by simp) (by decide) (by decide)⟩) fun j hj => ⟨rfl, fun _ z => (by cases z), rfl, rfl, rfl, rfl, Nat.le_refl _, rfl, rfl⟩
end
end
section
open Go Go.TJ Go.Proofs
variable [Dm]
structure De where
  n : Nat
  m : Nat
  L : Nat
  e : Nat
  cap : Nat
  rest : List Value
  F : Int
  B : Nat -> Nat
  idx : Nat -> Nat
  vN : Nat
  vM : Nat
  vD : Nat
  vE : Nat
  vL : Nat
  pb : Nat
def deq0 (F : Int) (k : Nat) : Int := if k < 4 then F else 0
structure Dst (h : Hp) (x : De) (h' : Hp) : Prop where
  u : Upd (fun _ => False) h h'
  N : h'[x.vN]? = some (.cells #[.int .i64 x.n] 3 (0, 0))
  M : h'[x.vM]? = some (.cells #[.int .i64 x.m] 2 (0, 0))
  D : h'[x.vD]? = some (.cells #[.pointer (some ⟨x.B 0, 0, none⟩)] 37 (0, 0))
  E : h'[x.vE]? = some (.cells #[.pointer (some ⟨x.B (4 + x.L), 0, none⟩)] 40 (0, 0))
  V : h'[x.vL]? = some (.cells #[.slice (some ⟨x.pb, 0, none⟩) (x.n + 1) (x.n + 1)] 28 (0, 0))
  pb : h'[x.pb]? = some (.cells (List.replicate (x.n + 1) nilSl).toArray 31 (0, 0))
  r : Rep h' (deqM x.L x.cap x.rest x.B (deq0 x.F))
  dn : h'[x.B (4 + x.L)]? = some (cellO 0)
  bl : ∀ k, k < 5 + x.L -> h.size <= x.B k
  bi : ∀ k, x.idx (x.B k) = k
  pl : h.size <= x.pb
  n7 : x.n <= 7
  m1 : x.m <= 1000
  hL : x.L = 2 ^ x.e
  he : 1 <= x.e /\ x.e <= 12
  wF : W64 x.F = x.F
theorem Dst.upd {h h1 h2 : Hp} {x : De} (k : Dst h x h1) (u : Upd (fun _ => False) h1 h2) : Dst h x h2 where
  u := k.u.trans u
  N := u.get k.N fun z => z
  M := u.get k.M fun z => z
  D := u.get k.D fun z => z
  E := u.get k.E fun z => z
  V := u.get k.V fun z => z
  pb := u.get k.pb fun z => z
  r := k.r.upd0 u
  dn := u.get k.dn fun z => z
  bl := k.bl
  bi := k.bi
  pl := k.pl
  n7 := k.n7
  m1 := k.m1
  hL := k.hL
  he := k.he
  wF := k.wF
theorem Dst.inj {h h1 : Hp} {x : De} (k : Dst h x h1) : ∀ i j, x.B i = x.B j -> i = j := fun i j e => by
  have h1 := k.bi i
  rw [e, k.bi j] at h1
  exact h1.symm
theorem Dst.L0 {h h1 : Hp} {x : De} (k : Dst h x h1) : 2 <= x.L := by
  rw [k.hL]; exact Nat.pow_le_pow_right (n := 2) (by decide) k.he.1
def De.cl (x : De) : List Nat := (List.range (x.L + 3)).map fun j => x.B (j + 2)
def dC (x : De) (hF : Hp) : Dc where
  n := x.n
  m := x.m
  L := x.L
  e := x.e
  F := x.F
  B := x.B
  pb := x.pb
  fb := hF.size
  top := hF.size + 3
  tS := 31
  tB := 4
  ro b := b < hF.size + 2 /\ b ∉ x.cl /\ b ≠ x.pb /\ b ≠ hF.size /\ ∃ c e f, (frH hF (x.n + 1))[b]? = some (.cells c e f) /\ Pres (frH hF (x.n + 1)) b
def dY (x : De) (c : Dc) : Dy := ⟨c, fun b => deq0 x.F (x.idx b), 0, 0, fun _ => 0, 0, 0, fun i => if i = c.n + 1 then 8 * c.m + 3007 else 1000, fun _ => [], fun _ => nilSl⟩
def De.q (x : De) : Ke := ⟨x.vN, x.vM, x.vD, x.vL, x.vE, x.B 0, x.B 1, x.cap⟩
section
variable {h hF : Hp} {x : De}
theorem Dst.cls (k : Dst h x hF) {b : Nat} (hb : b ∈ x.cl) : h.size <= b /\ b < hF.size /\ hF[b]? = some (cellO (deq0 x.F (x.idx b))) := by
  obtain ⟨j, hj, rfl⟩ := List.mem_map.1 hb
  have hj := List.mem_range.1 hj
  have hc : hF[x.B (j + 2)]? = some (cellO (deq0 x.F (x.idx (x.B (j + 2))))) := by
    rw [k.bi]
    by_cases e : j + 2 = 4 + x.L
    · rw [e, k.dn]
      unfold deq0
      rw [if_neg (by omega)]
    · exact deq_cell k.r (k := j + 2) (by omega) (by omega) rfl
  exact ⟨k.bl (j + 2) (by omega), lt_of_get hc, hc⟩
theorem Dst.ncls (k : Dst h x hF) {b : Nat} {c : Array Value} {e : TypeId} (hb : hF[b]? = some (.cells c e (0, 0))) (he : e ≠ 109) : b ∉ x.cl := fun hm => by
  obtain ⟨_, _, hv⟩ := k.cls hm
  rw [hv] at hb
  injection hb with hb
  injection hb with _ hb _
  exact he hb.symm
theorem Dst.roOf (k : Dst h x hF) {b : Nat} {c : Array Value} {e : TypeId} (hb : hF[b]? = some (.cells c e (0, 0))) (hc : c ≠ #[]) (h1 : e ≠ 109) (h2 : e ≠ 31) : (dC x hF).ro b := by
  have hlt := lt_of_get hb
  exact ⟨by omega, k.ncls hb h1, cells_ne' hb k.pb h2, by omega, _, _, _, frH_old hb, pres_of (frH_old hb) (by unfold dum; intro z; injection z with z; exact hc z)⟩
theorem Dst.km (k : Dst h x hF) : KE (dC x hF) x.q hF where
  N := hcell_of k.N rfl
  M := hcell_of k.M rfl
  D := hcell_of k.D rfl
  L := hcell_of k.V rfl
  E := hcell_of k.E rfl
  K := ⟨deq_top k.r, deq_bot k.r, deq_sl k.r, fun j hj => deq_row k.r hj⟩
theorem Dst.kro (k : Dst h x hF) : KEro (dC x hF) x.q where
  N := k.roOf k.N (by simp) (by decide) (by decide)
  M := k.roOf k.M (by simp) (by decide) (by decide)
  D := k.roOf k.D (by simp) (by decide) (by decide)
  L := k.roOf k.V (by simp) (by decide) (by decide)
  E := k.roOf k.E (by simp) (by decide) (by decide)
  s := k.roOf (k.r.get (k := 0) (by show 0 < 4 + x.L; omega) rfl) (by simp) (by decide) (by decide)
  r := k.roOf (k.r.get (k := 1) (by show 1 < 4 + x.L; omega) rfl) (by
    intro z
    have := congrArg Array.size z
    have := k.L0
    simp at *
    omega) (by decide) (by decide)
theorem Dst.kJ (k : Dst h x hF) : Dj (dY x (dC x hF)) where
  inj := k.inj
  ar j h1 h2 := by
    have hm : x.B j ∈ x.cl := List.mem_map.2 ⟨j - 2, List.mem_range.2 (by have : j < x.L + 5 := h2; omega), by rw [show j - 2 + 2 = j by omega]⟩
    exact ⟨fun e => k.ncls k.pb (by decide) ((show x.B j = x.pb from e) ▸ hm), fun e => by
      have := (k.cls hm).2.1
      have e' : x.B j = hF.size := e
      omega⟩
  ad := Nat.ne_of_lt (lt_of_get k.pb)
  n1 := k.n7
  m1 := k.m1
  hL := k.hL
  he := k.he
  vt := by
    show deq0 x.F (x.idx (x.B 2)) = W64 (x.F + ((0 : Nat) : Int))
    rw [k.bi, show x.F + ((0 : Nat) : Int) = x.F by omega, k.wF]
    rfl
  vb := by
    show deq0 x.F (x.idx (x.B 3)) = W64 (x.F + (((0 : Nat) : Int) - ((0 : Nat) : Int)))
    rw [k.bi, show x.F + (((0 : Nat) : Int) - ((0 : Nat) : Int)) = x.F by omega, k.wF]
    rfl
  ow1 := Nat.zero_le _
  r1 := Nat.le_refl _
  r2 := Nat.zero_le _
  r3 := Nat.le_refl _
  np := Nat.zero_le _
  sl z _ h2 := absurd h2 (Nat.not_lt_zero _)
  inc _ z _ _ h3 := absurd h3 (Nat.not_lt_zero _)
  th _ _ _ := ⟨List.Pairwise.nil, fun z hz => by cases hz⟩
  pm := by
    have : ∀ n, flW (fun _ => ([] : List Int)) n = [] := fun n => by unfold flW; simp
    show (flW (fun _ => ([] : List Int)) (x.n + 1) ++ ([] : List Nat).map _).Perm (([] : List Nat).map _)
    rw [this]
    exact List.Perm.refl _
theorem dcls_eq : dL.cls (dY x (dC x hF)) = x.cl := rfl
theorem darrT_eq {b : Nat} : dL.arrT (dY x (dC x hF)) b = if b = x.pb then some 31 else if b = hF.size then some 4 else none := rfl
theorem Dst.arrN (_ : Dst h x hF) {b : Nat} (h1 : b ≠ x.pb) (h3 : b ≠ hF.size) : dL.arrT (dY x (dC x hF)) b = none := by
  rw [darrT_eq, if_neg h1, if_neg h3]
theorem Dst.arrF (k : Dst h x hF) : dL.arrT (dY x (dC x hF)) hF.size = some 4 := by
  rw [darrT_eq, if_neg (Nat.ne_of_lt (lt_of_get k.pb)).symm, if_pos rfl]
theorem Dst.arrP (_ : Dst h x hF) : dL.arrT (dY x (dC x hF)) x.pb = some 31 := by rw [darrT_eq, if_pos rfl]
theorem Dst.starts (k : Dst h x hF) : Starts TT dL (dY x (dC x hF)) (hF.size + 2) (frH hF (x.n + 1)) where
  cell b hb := by
    rw [dcls_eq] at hb
    exact frH_old (k.cls hb).2.2
  arr b t hb := by
    rw [darrT_eq] at hb
    show (frH hF (x.n + 1))[b]? = some (.cells (if b = x.pb then _ else _) t (0, 0))
    by_cases h1 : b = x.pb
    · rw [if_pos h1] at hb
      cases hb
      subst h1
      rw [if_pos rfl, frH_old k.pb]
      congr 3
      show List.replicate (x.n + 1) nilSl = (List.range (x.n + 1)).map fun _ => nilSl
      rw [List.map_const', List.length_range]
    · rw [if_neg h1] at hb
      by_cases h3 : b = hF.size
      · rw [if_pos h3] at hb
        cases hb
        subst h3
        rw [if_neg h1, (frH_at hF (x.n + 1)).1]
        simp
        rfl
      · rw [if_neg h3] at hb; cases hb
  ne b t hb := by
    show (if b = x.pb then _ else Array.replicate (x.n + 1) (Value.bool false)) ≠ #[]
    intro z
    have z := congrArg Array.size z
    split at z
    · simp [dY, dC] at z
    · simp at z
  wg := (frH_at hF (x.n + 1)).2.2
  wc := ⟨fun hm => absurd (k.cls hm).2.1 (by omega), k.arrN (by have := lt_of_get k.pb; omega) (by omega)⟩
  J := k.kJ
  ro b hb := hb.2.2.2.2
set_option maxHeartbeats 4000000 in
theorem Dst.free {hA : Hp} (k : Dst h x hA) (u : Upd (fun _ => False) hA hF) {γ₀ : Gf Dy} (hst : γ₀.st = 0) (hnum : γ₀.num = 1) {B cap fB : Nat} {ib : Nat -> Nat} (hfB : hF[fB]? = some (.cells #[.func (.func 19) #[] x.q.caps] 34 (0, 0)))
    (hib : ∀ j, j < x.n + 1 -> hF[ib j]? = some (.cells #[.int .i64 j] 3 (0, 0))) (hB1 : hA.size <= B) (hB : ∀ j, j < x.n + 1 -> hcell hF ⟨B, j, none⟩ = some (.func (.func 62) #[] #[.pointer (some ⟨fB, 0, none⟩), .pointer (some ⟨ib j, 0, none⟩)])) :
    CallW Try.prog true (SitM Try.prog (XF TT dL)) 49 #[.slice (some ⟨B, 0, none⟩) (x.n + 1) cap] hF ⟨0, γ₀⟩ (Ret fun v h' δ' => v = .slice none 0 0 /\ δ'.d = 0 /\ Freed dL (dY x (dC x hF)) hF (x.n + 1) h' δ'.g) := by
  have k' := k.upd u
  have hBlt : B < hF.size := by
    obtain ⟨_, _, _, h1, _⟩ := hcell_some (hB 0 (Nat.succ_pos _))
    exact lt_of_get h1
  have b1 := lt_of_get k.pb
  have n7 := k.n7
  refine free_ok dL_ok (bf := fun _ => 62) (bcap := fun j => #[.pointer (some ⟨fB, 0, none⟩), .pointer (some ⟨ib j, 0, none⟩)]) (hbf := fun _ => inferInstance) hst hnum (by omega) hB k'.starts ⟨fun hm => ?_, k'.arrN (by omega) (by omega)⟩ k'.arrF (fun y hJ hr => ?_) ?_ (fun b hb => ⟨hb.2.1, k'.arrN hb.2.2.1 hb.2.2.2.1, hb.1⟩) ?_
  · have := (k.cls hm).2.1
    omega
  · have e : y.c = dC x hF := hr.law.c
    have := (darr_f hJ (w := 0) (Nat.succ_pos _)).2.1
    rw [e] at this
    exact this
  · have hV := (frH_at hF (x.n + 1)).2.1
    exact ⟨by omega, fun hm => absurd (k'.cls hm).2.1 (by omega), by have := lt_of_get k'.pb; omega, by omega, _, _, _, hV, pres_of hV (by unfold dum; simp)⟩
  · refine dbody_ok (c := dC x hF) (q := x.q) rfl k.n7 k.m1 k.hL k.he k'.km k'.kro rfl rfl (fun b hb => by show b < hF.size + 3; have := hb.1; omega) (hcell_of hfB rfl) (k'.roOf hfB (by simp) (by decide) (by decide)) (fun j hj => ⟨hcell_of (hib j hj) rfl, k'.roOf (hib j hj) (by simp) (by decide) (by decide)⟩) (fun j hj => ⟨rfl, Nat.zero_le _, rfl, ?_, rfl⟩) ⟨k'.kJ.vb, rfl, rfl, rfl⟩
    show (if j = x.n then 8 * x.m + 3007 else 1000) <= if j + 1 = x.n + 1 then 8 * x.m + 3007 else 1000
    by_cases e : j = x.n
    · rw [if_pos e, if_pos (by omega)]; exact Nat.le_refl _
    · rw [if_neg e, if_neg (by omega)]; exact Nat.le_refl _
end
end
section
open Go Go.TJ Go.Proofs
variable [Dm]
structure CI (n : Nat) (v : Nat -> Int) (l2 l3 : List Nat) : Prop where
  t2 : v 2 % 65536 = hdN l2
  t3 : v 3 % 65536 = hdN l3
  c2 : Chn id v l2
  c3 : Chn id v l3
  np : (l2 ++ l3).Perm (List.range' 1 n)
theorem CI.bd {n : Nat} {v : Nat -> Int} {l2 l3 : List Nat} (ci : CI n v l2 l3) {x : Nat} (hx : x ∈ l2 \/ x ∈ l3) : 1 <= x /\ x <= n := by
  have := List.mem_range'_1.1 ((ci.np.mem_iff).1 (List.mem_append.2 hx))
  omega
theorem CI.nd {n : Nat} {v : Nat -> Int} {l2 l3 : List Nat} (ci : CI n v l2 l3) : (l2 ++ l3).Nodup := ci.np.nodup_iff.2 List.nodup_range'
theorem CI.hd {n : Nat} {v : Nat -> Int} {l2 l3 : List Nat} (ci : CI n v l2 l3) : (0 <= hdN l2 /\ hdN l2 <= n) /\ (0 <= hdN l3 /\ hdN l3 <= n) := by
  refine ⟨?_, ?_⟩
  · cases l2 with
    | nil => exact ⟨Int.le_refl _, by show (0 : Int) <= n; omega⟩
    | cons y r => have := ci.bd (.inl (List.mem_cons_self (a := y) (l := r))); show 0 <= (y : Int) /\ (y : Int) <= n; omega
  · cases l3 with
    | nil => exact ⟨Int.le_refl _, by show (0 : Int) <= n; omega⟩
    | cons y r => have := ci.bd (.inr (List.mem_cons_self (a := y) (l := r))); show 0 <= (y : Int) /\ (y : Int) <= n; omega
theorem CI.len {n : Nat} {v : Nat -> Int} {l2 l3 : List Nat} (ci : CI n v l2 l3) : l2.length + l3.length = n := by
  have := ci.np.length_eq
  rwa [List.length_append, List.length_range'] at this
section
variable {Γ : Type} {main : Bool} {h : Hp} {δ : Ix Γ} {n : Nat} {B : Nat -> Nat} {v : Nat -> Int} {l2 l3 : List Nat} {y : Nat}
set_option maxRecDepth 8000 in
def StkP (n : Nat) (B : Nat -> Nat) (vals : List Int) (h : Hp) : Prop :=
  ∃ (v : Nat -> Int) (l2 l3 : List Nat), Rep h (stkM n B v) /\ CI n v l2 l3 /\ l2.map (fun x => v (5 + 2 * x)) = vals
theorem StkP.len {vals : List Int} (s : StkP n B vals h) : vals.length <= n := by
  obtain ⟨v, l2, l3, -, ci, rfl⟩ := s
  have := ci.len
  rw [List.length_map]
  omega
theorem StkP.upd {vals : List Int} {h' : Hp} {T : Nat -> Prop} (s : StkP n B vals h) (u : Upd T h h') (hT : ∀ k, k < 6 + 2 * n -> ¬ T (B k)) : StkP n B vals h' := by
  obtain ⟨v, l2, l3, r, ci, e1⟩ := s
  exact ⟨v, l2, l3, r.upd u fun k hk => hT k hk, ci, e1⟩
end
end
section
open Go Go.TJ Go.Proofs
variable [Dm]
structure Sen (h : Hp) (x : Sd) (T : Nat) (vals : List Int) (sp sq : Nat -> Value) (pu po : Nat -> List Int) (h' : Hp) : Prop where
  u : Upd (fun _ => False) h h'
  S : hcell h' ⟨x.vS, 0, none⟩ = some (.pointer (some ⟨x.B 0, 0, none⟩))
  s : StkP x.N x.B vals h'
  bl : ∀ k, k < 6 + 2 * x.N -> h.size <= x.B k /\ x.B k < T /\ x.B k ≠ x.pb /\ x.B k ≠ x.qb /\ x.B k ≠ x.vS /\ x.B k ≠ x.vP /\ x.B k ≠ x.vQ
  P : hcell h' ⟨x.vP, 0, none⟩ = some (.slice (some ⟨x.pb, 0, none⟩) x.n x.n)
  pb : ∀ w, w < x.n -> hcell h' ⟨x.pb, w, none⟩ = some (sp w)
  pr : ∀ w, w < x.n -> Rd T h' (sp w) (pu w)
  Q : hcell h' ⟨x.vQ, 0, none⟩ = some (.slice (some ⟨x.qb, 0, none⟩) (x.n + 1) (x.n + 1))
  qb : h'[x.qb]? = some (.cells ((List.range (x.n + 1)).map sq).toArray 31 (0, 0))
  qn : sq x.n = nilSl
  qr : ∀ w, w < x.n -> Rd T h' (sq w) (po w)
  ql : h.size <= x.qb /\ x.qb < T /\ x.qb ≠ x.pb /\ x.qb ≠ x.vS /\ x.qb ≠ x.vP /\ x.qb ≠ x.vQ
  hT : T <= h'.size
  nd : ∀ w, w < x.n -> (pu w).Nodup
  rg : ∀ w, w < x.n -> ∀ z, z ∈ pu w -> 1000 * (w : Int) <= z /\ z < 1000 * (w : Int) + x.m
  vp : ((List.range x.n).flatMap pu).Perm (vals ++ (List.range x.n).flatMap po)
theorem Chn.toId {B : Nat -> Nat} {v : Nat -> Int} : ∀ {l : List Nat}, Chn B v l -> Chn id (fun k => v (B k)) l
  | [], _ => trivial
  | _ :: _, ⟨h1, h2⟩ => ⟨h1, h2.toId⟩
section
variable {h hF h' : Hp} {x : Sd}
set_option maxHeartbeats 4000000 in
theorem Sst.fin (k : Sst h x hF) (hnd : ∀ (b : Nat) (o : Obj), h[b]? = some o -> o ≠ dum) {γ' : Gf Sy} (f : Freed sL (sY x (kSc x hF)) hF x.n h' γ') : ∃ T vals sp sq pu po, Sen h x T vals sp sq pu po h' := by
  have b1 := lt_of_get k.pb
  have b2 := lt_of_get k.qb
  obtain ⟨y, hr, hJ, hfin, old, cel, ar, hsz⟩ := freed_out2 f ⟨fun hm => absurd (k.cls hm).2.1 (by omega), k.arrN (by omega) (by omega) (by omega)⟩ k.arrF
  have hc : y.c = kSc x hF := hr.law.c
  have key : ∀ (b : Nat) (c : Array Value) (e : TypeId), hF[b]? = some (.cells c e (0, 0)) -> c ≠ #[] -> e ≠ 109 -> e ≠ 31 -> h'[b]? = some (.cells c e (0, 0)) := fun b c e hb h0 h1 h2 =>
    old b _ hb (by unfold dum; intro z; injection z with z; exact h0 z) (k.ncls hb h1) (k.arrN (cells_ne' hb k.pb h2) (cells_ne' hb k.qb h2) (Nat.ne_of_lt (lt_of_get hb)))
  have fin : ∀ w, w < x.n -> y.hn (w + 1) = none /\ (y.pu (w + 1)).Nodup /\ (∀ z, z ∈ y.pu (w + 1) -> 1000 * (w : Int) <= z /\ z < 1000 * (w : Int) + x.m) /\ Rd hF.size h' (y.sp w) (y.pu (w + 1)) /\ Rd hF.size h' (y.sq w) (y.po (w + 1)) := fun w hw => by
    obtain ⟨hf, q, hm⟩ := hfin (w + 1) (by omega) (by omega)
    obtain ⟨q1, q2, q3, q4, q5⟩ := q (Nat.succ_pos w)
    rw [hc] at q3 q4 q5
    refine ⟨q1, q2, fun z hz => ?_, q4.mono (by show hF.size <= hF.size + 3; omega) hm, q5.mono (by show hF.size <= hF.size + 3; omega) hm⟩
    have := q3 z hz
    rw [show (((w + 1 : Nat) : Int) - 1) = (w : Int) by omega] at this
    exact this
  have hfm : fmW y.hn y.c.n = [] := by
    rw [hc]
    show fmW y.hn x.n = []
    rw [fmW_congr (g := fun _ => none) fun j j0 hj => by
      have := (fin (j - 1) (by omega)).1
      rwa [show j - 1 + 1 = j by omega] at this]
    unfold fmW
    simp
  have item : itemsL (x.N + 1) x.B ≠ [] := by
    intro z
    have := congrArg List.length z
    rw [itemsL_len] at this
    simp at this
  have k0 := key _ _ _ (k.r.get (k := 0) (by show 0 < 6 + 2 * x.N; omega) rfl) (by simp) (by decide) (by decide)
  have k1 := key _ _ _ (k.r.get (k := 1) (by show 1 < 6 + 2 * x.N; omega) rfl) (by simpa using item) (by decide) (by decide)
  have cl : ∀ j, 2 <= j -> j < 6 + 2 * x.N -> x.B j ∈ x.cl := fun j h1 h2 => List.mem_map.2 ⟨j - 2, List.mem_range.2 (by omega), by rw [show j - 2 + 2 = j by omega]⟩
  have rep : Rep h' (stkM x.N x.B fun j => y.v (x.B j)) := by
    refine ⟨fun j hj => ?_, k.r.inj⟩
    have hj' : j < 6 + 2 * x.N := hj
    show h'[x.B j]? = some (if j = 0 then _ else if j = 1 then _ else cellO (y.v (x.B j)))
    by_cases e0 : j = 0
    · subst e0; rw [if_pos rfl]; exact k0
    · by_cases e1 : j = 1
      · subst e1; rw [if_neg e0, if_pos rfl]; exact k1
      · rw [if_neg e0, if_neg e1]
        exact cel _ (cl j (by omega) hj')
  have ci : CI x.N (fun j => y.v (x.B j)) (y.ch 2) (y.ch 3) := by
    have t2 := (hJ.tag (X := 2) (.inl rfl)).2.1
    have t3 := (hJ.tag (X := 3) (.inr rfl)).2.1
    have c2 := (hJ.cel 2 (.inl rfl)).2.2
    have c3 := (hJ.cel 3 (.inr rfl)).2.2
    have np := hJ.np
    rw [hfm, List.append_nil] at np
    rw [hc] at t2 t3 c2 c3 np
    exact ⟨t2, t3, c2.toId, c3.toId, np⟩
  refine ⟨hF.size, (y.ch 2).map (fun j => y.v (x.B (5 + 2 * j))), y.sp, y.sq, fun w => y.pu (w + 1), fun w => y.po (w + 1), ?_⟩
  refine ⟨⟨Nat.le_trans k.u.size (Nat.le_of_lt hsz), fun b hb _ => ?_⟩, hcell_of (key _ _ _ k.S (by simp) (by decide) (by decide)) rfl, ⟨_, _, _, rep, ci, rfl⟩, fun j hj => ?_, hcell_of (key _ _ _ k.P (by simp) (by decide) (by decide)) rfl, fun w hw => ?_, fun w hw => (fin w hw).2.2.2.1, hcell_of (key _ _ _ k.Q (by simp) (by decide) (by decide)) rfl, ?_, ?_, fun w hw => (fin w hw).2.2.2.2, ?_, Nat.le_of_lt hsz, fun w hw => (fin w hw).2.1, fun w hw => (fin w hw).2.2.1, ?_⟩
  · obtain ⟨o, ho⟩ : ∃ o, h[b]? = some o := ⟨_, Array.getElem?_eq_getElem hb⟩
    have e1 := k.pl
    have e2 := k.ql
    have e3 := k.u.size
    rw [ho]
    exact old b o (k.u.get ho fun z => z) (hnd b o ho) (fun hm => absurd (k.cls hm).1 (by omega)) (k.arrN (by omega) (by omega) (by omega))
  · have hlt := k.r.lt (k := j) hj
    have hlt' : x.B j < hF.size := hlt
    have ne : ∀ {b : Nat} {v : Value} {t : TypeId}, hF[b]? = some (.cells #[v] t (0, 0)) -> t ≠ 91 -> t ≠ 95 -> t ≠ 109 -> x.B j ≠ b := fun {b v t} hb n1 n2 n3 => by
      rintro rfl
      have hg := k.r.has j hj
      have hb' := hg.symm.trans hb
      injection hb' with hb'
      have hb2 : (if j = 0 then Obj.cells #[ptr (x.B 2), ptr (x.B 3), .slice (some ⟨x.B 1, 0, none⟩) (x.N + 1) (x.N + 1)] 91 (0, 0) else if j = 1 then .cells (itemsL (x.N + 1) x.B).toArray 95 (0, 0) else cellO (stk0 x.N j)) = .cells #[v] t (0, 0) := hb'
      split at hb2
      · injection hb2 with _ hb2 _; exact n1 hb2.symm
      · split at hb2
        · injection hb2 with _ hb2 _; exact n2 hb2.symm
        · injection hb2 with _ hb2 _; exact n3 hb2.symm
    have ne2 : ∀ {b : Nat} {l : List Value}, hF[b]? = some (.cells l.toArray 31 (0, 0)) -> x.B j ≠ b := fun {b l} hb => by
      rintro rfl
      have hg := k.r.has j hj
      have hb' := hg.symm.trans hb
      injection hb' with hb'
      have hb2 : (if j = 0 then Obj.cells #[ptr (x.B 2), ptr (x.B 3), .slice (some ⟨x.B 1, 0, none⟩) (x.N + 1) (x.N + 1)] 91 (0, 0) else if j = 1 then .cells (itemsL (x.N + 1) x.B).toArray 95 (0, 0) else cellO (stk0 x.N j)) = .cells l.toArray 31 (0, 0) := hb'
      split at hb2
      · injection hb2 with _ hb2 _; exact absurd hb2 (by decide)
      · split at hb2
        · injection hb2 with _ hb2 _; exact absurd hb2 (by decide)
        · injection hb2 with _ hb2 _; exact absurd hb2 (by decide)
    exact ⟨k.bl j hj, by omega, ne2 k.pb, ne2 k.qb, ne k.S (by decide) (by decide) (by decide), ne k.P (by decide) (by decide) (by decide), ne k.Q (by decide) (by decide) (by decide)⟩
  · refine hcell_of (ar _ _ k.arrP) ?_
    show (if x.pb = y.c.pb then ((List.range y.c.n).map y.sp).toArray else _ : Array Value)[w]? = _
    rw [hc, show (kSc x hF).pb = x.pb from rfl, if_pos rfl]
    exact range_get hw
  · have := ar _ _ k.arrQ
    rw [this]
    show some (Obj.cells (if x.qb = y.c.pb then _ else if x.qb = y.c.qb then ((List.range (y.c.n + 1)).map y.sq).toArray else _) _ _) = _
    rw [hc, show (kSc x hF).pb = x.pb from rfl, show (kSc x hF).qb = x.qb from rfl, if_neg (fun z => k.pq z.symm), if_pos rfl]
    rfl
  · have := hr.law.main
    exact this
  · refine ⟨k.ql, by omega, fun z => k.pq z.symm, cells_ne' k.qb k.S (by decide), cells_ne' k.qb k.P (by decide), cells_ne' k.qb k.Q (by decide)⟩
  · have vp := hJ.vp
    rw [hc] at vp
    exact vp
end
end
section
open Go Go.TJ Go.Proofs
variable [Dm]
structure Fin2 (n vP pb vQ qb : Nat) (sp sq : Nat -> Value) (pu po : Nat -> List Int) (h : Hp) : Prop where
  P : hcell h ⟨vP, 0, none⟩ = some (.slice (some ⟨pb, 0, none⟩) n n)
  p : ∀ w, w < n -> hcell h ⟨pb, w, none⟩ = some (sp w) /\ Rd 0 h (sp w) (pu w)
  Q : hcell h ⟨vQ, 0, none⟩ = some (.slice (some ⟨qb, 0, none⟩) (n + 1) (n + 1))
  q : ∀ w, w < n + 1 -> hcell h ⟨qb, w, none⟩ = some (sq w) /\ Rd 0 h (sq w) (po w)
theorem Fin2.upd {n vP pb vQ qb : Nat} {sp sq : Nat -> Value} {pu po : Nat -> List Int} {h h' : Hp} {T : Nat -> Prop} (x : Fin2 n vP pb vQ qb sp sq pu po h) (u : Upd T h h') (hT : ∀ b, T b -> h.size <= b) : Fin2 n vP pb vQ qb sp sq pu po h' := by
  have key : ∀ {b o : Nat} {v : Value}, hcell h ⟨b, o, none⟩ = some v -> hcell h' ⟨b, o, none⟩ = some v := fun {b o v} hc => u.hcell hc fun z => by
    obtain ⟨_, _, _, h1, _⟩ := hcell_some hc
    have h2 : b < h.size := lt_of_get h1
    have h3 : h.size <= b := hT _ z
    omega
  exact ⟨key x.P, fun w hw => ⟨key (x.p w hw).1, (x.p w hw).2.mono (Nat.le_refl _) fun b o v _ => key⟩, key x.Q, fun w hw => ⟨key (x.q w hw).1, (x.q w hw).2.mono (Nat.le_refl _) fun b o v _ => key⟩⟩
theorem Rd.val {top : Nat} {h : Hp} {v : Value} {l : List Int} (x : Rd top h v l) : ∃ a cap, v = .slice a l.length cap /\ ∀ k, k < l.length -> ∃ b, a = some ⟨b, 0, none⟩ /\ hcell h ⟨b, k, none⟩ = some (.int .i64 (l.getD k 0)) := by
  obtain ⟨a, cap, rfl, g⟩ := x
  refine ⟨a, cap, rfl, fun k hk => ?_⟩
  obtain ⟨b, e, _, h2⟩ := g k l[k] (List.getElem?_eq_getElem hk)
  refine ⟨b, e, ?_⟩
  rw [List.getD_eq_getElem?_getD, List.getElem?_eq_getElem hk]
  exact h2
def TIn (T : Nat -> Int) (L : List Int) : Prop := ∀ j : Nat, T j = if (j : Int) ∈ L then 1 else 0
theorem TIn.add {T : Nat -> Int} {L : List Int} {v : Int} (x : TIn T L) (v0 : 0 <= v) (hv : v ∉ L) : T v.toNat = 0 /\ TIn (u1 T v.toNat 1) (L ++ [v]) := by
  have e : ((v.toNat : Nat) : Int) = v := Int.toNat_of_nonneg v0
  refine ⟨by rw [x, e, if_neg hv], fun j => ?_⟩
  by_cases h : j = v.toNat
  · subst h
    rw [u1_same, e, if_pos (by simp)]
  · rw [u1_ne h, x]
    have : (j : Int) ≠ v := by omega
    simp [this]
theorem TIn.take {T : Nat -> Int} {L : List Int} {v : Int} (x : TIn T (v :: L)) (v0 : 0 <= v) (hv : v ∉ L) : T v.toNat = 1 /\ TIn (u1 T v.toNat 0) L := by
  have e : ((v.toNat : Nat) : Int) = v := Int.toNat_of_nonneg v0
  refine ⟨by rw [x, e, if_pos (by simp)], fun j => ?_⟩
  by_cases h : j = v.toNat
  · subst h
    rw [u1_same, e, if_neg hv]
  · rw [u1_ne h, x]
    have : (j : Int) ≠ v := by omega
    simp [this]
def upL (f : Nat -> List Int) (i k : Nat) : List Int := (List.range i).flatMap f ++ (f i).take k
theorem upL_zero (f : Nat -> List Int) (i : Nat) : upL f i 0 = (List.range i).flatMap f := by simp [upL]
theorem upL_succ {f : Nat -> List Int} {i k : Nat} (h : k < (f i).length) : upL f i (k + 1) = upL f i k ++ [(f i).getD k 0] := by
  unfold upL
  rw [List.take_add_one, List.getElem?_eq_getElem h, List.getD_eq_getElem?_getD, List.getElem?_eq_getElem h, List.append_assoc]
  rfl
theorem upL_end (f : Nat -> List Int) (i : Nat) : upL f i (f i).length = upL f (i + 1) 0 := by
  rw [upL_zero, List.range_succ, List.flatMap_append]
  simp [upL]
def dnL (f : Nat -> List Int) (n i k : Nat) : List Int := (f i).drop k ++ (List.range' (i + 1) (n - i)).flatMap f
theorem dnL_succ {f : Nat -> List Int} {n i k : Nat} (h : k < (f i).length) : dnL f n i k = (f i).getD k 0 :: dnL f n i (k + 1) := by
  unfold dnL
  rw [List.drop_eq_getElem_cons h, List.getD_eq_getElem?_getD, List.getElem?_eq_getElem h]
  rfl
theorem dnL_zero (f : Nat -> List Int) (n : Nat) : dnL f n 0 0 = (List.range (n + 1)).flatMap f := by
  unfold dnL
  rw [List.drop_zero, Nat.sub_zero, List.range_eq_range', List.range'_succ, List.flatMap_cons]
def rtL (f : Nat -> List Int) (n i : Nat) : List Int := (List.range' i (n + 1 - i)).flatMap f
theorem rtL_dn {f : Nat -> List Int} {n i : Nat} (h : i <= n) : rtL f n i = dnL f n i 0 := by
  unfold rtL dnL
  rw [show n + 1 - i = (n - i) + 1 by omega, List.range'_succ, List.flatMap_cons, List.drop_zero]
theorem rtL_end {f : Nat -> List Int} {n i : Nat} (h : i <= n) : dnL f n i (f i).length = rtL f n (i + 1) := by
  unfold rtL dnL
  rw [List.drop_length, List.nil_append, show n + 1 - (i + 1) = n - i by omega]
section
variable {pu : Nat -> List Int} {n m i k : Nat} (hm : m <= 1000) (nd : ∀ w, w < n -> (pu w).Nodup) (rg : ∀ w, w < n -> ∀ z, z ∈ pu w -> 1000 * (w : Int) <= z /\ z < 1000 * (w : Int) + m)
include hm rg in
include hm nd rg in
end
end
section
open Go Go.TJ Go.Proofs
variable [Dm]
structure Fin1 (n vP pb : Nat) (sp : Nat -> Value) (pu : Nat -> List Int) (h : Hp) : Prop where
  P : hcell h ⟨vP, 0, none⟩ = some (.slice (some ⟨pb, 0, none⟩) n n)
  p : ∀ w, w < n -> hcell h ⟨pb, w, none⟩ = some (sp w) /\ Rd 0 h (sp w) (pu w)
theorem Fin1.upd {n vP pb : Nat} {sp : Nat -> Value} {pu : Nat -> List Int} {h h' : Hp} {T : Nat -> Prop} (x : Fin1 n vP pb sp pu h) (u : Upd T h h') (hT : ∀ b, T b -> h.size <= b) : Fin1 n vP pb sp pu h' := by
  have key : ∀ {b o : Nat} {v : Value}, hcell h ⟨b, o, none⟩ = some v -> hcell h' ⟨b, o, none⟩ = some v := fun {b o v} hc => u.hcell hc fun z => by
    obtain ⟨_, _, _, h1, _⟩ := hcell_some hc
    have h2 : b < h.size := lt_of_get h1
    have h3 : h.size <= b := hT _ z
    omega
  exact ⟨key x.P, fun w hw => ⟨key (x.p w hw).1, (x.p w hw).2.mono (Nat.le_refl _) fun b o v _ => key⟩⟩
structure Den (h : Hp) (x : De) (v : Nat -> Int) (T : Int) (sq : Nat -> Value) (po : Nat -> List Int) (h' : Hp) : Prop where
  u : Upd (fun _ => False) h h'
  N : hcell h' ⟨x.vN, 0, none⟩ = some (.int .i64 x.n)
  M : hcell h' ⟨x.vM, 0, none⟩ = some (.int .i64 x.m)
  D : hcell h' ⟨x.vD, 0, none⟩ = some (.pointer (some ⟨x.B 0, 0, none⟩))
  r : Rep h' (deqM x.L x.cap x.rest x.B v)
  v2 : v 2 = W64 T
  v3 : v 3 = W64 (T + ((0 : Nat) : Int))
  F : Fin1 (x.n + 1) x.vL x.pb sq po h'
  th : ∀ w, w < x.n -> (po w).Pairwise (· < ·)
  pm : ((List.range (x.n + 1)).flatMap po).Perm ((List.range x.m).map fun k : Nat => (k : Int) + 1)
section
variable {h hF h' : Hp} {x : De}
set_option maxHeartbeats 4000000 in
theorem Dst.fin (k : Dst h x hF) (hnd : ∀ (b : Nat) (o : Obj), h[b]? = some o -> o ≠ dum) {γ' : Gf Dy} (f : Freed dL (dY x (dC x hF)) hF (x.n + 1) h' γ') : ∃ v T sq po, Den h x v T sq po h' := by
  have b1 := lt_of_get k.pb
  obtain ⟨y, hr, hJ, hfin, old, cel, ar, hsz⟩ := freed_out2 f ⟨fun hm => absurd (k.cls hm).2.1 (by omega), k.arrN (by omega) (by omega)⟩ k.arrF
  have hc : y.c = dC x hF := hr.law.c
  have key : ∀ (b : Nat) (c : Array Value) (e : TypeId), hF[b]? = some (.cells c e (0, 0)) -> c ≠ #[] -> e ≠ 109 -> e ≠ 31 -> h'[b]? = some (.cells c e (0, 0)) := fun b c e hb h0 h1 h2 =>
    old b _ hb (by unfold dum; intro z; injection z with z; exact h0 z) (k.ncls hb h1) (k.arrN (cells_ne' hb k.pb h2) (Nat.ne_of_lt (lt_of_get hb)))
  have fin : ∀ w, w < x.n + 1 -> Rd hF.size h' (y.sq w) (y.po (w + 1)) := fun w hw => by
    obtain ⟨hf, q, hm⟩ := hfin (w + 1) (by omega) (by omega)
    obtain ⟨q1, q2⟩ := q (Nat.succ_pos w)
    rw [hc] at q1
    exact q1.mono (by show hF.size <= hF.size + 3; omega) hm
  obtain ⟨et, eo, en⟩ : y.tp = y.bt /\ y.ow = 0 /\ y.np = y.c.m := by
    obtain ⟨hf, q, hm⟩ := hfin (x.n + 1) (by omega) (Nat.le_refl _)
    exact (q (Nat.succ_pos _)).2 (by rw [hc]; rfl)
  have row : ((List.range x.L).map (fun j => ptr (x.B (4 + j))) ++ x.rest) ≠ [] := by
    intro z
    have h1 := congrArg List.length z
    have h2 := k.L0
    simp at h1
    omega
  have k0 := key _ _ _ (k.r.get (k := 0) (by show 0 < 4 + x.L; omega) rfl) (by simp) (by decide) (by decide)
  have k1 := key _ _ _ (k.r.get (k := 1) (by show 1 < 4 + x.L; omega) rfl) (by intro z; exact row (by simpa using z)) (by decide) (by decide)
  have cl : ∀ j, 2 <= j -> j < 5 + x.L -> x.B j ∈ x.cl := fun j h1 h2 => List.mem_map.2 ⟨j - 2, List.mem_range.2 (by omega), by rw [show j - 2 + 2 = j by omega]⟩
  have rep : Rep h' (deqM x.L x.cap x.rest x.B fun j => y.v (x.B j)) := by
    refine ⟨fun j hj => ?_, k.r.inj⟩
    have hj' : j < 4 + x.L := hj
    show h'[x.B j]? = some (if j = 0 then _ else if j = 1 then _ else cellO (y.v (x.B j)))
    by_cases e0 : j = 0
    · subst e0; rw [if_pos rfl]; exact k0
    · by_cases e1 : j = 1
      · subst e1; rw [if_neg e0, if_pos rfl]; exact k1
      · rw [if_neg e0, if_neg e1]
        exact cel _ (cl j (by omega) (by omega))
  have vt := hJ.vt
  have vb := hJ.vb
  rw [hc] at vt vb
  refine ⟨fun j => y.v (x.B j), x.F + y.tp, y.sq, fun w => y.po (w + 1), ⟨⟨Nat.le_trans k.u.size (Nat.le_of_lt hsz), fun b hb _ => ?_⟩, hcell_of (key _ _ _ k.N (by simp) (by decide) (by decide)) rfl, hcell_of (key _ _ _ k.M (by simp) (by decide) (by decide)) rfl, hcell_of (key _ _ _ k.D (by simp) (by decide) (by decide)) rfl, rep, vt, ?_, ⟨hcell_of (key _ _ _ k.V (by simp) (by decide) (by decide)) rfl, fun w hw => ⟨?_, (fin w hw).mono (Nat.zero_le _) fun _ _ _ _ z => z⟩⟩, fun w hw => ?_, ?_⟩⟩
  · obtain ⟨o, ho⟩ : ∃ o, h[b]? = some o := ⟨_, Array.getElem?_eq_getElem hb⟩
    have e1 := k.pl
    have e3 := k.u.size
    rw [ho]
    exact old b o (k.u.get ho fun z => z) (hnd b o ho) (fun hm => absurd (k.cls hm).1 (by omega)) (k.arrN (by omega) (by omega))
  · refine vb.trans ?_
    show W64 (x.F + ((y.bt : Int) - y.ow)) = _
    rw [eo, <- et]
    congr 1
    omega
  · refine hcell_of (ar _ _ k.arrP) ?_
    show (if x.pb = y.c.pb then ((List.range (y.c.n + 1)).map y.sq).toArray else _ : Array Value)[w]? = _
    rw [hc, show (dC x hF).pb = x.pb from rfl, if_pos rfl]
    exact range_get hw
  · exact (hJ.th (w + 1) (Nat.succ_pos w) (by rw [hc]; exact hw)).1
  · have pm := hJ.pm
    rw [et, Nat.sub_self, en, hc] at pm
    have e : (List.range' y.bt 0).map y.V = [] := rfl
    rw [e, List.append_nil] at pm
    exact pm
end
end
section
open Go Go.TJ Go.Proofs
variable [Dm]
theorem up_rt {f : Nat -> List Int} {n : Nat} : ∀ i : Nat, i <= n + 1 -> upL f i 0 ++ rtL f n i = (List.range (n + 1)).flatMap f
  | 0, _ => by
    rw [upL_zero, rtL_dn (Nat.zero_le _), dnL_zero]
    rfl
  | i + 1, h => by
    rw [<- up_rt i (by omega), <- upL_end, rtL_dn (show i <= n by omega), <- rtL_end (show i <= n by omega)]
    unfold upL dnL
    rw [List.take_length, List.drop_length, List.drop_zero, List.take_zero]
    simp
theorem up_dn {f : Nat -> List Int} {n i : Nat} (hi : i <= n) (k : Nat) : upL f i k ++ dnL f n i k = (List.range (n + 1)).flatMap f := by
  rw [<- up_rt i (by omega), rtL_dn hi]
  unfold upL dnL
  rw [List.append_assoc, <- List.append_assoc ((f i).take k), List.take_append_drop, List.take_zero, List.drop_zero]
  simp
section
variable {f : Nat -> List Int} {n m i k : Nat} (pm : ((List.range (n + 1)).flatMap f).Perm ((List.range m).map fun k : Nat => (k : Int) + 1))
include pm in
theorem dw_nodup : ((List.range (n + 1)).flatMap f).Nodup := by
  refine pm.nodup_iff.2 (List.pairwise_map.2 (List.nodup_range.imp fun {a b} hne e => hne ?_))
  omega
include pm in
theorem dw_bound {z : Int} (hz : z ∈ (List.range (n + 1)).flatMap f) : 1 <= z /\ z <= m := by
  obtain ⟨k, hk, rfl⟩ := List.mem_map.1 (pm.mem_iff.1 hz)
  have := List.mem_range.1 hk
  omega
include pm in
theorem dw_new (hi : i <= n) (hk : k < (f i).length) : (1 <= (f i).getD k 0 /\ (f i).getD k 0 <= m) /\ (f i).getD k 0 ∉ upL f i k := by
  have e := up_dn (f := f) hi k
  have nd := dw_nodup pm
  rw [<- e, dnL_succ hk] at nd
  have hm : (f i).getD k 0 ∈ (List.range (n + 1)).flatMap f := by
    rw [<- e, dnL_succ hk]
    simp
  exact ⟨dw_bound pm hm, fun h => (List.nodup_append.1 nd).2.2 _ h _ List.mem_cons_self rfl⟩
include pm in
theorem dw_len (hi : i <= n) : (f i).length <= m /\ (upL f i k).length <= m := by
  have h1 := pm.length_eq
  rw [List.length_map, List.length_range] at h1
  have h2 := congrArg List.length (up_dn (f := f) hi 0)
  have h3 := congrArg List.length (up_dn (f := f) hi k)
  rw [List.length_append] at h2 h3
  have h4 : (dnL f n i 0).length = (f i).length + ((List.range' (i + 1) (n - i)).flatMap f).length := by
    unfold dnL
    rw [List.length_append, List.drop_zero]
  omega
include pm in
theorem dw_all : (upL f (n + 1) 0).length = m := by
  rw [upL_zero, pm.length_eq, List.length_map, List.length_range]
end
def bcells (m : Nat) (S : Nat -> Bool) : Obj := .cells ((List.range m).map fun j => Value.bool (S j)).toArray 4 (0, 0)
theorem bcells_get {m j : Nat} {S : Nat -> Bool} {h : Hp} {b : Nat} (hb : h[b]? = some (bcells m S)) (hj : j < m) : hcell h ⟨b, j, none⟩ = some (.bool (S j)) := hcell_of hb (by simp [hj])
theorem bcells_set {m j : Nat} {S : Nat -> Bool} {h : Hp} {b : Nat} {v : Bool} (hb : h[b]? = some (bcells m S)) : (hset h ⟨b, j, none⟩ (.bool v))[b]? = some (bcells m (u1 S j v)) := by
  rw [hset_get, if_pos rfl, hb]
  unfold bcells
  rw [map_u1 (fun z : Bool => Value.bool z)]
  rfl
def BIn (S : Nat -> Bool) (L : List Int) : Prop := ∀ j : Nat, S j = decide ((j : Int) ∈ L)
theorem BIn.add {S : Nat -> Bool} {L : List Int} {v : Int} (x : BIn S L) (v0 : 0 <= v) (hv : v ∉ L) : S v.toNat = false /\ BIn (u1 S v.toNat true) (L ++ [v]) := by
  have e : ((v.toNat : Nat) : Int) = v := Int.toNat_of_nonneg v0
  refine ⟨by rw [x, e]; exact decide_eq_false hv, fun j => ?_⟩
  by_cases h : j = v.toNat
  · subst h
    rw [u1_same, e]
    exact (decide_eq_true (by simp)).symm
  · rw [u1_ne h, x]
    have : (j : Int) ≠ v := by omega
    simp [this]
theorem pw_lt {l : List Int} (h : l.Pairwise (· < ·)) {k : Nat} (hk : k < l.length) (h0 : 0 < k) : l.getD (k - 1) 0 < l.getD k 0 := by
  have := List.pairwise_iff_getElem.1 h (k - 1) k (by omega) hk (by omega)
  rw [List.getD_eq_getElem?_getD, List.getD_eq_getElem?_getD, List.getElem?_eq_getElem (by omega), List.getElem?_eq_getElem hk]
  exact this
end
section
open Go Go.TJ Go.Proofs
variable [Dm]
theorem sx_inj {n : Nat} (B : Nat -> Nat) (m : Nat) (inj : ∀ j k, j < n -> k < n -> B j = B k -> j = k) (lt : ∀ k, k < n -> B k < m) : ∃ B' : Nat -> Nat, (∀ k, k < n -> B' k = B k) /\ ∀ j k, B' j = B' k -> j = k := by
  refine ⟨fun k => if k < n then B k else m + k, fun k hk => if_pos hk, fun j k e => ?_⟩
  dsimp only at e
  by_cases hj : j < n <;> by_cases hk : k < n
  · rw [if_pos hj, if_pos hk] at e; exact inj j k hj hk e
  · rw [if_pos hj, if_neg hk] at e; have := lt j hj; omega
  · rw [if_neg hj, if_pos hk] at e; have := lt k hk; omega
  · rw [if_neg hj, if_neg hk] at e; omega
theorem sx_back {B : Nat -> Nat} (inj : ∀ j k, B j = B k -> j = k) : ∃ idx : Nat -> Nat, ∀ k, idx (B k) = k := by
  classical
  refine ⟨fun b => if h : ∃ k, B k = b then Classical.choose h else 0, fun k => ?_⟩
  have h : ∃ j, B j = B k := ⟨k, rfl⟩
  simp only [dif_pos h]
  exact inj _ _ (Classical.choose_spec h)
set_option maxRecDepth 8000 in
end
section
open Go Go.TJ Go.Proofs
variable [Dm]
theorem deqM_congr {n cap : Nat} {rest : List Value} {B B' : Nat -> Nat} {v : Nat -> Int} {h : Hp} (r : Rep h (deqM n cap rest B v)) (hB : ∀ k, k < 4 + n -> B' k = B k) (hn : 0 < n) : Rep h (deqM n cap rest B' v) := by
  refine r.congr (fun k hk => hk) hB (fun k hk => ?_)
  show (if k = 0 then _ else if k = 1 then _ else _) = (if k = 0 then _ else if k = 1 then _ else _)
  by_cases k0 : k = 0
  · rw [if_pos k0, if_pos k0, hB 2 (by omega), hB 3 (by omega), hB 1 (by omega)]
  · by_cases k1 : k = 1
    · rw [if_neg k0, if_pos k1, if_neg k0, if_pos k1]
      congr 3
      refine List.map_congr_left fun j hj => ?_
      have := List.mem_range.1 hj
      rw [hB (4 + j) (by omega)]
    · rw [if_neg k0, if_neg k1, if_neg k0, if_neg k1]
theorem shl_ok {t : TypeId} : ∀ k : Nat, k < 6 -> binOp .shl t (.int .i64 2) (.int .u8 (k : Int)) = pure (.int .i64 ((2 ^ (k + 1) : Nat) : Int))
  | 0, _ => rfl
  | 1, _ => rfl
  | 2, _ => rfl
  | 3, _ => rfl
  | 4, _ => rfl
  | 5, _ => rfl
  | k + 6, h => by omega
set_option maxRecDepth 8000 in
set_option maxHeartbeats 16000000 in
theorem dlaw_ok {w s t F : Int} {h : Hp} {γ₀ : Gf Dy} (hst : γ₀.st = 0) (hnum : γ₀.num = 1) (hnd : ∀ (b : Nat) (o : Obj), h[b]? = some o -> o ≠ dum) (t0 : 0 <= t) (t1 : t <= 255) (wF : W64 F = F) :
    CallW Try.prog true (SitM Try.prog (XF TT dL)) 4 #[.int .i64 w, .int .i64 s, .int .u8 t, .int .i64 F] h ⟨0, γ₀⟩ (Ret fun v h' δ' => v = .bool true /\ δ'.d = 0 /\ Upd (fun _ => False) h h' /\ ((XF TT dL).jn δ'.g \/ ((XF TT dL).lone δ'.g /\ δ'.g.num = 1))) := by
  have hlo : (SitM Try.prog (XF TT dL)).lone γ₀ := ⟨by omega, fun j j0 hj => by have hj' : j < γ₀.num := hj; omega⟩
  have hsl : ∀ a, ¬ (SitM Try.prog (XF TT dL)).still γ₀ a := fun a z => by have : γ₀.st = 1 := z.1; omega
  have lft : ∀ {f : FuncId} {args : Array Value} {hh : Hp} {R : Post (Gf Dy)}, CallW Try.prog true NoS f args hh ⟨0, γ₀⟩ R -> CallW Try.prog true (SitM Try.prog (XF TT dL)) f args hh ⟨0, γ₀⟩ R := fun hc => hc.noS hsl hlo (fun z => z)
  obtain ⟨n, hn, n7⟩ : ∃ n : Nat, w % ((7 : Nat) : Int) = n /\ n <= 7 := ⟨(w % 7).toNat, by omega, by omega⟩
  obtain ⟨m, hm, m1⟩ : ∃ m : Nat, s % ((200 : Nat) : Int) = m /\ m <= 199 := ⟨(s % 200).toNat, by omega, by omega⟩
  obtain ⟨k, hk, k1⟩ : ∃ k : Nat, t.tmod 6 = k /\ k < 6 := by
    have h1 := Int.tmod_nonneg 6 t0
    have h2 := Int.tmod_lt_of_pos t (b := 6) (by decide)
    exact ⟨(t.tmod 6).toNat, by omega, by omega⟩
  obtain ⟨e, he, e1, e2⟩ : ∃ e : Nat, e = k + 1 /\ 1 <= e /\ e <= 12 := ⟨k + 1, rfl, by omega, by omega⟩
  refine CallW.start (n := 123) rfl rfl ?_
  (repeat (first | refine EK.seq ?_ | refine EK.region ?_ | refine ER.done ?_ | refine ER.assign rfl rfl rfl ?_))
  refine ER.callR rfl rfl rfl rfl rfl (lft deqworks_ok) ?_
  rintro _ h1 δ1 ⟨rfl, u1, rfl⟩
  (repeat (first | refine EK.seq ?_ | refine EK.region ?_ | refine ER.done ?_ | refine ER.move rfl rfl rfl ?_ | refine ER.assign rfl rfl rfl ?_))
  refine ER.callD rfl rfl rfl rfl rfl (lft (place_ok (n := 7) (by omega) (by omega))) ?_
  rw [hn]
  (repeat refine ER.alloc rfl rfl ?_)
  refine ER.storeNew rfl rfl rfl rfl (by simp [OneCell]) (hsl _) ?_
  refine ER.gen (fun h' => Upd (fun _ => False) h h' /\ h'[h1.size]? = some (.cells #[.int .i64 n] 3 (0, 0))) ⟨u1.trans (Upd.push _ _), get_push_new _ _⟩ ?_
  clear u1
  generalize h1.size = vN
  rintro h2 ⟨uu, N⟩
  (repeat (first | refine EK.seq ?_ | refine EK.region ?_ | refine ER.done ?_ | refine ER.move rfl rfl rfl ?_))
  refine ER.callD rfl rfl rfl rfl rfl (lft (place_ok (n := 200) (by omega) (by omega))) ?_
  rw [hm]
  (repeat refine ER.alloc rfl rfl ?_)
  refine ER.storeNew rfl rfl rfl rfl (by simp [OneCell]) (hsl _) ?_
  refine ER.gen (fun h' => Upd (fun _ => False) h h' /\ h'[vN]? = some (.cells #[.int .i64 n] 3 (0, 0)) /\ h'[h2.size]? = some (.cells #[.int .i64 m] 2 (0, 0))) ⟨uu.trans (Upd.push _ _), get_push _ N, get_push_new _ _⟩ ?_
  clear uu N
  generalize h2.size = vM
  rintro h3 ⟨uu, N, M⟩
  (repeat (first | refine EK.seq ?_ | refine EK.region ?_ | refine ER.done ?_ | refine ER.move rfl rfl rfl ?_))
  refine ER.rem (kd := .u8) rfl rfl rfl rfl (by decide) rfl ?_
  rw [hk]
  refine ER.binI2 rfl rfl rfl rfl (shl_ok k k1) ?_
  rw [show (2 ^ (k + 1) : Nat) = 2 ^ e by rw [he]]
  obtain ⟨L, hL⟩ : ∃ L : Nat, L = 2 ^ e := ⟨_, rfl⟩
  rw [<- hL]
  have L2 : 2 <= L := by rw [hL]; exact Nat.pow_le_pow_right (n := 2) (by decide) e1
  (repeat refine ER.move rfl rfl rfl ?_)
  refine ER.callR rfl rfl rfl rfl rfl (lft (deqnew_ok (n := L) (e := e) hL e1 e2 (fun _ _ _ z => z))) ?_
  rintro _ h4 δ4 ⟨rfl, u4, cap, rest, B₀, rfl, r₀, ab₀⟩
  (repeat (first | refine ER.move rfl rfl rfl ?_ | refine ER.extract rfl rfl rfl rfl ?_ | refine ER.alloc rfl rfl ?_))
  refine ER.storeNew rfl rfl rfl rfl (by simp [OneCell]) (hsl _) ?_
  have uu4 := uu.size
  refine ER.gen (fun h' => Upd (fun _ => False) h h' /\ h'[vN]? = some (.cells #[.int .i64 n] 3 (0, 0)) /\ h'[vM]? = some (.cells #[.int .i64 m] 2 (0, 0)) /\ Rep h' (deqM L cap rest B₀ (deq0 F)) /\ h'[h4.size]? = some (.cells #[.pointer (some ⟨B₀ 0, 0, none⟩)] 37 (0, 0)))
    ⟨(uu.trans u4).trans (Upd.push _ _), get_push _ (u4.get N fun z => z), get_push _ (u4.get M fun z => z), r₀.upd0 (Upd.push _ _), get_push_new _ _⟩ ?_
  replace ab₀ : ∀ k, k < 4 + L -> h.size <= B₀ k := fun k hk => Nat.le_trans uu4 (ab₀ k hk)
  clear uu N M u4 r₀ uu4
  generalize h4.size = vD
  rintro h5 ⟨uu, N, M, r₀, D⟩
  (repeat (first | refine EK.seq ?_ | refine EK.region ?_ | refine ER.done ?_ | refine EK.skip ?_ | refine ER.move rfl rfl rfl ?_ | refine ER.assign rfl rfl rfl ?_ | refine ER.load1 rfl rfl rfl (hcell_of (by assumption) rfl) ?_ | refine ER.eqV rfl rfl rfl rfl rfl ?_ | refine ER.notB rfl rfl rfl ?_ | refine ER.pickF rfl rfl rfl rfl ?_ | refine ER.cmpF rfl rfl rfl rfl rfl (by first | (dsimp only [cmpP]; omega) | exact rfl | exact Int.le_refl _) ?_ | refine EK.condF rfl ?_))
  refine ER.callD rfl rfl rfl rfl rfl (lft cnew) ?_
  (repeat refine ER.alloc rfl rfl ?_)
  refine ER.storeNew rfl rfl rfl rfl (by simp [OneCell]) (hsl _) ?_
  refine ER.gen (fun h' => Upd (fun _ => False) h5 h' /\ h'[h5.size]? = some (cellO 0) /\ h'[(h5.push (cellO 0)).size]? = some (.cells #[.pointer (some ⟨h5.size, 0, none⟩)] 40 (0, 0)))
    ⟨(Upd.push _ _).trans (Upd.push _ _), get_push _ (get_push_new _ _), get_push_new _ _⟩ ?_
  have hs5 := uu.size
  generalize (h5.push (cellO 0)).size = vE
  rintro h6 ⟨u6, Dn, E⟩
  obtain ⟨B, hB, inj⟩ := sx_inj (n := 5 + L) (fun k => if k = 4 + L then h5.size else B₀ k) h6.size (fun i j hi hj ee => by
    by_cases ei : i = 4 + L
    · by_cases ej : j = 4 + L
      · omega
      · rw [if_pos ei, if_neg ej] at ee
        have := r₀.lt (k := j) (show j < 4 + L by omega)
        have this' : B₀ j < h5.size := this
        omega
    · by_cases ej : j = 4 + L
      · rw [if_neg ei, if_pos ej] at ee
        have := r₀.lt (k := i) (show i < 4 + L by omega)
        have this' : B₀ i < h5.size := this
        omega
      · rw [if_neg ei, if_neg ej] at ee
        exact r₀.inj i j (show i < 4 + L by omega) (show j < 4 + L by omega) ee) (fun i hi => by
    by_cases ei : i = 4 + L
    · rw [if_pos ei]; exact lt_of_get Dn
    · rw [if_neg ei]
      have := r₀.lt (k := i) (show i < 4 + L by omega)
      have this' : B₀ i < h5.size := this
      have := u6.size
      omega)
  obtain ⟨idx, bi⟩ := sx_back inj
  have hB4 : ∀ k, k < 4 + L -> B k = B₀ k := fun k hk => by rw [hB k (by omega), if_neg (by omega)]
  have hBd : B (4 + L) = h5.size := by rw [hB (4 + L) (by omega), if_pos rfl]
  have r : Rep h6 (deqM L cap rest B (deq0 F)) := deqM_congr (r₀.upd0 u6) hB4 (by omega)
  have bl : ∀ k, k < 5 + L -> h.size <= B k := fun k hk => by
    by_cases ek : k = 4 + L
    · rw [ek, hBd]; exact hs5
    · rw [hB4 k (by omega)]; exact ab₀ k (by omega)
  replace uu := uu.trans u6
  replace N := u6.get N fun z => z
  replace M := u6.get M fun z => z
  replace D := u6.get D fun z => z
  rw [<- hB4 0 (by omega)] at D
  rw [<- hBd] at Dn E
  clear u6 r₀ ab₀ hB inj hB4 hBd hs5
  (repeat (first | refine EK.seq ?_ | refine EK.region ?_ | refine ER.done ?_ | refine ER.load1 rfl rfl rfl (hcell_of (by assumption) rfl) ?_ | refine ER.add (kd := .i64) rfl rfl rfl rfl (i64_in (by omega) (by omega)) ?_))
  refine ER.makeSliceD (m := n + 1) rfl rfl rfl rfl (by omega) (by omega) rfl ?_
  (repeat refine ER.alloc rfl rfl ?_)
  refine ER.storeNew rfl rfl rfl rfl (by simp [OneCell]) (hsl _) ?_
  refine ER.gen (fun h7 => Upd (fun _ => False) h6 h7 /\ h7[h6.size]? = some (.cells (List.replicate (n + 1) (Value.slice none 0 0)).toArray 31 (0, 0)) /\ h7[(Array.push h6 (Obj.cells (List.replicate (n + 1) (Value.slice none 0 0)).toArray 31 (0, 0))).size]? = some (.cells #[.slice (some ⟨h6.size, 0, none⟩) (n + 1) (n + 1)] 28 (0, 0)))
    ⟨(Upd.push _ _).trans (Upd.push _ _), get_push _ (get_push_new _ _), get_push_new _ _⟩ ?_
  have pl : h.size <= h6.size := uu.size
  generalize (Array.push h6 (Obj.cells (List.replicate (n + 1) (Value.slice none 0 0)).toArray 31 (0, 0))).size = vL
  generalize h6.size = pb at pl ⊢
  rintro h7 ⟨u7, Pb, Pv⟩
  have K : Dst h ⟨n, m, L, e, cap, rest, F, B, idx, vN, vM, vD, vE, vL, pb⟩ h7 := ⟨uu.trans u7, u7.get N fun z => z, u7.get M fun z => z, u7.get D fun z => z, u7.get E fun z => z, Pv, Pb, r.upd0 u7, u7.get Dn fun z => z, bl, bi, pl, n7, by show m <= 1000; omega, hL, ⟨e1, e2⟩, wF⟩
  clear Pb Pv uu bl bi pl r D E Dn
  replace N := u7.get N fun z => z
  clear u7 M
  (repeat (first | refine EK.seq ?_ | refine EK.region ?_ | refine ER.done ?_ | refine ER.load1 rfl rfl rfl (hcell_of (by assumption) rfl) ?_ | refine ER.add (kd := .i64) rfl rfl rfl rfl (i64_in (by omega) (by omega)) ?_))
  refine ER.makeF rfl rfl rfl rfl rfl rfl ?_
  refine ER.callR rfl rfl rfl rfl rfl (all07_ok (L := dL) (n := n + 1) (fb := 19) (R := fun _ h' δ' => δ'.d = 0 /\ ∃ hF, Dst h ⟨n, m, L, e, cap, rest, F, B, idx, vN, vM, vD, vE, vL, pb⟩ hF /\ Freed dL (dY ⟨n, m, L, e, cap, rest, F, B, idx, vN, vM, vD, vE, vL, pb⟩ (dC ⟨n, m, L, e, cap, rest, F, B, idx, vN, vM, vD, vE, vL, pb⟩ hF)) hF (n + 1) h' δ'.g) hst hnum (by omega) (by omega) fun hF B' cap' fB ib uF _ hfB hib hB1 hBk => ?_) ?_
  · refine (K.free uF hst hnum hfB (fun j hj => (hib j hj).2) hB1 hBk).mono ?_
    rintro (v | v) h' δ' z
    · exact ⟨z.2.1, hF, K.upd uF, z.2.2⟩
    · exact z.elim
  rintro _ hz ⟨dz, γz⟩ ⟨_, ed, hF, kF, fr⟩
  simp only at ed fr
  subst ed
  obtain ⟨v, T, sq, po, E⟩ := kF.fin hnd fr
  have hjn := fr.jn
  have hst2 := fr.st
  clear fr kF K hF lft hlo hsl hst hnum N
  have hlo : (SitM Try.prog (XF TT dL)).lone γz := (xf_ok TT dL dL_ok).jl _ hjn
  have hsl : ∀ a, ¬ (SitM Try.prog (XF TT dL)).still γz a := fun a z => by have : γz.st = 1 := z.1; omega
  have lft : ∀ {f : FuncId} {args : Array Value} {hh : Hp} {R : Post (Gf Dy)}, CallW Try.prog true NoS f args hh ⟨0, γz⟩ R -> CallW Try.prog true (SitM Try.prog (XF TT dL)) f args hh ⟨0, γz⟩ R := fun hc => hc.noS hsl hlo (fun z => z)
  obtain ⟨uu, N, M, D, r, v2, v3, F1, th, pm⟩ := E
  dsimp only at N M D r F1 th pm
  (repeat (first | refine EK.seq ?_ | refine EK.region ?_ | refine ER.done ?_ | refine ER.add (kd := .i64) rfl rfl rfl rfl (i64_in (by omega) (by omega)) ?_ | refine ER.load1 rfl rfl rfl (by assumption) ?_))
  refine ER.makeSliceD (m := m + 1) rfl rfl rfl rfl (by omega) (by omega) rfl ?_
  (repeat (first | refine EK.seq ?_ | refine EK.region ?_ | refine ER.done ?_ | refine EK.block ?_ | refine ER.assign rfl rfl rfl ?_))
  have htb : (Array.push hz (Obj.cells (List.replicate (m + 1) (Value.bool false)).toArray 4))[hz.size]? = some (bcells (m + 1) fun _ => false) := by
    rw [get_push_new]
    unfold bcells
    rw [List.map_const', List.length_range]
  have uT : Upd (fun b => b = hz.size) hz (Array.push hz (Obj.cells (List.replicate (m + 1) (Value.bool false)).toArray 4)) := Upd.push _ _
  generalize Array.push hz (Obj.cells (List.replicate (m + 1) (Value.bool false)).toArray 4) = h2 at htb uT ⊢
  generalize htbd : hz.size = tb at htb uT ⊢
  have hFT : ∀ b, b = tb -> hz.size <= b := fun b e => by omega
  have uuT : ∀ h', Upd (fun b => b = tb) hz h' -> Upd (fun _ => False) h h' := fun h' u => uu.over u fun b e => by have := uu.size; omega
  have hn0 : ∀ {h' : Hp} {b o : Nat} {x : Value}, Upd (fun b => b = tb) hz h' -> hcell hz ⟨b, o, none⟩ = some x -> hcell h' ⟨b, o, none⟩ = some x := fun {h' b o x} u hc => u.hcell hc fun z => by
    obtain ⟨_, _, _, h1, _⟩ := hcell_some hc
    have h2 : b < hz.size := lt_of_get h1
    have h3 : b = tb := z
    omega
  refine EK.loopInv (fun q : Nat × (Nat -> Bool) => [(18, .int .i64 q.1), (17, .int .i64 ((upL po q.1 0).length : Nat)), (16, .slice (some ⟨tb, 0, none⟩) (m + 1) (m + 1)), (10, .pointer (some ⟨vN, 0, none⟩)), (11, .pointer (some ⟨vM, 0, none⟩)), (12, .pointer (some ⟨vD, 0, none⟩)), (15, .pointer (some ⟨vL, 0, none⟩))])
    (fun q h' δ' => δ' = ⟨0, γz⟩ /\ q.1 <= n + 1 /\ Upd (fun b => b = tb) hz h' /\ h'[tb]? = some (bcells (m + 1) q.2) /\ BIn q.2 (upL po q.1 0)) (fun q => n + 1 - q.1) (0, fun _ => false) ⟨rfl, rfl, rfl, rfl, rfl, rfl, rfl, trivial⟩ ⟨rfl, Nat.zero_le _, uT, htb, fun j => by simp [upL]⟩ ?_
  clear htb uT h2
  rintro ⟨i, Sf⟩ h2 δ2 ⟨rfl, hi, uT, ht, ti⟩ again
  dsimp only at hi ht ti again ⊢
  have N' := hn0 uT N
  have M' := hn0 uT M
  have D' := hn0 uT D
  rcases Nat.lt_or_ge i (n + 1) with hlt | hge
  · (repeat (first | refine EK.seq ?_ | refine EK.region ?_ | refine ER.done ?_ | refine EK.skip ?_ | refine EK.block ?_ | refine ER.move rfl rfl rfl ?_ | refine ER.assign rfl rfl rfl ?_ | refine ER.cmpT rfl rfl rfl rfl rfl (by first | (dsimp only [cmpP]; omega) | exact rfl | exact Int.le_refl _) ?_ | refine EK.condT rfl ?_ | refine ER.load1 rfl rfl rfl (by assumption) ?_))
    refine EK.loopInv (fun q : Nat × (Nat -> Bool) => [(19, .int .i64 q.1), (17, .int .i64 ((upL po i q.1).length : Nat)), (18, .int .i64 i), (16, .slice (some ⟨tb, 0, none⟩) (m + 1) (m + 1)), (10, .pointer (some ⟨vN, 0, none⟩)), (11, .pointer (some ⟨vM, 0, none⟩)), (12, .pointer (some ⟨vD, 0, none⟩)), (15, .pointer (some ⟨vL, 0, none⟩))])
      (fun q h' δ' => δ' = ⟨0, γz⟩ /\ q.1 <= (po i).length /\ Upd (fun b => b = tb) hz h' /\ h'[tb]? = some (bcells (m + 1) q.2) /\ BIn q.2 (upL po i q.1)) (fun q => (po i).length - q.1) (0, Sf) ⟨rfl, rfl, rfl, rfl, rfl, rfl, rfl, rfl, trivial⟩ ⟨rfl, Nat.zero_le _, uT, ht, ti⟩ ?_
    clear uT ht ti h2 N' M' D'
    rintro ⟨k, Sf⟩ h2 δ2 ⟨rfl, hk, uT, ht, ti⟩ again2
    dsimp only at hk ht ti again2 ⊢
    have N' := hn0 uT N
    have M' := hn0 uT M
    have F' := F1.upd uT hFT
    have hP := F'.P
    obtain ⟨a, cap', ea, ga⟩ := (F'.p i hlt).2.val
    have hp := (F'.p i hlt).1
    rw [ea] at hp
    have hp' : hcell h2 ⟨pb, 0 + ((i : Nat) : Int).toNat * 1, none⟩ = some (.slice a (po i).length cap') := by rw [show 0 + ((i : Nat) : Int).toNat * 1 = i by simp]; exact hp
    obtain ⟨len1, len2⟩ := dw_len (k := k) pm (show i <= n by omega)
    rcases Nat.lt_or_ge k (po i).length with klt | kge
    · obtain ⟨b, eb, hb⟩ := ga k klt
      have hprev : ∀ j, j < (po i).length -> hcell h2 ⟨b, 0 + ((j : Nat) : Int).toNat * 1, none⟩ = some (.int .i64 ((po i).getD j 0)) := fun j hj => by
        obtain ⟨b', eb', hb'⟩ := ga j hj
        rw [eb] at eb'
        cases eb'
        rw [show 0 + ((j : Nat) : Int).toNat * 1 = j by simp]; exact hb'
      subst eb
      have hb' := hprev k klt
      obtain ⟨⟨v1, vm⟩, vn⟩ := dw_new pm (show i <= n by omega) klt
      have es := upL_succ (f := po) klt
      have hlast : i < n -> 0 < k -> (po i).getD (k - 1) 0 < (po i).getD k 0 := fun h1 h2 => pw_lt (th i h1) klt h2
      have hb0 : 0 < k -> hcell h2 ⟨b, 0 + ((k : Int) - 1).toNat * 1, none⟩ = some (.int .i64 ((po i).getD (k - 1) 0)) := fun h0 => by
        have := hprev (k - 1) (by omega)
        rw [show 0 + ((k : Int) - 1).toNat * 1 = 0 + ((k - 1 : Nat) : Int).toNat * 1 by omega]
        exact this
      generalize (po i).getD (k - 1) 0 = u at hlast hb0
      generalize (po i).getD k 0 = x at hb' hb v1 vm vn es hlast
      obtain ⟨tz, ti'⟩ := ti.add (v := x) (by omega) vn
      rw [<- es] at ti'
      have hc := bcells_get (j := x.toNat) ht (by omega)
      rw [tz] at hc
      have hc' : hcell h2 ⟨tb, 0 + x.toNat * 1, none⟩ = some (.bool false) := by rw [show 0 + x.toNat * 1 = x.toNat by omega]; exact hc
      have ht' := bcells_set (j := x.toNat) (v := true) ht
      have u' : Upd (fun b => b = tb) h2 (hset h2 ⟨tb, x.toNat, none⟩ (.bool true)) := Upd.hset _ _ _ rfl
      have vv1 : x < ((m + 1 : Nat) : Int) := by omega
      have vv0 : 0 <= x := by omega
      by_cases ci : i < n
      · by_cases ck : 0 < k
        · have hb0' := hb0 ck
          have hl' := hlast ci ck
          (repeat (first | refine EK.seq ?_ | refine EK.region ?_ | refine ER.done ?_ | refine EK.skip ?_ | refine EK.block ?_ | refine ER.move rfl rfl rfl ?_ | refine ER.assign rfl rfl rfl ?_ | refine ER.pickT rfl rfl rfl rfl ?_ | refine ER.pickF rfl rfl rfl rfl ?_ | refine ER.cmpT rfl rfl rfl rfl rfl (by first | (dsimp only [cmpP]; omega) | exact rfl | exact Int.le_refl _) ?_ | refine ER.cmpF rfl rfl rfl rfl rfl (by first | (dsimp only [cmpP]; omega) | exact rfl | exact Int.le_refl _) ?_ | refine ER.sub' (kd := .i64) rfl rfl rfl rfl (i64_in (by omega) (by omega)) ?_ | refine ER.len1 rfl rfl rfl ?_ | refine ER.indexSl rfl rfl rfl rfl (by omega) (by omega) ?_ | refine EK.condT rfl ?_ | refine EK.condF rfl ?_ | refine ER.load1 rfl rfl rfl (by assumption) ?_))
          refine ER.store1 rfl rfl rfl (by simp [OneCell]) ⟨_, hc'⟩ (hfroz_of (by unfold bcells at ht; exact ht)) (hsl _) ?_
          rw [show 0 + x.toNat * 1 = x.toNat by omega]
          (repeat (first | refine EK.region ?_ | refine ER.done ?_ | refine EK.inBlock ?_ | refine ER.move rfl rfl rfl ?_ | refine ER.assign rfl rfl rfl ?_ | refine ER.add (kd := .i64) rfl rfl rfl rfl (i64_in (by omega) (by omega)) ?_))
          refine EK.back (again2 (k + 1, u1 Sf x.toNat true) _ _ (by dsimp only; omega) ⟨rfl, klt, uT.trans u', ht', ti'⟩) ⟨rfl, ?_, rfl, rfl, rfl, rfl, rfl, rfl, trivial⟩
          show some (Value.int .i64 (((upL po i k).length : Int) + 1)) = some (Value.int .i64 ((upL po i (k + 1)).length : Nat))
          rw [es, List.length_append]
          rfl
        · skip
          (repeat (first | refine EK.seq ?_ | refine EK.region ?_ | refine ER.done ?_ | refine EK.skip ?_ | refine EK.block ?_ | refine ER.move rfl rfl rfl ?_ | refine ER.assign rfl rfl rfl ?_ | refine ER.no rfl rfl ?_ | refine ER.pickT rfl rfl rfl rfl ?_ | refine ER.pickF rfl rfl rfl rfl ?_ | refine ER.cmpT rfl rfl rfl rfl rfl (by first | (dsimp only [cmpP]; omega) | exact rfl | exact Int.le_refl _) ?_ | refine ER.cmpF rfl rfl rfl rfl rfl (by first | (dsimp only [cmpP]; omega) | exact rfl | exact Int.le_refl _) ?_ | refine ER.len1 rfl rfl rfl ?_ | refine ER.indexSl rfl rfl rfl rfl (by omega) (by omega) ?_ | refine EK.condT rfl ?_ | refine EK.condF rfl ?_ | refine ER.load1 rfl rfl rfl (by assumption) ?_))
          refine ER.store1 rfl rfl rfl (by simp [OneCell]) ⟨_, hc'⟩ (hfroz_of (by unfold bcells at ht; exact ht)) (hsl _) ?_
          rw [show 0 + x.toNat * 1 = x.toNat by omega]
          (repeat (first | refine EK.region ?_ | refine ER.done ?_ | refine EK.inBlock ?_ | refine ER.move rfl rfl rfl ?_ | refine ER.assign rfl rfl rfl ?_ | refine ER.add (kd := .i64) rfl rfl rfl rfl (i64_in (by omega) (by omega)) ?_))
          refine EK.back (again2 (k + 1, u1 Sf x.toNat true) _ _ (by dsimp only; omega) ⟨rfl, klt, uT.trans u', ht', ti'⟩) ⟨rfl, ?_, rfl, rfl, rfl, rfl, rfl, rfl, trivial⟩
          show some (Value.int .i64 (((upL po i k).length : Int) + 1)) = some (Value.int .i64 ((upL po i (k + 1)).length : Nat))
          rw [es, List.length_append]
          rfl
      · skip
        (repeat (first | refine EK.seq ?_ | refine EK.region ?_ | refine ER.done ?_ | refine EK.skip ?_ | refine EK.block ?_ | refine ER.move rfl rfl rfl ?_ | refine ER.assign rfl rfl rfl ?_ | refine ER.no rfl rfl ?_ | refine ER.pickF rfl rfl rfl rfl ?_ | refine ER.cmpT rfl rfl rfl rfl rfl (by first | (dsimp only [cmpP]; omega) | exact rfl | exact Int.le_refl _) ?_ | refine ER.cmpF rfl rfl rfl rfl rfl (by first | (dsimp only [cmpP]; omega) | exact rfl | exact Int.le_refl _) ?_ | refine ER.len1 rfl rfl rfl ?_ | refine ER.indexSl rfl rfl rfl rfl (by omega) (by omega) ?_ | refine EK.condT rfl ?_ | refine EK.condF rfl ?_ | refine ER.load1 rfl rfl rfl (by assumption) ?_))
        refine ER.store1 rfl rfl rfl (by simp [OneCell]) ⟨_, hc'⟩ (hfroz_of (by unfold bcells at ht; exact ht)) (hsl _) ?_
        rw [show 0 + x.toNat * 1 = x.toNat by omega]
        (repeat (first | refine EK.region ?_ | refine ER.done ?_ | refine EK.inBlock ?_ | refine ER.move rfl rfl rfl ?_ | refine ER.assign rfl rfl rfl ?_ | refine ER.add (kd := .i64) rfl rfl rfl rfl (i64_in (by omega) (by omega)) ?_))
        refine EK.back (again2 (k + 1, u1 Sf x.toNat true) _ _ (by dsimp only; omega) ⟨rfl, klt, uT.trans u', ht', ti'⟩) ⟨rfl, ?_, rfl, rfl, rfl, rfl, rfl, rfl, trivial⟩
        show some (Value.int .i64 (((upL po i k).length : Int) + 1)) = some (Value.int .i64 ((upL po i (k + 1)).length : Nat))
        rw [es, List.length_append]
        rfl
    · obtain rfl : k = (po i).length := by omega
      rw [upL_end] at ti
      (repeat (first | refine EK.seq ?_ | refine EK.region ?_ | refine ER.done ?_ | refine EK.inBlock ?_ | refine ER.move rfl rfl rfl ?_ | refine ER.assign rfl rfl rfl ?_ | refine ER.cmpF rfl rfl rfl rfl rfl (by first | (dsimp only [cmpP]; omega) | exact rfl | exact Int.le_refl _) ?_ | refine ER.add (kd := .i64) rfl rfl rfl rfl (i64_in (by omega) (by omega)) ?_ | refine ER.len1 rfl rfl rfl ?_ | refine ER.indexSl rfl rfl rfl rfl (by omega) (by omega) ?_ | refine EK.condF rfl ?_ | refine EK.exit rfl ?_ | refine ER.load1 rfl rfl rfl (by assumption) ?_))
      refine EK.back (again (i + 1, Sf) _ _ (by dsimp only; omega) ⟨rfl, hlt, uT, ht, ti⟩) ⟨rfl, ?_, rfl, rfl, rfl, rfl, rfl, trivial⟩
      show some (Value.int .i64 ((upL po i (po i).length).length : Nat)) = some (Value.int .i64 ((upL po (i + 1) 0).length : Nat))
      rw [upL_end]
  · obtain rfl : i = n + 1 := by omega
    clear again
    have e17 := dw_all pm
    rw [e17]
    (repeat (first | refine EK.seq ?_ | refine EK.region ?_ | refine ER.done ?_ | refine ER.move rfl rfl rfl ?_ | refine ER.cmpT rfl rfl rfl rfl rfl (by first | (dsimp only [cmpP]; omega) | exact rfl | exact Int.le_refl _) ?_ | refine ER.cmpF rfl rfl rfl rfl rfl (by first | (dsimp only [cmpP]; omega) | exact rfl | exact Int.le_refl _) ?_ | refine EK.condF rfl ?_ | refine EK.exit rfl ?_ | refine ER.load1 rfl rfl rfl (by assumption) ?_))
    refine ER.callD rfl rfl rfl rfl rfl (lft (dlen_ok (c := 0) (T := T) (r.upd uT fun j hj e => by
      have := r.lt hj
      have this' : B j < hz.size := this
      have e' : B j = tb := e
      omega) v2 v3 (by omega))) ?_
    (repeat (first | refine ER.done ?_ | refine ER.assign rfl rfl rfl ?_ | refine ER.pickT rfl rfl rfl rfl ?_ | refine ER.cmpT rfl rfl rfl rfl rfl (by first | (dsimp only [cmpP]; omega) | exact rfl | exact Int.le_refl _) ?_ | refine EK.ret ?_))
    exact EU.ret1 rfl rfl ⟨rfl, rfl, uuT _ uT, .inl hjn⟩
end
end Go.Proofs.Ytakioblpgmjdaaa
namespace Go.TJ
section
variable [Dm]
open Go Go.Conc
open Go.ConcN (upd upd_ne upd_same)
open Go.ConcM (OsLater)
variable {Γ : Type}
theorem company_runG {P : Program} {X : Fp Γ} (hX : X.Ok) {f : FuncId} {args : Array Value} {W : World} {γ₀ : Γ} {R : Value -> Hp -> Prop} (hini : P.inits.idxOf? f = none) (hn : X.num γ₀ = 1) (hj : ¬ X.jn γ₀) (hinv : X.Inv γ₀ W.heap) (hcf : ∀ b, ¬ (X.cf γ₀).shb b /\ ¬ (X.cf γ₀).ro b) (hfin : ∀ i, X.fin γ₀ i = none)
    (hc : CallW P true (SitM P X) f args W.heap ⟨0, γ₀⟩ fun
      | .ret v, h', δ' => δ'.d = 0 /\ (X.jn δ'.g \/ (X.lone δ'.g /\ X.num δ'.g = 1)) /\ ∀ H, Part True h' H -> R v H
      | .pan _, _, _ => False) :
    ∃ M last o w' t', runNT P (M + 1) (solo (G (Frame.enter P f args .normal) []) W) #[] = (.ended o w', t') /\ runN P M (solo (G (Frame.enter P f args .normal) []) W) = .next last /\ step P last = .ended o w' /\
      Conc.Good P (fun v W' => R v W'.heap /\ SameL W W') last o w' t' := by
  obtain ⟨N, m, T, hr, γ, gs, w, hs, γs, ts, sl, g', rfl, C, hg, hs', a, todo, mode, fn, rfl, hda, hf, hend⟩ := companyF hX (hc .normal (by simp) ⟨[], calm_normal []⟩) (sl := none) (cfg_one (g := G (Frame.enter P f args .normal) []) hX hn hj hinv hcf hfin) (if_pos rfl) rfl rfl
  rcases hend with ⟨rfl, v, hv, hd0, hjn, hR⟩ | ⟨_, _, hp⟩
  · obtain ⟨N₂, m₁, T₂, γ₂, gs₂, w₂, hs₂, γs₂, ts₂, sl₂, hr₂, hst, C₂, K₂, hg₂, ⟨hmg, hmt⟩, _⟩ := turns hX (g0 := G { (fb f .normal).at a todo with mode := .returning } []) rfl (Done := fun _ _ _ _ _ _ _ _ => True) (fun _ _ _ _ _ _ _ _ _ _ _ => .inr trivial) ts γ gs w T hs γs sl C ⟨rfl, rfl, rfl, SameL.refl w, rfl⟩ ⟨_, hg, .inl rfl⟩
    have M₂ := C₂.mi
    have hpos := M₂.pos
    have hcfs := hX.cfR _ _ _ (M₂.rel 0 hpos (fun z => absurd z (Nat.lt_irrefl _)))
    have hP := M₂.part 0 hpos
    rw [K₂.h] at hP
    obtain ⟨es, hrun, hes⟩ := hv w₂ hP.weak
    have hstep := stepG_last (w := w₂) (todo := todo) hda hf hini hrun
    have hrt := runT_many_ended (P := P) (sl := sl₂) (i := 0) hg₂ hstep
    obtain ⟨hseen, _⟩ := seen_reads (Γ := Γ) (P := P) (S := fun ad : Addr => (X.cf γ₂).ro ad.block) (f := f) hes
    have hl : X.lone (γs₂ 0) := by rw [K₂.γ]; exact hjn.elim (hX.jl _) fun z => z.1
    have hγ : γ₂ = γs₂ 0 := M₂.lone hl
    have hjn₂ : X.jn γ₂ \/ X.num γ₂ = 1 := by rw [hγ, K₂.γ]; exact hjn.imp id fun z => z.2
    have M₃ := M₂.own hX hpos (fun z => absurd z (Nat.lt_irrefl _)) f (G { (fb f .normal).at a todo with mode := .returning } []).frame.place (L := True) (S := fun ad : Addr => (X.cf γ₂).ro ad.block) (hv := hs 0) (h' := hs 0) (H' := w₂.heap) (es := seen P f es) (fun _ => Iff.rfl) (fun _ => trivial) (fun b => by rw [K₂.h])
      (Chg.refl ⟨hP.get, hP.size, fun _ => hP.same ⟨rfl, hl⟩⟩) hseen (fun z => absurd z (Nat.lt_irrefl _))
    have hdone : ∀ i, 0 < i -> i < gs₂.size -> X.done i γ₂ := fun i h0 hi => hX.lone γ₂ i (by rw [hγ]; exact hl) h0 (by rw [M₂.num]; exact hi)
    have hq : ∀ i x, 0 < i -> gs₂[i]? = some x -> ∃ n, QuitsD P n (Deaf T₂ i) x := fun i x h0 hi => by
      have hlt := (Array.getElem?_eq_some_iff.1 hi).1
      obtain ⟨g0, h1, h2⟩ := C₂.wk i x h0 hi
      have hd := hdone i h0 hlt
      rw [M₂.back i h0 hlt (hX.fin i γ₂ h0 hd)] at h1
      rcases h2 with rfl | ⟨_, _, hb⟩
      · exact runsN_quits h0 _ _ _ _ ((M₂.dn i h0 hlt).1 hd) h1
      · exact absurd hb (hX.blkd i γ₂ h0 hd)
    refine ⟨N + N₂, _, .done v, w₂, _, runNT_succ_end (runNT_then hr hr₂) (hst.trans hrt), runN_of_runNT _ _ _ _ _ (runNT_then hr hr₂), ?_, v, rfl, ⟨hR w₂.heap ⟨hP.get, hP.size, fun _ => hP.same ⟨rfl, hl⟩⟩, hs'.trans K₂.w⟩, M₃.tf.clean, hjn₂.elim M₃.tf.over fun z => M₃.tf.overLone (M₂.num.symm.trans z), ⟨fun x hx => ?_, ?_⟩, fun j x hx hj => ?_⟩
    · rw [step, hst, hrt]
    · rw [hmg] at hx
      obtain ⟨j, hj⟩ := List.mem_iff_getElem?.1 hx
      rw [List.getElem?_drop] at hj
      obtain ⟨n, hn⟩ := hq (1 + j) x (by omega) (by simpa using hj)
      exact ⟨n, hn.leaves⟩
    · rw [hmt]; rfl
    · rw [hmg] at hx
      obtain ⟨n, hn⟩ := hq j x (by omega) hx
      refine ⟨n, ?_⟩
      have e : (T₂ ++ MemOp.ofEvents 0 f (G { (fb f .normal).at a todo with mode := .returning } []).frame.place (seen P f es)).deaf j (T₂ ++ MemOp.ofEvents 0 f (G { (fb f .normal).at a todo with mode := .returning } []).frame.place (seen P f es)).size = Deaf T₂ j :=
        Deaf_other T₂ (g := j) (g' := 0) (Ne.symm hj) _ fun op hop => by obtain ⟨e, _, rfl⟩ := Go.Conc.mem_ofEvents hop; rfl
      rw [show (G { (fb f .normal).at a todo with mode := .returning } []).frame.fn = f from rfl, e]
      exact hn.hears _
  · exact hp.elim
end
end Go.TJ
