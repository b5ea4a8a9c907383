/- Steps of the walk and of the plain law (PfE to TjGR). Conditions: as each lemma says. -/
import Derived.Laws.Bits64
import Derived.Test.YtakioblpgmjdaaaPFE
set_option linter.unusedSectionVars false
set_option linter.unusedVariables false
set_option linter.unusedSimpArgs false
namespace Go.Proofs.Ytakioblpgmjdaaa
section
open Go Go.TJ Go.Proofs
variable [Dm]
structure Ct (i g p : Nat) (y : Py) : Prop where
  ph : y.ph g (p % 64) = 3
  ow : y.ow g (p % 64) = i
  ps : y.ps g (p % 64) = p
section
variable {i g p : Nat} {c : Pc'} {y y' : Py} {z : Int}
theorem Ct.rel (k : Ct i g p y) (h0 : 0 < i) (r : LRel pL i y y') : Ct i g p y' := by
  obtain ⟨p1, p2, p3, _⟩ := (show Pr i y y' from r.law).own h0 g _ k.ow (.inr k.ph)
  exact ⟨p2.trans k.ph, p1, p3.trans k.ps⟩
theorem Ct.slot (k : Ct i g p y) (h0 : 0 < i) (r : LRel pL i y y') (hc : y.c = c) (hz : y.v (c.B (kSlot g (p % 64))) = z) : y'.v (c.B (kSlot g (p % 64))) = z := by
  obtain ⟨_, _, _, p4⟩ := (show Pr i y y' from r.law).own h0 g _ k.ow (.inr k.ph)
  rw [hc] at p4
  exact p4.trans hz
end
section
variable {h : Hp} {δ : Ix (Gf Py)} {i : Nat} {c : Pc'} {pu po : List Int} {bd : Nat} {sp sq : Value} {capL : Nat} {capP : Nat -> Nat}
set_option maxRecDepth 8000 in
set_option maxHeartbeats 4000000 in
theorem ptake_w (hA : Idle pL i δ.g) (hi : i <= c.W) (o : OwnP i c none pu po bd sp sq δ.g.y) (hbd : 2 <= bd) (hL8 : c.L <= 8) (hro : ∀ b, c.ro b -> b < c.top) (htop : c.top <= h.size) (m : KP c capL capP h) :
    CallW Try.prog false (SitW Try.prog (XF TT pL) i) 57 #[ptr (c.B kTop), .pointer none] h δ (Ret fun w h' δ' => Upd (fun _ => False) h h' /\ δ'.d = δ.d /\ δ'.g.wg = δ.g.wg /\ Idle pL i δ'.g /\ ((w = .tuple #[.int .i64 0, .int .i64 0, .bool false] /\ OwnP i c none pu po bd sp sq δ'.g.y) \/ ∃ (g : Nat) (z : Int), g < c.L /\ LvOk c.L g z /\ w = .tuple #[.int .i64 z, .int .i64 g, .bool true] /\ OwnP i c none pu (po ++ [z]) (bd - 2) sp sq δ'.g.y)) := by
  have i0 := hA.i0
  have mt := m.tk
  refine CallW.start (n := 75) rfl rfl ?_
  (repeat (first | refine EK.seq ?_ | refine EK.region ?_ | refine ER.done ?_ | refine EK.skip ?_ | refine EK.block ?_ | refine ER.move rfl rfl rfl ?_ | refine ER.assign rfl rfl rfl ?_ | refine ER.nilCheck rfl rfl rfl ?_ | refine ER.fieldAddr rfl rfl rfl ?_ | refine ER.eqV rfl rfl rfl rfl rfl ?_ | refine ER.pickF rfl rfl rfl rfl ?_ | refine EK.condF rfl ?_ | refine ER.load1 rfl rfl rfl (by assumption) ?_))
  refine EK.loopInv (fun _ : Nat => [(0, ptr (c.B kTop)), (1, .pointer none)]) (fun s h2 δ2 => Upd (fun _ => False) h h2 /\ δ2.d = δ.d /\ δ2.g.wg = δ.g.wg /\ Idle pL i δ2.g /\ OwnP i c none pu po bd sp sq δ2.g.y /\ pL.pairs δ2.g.y <= s) (fun s => s) (pL.pairs δ.g.y) ⟨rfl, rfl, trivial⟩ ⟨Upd.refl _ _, rfl, rfl, hA, o, Nat.le_refl _⟩ ?_
  clear mt
  rintro s h1 ⟨d1, γ1⟩ ⟨ua, e1, w1, a1, o1, p1⟩ again
  simp only at e1 w1 a1 o1 p1
  have hs1 := ua.size
  (repeat (first | refine EK.seq ?_ | refine EK.region ?_ | refine EK.block ?_ | refine ER.move rfl rfl rfl ?_))
  refine ER.callR rfl rfl rfl rfl rfl (looks_w (s := s) a1 o1 hL8 hro (by omega) p1 (m.upd ua)) ?_
  rintro _ h2 ⟨d2, γ2⟩ ⟨H, rfl, ub, e2, w2, a2, o2, k2⟩
  simp only at e2 w2 a2 o2 k2
  have hs2 := ub.size
  (repeat (first | refine ER.move rfl rfl rfl ?_ | refine ER.extract rfl rfl rfl rfl ?_))
  refine ER.allocM (X := XF TT pL) (i := i) (z := .agg (cellsH fun _ => (false, 0, 0)).toArray) make_w rfl rfl (fun _ => idle_fin a2) fun N hN => ?_
  have up := Upd.pad (h := h2) (fun _ => False) hN
  have eN : N = (padTo h2 N).size := (padTo_size hN).symm
  have u3 := (ua.trans ub).trans up
  clear up
  generalize padTo h2 N = h3 at eN u3 ⊢
  subst eN
  have hs3 := u3.size
  change ER _ _ _ _ _ _ _ _ _ _ (h3.push (headsO fun _ => (false, 0, 0))) _ _
  refine ER.storeN (vs := cellsH H) rfl rfl rfl rfl (cellsH_one H) (fun j hj => ⟨?_, hfroz_of (get_push_new _ _), w_still o2.cc hro (by omega)⟩) ?_
  · exact ⟨_, heads_all (get_push_new h3 (headsO fun _ => (false, 0, 0))) j _ (List.getElem?_eq_getElem (show j < (cellsH fun _ => (false, 0, 0)).length from hj))⟩
  rw [heads_new]
  have hb4 := get_push_new h3 (headsO H)
  have u4 : Upd (fun _ => False) h (h3.push (headsO H)) := u3.trans (Upd.push _ _)
  generalize h3.push (headsO H) = h4 at hb4 u4 ⊢
  have m4 := m.upd u4
  cases hb : bst H 8 with
  | none =>
    have hv : (bv none : Int) = -1 := rfl
    (repeat (first | refine EK.seq ?_ | refine EK.region ?_ | refine ER.done ?_ | refine ER.move rfl rfl rfl ?_ | refine ER.assign rfl rfl rfl ?_ | refine ER.cmpT rfl rfl rfl rfl rfl (by first | (dsimp only [cmpP]; omega) | exact rfl | exact Int.le_refl _) ?_ | refine EK.condT rfl ?_ | refine EK.ret ?_))
    exact EU.ret3 rfl rfl rfl rfl ⟨u4, e2.trans e1, w2.trans w1, a2, .inl ⟨rfl, o2⟩⟩
  | some b =>
    obtain ⟨hb8, hbt⟩ := bst_lt hb
    obtain ⟨hbL, p, hHp, hp, co2, cf2⟩ := (k2 b).2 hbt
    have hlt : p % 64 < 64 := Nat.mod_lt _ (by omega)
    have hv : (bv (some b) : Int) = b := rfl
    rw [hv]
    have cA : hcell h4 ⟨h3.size, 0 + b * 3 + 1, none⟩ = some (.int .i64 (p : Int)) := by
      have := heads_row hb4 hb8 1 _ rfl
      rw [hHp] at this
      exact this
    have cL := m4.lv
    have cV := m4.lev b hbL
    (repeat (first | refine EK.seq ?_ | refine EK.region ?_ | refine ER.done ?_ | refine EK.skip ?_ | refine ER.move rfl rfl rfl ?_ | refine ER.assign rfl rfl rfl ?_ | refine ER.cmpF rfl rfl rfl rfl rfl (by first | (dsimp only [cmpP]; omega) | exact rfl | exact Int.le_refl _) ?_ | refine EK.condF rfl ?_))
    refine EK.regionAny (fun h' => h' = h4) ?_ (hDu := a2.at.nd)
    have hZ : h4 = h4 := rfl
    refine EA.tMove 0 rfl (by kernel_rfl) rfl rfl rfl rfl hZ ?_
    refine EA.tNil 1 rfl (by kernel_rfl) rfl rfl rfl rfl hZ ?_
    refine EA.tField 2 rfl (by kernel_rfl) rfl rfl rfl rfl hZ ?_
    refine EA.tLoad 3 rfl (by kernel_rfl) rfl rfl rfl rfl (fun _ hz => hz ▸ cL) hZ ?_
    refine EA.tMove 4 rfl (by kernel_rfl) rfl rfl rfl rfl hZ ?_
    refine EA.tIdxS 5 rfl (by kernel_rfl) rfl rfl rfl rfl rfl (by omega) (by omega) hZ ?_
    refine EA.tLoad 6 rfl (by kernel_rfl) rfl rfl rfl rfl (fun _ hz => hz ▸ cV) hZ ?_
    refine EA.tMove 7 rfl (by kernel_rfl) rfl rfl rfl rfl hZ ?_
    refine EA.tIdxA 8 rfl (by kernel_rfl) rfl rfl rfl rfl rfl (by omega) (by omega) hZ ?_
    refine EA.tField 9 rfl (by kernel_rfl) rfl rfl rfl rfl hZ ?_
    refine EA.tLoad 10 rfl (by kernel_rfl) rfl rfl rfl rfl (fun _ hz => hz ▸ cA) hZ ?_
    refine EA.tAssign 11 rfl (by kernel_rfl) rfl rfl rfl rfl hZ ?_
    refine EA.tAssign 12 rfl (by kernel_rfl) rfl rfl rfl rfl hZ ?_
    refine EA.done (by kernel_rfl) ?_
    clear hZ cA cL cV
    have mo := m4.out b hbL
    (repeat (first | refine EK.seq ?_ | refine EK.region ?_ | refine ER.move rfl rfl rfl ?_ | refine ER.nilCheck rfl rfl rfl ?_ | refine ER.fieldAddr rfl rfl rfl ?_ | refine ER.add (kd := .i64) rfl rfl rfl rfl (i64_in (by omega) (by omega)) ?_ | refine ER.load1 rfl rfl rfl (by assumption) ?_))
    refine ER.callR rfl rfl rfl rfl rfl (ccas_f (F := fun v y => (v = .bool true /\ ∃ z : Int, LvOk c.L b z /\ OwnP i c (some (b, p % 64)) pu (po ++ [z]) (bd - 1) sp sq y /\ Ct i b p y /\ y.v (c.B (kSlot b (p % 64))) = z) \/ (v = .bool false /\ OwnP i c none pu po bd sp sq y /\ pL.pairs y < s)) pL_ok a2 (b := c.B (kOut b)) (mem_out hbL o2.cc) fun y₁ q1 j1 => ?_) ?_
    · have o1' := o2.rel i0 q1
      have ec := o1'.cc
      have hg' : b < y₁.c.L := by rw [ec]; exact hbL
      have co1 := co2.rel j1 hg' q1
      have cf1 := cf2.rel co2 q1
      have hvo := j1.vo b hg'
      rw [ec] at hvo
      refine ⟨fun e => ?_, fun e => ⟨y₁, LMove.none pL_ok j1, .inr ⟨rfl, o1', co1.ne fun e' => e ?_⟩⟩⟩
      · have e' : y₁.v (c.B (kOut b)) = p := e
        rw [hvo] at e'
        have eO : y₁.O b = p := by omega
        obtain ⟨f1, f2⟩ := cf1 eO
        have hbd1 := o1'.bd
        have st := ptake_step (i := i) (g := b) j1 i0 (by rw [ec]; omega) hg' (by rw [eO]; exact f1) (by rw [eO]; exact f2) (by omega)
        rw [ec] at st
        have hlev := j1.lev b _ hg' hlt (.inl f1)
        rw [ec] at hlev
        have k1 : Ct i b p (ptakY y₁ i b) := ⟨by show u2 y₁.ph b (y₁.O b % 64) 3 b (p % 64) = 3; rw [eO, u2_same], by show u2 y₁.ow b (y₁.O b % 64) i b (p % 64) = i; rw [eO, u2_same], f2⟩
        have z1 : (ptakY y₁ i b).v (c.B (kSlot b (p % 64))) = y₁.v (c.B (kSlot b (p % 64))) := u1_ne fun e => by
          rw [<- ec] at e
          cases j1.inj _ _ e
        refine ⟨ptakY y₁ i b, st, ?_, fun y₂ q2 => .inl ⟨rfl, _, hlev, OwnP.rel (y := ptakY y₁ i b) ⟨ec, o1'.pu, ?_, ?_, o1'.sp, o1'.sq, fun a' b' ho hph => ?_⟩ i0 q2, k1.rel i0 q2, k1.slot i0 q2 ec z1⟩⟩
        · show u1 y₁.v (y₁.c.B (kOut b)) _ (c.B (kOut b)) = _
          rw [ec, u1_same, eO]
          rfl
        · show u1 y₁.po i (y₁.po i ++ [y₁.v (y₁.c.B (kSlot b (y₁.O b % 64)))]) i = _
          rw [u1_same, o1'.po, ec, eO]
        · show bd - 1 <= u1 y₁.bd i _ i
          rw [u1_same]; omega
        · by_cases e : a' = b /\ b' = p % 64
          · rw [e.1, e.2]
          · have e1 : (ptakY y₁ i b).ow a' b' = y₁.ow a' b' := by
              show u2 y₁.ow b (y₁.O b % 64) i a' b' = _
              rw [eO]; exact u2_ne e
            have e2 : (ptakY y₁ i b).ph a' b' = y₁.ph a' b' := by
              show u2 y₁.ph b (y₁.O b % 64) 3 a' b' = _
              rw [eO]; exact u2_ne e
            rw [e1] at ho
            rw [e2] at hph
            cases o1'.own a' b' ho hph
      · show y₁.v (c.B (kOut b)) = _
        rw [hvo, e']
    rintro v h5 ⟨d5, γ5⟩ ⟨rfl, e5, w5, a5, ⟨rfl, z, hz, o5, k5, z5⟩ | ⟨rfl, o5, p5⟩⟩
    · simp only at e5 w5 a5 o5 k5 z5
      have mp2 := m4.pl b (p % 64) 2 hbL hlt (by omega)
      (repeat (first | refine EK.seq ?_ | refine EK.region ?_ | refine ER.done ?_ | refine EK.skip ?_ | refine ER.move rfl rfl rfl ?_ | refine ER.notB rfl rfl rfl ?_ | refine EK.condF rfl ?_))
      refine ER.callD rfl rfl rfl rfl rfl (pat_g (m4.pls b hbL) (by omega) a5.at.nd) ?_
      (repeat (first | refine ER.move rfl rfl rfl ?_ | refine ER.nilCheck rfl rfl rfl ?_ | refine ER.fieldAddr rfl rfl rfl ?_ | refine ER.load1 rfl rfl rfl (by assumption) ?_))
      refine ER.callR rfl rfl rfl rfl rfl (cload_f (F := fun v y => v = .int .i64 z /\ OwnP i c (some (b, p % 64)) pu (po ++ [z]) (bd - 1) sp sq y /\ Ct i b p y) pL_ok a5 (b := c.B (kSlot b (p % 64))) (mem_slot hbL o5.cc) fun y₁ q1 j1 => ?_) ?_
      · exact ⟨y₁, LMove.none pL_ok j1, congrArg (Value.int .i64) (k5.slot i0 q1 o5.cc z5), o5.rel i0 q1, k5.rel i0 q1⟩
      rintro v h6 ⟨d6, γ6⟩ ⟨rfl, e6, w6, a6, rfl, o6, k6⟩
      simp only at e6 w6 a6 o6 k6
      have mp0 := m4.pl b (p % 64) 0 hbL hlt (by omega)
      have mpl := m4.pls b hbL
      clear mp2 mo
      (repeat (first | refine EK.seq ?_ | refine ER.done ?_ | refine ER.assign rfl rfl rfl ?_))
      refine EK.regionAny (fun h' => hcell h' ⟨c.B (kLev b), 2, none⟩ = some (.slice (some ⟨c.B (kPls b), 0, none⟩) 64 (capP b)) /\ hcell h' ⟨c.B (kPls b), 0 + (p % 64) * 3 + 0, none⟩ = some (ptr (c.B (kTurn b (p % 64))))) ?_ (hDu := a6.at.nd)
      have hZ := And.intro mpl mp0
      refine EA.tMove 0 rfl (by kernel_rfl) rfl rfl rfl rfl hZ ?_
      refine EA.tMove 1 rfl (by kernel_rfl) rfl rfl rfl rfl hZ ?_
      refine EA.tMove 6 rfl (by kernel_rfl) rfl rfl rfl rfl hZ ?_
      refine EA.tMove 7 rfl (by kernel_rfl) rfl rfl rfl rfl hZ ?_
      refine EA.tMove 8 rfl (by kernel_rfl) rfl rfl rfl rfl hZ ?_
      refine EA.tNil 9 rfl (by kernel_rfl) rfl rfl rfl rfl hZ ?_
      refine EA.tField 10 rfl (by kernel_rfl) rfl rfl rfl rfl hZ ?_
      refine EA.tLoad 11 rfl (by kernel_rfl) rfl rfl rfl rfl (fun _ hz => hz.1) hZ ?_
      refine EA.tLen1 12 rfl (by kernel_rfl) rfl rfl rfl rfl hZ ?_
      refine EA.tAdd (kd := .i64) 13 rfl (by kernel_rfl) rfl rfl rfl rfl rfl (i64_in (by omega) (by omega)) hZ ?_
      refine EA.callD 2 rfl (by kernel_rfl) rfl rfl rfl rfl rfl rfl (pat_g mpl (by omega) a6.at.nd) hZ ?_
      refine EA.tNil 3 rfl (by kernel_rfl) rfl rfl rfl rfl hZ ?_
      refine EA.tField 4 rfl (by kernel_rfl) rfl rfl rfl rfl hZ ?_
      refine EA.tLoad 5 rfl (by kernel_rfl) rfl rfl rfl rfl (fun _ hz => hz.2) hZ ?_
      refine EA.callR 14 rfl (by kernel_rfl) rfl rfl rfl rfl rfl rfl (cstore_f (F := fun _ y => OwnP i c none pu (po ++ [z]) (bd - 2) sp sq y) pL_ok a6 (b := c.B (kTurn b (p % 64))) (mem_turn hbL o6.cc) fun y₁ q1 j1 => ?_) ?_
      · have o1' := o6.rel i0 q1
        have ec := o1'.cc
        have hbd1 := o1'.bd
        have k1 := k6.rel i0 q1
        have st := free_step (i := i) (g := b) (j := p % 64) j1 (by rw [ec]; omega) (by rw [ec]; exact hbL) hlt k1.ph k1.ow (by omega)
        refine ⟨freeY y₁ i b (p % 64), by rw [ec] at st; exact st, ?_, fun y₂ q2 => OwnP.rel (y := freeY y₁ i b (p % 64)) ⟨ec, o1'.pu, o1'.po, ?_, o1'.sp, o1'.sq, fun a' b' ho hph => ?_⟩ i0 q2⟩
        · show u1 y₁.v (y₁.c.B (kTurn b (p % 64))) _ (c.B (kTurn b (p % 64))) = _
          rw [ec, u1_same, k1.ps]
          rfl
        · show bd - 2 <= u1 y₁.bd i _ i
          rw [u1_same]; omega
        · by_cases e : a' = b /\ b' = p % 64
          · obtain ⟨rfl, rfl⟩ := e
            rw [show (freeY y₁ i a' (p % 64)).ph a' (p % 64) = 0 from u2_same] at hph
            omega
          · rw [show (freeY y₁ i b (p % 64)).ph a' b' = y₁.ph a' b' from u2_ne e] at hph
            cases o1'.own a' b' ho hph
            exact absurd ⟨rfl, rfl⟩ e
      rintro v h7 ⟨d7, γ7⟩ ⟨rfl, e7, w7, a7, o7⟩
      simp only at e7 w7 a7 o7
      refine ⟨hZ, EA.done (by kernel_rfl) ?_⟩
      clear hZ
      (repeat (first | refine EK.seq ?_ | refine EK.region ?_ | refine ER.done ?_ | refine ER.move rfl rfl rfl ?_ | refine ER.assign rfl rfl rfl ?_ | refine EK.ret ?_))
      exact EU.ret3 rfl rfl rfl rfl ⟨u4, ((((e7.trans e6).trans e5).trans e2).trans e1), ((((w7.trans w6).trans w5).trans w2).trans w1), a7, .inr ⟨b, z, hbL, hz, rfl, o7⟩⟩
    · simp only at e5 w5 a5 o5 p5
      (repeat (first | refine ER.done ?_ | refine ER.notB rfl rfl rfl ?_ | refine EK.condT rfl ?_ | refine EK.exit rfl ?_))
      refine EK.sub ?_ (again (pL.pairs γ5.y) _ _ p5 ⟨u4, (e5.trans e2).trans e1, (w5.trans w2).trans w1, a5, o5, Nat.le_refl _⟩)
      exact ⟨rfl, rfl, trivial⟩
end
end
section
open Go Go.TJ Go.Proofs
variable [Dm]
end
section
open Go Go.TJ Go.Proofs
variable [Dm]
abbrev W64 (x : Int) : Int := IntKind.i64.wrap x
section
variable {h : Hp} {n cap : Nat} {rest : List Value} {B : Nat -> Nat} {v : Nat -> Int}
end
def slot (n : Nat) (q : Int) : Nat := (q % n).toNat
section
variable {Γ : Type} {main : Bool} {h : Hp} {δ : Ix Γ}
end
end
section
open Go Go.TJ Go.Proofs
variable [Dm]
section
variable {Γ : Type} {main : Bool} {h : Hp} {δ : Ix Γ} {n cap : Nat} {rest : List Value} {B : Nat -> Nat} {v : Nat -> Int}
end
end
section
open Go Go.TJ Go.Proofs
variable [Dm]
section
variable {Γ : Type} {main : Bool} {δ : Ix Γ}
set_option maxRecDepth 8000 in
end
end
section
open Go Go.TJ Go.Proofs
variable [Dm]
structure Dc where
  n : Nat
  m : Nat
  L : Nat
  e : Nat
  F : Int
  B : Nat -> Nat
  pb : Nat
  fb : Nat
  top : Nat
  tS : TypeId
  tB : TypeId
  ro : Nat -> Prop
structure Dy where
  c : Dc
  v : Nat -> Int
  tp : Nat
  bt : Nat
  V : Nat -> Int
  ow : Nat
  np : Nat
  bd : Nat -> Nat
  po : Nat -> List Int
  sq : Nat -> Value
def Dc.W (c : Dc) (x : Int) : Int := W64 (c.F + x)
def Dc.sl (c : Dc) (x : Nat) : Nat := c.B (4 + slot c.L (c.F + x))
section
variable {y : Dy} {i : Nat}
end
end
section
open Go Go.TJ Go.Proofs
variable [Dm]
section
variable {i : Nat} {c : Dc} {po : List Int} {bd bt np ow p : Nat} {sq : Value} {y y' : Dy} {z : Int}
end
section
variable {h : Hp} {δ : Ix (Gf Dy)} {i : Nat} {c : Dc} {po : List Int} {bd bt np sb rb cap : Nat} {sq : Value}
end
end
section
open Go Go.TJ Go.Proofs
variable [Dm]
section
variable {i : Nat} {c : Dc} {y : Dy}
end
section
variable {h : Hp} {δ : Ix (Gf Dy)} {i : Nat} {c : Dc} {po : List Int} {bd bt np sb rb cap : Nat} {sq : Value}
end
end
section
open Go Go.TJ Go.Proofs
variable [Dm]
structure Ke where
  vN : Nat
  vM : Nat
  vD : Nat
  vL : Nat
  vE : Nat
  sb : Nat
  rb : Nat
  cap : Nat
section
variable {h : Hp} {δ : Ix (Gf Dy)} {i : Nat} {c : Dc} {po : List Int} {bd : Nat} {sq : Value} {y : Dy}
theorem app1_ok {h' h5 h6 : Hp} {s1 v : Value} {l1 : List Int} {N : Nat} {o : Obj} {z : Int} (u : Upd (fun _ => False) h h') (x1 : SliceO h' s1 2 1 l1.length (l1.map intv)) (b1 : ∀ b, blk s1 = some b -> h.size <= b) (hN : h'.size <= N) (e5 : h5 = (padTo h' N).push o)
    (x6 : SliceO h6 v 2 1 (l1.length + 1) (l1.map intv ++ [intv z])) (u6 : Upd (fun b => blk s1 = some b) h5 h6) (b6 : ∀ b, blk v = some b -> blk s1 = some b \/ h5.size <= b) :
    Upd (fun _ => False) h h6 /\ SliceO h6 v 2 1 (l1 ++ [z]).length ((l1 ++ [z]).map intv) /\ True /\ (∀ b, blk v = some b -> h.size <= b) /\ True := by
  obtain ⟨r1, r2, _, r4, _⟩ := app_ok (s2 := nilS) (l2 := []) u x1 SliceO.nil b1 (fun b _ z => (by cases z)) hN e5 x6 u6 b6
  exact ⟨r1, r2, trivial, r4, trivial⟩
end
end
section
open Go Go.TJ Go.Proofs
variable [Dm]
structure Kp where
  vE : Nat
  vN : Nat
  vP : Nat
  vC : Nat
  vU : Nat
  vL : Nat
  vW : Nat
  capL : Nat
  capP : Nat -> Nat
structure KPw (c : Pc') (q : Kp) (h : Hp) : Prop where
  E : hcell h ⟨q.vE, 0, none⟩ = some (.int .i64 c.e)
  N : hcell h ⟨q.vN, 0, none⟩ = some (.int .i64 c.n)
  P : hcell h ⟨q.vP, 0, none⟩ = some (.pointer (some ⟨c.B kTop, 0, none⟩))
  C : hcell h ⟨q.vC, 0, none⟩ = some (.int .i64 c.L)
  U : hcell h ⟨q.vU, 0, none⟩ = some (.slice (some ⟨c.pb, 0, none⟩) c.n c.n)
  L : hcell h ⟨q.vL, 0, none⟩ = some (.slice (some ⟨c.qb, 0, none⟩) (c.q + 1) (c.q + 1))
  W : hcell h ⟨q.vW, 0, none⟩ = some (.slice (some ⟨c.wb, 0, none⟩) (c.n + c.q + 1) (c.n + c.q + 1))
  K : KP c q.capL q.capP h
theorem KPw.upd {c : Pc'} {q : Kp} {h h' : Hp} (m : KPw c q h) (u : Upd (fun _ => False) h h') : KPw c q h' where
  E := u.hcell m.E fun z => z
  N := u.hcell m.N fun z => z
  P := u.hcell m.P fun z => z
  C := u.hcell m.C fun z => z
  U := u.hcell m.U fun z => z
  L := u.hcell m.L fun z => z
  W := u.hcell m.W fun z => z
  K := m.K.upd u
section
variable {h : Hp} {δ : Ix (Gf Py)} {i : Nat} {c : Pc'} {pu po : List Int} {bd : Nat} {sp sq : Value} {y : Py}
theorem own_pp (o : OwnP i c none pu po bd sp sq y) (hJ : Pj y) (i0 : 0 < i) (hi : i <= c.n) : pL.arrT y c.pb = some c.tS /\ (pL.arr y c.pb)[0 + ((i - 1 : Nat) : Int).toNat * 1]? = some sp /\ pL.may y i ⟨c.pb, 0 + ((i - 1 : Nat) : Int).toNat * 1, none⟩ true := by
  have e : 0 + ((i - 1 : Nat) : Int).toNat * 1 = i - 1 := by simp
  have ec := o.cc
  obtain ⟨d1, d2, d3, d4, d5, d6⟩ := hJ.ad
  rw [e]
  refine ⟨?_, ?_, i0, .inl ⟨by rw [ec], by rw [ec]; exact hi, rfl⟩, d1, d2, d3, d4, d5⟩
  · show (if c.pb = y.c.pb then some y.c.tS else _) = _
    rw [ec, if_pos rfl]
  · show (if c.pb = y.c.pb then _ else _ : Array Value)[i - 1]? = _
    rw [ec, if_pos rfl, range_get (by omega), o.sp hi]
theorem own_pq (o : OwnP i c none pu po bd sp sq y) (hJ : Pj y) (i0 : c.n < i) (hi : i <= c.n + c.q) : pL.arrT y c.qb = some c.tS /\ (pL.arr y c.qb)[0 + ((i - 1 - c.n : Nat) : Int).toNat * 1]? = some sq /\ pL.may y i ⟨c.qb, 0 + ((i - 1 - c.n : Nat) : Int).toNat * 1, none⟩ true := by
  have e : 0 + ((i - 1 - c.n : Nat) : Int).toNat * 1 = i - 1 - c.n := by simp
  have ec := o.cc
  have hJ' := hJ.ad
  obtain ⟨d1, d2, d3, d4, d5, d6⟩ := hJ'
  rw [e]
  refine ⟨?_, ?_, by omega, .inr (.inl ⟨by rw [ec], by rw [ec]; exact i0, by show i - 1 - c.n = _; rw [ec]⟩), d1, d2, d3, d4, d5⟩
  · show (if c.qb = y.c.pb then some y.c.tS else if c.qb = y.c.qb then some y.c.tS else _) = _
    rw [ec] at d1 ⊢
    rw [if_neg (fun z => d1 z.symm), if_pos rfl]
  · show (if c.qb = y.c.pb then _ else if c.qb = y.c.qb then _ else _ : Array Value)[i - 1 - c.n]? = _
    rw [ec] at d1 ⊢
    rw [if_neg (fun z => d1 z.symm), if_pos rfl, range_get (by omega), o.sq i0]
theorem own_pw (o : OwnP i c none pu po bd sp sq y) (hJ : Pj y) (i0 : 0 < i) (hi : i <= c.n + c.q) : pL.arrT y c.wb = some c.tB /\ (pL.arr y c.wb)[0 + ((i - 1 : Nat) : Int).toNat * 1]? = some (.bool false) /\ pL.may y i ⟨c.wb, 0 + ((i - 1 : Nat) : Int).toNat * 1, none⟩ true := by
  have e : 0 + ((i - 1 : Nat) : Int).toNat * 1 = i - 1 := by simp
  have ec := o.cc
  have hJ' := hJ.ad
  obtain ⟨d1, d2, d3, d4, d5, d6⟩ := hJ'
  rw [e]
  refine ⟨?_, ?_, i0, .inr (.inr ⟨.inl (by rw [ec]), rfl⟩), d1, d2, d3, d4, d5⟩
  · show (if c.wb = y.c.pb then some y.c.tS else if c.wb = y.c.qb then some y.c.tS else if c.wb = y.c.wb then some y.c.tB else _) = _
    rw [ec] at d2 d4 ⊢
    rw [if_neg (fun z => d2 z.symm), if_neg (fun z => d4 z.symm), if_pos rfl]
  · show (if c.wb = y.c.pb then _ else if c.wb = y.c.qb then _ else if c.wb = y.c.wb then _ else _ : Array Value)[i - 1]? = _
    rw [ec] at d2 d4 ⊢
    rw [if_neg (fun z => d2 z.symm), if_neg (fun z => d4 z.symm), if_pos rfl]
    have : i - 1 < c.W + 1 := by show i - 1 < c.n + c.q + 1; omega
    simp [this]
theorem mv_pp (o : OwnP i c none pu po bd sp sq y) (hJ : Pj y) (i0 : 0 < i) (hi : i <= c.n) (v : Value) : AMove pL i c.pb (0 + ((i - 1 : Nat) : Int).toNat * 1) v y (pspY y i v) := by
  have e : 0 + ((i - 1 : Nat) : Int).toNat * 1 = i - 1 := by simp
  have := psp_move (v := v) hJ i0 (by rw [o.cc]; exact hi)
  rw [o.cc] at this
  rw [e]; exact this
theorem mv_pq (o : OwnP i c none pu po bd sp sq y) (hJ : Pj y) (i0 : c.n < i) (hi : i <= c.n + c.q) (v : Value) : AMove pL i c.qb (0 + ((i - 1 - c.n : Nat) : Int).toNat * 1) v y (psqY y i v) := by
  have e : 0 + ((i - 1 - c.n : Nat) : Int).toNat * 1 = i - 1 - c.n := by simp
  have := psq_move (v := v) hJ (by rw [o.cc]; exact i0) (by rw [o.cc]; exact hi)
  rw [o.cc] at this
  rw [e]; exact this
theorem mv_pw (o : OwnP i c none pu po bd sp sq y) (hJ : Pj y) : AMove pL i c.wb (0 + ((i - 1 : Nat) : Int).toNat * 1) (.bool false) y y := by
  have := pwb_move (i := i) (j := 0 + ((i - 1 : Nat) : Int).toNat * 1) hJ
  rw [o.cc] at this
  exact this
theorem OwnP.setP (o : OwnP i c none pu po bd sp sq y) (v : Value) : OwnP i c none pu po bd v sq (pspY y i v) := ⟨o.cc, o.pu, o.po, o.bd, fun _ => u1_same, o.sq, o.own⟩
theorem OwnP.setQ (o : OwnP i c none pu po bd sp sq y) (v : Value) : OwnP i c none pu po bd sp v (psqY y i v) := ⟨o.cc, o.pu, o.po, o.bd, o.sp, fun _ => by
  show u1 y.sq (i - 1 - y.c.n) v (i - 1 - c.n) = v
  rw [o.cc, u1_same], o.own⟩
structure WU (i : Nat) (c : Pc') (h : Hp) (d wg k bd : Nat) (pu : List Int) (sp : Value) (h' : Hp) (δ' : Ix (Gf Py)) : Prop where
  d : δ'.d = d
  wg : δ'.g.wg = wg
  a : Idle pL i δ'.g
  o : OwnP i c none pu [] bd sp nilS δ'.g.y
  u : Upd (fun _ => False) h h'
  nd : pu.Nodup
  rg : ∀ z, z ∈ pu -> 1000 * ((i : Int) - 1) <= z /\ z < 1000 * ((i : Int) - 1) + k
  l : pu.length <= k
  s : SliceO h' sp 2 1 pu.length (pu.map intv)
  b : ∀ b, blk sp = some b -> h.size <= b
structure WT (i : Nat) (c : Pc') (h : Hp) (d wg k bd : Nat) (po : List Int) (sq : Value) (h' : Hp) (δ' : Ix (Gf Py)) : Prop where
  d : δ'.d = d
  wg : δ'.g.wg = wg
  a : Idle pL i δ'.g
  o : OwnP i c none [] po bd nilS sq δ'.g.y
  u : Upd (fun _ => False) h h'
  l : po.length <= k
  s : SliceO h' sq 2 1 po.length (po.map intv)
  b : ∀ b, blk sq = some b -> h.size <= b
def WQp (i : Nat) (c : Pc') (h : Hp) (d wg : Nat) : Value -> Hp -> Ix (Gf Py) -> Prop := fun _ h' δ' => (i <= c.n /\ ∃ bd pu sp, WU i c h d wg c.e bd pu sp h' δ') \/ (c.n < i /\ ∃ bd po sq, WT i c h d wg c.e bd po sq h' δ')
structure Lp where
  k : Nat
  l : List Int
  s : Value
def envP (i : Nat) (q : Kp) (s : Lp) : Env := [(9, .int .i64 s.k), (0, .int .i64 ((i - 1 : Nat) : Int)), (1, .pointer (some ⟨q.vE, 0, none⟩)), (2, .pointer (some ⟨q.vN, 0, none⟩)), (3, .pointer (some ⟨q.vP, 0, none⟩)), (4, .pointer (some ⟨q.vC, 0, none⟩)), (5, .pointer (some ⟨q.vU, 0, none⟩)), (6, .pointer (some ⟨q.vL, 0, none⟩)), (7, .pointer (some ⟨q.vW, 0, none⟩))]
abbrev pargs (i : Nat) (q : Kp) : Array Value := #[.int .i64 ((i - 1 : Nat) : Int), .pointer (some ⟨q.vE, 0, none⟩), .pointer (some ⟨q.vN, 0, none⟩), .pointer (some ⟨q.vP, 0, none⟩), .pointer (some ⟨q.vC, 0, none⟩), .pointer (some ⟨q.vU, 0, none⟩), .pointer (some ⟨q.vL, 0, none⟩), .pointer (some ⟨q.vW, 0, none⟩)]
set_option maxRecDepth 8000 in
set_option maxHeartbeats 16000000 in
theorem putter_ok {q : Kp} (hA : Idle pL i δ.g) (hi : i <= c.n) (hn4 : c.n <= 4) (he : c.e <= 100) (hL1 : 1 <= c.L) (hL8 : c.L <= 8) (mem : KPw c q h) (htop : c.top <= h.size) (hro : ∀ b, c.ro b -> b < c.top) (ho : OwnP i c none [] [] (5 * c.e) nilS nilS δ.g.y) :
    CallW Try.prog false (SitW Try.prog (XF TT pL) i) 55 (pargs i q) h δ (Ret (WQp i c h δ.d δ.g.wg)) := by
  have i0 := hA.i0
  have hiW : i <= c.n + c.q := by omega
  refine CallW.start (n := 79) rfl rfl ?_
  (repeat (first | refine EK.seq ?_ | refine EK.region ?_ | refine ER.done ?_ | refine EK.block ?_ | refine ER.assign rfl rfl rfl ?_))
  refine EK.loopInv (fun s : Lp => envP i q s) (fun s h' δ' => s.k <= c.e /\ WU i c h δ.d δ.g.wg s.k (5 * (c.e - s.k)) s.l s.s h' δ') (fun s => c.e - s.k) ⟨0, [], nilS⟩ ⟨rfl, rfl, rfl, rfl, rfl, rfl, rfl, rfl, rfl, trivial⟩ ⟨Nat.zero_le _, rfl, rfl, hA, ho, Upd.refl _ _, List.nodup_nil, fun z hz => (by cases hz), Nat.le_refl _, SliceO.nil, fun b hb => (by cases hb)⟩ ?_
  rintro ⟨k, pu, sp⟩ h1 ⟨d1, γ1⟩ ⟨hk, W⟩ again
  dsimp only [envP] at hk W again ⊢
  have e1 := W.d
  have w1 := W.wg
  have a1 := W.a
  have o1 := W.o
  simp only at e1 w1 a1 o1
  have m1 := mem.upd W.u
  have mE := m1.E
  have mN := m1.N
  have mP := m1.P
  have mC := m1.C
  have mU := m1.U
  rcases Nat.lt_or_ge k c.e with hlt | hge
  · have zU : ¬ blk sp = some q.vU := fun z => by
      have hz : h.size <= q.vU := W.b _ z
      obtain ⟨_, _, _, hb, _⟩ := hcell_some mem.U
      have : q.vU < h.size := lt_of_get hb
      omega
    have hz : LvOk c.L (k % c.L) (1000 * ((i - 1 : Nat) : Int) + (k : Int)) := by
      refine ⟨by omega, ?_⟩
      rw [show (1000 * ((i - 1 : Nat) : Int) + (k : Int)) % 1000 = (k : Int) by omega]
      exact (Int.natCast_emod k c.L).symm
    have hklt : k % c.L < c.L := Nat.mod_lt _ hL1
    (repeat (first | refine EK.seq ?_ | refine EK.region ?_ | refine ER.done ?_ | refine EK.skip ?_ | refine EK.block ?_ | refine ER.move rfl rfl rfl ?_ | refine ER.assign rfl rfl rfl ?_ | refine ER.cmpT rfl rfl rfl rfl rfl (by first | (dsimp only [cmpP]; omega) | exact rfl | exact Int.le_refl _) ?_ | refine ER.add (kd := .i64) rfl rfl rfl rfl (i64_in (by omega) (by omega)) ?_ | refine ER.mul (kd := .i64) rfl rfl rfl rfl (i64_in (by omega) (by omega)) ?_ | refine EK.condT rfl ?_ | refine ER.load1 rfl rfl rfl (by assumption) ?_))
    refine EK.regionAny (fun h' => hcell h' ⟨q.vP, 0, none⟩ = some (.pointer (some ⟨c.B kTop, 0, none⟩)) /\ hcell h' ⟨q.vC, 0, none⟩ = some (.int .i64 c.L)) ?_ (hDu := a1.at.nd)
    have hZ : hcell h1 ⟨q.vP, 0, none⟩ = some (.pointer (some ⟨c.B kTop, 0, none⟩)) /\ hcell h1 ⟨q.vC, 0, none⟩ = some (.int .i64 c.L) := ⟨mP, mC⟩
    refine EA.tLoad 0 rfl (by kernel_rfl) rfl rfl rfl rfl (fun _ hz => hz.1) hZ ?_
    refine EA.tMove 1 rfl (by kernel_rfl) rfl rfl rfl rfl hZ ?_
    refine EA.tLoad 2 rfl (by kernel_rfl) rfl rfl rfl rfl (fun _ hz => hz.2) hZ ?_
    refine EA.tBinI (kd := .i64) (v := .int .i64 ((k % c.L : Nat) : Int)) 3 rfl (by kernel_rfl) rfl rfl rfl rfl rfl ((Go.TJ.binOp_rem (by omega)).trans (by rw [Int.tmod_eq_emod_of_nonneg (by omega), Int.natCast_emod])) hZ ?_
    refine EA.tMove 4 rfl (by kernel_rfl) rfl rfl rfl rfl hZ ?_
    refine EA.callR 5 rfl (by kernel_rfl) rfl rfl rfl rfl rfl rfl (put_w (z := 1000 * ((i - 1 : Nat) : Int) + (k : Int)) a1 hiW o1 (by omega) hklt hL8 hz m1.K) ?_
    rintro v h2 ⟨d2, γ2⟩ ⟨rfl, e2, w2, a2, ⟨rfl, o2⟩ | ⟨rfl, o2⟩⟩
    · simp only at e2 w2 a2 o2
      refine ⟨hZ, ?_⟩
      refine EA.tCmpF 6 rfl (by kernel_rfl) rfl rfl rfl rfl rfl rfl (by first | (dsimp only [cmpP]; omega) | exact rfl | exact Int.le_refl _) hZ ?_
      refine EA.done (by kernel_rfl) ?_
      clear hZ
      (repeat (first | refine EK.region ?_ | refine ER.done ?_ | refine EK.skip ?_ | refine ER.move rfl rfl rfl ?_ | refine ER.assign rfl rfl rfl ?_ | refine ER.add (kd := .i64) rfl rfl rfl rfl (i64_in (by omega) (by omega)) ?_ | refine EK.condF rfl ?_ | refine EK.exit rfl ?_))
      refine EK.back (again ⟨k + 1, pu, sp⟩ _ _ (by dsimp only; omega) ⟨hlt, ⟨e2.trans e1, w2.trans w1, a2, o2.less (by dsimp only; omega), W.u, W.nd, fun z hz => ?_, Nat.le_succ_of_le W.l, W.s, W.b⟩⟩) ⟨rfl, rfl, rfl, rfl, rfl, rfl, rfl, rfl, rfl, trivial⟩
      have := W.rg z hz
      dsimp only
      omega
    · simp only at e2 w2 a2 o2
      have hlp := W.l
      refine ⟨hZ, ?_⟩
      refine EA.tCmpT 6 rfl (by kernel_rfl) rfl rfl rfl rfl rfl rfl (by first | (dsimp only [cmpP]; omega) | exact rfl | exact Int.le_refl _) hZ ?_
      refine EA.done (by kernel_rfl) ?_
      clear hZ
      (repeat refine EK.condT rfl ?_)
      refine EK.regionAny (fun h' => hcell h' ⟨q.vU, 0, none⟩ = some (.slice (some ⟨c.pb, 0, none⟩) (c.n) (c.n))) ?_ (hDu := a2.at.nd)
      have hZ : hcell h2 ⟨q.vU, 0, none⟩ = some (.slice (some ⟨c.pb, 0, none⟩) (c.n) (c.n)) := mU
      refine EA.tLoad 0 rfl (by kernel_rfl) rfl rfl rfl rfl (fun _ hz => hz) hZ ?_
      refine EA.tMove 1 rfl (by kernel_rfl) rfl rfl rfl rfl hZ ?_
      refine EA.tLoad 2 rfl (by kernel_rfl) rfl rfl rfl rfl (fun _ hz => hz) hZ ?_
      refine EA.tMove 3 rfl (by kernel_rfl) rfl rfl rfl rfl hZ ?_
      refine EA.tIdxS 4 rfl (by kernel_rfl) rfl rfl rfl rfl rfl (by omega) (by omega) hZ ?_
      refine EA.tMove 6 rfl (by kernel_rfl) rfl rfl rfl rfl hZ ?_
      have hZp : ∀ N, h2.size <= N -> hcell ((padTo h2 N).push (.cells #[.int .i64 (1000 * ((i - 1 : Nat) : Int) + (k : Int))] 2)) ⟨q.vU, 0, none⟩ = some (.slice (some ⟨c.pb, 0, none⟩) (c.n) (c.n)) := fun N hN => ((Upd.pad (fun _ => False) hN).trans (Upd.push _ _)).hcell hZ fun z => z
      refine EA.both 5 7 (fun vi vj h5 δ5 => vi = sp /\ (∃ N, h2.size <= N /\ vj = .slice (some ⟨N, 0, none⟩) 1 1 /\ h5 = (padTo h2 N).push (.cells #[.int .i64 (1000 * ((i - 1 : Nat) : Int) + (k : Int))] 2)) /\ δ5.d = δ.d /\ δ5.g.wg = δ.g.wg /\ Idle pL i δ5.g /\ OwnP i c none (pu ++ [1000 * ((i - 1 : Nat) : Int) + (k : Int)]) [] (5 * (c.e - k) - 5) sp nilS δ5.g.y) rfl rfl (by kernel_rfl) rfl rfl (by kernel_rfl) (by kernel_rfl) rfl (by kernel_rfl) rfl rfl rfl rfl rfl rfl (by decide) (fun ρ hρ => ?_) (fun ρ hρ => ?_) ?_
      · refine ⟨fun v h4 δ4 => h4 = h2 /\ δ4.d = δ.d /\ δ4.g.wg = δ.g.wg /\ Idle pL i δ4.g /\ v = sp /\ OwnP i c none (pu ++ [1000 * ((i - 1 : Nat) : Int) + (k : Int)]) [] (5 * (c.e - k) - 5) sp nilS δ4.g.y, yields_loadA pL_ok (hρ _ _ rfl) a2 fun γ4 hR a4 j4 => ?_, ?_⟩
        · have o4 := o2.rel i0 hR.toRo.lrel
          obtain ⟨f1, f2, f3⟩ := own_pp o4 j4 i0 hi
          exact ⟨_, _, _, f1, f2, f3, rfl, (e2.trans e1), hR.wg.trans (w2.trans w1), a4, rfl, o4⟩
        rintro v h4 ⟨d4, γ4⟩ ⟨rfl, e4, w4, a4, rfl, o4⟩
        simp only at e4 w4 a4 o4
        refine ⟨hZ, fun ρ' hρ' => ⟨_, yields_build (e := 2) (sz := 1) (z := .int .i64 0) (cells := #[.int .i64 (1000 * ((i - 1 : Nat) : Int) + (k : Int))]) (parts := [(0, .int .i64 (1000 * ((i - 1 : Nat) : Int) + (k : Int)))]) (fun _ => idle_fin a4) hρ' rfl (by omega) (by omega) rfl rfl, ?_⟩⟩
        rintro v h5 δ5 ⟨rfl, N, hN, rfl, rfl⟩
        exact ⟨hZp N hN, rfl, ⟨N, hN, rfl, rfl⟩, e4, w4, a4, o4⟩
      · refine ⟨_, yields_build (e := 2) (sz := 1) (z := .int .i64 0) (cells := #[.int .i64 (1000 * ((i - 1 : Nat) : Int) + (k : Int))]) (parts := [(0, .int .i64 (1000 * ((i - 1 : Nat) : Int) + (k : Int)))]) (fun _ => idle_fin a2) hρ rfl (by omega) (by omega) rfl rfl, ?_⟩
        rintro v h5 δ5 ⟨rfl, N, hN, rfl, rfl⟩
        refine ⟨hZp N hN, fun ρ' hρ' => ⟨fun v h4 δ4 => h4 = (padTo h2 N).push (.cells #[.int .i64 (1000 * ((i - 1 : Nat) : Int) + (k : Int))] 2) /\ δ4.d = δ.d /\ δ4.g.wg = δ.g.wg /\ Idle pL i δ4.g /\ v = sp /\ OwnP i c none (pu ++ [1000 * ((i - 1 : Nat) : Int) + (k : Int)]) [] (5 * (c.e - k) - 5) sp nilS δ4.g.y, yields_loadA pL_ok (hρ' _ _ rfl) a2 fun γ4 hR a4 j4 => ?_, ?_⟩⟩
        · have o4 := o2.rel i0 hR.toRo.lrel
          obtain ⟨f1, f2, f3⟩ := own_pp o4 j4 i0 hi
          exact ⟨_, _, _, f1, f2, f3, rfl, (e2.trans e1), hR.wg.trans (w2.trans w1), a4, rfl, o4⟩
        rintro v h4 ⟨d4, γ4⟩ ⟨rfl, e4, w4, a4, rfl, o4⟩
        exact ⟨hZp N hN, rfl, ⟨N, hN, rfl, rfl⟩, e4, w4, a4, o4⟩
      rintro vi vj h5 ⟨d5, γ5⟩ ⟨evi, ⟨N, hN, rfl, e5h⟩, e5, w5, a5, o5⟩ hZ5
      replace evi := evi.symm
      subst evi
      simp only at e5 w5 a5 o5
      have u5 : Upd (fun _ => False) h2 h5 := by rw [e5h]; exact (Upd.pad _ hN).trans (Upd.push _ _)
      have hro5 : ∀ b, blk sp = some b -> ¬ ((XF TT pL).cf γ5).ro b := fun b hb z => by
        have z' : γ5.y.c.ro b := z.2.1
        rw [o5.cc] at z'
        have := hro b z'
        have := (fun b hb => Nat.le_trans htop (W.b b hb) : ∀ b, blk sp = some b -> c.top <= b) b hb
        omega
      refine EA.onlyH 8 rfl (by kernel_rfl) rfl rfl rfl (.inl ⟨_, rfl, rfl⟩) fun ρ hρ => ⟨_, yields_append (e := 2) (sz := 1) (new := [intv (1000 * ((i - 1 : Nat) : Int) + (k : Int))]) (fun _ => idle_fin a5) (hρ _ _ rfl) (hρ _ _ rfl) (W.s.upd u5 fun _ _ z => z) rfl (by rw [e5h]; exact mk_new hN) rfl (by simp [OneCell, intv]) (by omega) (by omega) rfl hro5, ?_⟩
      rintro v h6 δ6 ⟨rfl, x6, u6, b6⟩
      obtain ⟨r1, r2, r3, r4, r5⟩ := app1_ok W.u W.s W.b hN e5h x6 u6 b6
      clear hZp hZ hro5
      have hZ := u6.hcell hZ5 zU
      refine ⟨.inr hZ, ?_⟩
      obtain ⟨va, vcap, rfl⟩ := x6.val
      refine EA.tIdxS 9 rfl (by kernel_rfl) rfl rfl rfl rfl rfl (by omega) (by omega) hZ ?_
      refine EA.onlyH 10 rfl (by kernel_rfl) rfl rfl rfl (.inr rfl) fun ρ hρ => ⟨fun _ h7 δ7 => h7 = h6 /\ δ7.d = δ.d /\ δ7.g.wg = δ.g.wg /\ Idle pL i δ7.g /\ OwnP i c none (pu ++ [1000 * ((i - 1 : Nat) : Int) + (k : Int)]) [] (5 * (c.e - k) - 5) (.slice va (pu.length + 1) vcap) nilS δ7.g.y, yields_storeA pL_ok (hρ _ _ rfl) (hρ _ _ rfl) (by simp [OneCell]) a5 fun γ7 hR a7 j7 => ?_, ?_⟩
      · have o4 := o5.rel i0 hR.toRo.lrel
        have j4 := j7
        obtain ⟨f1, f2, f3⟩ := own_pp o4 j4 i0 hi
        exact ⟨_, _, _, f1, f2, f3, mv_pp o4 j4 i0 hi _, fun γ8 y8 w8 a8 => ⟨rfl, e5, w8.trans w5, a8, by rw [y8]; exact o4.setP _⟩⟩
      rintro v h7 ⟨d7, γ7⟩ ⟨rfl, e7, w7, a7, o7⟩
      simp only at e7 w7 a7 o7
      refine ⟨.inr hZ, EA.done (by kernel_rfl) ?_⟩
      clear hZ
      (repeat (first | refine EK.region ?_ | refine ER.done ?_ | refine ER.move rfl rfl rfl ?_ | refine ER.assign rfl rfl rfl ?_ | refine ER.add (kd := .i64) rfl rfl rfl rfl (i64_in (by omega) (by omega)) ?_ | refine EK.exit rfl ?_))
      refine EK.back (again ⟨k + 1, pu ++ [1000 * ((i - 1 : Nat) : Int) + (k : Int)], .slice va (pu.length + 1) vcap⟩ _ _ (by dsimp only; omega) ⟨hlt, ⟨e7, w7, a7, o7.less (by dsimp only; omega), r1, ?_, fun z hz => ?_, ?_, r2, r4⟩⟩) ⟨rfl, rfl, rfl, rfl, rfl, rfl, rfl, rfl, rfl, trivial⟩
      · refine List.nodup_append.2 ⟨W.nd, by simp, fun x hx y hy => ?_⟩
        have := W.rg x hx
        obtain rfl : y = 1000 * ((i - 1 : Nat) : Int) + (k : Int) := by simpa using hy
        omega
      · dsimp only at hz ⊢
        rcases List.mem_append.1 hz with hz | hz
        · have := W.rg z hz
          omega
        · obtain rfl : z = 1000 * ((i - 1 : Nat) : Int) + (k : Int) := by simpa using hz
          omega
      · rw [List.length_append]
        show pu.length + 1 <= k + 1
        omega
  · obtain rfl : k = c.e := by omega
    (repeat (first | refine EK.seq ?_ | refine EK.region ?_ | refine ER.done ?_ | refine ER.move rfl rfl rfl ?_ | refine ER.cmpF rfl rfl rfl rfl rfl (by first | (dsimp only [cmpP]; omega) | exact rfl | exact Int.le_refl _) ?_ | refine EK.condF rfl ?_ | refine EK.exit rfl ?_ | refine ER.load1 rfl rfl rfl (by assumption) ?_))
    exact EK.done (EU.ret0 rfl (.inl ⟨hi, _, _, _, W⟩))
set_option maxRecDepth 8000 in
set_option maxHeartbeats 16000000 in
theorem taker_ok {q : Kp} (hA : Idle pL i δ.g) (hi0 : c.n < i) (hiW : i <= c.n + c.q) (hn4 : c.n <= 4) (hq4 : c.q <= 4) (he : c.e <= 100) (hL1 : 1 <= c.L) (hL8 : c.L <= 8) (mem : KPw c q h) (htop : c.top <= h.size) (hro : ∀ b, c.ro b -> b < c.top) (ho : OwnP i c none [] [] (5 * c.e) nilS nilS δ.g.y) :
    CallW Try.prog false (SitW Try.prog (XF TT pL) i) 55 (pargs i q) h δ (Ret (WQp i c h δ.d δ.g.wg)) := by
  have i0 := hA.i0
  refine CallW.start (n := 79) rfl rfl ?_
  (repeat (first | refine EK.seq ?_ | refine EK.region ?_ | refine ER.done ?_ | refine EK.block ?_ | refine ER.assign rfl rfl rfl ?_))
  refine EK.loopInv (fun s : Lp => envP i q s) (fun s h' δ' => s.k <= c.e /\ WT i c h δ.d δ.g.wg s.k (5 * (c.e - s.k)) s.l s.s h' δ') (fun s => c.e - s.k) ⟨0, [], nilS⟩ ⟨rfl, rfl, rfl, rfl, rfl, rfl, rfl, rfl, rfl, trivial⟩ ⟨Nat.zero_le _, rfl, rfl, hA, ho, Upd.refl _ _, Nat.le_refl _, SliceO.nil, fun b hb => (by cases hb)⟩ ?_
  rintro ⟨k, po, sq⟩ h1 ⟨d1, γ1⟩ ⟨hk, W⟩ again
  dsimp only [envP] at hk W again ⊢
  have e1 := W.d
  have w1 := W.wg
  have a1 := W.a
  have o1 := W.o
  simp only at e1 w1 a1 o1
  have m1 := mem.upd W.u
  have mE := m1.E
  have mN := m1.N
  have mP := m1.P
  rcases Nat.lt_or_ge k c.e with hlt | hge
  · (repeat (first | refine EK.seq ?_ | refine EK.region ?_ | refine ER.done ?_ | refine EK.skip ?_ | refine EK.block ?_ | refine ER.move rfl rfl rfl ?_ | refine ER.cmpT rfl rfl rfl rfl rfl (by first | (dsimp only [cmpP]; omega) | exact rfl | exact Int.le_refl _) ?_ | refine ER.cmpF rfl rfl rfl rfl rfl (by first | (dsimp only [cmpP]; omega) | exact rfl | exact Int.le_refl _) ?_ | refine EK.condT rfl ?_ | refine EK.condF rfl ?_ | refine ER.load1 rfl rfl rfl (by assumption) ?_))
    refine ER.callR rfl rfl rfl rfl rfl (ptake_w a1 hiW o1 (by omega) hL8 hro (Nat.le_trans htop W.u.size) m1.K) ?_
    rintro v h2 ⟨d2, γ2⟩ ⟨u2', e2, w2, a2, ⟨rfl, o2⟩ | ⟨g, u, hg, hz, rfl, o2⟩⟩
    · simp only at e2 w2 a2 o2
      (repeat (first | refine EK.seq ?_ | refine EK.region ?_ | refine ER.done ?_ | refine EK.skip ?_ | refine EK.inBlock ?_ | refine ER.move rfl rfl rfl ?_ | refine ER.assign rfl rfl rfl ?_ | refine ER.extract rfl rfl rfl rfl ?_ | refine ER.add (kd := .i64) rfl rfl rfl rfl (i64_in (by omega) (by omega)) ?_ | refine EK.condF rfl ?_))
      exact EK.back (again ⟨k + 1, po, sq⟩ _ _ (by dsimp only; omega) ⟨hlt, ⟨e2.trans e1, w2.trans w1, a2, o2.less (by dsimp only; omega), W.u.trans u2', Nat.le_succ_of_le W.l, W.s.upd u2' fun _ _ z => z, W.b⟩⟩) ⟨rfl, rfl, rfl, rfl, rfl, rfl, rfl, rfl, rfl, trivial⟩
    · simp only at e2 w2 a2 o2
      have hlp := W.l
      have uh2 := W.u.trans u2'
      have sh2 := W.s.upd u2' fun _ _ z => z
      have m2 := mem.upd uh2
      have mL2 := m2.L
      have mN2 := m2.N
      have zL : ¬ blk sq = some q.vL := fun z => by
        have hz : h.size <= q.vL := W.b _ z
        obtain ⟨_, _, _, hb, _⟩ := hcell_some mem.L
        have : q.vL < h.size := lt_of_get hb
        omega
      have zN : ¬ blk sq = some q.vN := fun z => by
        have hz : h.size <= q.vN := W.b _ z
        obtain ⟨_, _, _, hb, _⟩ := hcell_some mem.N
        have : q.vN < h.size := lt_of_get hb
        omega
      clear mE mN mP
      (repeat (first | refine EK.seq ?_ | refine EK.region ?_ | refine ER.done ?_ | refine ER.move rfl rfl rfl ?_ | refine ER.assign rfl rfl rfl ?_ | refine ER.extract rfl rfl rfl rfl ?_ | refine EK.condT rfl ?_))
      refine EK.regionAny (fun h' => hcell h' ⟨q.vL, 0, none⟩ = some (.slice (some ⟨c.qb, 0, none⟩) (c.q + 1) (c.q + 1)) /\ hcell h' ⟨q.vN, 0, none⟩ = some (.int .i64 c.n)) ?_ (hDu := a2.at.nd)
      have hZ : hcell h2 ⟨q.vL, 0, none⟩ = some (.slice (some ⟨c.qb, 0, none⟩) (c.q + 1) (c.q + 1)) /\ hcell h2 ⟨q.vN, 0, none⟩ = some (.int .i64 c.n) := ⟨mL2, mN2⟩
      refine EA.tLoad 0 rfl (by kernel_rfl) rfl rfl rfl rfl (fun _ hz => hz.1) hZ ?_
      refine EA.tMove 1 rfl (by kernel_rfl) rfl rfl rfl rfl hZ ?_
      refine EA.tLoad 2 rfl (by kernel_rfl) rfl rfl rfl rfl (fun _ hz => hz.2) hZ ?_
      refine EA.tSub (kd := .i64) (r := ((i - 1 - c.n : Nat) : Int)) 3 rfl (by kernel_rfl) rfl rfl rfl rfl rfl (by rw [i64_in (by omega) (by omega)]; omega) hZ ?_
      refine EA.tLoad 4 rfl (by kernel_rfl) rfl rfl rfl rfl (fun _ hz => hz.1) hZ ?_
      refine EA.tMove 5 rfl (by kernel_rfl) rfl rfl rfl rfl hZ ?_
      refine EA.tLoad 6 rfl (by kernel_rfl) rfl rfl rfl rfl (fun _ hz => hz.2) hZ ?_
      refine EA.tSub (kd := .i64) (r := ((i - 1 - c.n : Nat) : Int)) 7 rfl (by kernel_rfl) rfl rfl rfl rfl rfl (by rw [i64_in (by omega) (by omega)]; omega) hZ ?_
      refine EA.tIdxS 8 rfl (by kernel_rfl) rfl rfl rfl rfl rfl (by omega) (by omega) hZ ?_
      refine EA.tMove 10 rfl (by kernel_rfl) rfl rfl rfl rfl hZ ?_
      have hZp : ∀ N, h2.size <= N -> hcell ((padTo h2 N).push (.cells #[.int .i64 (u)] 2)) ⟨q.vL, 0, none⟩ = some (.slice (some ⟨c.qb, 0, none⟩) (c.q + 1) (c.q + 1)) /\ hcell ((padTo h2 N).push (.cells #[.int .i64 (u)] 2)) ⟨q.vN, 0, none⟩ = some (.int .i64 c.n) := fun N hN => ⟨((Upd.pad (fun _ => False) hN).trans (Upd.push _ _)).hcell hZ.1 fun z => z, ((Upd.pad (fun _ => False) hN).trans (Upd.push _ _)).hcell hZ.2 fun z => z⟩
      refine EA.both 9 11 (fun vi vj h5 δ5 => vi = sq /\ (∃ N, h2.size <= N /\ vj = .slice (some ⟨N, 0, none⟩) 1 1 /\ h5 = (padTo h2 N).push (.cells #[.int .i64 (u)] 2)) /\ δ5.d = δ.d /\ δ5.g.wg = δ.g.wg /\ Idle pL i δ5.g /\ OwnP i c none [] (po ++ [u]) (5 * (c.e - k) - 2) nilS sq δ5.g.y) rfl rfl (by kernel_rfl) rfl rfl (by kernel_rfl) (by kernel_rfl) rfl (by kernel_rfl) rfl rfl rfl rfl rfl rfl (by decide) (fun ρ hρ => ?_) (fun ρ hρ => ?_) ?_
      · refine ⟨fun v h4 δ4 => h4 = h2 /\ δ4.d = δ.d /\ δ4.g.wg = δ.g.wg /\ Idle pL i δ4.g /\ v = sq /\ OwnP i c none [] (po ++ [u]) (5 * (c.e - k) - 2) nilS sq δ4.g.y, yields_loadA pL_ok (hρ _ _ rfl) a2 fun γ4 hR a4 j4 => ?_, ?_⟩
        · have o4 := o2.rel i0 hR.toRo.lrel
          obtain ⟨f1, f2, f3⟩ := own_pq o4 j4 hi0 hiW
          exact ⟨_, _, _, f1, f2, f3, rfl, (e2.trans e1), hR.wg.trans (w2.trans w1), a4, rfl, o4⟩
        rintro v h4 ⟨d4, γ4⟩ ⟨rfl, e4, w4, a4, rfl, o4⟩
        simp only at e4 w4 a4 o4
        refine ⟨hZ, fun ρ' hρ' => ⟨_, yields_build (e := 2) (sz := 1) (z := .int .i64 0) (cells := #[.int .i64 (u)]) (parts := [(0, .int .i64 (u))]) (fun _ => idle_fin a4) hρ' rfl (by omega) (by omega) rfl rfl, ?_⟩⟩
        rintro v h5 δ5 ⟨rfl, N, hN, rfl, rfl⟩
        exact ⟨hZp N hN, rfl, ⟨N, hN, rfl, rfl⟩, e4, w4, a4, o4⟩
      · refine ⟨_, yields_build (e := 2) (sz := 1) (z := .int .i64 0) (cells := #[.int .i64 (u)]) (parts := [(0, .int .i64 (u))]) (fun _ => idle_fin a2) hρ rfl (by omega) (by omega) rfl rfl, ?_⟩
        rintro v h5 δ5 ⟨rfl, N, hN, rfl, rfl⟩
        refine ⟨hZp N hN, fun ρ' hρ' => ⟨fun v h4 δ4 => h4 = (padTo h2 N).push (.cells #[.int .i64 (u)] 2) /\ δ4.d = δ.d /\ δ4.g.wg = δ.g.wg /\ Idle pL i δ4.g /\ v = sq /\ OwnP i c none [] (po ++ [u]) (5 * (c.e - k) - 2) nilS sq δ4.g.y, yields_loadA pL_ok (hρ' _ _ rfl) a2 fun γ4 hR a4 j4 => ?_, ?_⟩⟩
        · have o4 := o2.rel i0 hR.toRo.lrel
          obtain ⟨f1, f2, f3⟩ := own_pq o4 j4 hi0 hiW
          exact ⟨_, _, _, f1, f2, f3, rfl, (e2.trans e1), hR.wg.trans (w2.trans w1), a4, rfl, o4⟩
        rintro v h4 ⟨d4, γ4⟩ ⟨rfl, e4, w4, a4, rfl, o4⟩
        exact ⟨hZp N hN, rfl, ⟨N, hN, rfl, rfl⟩, e4, w4, a4, o4⟩
      rintro vi vj h5 ⟨d5, γ5⟩ ⟨evi, ⟨N, hN, rfl, e5h⟩, e5, w5, a5, o5⟩ hZ5
      replace evi := evi.symm
      subst evi
      simp only at e5 w5 a5 o5
      have u5 : Upd (fun _ => False) h2 h5 := by rw [e5h]; exact (Upd.pad _ hN).trans (Upd.push _ _)
      have hro5 : ∀ b, blk sq = some b -> ¬ ((XF TT pL).cf γ5).ro b := fun b hb z => by
        have z' : γ5.y.c.ro b := z.2.1
        rw [o5.cc] at z'
        have := hro b z'
        have := (fun b hb => Nat.le_trans htop (W.b b hb) : ∀ b, blk sq = some b -> c.top <= b) b hb
        omega
      refine EA.onlyH 12 rfl (by kernel_rfl) rfl rfl rfl (.inl ⟨_, rfl, rfl⟩) fun ρ hρ => ⟨_, yields_append (e := 2) (sz := 1) (new := [intv (u)]) (fun _ => idle_fin a5) (hρ _ _ rfl) (hρ _ _ rfl) (sh2.upd u5 fun _ _ z => z) rfl (by rw [e5h]; exact mk_new hN) rfl (by simp [OneCell, intv]) (by omega) (by omega) rfl hro5, ?_⟩
      rintro v h6 δ6 ⟨rfl, x6, u6, b6⟩
      obtain ⟨r1, r2, r3, r4, r5⟩ := app1_ok uh2 sh2 W.b hN e5h x6 u6 b6
      clear hZp hZ hro5
      have hZ := And.intro (u6.hcell hZ5.1 zL) (u6.hcell hZ5.2 zN)
      refine ⟨.inr hZ, ?_⟩
      obtain ⟨va, vcap, rfl⟩ := x6.val
      refine EA.tIdxS 13 rfl (by kernel_rfl) rfl rfl rfl rfl rfl (by omega) (by omega) hZ ?_
      refine EA.onlyH 14 rfl (by kernel_rfl) rfl rfl rfl (.inr rfl) fun ρ hρ => ⟨fun _ h7 δ7 => h7 = h6 /\ δ7.d = δ.d /\ δ7.g.wg = δ.g.wg /\ Idle pL i δ7.g /\ OwnP i c none [] (po ++ [u]) (5 * (c.e - k) - 2) nilS (.slice va (po.length + 1) vcap) δ7.g.y, yields_storeA pL_ok (hρ _ _ rfl) (hρ _ _ rfl) (by simp [OneCell]) a5 fun γ7 hR a7 j7 => ?_, ?_⟩
      · have o4 := o5.rel i0 hR.toRo.lrel
        have j4 := j7
        obtain ⟨f1, f2, f3⟩ := own_pq o4 j4 hi0 hiW
        exact ⟨_, _, _, f1, f2, f3, mv_pq o4 j4 hi0 hiW _, fun γ8 y8 w8 a8 => ⟨rfl, e5, w8.trans w5, a8, by rw [y8]; exact o4.setQ _⟩⟩
      rintro v h7 ⟨d7, γ7⟩ ⟨rfl, e7, w7, a7, o7⟩
      simp only at e7 w7 a7 o7
      refine ⟨.inr hZ, EA.done (by kernel_rfl) ?_⟩
      clear hZ
      have m7 := mem.upd r1
      skip
      refine EK.regionAny (fun h' => hcell h' ⟨q.vW, 0, none⟩ = some (.slice (some ⟨c.wb, 0, none⟩) (c.n + c.q + 1) (c.n + c.q + 1)) /\ hcell h' ⟨q.vC, 0, none⟩ = some (.int .i64 c.L)) ?_ (hDu := a7.at.nd)
      have hZ : hcell h7 ⟨q.vW, 0, none⟩ = some (.slice (some ⟨c.wb, 0, none⟩) (c.n + c.q + 1) (c.n + c.q + 1)) /\ hcell h7 ⟨q.vC, 0, none⟩ = some (.int .i64 c.L) := ⟨m7.W, m7.C⟩
      refine EA.tLoad 0 rfl (by kernel_rfl) rfl rfl rfl rfl (fun _ hz => hz.1) hZ ?_
      refine EA.tMove 1 rfl (by kernel_rfl) rfl rfl rfl rfl hZ ?_
      refine EA.tLoad 2 rfl (by kernel_rfl) rfl rfl rfl rfl (fun _ hz => hz.1) hZ ?_
      refine EA.tMove 3 rfl (by kernel_rfl) rfl rfl rfl rfl hZ ?_
      refine EA.tIdxS 4 rfl (by kernel_rfl) rfl rfl rfl rfl rfl (by omega) (by omega) hZ ?_
      refine EA.onlyH 5 rfl (by kernel_rfl) rfl rfl rfl (.inl ⟨_, rfl, rfl⟩) fun ρ hρ => ⟨fun v h4 δ4 => h4 = h7 /\ δ4.d = δ.d /\ δ4.g.wg = δ.g.wg /\ Idle pL i δ4.g /\ v = .bool false /\ OwnP i c none [] (po ++ [u]) (5 * (c.e - k) - 2) nilS (.slice va (po.length + 1) vcap) δ4.g.y, yields_loadA pL_ok (hρ _ _ rfl) a7 fun γ4 hR a4 j4 => ?_, ?_⟩
      · have o4 := o7.rel i0 hR.toRo.lrel
        obtain ⟨f1, f2, f3⟩ := own_pw o4 j4 i0 hiW
        exact ⟨_, _, _, f1, f2, f3, rfl, (e7), hR.wg.trans (w7), a4, rfl, o4⟩
      rintro v h4 ⟨d4, γ4⟩ ⟨rfl, e4, w4, a4, rfl, o4⟩
      simp only at e4 w4 a4 o4
      refine ⟨.inr hZ, ?_⟩
      refine EA.tMove 6 rfl (by kernel_rfl) rfl rfl rfl rfl hZ ?_
      refine EA.tMove 7 rfl (by kernel_rfl) rfl rfl rfl rfl hZ ?_
      refine EA.tBinI (kd := .i64) (v := .int .i64 (u % 1000)) 8 rfl (by kernel_rfl) rfl rfl rfl rfl rfl ((Go.TJ.binOp_rem (by decide)).trans (by rw [Int.tmod_eq_emod_of_nonneg hz.1])) hZ ?_
      refine EA.tLoad 9 rfl (by kernel_rfl) rfl rfl rfl rfl (fun _ hz => hz.2) hZ ?_
      refine EA.tBinI (kd := .i64) (v := .int .i64 (g : Nat)) 10 rfl (by kernel_rfl) rfl rfl rfl rfl rfl ((Go.TJ.binOp_rem (by omega)).trans (by rw [Int.tmod_eq_emod_of_nonneg (by omega), hz.2])) hZ ?_
      refine EA.tMove 11 rfl (by kernel_rfl) rfl rfl rfl rfl hZ ?_
      refine EA.tCmpF 12 rfl (by kernel_rfl) rfl rfl rfl rfl rfl rfl (by first | (dsimp only [cmpP]; omega) | exact rfl | exact Int.le_refl _) hZ ?_
      refine EA.tPickF 13 rfl (by kernel_rfl) rfl rfl rfl rfl rfl hZ ?_
      refine EA.tIdxS 14 rfl (by kernel_rfl) rfl rfl rfl rfl rfl (by omega) (by omega) hZ ?_
      refine EA.onlyH 15 rfl (by kernel_rfl) rfl rfl rfl (.inr rfl) fun ρ hρ => ⟨fun _ h8 δ8 => h8 = h4 /\ δ8.d = δ.d /\ δ8.g.wg = δ.g.wg /\ Idle pL i δ8.g /\ OwnP i c none [] (po ++ [u]) (5 * (c.e - k) - 2) nilS (.slice va (po.length + 1) vcap) δ8.g.y, yields_storeA pL_ok (hρ _ _ rfl) (hρ _ _ rfl) (by simp [OneCell]) a4 fun γ8 hR a8 j8 => ?_, ?_⟩
      · have o8 := o4.rel i0 hR.toRo.lrel
        obtain ⟨f1, f2, f3⟩ := own_pw o8 j8 i0 hiW
        exact ⟨_, _, _, f1, f2, f3, mv_pw o8 j8, fun γ9 y9 w9 a9 => ⟨rfl, e4, w9.trans w4, a9, by rw [y9]; exact o8⟩⟩
      rintro v h8 ⟨d8, γ8⟩ ⟨rfl, e8, w8, a8, o8⟩
      simp only at e8 w8 a8 o8
      refine ⟨.inr hZ, EA.done (by kernel_rfl) ?_⟩
      clear hZ
      (repeat (first | refine EK.region ?_ | refine ER.done ?_ | refine EK.inBlock ?_ | refine ER.move rfl rfl rfl ?_ | refine ER.assign rfl rfl rfl ?_ | refine ER.add (kd := .i64) rfl rfl rfl rfl (i64_in (by omega) (by omega)) ?_))
      refine EK.back (again ⟨k + 1, po ++ [u], .slice va (po.length + 1) vcap⟩ _ _ (by dsimp only; omega) ⟨hlt, ⟨e8, w8, a8, o8.less (by dsimp only; omega), r1, ?_, r2, r4⟩⟩) ⟨rfl, rfl, rfl, rfl, rfl, rfl, rfl, rfl, rfl, trivial⟩
      rw [List.length_append]
      show po.length + 1 <= k + 1
      omega
  · obtain rfl : k = c.e := by omega
    (repeat (first | refine EK.seq ?_ | refine EK.region ?_ | refine ER.done ?_ | refine ER.move rfl rfl rfl ?_ | refine ER.cmpF rfl rfl rfl rfl rfl (by first | (dsimp only [cmpP]; omega) | exact rfl | exact Int.le_refl _) ?_ | refine EK.condF rfl ?_ | refine EK.exit rfl ?_ | refine ER.load1 rfl rfl rfl (by assumption) ?_))
    exact EK.done (EU.ret0 rfl (.inr ⟨hi0, _, _, _, W⟩))
end
end
section
open Go Go.TJ Go.Proofs
variable [Dm]
variable {Y : Type} {L : Law Y}
theorem freed_mu {γ : Gf Y} {H : Hp} (hI : InvF TT L γ H) (hd : AllDn γ) {b : Nat} (hb : b ∈ L.cls γ.y) : H[b]? = some (cellO (L.val γ.y b)) := by
  have hc : ∀ j, j < γ.num -> (γ.ph j).c = 0 := fun j hj => Classical.byContradiction fun h => by
    obtain ⟨j0, _, hw⟩ := hI.j.wh j hj h
    have := (hd j j0 hj).1
    omega
  have hz : ∀ x, x ≠ 0 -> ct γ.ph γ.num b x = 0 := fun x hx => ct_zero fun j hj _ e => hx (by rw [<- e, hc j hj])
  obtain ⟨i1, i2, i3, i4, i5, i6, i7⟩ := hI.j.mi b hb
  rw [hz 6 (by omega)] at i4
  rw [hz 9 (by omega), hz 5 (by omega), hz 3 (by omega), hz 8 (by omega), hz 2 (by omega), hz 4 (by omega)] at i5
  rw [hz 2 (by omega), hz 8 (by omega), hz 3 (by omega), hz 4 (by omega), hz 5 (by omega), hz 9 (by omega)] at i6
  have hc := hI.cell b hb
  generalize γ.mu b = m at i1 i2 i3 i4 i5 i6 i7 hc
  obtain ⟨mb, mk, ms, mn, mz⟩ := m
  simp only at i1 i2 i3 i4 i5 i6
  obtain ⟨rfl, rfl, rfl, rfl, rfl⟩ : mb = 0 /\ mk = 0 /\ ms = 0 /\ mn = 0 /\ mz = 0 := by omega
  exact hc
theorem sl_ne {h : Hp} {s : Value} {e sz n : Nat} {cells : List Value} (x : SliceO h s e sz n cells) {R : Nat} {c : Array Value} {e' : TypeId} {f : Nat × Nat} (hR : h[R]? = some (.cells c e' f)) (hne : e ≠ e') : ¬ blk s = some R := by
  intro hb
  obtain ⟨_, ⟨rfl, _⟩ | ⟨b', cap, rest, rfl, h1, h2, h3⟩⟩ := x
  · cases hb
  · cases hb
    rw [h3] at hR
    injection hR with hR
    injection hR with _ hR _
    exact hne hR
end
section
open Go Go.TJ Go.Proofs
variable [Dm]
section
variable {Y : Type} {L : Law Y}
theorem freed_out2 {y₀ : Y} {h h' : Hp} {n : Nat} {γ' : Gf Y} (x : Freed L y₀ h n h' γ') (hW : h.size + 2 ∉ L.cls y₀ /\ L.arrT y₀ (h.size + 2) = none) {tF : TypeId} (hF : L.arrT y₀ h.size = some tF) :
    ∃ y₁, LRel L 0 y₀ y₁ /\ L.J y₁ /\ (∀ j, 0 < j -> j <= n -> ∃ hf, L.fin y₁ j hf /\ ∀ b o v, h.size + 3 <= b -> hcell hf ⟨b, o, none⟩ = some v -> hcell h' ⟨b, o, none⟩ = some v) /\ (∀ b o, h[b]? = some o -> o ≠ dum -> b ∉ L.cls y₀ -> L.arrT y₀ b = none -> h'[b]? = some o) /\ (∀ b, b ∈ L.cls y₀ -> h'[b]? = some (cellO (L.val y₁ b))) /\ (∀ b t, L.arrT y₀ b = some t -> h'[b]? = some (.cells (L.arr y₁ b) t (0, 0))) /\ h.size < h'.size := by
  obtain ⟨γ₁, H, h1, h2, h3, h4, h5, h6, rfl⟩ := x.out
  have hlt : ∀ b o, h[b]? = some o -> b < h.size := fun b o hb => (Array.getElem?_eq_some_iff.1 hb).1
  have harr : ∀ b t, L.arrT y₀ b = some t -> (H.setIfInBounds (h.size + 2) dum)[b]? = some (.cells (L.arr γ₁.y b) t (0, 0)) := fun b t hb => by
    rw [Array.getElem?_setIfInBounds_ne (fun e => by rw [<- e, hW.2] at hb; cases hb)]
    rw [<- h1.stat.arrT] at hb
    exact h4.arr b t hb
  refine ⟨γ₁.y, h1, h4.j.law, fun j j0 hj => ?_, fun b o hb hd hc ha => ?_, fun b hb => ?_, harr, (Array.getElem?_eq_some_iff.1 (harr _ _ hF)).1⟩
  · obtain ⟨_, hs⟩ := h3 j j0 (by omega)
    obtain ⟨hf, hf'⟩ := Option.isSome_iff_exists.1 hs
    refine ⟨hf, h4.j.fin j hf j0 (by omega) hf', fun b o v hb hv => ?_⟩
    obtain ⟨c, e, f, g1, g2, g3⟩ := hcell_some hv
    refine hcell_of (e := e) (f := f) ?_ g3
    rw [Array.getElem?_setIfInBounds_ne (by show h.size + 2 ≠ b; omega)]
    exact (h6 j hf j0 hf').get b _ g1 (ne_dum g3)
  · have := hlt b o hb
    rw [Array.getElem?_setIfInBounds_ne (by omega)]
    exact h5 b o (frH_old hb) hd hc ha (by omega)
  · rw [Array.getElem?_setIfInBounds_ne (fun e => by subst e; exact hW.1 hb)]
    have hb' : b ∈ L.cls γ₁.y := by rw [h1.stat.cls]; exact hb
    exact freed_mu h4 h3 hb'
theorem hcell_same {h h' : Hp} {b o : Nat} (e : h'[b]? = h[b]?) : hcell h' ⟨b, o, none⟩ = hcell h ⟨b, o, none⟩ := by
  unfold hcell
  simp only [e]
theorem rd_of {h : Hp} {v : Value} {l : List Int} {top : Nat} (x : SliceO h v 2 1 l.length (l.map intv)) (b1 : ∀ b, blk v = some b -> top <= b) : Rd top h v l := by
  obtain ⟨a, cap, rfl⟩ := x.val
  refine ⟨a, cap, rfl, fun i z hz => ?_⟩
  have hl : i < l.length := by
    rcases Nat.lt_or_ge i l.length with y | y
    · exact y
    · rw [List.getElem?_eq_none y] at hz; cases hz
  obtain ⟨b, cap', e, h1, _⟩ := x.cell (by omega)
  injection e with e1 e2 e3
  subst e1
  exact ⟨b, rfl, b1 b rfl, h1 i _ (by rw [List.getElem?_map, hz]; rfl)⟩
theorem Rd.mono {h h' : Hp} {v : Value} {l : List Int} {top top' : Nat} (x : Rd top h v l) (ht : top' <= top) (hm : ∀ b o v, top <= b -> hcell h ⟨b, o, none⟩ = some v -> hcell h' ⟨b, o, none⟩ = some v) : Rd top' h' v l := by
  obtain ⟨a, cap, rfl, g⟩ := x
  refine ⟨a, cap, rfl, fun i z hz => ?_⟩
  obtain ⟨b, e, h1, h2⟩ := g i z hz
  exact ⟨b, e, Nat.le_trans ht h1, hm _ _ _ h1 h2⟩
end
def Kw.caps (q : Kw) : Array Value := #[.pointer (some ⟨q.vM, 0, none⟩), .pointer (some ⟨q.vS, 0, none⟩), .pointer (some ⟨q.vP, 0, none⟩), .pointer (some ⟨q.vQ, 0, none⟩)]
end
section
open Go Go.TJ Go.Proofs
variable [Dm]
def Kp.caps (q : Kp) : Array Value := #[.pointer (some ⟨q.vE, 0, none⟩), .pointer (some ⟨q.vN, 0, none⟩), .pointer (some ⟨q.vP, 0, none⟩), .pointer (some ⟨q.vC, 0, none⟩), .pointer (some ⟨q.vU, 0, none⟩), .pointer (some ⟨q.vL, 0, none⟩), .pointer (some ⟨q.vW, 0, none⟩)]
structure KPro (c : Pc') (q : Kp) : Prop where
  E : c.ro q.vE
  N : c.ro q.vN
  P : c.ro q.vP
  C : c.ro q.vC
  U : c.ro q.vU
  L : c.ro q.vL
  W : c.ro q.vW
  t : c.ro (c.B kTop)
  v : c.ro (c.B kLvs)
  lev : ∀ g, g < c.L -> c.ro (c.B (kLev g))
  pls : ∀ g, g < c.L -> c.ro (c.B (kPls g))
theorem KPw.move {c : Pc'} {q : Kp} {h h' : Hp} (m : KPw c q h) (r : KPro c q) (hm : ∀ b o v, c.ro b -> hcell h ⟨b, o, none⟩ = some v -> hcell h' ⟨b, o, none⟩ = some v) : KPw c q h' where
  E := hm _ _ _ r.E m.E
  N := hm _ _ _ r.N m.N
  P := hm _ _ _ r.P m.P
  C := hm _ _ _ r.C m.C
  U := hm _ _ _ r.U m.U
  L := hm _ _ _ r.L m.L
  W := hm _ _ _ r.W m.W
  K := ⟨hm _ _ _ r.t m.K.tk, hm _ _ _ r.t m.K.lv, fun g hg => hm _ _ _ r.v (m.K.lev g hg), fun g hg => hm _ _ _ (r.lev g hg) (m.K.pin g hg), fun g hg => hm _ _ _ (r.lev g hg) (m.K.out g hg), fun g hg => hm _ _ _ (r.lev g hg) (m.K.pls g hg), fun g j t hg hj ht => hm _ _ _ (r.pls g hg) (m.K.pl g j t hg hj ht)⟩
theorem parr_f {y : Py} (hJ : Pj y) {w : Nat} (hw : w < y.c.n + y.c.q) : pL.arrT y y.c.fb = some y.c.tB /\ pL.arr y y.c.fb = Array.replicate (y.c.n + y.c.q) (.bool false) /\ (pL.arr y y.c.fb)[w]? = some (.bool false) := by
  obtain ⟨d1, d2, d3, d4, d5, d6⟩ := hJ.ad
  have e3 : pL.arr y y.c.fb = Array.replicate (y.c.n + y.c.q) (.bool false) := by
    show (if y.c.fb = y.c.pb then _ else if y.c.fb = y.c.qb then _ else if y.c.fb = y.c.wb then _ else _ : Array Value) = _
    rw [if_neg (fun z => d3 z.symm), if_neg (fun z => d5 z.symm), if_neg (fun z => d6 z.symm)]
    rfl
  refine ⟨?_, e3, by rw [e3, Array.getElem?_replicate, if_pos hw]⟩
  show (if y.c.fb = y.c.pb then some y.c.tS else if y.c.fb = y.c.qb then some y.c.tS else if y.c.fb = y.c.wb then some y.c.tB else if y.c.fb = y.c.fb then some y.c.tB else none) = _
  rw [if_neg (fun z => d3 z.symm), if_neg (fun z => d5 z.symm), if_neg (fun z => d6 z.symm), if_pos rfl]
set_option maxHeartbeats 4000000 in
theorem pbody_ok {h : Hp} {c : Pc'} {q : Kp} {y₀ : Py} {fB : Nat} {ib : Nat -> Nat} (hc : y₀.c = c) (hn4 : c.n <= 4) (hq4 : c.q <= 4) (he : c.e <= 100) (hL1 : 1 <= c.L) (hL8 : c.L <= 8) (m : KPw c q h) (r : KPro c q) (hfb : c.fb = h.size) (htop : c.top = h.size + 3) (hrt : ∀ b, c.ro b -> b < c.top)
    (hF : hcell h ⟨fB, 0, none⟩ = some (.func (.func 55) #[] q.caps)) (hFr : c.ro fB) (hI : ∀ k, k < c.n + c.q -> hcell h ⟨ib k, 0, none⟩ = some (.int .i64 k) /\ c.ro (ib k))
    (ho : ∀ k, k < c.n + c.q -> OwnP (k + 1) c none [] [] (5 * c.e) nilS nilS y₀) :
    BodyOk pL y₀ h (c.n + c.q) (fun _ => 82) (fun k => #[.pointer (some ⟨fB, 0, none⟩), .pointer (some ⟨ib k, 0, none⟩)]) := by
  intro k hk h' γ₂ ti hti0 hti hro hrel hJ hA hwg
  have hm : ∀ b o v, c.ro b -> hcell h ⟨b, o, none⟩ = some v -> hcell h' ⟨b, o, none⟩ = some v := fun b o v hb hv => by
    obtain ⟨cs, e, f, h1, h3, h4⟩ := hcell_some hv
    exact hcell_of (hro b _ (by show y₀.c.ro b; rw [hc]; exact hb) (frH_old h1)) h4
  have m' := m.move r hm
  have od := (ho k hk).rel (Nat.succ_pos k) hrel
  have kF := hm _ _ _ hFr hF
  have kI := hm _ _ _ (hI k hk).2 (hI k hk).1
  have hsz : ti < h'.size := by
    obtain ⟨_, _, _, h1, _⟩ := hcell_some hti
    exact lt_of_get h1
  have hw : CallW Try.prog false (SitW Try.prog (XF TT pL) (k + 1)) 55 (pargs (k + 1) q) h' ⟨0, γ₂⟩ (Ret (WQp (k + 1) c h' 0 γ₂.wg)) := by
    by_cases e : k + 1 <= c.n
    · exact putter_ok (δ := ⟨0, γ₂⟩) (i := k + 1) hA e hn4 he hL1 hL8 m' (by omega) hrt od
    · exact taker_ok (δ := ⟨0, γ₂⟩) (i := k + 1) hA (by omega) (by omega) hn4 hq4 he hL1 hL8 m' (by omega) hrt od
  clear hro hm
  refine CallW.start (n := 7) rfl rfl ?_
  (repeat (first | refine EK.region ?_ | refine ER.load1 rfl rfl rfl (by assumption) ?_))
  refine ER.callR rfl rfl rfl rfl rfl hw ?_
  rintro v h2 ⟨d2, γ⟩ W
  obtain ⟨hd, pu, po, bd, sp, sq, e2, w2, a2, o2, u2', hfin⟩ : ∃ hd pu po bd sp sq, d2 = 0 /\ γ.wg = γ₂.wg /\ Idle pL (k + 1) γ /\ OwnP (k + 1) c hd pu po bd sp sq γ.y /\ Upd (fun _ => False) h' h2 /\ (hd = none /\ pu.Nodup /\ (∀ z, z ∈ pu -> 1000 * (((k + 1 : Nat) : Int) - 1) <= z /\ z < 1000 * (((k + 1 : Nat) : Int) - 1) + c.e) /\ (k + 1 <= c.n -> Rd c.top h2 sp pu /\ po = []) /\ (c.n < k + 1 -> Rd c.top h2 sq po /\ pu = [])) := by
    have hb : c.top <= h'.size := by omega
    rcases W with ⟨hi, bd, pu, sp, W⟩ | ⟨hi, bd, po, sq, W⟩
    · exact ⟨_, _, _, _, _, _, W.d, W.wg, W.a, W.o, W.u, rfl, W.nd, W.rg, fun _ => ⟨rd_of W.s fun b hb' => Nat.le_trans hb (W.b b hb'), rfl⟩, fun h => by omega⟩
    · exact ⟨_, _, _, _, _, _, W.d, W.wg, W.a, W.o, W.u, rfl, List.nodup_nil, fun z hz => (by cases hz), fun h => by omega, fun _ => ⟨rd_of W.s fun b hb' => Nat.le_trans hb (W.b b hb'), rfl⟩⟩
  obtain ⟨rfl, f1, f2, f3, f4⟩ := hfin
  refine ER.done (EK.done (EU.ret0 rfl ⟨e2, w2.trans hwg, a2, hcell_same (u2'.same _ (by omega) fun z => z), hcell_same (u2'.same _ (by omega) fun z => z), fun y₁ q1 j1 => ?_⟩))
  have o3 := o2.rel (Nat.succ_pos k) q1
  have g3 := parr_f j1 (w := k) (by rw [o3.cc]; exact hk)
  have g4 := pfb_move (i := k + 1) (j := k) j1
  have g5 := j1.ad
  rw [o3.cc, hfb] at g3 g4
  refine ⟨_, _, y₁, g3.1, g3.2.2, ⟨Nat.succ_pos k, .inr (.inr ⟨.inr (by rw [o3.cc, hfb]), rfl⟩), g5.1, g5.2.1, g5.2.2.1, g5.2.2.2.1, g5.2.2.2.2.1⟩, g4, fun y₃ q3 j3 => ?_⟩
  have o4 := o3.rel (Nat.succ_pos k) q3
  refine fun _ => ⟨by rw [o4.pu]; exact f1, fun z hz => ?_, fun hn => ?_, fun hn => ?_, fun a b ho' hp => by cases o4.own a b ho' hp⟩
  · rw [o4.pu] at hz
    rw [o4.cc]
    exact f2 z hz
  · rw [o4.cc] at hn
    rw [o4.pu, o4.po, o4.sp hn, o4.cc]
    exact f3 hn
  · rw [o4.cc] at hn
    rw [o4.pu, o4.po, o4.cc, o4.sq hn]
    exact f4 hn
end
section
open Go Go.TJ Go.Proofs
variable [Dm]
variable {Y : Type} {L : Law Y}
set_option maxHeartbeats 8000000 in
theorem all18_ok {n : Nat} {fb : FuncId} {caps : Array Value} {h : Hp} {γ₀ : Gf Y} {R : Value -> Hp -> Ix (Gf Y) -> Prop} (hst : γ₀.st = 0) (hnum : γ₀.num = 1) (hn0 : 0 < n) (hn : n <= 64)
    (hgo : ∀ (h' : Hp) (B cap fB : Nat) (ib : Nat -> Nat), Upd (fun _ => False) h h' -> h.size <= fB -> h'[fB]? = some (.cells #[.func (.func fb) #[] caps] 34 (0, 0)) -> (∀ k, k < n -> h.size <= ib k /\ h'[ib k]? = some (.cells #[.int .i64 k] 3 (0, 0))) -> h.size <= B -> (∀ k, k < n -> hcell h' ⟨B, k, none⟩ = some (.func (.func 82) #[] #[.pointer (some ⟨fB, 0, none⟩), .pointer (some ⟨ib k, 0, none⟩)])) ->
      CallW Try.prog true (SitM Try.prog (XF TT L)) 49 #[.slice (some ⟨B, 0, none⟩) n cap] h' ⟨0, γ₀⟩ (Ret R)) :
    CallW Try.prog true (SitM Try.prog (XF TT L)) 54 #[.int .i64 n, .func (.func fb) #[] caps] h ⟨0, γ₀⟩ (Ret fun _ h' δ' => ∃ v, R v h' δ') := by
  have hlo : (SitM Try.prog (XF TT L)).lone γ₀ := ⟨by omega, fun j j0 hj => by have hj' : j < γ₀.num := hj; omega⟩
  have hsl : ∀ a, ¬ (SitM Try.prog (XF TT L)).still γ₀ a := fun a z => by have : γ₀.st = 1 := z.1; omega
  refine CallW.start (n := 18) rfl rfl ?_
  (repeat (first | refine EK.seq ?_ | refine EK.region ?_ | refine ER.done ?_ | refine ER.assign rfl rfl rfl ?_ | refine ER.box rfl rfl rfl ?_ | refine ER.alloc rfl rfl ?_))
  obtain ⟨u1, s1, k0, k1⟩ := push2 h (.cells #[.func (.func fb) #[] caps] 34 (0, 0)) (.cells #[.int .i64 0] 3 (0, 0))
  refine ER.storeNew rfl rfl rfl rfl (by simp [OneCell]) (hsl _) ?_
  (repeat (first | refine ER.done ?_ | refine EK.block ?_))
  refine EK.gen (fun h2 => Upd (fun _ => False) h h2 /\ h2[h.size]? = some (.cells #[.func (.func fb) #[] caps] 34 (0, 0)) /\ h2[h.size + 1]? = some (.cells #[.int .i64 0] 3 (0, 0))) ⟨u1, k0, k1⟩ ?_
  rintro h2 ⟨u1, k0, k1⟩
  clear s1
  have hszp : (h.push (.cells #[.func (.func fb) #[] caps] 34 (0, 0))).size = h.size + 1 := by simp
  refine EK.loopInv (fun s : Nat × Value × Nat × (Nat -> Nat) => [(4, s.2.1), (5, .pointer (some ⟨s.2.2.1, 0, none⟩)), (3, .pointer (some ⟨h.size, 0, none⟩)), (0, .int .i64 n)])
    (fun s h' δ' => δ' = ⟨0, γ₀⟩ /\ s.1 <= n /\ Upd (fun _ => False) h h' /\ h'[h.size]? = some (.cells #[.func (.func fb) #[] caps] 34 (0, 0)) /\ h.size <= s.2.2.1 /\ h'[s.2.2.1]? = some (.cells #[.int .i64 s.1] 3 (0, 0)) /\
      SliceO h' s.2.1 76 1 s.1 ((List.range s.1).map fun k => .func (.func 82) #[] #[.pointer (some ⟨h.size, 0, none⟩), .pointer (some ⟨s.2.2.2 k, 0, none⟩)]) /\ (∀ b, blk s.2.1 = some b -> h.size <= b) /\
      ∀ k, k < s.1 -> h.size <= s.2.2.2 k /\ s.2.2.2 k ≠ s.2.2.1 /\ h'[s.2.2.2 k]? = some (.cells #[.int .i64 k] 3 (0, 0)))
    (fun s => n - s.1) (0, .slice none 0 0, h.size + 1, fun _ => 0) ⟨rfl, congrArg (fun z => some (Value.pointer (some ⟨z, 0, none⟩))) hszp, rfl, rfl, trivial⟩ ⟨rfl, Nat.zero_le _, u1, k0, by dsimp only; omega, k1, SliceO.nil, fun b hb => by (cases hb), fun k hk => absurd hk (Nat.not_lt_zero _)⟩ ?_
  clear u1 k0 k1 h2 hszp
  rintro ⟨k, s, cb, ib⟩ h2 δ2 ⟨rfl, hk, u2, kF, hcb, kc, sl, hab, hib⟩ again
  dsimp only at hk u2 kF hcb kc sl hab hib again ⊢
  rcases Nat.lt_or_ge k n with hlt | hge
  · (repeat (first | refine EK.seq ?_ | refine EK.region ?_ | refine ER.done ?_ | refine EK.skip ?_ | refine EK.block ?_ | refine ER.move rfl rfl rfl ?_ | refine ER.load1 rfl rfl rfl (hcell_of (by assumption) rfl) ?_ | refine ER.cmpT rfl rfl rfl rfl rfl (by first | (dsimp only [cmpP]; omega) | exact rfl | exact Int.le_refl _) ?_ | refine EK.condT rfl ?_))
    refine ER.makeF rfl rfl rfl rfl rfl rfl ?_
    refine ER.slice1 (sz := 1) (z := .nilFunc) (cells := #[.func (.func 82) #[] #[.pointer (some ⟨h.size, 0, none⟩), .pointer (some ⟨cb, 0, none⟩)]]) rfl rfl rfl (by omega) (by omega) rfl rfl ?_
    refine ER.append1 (new := [.func (.func 82) #[] #[.pointer (some ⟨h.size, 0, none⟩), .pointer (some ⟨cb, 0, none⟩)]]) rfl rfl rfl rfl (sl.upd (Upd.push (T := fun _ => False) h2 _) (fun _ _ x => x)) (get_push_new _ _) rfl (by simp [OneCell]) (by omega) (by omega) (by rfl) (fun b o hb => hsl _) ?_
    intro s' h5 sl5 u5 hb5
    have up := Upd.push (T := fun _ => False) h2 (.cells #[.func (.func 82) #[] #[.pointer (some ⟨h.size, 0, none⟩), .pointer (some ⟨cb, 0, none⟩)]] 76)
    have hs0 := u2.size
    have ha5 : ∀ b, blk s' = some b -> h.size <= b := fun b hb => by
      rcases hb5 b hb with z | z
      · exact hab b z
      · rw [z, Array.size_push]; omega
    have hsz5 : h2.size + 1 <= h5.size := by have := u5.size; rwa [Array.size_push] at this
    have uu : Upd (fun _ => False) h h5 := (u2.trans up).over u5 hab
    have mv : ∀ (x : Nat) (t : TypeId) (v : Value), h2[x]? = some (.cells #[v] t (0, 0)) -> 76 ≠ t -> h5[x]? = some (.cells #[v] t (0, 0)) := fun x t v hx ht => u5.get (up.get hx fun z => z) (sl_ne sl hx ht)
    have kF5 := mv _ _ _ kF (by decide)
    have kc5 := mv _ _ _ kc (by decide)
    have hib5 : ∀ j, j < k -> h.size <= ib j /\ ib j ≠ cb /\ ib j < h2.size /\ h5[ib j]? = some (.cells #[.int .i64 j] 3 (0, 0)) := fun j hj => ⟨(hib j hj).1, (hib j hj).2.1, (Array.getElem?_eq_some_iff.1 (hib j hj).2.2).1, mv _ _ _ (hib j hj).2.2 (by decide)⟩
    have hcb2 : cb < h2.size := (Array.getElem?_eq_some_iff.1 kc).1
    have hF2 : h.size < h2.size := (Array.getElem?_eq_some_iff.1 kF).1
    clear mv up u5 hb5 hib kF kc sl hab u2
    (repeat (first | refine EK.seq ?_ | refine EK.region ?_ | refine ER.done ?_ | refine EK.inBlock ?_ | refine ER.assign rfl rfl rfl ?_ | refine ER.load1 rfl rfl rfl (hcell_of (by assumption) rfl) ?_ | refine ER.alloc rfl rfl ?_))
    refine ER.storeNew rfl rfl rfl rfl (by simp [OneCell]) (hsl _) ?_
    refine ER.gen (fun h6 => Upd (fun _ => False) h5 h6 /\ h6[h5.size]? = some (.cells #[.int .i64 k] 3 (0, 0))) ⟨Upd.push _ _, get_push_new _ _⟩ ?_
    rintro h6 ⟨u6, n6⟩
    (repeat (first | refine EK.region ?_ | refine ER.done ?_ | refine ER.load1 rfl rfl rfl (hcell_of (by assumption) rfl) ?_ | refine ER.add (kd := .i64) rfl rfl rfl rfl (i64_in (by omega) (by omega)) ?_))
    refine ER.store1 rfl rfl rfl (by simp [OneCell]) ⟨_, hcell_of n6 rfl⟩ (hfroz_of n6) (hsl _) ?_
    have n7 : (hset h6 ⟨h5.size, 0, none⟩ (.int .i64 ((k : Int) + 1)))[h5.size]? = some (.cells #[.int .i64 ((k : Int) + 1)] 3 (0, 0)) := by rw [hset_get, if_pos rfl, n6]; rfl
    have u7 : Upd (fun b => b = h5.size) h6 (hset h6 ⟨h5.size, 0, none⟩ (.int .i64 ((k : Int) + 1))) := Upd.hset _ _ _ rfl
    generalize hset h6 ⟨h5.size, 0, none⟩ (.int .i64 ((k : Int) + 1)) = h7 at n7 u7 ⊢
    have mv : ∀ (x : Nat) (o : Obj), x < h5.size -> h5[x]? = some o -> h7[x]? = some o := fun x o hx ho => u7.get (u6.get ho fun z => z) (by omega)
    (repeat refine ER.done ?_)
    refine EK.back (again (k + 1, s', h5.size, fun j => if j = k then cb else ib j) _ _ (by dsimp only; omega) ⟨rfl, hlt, (uu.trans u6).over u7 (fun b hb => by omega), mv _ _ (by omega) kF5, by dsimp only; omega, n7, ?_, ha5, fun j hj => ?_⟩) ⟨rfl, rfl, rfl, rfl, trivial⟩
    · have := (sl5.upd u6 (fun _ _ z => z)).upd u7 fun b hb => by have := sl5.lt hb; omega
      dsimp only
      rw [List.range_succ, List.map_append, List.map_singleton, if_pos rfl]
      have e : ((List.range k).map fun j => Value.func (.func 82) #[] #[.pointer (some ⟨h.size, 0, none⟩), .pointer (some ⟨if j = k then cb else ib j, 0, none⟩)]) = ((List.range k).map fun j => Value.func (.func 82) #[] #[.pointer (some ⟨h.size, 0, none⟩), .pointer (some ⟨ib j, 0, none⟩)]) := List.map_congr_left fun j hj => by
        have := List.mem_range.1 hj
        rw [if_neg (by omega)]
      rw [e]
      exact this
    · dsimp only
      by_cases e : j = k
      · subst e
        rw [if_pos rfl]
        exact ⟨hcb, by omega, mv _ _ (by omega) kc5⟩
      · rw [if_neg e]
        obtain ⟨i1, i2, i3, i4⟩ := hib5 j (by dsimp only at hj; omega)
        exact ⟨i1, by omega, mv _ _ (by omega) i4⟩
  · obtain rfl : k = n := by omega
    clear again
    obtain ⟨hl, ⟨_, hz⟩ | ⟨B, cap, rest, rfl, c1, c2, c3⟩⟩ := sl
    · omega
    (repeat (first | refine EK.seq ?_ | refine EK.region ?_ | refine ER.done ?_ | refine ER.move rfl rfl rfl ?_ | refine ER.load1 rfl rfl rfl (hcell_of (by assumption) rfl) ?_ | refine ER.cmpF rfl rfl rfl rfl rfl (by first | (dsimp only [cmpP]; omega) | exact rfl | exact Int.le_refl _) ?_ | refine EK.condF rfl ?_ | refine EK.exit rfl ?_))
    refine ER.callR rfl rfl rfl rfl rfl (hgo h2 B cap h.size ib u2 (Nat.le_refl _) kF (fun j hj => ⟨(hib j hj).1, (hib j hj).2.2⟩) (hab B rfl) fun j hj => hcell_of c3 ?_) ?_
    · rw [List.getElem?_toArray, List.getElem?_append_left (by rw [hl]; omega), List.getElem?_map, List.getElem?_range hj]
      rfl
    · intro v h' δ' hr
      refine ER.done (EK.done (EU.ret0 rfl ⟨v, hr⟩))
end
section
open Go Go.TJ Go.Proofs
variable [Dm]
variable {Y : Type} {L : Law Y}
end
section
open Go Go.TJ Go.Proofs
variable [Dm]
structure Kq where
  vA : Nat
  vN : Nat
  vC : Nat
  vP : Nat
  vR : Nat
  vT : Nat
  vH : Nat
  cb : Nat
  sb : Nat
  S : Nat
  cap : Nat
  B : Nat -> Nat
  pk : Nat
  tb : Nat
  aS : Option Addr
  kA : Nat
section
variable {i : Nat} {c : Cc} {fa fr fa' fr' : Nat -> Bool} {hd : Int} {rs : Bool} {bd : Nat} {ha : Int} {ra : Bool} {y : Cy}
theorem Own.congr (o : Own i c fa fr hd rs bd ha ra y) (h1 : ∀ k, k % c.n = i - 1 -> fa' k = fa k) (h2 : ∀ k, k % c.n = i - 1 -> fr' k = fr k) : Own i c fa' fr' hd rs bd ha ra y :=
  ⟨o.cc, fun k hk => (o.fa k hk).trans (h1 k hk).symm, fun k hk => (o.fr k hk).trans (h2 k hk).symm, o.hd, o.rs, o.bd, o.ha, o.ra⟩
end
section
variable {h : Hp} {δ : Ix (Gf Cy)} {i : Nat} {c : Cc} {q : Kq}
end
end
section
open Go Go.TJ Go.Proofs
variable [Dm]
def Kq.caps (q : Kq) : Array Value := #[.pointer (some ⟨q.vA, 0, none⟩), .pointer (some ⟨q.vN, 0, none⟩), .pointer (some ⟨q.vC, 0, none⟩), .pointer (some ⟨q.vP, 0, none⟩), .pointer (some ⟨q.vR, 0, none⟩), .pointer (some ⟨q.vT, 0, none⟩), .pointer (some ⟨q.vH, 0, none⟩)]
end
section
open Go Go.TJ Go.Proofs
variable [Dm]
def cntM (n cap : Nat) (rest : List Value) (B : Nat -> Nat) (v : Nat -> Int) : Mem Nat := ⟨fun k => k = 0 \/ k = 1 \/ (4 <= k /\ k < 4 + n), B, fun k =>
  if k = 0 then .cells #[.slice (some ⟨B 1, 0, none⟩) n cap] 116 (0, 0)
  else if k = 1 then .cells (((List.range n).map fun j => ptr (B (4 + j))) ++ rest).toArray 40 (0, 0)
  else cellO (v (k - 4))⟩
section
variable {Γ : Type} {main : Bool} {h : Hp} {δ : Ix Γ}
end
end
section
open Go Go.TJ Go.Proofs
variable [Dm]
theorem cnt_set {h : Hp} {n cap : Nat} {rest : List Value} {B : Nat -> Nat} {v : Nat -> Int} (r : Rep h (cntM n cap rest B v)) {j : Nat} (hj : j < n) (x : Int) : Rep (h.setIfInBounds (B (4 + j)) (cellO x)) (cntM n cap rest B (ut v j x)) := by
  refine (r.set (k := 4 + j) (.inr (.inr ⟨by omega, by omega⟩)) (cellO x)).congr (fun _ hk => hk) (fun _ _ => rfl) (fun k hk => ?_)
  show (cntM n cap rest B (ut v j x)).O k = ut (cntM n cap rest B v).O (4 + j) (cellO x) k
  by_cases e : k = 4 + j
  · subst e
    rw [ut_same]
    show (if 4 + j = 0 then _ else if 4 + j = 1 then _ else cellO (ut v j x (4 + j - 4))) = _
    rw [if_neg (by omega), if_neg (by omega), show 4 + j - 4 = j by omega, ut_same]
  · rw [ut_ne _ _ e]
    show (if k = 0 then _ else if k = 1 then _ else cellO (ut v j x (k - 4))) = (if k = 0 then _ else if k = 1 then _ else cellO (v (k - 4)))
    by_cases k0 : k = 0
    · rw [if_pos k0, if_pos k0]
    · by_cases k1 : k = 1
      · rw [if_neg k0, if_pos k1, if_neg k0, if_pos k1]
      · have hk' : 4 <= k /\ k < 4 + n := by
          rcases hk with y | y | y
          · exact absurd y k0
          · exact absurd y k1
          · exact y
        rw [if_neg k0, if_neg k1, if_neg k0, if_neg k1, ut_ne _ _ (by omega)]
section
variable {Γ : Type} {main : Bool} {h : Hp} {δ : Ix Γ}
end
end
section
open Go Go.TJ Go.Proofs
variable [Dm]
section
variable {Γ : Type} {main : Bool} {h : Hp} {δ : Ix Γ}
theorem place_ok {x : Int} {n : Nat} (hn : 0 < n) (hn2 : n <= 1000) : CallW Try.prog main NoS 9 #[.int .i64 x, .int .i64 n] h δ (Ret (Det (.int .i64 (x % (n : Int))) h δ)) := by
  have h1 := Int.lt_tmod_of_pos x (b := (n : Int)) (by omega)
  have h2 := Int.tmod_lt_of_pos x (b := (n : Int)) (by omega)
  have e1 : x.tmod n < 0 -> x % (n : Int) = x.tmod n + n := fun hx => by
    have a := Int.mul_tdiv_add_tmod x n
    have b : x % (n : Int) = (x.tmod n + n) % n := by
      rw [Int.add_emod_right]
      conv => lhs; rw [<- a]
      rw [Int.add_comm, Int.add_mul_emod_self_left]
    rw [b, Int.emod_eq_of_lt (by omega) (by omega)]
  have e2 : 0 <= x.tmod n -> x % (n : Int) = x.tmod n := fun hx => by
    have a := Int.mul_tdiv_add_tmod x n
    have b : x % (n : Int) = (x.tmod n) % n := by
      conv => lhs; rw [<- a]
      rw [Int.add_comm, Int.add_mul_emod_self_left]
    rw [b, Int.emod_eq_of_lt (by omega) (by omega)]
  refine CallW.start (n := 15) rfl rfl ?_
  (repeat (first | refine EK.seq ?_ | refine EK.region ?_ | refine ER.done ?_ | refine ER.move rfl rfl rfl ?_ | refine ER.assign rfl rfl rfl ?_))
  refine ER.rem (kd := .i64) rfl rfl rfl rfl (by omega) rfl ?_
  generalize x.tmod (n : Int) = r at h1 h2 e1 e2 ⊢
  rcases Int.lt_or_le r 0 with y | y
  · (repeat (first | refine EK.seq ?_ | refine EK.region ?_ | refine ER.done ?_ | refine ER.move rfl rfl rfl ?_ | refine ER.assign rfl rfl rfl ?_ | refine ER.cmpT rfl rfl rfl rfl rfl (by first | (dsimp only [cmpP]; omega) | exact rfl | exact Int.le_refl _) ?_ | refine ER.add (kd := .i64) rfl rfl rfl rfl (i64_in (by omega) (by omega)) ?_ | refine EK.condT rfl ?_ | refine EK.ret ?_))
    exact EU.ret1 rfl rfl ⟨by rw [e1 y], rfl, rfl⟩
  · (repeat (first | refine EK.seq ?_ | refine EK.region ?_ | refine ER.done ?_ | refine EK.skip ?_ | refine ER.move rfl rfl rfl ?_ | refine ER.assign rfl rfl rfl ?_ | refine ER.cmpF rfl rfl rfl rfl rfl (by first | (dsimp only [cmpP]; omega) | exact rfl | exact Int.le_refl _) ?_ | refine EK.condF rfl ?_ | refine EK.ret ?_))
    exact EU.ret1 rfl rfl ⟨by rw [e2 y], rfl, rfl⟩
end
end
section
open Go Go.TJ Go.Proofs
variable [Dm]
structure Sd where
  n : Nat
  m : Nat
  N : Nat
  B : Nat -> Nat
  idx : Nat -> Nat
  vM : Nat
  vS : Nat
  vP : Nat
  vQ : Nat
  pb : Nat
  qb : Nat
def nilSl : Value := .slice none 0 0
def Sd.cl (x : Sd) : List Nat := (List.range (2 * x.N + 4)).map fun j => x.B (j + 2)
def Sd.q (x : Sd) : Kw := ⟨x.vM, x.vS, x.vP, x.vQ, x.B 0, x.B 1⟩
theorem nsum_const (a : Nat) : ∀ n : Nat, nsum n (fun _ => a) = n * a
  | 0 => by simp [nsum]
  | n + 1 => by rw [nsum, nsum_const a n, Nat.succ_mul]
section
variable {h hF : Hp} {x : Sd}
theorem cells_ne' {b b' : Nat} {c c' : Array Value} {e e' : TypeId} (h1 : hF[b]? = some (.cells c e (0, 0))) (h2 : hF[b']? = some (.cells c' e' (0, 0))) (he : e ≠ e') : b ≠ b' := by
  rintro rfl
  rw [h1] at h2
  injection h2 with h2
  injection h2 with _ h2 _
  exact he h2
end
end
section
open Go Go.TJ Go.Proofs
variable [Dm]
def Ext (M M' : Mem Key) (p : Key -> Prop) : Prop := ∀ k, ¬ p k -> (M'.ok k ↔ M.ok k) /\ M'.B k = M.B k /\ M'.O k = M.O k
theorem Ext.put (M : Mem Key) (k : Key) (b : Nat) (o : Obj) : Ext M (M.put k b o) (fun j => j = k) := fun _ hj => ⟨⟨fun x => x.resolve_left hj, .inr⟩, ut_ne _ _ hj, ut_ne _ _ hj⟩
theorem Ext.set (M : Mem Key) (k : Key) (o : Obj) : Ext M (M.set k o) (fun j => j = k) := fun _ hj => ⟨Iff.rfl, rfl, ut_ne _ _ hj⟩
theorem Ext.trans {M M' M'' : Mem Key} {p q : Key -> Prop} (x : Ext M M' p) (y : Ext M' M'' q) : Ext M M'' (fun k => p k \/ q k) := fun k hk => by
  obtain ⟨a, b, c⟩ := x k (fun z => hk (.inl z))
  obtain ⟨a', b', c'⟩ := y k (fun z => hk (.inr z))
  exact ⟨a'.trans a, b'.trans b, c'.trans c⟩
theorem Ext.mono {M M' : Mem Key} {p q : Key -> Prop} (x : Ext M M' p) (h : ∀ k, p k -> q k) : Ext M M' q := fun k hk => x k (fun z => hk (h k z))
theorem Ext.refl (M : Mem Key) (p : Key -> Prop) : Ext M M p := fun _ _ => ⟨Iff.rfl, rfl, rfl⟩
structure LevP (M : Mem Key) (q j : Nat) (s : Value) : Prop where
  lev : M.ok (kLev q) /\ M.O (kLev q) = .cells #[ptr (M.B (kIn q)), ptr (M.B (kOut q)), s] 144 (0, 0)
  inn : M.ok (kIn q) /\ M.O (kIn q) = cellO 0
  out : M.ok (kOut q) /\ M.O (kOut q) = cellO 0
  sl : M.Sl (kPls q) s 146 3 j ((List.range j).flatMap fun j => [ptr (M.B (kTurn q j)), ptr (M.B (kTick q j)), ptr (M.B (kSlot q j))])
  val : ∀ j', j' < j -> (M.ok (kTurn q j') /\ M.O (kTurn q j') = cellO j') /\ (M.ok (kTick q j') /\ M.O (kTick q j') = cellO 0) /\ (M.ok (kSlot q j') /\ M.O (kSlot q j') = cellO 0)
def LevUse (q j : Nat) (k : Key) : Prop := k.2.1 = q + 1 /\ (k.1 < 7 \/ k.2.2 < j)
theorem LevP.congr {M M' : Mem Key} {p : Key -> Prop} {q j : Nat} {s : Value} (x : LevP M q j s) (e : Ext M M' p) (hp : ∀ k, LevUse q j k -> ¬ p k) : LevP M' q j s := by
  have h := fun (k : Key) (hk : LevUse q j k) => e k (hp k hk)
  have tr : ∀ (k : Key) (o : Obj), LevUse q j k -> M.ok k /\ M.O k = o -> M'.ok k /\ M'.O k = o := fun k o hk y => ⟨(h k hk).1.mpr y.1, (h k hk).2.2.trans y.2⟩
  have u1 : LevUse q j (kLev q) := ⟨rfl, .inl (by show 2 < 7; omega)⟩
  have u2 : LevUse q j (kIn q) := ⟨rfl, .inl (by show 5 < 7; omega)⟩
  have u3 : LevUse q j (kOut q) := ⟨rfl, .inl (by show 6 < 7; omega)⟩
  have u4 : LevUse q j (kPls q) := ⟨rfl, .inl (by show 3 < 7; omega)⟩
  have u5 : ∀ t j', j' < j -> LevUse q j (t, q + 1, j') := fun t j' hj => ⟨rfl, .inr hj⟩
  refine ⟨?_, tr _ _ u2 x.inn, tr _ _ u3 x.out, ?_, fun j' hj' => ⟨tr _ _ (u5 _ _ hj') (x.val j' hj').1, tr _ _ (u5 _ _ hj') (x.val j' hj').2.1, tr _ _ (u5 _ _ hj') (x.val j' hj').2.2⟩⟩
  · have := tr _ _ u1 x.lev
    rw [(h (kIn q) u2).2.1, (h (kOut q) u3).2.1]
    exact this
  · have e1 : (List.range j).flatMap (fun j => [ptr (M'.B (kTurn q j)), ptr (M'.B (kTick q j)), ptr (M'.B (kSlot q j))]) = (List.range j).flatMap (fun j => [ptr (M.B (kTurn q j)), ptr (M.B (kTick q j)), ptr (M.B (kSlot q j))]) := by
      rw [List.flatMap_def, List.flatMap_def]
      congr 1
      refine List.map_congr_left fun j' hj' => ?_
      have hj := List.mem_range.mp hj'
      rw [(h (kTurn q j') (u5 _ _ hj)).2.1, (h (kTick q j') (u5 _ _ hj)).2.1, (h (kSlot q j') (u5 _ _ hj)).2.1]
    rw [e1]
    exact x.sl.congr (h (kPls q) u4).1 (h (kPls q) u4).2.1 (h (kPls q) u4).2.2
theorem LevP.round {M M4 : Mem Key} {q j bt bk bs b : Nat} {o : Obj} {s s' : Value} (x : LevP M q j s) (e4 : M4 = (((M.put (kTurn q j) bt (cellO j)).put (kTick q j) bk (cellO 0)).put (kSlot q j) bs (cellO 0)).put (kPls q) b o)
    (hs : M4.Sl (kPls q) s' 146 3 (j + 1) (((List.range j).flatMap fun j => [ptr (M.B (kTurn q j)), ptr (M.B (kTick q j)), ptr (M.B (kSlot q j))]) ++ [ptr bt, ptr bk, ptr bs])) :
    LevP (M4.set (kLev q) (.cells #[ptr (M.B (kIn q)), ptr (M.B (kOut q)), s'] 144 (0, 0))) q (j + 1) s' := by
  have e : Ext M (M4.set (kLev q) (.cells #[ptr (M.B (kIn q)), ptr (M.B (kOut q)), s'] 144 (0, 0))) (fun k => ((((k = kTurn q j \/ k = kTick q j) \/ k = kSlot q j) \/ k = kPls q) \/ k = kLev q)) := by
    subst e4
    exact ((((Ext.put _ _ _ _).trans (Ext.put _ _ _ _)).trans (Ext.put _ _ _ _)).trans (Ext.put _ _ _ _)).trans (Ext.set _ _ _)
  have hval : ∀ t j', j' < j -> (7 <= t) -> ¬ ((((((t, q + 1, j') : Key) = kTurn q j \/ ((t, q + 1, j') : Key) = kTick q j) \/ ((t, q + 1, j') : Key) = kSlot q j) \/ ((t, q + 1, j') : Key) = kPls q) \/ ((t, q + 1, j') : Key) = kLev q) := by
    intro t j' hj ht hx
    simp only [Prod.mk.injEq] at hx
    omega
  have tr : ∀ (t j' : Nat) (ob : Obj), j' < j -> 7 <= t -> M.ok (t, q + 1, j') /\ M.O (t, q + 1, j') = ob -> _ := fun t j' ob hj ht y => (⟨(e _ (hval t j' hj ht)).1.mpr y.1, (e _ (hval t j' hj ht)).2.2.trans y.2⟩ : (M4.set (kLev q) (.cells #[ptr (M.B (kIn q)), ptr (M.B (kOut q)), s'] 144 (0, 0))).ok (t, q + 1, j') /\ (M4.set (kLev q) (.cells #[ptr (M.B (kIn q)), ptr (M.B (kOut q)), s'] 144 (0, 0))).O (t, q + 1, j') = ob)
  have ein := e (kIn q) (by simp)
  have eout := e (kOut q) (by simp)
  refine ⟨⟨?_, ?_⟩, ⟨ein.1.mpr x.inn.1, ein.2.2.trans x.inn.2⟩, ⟨eout.1.mpr x.out.1, eout.2.2.trans x.out.2⟩, ?_, fun j' hj' => ?_⟩
  · subst e4
    exact .inr (.inr (.inr (.inr x.lev.1)))
  · rw [ein.2.1, eout.2.1]
    exact ut_same _ _ _
  · have e1 : (List.range (j + 1)).flatMap (fun j' => [ptr ((M4.set (kLev q) (.cells #[ptr (M.B (kIn q)), ptr (M.B (kOut q)), s'] 144 (0, 0))).B (kTurn q j')), ptr ((M4.set (kLev q) (.cells #[ptr (M.B (kIn q)), ptr (M.B (kOut q)), s'] 144 (0, 0))).B (kTick q j')), ptr ((M4.set (kLev q) (.cells #[ptr (M.B (kIn q)), ptr (M.B (kOut q)), s'] 144 (0, 0))).B (kSlot q j'))])
        = ((List.range j).flatMap fun j => [ptr (M.B (kTurn q j)), ptr (M.B (kTick q j)), ptr (M.B (kSlot q j))]) ++ [ptr bt, ptr bk, ptr bs] := by
      rw [List.range_succ, List.flatMap_append]
      congr 1
      · rw [List.flatMap_def, List.flatMap_def]
        congr 1
        refine List.map_congr_left fun j' hj' => ?_
        have hj := List.mem_range.mp hj'
        rw [(e _ (hval 7 j' hj (by omega))).2.1, (e _ (hval 8 j' hj (by omega))).2.1, (e _ (hval 9 j' hj (by omega))).2.1]
      · subst e4
        simp [Mem.set, Mem.put, ut]
    rw [e1]
    exact hs.set (by simp) _
  · by_cases hj : j' < j
    · exact ⟨tr 7 j' _ hj (by omega) (x.val j' hj).1, tr 8 j' _ hj (by omega) (x.val j' hj).2.1, tr 9 j' _ hj (by omega) (x.val j' hj).2.2⟩
    · obtain rfl : j' = j := by omega
      subst e4
      refine ⟨⟨.inr (.inr (.inr (.inl rfl))), ?_⟩, ⟨.inr (.inr (.inl rfl)), ?_⟩, ⟨.inr (.inl rfl), ?_⟩⟩ <;> simp [Mem.set, Mem.put, ut]
structure NewI (h0 h : Hp) (M : Mem Key) (T m i i' : Nat) (sL : Value) : Prop where
  rep : Rep h M
  upd : Upd (fun _ => False) h0 h
  above : ∀ k, M.ok k -> h0.size <= M.B k
  top : M.ok kTop /\ M.O kTop = .cells #[ptr (M.B kTk), sL] 140 (0, 0)
  topB : M.B kTop = T
  tk : M.ok kTk /\ M.O kTk = cellO 0
  sl : M.Sl kLvs sL 141 1 i ((List.range i).map fun q => ptr (M.B (kLev q)))
  levs : ∀ q, q < i -> ∃ s, LevP M q m s
  rest : ∀ q, i' <= q -> ¬ M.ok (kPls q)
theorem NewI.ext {h0 h h' : Hp} {M M' : Mem Key} {T m i i' : Nat} {sL : Value} {p : Key -> Prop} (x : NewI h0 h M T m i i' sL) (e : Ext M M' p) (hp : ∀ k, p k -> k.2.1 = i + 1) (r : Rep h' M') (u : Upd (fun _ => False) h0 h') (ha : ∀ k, p k -> M'.ok k -> h0.size <= M'.B k) (hr : i < i') : NewI h0 h' M' T m i i' sL := by
  have key : ∀ k : Key, k.2.1 ≠ i + 1 -> ¬ p k := fun k hk y => hk (hp k y)
  have tr : ∀ (k : Key) (o : Obj), k.2.1 ≠ i + 1 -> M.ok k /\ M.O k = o -> M'.ok k /\ M'.O k = o := fun k o hk y => ⟨(e k (key k hk)).1.mpr y.1, (e k (key k hk)).2.2.trans y.2⟩
  have n0 : ∀ t j, ((t, 0, j) : Key).2.1 ≠ i + 1 := fun t j => by simp
  have nl := e kLvs (key _ (n0 _ _))
  refine ⟨r, u, fun k hk => ?_, ?_, (e kTop (key _ (n0 _ _))).2.1.trans x.topB, tr _ _ (n0 _ _) x.tk, ?_, fun q hq => ?_, fun q hq => ?_⟩
  · by_cases hpk : p k
    · exact ha k hpk hk
    · rw [(e k hpk).2.1]; exact x.above k ((e k hpk).1.mp hk)
  · rw [(e kTk (key _ (n0 _ _))).2.1]; exact tr _ _ (n0 _ _) x.top
  · have e1 : (List.range i).map (fun q => ptr (M'.B (kLev q))) = (List.range i).map (fun q => ptr (M.B (kLev q))) := by
      refine List.map_congr_left fun q hq => ?_
      have := List.mem_range.mp hq
      rw [(e (kLev q) (key _ (by show q + 1 ≠ i + 1; omega))).2.1]
    rw [e1]
    exact x.sl.congr nl.1 nl.2.1 nl.2.2
  · obtain ⟨s, hs⟩ := x.levs q hq
    exact ⟨s, hs.congr e (fun k hk y => by have h1 := hk.1; have h2 := hp k y; omega)⟩
  · intro y
    exact x.rest q hq ((e (kPls q) (key _ (by show q + 1 ≠ i + 1; omega))).1.mp y)
structure NS where
  i : Nat
  M : Mem Key
  sL : Value
structure NS2 where
  j : Nat
  M : Mem Key
  s : Value
def v0 : Key -> Int
  | (7, _, j) => j
  | _ => 0
theorem okP_cases {L m : Nat} {k : Key} (h : okP L m k) : k = kTop \/ k = kLvs \/ k = kTk \/ (∃ q, q < L /\ (k = kLev q \/ k = kPls q \/ k = kIn q \/ k = kOut q)) \/ (∃ q j, q < L /\ j < m /\ (k = kTurn q j \/ k = kTick q j \/ k = kSlot q j)) := by
  unfold okP at h
  split at h
  · exact .inl rfl
  · exact .inr (.inl rfl)
  · exact .inr (.inr (.inr (.inl ⟨_, h, .inl rfl⟩)))
  · exact .inr (.inr (.inr (.inl ⟨_, h, .inr (.inl rfl)⟩)))
  · exact .inr (.inr (.inl rfl))
  · exact .inr (.inr (.inr (.inl ⟨_, h, .inr (.inr (.inl rfl))⟩)))
  · exact .inr (.inr (.inr (.inl ⟨_, h, .inr (.inr (.inr rfl))⟩)))
  · exact .inr (.inr (.inr (.inr ⟨_, _, h.1, h.2, .inl rfl⟩)))
  · exact .inr (.inr (.inr (.inr ⟨_, _, h.1, h.2, .inr (.inl rfl)⟩)))
  · exact .inr (.inr (.inr (.inr ⟨_, _, h.1, h.2, .inr (.inr rfl)⟩)))
  · exact h.elim
section
variable {Γ : Type} {main : Bool} {h : Hp} {δ : Ix Γ}
set_option maxRecDepth 8000 in
set_option maxHeartbeats 4000000 in
theorem new_ok {L m e : Nat} (hL1 : 1 <= L) (hL : L <= 8) (hm : m = 2 ^ e) (he1 : 1 <= e) (he : e <= 12) (hF : ∀ b o, h.size <= b -> ¬ NoS.still δ.g ⟨b, o, none⟩) :
    CallW Try.prog main NoS 53 #[.int .i64 L, .int .i64 m] h δ
      (Ret fun w h' δ' => δ' = δ /\ Upd (fun _ => False) h h' /\ ∃ G : PG, w = .tuple #[ptr (G.B kTop), .int .i64 0] /\ G.L = L /\ G.m = m /\ Pri h' G v0 /\ ∀ k, okP L m k -> h.size <= G.B k) := by
  have hm2 : 2 <= m := by have := Nat.pow_le_pow_right (n := 2) (by decide) he1; omega
  have hm1 : m <= 4096 := by have := Nat.pow_le_pow_right (n := 2) (by decide) he; omega
  have hbits : bits .and .i64 (m : Int) ((m : Int) - 1) = 0 := by
    rw [mask hm (by omega) (by omega), Nat.mod_self]; rfl
  refine CallW.start (n := 71) rfl rfl ?_
  (repeat (first | refine EK.seq ?_ | refine EK.region ?_ | refine ER.done ?_ | refine ER.move rfl rfl rfl ?_ | refine ER.assign rfl rfl rfl ?_ | refine ER.pickF rfl rfl rfl rfl ?_ | refine ER.cmpF rfl rfl rfl rfl rfl (by first | (dsimp only [cmpP]; omega) | exact rfl | exact Int.le_refl _) ?_ | refine ER.sub' (kd := .i64) rfl rfl rfl rfl (i64_in (by omega) (by omega)) ?_))
  refine ER.andI rfl rfl rfl rfl hbits ?_
  (repeat (first | refine EK.seq ?_ | refine EK.region ?_ | refine ER.done ?_ | refine EK.skip ?_ | refine ER.pickF rfl rfl rfl rfl ?_ | refine ER.cmpF rfl rfl rfl rfl rfl (by first | (dsimp only [cmpP]; omega) | exact rfl | exact Int.le_refl _) ?_ | refine EK.condF rfl ?_))
  refine ER.callD rfl rfl rfl rfl rfl (cnewS (hF _ _ (Nat.le_refl _))) ?_
  refine ER.buildS (cells := #[ptr h.size, .slice none 0 0]) rfl rfl rfl rfl ?_
  (repeat (first | refine EK.seq ?_ | refine EK.region ?_ | refine ER.done ?_ | refine EK.block ?_ | refine ER.move rfl rfl rfl ?_ | refine ER.assign rfl rfl rfl ?_ | refine ER.boxA rfl rfl rfl ?_))
  have x0 : NewI h ((h.push (cellO 0)).push (.cells #[ptr h.size, .slice none 0 0] 140)) ((Mem.emp.put kTk h.size (cellO 0)).put kTop (h.push (cellO 0)).size (.cells #[ptr h.size, .slice none 0 0] 140 (0, 0))) (h.push (cellO 0)).size m 0 0 (.slice none 0 0) := by
    refine ⟨(Rep.emp.put _ _).put _ _, (Upd.push _ _).trans (Upd.push _ _), fun k hk => ?_, ⟨.inl rfl, ?_⟩, by simp [Mem.put, ut], ⟨.inr (.inl rfl), ?_⟩, Mem.Sl.nil ?_, fun q hq => by omega, fun q _ hk => ?_⟩
    · rcases hk with rfl | rfl | hk
      · simp [Mem.put, ut]
      · simp [Mem.put, ut]
      · exact hk.elim
    · simp [Mem.put, ut]
    · simp [Mem.put, ut]
    · simp [Mem.put, Mem.emp]
    · simp [Mem.put, Mem.emp] at hk
  generalize hT : (h.push (cellO 0)).size = T at x0 ⊢
  change EK _ _ _ _ _ _ _ _ ((h.push (cellO 0)).push (.cells #[ptr h.size, .slice none 0 0] 140)) _ _
  generalize (h.push (cellO 0)).push (.cells #[ptr h.size, .slice none 0 0] 140) = h1 at x0 ⊢
  generalize ((Mem.emp.put kTk h.size (cellO 0)).put kTop T (.cells #[ptr h.size, .slice none 0 0] 140 (0, 0)) : Mem Key) = M1 at x0
  skip
  refine EK.loopInv (fun s : NS => [(34, .int .i64 s.i), (33, .int .i64 L), (0, .int .i64 L), (1, .int .i64 m), (6, ptr T)]) (fun s h' δ' => δ' = δ /\ s.i <= L /\ NewI h h' s.M T m s.i s.i s.sL) (fun s => L - s.i) ⟨0, M1, .slice none 0 0⟩ ⟨rfl, rfl, rfl, rfl, rfl, trivial⟩ ⟨rfl, Nat.zero_le _, x0⟩ ?_
  clear x0 M1 h1
  rintro ⟨i, M, sL⟩ h1 δ1 ⟨hδ, hi, x⟩ again
  dsimp only at hi x again ⊢
  obtain rfl : δ = δ1 := hδ.symm
  have hsz := x.upd.size
  by_cases hlt : i < L
  · (repeat (first | refine EK.seq ?_ | refine EK.region ?_ | refine ER.done ?_ | refine EK.skip ?_ | refine EK.block ?_ | refine ER.cmpT rfl rfl rfl rfl rfl (by first | (dsimp only [cmpP]; omega) | exact rfl | exact Int.le_refl _) ?_ | refine EK.condT rfl ?_))
    refine ER.callD rfl rfl rfl rfl rfl (cnewS (hF _ _ hsz)) ?_
    refine ER.callD rfl rfl rfl rfl rfl (cnewS (hF _ _ (by simp; omega))) ?_
    refine ER.buildS (cells := #[ptr h1.size, ptr (h1.push (cellO 0)).size, .slice none 0 0]) rfl rfl rfl rfl ?_
    (repeat (first | refine EK.seq ?_ | refine EK.region ?_ | refine ER.done ?_ | refine EK.block ?_ | refine ER.move rfl rfl rfl ?_ | refine ER.assign rfl rfl rfl ?_ | refine ER.boxA rfl rfl rfl ?_))
    obtain ⟨M1, hM1⟩ : ∃ M1, M1 = ((M.put (kIn i) h1.size (cellO 0)).put (kOut i) (h1.push (cellO 0)).size (cellO 0)).put (kLev i) ((h1.push (cellO 0)).push (cellO 0)).size (.cells #[ptr h1.size, ptr (h1.push (cellO 0)).size, .slice none 0 0] 144 (0, 0)) := ⟨_, rfl⟩
    have r1 : Rep _ M1 := hM1 ▸ ((x.rep.put (kIn i) (cellO 0)).put (kOut i) (cellO 0)).put (kLev i) (.cells #[ptr h1.size, ptr (h1.push (cellO 0)).size, .slice none 0 0] 144 (0, 0))
    have e1 : Ext M M1 (fun k => (k = kIn i \/ k = kOut i) \/ k = kLev i) := hM1 ▸ ((Ext.put _ _ _ _).trans (Ext.put _ _ _ _)).trans (Ext.put _ _ _ _)
    have x1 := NewI.ext (⟨x.rep, x.upd, x.above, x.top, x.topB, x.tk, x.sl, x.levs, fun q hq => x.rest q (by omega)⟩ : NewI h h1 M T m i (i + 1) sL) e1 (fun k hk => by rcases hk with (rfl | rfl) | rfl <;> rfl) r1 (((x.upd.trans (Upd.push _ _)).trans (Upd.push _ _)).trans (Upd.push _ _)) (fun k hk _ => by
      subst hM1
      rcases hk with (rfl | rfl) | rfl <;> simp [Mem.put, ut] <;> omega) (by omega)
    have lp1 : LevP M1 i 0 (.slice none 0 0) := by
      subst hM1
      refine ⟨⟨.inl rfl, by simp [Mem.put, ut]⟩, ⟨.inr (.inr (.inl rfl)), by simp [Mem.put, ut]⟩, ⟨.inr (.inl rfl), by simp [Mem.put, ut]⟩, Mem.Sl.nil ?_, fun j hj => by omega⟩
      simp [Mem.put]
      exact x.rest i (Nat.le_refl _)
    obtain ⟨Lb, hLb⟩ : ∃ Lb, Lb = ((h1.push (cellO 0)).push (cellO 0)).size := ⟨_, rfl⟩
    have bL : M1.B (kLev i) = Lb := by subst hM1; rw [hLb]; simp [Mem.put, ut]
    rw [<- hLb]
    change EK _ _ _ _ _ _ _ _ (((h1.push (cellO 0)).push (cellO 0)).push (.cells #[ptr h1.size, ptr (h1.push (cellO 0)).size, .slice none 0 0] 144)) _ _
    generalize ((h1.push (cellO 0)).push (cellO 0)).push (.cells #[ptr h1.size, ptr (h1.push (cellO 0)).size, .slice none 0 0] 144) = h2 at x1 r1 ⊢
    clear r1 e1 hM1
    refine EK.loopInv (fun t : NS2 => [(41, .int .i64 t.j), (40, .int .i64 m), (7, ptr Lb), (34, .int .i64 i), (33, .int .i64 L), (0, .int .i64 L), (1, .int .i64 m), (6, ptr T)]) (fun t h' δ' => δ' = δ /\ t.j <= m /\ NewI h h' t.M T m i (i + 1) sL /\ LevP t.M i t.j t.s /\ t.M.B (kLev i) = Lb) (fun t => m - t.j) ⟨0, M1, .slice none 0 0⟩ ⟨rfl, rfl, rfl, rfl, rfl, rfl, rfl, rfl, trivial⟩ ⟨rfl, Nat.zero_le _, x1, lp1, bL⟩ ?_
    clear x1 lp1 bL hLb x hsz M1 h2
    rintro ⟨j, M, s⟩ h2 δ2 ⟨hδ2, hj, x, lp, bL⟩ again2
    dsimp only at hj x lp bL again2 ⊢
    obtain rfl : δ = δ2 := hδ2.symm
    have hsz := x.upd.size
    by_cases hjm : j < m
    · (repeat (first | refine EK.seq ?_ | refine EK.region ?_ | refine ER.done ?_ | refine EK.skip ?_ | refine EK.block ?_ | refine ER.move rfl rfl rfl ?_ | refine ER.assign rfl rfl rfl ?_ | refine ER.cmpT rfl rfl rfl rfl rfl (by first | (dsimp only [cmpP]; omega) | exact rfl | exact Int.le_refl _) ?_ | refine EK.condT rfl ?_))
      have cS : hcell h2 ⟨Lb, 2, none⟩ = some s := bL ▸ x.rep.cell lp.lev.1 lp.lev.2 rfl
      refine EK.regionAnyL (fun h' => hcell h' ⟨Lb, 2, none⟩ = some s) 14 ?_
      have hZ := cS
      refine EA.tMove 0 rfl (by kernel_rfl) rfl rfl rfl rfl hZ ?_
      refine EA.tMove 1 rfl (by kernel_rfl) rfl rfl rfl rfl hZ ?_
      refine EA.tNil 2 rfl (by kernel_rfl) rfl rfl rfl rfl hZ ?_
      refine EA.tField 3 rfl (by kernel_rfl) rfl rfl rfl rfl hZ ?_
      refine EA.tLoad 4 rfl (by kernel_rfl) rfl rfl rfl rfl (fun _ hz => hz) hZ ?_
      refine EA.tMove 5 rfl (by kernel_rfl) rfl rfl rfl rfl hZ ?_
      refine EA.callD 6 rfl (by kernel_rfl) rfl rfl rfl rfl rfl rfl (cnewS (hF _ _ hsz)) (hcell_push hZ) ?_
      refine EA.callD 7 rfl (by kernel_rfl) rfl rfl rfl rfl rfl rfl (cnewS (hF _ _ (by simp; omega))) (hcell_push (hcell_push hZ)) ?_
      refine EA.callD 8 rfl (by kernel_rfl) rfl rfl rfl rfl rfl rfl (cnewS (hF _ _ (by simp; omega))) (hcell_push (hcell_push (hcell_push hZ))) ?_
      have hZ := hcell_push (o := cellO 0) (hcell_push (o := cellO 0) (hcell_push (o := cellO j) hZ))
      obtain ⟨bt, hbt⟩ : ∃ bt, bt = h2.size := ⟨_, rfl⟩
      obtain ⟨bk, hbk⟩ : ∃ bk, bk = (h2.push (cellO j)).size := ⟨_, rfl⟩
      obtain ⟨bs, hbs⟩ : ∃ bs, bs = ((h2.push (cellO j)).push (cellO 0)).size := ⟨_, rfl⟩
      rw [<- hbt, <- hbk, <- hbs]
      have r3 := ((x.rep.put (kTurn i j) (cellO j)).put (kTick i j) (cellO 0)).put (kSlot i j) (cellO 0)
      rw [<- hbt, <- hbk, <- hbs] at r3
      have sl3 := ((lp.sl.put (j := kTurn i j) (by simp) bt (cellO j)).put (j := kTick i j) (by simp) bk (cellO 0)).put (j := kSlot i j) (by simp) bs (cellO 0)
      have u3 : Upd (fun _ => False) h (((h2.push (cellO j)).push (cellO 0)).push (cellO 0)) := ((x.upd.trans (Upd.push _ _)).trans (Upd.push _ _)).trans (Upd.push _ _)
      have hbge : h.size <= bt /\ h.size <= bk /\ h.size <= bs := by subst hbt hbk hbs; simp; omega
      change EA _ _ _ _ _ _ _ _ _ _ _ _ _ (((h2.push (cellO j)).push (cellO 0)).push (cellO 0)) _ _
      change hcell (((h2.push (cellO j)).push (cellO 0)).push (cellO 0)) _ = _ at hZ
      generalize ((h2.push (cellO j)).push (cellO 0)).push (cellO 0) = h3 at r3 u3 hZ ⊢
      have hsz3 := u3.size
      refine EA.val 9 rfl (by kernel_rfl) rfl rfl rfl (fun ρ Q X hρ hq => sem_buildS (cells := #[ptr bt, ptr bk, ptr bs]) hρ rfl rfl hq) hZ ?_
      refine EA.val (v := .slice (some ⟨h3.size, 0, none⟩) 1 1) (h' := h3.push (.cells #[ptr bt, ptr bk, ptr bs] 146)) 10 rfl (by kernel_rfl) rfl rfl rfl (fun ρ Q X hρ hq => sem_slice1 (sz := 3) hρ rfl (by omega) (by omega) rfl rfl hq) (hcell_push hZ) ?_
      have hZ := hcell_push (o := .cells #[ptr bt, ptr bk, ptr bs] 146) hZ
      have r4 := r3.upd0 (Upd.push h3 (.cells #[ptr bt, ptr bk, ptr bs] 146))
      have u4 := u3.trans (Upd.push (T := fun _ => False) h3 (.cells #[ptr bt, ptr bk, ptr bs] 146))
      have n4 := get_push_new h3 (.cells #[ptr bt, ptr bk, ptr bs] 146)
      generalize h3.push (.cells #[ptr bt, ptr bk, ptr bs] 146) = h4 at r4 u4 n4 hZ ⊢
      clear r3 u3
      have hsz4 := u4.size
      refine EA.append1 (new := [ptr bt, ptr bk, ptr bs]) 11 rfl (by kernel_rfl) rfl rfl rfl rfl rfl (sl3.slice r4) n4 rfl (by simp [OneCell]) (by omega) (by omega) rfl (fun b o hb => hF _ _ (by
        obtain ⟨hk, e⟩ := lp.sl.blk hb
        rw [e]; exact x.above _ hk)) ?_
      intro s' h5 hs5 u5 hb5
      have hblk : ∀ b, blk s = some b -> b ≠ Lb := fun b hb e => by
        obtain ⟨hk, e'⟩ := lp.sl.blk hb
        have := x.rep.inj (kPls i) (kLev i) hk lp.lev.1 (by rw [bL, <- e', e])
        simp at this
      have hZ5 := u5.hcell hZ (fun y => hblk _ y rfl)
      refine ⟨hZ5, ?_⟩
      obtain ⟨b, o, r5, sl5, hb', hlt5⟩ := r4.app sl3 hs5 u5 hb5
      have hab : h.size <= b := by
        rcases hb' with ⟨hk, e⟩ | y
        · have hk' : M.ok (kPls i) := by simpa [Mem.put] using hk
          have := x.above _ hk'
          rw [e]; simpa [Mem.put, ut] using this
        · omega
      obtain ⟨M5, hM5⟩ : ∃ M5, M5 = (((M.put (kTurn i j) bt (cellO j)).put (kTick i j) bk (cellO 0)).put (kSlot i j) bs (cellO 0)).put (kPls i) b o := ⟨_, rfl⟩
      rw [<- hM5] at r5 sl5
      have lp6 := lp.round hM5 sl5
      have okL : M5.ok (kLev i) := by subst hM5; simp [Mem.put]; exact lp.lev.1
      have oL : M5.O (kLev i) = .cells #[ptr (M.B (kIn i)), ptr (M.B (kOut i)), s] 144 (0, 0) := by subst hM5; simp [Mem.put, ut]; exact lp.lev.2
      have bL5 : M5.B (kLev i) = Lb := by subst hM5; simp [Mem.put, ut]; exact bL
      have r6 := r5.hset okL oL 2 s'
      rw [bL5] at r6
      have e6 : Ext M (M5.set (kLev i) (.cells #[ptr (M.B (kIn i)), ptr (M.B (kOut i)), s'] 144 (0, 0))) (fun k => ((((k = kTurn i j \/ k = kTick i j) \/ k = kSlot i j) \/ k = kPls i) \/ k = kLev i)) := by
        subst hM5
        exact ((((Ext.put _ _ _ _).trans (Ext.put _ _ _ _)).trans (Ext.put _ _ _ _)).trans (Ext.put _ _ _ _)).trans (Ext.set _ _ _)
      have hLbge : h.size <= Lb := bL ▸ x.above _ lp.lev.1
      have u6 : Upd (fun _ => False) h (hset h5 ⟨Lb, 2, none⟩ s') := (u4.over u5 (fun b hb => by
        obtain ⟨hk, e⟩ := lp.sl.blk hb
        rw [e]; exact x.above _ hk)).over (Upd.hset (T := fun b => b = Lb) _ _ _ rfl) (fun b hb => by rw [hb]; exact hLbge)
      have x6 := x.ext e6 (fun k hk => by rcases hk with (((rfl | rfl) | rfl) | rfl) | rfl <;> rfl) r6 u6 (fun k hk _ => by
        subst hM5
        rcases hk with (((rfl | rfl) | rfl) | rfl) | rfl
        · simp [Mem.set, Mem.put, ut]; exact hbge.1
        · simp [Mem.set, Mem.put, ut]; exact hbge.2.1
        · simp [Mem.set, Mem.put, ut]; exact hbge.2.2
        · simp [Mem.set, Mem.put, ut]; exact hab
        · exact Nat.le_trans hLbge (Nat.le_of_eq bL5.symm)) (by omega)
      obtain ⟨a5, c5, es5⟩ := hs5.val
      have one5 : OneCell s' := by rw [es5]; exact ⟨nofun, nofun⟩
      have frz : hfroz h5 ⟨Lb, 2, none⟩ = false := bL5 ▸ hfroz_of (r5.get okL oL)
      have hZ := hZ5
      refine EA.val 12 rfl (by kernel_rfl) rfl rfl rfl (fun ρ Q X hρ hq => sem_nilCheck (hρ _ _ rfl) hq) hZ ?_
      refine EA.tField 13 rfl (by kernel_rfl) rfl rfl rfl rfl hZ ?_
      refine EA.unitL 14 rfl (by kernel_rfl) rfl rfl rfl (fun ρ Q X hρ hq => sem_store1 (hρ _ _ rfl) (hρ _ _ rfl) one5 ⟨_, hZ5⟩ frz (hF _ _ hLbge) hq) ?_
      refine EA.done (by kernel_rfl) ?_
      (repeat (first | refine EK.region ?_ | refine ER.done ?_ | refine EK.inBlock ?_ | refine ER.move rfl rfl rfl ?_ | refine ER.add (kd := .i64) rfl rfl rfl rfl (i64_in (by omega) (by omega)) ?_))
      exact EK.back (again2 ⟨j + 1, _, s'⟩ _ _ (by dsimp only; omega) ⟨rfl, by dsimp only; omega, x6, lp6, bL5⟩) ⟨rfl, rfl, rfl, rfl, rfl, rfl, rfl, rfl, trivial⟩
    · obtain rfl : j = m := by omega
      clear again2
      (repeat (first | refine EK.seq ?_ | refine EK.region ?_ | refine ER.done ?_ | refine ER.move rfl rfl rfl ?_ | refine ER.nilCheck rfl rfl rfl ?_ | refine ER.fieldAddr rfl rfl rfl ?_ | refine ER.cmpF rfl rfl rfl rfl rfl (by first | (dsimp only [cmpP]; omega) | exact rfl | exact Int.le_refl _) ?_ | refine EK.condF rfl ?_ | refine EK.exit rfl ?_))
      have cT : hcell h2 ⟨T, 1, none⟩ = some sL := x.topB ▸ x.rep.cell x.top.1 x.top.2 rfl
      refine ER.load1 rfl rfl rfl cT ?_
      (repeat refine ER.move rfl rfl rfl ?_)
      refine ER.slice1 (cells := #[ptr Lb]) rfl rfl rfl (by omega) (by omega) (by rfl) rfl ?_
      have r3 := x.rep.upd0 (Upd.push h2 (.cells #[ptr Lb] 141))
      have u3 := x.upd.trans (Upd.push (T := fun _ => False) h2 (.cells #[ptr Lb] 141))
      have n3 := get_push_new h2 (.cells #[ptr Lb] 141)
      have cT3 := hcell_push (o := .cells #[ptr Lb] 141) cT
      generalize h2.push (.cells #[ptr Lb] 141) = h3 at r3 u3 n3 cT3 ⊢
      have hsz3 := u3.size
      refine ER.append1 (new := [ptr Lb]) rfl rfl rfl rfl (x.sl.slice r3) n3 rfl (by simp [OneCell]) (by omega) (by omega) (by rfl) (fun b o hb => hF _ _ (by
        obtain ⟨hk, e⟩ := x.sl.blk hb
        rw [e]; exact x.above _ hk)) ?_
      intro sL' h4 hs4 u4 hb4
      have hblk : ∀ b, blk sL = some b -> b ≠ T := fun b hb e => by
        obtain ⟨hk, e'⟩ := x.sl.blk hb
        have := x.rep.inj kLvs kTop hk x.top.1 (by rw [x.topB, <- e', e])
        simp at this
      have cT4 := u4.hcell cT3 (fun y => hblk _ y rfl)
      obtain ⟨b, o, r4, sl4, hb', hlt4⟩ := r3.app x.sl hs4 u4 hb4
      have hab : h.size <= b := by
        rcases hb' with ⟨hk, e⟩ | y
        · rw [e]; exact x.above _ hk
        · omega
      have okT : (M.put kLvs b o).ok kTop := .inr x.top.1
      have oT : (M.put kLvs b o).O kTop = .cells #[ptr (M.B kTk), sL] 140 (0, 0) := by simp [Mem.put, ut]; exact x.top.2
      have bT : (M.put kLvs b o).B kTop = T := by simp [Mem.put, ut]; exact x.topB
      have r5 := r4.hset okT oT 1 sL'
      rw [bT] at r5
      have hTge : h.size <= T := x.topB ▸ x.above _ x.top.1
      have u5 : Upd (fun _ => False) h (hset h4 ⟨T, 1, none⟩ sL') := (u3.over u4 (fun b hb => by
        obtain ⟨hk, e⟩ := x.sl.blk hb
        rw [e]; exact x.above _ hk)).over (Upd.hset (T := fun b => b = T) _ _ _ rfl) (fun b hb => by rw [hb]; exact hTge)
      have e5 : Ext M ((M.put kLvs b o).set kTop (.cells #[ptr (M.B kTk), sL'] 140 (0, 0))) (fun k => k = kLvs \/ k = kTop) := (Ext.put _ _ _ _).trans (Ext.set _ _ _)
      have hne : ∀ k : Key, k.2.1 ≠ 0 -> ¬ (k = kLvs \/ k = kTop) := fun k hk y => by rcases y with rfl | rfl <;> exact hk rfl
      have x5 : NewI h (hset h4 ⟨T, 1, none⟩ sL') ((M.put kLvs b o).set kTop (.cells #[ptr (M.B kTk), sL'] 140 (0, 0))) T j (i + 1) (i + 1) sL' := by
        refine ⟨r5, u5, fun k hk => ?_, ⟨okT, ?_⟩, bT, ⟨(e5 kTk (by simp)).1.mpr x.tk.1, (e5 kTk (by simp)).2.2.trans x.tk.2⟩, ?_, fun q hq => ?_, fun q hq hk => ?_⟩
        · by_cases h1 : k = kLvs
          · subst h1; simp [Mem.set, Mem.put, ut]; exact hab
          · by_cases h2 : k = kTop
            · subst h2; exact Nat.le_trans hTge (Nat.le_of_eq bT.symm)
            · rw [(e5 k (fun y => y.elim h1 h2)).2.1]
              exact x.above k ((e5 k (fun y => y.elim h1 h2)).1.mp hk)
        · rw [(e5 kTk (by simp)).2.1]; simp [Mem.set, ut]
        · have e1 : (List.range (i + 1)).map (fun q => ptr (((M.put kLvs b o).set kTop (.cells #[ptr (M.B kTk), sL'] 140 (0, 0))).B (kLev q))) = (List.range i).map (fun q => ptr (M.B (kLev q))) ++ [ptr Lb] := by
            rw [List.range_succ, List.map_append]
            congr 1
            · simp only [List.map_cons, List.map_nil]
              rw [(e5 (kLev i) (hne _ (by show i + 1 ≠ 0; omega))).2.1, bL]
          rw [e1]
          exact sl4.set (by simp) _
        · by_cases hqi : q = i
          · subst hqi
            exact ⟨s, lp.congr e5 (fun k hk => hne k (by rw [hk.1]; omega))⟩
          · obtain ⟨s', hs'⟩ := x.levs q (by omega)
            exact ⟨s', hs'.congr e5 (fun k hk => hne k (by rw [hk.1]; omega))⟩
        · exact x.rest q hq ((e5 (kPls q) (hne _ (by show q + 1 ≠ 0; omega))).1.mp hk)
      obtain ⟨a4, c4, es4⟩ := hs4.val
      have one4 : OneCell sL' := by rw [es4]; exact ⟨nofun, nofun⟩
      have frz : hfroz h4 ⟨T, 1, none⟩ = false := bT ▸ hfroz_of (r4.get okT oT)
      (repeat (first | refine ER.nilCheck rfl rfl rfl ?_ | refine ER.fieldAddr rfl rfl rfl ?_))
      refine ER.store1 rfl rfl rfl one4 ⟨_, cT4⟩ frz (hF _ _ hTge) ?_
      (repeat (first | refine EK.region ?_ | refine ER.done ?_ | refine EK.inBlock ?_ | refine ER.move rfl rfl rfl ?_ | refine ER.add (kd := .i64) rfl rfl rfl rfl (i64_in (by omega) (by omega)) ?_))
      exact EK.back (again ⟨i + 1, _, sL'⟩ _ _ (by dsimp only; omega) ⟨rfl, by dsimp only; omega, x5⟩) ⟨rfl, rfl, rfl, rfl, rfl, trivial⟩
  · obtain rfl : i = L := by omega
    have key : ∀ q : Nat, ∃ p : Nat × List Value, q < i -> (M.ok (kLev q) /\ M.O (kLev q) = .cells #[ptr (M.B (kIn q)), ptr (M.B (kOut q)), .slice (some ⟨M.B (kPls q), 0, none⟩) m p.1] 144 (0, 0)) /\ (M.ok (kPls q) /\ M.O (kPls q) = .cells (((List.range m).flatMap fun j => [ptr (M.B (kTurn q j)), ptr (M.B (kTick q j)), ptr (M.B (kSlot q j))]) ++ p.2).toArray 146 (0, 0)) := by
      intro q
      by_cases hq : q < i
      · obtain ⟨s, lp⟩ := x.levs q hq
        rcases lp.sl.2 with ⟨_, h0, _⟩ | ⟨hk, cap, rest, rfl, _, _, h3⟩
        · omega
        · exact ⟨(cap, rest), fun _ => ⟨lp.lev, hk, h3⟩⟩
      · exact ⟨(0, []), fun y => absurd y hq⟩
    obtain ⟨fp, hfp⟩ := Classical.axiomOfChoice key
    have xl := x.sl.2
    rcases xl with ⟨_, h0, _⟩ | ⟨hkL, capL, rL, rfl, _, _, hoL⟩
    · omega
    obtain ⟨G, hG⟩ : ∃ G : PG, G = ⟨i, m, capL, fun q => (fp q).1, rL, fun q => (fp q).2, M.B⟩ := ⟨_, rfl⟩
    have gL : G.L = i := by rw [hG]
    have gm : G.m = m := by rw [hG]
    have gB : G.B = M.B := by rw [hG]
    have all : ∀ k, okP i m k -> M.ok k /\ M.O k = priO G v0 k := by
      intro k hk
      rcases okP_cases hk with rfl | rfl | rfl | ⟨q, hq, rfl | rfl | rfl | rfl⟩ | ⟨q, j, hq, hj, rfl | rfl | rfl⟩
      · exact ⟨x.top.1, by rw [x.top.2, hG]; rfl⟩
      · exact ⟨hkL, by rw [hoL, hG]; rfl⟩
      · exact ⟨x.tk.1, by rw [x.tk.2]; rfl⟩
      · exact ⟨(hfp q hq).1.1, by rw [(hfp q hq).1.2, hG]; rfl⟩
      · exact ⟨(hfp q hq).2.1, by rw [(hfp q hq).2.2, hG]; rfl⟩
      · obtain ⟨s, lp⟩ := x.levs q hq; exact ⟨lp.inn.1, by rw [lp.inn.2]; rfl⟩
      · obtain ⟨s, lp⟩ := x.levs q hq; exact ⟨lp.out.1, by rw [lp.out.2]; rfl⟩
      · obtain ⟨s, lp⟩ := x.levs q hq; exact ⟨(lp.val j hj).1.1, by rw [(lp.val j hj).1.2]; rfl⟩
      · obtain ⟨s, lp⟩ := x.levs q hq; exact ⟨(lp.val j hj).2.1.1, by rw [(lp.val j hj).2.1.2]; rfl⟩
      · obtain ⟨s, lp⟩ := x.levs q hq; exact ⟨(lp.val j hj).2.2.1, by rw [(lp.val j hj).2.2.2]; rfl⟩
    have rG : Pri h1 G v0 := x.rep.congr (fun k hk => (all k (by rw [<- gL, <- gm]; exact hk)).1) (fun k _ => congrFun gB k) (fun k hk => (all k (by rw [<- gL, <- gm]; exact hk)).2.symm)
    have hTB : G.B kTop = T := by rw [gB]; exact x.topB
    (repeat (first | refine EK.seq ?_ | refine EK.region ?_ | refine ER.done ?_ | refine ER.move rfl rfl rfl ?_ | refine ER.assign rfl rfl rfl ?_ | refine ER.cmpF rfl rfl rfl rfl rfl (by first | (dsimp only [cmpP]; omega) | exact rfl | exact Int.le_refl _) ?_ | refine EK.condF rfl ?_ | refine EK.ret ?_ | refine EK.exit rfl ?_))
    refine EU.ret2 rfl rfl rfl ⟨rfl, x.upd, G, by rw [hTB], gL, gm, rG, fun k hk => ?_⟩
    rw [gB]
    exact x.above k (all k hk).1
end
end
section
open Go Go.TJ Go.Proofs
variable [Dm]
structure Pe where
  n : Nat
  q : Nat
  e : Nat
  G : PG
  idx : Nat -> Key
  vE : Nat
  vN : Nat
  vP : Nat
  vC : Nat
  vU : Nat
  vL : Nat
  vW : Nat
  pb : Nat
  qb : Nat
  wb : Nat
structure Pst (h : Hp) (x : Pe) (h' : Hp) : Prop where
  u : Upd (fun _ => False) h h'
  E : h'[x.vE]? = some (.cells #[.int .i64 x.e] 3 (0, 0))
  N : h'[x.vN]? = some (.cells #[.int .i64 x.n] 3 (0, 0))
  P : h'[x.vP]? = some (.cells #[.pointer (some ⟨x.G.B kTop, 0, none⟩)] 83 (0, 0))
  C : h'[x.vC]? = some (.cells #[.int .i64 x.G.L] 3 (0, 0))
  U : h'[x.vU]? = some (.cells #[.slice (some ⟨x.pb, 0, none⟩) x.n x.n] 28 (0, 0))
  V : h'[x.vL]? = some (.cells #[.slice (some ⟨x.qb, 0, none⟩) (x.q + 1) (x.q + 1)] 28 (0, 0))
  W : h'[x.vW]? = some (.cells #[.slice (some ⟨x.wb, 0, none⟩) (x.n + x.q + 1) (x.n + x.q + 1)] 47 (0, 0))
  pb : h'[x.pb]? = some (.cells (List.replicate x.n nilSl).toArray 31 (0, 0))
  qb : h'[x.qb]? = some (.cells (List.replicate (x.q + 1) nilSl).toArray 31 (0, 0))
  wb : h'[x.wb]? = some (.cells (List.replicate (x.n + x.q + 1) (Value.bool false)).toArray 4 (0, 0))
  r : Pri h' x.G v0
  bl : ∀ k, okP x.G.L 64 k -> h.size <= x.G.B k
  bi : ∀ k, x.idx (x.G.B k) = k
  pl : h.size <= x.pb
  ql : h.size <= x.qb
  wl : h.size <= x.wb
  pq : x.pb ≠ x.qb
  gm : x.G.m = 64
  n1 : 1 <= x.n
  n4 : x.n <= 4
  q1 : 1 <= x.q
  q4 : x.q <= 4
  e1 : x.e <= 100
  L1 : 1 <= x.G.L
  L8 : x.G.L <= 8
theorem Pst.upd {h h1 h2 : Hp} {x : Pe} (k : Pst h x h1) (u : Upd (fun _ => False) h1 h2) : Pst h x h2 where
  u := k.u.trans u
  E := u.get k.E fun z => z
  N := u.get k.N fun z => z
  P := u.get k.P fun z => z
  C := u.get k.C fun z => z
  U := u.get k.U fun z => z
  V := u.get k.V fun z => z
  W := u.get k.W fun z => z
  pb := u.get k.pb fun z => z
  qb := u.get k.qb fun z => z
  wb := u.get k.wb fun z => z
  r := k.r.upd0 u
  bl := k.bl
  bi := k.bi
  pl := k.pl
  ql := k.ql
  wl := k.wl
  pq := k.pq
  gm := k.gm
  n1 := k.n1
  n4 := k.n4
  q1 := k.q1
  q4 := k.q4
  e1 := k.e1
  L1 := k.L1
  L8 := k.L8
theorem Pst.inj {h h1 : Hp} {x : Pe} (k : Pst h x h1) : ∀ i j, x.G.B i = x.G.B j -> i = j := fun i j e => by
  have h1 := k.bi i
  rw [e, k.bi j] at h1
  exact h1.symm
theorem kv_ok {L m : Nat} {k : Key} (h : k ∈ kvals L m) : okP L m k /\ isV k := by
  rcases kvals_mem.1 h with rfl | ⟨i, hi, rfl | rfl | ⟨j, hj, rfl | rfl | rfl⟩⟩
  · exact ⟨trivial, by unfold isV; decide⟩
  · exact ⟨hi, by show 4 <= 5; omega⟩
  · exact ⟨hi, by show 4 <= 6; omega⟩
  · exact ⟨⟨hi, hj⟩, by show 4 <= 7; omega⟩
  · exact ⟨⟨hi, hj⟩, by show 4 <= 8; omega⟩
  · exact ⟨⟨hi, hj⟩, by show 4 <= 9; omega⟩
def Pe.cl (x : Pe) : List Nat := (kvals x.G.L 64).map x.G.B
def pC (x : Pe) (hF : Hp) : Pc' where
  n := x.n
  q := x.q
  e := x.e
  L := x.G.L
  K := 1000000000
  B := x.G.B
  pb := x.pb
  qb := x.qb
  wb := x.wb
  fb := hF.size
  top := hF.size + 3
  tS := 31
  tB := 4
  ro b := b < hF.size + 2 /\ b ∉ x.cl /\ b ≠ x.pb /\ b ≠ x.qb /\ b ≠ x.wb /\ b ≠ hF.size /\ ∃ c e f, (frH hF (x.n + x.q))[b]? = some (.cells c e f) /\ Pres (frH hF (x.n + x.q)) b
def pY (x : Pe) (c : Pc') : Py := ⟨c, fun b => v0 (x.idx b), fun _ => 0, fun _ => 0, fun _ _ => 0, fun _ j => j, fun _ _ => 0, fun _ => 2000, fun _ => [], fun _ => [], fun _ => nilSl, fun _ => nilSl⟩
def Pe.kp (x : Pe) : Kp := ⟨x.vE, x.vN, x.vP, x.vC, x.vU, x.vL, x.vW, x.G.capL, x.G.capP⟩
section
variable {h hF : Hp} {x : Pe}
theorem Pst.cls (k : Pst h x hF) {b : Nat} (hb : b ∈ x.cl) : h.size <= b /\ b < hF.size /\ hF[b]? = some (cellO (v0 (x.idx b))) := by
  obtain ⟨j, hj, rfl⟩ := List.mem_map.1 hb
  obtain ⟨o1, o2⟩ := kv_ok hj
  have hc := k.r.val (k := j) (by rw [k.gm]; exact o1) o2
  exact ⟨k.bl j o1, lt_of_get hc, by rw [k.bi]; exact hc⟩
theorem Pst.ncls (k : Pst h x hF) {b : Nat} {c : Array Value} {e : TypeId} (hb : hF[b]? = some (.cells c e (0, 0))) (he : e ≠ 109) : b ∉ x.cl := fun hm => by
  obtain ⟨_, _, hv⟩ := k.cls hm
  rw [hv] at hb
  injection hb with hb
  injection hb with _ hb _
  exact he hb.symm
theorem Pst.roOf (k : Pst h x hF) {b : Nat} {c : Array Value} {e : TypeId} (hb : hF[b]? = some (.cells c e (0, 0))) (hc : c ≠ #[]) (h1 : e ≠ 109) (h2 : e ≠ 31) (h3 : e ≠ 4) : (pC x hF).ro b := by
  have hlt := lt_of_get hb
  exact ⟨by omega, k.ncls hb h1, cells_ne' hb k.pb h2, cells_ne' hb k.qb h2, cells_ne' hb k.wb h3, by omega, _, _, _, frH_old hb, pres_of (frH_old hb) (by unfold dum; intro z; injection z with z; exact hc z)⟩
theorem pri_kp {h : Hp} {G : PG} {v : Key -> Int} {c : Pc'} (r : Pri h G v) (hL : G.L = c.L) (hB : G.B = c.B) (hm : G.m = 64) : KP c G.capL G.capP h where
  tk := by rw [<- hB]; exact r.ptk
  lv := by rw [<- hB, <- hL]; exact r.plv
  lev g hg := by rw [<- hB]; rw [<- hL] at hg; exact r.plev hg
  pin g hg := by rw [<- hB]; rw [<- hL] at hg; exact r.pin hg
  out g hg := by rw [<- hB]; rw [<- hL] at hg; exact r.pout hg
  pls g hg := by rw [<- hB, <- hm]; rw [<- hL] at hg; exact r.ppls hg
  pl g j t hg hj ht := by rw [<- hB]; rw [<- hL] at hg; exact r.pplace hg (by rw [hm]; exact hj) ht
theorem Pst.km (k : Pst h x hF) : KPw (pC x hF) x.kp hF where
  E := hcell_of k.E rfl
  N := hcell_of k.N rfl
  P := hcell_of k.P rfl
  C := hcell_of k.C rfl
  U := hcell_of k.U rfl
  L := hcell_of k.V rfl
  W := hcell_of k.W rfl
  K := pri_kp k.r rfl rfl k.gm
theorem hcell_ne {h : Hp} {b o : Nat} {c : Array Value} {e : TypeId} {f : Nat × Nat} {v : Value} (hb : h[b]? = some (.cells c e f)) (hc : hcell h ⟨b, o, none⟩ = some v) : c ≠ #[] := fun z => by
  obtain ⟨c', e', f', h1, _, h3⟩ := hcell_some hc
  rw [hb] at h1
  injection h1 with h1
  injection h1 with h1 _ _
  rw [<- h1, z] at h3
  simp at h3
theorem Pst.kro (k : Pst h x hF) : KPro (pC x hF) x.kp where
  E := k.roOf k.E (by simp) (by decide) (by decide) (by decide)
  N := k.roOf k.N (by simp) (by decide) (by decide) (by decide)
  P := k.roOf k.P (by simp) (by decide) (by decide) (by decide)
  C := k.roOf k.C (by simp) (by decide) (by decide) (by decide)
  U := k.roOf k.U (by simp) (by decide) (by decide) (by decide)
  L := k.roOf k.V (by simp) (by decide) (by decide) (by decide)
  W := k.roOf k.W (by simp) (by decide) (by decide) (by decide)
  t := k.roOf (k.r.get (k := kTop) trivial rfl) (by simp) (by decide) (by decide) (by decide)
  v := k.roOf (k.r.get (k := kLvs) trivial rfl) (hcell_ne (k.r.get (k := kLvs) trivial rfl) (k.r.plev (i := 0) k.L1)) (by decide) (by decide) (by decide)
  lev g hg := k.roOf (k.r.get (k := kLev g) hg rfl) (by simp) (by decide) (by decide) (by decide)
  pls g hg := k.roOf (k.r.get (k := kPls g) hg rfl) (hcell_ne (k.r.get (k := kPls g) hg rfl) (k.r.pplace (i := g) (j := 0) (t := 0) hg (by rw [k.gm]; decide) (by decide))) (by decide) (by decide) (by decide)
theorem Pst.kJ (k : Pst h x hF) : Pj (pY x (pC x hF)) where
  inj := k.inj
  ar j hj := by
    have hm : x.G.B j ∈ x.cl := List.mem_map.2 ⟨j, hj, rfl⟩
    exact ⟨fun e => k.ncls k.pb (by decide) ((show x.G.B j = x.pb from e) ▸ hm), fun e => k.ncls k.qb (by decide) ((show x.G.B j = x.qb from e) ▸ hm), fun e => k.ncls k.wb (by decide) ((show x.G.B j = x.wb from e) ▸ hm), fun e => by
      have := (k.cls hm).2.1
      have e' : x.G.B j = hF.size := e
      omega⟩
  ad := ⟨k.pq, cells_ne' k.pb k.wb (by decide), Nat.ne_of_lt (lt_of_get k.pb), cells_ne' k.qb k.wb (by decide), Nat.ne_of_lt (lt_of_get k.qb), Nat.ne_of_lt (lt_of_get k.wb)⟩
  n1 := ⟨k.n1, k.n4, k.q1, k.q4, k.L1, k.L8⟩
  cK := Int.le_refl _
  vi g _ := by show v0 (x.idx (x.G.B (kIn g))) = _; rw [k.bi]; rfl
  vo g _ := by show v0 (x.idx (x.G.B (kOut g))) = _; rw [k.bi]; rfl
  vt g j _ _ := by show v0 (x.idx (x.G.B (kTurn g j))) = _; rw [k.bi]; rfl
  oi _ _ := ⟨Nat.le_refl _, by show 0 <= 0 + 64; omega⟩
  pm g j _ hj := ⟨Nat.mod_eq_of_lt hj, by show 0 <= 3; omega, fun _ => ⟨Nat.zero_le _, by show j < 0 + 64; omega⟩, fun z => absurd (show (0 = 1 \/ 0 = 2) from z) (by omega), fun z => absurd (show 0 = 3 from z) (by omega)⟩
  lev _ _ _ _ z := by rcases z with z | z <;> cases z
  ows _ _ _ _ z := by rcases z with z | z <;> cases z
  vs := by
    have : ∀ n, flW (fun _ => ([] : List Int)) n = [] := fun n => by unfold flW; simp
    have h2 : (pY x (pC x hF)).fl = [] := by
      unfold Py.fl
      rw [fmW_congr (g := fun _ => none) fun j _ _ => by unfold Py.fv; rw [if_neg (by show ¬ (0 = 2); omega)]]
      unfold fmW
      simp
    show (flW (fun _ => ([] : List Int)) _).Perm ((pY x (pC x hF)).fl ++ flW (fun _ => ([] : List Int)) _)
    rw [h2, this]
    exact List.Perm.refl _
  K g _ := by
    have h1 := k.n4
    have h2 := k.q4
    show ((0 : Nat) : Int) + ((nsum (x.n + x.q + 2) fun _ => 2000 : Nat) : Int) <= 1000000000
    rw [nsum_const]
    omega
  tk := by
    have h1 := k.n4
    have h2 := k.q4
    show 0 <= v0 (x.idx (x.G.B kTk)) /\ v0 (x.idx (x.G.B kTk)) + ((nsum (x.n + x.q + 2) fun _ => 2000 : Nat) : Int) <= 1000000000
    rw [k.bi, nsum_const, show v0 kTk = 0 from rfl]
    omega
  tc g j := by
    show 0 <= v0 (x.idx (x.G.B (kTick g j))) /\ v0 (x.idx (x.G.B (kTick g j))) <= 1000000000
    rw [k.bi, show v0 (kTick g j) = 0 from rfl]
    omega
theorem pcls_eq : pL.cls (pY x (pC x hF)) = x.cl := rfl
theorem parrT_eq {b : Nat} : pL.arrT (pY x (pC x hF)) b = if b = x.pb then some 31 else if b = x.qb then some 31 else if b = x.wb then some 4 else if b = hF.size then some 4 else none := rfl
theorem Pst.arrN (_ : Pst h x hF) {b : Nat} (h1 : b ≠ x.pb) (h2 : b ≠ x.qb) (h3 : b ≠ x.wb) (h4 : b ≠ hF.size) : pL.arrT (pY x (pC x hF)) b = none := by
  rw [parrT_eq, if_neg h1, if_neg h2, if_neg h3, if_neg h4]
theorem Pst.arrF (k : Pst h x hF) : pL.arrT (pY x (pC x hF)) hF.size = some 4 := by
  rw [parrT_eq, if_neg (Nat.ne_of_lt (lt_of_get k.pb)).symm, if_neg (Nat.ne_of_lt (lt_of_get k.qb)).symm, if_neg (Nat.ne_of_lt (lt_of_get k.wb)).symm, if_pos rfl]
theorem Pst.arrP (_ : Pst h x hF) : pL.arrT (pY x (pC x hF)) x.pb = some 31 := by rw [parrT_eq, if_pos rfl]
theorem Pst.arrQ (k : Pst h x hF) : pL.arrT (pY x (pC x hF)) x.qb = some 31 := by
  rw [parrT_eq, if_neg (fun z => k.pq z.symm), if_pos rfl]
theorem Pst.arrW (k : Pst h x hF) : pL.arrT (pY x (pC x hF)) x.wb = some 4 := by
  rw [parrT_eq, if_neg (cells_ne' k.wb k.pb (by decide)), if_neg (cells_ne' k.wb k.qb (by decide)), if_pos rfl]
theorem Pst.starts (k : Pst h x hF) : Starts TT pL (pY x (pC x hF)) (hF.size + 2) (frH hF (x.n + x.q)) where
  cell b hb := by
    rw [pcls_eq] at hb
    exact frH_old (k.cls hb).2.2
  arr b t hb := by
    rw [parrT_eq] at hb
    show (frH hF (x.n + x.q))[b]? = some (.cells (if b = x.pb then _ else if b = x.qb then _ else if b = x.wb then _ else _) t (0, 0))
    by_cases h1 : b = x.pb
    · rw [if_pos h1] at hb
      cases hb
      subst h1
      rw [if_pos rfl, frH_old k.pb]
      congr 3
      show List.replicate x.n nilSl = (List.range x.n).map fun _ => nilSl
      rw [List.map_const', List.length_range]
    · rw [if_neg h1] at hb
      by_cases h2 : b = x.qb
      · rw [if_pos h2] at hb
        cases hb
        subst h2
        rw [if_neg h1, if_pos rfl, frH_old k.qb]
        congr 3
        show List.replicate (x.q + 1) nilSl = (List.range (x.q + 1)).map fun _ => nilSl
        rw [List.map_const', List.length_range]
      · rw [if_neg h2] at hb
        by_cases h4 : b = x.wb
        · rw [if_pos h4] at hb
          cases hb
          subst h4
          rw [if_neg h1, if_neg h2, if_pos rfl, frH_old k.wb]
          simp
          rfl
        · rw [if_neg h4] at hb
          by_cases h3 : b = hF.size
          · rw [if_pos h3] at hb
            cases hb
            subst h3
            rw [if_neg h1, if_neg h2, if_neg h4, (frH_at hF (x.n + x.q)).1]
            simp
            rfl
          · rw [if_neg h3] at hb; cases hb
  ne b t hb := by
    have n1 := k.n1
    show (if b = x.pb then _ else if b = x.qb then _ else if b = x.wb then Array.replicate (x.n + x.q + 1) (Value.bool false) else Array.replicate (x.n + x.q) (Value.bool false)) ≠ #[]
    intro z
    have z := congrArg Array.size z
    split at z
    · simp [pY, pC] at z; omega
    · split at z
      · simp [pY, pC] at z
      · split at z
        · simp at z
        · simp at z; omega
  wg := (frH_at hF (x.n + x.q)).2.2
  wc := ⟨fun hm => absurd (k.cls hm).2.1 (by omega), k.arrN (by have := lt_of_get k.pb; omega) (by have := lt_of_get k.qb; omega) (by have := lt_of_get k.wb; omega) (by omega)⟩
  J := k.kJ
  ro b hb := hb.2.2.2.2.2.2
set_option maxHeartbeats 4000000 in
theorem Pst.free {hA : Hp} (k : Pst h x hA) (u : Upd (fun _ => False) hA hF) {γ₀ : Gf Py} (hst : γ₀.st = 0) (hnum : γ₀.num = 1) {B cap fB : Nat} {ib : Nat -> Nat} (hfB : hF[fB]? = some (.cells #[.func (.func 55) #[] x.kp.caps] 34 (0, 0)))
    (hib : ∀ j, j < x.n + x.q -> hF[ib j]? = some (.cells #[.int .i64 j] 3 (0, 0))) (hB1 : hA.size <= B) (hB : ∀ j, j < x.n + x.q -> hcell hF ⟨B, j, none⟩ = some (.func (.func 82) #[] #[.pointer (some ⟨fB, 0, none⟩), .pointer (some ⟨ib j, 0, none⟩)])) :
    CallW Try.prog true (SitM Try.prog (XF TT pL)) 49 #[.slice (some ⟨B, 0, none⟩) (x.n + x.q) cap] hF ⟨0, γ₀⟩ (Ret fun v h' δ' => v = .slice none 0 0 /\ δ'.d = 0 /\ Freed pL (pY x (pC x hF)) hF (x.n + x.q) h' δ'.g) := by
  have k' := k.upd u
  have n1 := k.n1
  have n4 := k.n4
  have q4 := k.q4
  have hBlt : B < hF.size := by
    obtain ⟨_, _, _, h1, _⟩ := hcell_some (hB 0 (by omega))
    exact lt_of_get h1
  have b1 := lt_of_get k.pb
  have b2 := lt_of_get k.qb
  have b3 := lt_of_get k.wb
  refine free_ok pL_ok (bf := fun _ => 82) (bcap := fun j => #[.pointer (some ⟨fB, 0, none⟩), .pointer (some ⟨ib j, 0, none⟩)]) (hbf := fun _ => inferInstance) hst hnum (by omega) hB k'.starts ⟨fun hm => ?_, k'.arrN (by omega) (by omega) (by omega) (by omega)⟩ k'.arrF (fun y hJ hr => ?_) ?_ (fun b hb => ⟨hb.2.1, k'.arrN hb.2.2.1 hb.2.2.2.1 hb.2.2.2.2.1 hb.2.2.2.2.2.1, hb.1⟩) ?_
  · have := (k.cls hm).2.1
    omega
  · have e : y.c = pC x hF := hr.law.c
    have := (parr_f hJ (w := 0) (by rw [e]; show 0 < x.n + x.q; omega)).2.1
    rw [e] at this
    exact this
  · have hV := (frH_at hF (x.n + x.q)).2.1
    exact ⟨by omega, fun hm => absurd (k'.cls hm).2.1 (by omega), by have := lt_of_get k'.pb; omega, by have := lt_of_get k'.qb; omega, by have := lt_of_get k'.wb; omega, by omega, _, _, _, hV, pres_of hV (by unfold dum; simp)⟩
  · refine pbody_ok (c := pC x hF) (q := x.kp) rfl k.n4 k.q4 k.e1 k.L1 k.L8 k'.km k'.kro rfl rfl (fun b hb => by show b < hF.size + 3; have := hb.1; omega) (hcell_of hfB rfl) (k'.roOf hfB (by simp) (by decide) (by decide) (by decide)) (fun j hj => ⟨hcell_of (hib j hj) rfl, k'.roOf (hib j hj) (by simp) (by decide) (by decide) (by decide)⟩) fun j hj => ⟨rfl, rfl, rfl, ?_, fun _ => rfl, fun _ => rfl, fun _ _ _ z => by rcases z with z | z <;> cases z⟩
    have := k.e1
    show 5 * x.e <= 2000
    omega
end
end
section
open Go Go.TJ Go.Proofs
variable [Dm]
section
variable {h : Hp} {δ : Ix (Gf Dy)} {i : Nat} {c : Dc} {po : List Int} {bd bt np tl : Nat} {sq : Value} {y y' : Dy}
end
end
section
open Go Go.TJ Go.Proofs
variable [Dm]
def Ke.caps (q : Ke) : Array Value := #[.pointer (some ⟨q.vN, 0, none⟩), .pointer (some ⟨q.vM, 0, none⟩), .pointer (some ⟨q.vD, 0, none⟩), .pointer (some ⟨q.vL, 0, none⟩), .pointer (some ⟨q.vE, 0, none⟩)]
end
section
open Go Go.TJ Go.Proofs
variable [Dm]
variable {Y : Type} {L : Law Y}
end
section
open Go Go.TJ Go.Proofs
variable [Dm]
structure De where
  n : Nat
  m : Nat
  L : Nat
  e : Nat
  cap : Nat
  rest : List Value
  F : Int
  B : Nat -> Nat
  idx : Nat -> Nat
  vN : Nat
  vM : Nat
  vD : Nat
  vE : Nat
  vL : Nat
  pb : Nat
def De.cl (x : De) : List Nat := (List.range (x.L + 3)).map fun j => x.B (j + 2)
def De.q (x : De) : Ke := ⟨x.vN, x.vM, x.vD, x.vL, x.vE, x.B 0, x.B 1, x.cap⟩
section
variable {h hF : Hp} {x : De}
end
end
section
open Go Go.TJ Go.Proofs
variable [Dm]
section
variable {Γ : Type} {main : Bool} {h : Hp} {δ : Ix Γ} {n : Nat} {B : Nat -> Nat} {v : Nat -> Int} {l2 l3 : List Nat} {y : Nat}
set_option maxRecDepth 8000 in
end
end
section
open Go Go.TJ Go.Proofs
variable [Dm]
section
variable {h hF h' : Hp} {x : Sd}
end
end
section
open Go Go.TJ Go.Proofs
variable [Dm]
theorem Rd.val {top : Nat} {h : Hp} {v : Value} {l : List Int} (x : Rd top h v l) : ∃ a cap, v = .slice a l.length cap /\ ∀ k, k < l.length -> ∃ b, a = some ⟨b, 0, none⟩ /\ hcell h ⟨b, k, none⟩ = some (.int .i64 (l.getD k 0)) := by
  obtain ⟨a, cap, rfl, g⟩ := x
  refine ⟨a, cap, rfl, fun k hk => ?_⟩
  obtain ⟨b, e, _, h2⟩ := g k l[k] (List.getElem?_eq_getElem hk)
  refine ⟨b, e, ?_⟩
  rw [List.getD_eq_getElem?_getD, List.getElem?_eq_getElem hk]
  exact h2
def tcells (m : Nat) (T : Nat -> Int) : Obj := .cells ((List.range m).map fun j => Value.int .i64 (T j)).toArray 3 (0, 0)
theorem tcells_get {m j : Nat} {T : Nat -> Int} {h : Hp} {b : Nat} (hb : h[b]? = some (tcells m T)) (hj : j < m) : hcell h ⟨b, j, none⟩ = some (.int .i64 (T j)) := hcell_of hb (by simp [hj])
theorem tcells_set {m j : Nat} {T : Nat -> Int} {h : Hp} {b : Nat} {v : Int} (hb : h[b]? = some (tcells m T)) : (hset h ⟨b, j, none⟩ (.int .i64 v))[b]? = some (tcells m (u1 T j v)) := by
  rw [hset_get, if_pos rfl, hb]
  unfold tcells
  rw [map_u1 (fun z : Int => Value.int .i64 z)]
  rfl
def TIn (T : Nat -> Int) (L : List Int) : Prop := ∀ j : Nat, T j = if (j : Int) ∈ L then 1 else 0
theorem TIn.add {T : Nat -> Int} {L : List Int} {v : Int} (x : TIn T L) (v0 : 0 <= v) (hv : v ∉ L) : T v.toNat = 0 /\ TIn (u1 T v.toNat 1) (L ++ [v]) := by
  have e : ((v.toNat : Nat) : Int) = v := Int.toNat_of_nonneg v0
  refine ⟨by rw [x, e, if_neg hv], fun j => ?_⟩
  by_cases h : j = v.toNat
  · subst h
    rw [u1_same, e, if_pos (by simp)]
  · rw [u1_ne h, x]
    have : (j : Int) ≠ v := by omega
    simp [this]
theorem TIn.take {T : Nat -> Int} {L : List Int} {v : Int} (x : TIn T (v :: L)) (v0 : 0 <= v) (hv : v ∉ L) : T v.toNat = 1 /\ TIn (u1 T v.toNat 0) L := by
  have e : ((v.toNat : Nat) : Int) = v := Int.toNat_of_nonneg v0
  refine ⟨by rw [x, e, if_pos (by simp)], fun j => ?_⟩
  by_cases h : j = v.toNat
  · subst h
    rw [u1_same, e, if_neg hv]
  · rw [u1_ne h, x]
    have : (j : Int) ≠ v := by omega
    simp [this]
theorem TIn.perm {T : Nat -> Int} {L L' : List Int} (x : TIn T L) (p : L.Perm L') : TIn T L' := fun j => by
  rw [x]
  by_cases h : (j : Int) ∈ L
  · rw [if_pos h, if_pos (p.mem_iff.1 h)]
  · rw [if_neg h, if_neg fun z => h (p.mem_iff.2 z)]
def upL (f : Nat -> List Int) (i k : Nat) : List Int := (List.range i).flatMap f ++ (f i).take k
theorem upL_zero (f : Nat -> List Int) (i : Nat) : upL f i 0 = (List.range i).flatMap f := by simp [upL]
theorem upL_succ {f : Nat -> List Int} {i k : Nat} (h : k < (f i).length) : upL f i (k + 1) = upL f i k ++ [(f i).getD k 0] := by
  unfold upL
  rw [List.take_add_one, List.getElem?_eq_getElem h, List.getD_eq_getElem?_getD, List.getElem?_eq_getElem h, List.append_assoc]
  rfl
theorem upL_end (f : Nat -> List Int) (i : Nat) : upL f i (f i).length = upL f (i + 1) 0 := by
  rw [upL_zero, List.range_succ, List.flatMap_append]
  simp [upL]
def dnL (f : Nat -> List Int) (n i k : Nat) : List Int := (f i).drop k ++ (List.range' (i + 1) (n - i)).flatMap f
theorem dnL_succ {f : Nat -> List Int} {n i k : Nat} (h : k < (f i).length) : dnL f n i k = (f i).getD k 0 :: dnL f n i (k + 1) := by
  unfold dnL
  rw [List.drop_eq_getElem_cons h, List.getD_eq_getElem?_getD, List.getElem?_eq_getElem h]
  rfl
theorem dnL_zero (f : Nat -> List Int) (n : Nat) : dnL f n 0 0 = (List.range (n + 1)).flatMap f := by
  unfold dnL
  rw [List.drop_zero, Nat.sub_zero, List.range_eq_range', List.range'_succ, List.flatMap_cons]
def rtL (f : Nat -> List Int) (n i : Nat) : List Int := (List.range' i (n + 1 - i)).flatMap f
theorem rtL_dn {f : Nat -> List Int} {n i : Nat} (h : i <= n) : rtL f n i = dnL f n i 0 := by
  unfold rtL dnL
  rw [show n + 1 - i = (n - i) + 1 by omega, List.range'_succ, List.flatMap_cons, List.drop_zero]
theorem rtL_end {f : Nat -> List Int} {n i : Nat} (h : i <= n) : dnL f n i (f i).length = rtL f n (i + 1) := by
  unfold rtL dnL
  rw [List.drop_length, List.nil_append, show n + 1 - (i + 1) = n - i by omega]
theorem rtL_last (f : Nat -> List Int) (n : Nat) : rtL f n (n + 1) = [] := by
  unfold rtL
  rw [Nat.sub_self]
  rfl
theorem nodup_len : ∀ (m : Nat) (a : Int) (l : List Int), l.Nodup -> (∀ z, z ∈ l -> a <= z /\ z < a + m) -> l.length <= m
  | 0, a, l, _, h => by
    rcases l with _ | ⟨z, l⟩
    · exact Nat.le_refl _
    · have := h z (by simp)
      omega
  | m + 1, a, l, hn, h => by
    by_cases e : a + m ∈ l
    · have h1 := nodup_len m a (l.erase (a + m)) (hn.erase _) fun z hz => by
        have h2 := h z (List.mem_of_mem_erase hz)
        have h3 : z ≠ a + m := fun e' => by
          subst e'
          exact (hn.mem_erase_iff.1 hz).1 rfl
        omega
      rw [List.length_erase_of_mem e] at h1
      omega
    · have := nodup_len m a l hn fun z hz => by
        have h2 := h z hz
        have h3 : z ≠ a + m := fun e' => e (e' ▸ hz)
        omega
      omega
theorem upL_mem {f : Nat -> List Int} {i k : Nat} {z : Int} (h : z ∈ upL f i k) : (∃ w, w < i /\ z ∈ f w) \/ z ∈ (f i).take k := by
  unfold upL at h
  rcases List.mem_append.1 h with h | h
  · obtain ⟨w, hw, hz⟩ := List.mem_flatMap.1 h
    exact .inl ⟨w, List.mem_range.1 hw, hz⟩
  · exact .inr h
section
variable {pu : Nat -> List Int} {n m i k : Nat} (hm : m <= 1000) (nd : ∀ w, w < n -> (pu w).Nodup) (rg : ∀ w, w < n -> ∀ z, z ∈ pu w -> 1000 * (w : Int) <= z /\ z < 1000 * (w : Int) + m)
include hm rg in
theorem up_bound (hi : i < n) {z : Int} (h : z ∈ upL pu i k) : 0 <= z /\ z < 0 + ((1000 * n : Nat) : Int) := by
  rcases upL_mem h with ⟨w, hw, hz⟩ | hz
  · have := rg w (by omega) z hz
    omega
  · have := rg i hi z (List.mem_of_mem_take hz)
    omega
include hm nd rg in
theorem up_new (hi : i < n) (hk : k < (pu i).length) : (pu i).getD k 0 ∈ pu i /\ (pu i).getD k 0 ∉ upL pu i k := by
  have e : (pu i).getD k 0 = (pu i)[k] := by rw [List.getD_eq_getElem?_getD, List.getElem?_eq_getElem hk]; rfl
  have hmem : (pu i)[k] ∈ pu i := List.getElem_mem hk
  rw [e]
  refine ⟨hmem, fun h => ?_⟩
  rcases upL_mem h with ⟨w, hw, hz⟩ | hz
  · have h1 := rg w (by omega) _ hz
    have h2 := rg i hi _ hmem
    omega
  · obtain ⟨j, hj, e'⟩ := List.mem_iff_getElem.1 hz
    rw [List.getElem_take] at e'
    rw [List.length_take] at hj
    exact List.pairwise_iff_getElem.1 (nd i hi) j k (by omega) hk (by omega) e'
end
end
section
open Go Go.TJ Go.Proofs
variable [Dm]
structure Fin1 (n vP pb : Nat) (sp : Nat -> Value) (pu : Nat -> List Int) (h : Hp) : Prop where
  P : hcell h ⟨vP, 0, none⟩ = some (.slice (some ⟨pb, 0, none⟩) n n)
  p : ∀ w, w < n -> hcell h ⟨pb, w, none⟩ = some (sp w) /\ Rd 0 h (sp w) (pu w)
theorem Fin1.upd {n vP pb : Nat} {sp : Nat -> Value} {pu : Nat -> List Int} {h h' : Hp} {T : Nat -> Prop} (x : Fin1 n vP pb sp pu h) (u : Upd T h h') (hT : ∀ b, T b -> h.size <= b) : Fin1 n vP pb sp pu h' := by
  have key : ∀ {b o : Nat} {v : Value}, hcell h ⟨b, o, none⟩ = some v -> hcell h' ⟨b, o, none⟩ = some v := fun {b o v} hc => u.hcell hc fun z => by
    obtain ⟨_, _, _, h1, _⟩ := hcell_some hc
    have h2 : b < h.size := lt_of_get h1
    have h3 : h.size <= b := hT _ z
    omega
  exact ⟨key x.P, fun w hw => ⟨key (x.p w hw).1, (x.p w hw).2.mono (Nat.le_refl _) fun b o v _ => key⟩⟩
section
variable {h hF h' : Hp} {x : De}
end
end
section
open Go Go.TJ Go.Proofs
variable [Dm]
structure Qt (y : Py) : Prop where
  J : Pj y
  p : ∀ g j, g < y.c.L -> j < 64 -> y.ph g j = 0 \/ y.ph g j = 2
section
variable {y : Py} {g : Nat}
theorem Qt.head (k : Qt y) (hg : g < y.c.L) (h : y.v (y.c.B (kTurn g (y.O g % 64))) = (y.O g : Int) + 1) : y.ph g (y.O g % 64) = 2 /\ y.ps g (y.O g % 64) = y.O g := by
  have hj : y.O g % 64 < 64 := Nat.mod_lt _ (by omega)
  have hv := k.J.vt g _ hg hj
  rw [h] at hv
  obtain ⟨m1, _⟩ := k.J.pm g _ hg hj
  have tn : y.tn g (y.O g % 64) = if y.ph g (y.O g % 64) = 2 \/ y.ph g (y.O g % 64) = 3 then y.ps g (y.O g % 64) + 1 else y.ps g (y.O g % 64) := rfl
  rcases k.p g _ hg hj with e | e
  · rw [if_neg (by omega)] at tn
    omega
  · rw [if_pos (by omega)] at tn
    exact ⟨e, by omega⟩
theorem Qt.bare (k : Qt y) (h : ∀ g, g < y.c.L -> y.v (y.c.B (kTurn g (y.O g % 64))) ≠ (y.O g : Int) + 1) : y.fl = [] := by
  unfold Py.fl
  rw [fmW_congr (g := fun _ => none) fun x x0 hx => ?_]
  · unfold fmW
    simp
  unfold Py.fv
  have hg : (x - 1) / 64 < y.c.L := by omega
  have hj : (x - 1) % 64 < 64 := by omega
  generalize (x - 1) / 64 = g at hg
  generalize (x - 1) % 64 = j at hj
  refine if_neg fun e => ?_
  have hj0 : y.O g % 64 < 64 := Nat.mod_lt _ (by omega)
  have hv := k.J.vt g _ hg hj0
  obtain ⟨m1, m2, m3, m4, m5⟩ := k.J.pm g _ hg hj0
  obtain ⟨n1, n2, n3, n4, n5⟩ := k.J.pm g j hg hj
  have n4' := n4 (.inr e)
  have tn : y.tn g (y.O g % 64) = if y.ph g (y.O g % 64) = 2 \/ y.ph g (y.O g % 64) = 3 then y.ps g (y.O g % 64) + 1 else y.ps g (y.O g % 64) := rfl
  rcases k.p g _ hg hj0 with e' | e'
  · have := m3 e'
    omega
  · rw [if_pos (by omega)] at tn
    have h1 := m4 (.inr e')
    have hoi := k.J.oi g hg
    refine h g hg (hv.trans ?_)
    rw [tn]
    omega
theorem Qt.cnt (y : Py) : y.fl.length <= y.c.L * 64 := by
  have : ∀ (f : Nat -> Option Int) n, (fmW f n).length <= n := fun f n => by
    unfold fmW
    exact Nat.le_trans (List.length_filterMap_le _ _) (by simp)
  exact this _ _
def outY (y : Py) (g : Nat) : Py := freeY (ptakY y (y.c.W + 1) g) (y.c.W + 1) g (y.O g % 64)
theorem Qt.out (k : Qt y) (hg : g < y.c.L) (h : y.v (y.c.B (kTurn g (y.O g % 64))) = (y.O g : Int) + 1) (hb : 2 <= y.bd (y.c.W + 1)) :
    Qt (outY y g) /\ (outY y g).c = y.c /\ (outY y g).pu = y.pu /\ (outY y g).po = u1 y.po (y.c.W + 1) (y.po (y.c.W + 1) ++ [y.v (y.c.B (kSlot g (y.O g % 64)))]) /\ (outY y g).bd (y.c.W + 1) = y.bd (y.c.W + 1) - 2 /\ (outY y g).fl.length + 1 = y.fl.length /\ LvOk y.c.L g (y.v (y.c.B (kSlot g (y.O g % 64)))) /\ ∀ q, (outY y g).v (y.c.B q) = takeV 64 (fun q => y.v (y.c.B q)) g (y.O g) q := by
  obtain ⟨h1, h2⟩ := k.head hg h
  have hj : y.O g % 64 < 64 := Nat.mod_lt _ (by omega)
  have J1 := ptake_J (i := y.c.W + 1) k.J (Nat.succ_pos _) (Nat.le_refl _) hg h1 h2 (by omega)
  have e1 : (ptakY y (y.c.W + 1) g).ph g (y.O g % 64) = 3 := u2_same
  have e2 : (ptakY y (y.c.W + 1) g).ow g (y.O g % 64) = y.c.W + 1 := u2_same
  have e3 : (ptakY y (y.c.W + 1) g).bd (y.c.W + 1) = y.bd (y.c.W + 1) - 1 := u1_same
  have J2 := free_J (i := y.c.W + 1) (g := g) (j := y.O g % 64) J1 (Nat.le_refl _) hg hj e1 e2 (by omega)
  have ph : ∀ a b, ¬ (a = g /\ b = y.O g % 64) -> (outY y g).ph a b = y.ph a b := fun a b hne => (u2_ne hne).trans (u2_ne hne)
  have pe : (outY y g).ph g (y.O g % 64) = 0 := u2_same
  have inj := k.J.inj
  have hv : ∀ q, (outY y g).v (y.c.B q) = takeV 64 (fun q => y.v (y.c.B q)) g (y.O g) q := fun q => by
    show u1 (u1 y.v (y.c.B (kOut g)) ((y.O g + 1 : Nat) : Int)) (y.c.B (kTurn g (y.O g % 64))) ((y.ps g (y.O g % 64) + 64 : Nat) : Int) (y.c.B q) = _
    unfold takeV
    by_cases q1 : q = kTurn g (y.O g % 64)
    · subst q1
      rw [u1_same, ut_same, h2]
      rfl
    · rw [u1_ne fun e => q1 (inj _ _ e), ut_ne _ _ q1]
      by_cases q2 : q = kOut g
      · subst q2
        rw [u1_same, ut_same]
        rfl
      · rw [u1_ne fun e => q2 (inj _ _ e), ut_ne _ _ q2]
  have hs : ∀ a b, (outY y g).v (y.c.B (kSlot a b)) = y.v (y.c.B (kSlot a b)) := fun a b => by
    rw [hv]
    unfold takeV
    rw [ut_ne _ _ (by intro e; cases e), ut_ne _ _ (by intro e; cases e)]
  have hf := fv_add (y := outY y g) (y' := y) rfl hg hj (by rw [pe]; omega) h1 fun a b _ _ hne => ⟨(ph a b hne).symm, fun _ => (hs a b).symm⟩
  refine ⟨⟨J2, fun a b ha hb' => ?_⟩, rfl, rfl, rfl, ?_, ?_, k.J.lev g _ hg hj (.inl h1), hv⟩
  · by_cases e : a = g /\ b = y.O g % 64
    · obtain ⟨rfl, rfl⟩ := e
      exact .inl pe
    · rw [ph a b e]
      exact k.p a b ha hb'
  · show u1 _ _ _ _ = _
    rw [u1_same, e3]
    omega
  · have := hf.length_eq
    rw [List.length_cons] at this
    exact this.symm
end
theorem pri_ty {h : Hp} {G : PG} {v : Key -> Int} (r : Pri h G v) {k : Key} (hk : okP G.L G.m k) : ∃ c e, h[G.B k]? = some (.cells c e (0, 0)) /\ (e = 140 \/ e = 141 \/ e = 144 \/ e = 146 \/ e = 109) := by
  have hh := r.has k hk
  rcases okP_cases hk with rfl | rfl | rfl | ⟨q, _, rfl | rfl | rfl | rfl⟩ | ⟨q, j, _, _, rfl | rfl | rfl⟩
  · exact ⟨_, _, hh, .inl rfl⟩
  · exact ⟨_, _, hh, .inr (.inl rfl)⟩
  · exact ⟨_, _, hh, .inr (.inr (.inr (.inr rfl)))⟩
  · exact ⟨_, _, hh, .inr (.inr (.inl rfl))⟩
  · exact ⟨_, _, hh, .inr (.inr (.inr (.inl rfl)))⟩
  · exact ⟨_, _, hh, .inr (.inr (.inr (.inr rfl)))⟩
  · exact ⟨_, _, hh, .inr (.inr (.inr (.inr rfl)))⟩
  · exact ⟨_, _, hh, .inr (.inr (.inr (.inr rfl)))⟩
  · exact ⟨_, _, hh, .inr (.inr (.inr (.inr rfl)))⟩
  · exact ⟨_, _, hh, .inr (.inr (.inr (.inr rfl)))⟩
theorem pri_ne {h : Hp} {G : PG} {v : Key -> Int} (r : Pri h G v) {k : Key} (hk : okP G.L G.m k) {b : Nat} {c : Array Value} {e : TypeId} (hb : h[b]? = some (.cells c e (0, 0))) (h1 : e ≠ 140) (h2 : e ≠ 141) (h3 : e ≠ 144) (h4 : e ≠ 146) (h5 : e ≠ 109) : G.B k ≠ b := fun e' => by
  obtain ⟨c', t, ht, hty⟩ := pri_ty r hk
  rw [e', hb] at ht
  injection ht with ht
  injection ht with _ ht _
  rcases hty with e | e | e | e | e
  · exact h1 (ht.trans e)
  · exact h2 (ht.trans e)
  · exact h3 (ht.trans e)
  · exact h4 (ht.trans e)
  · exact h5 (ht.trans e)
theorem pri_blk {h h' : Hp} {G : PG} {v v' : Key -> Int} (r : Pri h G v) {k : Key} (hk : okP G.L G.m k) (hv : isV k -> h'[G.B k]? = some (cellO (v' k))) (hn : ¬ isV k -> h'[G.B k]? = h[G.B k]?) : h'[G.B k]? = some (priO G v' k) := by
  by_cases e : isV k
  · rw [hv e, priO_v e]
  · rw [hn e, priO_other e (v' := v)]
    exact r.has k hk
theorem flW_add' {A : Type} {f : Nat -> List A} : ∀ (b a : Nat), flW f (a + b) = flW f a ++ flW (fun i => f (a + i)) b
  | 0, a => by
    unfold flW
    simp
  | b + 1, a => by rw [<- Nat.add_assoc, flW_succ, flW_succ, flW_add' b a, List.append_assoc]; rfl
theorem flW_nil {A : Type} {f : Nat -> List A} {n : Nat} (h : ∀ i, 0 < i -> i <= n -> f i = []) : flW f n = [] := by
  rw [flW_congr (g := fun _ => []) h]
  unfold flW
  simp
structure Pen (h : Hp) (x : Pe) (c : Pc') (y : Py) (T : Nat) (h' : Hp) : Prop where
  u : Upd (fun _ => False) h h'
  N : hcell h' ⟨x.vN, 0, none⟩ = some (.int .i64 x.n)
  P : hcell h' ⟨x.vP, 0, none⟩ = some (.pointer (some ⟨x.G.B kTop, 0, none⟩))
  C : hcell h' ⟨x.vC, 0, none⟩ = some (.int .i64 x.G.L)
  U : hcell h' ⟨x.vU, 0, none⟩ = some (.slice (some ⟨x.pb, 0, none⟩) x.n x.n)
  V : hcell h' ⟨x.vL, 0, none⟩ = some (.slice (some ⟨x.qb, 0, none⟩) (x.q + 1) (x.q + 1))
  W : hcell h' ⟨x.vW, 0, none⟩ = some (.slice (some ⟨x.wb, 0, none⟩) (x.n + x.q + 1) (x.n + x.q + 1))
  r : Pri h' x.G fun k => y.v (x.G.B k)
  qt : Qt y
  hc : y.c = c
  cL : c.L = x.G.L
  cB : c.B = x.G.B
  cn : c.n = x.n
  cq : c.q = x.q
  cK : c.K = 1000000000
  pb : ∀ w, w < x.n -> hcell h' ⟨x.pb, w, none⟩ = some (y.sp w) /\ Rd T h' (y.sp w) (y.pu (w + 1))
  qb : h'[x.qb]? = some (.cells ((List.range (x.q + 1)).map y.sq).toArray 31 (0, 0))
  qr : ∀ w, w < x.q -> Rd T h' (y.sq w) (y.po (x.n + 1 + w))
  qn : y.sq x.q = nilSl
  wb : h'[x.wb]? = some (.cells (Array.replicate (x.n + x.q + 1) (Value.bool false)) 4 (0, 0))
  ml : y.pu (x.n + x.q + 1) = [] /\ y.po (x.n + x.q + 1) = [] /\ y.bd (x.n + x.q + 1) = 2000
  pe : ∀ w, w < x.n -> y.po (w + 1) = []
  qe : ∀ w, w < x.q -> y.pu (x.n + 1 + w) = []
  nd : ∀ w, w < x.n -> (y.pu (w + 1)).Nodup
  rg : ∀ w, w < x.n -> ∀ z, z ∈ y.pu (w + 1) -> 1000 * (w : Int) <= z /\ z < 1000 * (w : Int) + x.e
  bl : ∀ k, okP x.G.L 64 k -> h.size <= x.G.B k /\ x.G.B k < T /\ x.G.B k ≠ x.pb /\ x.G.B k ≠ x.qb /\ x.G.B k ≠ x.wb /\ x.G.B k ≠ x.vN /\ x.G.B k ≠ x.vP /\ x.G.B k ≠ x.vC /\ x.G.B k ≠ x.vU /\ x.G.B k ≠ x.vL /\ x.G.B k ≠ x.vW
  ql : h.size <= x.qb /\ x.qb < T /\ x.qb ≠ x.pb /\ x.qb ≠ x.wb /\ x.qb ≠ x.vN /\ x.qb ≠ x.vP /\ x.qb ≠ x.vC /\ x.qb ≠ x.vU /\ x.qb ≠ x.vL /\ x.qb ≠ x.vW
  wl : h.size <= x.wb /\ x.wb < T /\ x.wb ≠ x.pb /\ x.wb ≠ x.vN /\ x.wb ≠ x.vP /\ x.wb ≠ x.vC /\ x.wb ≠ x.vU /\ x.wb ≠ x.vL /\ x.wb ≠ x.vW
  hT : T <= h'.size
section
variable {h hF h' : Hp} {x : Pe}
set_option maxHeartbeats 4000000 in
theorem Pst.fin (k : Pst h x hF) (hnd : ∀ (b : Nat) (o : Obj), h[b]? = some o -> o ≠ dum) {γ' : Gf Py} (f : Freed pL (pY x (pC x hF)) hF (x.n + x.q) h' γ') : ∃ c y T, Pen h x c y T h' := by
  have b1 := lt_of_get k.pb
  have b2 := lt_of_get k.qb
  have b3 := lt_of_get k.wb
  obtain ⟨y, hr, hJ, hfin, old, cel, ar, hsz⟩ := freed_out2 f ⟨fun hm => absurd (k.cls hm).2.1 (by omega), k.arrN (by omega) (by omega) (by omega) (by omega)⟩ k.arrF
  have hl : Pr 0 (pY x (pC x hF)) y := hr.law
  have hc : y.c = pC x hF := hl.c
  have key : ∀ (b : Nat) (c : Array Value) (e : TypeId), hF[b]? = some (.cells c e (0, 0)) -> c ≠ #[] -> e ≠ 109 -> e ≠ 31 -> e ≠ 4 -> h'[b]? = some (.cells c e (0, 0)) := fun b c e hb h0 h1 h2 h3 =>
    old b _ hb (by unfold dum; intro z; injection z with z; exact h0 z) (k.ncls hb h1) (k.arrN (cells_ne' hb k.pb h2) (cells_ne' hb k.qb h2) (cells_ne' hb k.wb h3) (Nat.ne_of_lt (lt_of_get hb)))
  have fin : ∀ w, w < x.n + x.q -> (y.pu (w + 1)).Nodup /\ (∀ z, z ∈ y.pu (w + 1) -> 1000 * (w : Int) <= z /\ z < 1000 * (w : Int) + x.e) /\ (w < x.n -> Rd hF.size h' (y.sp w) (y.pu (w + 1)) /\ y.po (w + 1) = []) /\ (x.n <= w -> Rd hF.size h' (y.sq (w - x.n)) (y.po (w + 1)) /\ y.pu (w + 1) = []) /\ ∀ g j, y.ow g j = w + 1 -> ¬ (y.ph g j = 1 \/ y.ph g j = 3) := fun w hw => by
    obtain ⟨hf, q, hm⟩ := hfin (w + 1) (by omega) (by omega)
    obtain ⟨q1, q2, q3, q4, q5⟩ := q (Nat.succ_pos w)
    rw [hc] at q2 q3 q4
    refine ⟨q1, fun z hz => ?_, fun hn => ?_, fun hn => ?_, q5⟩
    · have := q2 z hz
      rw [show (((w + 1 : Nat) : Int) - 1) = (w : Int) by omega] at this
      exact this
    · obtain ⟨r1, r2⟩ := q3 hn
      exact ⟨r1.mono (by show hF.size <= hF.size + 3; omega) hm, r2⟩
    · obtain ⟨r1, r2⟩ := q4 (by show x.n < w + 1; omega)
      rw [show w + 1 - 1 - (pC x hF).n = w - x.n by show w + 1 - 1 - x.n = w - x.n; omega] at r1
      exact ⟨r1.mono (by show hF.size <= hF.size + 3; omega) hm, r2⟩
  have qt : Qt y := ⟨hJ, fun g j hg hj => by
    have hp := (hJ.pm g j hg hj).2.1
    rcases (show y.ph g j = 0 \/ y.ph g j = 2 \/ (y.ph g j = 1 \/ y.ph g j = 3) by omega) with e | e | e
    · exact .inl e
    · exact .inr e
    · obtain ⟨o1, o2⟩ := hJ.ows g j hg hj e
      have hW : y.c.W = x.n + x.q := by rw [hc]; rfl
      by_cases ew : y.ow g j = x.n + x.q + 1
      · obtain ⟨_, z⟩ := hl.new (x.n + x.q + 1) (.inr rfl) g j ew e
        rw [z] at e
        rcases e with e | e <;> cases e
      · have := (fin (y.ow g j - 1) (by omega)).2.2.2.2 g j (by omega)
        exact absurd e this⟩
  have cl : ∀ j, j ∈ kvals x.G.L 64 -> x.G.B j ∈ x.cl := fun j hj => List.mem_map.2 ⟨j, hj, rfl⟩
  have rep : Pri h' x.G fun j => y.v (x.G.B j) := by
    refine ⟨fun j hj => ?_, k.r.inj⟩
    refine pri_blk k.r hj (fun hv => ?_) (fun hv => ?_)
    · have hj' : okP x.G.L x.G.m j := hj
      rw [k.gm] at hj'
      refine cel _ (cl j ?_)
      rcases okP_cases hj' with rfl | rfl | rfl | ⟨q, hq, rfl | rfl | rfl | rfl⟩ | ⟨q, j, hq, hjj, rfl | rfl | rfl⟩
      · exact absurd hv (by unfold isV; decide)
      · exact absurd hv (by unfold isV; decide)
      · exact k_tk
      · exact absurd hv (by unfold isV; show ¬ 4 <= 2; omega)
      · exact absurd hv (by unfold isV; show ¬ 4 <= 3; omega)
      · exact k_in hq
      · exact k_out hq
      · exact k_turn hq hjj
      · exact k_tick hq hjj
      · exact k_slot hq hjj
    · have hj' : okP x.G.L x.G.m j := hj
      rw [k.gm] at hj'
      have hg : ∀ {c : Array Value} {e : TypeId}, hF[x.G.B j]? = some (.cells c e (0, 0)) -> c ≠ #[] -> e ≠ 109 -> e ≠ 31 -> e ≠ 4 -> h'[x.G.B j]? = hF[x.G.B j]? := fun hb h0 h1 h2 h3 => by rw [hb]; exact key _ _ _ hb h0 h1 h2 h3
      rcases okP_cases hj' with rfl | rfl | rfl | ⟨q, hq, rfl | rfl | rfl | rfl⟩ | ⟨q, j, hq, hjj, rfl | rfl | rfl⟩
      · exact hg (k.r.get (k := kTop) trivial rfl) (by simp) (by decide) (by decide) (by decide)
      · exact hg (k.r.get (k := kLvs) trivial rfl) (hcell_ne (k.r.get (k := kLvs) trivial rfl) (k.r.plev (i := 0) k.L1)) (by decide) (by decide) (by decide)
      · exact absurd (show isV kTk by unfold isV; decide) hv
      · exact hg (k.r.get (k := kLev q) hq rfl) (by simp) (by decide) (by decide) (by decide)
      · exact hg (k.r.get (k := kPls q) hq rfl) (hcell_ne (k.r.get (k := kPls q) hq rfl) (k.r.pplace (i := q) (j := 0) (t := 0) hq (by rw [k.gm]; decide) (by decide))) (by decide) (by decide) (by decide)
      · exact absurd (show isV (kIn q) by show 4 <= 5; omega) hv
      · exact absurd (show isV (kOut q) by show 4 <= 6; omega) hv
      · exact absurd (show isV (kTurn q j) by show 4 <= 7; omega) hv
      · exact absurd (show isV (kTick q j) by show 4 <= 8; omega) hv
      · exact absurd (show isV (kSlot q j) by show 4 <= 9; omega) hv
  have hml := hl.ml
  refine ⟨pC x hF, y, hF.size, ⟨⟨Nat.le_trans k.u.size (Nat.le_of_lt hsz), fun b hb _ => ?_⟩, hcell_of (key _ _ _ k.N (by simp) (by decide) (by decide) (by decide)) rfl, hcell_of (key _ _ _ k.P (by simp) (by decide) (by decide) (by decide)) rfl, hcell_of (key _ _ _ k.C (by simp) (by decide) (by decide) (by decide)) rfl, hcell_of (key _ _ _ k.U (by simp) (by decide) (by decide) (by decide)) rfl, hcell_of (key _ _ _ k.V (by simp) (by decide) (by decide) (by decide)) rfl, hcell_of (key _ _ _ k.W (by simp) (by decide) (by decide) (by decide)) rfl, rep, qt, hc, rfl, rfl, rfl, rfl, rfl, fun w hw => ⟨?_, ((fin w (by omega)).2.2.1 hw).1⟩, ?_, fun w hw => ?_, hl.main, ?_, hml, fun w hw => ((fin w (by omega)).2.2.1 hw).2, fun w hw => ?_, fun w hw => (fin w (by omega)).1, fun w hw => (fin w (by omega)).2.1, fun j hj => ?_, ?_, ?_, Nat.le_of_lt hsz⟩⟩
  · obtain ⟨o, ho⟩ : ∃ o, h[b]? = some o := ⟨_, Array.getElem?_eq_getElem hb⟩
    have e1 := k.pl
    have e2 := k.ql
    have e4 := k.wl
    have e3 := k.u.size
    rw [ho]
    exact old b o (k.u.get ho fun z => z) (hnd b o ho) (fun hm => absurd (k.cls hm).1 (by omega)) (k.arrN (by omega) (by omega) (by omega) (by omega))
  · refine hcell_of (ar _ _ k.arrP) ?_
    show (if x.pb = y.c.pb then ((List.range y.c.n).map y.sp).toArray else _ : Array Value)[w]? = _
    rw [hc, show (pC x hF).pb = x.pb from rfl, if_pos rfl]
    exact range_get hw
  · have := ar _ _ k.arrQ
    rw [this]
    show some (Obj.cells (if x.qb = y.c.pb then _ else if x.qb = y.c.qb then ((List.range (y.c.q + 1)).map y.sq).toArray else _) _ _) = _
    rw [hc, show (pC x hF).pb = x.pb from rfl, show (pC x hF).qb = x.qb from rfl, if_neg (fun z => k.pq z.symm), if_pos rfl]
    rfl
  · have := ((fin (x.n + w) (by omega)).2.2.2.1 (by omega)).1
    rw [show x.n + w - x.n = w by omega, show x.n + w + 1 = x.n + 1 + w by omega] at this
    exact this
  · have := ar _ _ k.arrW
    rw [this]
    show some (Obj.cells (if x.wb = y.c.pb then _ else if x.wb = y.c.qb then _ else if x.wb = y.c.wb then Array.replicate (y.c.W + 1) (Value.bool false) else _) _ _) = _
    rw [hc, show (pC x hF).pb = x.pb from rfl, show (pC x hF).qb = x.qb from rfl, show (pC x hF).wb = x.wb from rfl, if_neg (cells_ne' k.wb k.pb (by decide)), if_neg (cells_ne' k.wb k.qb (by decide)), if_pos rfl]
    rfl
  · have := ((fin (x.n + w) (by omega)).2.2.2.1 (by omega)).2
    rw [show x.n + w + 1 = x.n + 1 + w by omega] at this
    exact this
  · have hj' : okP x.G.L x.G.m j := by rw [k.gm]; exact hj
    have hlt : x.G.B j < hF.size := k.r.lt (k := j) hj'
    have ne : ∀ {b : Nat} {c : Array Value} {e : TypeId}, hF[b]? = some (.cells c e (0, 0)) -> e ≠ 140 -> e ≠ 141 -> e ≠ 144 -> e ≠ 146 -> e ≠ 109 -> x.G.B j ≠ b := fun hb h1 h2 h3 h4 h5 => pri_ne k.r hj' hb h1 h2 h3 h4 h5
    exact ⟨k.bl j hj, hlt, ne k.pb (by decide) (by decide) (by decide) (by decide) (by decide), ne k.qb (by decide) (by decide) (by decide) (by decide) (by decide), ne k.wb (by decide) (by decide) (by decide) (by decide) (by decide), ne k.N (by decide) (by decide) (by decide) (by decide) (by decide), ne k.P (by decide) (by decide) (by decide) (by decide) (by decide), ne k.C (by decide) (by decide) (by decide) (by decide) (by decide), ne k.U (by decide) (by decide) (by decide) (by decide) (by decide), ne k.V (by decide) (by decide) (by decide) (by decide) (by decide), ne k.W (by decide) (by decide) (by decide) (by decide) (by decide)⟩
  · exact ⟨k.ql, b2, fun z => k.pq z.symm, cells_ne' k.qb k.wb (by decide), cells_ne' k.qb k.N (by decide), cells_ne' k.qb k.P (by decide), cells_ne' k.qb k.C (by decide), cells_ne' k.qb k.U (by decide), cells_ne' k.qb k.V (by decide), cells_ne' k.qb k.W (by decide)⟩
  · exact ⟨k.wl, b3, cells_ne' k.wb k.pb (by decide), cells_ne' k.wb k.N (by decide), cells_ne' k.wb k.P (by decide), cells_ne' k.wb k.C (by decide), cells_ne' k.wb k.U (by decide), cells_ne' k.wb k.V (by decide), cells_ne' k.wb k.W (by decide)⟩
end
end
section
open Go Go.TJ Go.Proofs
variable [Dm]
theorem upd_trans' {T T' : Nat -> Prop} {a b c : Hp} (x : Upd T a b) (y : Upd T' b c) (h : ∀ i, i < a.size -> ¬ T' i) : Upd T a c :=
  ⟨Nat.le_trans x.size y.size, fun i hi hT => (y.same i (Nat.lt_of_lt_of_le hi x.size) (h i hi)).trans (x.same i hi hT)⟩
set_option maxRecDepth 8000 in
end
section
open Go Go.TJ Go.Proofs
variable [Dm]
theorem bst_none {H : Nat -> Hd} : ∀ {n : Nat}, (∀ q, q < n -> (H q).1 = false) -> bst H n = none
  | 0, _ => rfl
  | n + 1, h => by
    unfold bst
    rw [if_neg (fun x => by rw [h n (by omega)] at x; cases x.1)]
    exact bst_none (fun q hq => h q (by omega))
theorem bst_one {H : Nat -> Hd} {a : Nat} (ha : (H a).1 = true) : ∀ {n : Nat}, a < n -> (∀ q, q < n -> q ≠ a -> (H q).1 = false) -> bst H n = some a
  | 0, h, _ => by omega
  | n + 1, h, hq => by
    unfold bst
    by_cases e : a = n
    · subst e
      have := bst_none (n := a) (fun q hqa => hq q (by omega) (by omega))
      rw [if_pos ⟨ha, fun b hb => by rw [this] at hb; cases hb⟩]
    · rw [if_neg (fun x => by rw [hq n (by omega) (fun y => e y.symm)] at x; cases x.1)]
      exact bst_one ha (by omega) (fun q hqn => hq q (by omega))
theorem bst_two {H : Nat -> Hd} {a b : Nat} (hab : a < b) (ha : (H a).1 = true) (hb : (H b).1 = true) : ∀ {n : Nat}, b < n -> (∀ q, q < n -> q ≠ a -> q ≠ b -> (H q).1 = false) -> bst H n = some (if 64 * ((b : Int) - a) > (H b).2.2 - (H a).2.2 then b else a)
  | 0, h, _ => by omega
  | n + 1, h, hq => by
    unfold bst
    by_cases e : b = n
    · subst e
      have h1 := bst_one ha hab (fun q hqa hqb => hq q (by omega) hqb (by omega))
      by_cases hgo : 64 * ((b : Int) - a) > (H b).2.2 - (H a).2.2
      · rw [if_pos ⟨hb, fun c hc => by rw [h1] at hc; cases hc; exact hgo⟩, if_pos hgo]
      · rw [if_neg (fun x => hgo (x.2 a h1)), if_neg hgo, h1]
    · rw [if_neg (fun x => by rw [hq n (by omega) (by omega) (fun y => e y.symm)] at x; cases x.1)]
      exact bst_two hab ha hb (by omega) (fun q hqn => hq q (by omega))
def TickB (v : Key -> Int) : Prop := ∀ q j, 0 <= v (kTick q j) /\ v (kTick q j) <= 1000000
theorem tickB0 : TickB v0 := fun q j => by simp [v0]
theorem TickB.put {v : Key -> Int} (t : TickB v) {m i I : Nat} {K x : Int} (h0 : 0 <= K) (h1 : K < 1000000) : TickB (putV m v i I K x) := fun q j => by
  unfold putV
  rw [ut_ne _ _ (by simp), ut_ne _ _ (by simp)]
  by_cases e : (kTick q j) = kTick i (I % m)
  · rw [e, ut_same]; omega
  · rw [ut_ne _ _ e, ut_ne _ _ (by simp), ut_ne _ _ (by simp)]; exact t q j
theorem TickB.take {v : Key -> Int} (t : TickB v) {m b o : Nat} : TickB (takeV m v b o) := fun q j => by
  unfold takeV
  rw [ut_ne _ _ (by simp), ut_ne _ _ (by simp)]; exact t q j
theorem TickB.b {v : Key -> Int} (t : TickB v) (q j : Nat) : -2305843009213693952 <= v (kTick q j) /\ v (kTick q j) <= 2305843009213693952 := by
  have := t q j; omega
theorem hdF_fst {G : PG} {v : Key -> Int} {oN : Nat -> Nat} {q : Nat} : (hdF G v oN 0 q).1 = true ↔ q < G.L /\ v (kTurn q (oN q % G.m)) = oN q + 1 := by
  unfold hdF
  by_cases h : 0 <= q /\ q < G.L /\ v (kTurn q (oN q % G.m)) = oN q + 1
  · rw [if_pos h]; simp [h.2]
  · rw [if_neg h]; simp only [Bool.false_eq_true, false_iff]; exact fun x => h ⟨Nat.zero_le _, x⟩
theorem hdF_tick {G : PG} {v : Key -> Int} {oN : Nat -> Nat} {q : Nat} (h : q < G.L /\ v (kTurn q (oN q % G.m)) = oN q + 1) : (hdF G v oN 0 q).2.2 = v (kTick q (oN q % G.m)) := by
  unfold hdF
  rw [if_pos ⟨Nat.zero_le _, h⟩]
theorem hdF_not {G : PG} {v : Key -> Int} {oN : Nat -> Nat} {q : Nat} (h : ¬ (q < G.L /\ v (kTurn q (oN q % G.m)) = oN q + 1)) : (hdF G v oN 0 q).1 = false := by
  cases e : (hdF G v oN 0 q).1
  · rfl
  · exact absurd (hdF_fst.1 e) h
section
variable {Γ : Type} {main : Bool} {h : Hp} {δ : Ix Γ}
theorem pfree {G : PG} {γ : Γ} : PFree NoS γ G := fun _ _ _ x => x
set_option maxHeartbeats 2000000 in
theorem works_ok : CallW Try.prog main NoS 52 #[] h δ (Ret fun w h' δ' => w = .bool true /\ Upd (fun _ => False) h h' /\ δ' = δ) := by
  refine CallW.start (n := 79) rfl rfl ?_
  (repeat (first | refine EK.seq ?_ | refine EK.region ?_ | refine ER.done ?_ | refine ER.assign rfl rfl rfl ?_))
  refine ER.callR rfl rfl rfl rfl rfl (new_ok (L := 2) (m := 2) (e := 1) (by omega) (by omega) rfl (by omega) (by omega) (fun _ _ _ x => x)) ?_
  rintro _ h1 δ1 ⟨rfl, u1, G, rfl, gL, gm, r1, ab⟩
  have own : ∀ {v : Key → Int} b, (priM G v).Own b → h.size ≤ b := fun b hb => by 
                                                                              obtain ⟨k, hk, rfl⟩ := hb
                                                                              have hk' : okP G.L G.m k := hk
                                                                              rw [gL, gm] at hk'
                                                                              exact ab k hk'
  (repeat (first | refine EK.seq ?_ | refine EK.region ?_ | refine ER.done ?_ | refine ER.move rfl rfl rfl ?_ | refine ER.assign rfl rfl rfl ?_ | refine ER.eqV rfl rfl rfl rfl rfl ?_ | refine ER.pickF rfl rfl rfl rfl ?_ | refine ER.extract rfl rfl rfl rfl ?_ | refine ER.cmpF rfl rfl rfl rfl rfl (by first | (dsimp only [cmpP]; omega) | exact rfl | exact Int.le_refl _) ?_))
  refine ER.callR rfl rfl rfl rfl rfl (put_ok (i := 0) (I := 0) (e := 1) (K := 0) (x := 7) r1 (by omega) (by rw [gm]) (by omega) rfl (by omega) (by rw [gm]; rfl) rfl (by omega) (by omega) pfree) ?_
  rintro _ h2 δ2 ⟨rfl, rfl, r2, u2⟩
  have w2 := u1.over u2 own
  rw [gm] at r2
  (repeat (first | refine ER.move rfl rfl rfl ?_ | refine ER.pickF rfl rfl rfl rfl ?_ | refine ER.cmpF rfl rfl rfl rfl rfl (by first | (dsimp only [cmpP]; omega) | exact rfl | exact Int.le_refl _) ?_))
  refine ER.callR rfl rfl rfl rfl rfl (put_ok (i := 1) (I := 0) (e := 1) (K := 1) (x := 8) r2 (by omega) (by rw [gm]) (by omega) (by simp [putV, ut, v0]) (by omega) (by rw [gm]; simp [putV, ut, v0]) (by simp [putV, ut]) (by omega) (by omega) pfree) ?_
  rintro _ h3 δ3 ⟨rfl, rfl, r3, u3⟩
  have w3 := w2.over u3 own
  rw [gm] at r3
  (repeat (first | refine ER.move rfl rfl rfl ?_ | refine ER.pickF rfl rfl rfl rfl ?_ | refine ER.cmpF rfl rfl rfl rfl rfl (by first | (dsimp only [cmpP]; omega) | exact rfl | exact Int.le_refl _) ?_))
  refine ER.callD rfl rfl rfl rfl rfl (put_arg (on := 2) r3 (.inr (by rw [gL]; decide))) ?_
  have t3 : TickB (putV 2 (putV 2 v0 0 0 0 7) 1 0 1 8) := (tickB0.put (by omega) (by omega)).put (by omega) (by omega)
  obtain ⟨w, hw⟩ : ∃ w, w = putV 2 (putV 2 v0 0 0 0 7) 1 0 1 8 := ⟨_, rfl⟩
  rw [<- hw] at r3 t3
  have f0 : w (kTurn 0 0) = 1 := by rw [hw]; simp [putV, ut]
  have f1 : w (kTurn 1 0) = 1 := by rw [hw]; simp [putV, ut]
  have f2 : w (kTick 0 0) = 1 := by rw [hw]; simp [putV, ut]
  have f3 : w (kTick 1 0) = 2 := by rw [hw]; simp [putV, ut]
  have f4 : ∀ q, w (kOut q) = 0 := fun q => by rw [hw]; simp [putV, ut, v0]
  have f5 : w (kSlot 1 0) = 8 := by rw [hw]; simp [putV, ut]
  have f6 : w (kSlot 0 0) = 7 := by rw [hw]; simp [putV, ut]
  have f7 : ∀ q, w (kTurn q 1) = 1 := fun q => by rw [hw]; simp [putV, ut, v0]
  clear hw
  have b1 : bst (hdF G w (fun _ => 0) 0) 8 = some 1 := by
    have h0 : 0 < G.L /\ w (kTurn 0 (0 % G.m)) = ((0 : Nat) : Int) + 1 := ⟨by omega, by rw [gm]; exact f0⟩
    have h1 : 1 < G.L /\ w (kTurn 1 (0 % G.m)) = ((0 : Nat) : Int) + 1 := ⟨by omega, by rw [gm]; exact f1⟩
    rw [bst_two (a := 0) (b := 1) (by omega) (hdF_fst.2 h0) (hdF_fst.2 h1) (by omega) (fun q _ h2 h3 => hdF_not (fun x => by have := x.1; omega)), hdF_tick h1, hdF_tick h0, gm]
    rw [show w (kTick 1 (0 % 2)) = 2 from f3, show w (kTick 0 (0 % 2)) = 1 from f2, if_pos (by decide)]
  (repeat (first | refine EK.seq ?_ | refine EK.region ?_ | refine ER.done ?_ | refine EK.skip ?_ | refine ER.move rfl rfl rfl ?_ | refine ER.pickF rfl rfl rfl rfl ?_ | refine ER.cmpF rfl rfl rfl rfl rfl (by first | (dsimp only [cmpP]; omega) | exact rfl | exact Int.le_refl _) ?_ | refine EK.condF rfl ?_))
  refine ER.callR rfl rfl rfl rfl rfl (take_ok (b := 1) (e := 1) (oN := fun _ => 0) r3 (by rw [gm]) (by omega) (by omega) (by omega) (fun q _ => ⟨by rw [f4]; rfl, by omega⟩) (fun q j _ => t3.b q j) (fun _ _ _ x => x) pfree b1) ?_
  rintro _ h4 δ4 ⟨rfl, rfl, r4, u4⟩
  have w4 := w3.over u4 own
  rw [gm] at r4 ⊢
  rw [show w (kSlot 1 (0 % 2)) = 8 from f5]
  have t4 := t3.take (m := 2) (b := 1) (o := 0)
  have b2 : bst (hdF G (takeV 2 w 1 0) (fun q => if q = 1 then 1 else 0) 0) 8 = some 0 := by
    refine bst_one (hdF_fst.2 ⟨by omega, ?_⟩) (by omega) (fun q _ h0 => hdF_not (fun x => ?_))
    · rw [gm]; simp [takeV, ut]; exact f0
    · obtain ⟨x1, x2⟩ := x
      obtain rfl : q = 1 := by omega
      rw [gm] at x2
      simp [takeV, ut] at x2
      rw [f7] at x2
      omega
  (repeat (first | refine EK.seq ?_ | refine EK.region ?_ | refine ER.done ?_ | refine ER.move rfl rfl rfl ?_ | refine ER.assign rfl rfl rfl ?_ | refine ER.extract rfl rfl rfl rfl ?_))
  refine ER.callR rfl rfl rfl rfl rfl (take_ok (b := 0) (e := 1) (oN := fun q => if q = 1 then 1 else 0) r4 (by rw [gm]) (by omega) (by omega) (by omega) (fun q _ => ⟨?_, ?_⟩) (fun q j _ => t4.b q j) (fun _ _ _ x => x) pfree b2) ?_
  · by_cases e : q = 1
    · subst e; simp [takeV, ut]
    · rw [if_neg e]; simp [takeV, ut, e]; exact f4 q
  · split <;> omega
  rintro _ h5 δ5 ⟨rfl, rfl, r5, u5⟩
  have w5 := w4.over u5 own
  rw [gm] at r5 ⊢
  rw [show takeV 2 w 1 0 (kSlot 0 ((if 0 = 1 then 1 else 0) % 2)) = 7 by simp [takeV, ut]; exact f6]
  have t5 := t4.take (m := 2) (b := 0) (o := 0)
  have b3 : bst (hdF G (takeV 2 (takeV 2 w 1 0) 0 0) (fun _ => 1) 0) 8 = none := by
    refine bst_none (fun q _ => hdF_not (fun x => ?_))
    obtain ⟨x1, x2⟩ := x
    rw [gm] at x2
    simp [takeV, ut] at x2
    rw [f7] at x2
    omega
  (repeat (first | refine EK.seq ?_ | refine EK.region ?_ | refine ER.done ?_ | refine ER.move rfl rfl rfl ?_ | refine ER.assign rfl rfl rfl ?_ | refine ER.extract rfl rfl rfl rfl ?_))
  refine ER.callR rfl rfl rfl rfl rfl (take_none (e := 1) (oN := fun _ => 1) r5 (by rw [gm]) (by omega) (by omega) (by omega) (fun q hq => ⟨?_, by omega⟩) (fun q j _ => t5.b q j) (fun _ _ _ x => x) b3) ?_
  · rcases (show q = 0 \/ q = 1 by omega) with rfl | rfl <;> simp [takeV, ut]
  rintro _ h6 δ6 ⟨rfl, rfl, u6⟩
  (repeat (first | refine EK.seq ?_ | refine EK.region ?_ | refine ER.done ?_ | refine ER.move rfl rfl rfl ?_ | refine ER.assign rfl rfl rfl ?_ | refine ER.notB rfl rfl rfl ?_ | refine ER.pickT rfl rfl rfl rfl ?_ | refine ER.extract rfl rfl rfl rfl ?_ | refine ER.cmpT rfl rfl rfl rfl rfl (by first | (dsimp only [cmpP]; omega) | exact rfl | exact Int.le_refl _) ?_ | refine EK.ret ?_))
  exact EU.ret1 rfl rfl ⟨rfl, w5.trans u6, rfl⟩
end
end
section
open Go Go.TJ Go.Proofs
variable [Dm]
def prK (x y : Nat) : Nat := (x + y) * (x + y) + x
theorem prK_lt {a b c d : Nat} (h : a + b < c + d) : prK a b < prK c d := by
  unfold prK
  have h1 := Nat.mul_le_mul (show a + b + 1 <= c + d from h) (show a + b + 1 <= c + d from h)
  have h2 : (a + b + 1) * (a + b + 1) = (a + b) * (a + b) + 2 * (a + b) + 1 := by
    rw [Nat.add_mul, Nat.mul_add]; omega
  omega
theorem prK_inj {a b c d : Nat} (h : prK a b = prK c d) : a = c /\ b = d := by
  rcases Nat.lt_trichotomy (a + b) (c + d) with z | z | z
  · have := prK_lt z; omega
  · unfold prK at h
    rw [z] at h
    omega
  · have := prK_lt z; omega
def encK (k : Key) : Nat := prK k.1 (prK k.2.1 k.2.2)
theorem encK_inj {k k' : Key} (h : encK k = encK k') : k = k' := by
  obtain ⟨a, b, c⟩ := k
  obtain ⟨a', b', c'⟩ := k'
  obtain ⟨h1, h2⟩ := prK_inj h
  obtain ⟨h3, h4⟩ := prK_inj h2
  dsimp only at h1 h3 h4
  subst h1 h3 h4
  rfl
theorem sx_injK {p : Key -> Prop} (B : Key -> Nat) (m : Nat) (inj : ∀ j k, p j -> p k -> B j = B k -> j = k) (lt : ∀ k, p k -> B k < m) : ∃ B' : Key -> Nat, (∀ k, p k -> B' k = B k) /\ ∀ j k, B' j = B' k -> j = k := by
  classical
  refine ⟨fun k => if p k then B k else m + encK k, fun k hk => if_pos hk, fun j k e => ?_⟩
  dsimp only at e
  by_cases hj : p j <;> by_cases hk : p k
  · rw [if_pos hj, if_pos hk] at e; exact inj j k hj hk e
  · rw [if_pos hj, if_neg hk] at e; have := lt j hj; omega
  · rw [if_neg hj, if_pos hk] at e; have := lt k hk; omega
  · rw [if_neg hj, if_neg hk] at e; exact encK_inj (by omega)
theorem sx_backK {B : Key -> Nat} (inj : ∀ j k, B j = B k -> j = k) : ∃ idx : Nat -> Key, ∀ k, idx (B k) = k := by
  classical
  refine ⟨fun b => if h : ∃ k, B k = b then Classical.choose h else (0, 0, 0), fun k => ?_⟩
  have h : ∃ j, B j = B k := ⟨k, rfl⟩
  simp only [dif_pos h]
  exact inj _ _ (Classical.choose_spec h)
theorem pri_congr {h : Hp} {G : PG} {v : Key -> Int} {B' : Key -> Nat} (r : Pri h G v) (hB : ∀ k, okP G.L G.m k -> B' k = G.B k) : Pri h { G with B := B' } v := by
  refine r.congr (fun k hk => hk) hB (fun k hk => ?_)
  have hk' : okP G.L G.m k := hk
  rcases okP_cases hk' with rfl | rfl | rfl | ⟨q, hq, rfl | rfl | rfl | rfl⟩ | ⟨q, j, hq, hj, rfl | rfl | rfl⟩
  · show Obj.cells #[ptr (B' kTk), .slice (some ⟨B' kLvs, 0, none⟩) G.L G.capL] _ _ = Obj.cells #[ptr (G.B kTk), .slice (some ⟨G.B kLvs, 0, none⟩) G.L G.capL] _ _
    rw [hB kTk trivial, hB kLvs trivial]
  · show Obj.cells (((List.range G.L).map fun i => ptr (B' (kLev i))) ++ G.rL).toArray _ _ = Obj.cells (((List.range G.L).map fun i => ptr (G.B (kLev i))) ++ G.rL).toArray _ _
    congr 3
    refine List.map_congr_left fun j hj => ?_
    rw [hB (kLev j) (List.mem_range.1 hj)]
  · rfl
  · show Obj.cells #[ptr (B' (kIn q)), ptr (B' (kOut q)), .slice (some ⟨B' (kPls q), 0, none⟩) G.m (G.capP q)] _ _ = Obj.cells #[ptr (G.B (kIn q)), ptr (G.B (kOut q)), .slice (some ⟨G.B (kPls q), 0, none⟩) G.m (G.capP q)] _ _
    rw [hB (kIn q) hq, hB (kOut q) hq, hB (kPls q) hq]
  · show Obj.cells (((List.range G.m).flatMap fun j => [ptr (B' (kTurn q j)), ptr (B' (kTick q j)), ptr (B' (kSlot q j))]) ++ G.rP q).toArray _ _ = Obj.cells (((List.range G.m).flatMap fun j => [ptr (G.B (kTurn q j)), ptr (G.B (kTick q j)), ptr (G.B (kSlot q j))]) ++ G.rP q).toArray _ _
    congr 3
    rw [List.flatMap_def, List.flatMap_def]
    congr 1
    refine List.map_congr_left fun j hj => ?_
    have hj := List.mem_range.1 hj
    rw [hB (kTurn q j) ⟨hq, hj⟩, hB (kTick q j) ⟨hq, hj⟩, hB (kSlot q j) ⟨hq, hj⟩]
  · rfl
  · rfl
  · rfl
  · rfl
  · rfl
theorem bst_some {H : Nat -> Hd} {q : Nat} (hq : (H q).1 = true) : ∀ {n : Nat}, q < n -> ∃ b, bst H n = some b
  | 0, h => by omega
  | n + 1, h => by
    show ∃ b, (if (H n).1 = true /\ _ then some n else bst H n) = some b
    by_cases e : q = n
    · subst e
      cases hb : bst H q with
      | none => exact ⟨q, if_pos ⟨hq, fun b z => by cases z⟩⟩
      | some b =>
        by_cases hc : (H q).1 = true /\ ∀ b', some b = some b' -> 64 * ((q : Int) - b') > (H q).2.2 - (H b').2.2
        · exact ⟨q, if_pos hc⟩
        · exact ⟨b, if_neg hc⟩
    · obtain ⟨b, hb⟩ := bst_some hq (n := n) (by omega)
      by_cases hc : (H n).1 = true /\ ∀ b, bst H n = some b -> 64 * ((n : Int) - b) > (H n).2.2 - (H b).2.2
      · exact ⟨n, if_pos hc⟩
      · exact ⟨b, (if_neg hc).trans hb⟩
theorem pri_perm {y : Py} {n q : Nat} (J : Pj y) (hn : y.c.n = n) (hq : y.c.q = q) (hf : y.fl = []) (pe : ∀ w, w < n -> y.po (w + 1) = []) (qe : ∀ w, w < q -> y.pu (n + 1 + w) = []) (ml : y.pu (n + q + 1) = []) :
    ((List.range n).flatMap fun w => y.pu (w + 1)).Perm ((List.range (q + 1)).flatMap fun w => y.po (n + (w + 1))) := by
  have vs := J.vs
  have e1 : flW y.pu (n + (q + 1)) = (List.range n).flatMap fun w => y.pu (w + 1) := by
    rw [flW_add', flW_nil (f := fun i => y.pu (n + i)) fun i i0 hi => ?_, List.append_nil]
    · rfl
    · by_cases e : i = q + 1
      · subst e; exact ml
      · have := qe (i - 1) (by omega)
        rw [show n + 1 + (i - 1) = n + i by omega] at this
        exact this
  have e2 : flW y.po (n + (q + 1)) = (List.range (q + 1)).flatMap fun w => y.po (n + (w + 1)) := by
    rw [flW_add', flW_nil (f := y.po) fun i i0 hi => ?_, List.nil_append]
    · rfl
    · have := pe (i - 1) (by omega)
      rw [show i - 1 + 1 = i by omega] at this
      exact this
  rw [hf, List.nil_append, show y.c.W = n + q by show y.c.n + y.c.q = n + q; rw [hn, hq], Nat.add_assoc, e1, e2] at vs
  exact vs
set_option maxRecDepth 8000 in
set_option maxHeartbeats 16000000 in
theorem plaw_ok {w s t l : Int} {h : Hp} {γ₀ : Gf Py} (hst : γ₀.st = 0) (hnum : γ₀.num = 1) (hnd : ∀ (b : Nat) (o : Obj), h[b]? = some o -> o ≠ dum) (l0 : 0 <= l) (l1 : l <= 255) :
    CallW Try.prog true (SitM Try.prog (XF TT pL)) 7 #[.int .i64 w, .int .i64 s, .int .i64 t, .int .u8 l] h ⟨0, γ₀⟩ (Ret fun v h' δ' => v = .bool true /\ δ'.d = 0 /\ Upd (fun _ => False) h h' /\ ((XF TT pL).jn δ'.g \/ ((XF TT pL).lone δ'.g /\ δ'.g.num = 1))) := by
  have hlo : (SitM Try.prog (XF TT pL)).lone γ₀ := ⟨by omega, fun j j0 hj => by have hj' : j < γ₀.num := hj; omega⟩
  have hsl : ∀ a, ¬ (SitM Try.prog (XF TT pL)).still γ₀ a := fun a z => by have : γ₀.st = 1 := z.1; omega
  have lft : ∀ {f : FuncId} {args : Array Value} {hh : Hp} {R : Post (Gf Py)}, CallW Try.prog true NoS f args hh ⟨0, γ₀⟩ R -> CallW Try.prog true (SitM Try.prog (XF TT pL)) f args hh ⟨0, γ₀⟩ R := fun hc => hc.noS hsl hlo (fun z => z)
  obtain ⟨n, hn, n1, n4⟩ : ∃ n : Nat, w % ((4 : Nat) : Int) + 1 = n /\ 1 <= n /\ n <= 4 := ⟨(w % 4 + 1).toNat, by omega, by omega, by omega⟩
  obtain ⟨q, hq, q1, q4⟩ : ∃ q : Nat, s % ((4 : Nat) : Int) + 1 = q /\ 1 <= q /\ q <= 4 := ⟨(s % 4 + 1).toNat, by omega, by omega, by omega⟩
  obtain ⟨e, he, e1⟩ : ∃ e : Nat, t % ((100 : Nat) : Int) = e /\ e <= 99 := ⟨(t % 100).toNat, by omega, by omega⟩
  obtain ⟨L, hL, L1, L8⟩ : ∃ L : Nat, l.tmod 8 + 1 = L /\ 1 <= L /\ L <= 8 := by
    have h1 := Int.tmod_nonneg 8 l0
    have h2 := Int.tmod_lt_of_pos l (b := 8) (by decide)
    exact ⟨(l.tmod 8 + 1).toNat, by omega, by omega, by omega⟩
  refine CallW.start (n := 201) rfl rfl ?_
  (repeat (first | refine EK.seq ?_ | refine EK.region ?_ | refine ER.done ?_ | refine ER.assign rfl rfl rfl ?_))
  refine ER.callR rfl rfl rfl rfl rfl (lft works_ok) ?_
  rintro _ h1 δ1 ⟨rfl, u1, rfl⟩
  (repeat (first | refine EK.seq ?_ | refine EK.region ?_ | refine ER.done ?_ | refine ER.move rfl rfl rfl ?_ | refine ER.assign rfl rfl rfl ?_))
  refine ER.callD rfl rfl rfl rfl rfl (lft (place_ok (n := 4) (by omega) (by omega))) ?_
  refine ER.add (kd := .i64) (r := (n : Int)) rfl rfl rfl rfl (by rw [<- hn]; exact i64_in (by omega) (by omega)) ?_
  (repeat refine ER.alloc rfl rfl ?_)
  refine ER.storeNew rfl rfl rfl rfl (by simp [OneCell]) (hsl _) ?_
  refine ER.gen (fun h' => Upd (fun _ => False) h h' /\ h'[h1.size]? = some (.cells #[.int .i64 n] 3 (0, 0))) ⟨u1.trans (Upd.push _ _), get_push_new _ _⟩ ?_
  clear u1
  generalize h1.size = vN
  rintro h2 ⟨uu, N⟩
  (repeat (first | refine EK.seq ?_ | refine EK.region ?_ | refine ER.done ?_ | refine ER.move rfl rfl rfl ?_))
  refine ER.callD rfl rfl rfl rfl rfl (lft (place_ok (n := 4) (by omega) (by omega))) ?_
  refine ER.add (kd := .i64) (r := (q : Int)) rfl rfl rfl rfl (by rw [<- hq]; exact i64_in (by omega) (by omega)) ?_
  (repeat (first | refine EK.seq ?_ | refine EK.region ?_ | refine ER.done ?_ | refine ER.move rfl rfl rfl ?_ | refine ER.assign rfl rfl rfl ?_))
  refine ER.callD rfl rfl rfl rfl rfl (lft (place_ok (n := 100) (by omega) (by omega))) ?_
  rw [he]
  (repeat refine ER.alloc rfl rfl ?_)
  refine ER.storeNew rfl rfl rfl rfl (by simp [OneCell]) (hsl _) ?_
  refine ER.gen (fun h' => Upd (fun _ => False) h h' /\ h'[vN]? = some (.cells #[.int .i64 n] 3 (0, 0)) /\ h'[h2.size]? = some (.cells #[.int .i64 e] 3 (0, 0))) ⟨uu.trans (Upd.push _ _), get_push _ N, get_push_new _ _⟩ ?_
  clear uu N
  generalize h2.size = vE
  rintro h3 ⟨uu, N, E⟩
  (repeat (first | refine EK.seq ?_ | refine EK.region ?_ | refine ER.done ?_ | refine ER.move rfl rfl rfl ?_))
  refine ER.rem (kd := .u8) rfl rfl rfl rfl (by decide) rfl ?_
  refine ER.conv (kd := .u8) (r := l.tmod 8) rfl rfl rfl (i64_in (by omega) (by omega)) ?_
  refine ER.add (kd := .i64) (r := (L : Int)) rfl rfl rfl rfl (by rw [<- hL]; exact i64_in (by omega) (by omega)) ?_
  (repeat refine ER.alloc rfl rfl ?_)
  refine ER.storeNew rfl rfl rfl rfl (by simp [OneCell]) (hsl _) ?_
  refine ER.gen (fun h' => Upd (fun _ => False) h h' /\ h'[vN]? = some (.cells #[.int .i64 n] 3 (0, 0)) /\ h'[vE]? = some (.cells #[.int .i64 e] 3 (0, 0)) /\ h'[h3.size]? = some (.cells #[.int .i64 L] 3 (0, 0))) ⟨uu.trans (Upd.push _ _), get_push _ N, get_push _ E, get_push_new _ _⟩ ?_
  clear uu N E
  generalize h3.size = vC
  rintro h4 ⟨uu, N, E, C⟩
  (repeat (first | refine EK.seq ?_ | refine EK.region ?_ | refine ER.done ?_ | refine ER.load1 rfl rfl rfl (hcell_of (by assumption) rfl) ?_))
  refine ER.callR rfl rfl rfl rfl rfl (lft (new_ok (L := L) (m := 64) (e := 6) L1 L8 rfl (by decide) (by decide) (fun _ _ _ z => z))) ?_
  rintro _ h5 δ5 ⟨rfl, u5, G₀, rfl, gL, gm, r₀, ab₀⟩
  obtain ⟨B, hB, inj⟩ := sx_injK (p := okP L 64) G₀.B h5.size (fun j k hj hk e' => r₀.inj j k (by show okP G₀.L G₀.m j; rw [gL, gm]; exact hj) (by show okP G₀.L G₀.m k; rw [gL, gm]; exact hk) e') (fun k hk => r₀.lt (k := k) (by show okP G₀.L G₀.m k; rw [gL, gm]; exact hk))
  obtain ⟨idx, bi⟩ := sx_backK inj
  have r : Pri h5 { G₀ with B := B } v0 := pri_congr r₀ fun k hk => hB k (by rw [gL, gm] at hk; exact hk)
  have bl : ∀ k, okP L 64 k -> h.size <= B k := fun k hk => by rw [hB k hk]; exact Nat.le_trans uu.size (ab₀ k hk)
  rw [<- hB kTop trivial]
  obtain ⟨G, hG⟩ : ∃ G : PG, G = { G₀ with B := B } := ⟨_, rfl⟩
  rw [<- hG] at r
  have gB : G.B = B := by rw [hG]
  replace gL : G.L = L := by rw [hG]; exact gL
  replace gm : G.m = 64 := by rw [hG]; exact gm
  clear hG r₀ ab₀ hB inj G₀
  subst gB gL
  (repeat (first | refine ER.move rfl rfl rfl ?_ | refine ER.extract rfl rfl rfl rfl ?_ | refine ER.alloc rfl rfl ?_))
  refine ER.storeNew rfl rfl rfl rfl (by simp [OneCell]) (hsl _) ?_
  refine ER.gen (fun h' => Upd (fun _ => False) h h' /\ h'[vN]? = some (.cells #[.int .i64 n] 3 (0, 0)) /\ h'[vE]? = some (.cells #[.int .i64 e] 3 (0, 0)) /\ h'[vC]? = some (.cells #[.int .i64 G.L] 3 (0, 0)) /\ Pri h' G v0 /\ h'[h5.size]? = some (.cells #[.pointer (some ⟨G.B kTop, 0, none⟩)] 83 (0, 0)))
    ⟨(uu.trans u5).trans (Upd.push _ _), get_push _ (u5.get N fun z => z), get_push _ (u5.get E fun z => z), get_push _ (u5.get C fun z => z), r.upd0 (Upd.push _ _), get_push_new _ _⟩ ?_
  clear uu N E C u5 r
  generalize h5.size = vP
  rintro h6 ⟨uu, N, E, C, r, P⟩
  (repeat (first | refine EK.seq ?_ | refine EK.region ?_ | refine ER.done ?_ | refine EK.skip ?_ | refine ER.move rfl rfl rfl ?_ | refine ER.assign rfl rfl rfl ?_ | refine ER.load1 rfl rfl rfl (hcell_of (by assumption) rfl) ?_ | refine ER.eqV rfl rfl rfl rfl rfl ?_ | refine ER.notB rfl rfl rfl ?_ | refine ER.pickF rfl rfl rfl rfl ?_ | refine ER.cmpF rfl rfl rfl rfl rfl (by first | (dsimp only [cmpP]; omega) | exact rfl | exact Int.le_refl _) ?_ | refine EK.condF rfl ?_))
  refine ER.makeSliceD rfl rfl rfl rfl (by omega) (by omega) rfl ?_
  (repeat refine ER.alloc rfl rfl ?_)
  refine ER.storeNew rfl rfl rfl rfl (by simp [OneCell]) (hsl _) ?_
  refine ER.gen (fun h7 => Upd (fun _ => False) h6 h7 /\ h7[h6.size]? = some (.cells (List.replicate n (Value.slice none 0 0)).toArray 31 (0, 0)) /\ h7[(Array.push h6 (Obj.cells (List.replicate n (Value.slice none 0 0)).toArray 31 (0, 0))).size]? = some (.cells #[.slice (some ⟨h6.size, 0, none⟩) n n] 28 (0, 0)))
    ⟨(Upd.push _ _).trans (Upd.push _ _), get_push _ (get_push_new _ _), get_push_new _ _⟩ ?_
  have pl : h.size <= h6.size := uu.size
  generalize (Array.push h6 (Obj.cells (List.replicate n (Value.slice none 0 0)).toArray 31 (0, 0))).size = vU
  generalize h6.size = pb at pl ⊢
  rintro h7 ⟨u7, Pb, U⟩
  have pb7 : pb < h7.size := lt_of_get Pb
  replace uu := uu.trans u7
  replace N := u7.get N fun z => z
  replace E := u7.get E fun z => z
  replace C := u7.get C fun z => z
  replace P := u7.get P fun z => z
  replace r := r.upd0 u7
  clear u7
  (repeat (first | refine EK.seq ?_ | refine EK.region ?_ | refine ER.done ?_ | refine ER.move rfl rfl rfl ?_ | refine ER.add (kd := .i64) rfl rfl rfl rfl (i64_in (by omega) (by omega)) ?_))
  refine ER.makeSliceD (m := q + 1) rfl rfl rfl rfl (by omega) (by omega) rfl ?_
  (repeat refine ER.alloc rfl rfl ?_)
  refine ER.storeNew rfl rfl rfl rfl (by simp [OneCell]) (hsl _) ?_
  refine ER.gen (fun h8 => Upd (fun _ => False) h7 h8 /\ h8[h7.size]? = some (.cells (List.replicate (q + 1) (Value.slice none 0 0)).toArray 31 (0, 0)) /\ h8[(Array.push h7 (Obj.cells (List.replicate (q + 1) (Value.slice none 0 0)).toArray 31 (0, 0))).size]? = some (.cells #[.slice (some ⟨h7.size, 0, none⟩) (q + 1) (q + 1)] 28 (0, 0)))
    ⟨(Upd.push _ _).trans (Upd.push _ _), get_push _ (get_push_new _ _), get_push_new _ _⟩ ?_
  have ql : h.size <= h7.size := uu.size
  generalize (Array.push h7 (Obj.cells (List.replicate (q + 1) (Value.slice none 0 0)).toArray 31 (0, 0))).size = vL
  generalize h7.size = qb at ql pb7 ⊢
  rintro h8 ⟨u8, Qb, V⟩
  replace uu := uu.trans u8
  replace N := u8.get N fun z => z
  replace E := u8.get E fun z => z
  replace C := u8.get C fun z => z
  replace P := u8.get P fun z => z
  replace U := u8.get U fun z => z
  replace Pb := u8.get Pb fun z => z
  replace r := r.upd0 u8
  clear u8
  (repeat (first | refine EK.seq ?_ | refine EK.region ?_ | refine ER.done ?_ | refine ER.move rfl rfl rfl ?_ | refine ER.load1 rfl rfl rfl (hcell_of (by assumption) rfl) ?_ | refine ER.add (kd := .i64) rfl rfl rfl rfl (i64_in (by omega) (by omega)) ?_))
  refine ER.makeSliceD (m := n + q + 1) rfl rfl rfl rfl (by omega) (by omega) rfl ?_
  (repeat refine ER.alloc rfl rfl ?_)
  refine ER.storeNew rfl rfl rfl rfl (by simp [OneCell]) (hsl _) ?_
  refine ER.gen (fun h9 => Upd (fun _ => False) h8 h9 /\ h9[h8.size]? = some (.cells (List.replicate (n + q + 1) (Value.bool false)).toArray 4 (0, 0)) /\ h9[(Array.push h8 (Obj.cells (List.replicate (n + q + 1) (Value.bool false)).toArray 4 (0, 0))).size]? = some (.cells #[.slice (some ⟨h8.size, 0, none⟩) (n + q + 1) (n + q + 1)] 47 (0, 0)))
    ⟨(Upd.push _ _).trans (Upd.push _ _), get_push _ (get_push_new _ _), get_push_new _ _⟩ ?_
  have wl : h.size <= h8.size := uu.size
  generalize (Array.push h8 (Obj.cells (List.replicate (n + q + 1) (Value.bool false)).toArray 4 (0, 0))).size = vW
  generalize h8.size = wb at wl ⊢
  rintro h9 ⟨u9, Wb, Wv⟩
  replace N := u9.get N fun z => z
  have K : Pst h ⟨n, q, e, G, idx, vE, vN, vP, vC, vU, vL, vW, pb, qb, wb⟩ h9 := ⟨uu.trans u9, u9.get E fun z => z, N, u9.get P fun z => z, u9.get C fun z => z, u9.get U fun z => z, u9.get V fun z => z, Wv, u9.get Pb fun z => z, u9.get Qb fun z => z, Wb, r.upd0 u9, bl, bi, pl, ql, wl, by show pb ≠ qb; omega, gm, n1, n4, q1, q4, by show e <= 100; omega, L1, L8⟩
  clear E P C U V Wv Pb Qb Wb r u9 uu bl bi pl ql wl pb7
  (repeat (first | refine EK.seq ?_ | refine EK.region ?_ | refine ER.done ?_ | refine ER.move rfl rfl rfl ?_ | refine ER.load1 rfl rfl rfl (hcell_of (by assumption) rfl) ?_ | refine ER.add (kd := .i64) rfl rfl rfl rfl (i64_in (by omega) (by omega)) ?_))
  refine ER.makeF rfl rfl rfl rfl rfl rfl ?_
  rw [show (n : Int) + (q : Int) = ((n + q : Nat) : Int) from rfl]
  refine ER.callR rfl rfl rfl rfl rfl (all18_ok (L := pL) (n := n + q) (fb := 55) (R := fun _ h' δ' => δ'.d = 0 /\ ∃ hF, Pst h ⟨n, q, e, G, idx, vE, vN, vP, vC, vU, vL, vW, pb, qb, wb⟩ hF /\ Freed pL (pY ⟨n, q, e, G, idx, vE, vN, vP, vC, vU, vL, vW, pb, qb, wb⟩ (pC ⟨n, q, e, G, idx, vE, vN, vP, vC, vU, vL, vW, pb, qb, wb⟩ hF)) hF (n + q) h' δ'.g) hst hnum (by omega) (by omega) fun hF B' cap' fB ib uF _ hfB hib hB1 hBk => ?_) ?_
  · refine (K.free uF hst hnum hfB (fun j hj => (hib j hj).2) hB1 hBk).mono ?_
    rintro (v | v) h' δ' z
    · exact ⟨z.2.1, hF, K.upd uF, z.2.2⟩
    · exact z.elim
  rintro _ hz ⟨dz, γz⟩ ⟨_, ed, hF, kF, fr⟩
  simp only at ed fr
  subst ed
  obtain ⟨c, y₀, T, X⟩ := kF.fin hnd fr
  have hjn := fr.jn
  have hst2 := fr.st
  clear fr kF K hF lft hlo hsl hst hnum N
  have hlo : (SitM Try.prog (XF TT pL)).lone γz := (xf_ok TT pL pL_ok).jl _ hjn
  have hsl : ∀ a, ¬ (SitM Try.prog (XF TT pL)).still γz a := fun a z => by have : γz.st = 1 := z.1; omega
  have lft : ∀ {f : FuncId} {args : Array Value} {hh : Hp} {R : Post (Gf Py)}, CallW Try.prog true NoS f args hh ⟨0, γz⟩ R -> CallW Try.prog true (SitM Try.prog (XF TT pL)) f args hh ⟨0, γz⟩ R := fun hc => hc.noS hsl hlo (fun z => z)
  have hbT : ∀ k, okP G.L 64 k -> G.B k < T := fun k hk => (X.bl k hk).2.1
  have own64 : ∀ {b : Nat} {v : Key -> Int}, (priM G v).Own b -> ∃ k, okP G.L 64 k /\ b = G.B k := fun {b v} ⟨k, hk, e'⟩ => ⟨k, by have hk' : okP G.L G.m k := hk; rwa [gm] at hk', e'⟩
  have hcn : c.n = n := X.cn
  have hcq : c.q = q := X.cq
  have hcL : c.L = G.L := X.cL
  have hcB : c.B = G.B := X.cB
  have hcK : c.K = 1000000000 := X.cK
  (repeat (first | refine EK.seq ?_ | refine EK.region ?_ | refine ER.done ?_ | refine EK.block ?_ | refine ER.assign rfl rfl rfl ?_))
  refine EK.loopInv (fun z : Nat × Py × Value => [(19, .int .i64 z.1), (10, .pointer (some ⟨vN, 0, none⟩)), (11, .int .i64 q), (13, .pointer (some ⟨vC, 0, none⟩)), (14, .pointer (some ⟨vP, 0, none⟩)), (16, .pointer (some ⟨vU, 0, none⟩)), (17, .pointer (some ⟨vL, 0, none⟩)), (18, .pointer (some ⟨vW, 0, none⟩))])
    (fun z h' δ' => δ' = ⟨0, γz⟩ /\ z.1 + z.2.1.fl.length <= G.L * 64 /\ Upd (fun b => (∃ k, okP G.L 64 k /\ b = G.B k) \/ b = qb \/ b = wb) hz h' /\ Pri h' G (fun k => z.2.1.v (G.B k)) /\ Qt z.2.1 /\ z.2.1.c = c /\ z.2.1.pu = y₀.pu /\ (∀ i, i ≠ n + q + 1 -> z.2.1.po i = y₀.po i) /\ (z.2.1.po (n + q + 1)).length = z.1 /\ 2000 <= z.2.1.bd (n + q + 1) + 2 * z.1 /\ h'[qb]? = some (.cells ((List.range (q + 1)).map (u1 y₀.sq q z.2.2)).toArray 31 (0, 0)) /\ h'[wb]? = some (.cells (Array.replicate (n + q + 1) (Value.bool false)) 4 (0, 0)) /\ SliceO h' z.2.2 2 1 (z.2.1.po (n + q + 1)).length ((z.2.1.po (n + q + 1)).map intv) /\ ∀ b, blk z.2.2 = some b -> hz.size <= b)
    (fun z => G.L * 64 - z.1) (0, y₀, nilSl) ⟨rfl, rfl, rfl, rfl, rfl, rfl, rfl, rfl, trivial⟩ ⟨rfl, ?_, Upd.refl _ _, X.r, X.qt, X.hc, rfl, fun _ _ => rfl, by rw [X.ml.2.1]; rfl, by have := X.ml.2.2; dsimp only at this ⊢; omega, ?_, X.wb, by rw [X.ml.2.1]; exact SliceO.nil, fun b hb => by cases hb⟩ ?_
  · have := Qt.cnt y₀
    rw [X.hc, hcL] at this
    dsimp only
    omega
  · rw [X.qb]
    congr 3
    refine List.map_congr_left fun w hw => ?_
    by_cases e : w = q
    · subst e; rw [u1_same]; exact X.qn
    · rw [u1_ne e]
  rintro ⟨k, y, sl⟩ h1 δ1 ⟨rfl, hk, u1', r1, qt, hc, hpu, hpo, hlen, hbd, qc, wc, sO, sb⟩ again
  dsimp only at hk u1' r1 qt hc hpu hpo hlen hbd qc wc sO sb again ⊢
  have nown : ∀ b o v, (∀ j, okP G.L 64 j -> G.B j ≠ b) -> b ≠ qb -> b ≠ wb -> hcell hz ⟨b, o, none⟩ = some v -> hcell h1 ⟨b, o, none⟩ = some v := fun b o v h1 h2 h3 hc => u1'.hcell hc fun z => z.elim (fun ⟨j, hj, e⟩ => h1 j hj e.symm) fun z => z.elim h2 h3
  have hN := nown _ _ _ (fun j hj => (X.bl j hj).2.2.2.2.2.1) (fun z => X.ql.2.2.2.2.1 z.symm) (fun z => X.wl.2.2.2.1 z.symm) X.N
  have hP := nown _ _ _ (fun j hj => (X.bl j hj).2.2.2.2.2.2.1) (fun z => X.ql.2.2.2.2.2.1 z.symm) (fun z => X.wl.2.2.2.2.1 z.symm) X.P
  have hC := nown _ _ _ (fun j hj => (X.bl j hj).2.2.2.2.2.2.2.1) (fun z => X.ql.2.2.2.2.2.2.1 z.symm) (fun z => X.wl.2.2.2.2.2.1 z.symm) X.C
  have hU := nown _ _ _ (fun j hj => (X.bl j hj).2.2.2.2.2.2.2.2.1) (fun z => X.ql.2.2.2.2.2.2.2.1 z.symm) (fun z => X.wl.2.2.2.2.2.2.1 z.symm) X.U
  have hV := nown _ _ _ (fun j hj => (X.bl j hj).2.2.2.2.2.2.2.2.2.1) (fun z => X.ql.2.2.2.2.2.2.2.2.1 z.symm) (fun z => X.wl.2.2.2.2.2.2.2.1 z.symm) X.V
  have hW := nown _ _ _ (fun j hj => (X.bl j hj).2.2.2.2.2.2.2.2.2.2) (fun z => X.ql.2.2.2.2.2.2.2.2.2 z.symm) (fun z => X.wl.2.2.2.2.2.2.2.2 z.symm) X.W
  dsimp only at hN hP hC hU hV hW
  have hcB' : y.c.B = G.B := by rw [hc]; exact hcB
  have hcL' : y.c.L = G.L := by rw [hc]; exact hcL
  have hO : ∀ a, a < G.L -> (fun k => y.v (G.B k)) (kOut a) = y.O a /\ y.O a < 2305843009213693952 := fun a ha => by
    have h1 := qt.J.vo a (by rw [hcL']; exact ha)
    have h2 := qt.J.K a (by rw [hcL']; exact ha)
    have h3 := qt.J.oi a (by rw [hcL']; exact ha)
    rw [hcB'] at h1
    rw [hc, hcK] at h2
    exact ⟨h1, by omega⟩
  have hT : ∀ a j, a < G.L -> -2305843009213693952 <= (fun k => y.v (G.B k)) (kTick a j) /\ (fun k => y.v (G.B k)) (kTick a j) <= 2305843009213693952 := fun a j ha => by
    have h1 := qt.J.tc a j
    rw [hcB', hc, hcK] at h1
    show -2305843009213693952 <= y.v (G.B (kTick a j)) /\ y.v (G.B (kTick a j)) <= 2305843009213693952
    exact ⟨by omega, by omega⟩
  cases hbst : bst (hdF G (fun k => y.v (G.B k)) y.O 0) 8 with
  | none =>
    have hf : y.fl = [] := qt.bare fun g hg hv => by
      rw [hcL'] at hg
      rw [hcB'] at hv
      have := hdF_fst (G := G) (v := fun k => y.v (G.B k)) (oN := y.O) (q := g)
      obtain ⟨b, hb⟩ := bst_some (this.2 ⟨hg, by rw [gm]; exact hv⟩) (n := 8) (by omega)
      rw [hb] at hbst
      cases hbst
    (repeat (first | refine EK.seq ?_ | refine EK.region ?_ | refine ER.done ?_ | refine EK.skip ?_ | refine EK.block ?_ | refine ER.move rfl rfl rfl ?_ | refine ER.cmpT rfl rfl rfl rfl rfl (by first | (dsimp only [cmpP]; omega) | exact rfl | exact Int.le_refl _) ?_ | refine ER.mul (kd := .i64) rfl rfl rfl rfl (i64_in (by omega) (by omega)) ?_ | refine EK.condT rfl ?_ | refine ER.load1 rfl rfl rfl (by assumption) ?_))
    refine ER.callR rfl rfl rfl rfl rfl (lft (take_none (e := 6) r1 (by rw [gm]) (by decide) L1 L8 hO hT (fun _ _ _ z => z) hbst)) ?_
    rintro _ h2 δ2 ⟨rfl, rfl, u2⟩
    (repeat (first | refine EK.seq ?_ | refine EK.region ?_ | refine ER.done ?_ | refine ER.move rfl rfl rfl ?_ | refine ER.assign rfl rfl rfl ?_ | refine ER.notB rfl rfl rfl ?_ | refine ER.extract rfl rfl rfl rfl ?_ | refine EK.condT rfl ?_ | refine EK.exit rfl ?_))
    clear again hO hT hbst r1
    have hw0 : Upd (fun b => (∃ k, okP G.L 64 k /\ b = G.B k) \/ b = qb \/ b = wb) hz h2 := u1'.trans (u2.mono fun _ _ z => z.elim)
    have uu : Upd (fun _ => False) h h2 := X.u.over hw0 fun b hb => by
      rcases hb with ⟨j, hj, e⟩ | e | e
      · exact e ▸ (X.bl j hj).1
      · exact e ▸ X.ql.1
      · exact e ▸ X.wl.1
    have big : ∀ b o v, T <= b -> hcell hz ⟨b, o, none⟩ = some v -> hcell h2 ⟨b, o, none⟩ = some v := fun b o v hb hc' => hw0.hcell hc' fun z => by
      rcases z with ⟨j, hj, e⟩ | e | e
      · have h2 := hbT j hj
        have e' : b = G.B j := e
        omega
      · have h2 : qb < T := X.ql.2.1
        have e' : b = qb := e
        omega
      · have h2 : wb < T := X.wl.2.1
        have e' : b = wb := e
        omega
    replace hN := u2.hcell hN fun z => z
    replace hU := u2.hcell hU fun z => z
    replace hV := u2.hcell hV fun z => z
    replace hW := u2.hcell hW fun z => z
    replace qc := u2.get qc fun z => z
    replace wc := u2.get wc fun z => z
    replace sO := sO.upd u2 fun _ _ z => z
    have ep : ∀ w, w < n -> y.po (w + 1) = [] := fun w hw => by rw [hpo _ (by omega)]; exact X.pe w hw
    have eq' : ∀ w, w < q -> y.pu (n + 1 + w) = [] := fun w hw => by rw [hpu]; exact X.qe w hw
    have pm := pri_perm (n := n) (q := q) qt.J (by rw [hc]; exact hcn) (by rw [hc]; exact hcq) hf ep eq' (by rw [hpu]; exact X.ml.1)
    have nd : ∀ w, w < n -> (y.pu (w + 1)).Nodup := fun w hw => by rw [hpu]; exact X.nd w hw
    have rg : ∀ w, w < n -> ∀ z, z ∈ y.pu (w + 1) -> 1000 * (w : Int) <= z /\ z < 1000 * (w : Int) + e := fun w hw => by rw [hpu]; exact X.rg w hw
    obtain ⟨pu, epu⟩ : ∃ pu : Nat -> List Int, pu = fun w => y.pu (w + 1) := ⟨_, rfl⟩
    obtain ⟨po, epo⟩ : ∃ po : Nat -> List Int, po = fun w => y.po (n + (w + 1)) := ⟨_, rfl⟩
    rw [<- epu, <- epo] at pm
    replace nd : ∀ w, w < n -> (pu w).Nodup := fun w hw => by rw [epu]; exact nd w hw
    replace rg : ∀ w, w < n -> ∀ z, z ∈ pu w -> 1000 * (w : Int) <= z /\ z < 1000 * (w : Int) + e := fun w hw z hz => rg w hw z (by rw [epu] at hz; exact hz)
    have F1 : Fin1 n vU pb y₀.sp pu h2 := by
      refine ⟨hU, fun w hw => ?_⟩
      obtain ⟨x1, x2⟩ := X.pb w hw
      rw [epu, hpu]
      refine ⟨hw0.hcell x1 fun z => ?_, x2.mono (Nat.zero_le _) big⟩
      rcases z with ⟨j, hj, e⟩ | e | e
      · exact (X.bl j hj).2.2.1 e.symm
      · exact X.ql.2.2.1 e.symm
      · exact X.wl.2.2.1 e.symm
    have F2 : Fin1 (q + 1) vL qb (u1 y₀.sq q sl) po h2 := by
      refine ⟨hV, fun w hw => ⟨hcell_of qc (range_get hw), ?_⟩⟩
      rw [epo]
      by_cases e : w = q
      · subst e
        rw [u1_same]
        exact rd_of sO fun b _ => Nat.zero_le _
      · rw [u1_ne e]
        show Rd 0 h2 _ (y.po (n + (w + 1)))
        rw [hpo _ (by omega)]
        have := X.qr w (by show w < q; omega)
        rw [show n + (w + 1) = n + 1 + w by omega]
        exact this.mono (Nat.zero_le _) big
    have hwc : ∀ w, w < n + q + 1 -> hcell h2 ⟨wb, w, none⟩ = some (.bool false) := fun w hw => hcell_of wc (by rw [Array.getElem?_replicate, if_pos hw])
    have m9 : e <= 1000 := by omega
    clear qc wc sO sb hpo hpu hf ep eq' big hw0 u1' nown hP hC hcB' hcL' own64 hbT hcn hcq hcL hcB hcK X qt
    clear epu epo
    generalize u1 y₀.sq q sl = sqf at F2
    generalize y₀.sp = spf at F1
    (repeat (first | refine ER.mul (kd := .i64) rfl rfl rfl rfl (i64_in (by omega) (by omega)) ?_ | refine ER.load1 rfl rfl rfl (by assumption) ?_))
    refine ER.makeSliceD (m := 1000 * n) rfl rfl rfl rfl (by omega) (by omega) rfl ?_
    (repeat (first | refine EK.seq ?_ | refine EK.region ?_ | refine ER.done ?_ | refine EK.block ?_ | refine ER.assign rfl rfl rfl ?_))
    have htb : (Array.push h2 (Obj.cells (List.replicate (1000 * n) (Value.int .i64 0)).toArray 3))[h2.size]? = some (tcells (1000 * n) fun _ => 0) := by
      rw [get_push_new]
      unfold tcells
      rw [List.map_const', List.length_range]
    have uT : Upd (fun b => b = h2.size) h2 (Array.push h2 (Obj.cells (List.replicate (1000 * n) (Value.int .i64 0)).toArray 3)) := Upd.push _ _
    generalize Array.push h2 (Obj.cells (List.replicate (1000 * n) (Value.int .i64 0)).toArray 3) = h3 at htb uT ⊢
    generalize htbd : h2.size = tb at htb uT ⊢
    have hFT : ∀ b, b = tb -> h2.size <= b := fun b e => by omega
    have uuT : ∀ h', Upd (fun b => b = tb) h2 h' -> Upd (fun _ => False) h h' := fun h' u => uu.over u fun b e => by have := uu.size; omega
    have hn0 : ∀ {h' : Hp} {b o : Nat} {x : Value}, Upd (fun b => b = tb) h2 h' -> hcell h2 ⟨b, o, none⟩ = some x -> hcell h' ⟨b, o, none⟩ = some x := fun {h' b o x} u hc => u.hcell hc fun z => by
      obtain ⟨_, _, _, h1, _⟩ := hcell_some hc
      have h2 : b < h2.size := lt_of_get h1
      have h3 : b = tb := z
      omega
    refine EK.loopInv (fun z : Nat × (Nat -> Int) => [(25, .int .i64 z.1), (24, .int .i64 ((upL pu z.1 0).length : Nat)), (23, .slice (some ⟨tb, 0, none⟩) (1000 * n) (1000 * n)), (10, .pointer (some ⟨vN, 0, none⟩)), (11, .int .i64 q), (16, .pointer (some ⟨vU, 0, none⟩)), (17, .pointer (some ⟨vL, 0, none⟩)), (18, .pointer (some ⟨vW, 0, none⟩))])
      (fun z h' δ' => δ' = ⟨0, γz⟩ /\ z.1 <= n /\ Upd (fun b => b = tb) h2 h' /\ h'[tb]? = some (tcells (1000 * n) z.2) /\ TIn z.2 (upL pu z.1 0) /\ (upL pu z.1 0).Nodup) (fun z => n - z.1) (0, fun _ => 0) ⟨rfl, rfl, rfl, rfl, rfl, rfl, rfl, rfl, trivial⟩ ⟨rfl, Nat.zero_le _, uT, htb, fun j => by simp [upL], by simp [upL]⟩ ?_
    clear htb uT h3
    rintro ⟨i, Tf⟩ h3 δ2 ⟨rfl, hi, uT, ht, ti, tn⟩ again
    dsimp only at hi ht ti tn again ⊢
    have hN' := hn0 uT hN
    rcases Nat.lt_or_ge i n with hlt | hge
    · (repeat (first | refine EK.seq ?_ | refine EK.region ?_ | refine ER.done ?_ | refine EK.skip ?_ | refine EK.block ?_ | refine ER.move rfl rfl rfl ?_ | refine ER.assign rfl rfl rfl ?_ | refine ER.cmpT rfl rfl rfl rfl rfl (by first | (dsimp only [cmpP]; omega) | exact rfl | exact Int.le_refl _) ?_ | refine EK.condT rfl ?_ | refine ER.load1 rfl rfl rfl (by assumption) ?_))
      refine EK.loopInv (fun z : Nat × (Nat -> Int) => [(26, .int .i64 z.1), (24, .int .i64 ((upL pu i z.1).length : Nat)), (25, .int .i64 i), (23, .slice (some ⟨tb, 0, none⟩) (1000 * n) (1000 * n)), (10, .pointer (some ⟨vN, 0, none⟩)), (11, .int .i64 q), (16, .pointer (some ⟨vU, 0, none⟩)), (17, .pointer (some ⟨vL, 0, none⟩)), (18, .pointer (some ⟨vW, 0, none⟩))])
        (fun z h' δ' => δ' = ⟨0, γz⟩ /\ z.1 <= (pu i).length /\ Upd (fun b => b = tb) h2 h' /\ h'[tb]? = some (tcells (1000 * n) z.2) /\ TIn z.2 (upL pu i z.1) /\ (upL pu i z.1).Nodup) (fun z => (pu i).length - z.1) (0, Tf) ⟨rfl, rfl, rfl, rfl, rfl, rfl, rfl, rfl, rfl, trivial⟩ ⟨rfl, Nat.zero_le _, uT, ht, ti, tn⟩ ?_
      clear uT ht ti tn h3 hN'
      rintro ⟨k, Tf⟩ h3 δ2 ⟨rfl, hk, uT, ht, ti, tn⟩ again2
      dsimp only at hk ht ti tn again2 ⊢
      have F' := F1.upd uT hFT
      have hP := F'.P
      obtain ⟨a, cap, ea, ga⟩ := (F'.p i hlt).2.val
      have hp := (F'.p i hlt).1
      rw [ea] at hp
      have hp' : hcell h3 ⟨pb, 0 + ((i : Nat) : Int).toNat * 1, none⟩ = some (.slice a (pu i).length cap) := by rw [show 0 + ((i : Nat) : Int).toNat * 1 = i by simp]; exact hp
      rcases Nat.lt_or_ge k (pu i).length with klt | kge
      · obtain ⟨b, eb, hb⟩ := ga k klt
        subst eb
        have hb' : hcell h3 ⟨b, 0 + ((k : Nat) : Int).toNat * 1, none⟩ = some (.int .i64 ((pu i).getD k 0)) := by rw [show 0 + ((k : Nat) : Int).toNat * 1 = k by simp]; exact hb
        obtain ⟨vm, vn⟩ := up_new m9 nd rg hlt klt
        have vr := rg i hlt _ vm
        have hll := nodup_len (1000 * n) 0 (upL pu i k) tn fun z hz => up_bound m9 rg hlt hz
        have es := upL_succ (f := pu) klt
        have hlp := nodup_len e (1000 * (i : Int)) (pu i) (nd i hlt) (rg i hlt)
        have tn' : (upL pu i (k + 1)).Nodup := by
          rw [es]
          refine List.nodup_append.2 ⟨tn, by simp, fun x hx y hy e => vn ?_⟩
          have hy' : y = (pu i).getD k 0 := by simpa using hy
          rw [<- hy', <- e]
          exact hx
        generalize (pu i).getD k 0 = v at hb' hb vm vn vr es
        obtain ⟨tz, ti'⟩ := ti.add (v := v) (by omega) vn
        rw [<- es] at ti'
        have hc := tcells_get (j := v.toNat) ht (by omega)
        rw [tz] at hc
        have hc' : hcell h3 ⟨tb, 0 + v.toNat * 1, none⟩ = some (.int .i64 0) := by rw [show 0 + v.toNat * 1 = v.toNat by omega]; exact hc
        have vv1 : v < ((1000 * n : Nat) : Int) := by omega
        have vv0 : 0 <= v := by omega
        (repeat (first | refine EK.seq ?_ | refine EK.region ?_ | refine ER.done ?_ | refine EK.skip ?_ | refine EK.block ?_ | refine ER.move rfl rfl rfl ?_ | refine ER.cmpT rfl rfl rfl rfl rfl (by first | (dsimp only [cmpP]; omega) | exact rfl | exact Int.le_refl _) ?_ | refine ER.add (kd := .i64) rfl rfl rfl rfl (i64_in (by omega) (by omega)) ?_ | refine ER.len1 rfl rfl rfl ?_ | refine ER.indexSl rfl rfl rfl rfl (by omega) (by omega) ?_ | refine EK.condT rfl ?_ | refine ER.load1 rfl rfl rfl (by assumption) ?_))
        refine ER.store1 rfl rfl rfl (by simp [OneCell]) ⟨_, hc'⟩ (hfroz_of (by unfold tcells at ht; exact ht)) (hsl _) ?_
        rw [show 0 + v.toNat * 1 = v.toNat by omega, show (0 : Int) + 1 = 1 by rfl]
        have ht' := tcells_set (j := v.toNat) (v := 1) ht
        have u' : Upd (fun b => b = tb) h3 (hset h3 ⟨tb, v.toNat, none⟩ (.int .i64 1)) := Upd.hset _ _ _ rfl
        (repeat (first | refine EK.region ?_ | refine ER.done ?_ | refine EK.inBlock ?_ | refine ER.move rfl rfl rfl ?_ | refine ER.assign rfl rfl rfl ?_ | refine ER.add (kd := .i64) rfl rfl rfl rfl (i64_in (by omega) (by omega)) ?_))
        refine EK.back (again2 (k + 1, u1 Tf v.toNat 1) _ _ (by dsimp only; omega) ⟨rfl, klt, uT.trans u', ht', ti', tn'⟩) ⟨rfl, ?_, rfl, rfl, rfl, rfl, rfl, rfl, rfl, trivial⟩
        show some (Value.int .i64 (((upL pu i k).length : Int) + 1)) = some (Value.int .i64 ((upL pu i (k + 1)).length : Nat))
        rw [es, List.length_append]
        rfl
      · obtain rfl : k = (pu i).length := by omega
        rw [upL_end] at ti tn
        (repeat (first | refine EK.seq ?_ | refine EK.region ?_ | refine ER.done ?_ | refine EK.inBlock ?_ | refine ER.move rfl rfl rfl ?_ | refine ER.assign rfl rfl rfl ?_ | refine ER.cmpF rfl rfl rfl rfl rfl (by first | (dsimp only [cmpP]; omega) | exact rfl | exact Int.le_refl _) ?_ | refine ER.add (kd := .i64) rfl rfl rfl rfl (i64_in (by omega) (by omega)) ?_ | refine ER.len1 rfl rfl rfl ?_ | refine ER.indexSl rfl rfl rfl rfl (by omega) (by omega) ?_ | refine EK.condF rfl ?_ | refine EK.exit rfl ?_ | refine ER.load1 rfl rfl rfl (by assumption) ?_))
        refine EK.back (again (i + 1, Tf) _ _ (by dsimp only; omega) ⟨rfl, hlt, uT, ht, ti, tn⟩) ⟨rfl, ?_, rfl, rfl, rfl, rfl, rfl, rfl, trivial⟩
        show some (Value.int .i64 ((upL pu i (pu i).length).length : Nat)) = some (Value.int .i64 ((upL pu (i + 1) 0).length : Nat))
        rw [upL_end]
    · obtain rfl : i = n := by omega
      clear again hi hge
      rw [upL_zero] at ti tn
      replace pm : ((List.range i).flatMap pu).Perm (dnL po q 0 0) := by rw [dnL_zero]; exact pm
      have bnd : ∀ z, z ∈ (List.range i).flatMap pu -> 0 <= z /\ z < ((1000 * i : Nat) : Int) := fun z hz => by
        obtain ⟨w, hw, hz⟩ := List.mem_flatMap.1 hz
        have := List.mem_range.1 hw
        have := rg w this z hz
        omega
      have e18 : (upL pu i 0).length = (rtL po q 0).length := by rw [upL_zero, rtL_dn (Nat.zero_le _)]; exact pm.length_eq
      rw [e18]
      (repeat (first | refine EK.seq ?_ | refine EK.region ?_ | refine ER.done ?_ | refine EK.block ?_ | refine ER.move rfl rfl rfl ?_ | refine ER.assign rfl rfl rfl ?_ | refine ER.cmpF rfl rfl rfl rfl rfl (by first | (dsimp only [cmpP]; omega) | exact rfl | exact Int.le_refl _) ?_ | refine EK.condF rfl ?_ | refine EK.exit rfl ?_ | refine ER.load1 rfl rfl rfl (by assumption) ?_))
      refine EK.loopInv (fun z : Nat × (Nat -> Int) => [(27, .int .i64 z.1), (24, .int .i64 ((rtL po q z.1).length : Nat)), (23, .slice (some ⟨tb, 0, none⟩) (1000 * i) (1000 * i)), (11, .int .i64 q), (17, .pointer (some ⟨vL, 0, none⟩)), (18, .pointer (some ⟨vW, 0, none⟩))])
        (fun z h' δ' => δ' = ⟨0, γz⟩ /\ z.1 <= q + 1 /\ Upd (fun b => b = tb) h2 h' /\ h'[tb]? = some (tcells (1000 * i) z.2) /\ TIn z.2 (rtL po q z.1) /\ (rtL po q z.1).Nodup /\ ∀ x, x ∈ rtL po q z.1 -> 0 <= x /\ x < ((1000 * i : Nat) : Int)) (fun z => q + 1 - z.1) (0, Tf) ⟨rfl, rfl, rfl, rfl, rfl, rfl, trivial⟩ ⟨rfl, Nat.zero_le _, uT, ht, ?_, ?_, ?_⟩ ?_
      · rw [rtL_dn (Nat.zero_le _)]
        exact ti.perm pm
      · rw [rtL_dn (Nat.zero_le _)]
        exact pm.nodup_iff.1 tn
      · rw [rtL_dn (Nat.zero_le _)]
        exact fun z hz => bnd z (pm.mem_iff.2 hz)
      clear uT ht ti tn h3 bnd e18 hN'
      rintro ⟨j, Tf⟩ h3 δ2 ⟨rfl, hj, uT, ht, ti, tn, bnd⟩ again
      dsimp only at hj ht ti tn bnd again ⊢
      rcases Nat.lt_or_ge j (q + 1) with hlt | hge
      · have hji : j <= q := by omega
        rw [rtL_dn hji] at ti tn bnd
        have e18 : (rtL po q j).length = (dnL po q j 0).length := by rw [rtL_dn hji]
        rw [e18]
        (repeat (first | refine EK.seq ?_ | refine EK.region ?_ | refine ER.done ?_ | refine EK.skip ?_ | refine EK.block ?_ | refine ER.move rfl rfl rfl ?_ | refine ER.assign rfl rfl rfl ?_ | refine ER.cmpT rfl rfl rfl rfl rfl (by first | (dsimp only [cmpP]; omega) | exact rfl | exact Int.le_refl _) ?_ | refine EK.condT rfl ?_))
        refine EK.loopInv (fun z : Nat × (Nat -> Int) => [(28, .int .i64 z.1), (24, .int .i64 ((dnL po q j z.1).length : Nat)), (27, .int .i64 j), (23, .slice (some ⟨tb, 0, none⟩) (1000 * i) (1000 * i)), (11, .int .i64 q), (17, .pointer (some ⟨vL, 0, none⟩)), (18, .pointer (some ⟨vW, 0, none⟩))])
          (fun z h' δ' => δ' = ⟨0, γz⟩ /\ z.1 <= (po j).length /\ Upd (fun b => b = tb) h2 h' /\ h'[tb]? = some (tcells (1000 * i) z.2) /\ TIn z.2 (dnL po q j z.1) /\ (dnL po q j z.1).Nodup /\ ∀ x, x ∈ dnL po q j z.1 -> 0 <= x /\ x < ((1000 * i : Nat) : Int)) (fun z => (po j).length - z.1) (0, Tf) ⟨rfl, rfl, rfl, rfl, rfl, rfl, rfl, trivial⟩ ⟨rfl, Nat.zero_le _, uT, ht, ti, tn, bnd⟩ ?_
        have hlq : (po j).length <= 1000 * i := by
          have := nodup_len (1000 * i) 0 (dnL po q j 0) tn fun z hz => by have := bnd z hz; omega
          unfold dnL at this
          rw [List.length_append, List.drop_zero] at this
          omega
        clear uT ht ti tn h3 bnd e18
        rintro ⟨k, Tf⟩ h3 δ2 ⟨rfl, hk, uT, ht, ti, tn, bnd⟩ again2
        dsimp only at hk ht ti tn bnd again2 ⊢
        have F' := F2.upd uT hFT
        have hQ := F'.P
        obtain ⟨a, cap, ea, ga⟩ := (F'.p j hlt).2.val
        have hp := (F'.p j hlt).1
        rw [ea] at hp
        have hp' : hcell h3 ⟨qb, 0 + ((j : Nat) : Int).toNat * 1, none⟩ = some (.slice a (po j).length cap) := by rw [show 0 + ((j : Nat) : Int).toNat * 1 = j by simp]; exact hp
        rcases Nat.lt_or_ge k (po j).length with klt | kge
        · obtain ⟨b, eb, hb⟩ := ga k klt
          subst eb
          have hb' : hcell h3 ⟨b, 0 + ((k : Nat) : Int).toNat * 1, none⟩ = some (.int .i64 ((po j).getD k 0)) := by rw [show 0 + ((k : Nat) : Int).toNat * 1 = k by simp]; exact hb
          have es := dnL_succ (f := po) (n := q) (i := j) klt
          have hll := nodup_len (1000 * i) 0 (dnL po q j k) tn fun z hz => by have := bnd z hz; omega
          rw [es] at ti tn bnd
          generalize (po j).getD k 0 = v at hb' hb es ti tn bnd
          have vr := bnd v (by simp)
          have vn := (List.nodup_cons.1 tn).1
          obtain ⟨tz, ti'⟩ := ti.take (by omega) vn
          have hc := tcells_get (j := v.toNat) ht (by omega)
          rw [tz] at hc
          have hc' : hcell h3 ⟨tb, 0 + v.toNat * 1, none⟩ = some (.int .i64 1) := by rw [show 0 + v.toNat * 1 = v.toNat by omega]; exact hc
          obtain ⟨vv0, vv1⟩ := vr
          have hl1 : (dnL po q j k).length = (dnL po q j (k + 1)).length + 1 := by rw [es]; rfl
          (repeat (first | refine EK.seq ?_ | refine EK.region ?_ | refine ER.done ?_ | refine EK.skip ?_ | refine EK.block ?_ | refine ER.move rfl rfl rfl ?_ | refine ER.assign rfl rfl rfl ?_ | refine ER.pickF rfl rfl rfl rfl ?_ | refine ER.cmpT rfl rfl rfl rfl rfl (by first | (dsimp only [cmpP]; omega) | exact rfl | exact Int.le_refl _) ?_ | refine ER.cmpF rfl rfl rfl rfl rfl (by first | (dsimp only [cmpP]; omega) | exact rfl | exact Int.le_refl _) ?_ | refine ER.len1 rfl rfl rfl ?_ | refine ER.indexSl rfl rfl rfl rfl (by omega) (by omega) ?_ | refine EK.condT rfl ?_ | refine EK.condF rfl ?_ | refine ER.load1 rfl rfl rfl (by assumption) ?_))
          refine ER.store1 rfl rfl rfl (by simp [OneCell]) ⟨_, hc'⟩ (hfroz_of (by unfold tcells at ht; exact ht)) (hsl _) ?_
          rw [show 0 + v.toNat * 1 = v.toNat by omega]
          have ht' := tcells_set (j := v.toNat) (v := 0) ht
          have u' : Upd (fun b => b = tb) h3 (hset h3 ⟨tb, v.toNat, none⟩ (.int .i64 0)) := Upd.hset _ _ _ rfl
          (repeat (first | refine EK.region ?_ | refine ER.done ?_ | refine EK.inBlock ?_ | refine ER.move rfl rfl rfl ?_ | refine ER.assign rfl rfl rfl ?_ | refine ER.add (kd := .i64) rfl rfl rfl rfl (i64_in (by omega) (by omega)) ?_ | refine ER.sub' (kd := .i64) rfl rfl rfl rfl (i64_in (by omega) (by omega)) ?_))
          refine EK.back (again2 (k + 1, u1 Tf v.toNat 0) _ _ (by dsimp only; omega) ⟨rfl, klt, uT.trans u', ht', ti', (List.nodup_cons.1 tn).2, fun z hz => bnd z (List.mem_cons_of_mem _ hz)⟩) ⟨rfl, ?_, rfl, rfl, rfl, rfl, rfl, trivial⟩
          show some (Value.int .i64 (((dnL po q j k).length : Int) - 1)) = some (Value.int .i64 ((dnL po q j (k + 1)).length : Nat))
          rw [hl1]
          congr 2
          omega
        · obtain rfl : k = (po j).length := by omega
          rw [rtL_end hji] at ti tn bnd
          (repeat (first | refine EK.seq ?_ | refine EK.region ?_ | refine ER.done ?_ | refine EK.inBlock ?_ | refine ER.move rfl rfl rfl ?_ | refine ER.assign rfl rfl rfl ?_ | refine ER.cmpF rfl rfl rfl rfl rfl (by first | (dsimp only [cmpP]; omega) | exact rfl | exact Int.le_refl _) ?_ | refine ER.add (kd := .i64) rfl rfl rfl rfl (i64_in (by omega) (by omega)) ?_ | refine ER.len1 rfl rfl rfl ?_ | refine ER.indexSl rfl rfl rfl rfl (by omega) (by omega) ?_ | refine EK.condF rfl ?_ | refine EK.exit rfl ?_ | refine ER.load1 rfl rfl rfl (by assumption) ?_))
          refine EK.back (again (j + 1, Tf) _ _ (by dsimp only; omega) ⟨rfl, by dsimp only; omega, uT, ht, ti, tn, bnd⟩) ⟨rfl, ?_, rfl, rfl, rfl, rfl, trivial⟩
          show some (Value.int .i64 ((dnL po q j (po j).length).length : Nat)) = some (Value.int .i64 ((rtL po q (j + 1)).length : Nat))
          rw [rtL_end hji]
      · obtain rfl : j = q + 1 := by omega
        clear again
        have e18 : (rtL po q (q + 1)).length = 0 := by rw [rtL_last]; rfl
        rw [e18]
        (repeat (first | refine EK.seq ?_ | refine EK.region ?_ | refine ER.done ?_ | refine EK.block ?_ | refine ER.move rfl rfl rfl ?_ | refine ER.assign rfl rfl rfl ?_ | refine ER.cmpF rfl rfl rfl rfl rfl (by first | (dsimp only [cmpP]; omega) | exact rfl | exact Int.le_refl _) ?_ | refine EK.condF rfl ?_ | refine EK.exit rfl ?_))
        refine EK.loopInv (fun z : Nat => [(30, .int .i64 z), (24, .int .i64 0), (18, .pointer (some ⟨vW, 0, none⟩))])
          (fun z h' δ' => δ' = ⟨0, γz⟩ /\ h' = h3 /\ z <= i + q + 1) (fun z => i + q + 1 - z) 0 ⟨rfl, rfl, rfl, trivial⟩ ⟨rfl, rfl, Nat.zero_le _⟩ ?_
        rintro x h4 δ2 ⟨rfl, e4, hx⟩ again
        obtain rfl : h3 = h4 := e4.symm
        have hW' := hn0 uT hW
        rcases Nat.lt_or_ge x (i + q + 1) with hxl | hxg
        · have hc' : hcell h3 ⟨wb, 0 + ((x : Nat) : Int).toNat * 1, none⟩ = some (.bool false) := by rw [show 0 + ((x : Nat) : Int).toNat * 1 = x by simp]; exact hn0 uT (hwc x hxl)
          (repeat (first | refine EK.seq ?_ | refine EK.region ?_ | refine ER.done ?_ | refine EK.skip ?_ | refine EK.block ?_ | refine EK.inBlock ?_ | refine ER.move rfl rfl rfl ?_ | refine ER.assign rfl rfl rfl ?_ | refine ER.cmpT rfl rfl rfl rfl rfl (by first | (dsimp only [cmpP]; omega) | exact rfl | exact Int.le_refl _) ?_ | refine ER.add (kd := .i64) rfl rfl rfl rfl (i64_in (by omega) (by omega)) ?_ | refine ER.len1 rfl rfl rfl ?_ | refine ER.indexSl rfl rfl rfl rfl (by omega) (by omega) ?_ | refine EK.condT rfl ?_ | refine EK.condF rfl ?_ | refine ER.load1 rfl rfl rfl (by assumption) ?_))
          exact EK.back (again (x + 1) _ _ (by omega) ⟨rfl, rfl, hxl⟩) ⟨rfl, rfl, rfl, trivial⟩
        · obtain rfl : x = i + q + 1 := by omega
          (repeat (first | refine EK.seq ?_ | refine EK.region ?_ | refine ER.done ?_ | refine ER.move rfl rfl rfl ?_ | refine ER.assign rfl rfl rfl ?_ | refine ER.cmpT rfl rfl rfl rfl rfl (by first | (dsimp only [cmpP]; omega) | exact rfl | exact Int.le_refl _) ?_ | refine ER.cmpF rfl rfl rfl rfl rfl (by first | (dsimp only [cmpP]; omega) | exact rfl | exact Int.le_refl _) ?_ | refine ER.len1 rfl rfl rfl ?_ | refine EK.condF rfl ?_ | refine EK.ret ?_ | refine EK.exit rfl ?_ | refine ER.load1 rfl rfl rfl (by assumption) ?_))
          exact EU.ret1 rfl rfl ⟨rfl, rfl, uuT _ uT, .inl hjn⟩
  | some b =>
    obtain ⟨hb8, hbt⟩ := bst_lt hbst
    obtain ⟨hbL, hbv⟩ := hdF_fst.1 hbt
    rw [gm] at hbv
    have hbv' : y.v (y.c.B (kTurn b (y.O b % 64))) = (y.O b : Int) + 1 := by rw [hcB']; exact hbv
    have hW' : y.c.W = n + q := by rw [hc]; show c.n + c.q = n + q; rw [hcn, hcq]
    have hb2 : 2 <= y.bd (y.c.W + 1) := by rw [hW']; omega
    obtain ⟨o1, o2, o3, o4, o5, o6, o7, o8⟩ := qt.out (by rw [hcL']; exact hbL) hbv' hb2
    have hcnt : k < G.L * 64 := by omega
    (repeat (first | refine EK.seq ?_ | refine EK.region ?_ | refine ER.done ?_ | refine EK.skip ?_ | refine EK.block ?_ | refine ER.move rfl rfl rfl ?_ | refine ER.cmpT rfl rfl rfl rfl rfl (by first | (dsimp only [cmpP]; omega) | exact rfl | exact Int.le_refl _) ?_ | refine ER.mul (kd := .i64) rfl rfl rfl rfl (i64_in (by omega) (by omega)) ?_ | refine EK.condT rfl ?_ | refine ER.load1 rfl rfl rfl (by assumption) ?_))
    refine ER.callR rfl rfl rfl rfl rfl (lft (take_ok (b := b) (e := 6) r1 (by rw [gm]) (by decide) L1 L8 hO hT (fun _ _ _ z => z) (fun _ _ _ z => z) hbst)) ?_
    rintro _ h2 δ2 ⟨rfl, rfl, r2, u2⟩
    rw [gm] at r2 ⊢
    obtain ⟨z, hz'⟩ : ∃ z, y.v (G.B (kSlot b (y.O b % 64))) = z := ⟨_, rfl⟩
    rw [hz']
    rw [hcB', hz'] at o4 o7
    rw [hcL'] at o7
    rw [hW'] at o4 o5
    obtain ⟨z0, zg⟩ := o7
    have r2' : Pri h2 G (fun k => (outY y b).v (G.B k)) := by
      have : (fun k => (outY y b).v (G.B k)) = takeV 64 (fun k => y.v (G.B k)) b (y.O b) := funext fun k' => by
        have := o8 k'
        rw [hcB'] at this
        exact this
      rw [this]
      exact r2
    have elen : ((outY y b).po (n + q + 1)) = y.po (n + q + 1) ++ [z] := by rw [o4, u1_same]
    have no : ∀ {b' : Nat} {v : Key -> Int}, (∀ j, okP G.L 64 j -> G.B j ≠ b') -> ¬ (priM G v).Own b' := fun {b' v} hne o => by
      obtain ⟨j, hj, e⟩ := own64 o
      exact hne j hj e.symm
    have sob : ∀ b', blk sl = some b' -> ¬ (priM G fun k => y.v (G.B k)).Own b' := fun b' hb' => no fun j hj e => by
      have h1 := sb b' hb'
      have h2 := hbT j hj
      have h3 : T <= hz.size := X.hT
      omega
    have sne : ∀ b', b' < T -> ¬ blk sl = some b' := fun b' hlt hb' => by
      have h1 := sb _ hb'
      have h3 : T <= hz.size := X.hT
      omega
    have sne2 : ∀ {b' o : Nat} {v : Value}, hcell hz ⟨b', o, none⟩ = some v -> ¬ blk sl = some b' := fun {b' o v} hc' hb' => by
      have h1 := sb _ hb'
      obtain ⟨_, _, _, h2, _⟩ := hcell_some hc'
      have h3 : b' < hz.size := lt_of_get h2
      omega
    replace qc := u2.get qc (no fun j hj => (X.bl j hj).2.2.2.1)
    replace wc := u2.get wc (no fun j hj => (X.bl j hj).2.2.2.2.1)
    replace hV := u2.hcell hV (no fun j hj => (X.bl j hj).2.2.2.2.2.2.2.2.2.1)
    replace hW := u2.hcell hW (no fun j hj => (X.bl j hj).2.2.2.2.2.2.2.2.2.2)
    replace hN := u2.hcell hN (no fun j hj => (X.bl j hj).2.2.2.2.2.1)
    replace hC := u2.hcell hC (no fun j hj => (X.bl j hj).2.2.2.2.2.2.2.1)
    replace sO := sO.upd u2 sob
    have qcell : ∀ {hh : Hp}, hh[qb]? = some (.cells ((List.range (q + 1)).map (u1 y₀.sq q sl)).toArray 31 (0, 0)) -> hcell hh ⟨qb, 0 + ((q : Nat) : Int).toNat * 1, none⟩ = some sl := fun hq => by
      rw [show 0 + ((q : Nat) : Int).toNat * 1 = q by simp]
      exact hcell_of hq ((range_get (Nat.lt_succ_self q)).trans (congrArg some u1_same))
    have hlg : (y.po (n + q + 1)).length <= 1000 := by omega
    clear hP hU r2 o8 hbv hbv' hbt hbst hO hT
    (repeat (first | refine EK.seq ?_ | refine EK.region ?_ | refine ER.done ?_ | refine EK.skip ?_ | refine ER.move rfl rfl rfl ?_ | refine ER.assign rfl rfl rfl ?_ | refine ER.notB rfl rfl rfl ?_ | refine ER.extract rfl rfl rfl rfl ?_ | refine EK.condF rfl ?_))
    refine EK.regionAnyL (fun h' => hcell h' ⟨vL, 0, none⟩ = some (.slice (some ⟨qb, 0, none⟩) (q + 1) (q + 1)) /\ hcell h' ⟨qb, 0 + ((q : Nat) : Int).toNat * 1, none⟩ = some sl) 10 ?_
    have hZ := And.intro hV (qcell qc)
    refine EA.tLoad 0 rfl (by kernel_rfl) rfl rfl rfl rfl (fun _ hz => hz.1) hZ ?_
    refine EA.tMove 1 rfl (by kernel_rfl) rfl rfl rfl rfl hZ ?_
    refine EA.tLoad 2 rfl (by kernel_rfl) rfl rfl rfl rfl (fun _ hz => hz.1) hZ ?_
    refine EA.tMove 3 rfl (by kernel_rfl) rfl rfl rfl rfl hZ ?_
    refine EA.tIdxS 4 rfl (by kernel_rfl) rfl rfl rfl rfl rfl (by omega) (by omega) hZ ?_
    refine EA.tLoad 5 rfl (by kernel_rfl) rfl rfl rfl rfl (fun _ hz => hz.2) hZ ?_
    refine EA.tMove 6 rfl (by kernel_rfl) rfl rfl rfl rfl hZ ?_
    refine EA.val (v := .slice (some ⟨h2.size, 0, none⟩) 1 1) (h' := h2.push (.cells #[.int .i64 z] 2)) 7 rfl (by kernel_rfl) rfl rfl rfl (fun ρ Q X hρ hq => sem_slice1 (sz := 1) hρ rfl (by omega) (by omega) rfl rfl hq) ⟨hcell_push hZ.1, hcell_push hZ.2⟩ ?_
    refine EA.append1 (new := [intv z]) 8 rfl (by kernel_rfl) rfl rfl rfl rfl rfl (sO.upd (Upd.push (T := fun _ => False) h2 _) (fun _ _ x => x)) (get_push_new _ _) rfl (by simp [OneCell, intv]) (by omega) (by omega) rfl (fun b o hb => hsl _) ?_
    intro s' h5 sl5 u5 hb5
    have up : Upd (fun _ => False) h2 (h2.push (.cells #[.int .i64 z] 2)) := Upd.push _ _
    have qc5 := u5.get (up.get qc fun z => z) (sne _ X.ql.2.1)
    have wc5 := u5.get (up.get wc fun z => z) (sne _ X.wl.2.1)
    have hV5 := u5.hcell (up.hcell hV fun z => z) (sne2 X.V)
    have hW5 := u5.hcell (up.hcell hW fun z => z) (sne2 X.W)
    have hN5 := u5.hcell (up.hcell hN fun z => z) (sne2 X.N)
    have hC5 := u5.hcell (up.hcell hC fun z => z) (sne2 X.C)
    have hZ : hcell h5 ⟨vL, 0, none⟩ = some (.slice (some ⟨qb, 0, none⟩) (q + 1) (q + 1)) /\ hcell h5 ⟨qb, 0 + ((q : Nat) : Int).toNat * 1, none⟩ = some sl := ⟨hV5, qcell qc5⟩
    obtain ⟨a5, k5, rfl⟩ := sl5.val
    refine ⟨hZ, ?_⟩
    refine EA.tIdxS 9 rfl (by kernel_rfl) rfl rfl rfl rfl rfl (by omega) (by omega) hZ ?_
    refine EA.unitL (h' := hset h5 ⟨qb, 0 + ((q : Nat) : Int).toNat * 1, none⟩ (.slice a5 ((y.po (n + q + 1)).length + 1) k5)) 10 rfl (by kernel_rfl) rfl rfl rfl (fun ρ Q X hρ hq => sem_store1 (hρ _ _ rfl) (hρ _ _ rfl) (by simp [OneCell]) ⟨_, hZ.2⟩ (hfroz_of qc5) (hsl _) hq) ?_
    refine EA.done (by kernel_rfl) ?_
    rw [show 0 + ((q : Nat) : Int).toNat * 1 = q by simp]
    have qc6 : (hset h5 ⟨qb, q, none⟩ (.slice a5 ((y.po (n + q + 1)).length + 1) k5))[qb]? = some (.cells ((List.range (q + 1)).map (u1 y₀.sq q (.slice a5 ((y.po (n + q + 1)).length + 1) k5))).toArray 31 (0, 0)) := by
      rw [hset_get, if_pos rfl, qc5]
      show some (Obj.cells (((List.range (q + 1)).map (u1 y₀.sq q sl)).toArray.setIfInBounds q (.slice a5 ((y.po (n + q + 1)).length + 1) k5)) _ _) = _
      rw [<- pmap_u1]
      congr 3
      refine List.map_congr_left fun w _ => ?_
      by_cases e : w = q
      · subst e; rw [u1_same, u1_same]
      · rw [u1_ne e, u1_ne e, u1_ne e]
    have u6 : Upd (fun b => b = qb) h5 (hset h5 ⟨qb, q, none⟩ (.slice a5 ((y.po (n + q + 1)).length + 1) k5)) := Upd.hset _ _ _ rfl
    generalize hset h5 ⟨qb, q, none⟩ (.slice a5 ((y.po (n + q + 1)).length + 1) k5) = h6 at qc6 u6 ⊢
    have z12 := u1'.size
    have z2 := u2.size
    have hnew : ∀ b, blk (Value.slice a5 ((y.po (n + q + 1)).length + 1) k5) = some b -> hz.size <= b /\ b ≠ qb /\ b ≠ wb := fun b hb => by
      have h2' : qb < T := X.ql.2.1
      have h4' : wb < T := X.wl.2.1
      have h3 : T <= hz.size := X.hT
      rcases hb5 b hb with h4 | h4
      · have := sb b h4
        exact ⟨this, by omega, by omega⟩
      · rw [h4, Array.size_push]
        exact ⟨by omega, by omega, by omega⟩
    have hkz : ∀ j, okP G.L 64 j -> G.B j < hz.size := fun j hj => Nat.lt_of_lt_of_le (X.bl j hj).2.1 X.hT
    have wc6 := u6.get wc5 (fun z => X.ql.2.2.2.1 z.symm)
    have hW6 := u6.hcell hW5 (fun z => X.ql.2.2.2.2.2.2.2.2.2 z.symm)
    have hN6 := u6.hcell hN5 (fun z => X.ql.2.2.2.2.1 z.symm)
    have hC6 := u6.hcell hC5 (fun z => X.ql.2.2.2.2.2.2.1 z.symm)
    have hc6 : hcell h6 ⟨wb, 0 + ((n + q : Nat) : Int).toNat * 1, none⟩ = some (.bool false) := hcell_of wc6 (by
      rw [show 0 + ((n + q : Nat) : Int).toNat * 1 = n + q by simp; omega]
      rw [Array.getElem?_replicate, if_pos (by omega)])
    clear hV hW hN hC hV5 hW5 hN5 hC5 hZ
    skip
    refine EK.regionAnyL (fun h' => hcell h' ⟨vW, 0, none⟩ = some (.slice (some ⟨wb, 0, none⟩) (n + q + 1) (n + q + 1)) /\ hcell h' ⟨vN, 0, none⟩ = some (.int .i64 n) /\ hcell h' ⟨vC, 0, none⟩ = some (.int .i64 G.L) /\ hcell h' ⟨wb, 0 + ((n + q : Nat) : Int).toNat * 1, none⟩ = some (.bool false)) 19 ?_
    have hZ := And.intro hW6 (And.intro hN6 (And.intro hC6 hc6))
    refine EA.tLoad 0 rfl (by kernel_rfl) rfl rfl rfl rfl (fun _ hz => hz.1) hZ ?_
    refine EA.tLoad 1 rfl (by kernel_rfl) rfl rfl rfl rfl (fun _ hz => hz.2.1) hZ ?_
    refine EA.tMove 2 rfl (by kernel_rfl) rfl rfl rfl rfl hZ ?_
    refine EA.tAdd (kd := .i64) (r := ((n + q : Nat) : Int)) 3 rfl (by kernel_rfl) rfl rfl rfl rfl rfl (by rw [i64_in (by omega) (by omega)]; rfl) hZ ?_
    refine EA.tLoad 4 rfl (by kernel_rfl) rfl rfl rfl rfl (fun _ hz => hz.1) hZ ?_
    refine EA.tLoad 5 rfl (by kernel_rfl) rfl rfl rfl rfl (fun _ hz => hz.2.1) hZ ?_
    refine EA.tMove 6 rfl (by kernel_rfl) rfl rfl rfl rfl hZ ?_
    refine EA.tAdd (kd := .i64) (r := ((n + q : Nat) : Int)) 7 rfl (by kernel_rfl) rfl rfl rfl rfl rfl (by rw [i64_in (by omega) (by omega)]; rfl) hZ ?_
    refine EA.tIdxS 8 rfl (by kernel_rfl) rfl rfl rfl rfl rfl (by omega) (by omega) hZ ?_
    refine EA.tLoad 9 rfl (by kernel_rfl) rfl rfl rfl rfl (fun _ hz => hz.2.2.2) hZ ?_
    refine EA.tMove 10 rfl (by kernel_rfl) rfl rfl rfl rfl hZ ?_
    refine EA.tMove 11 rfl (by kernel_rfl) rfl rfl rfl rfl hZ ?_
    refine EA.tBinI (kd := .i64) (v := .int .i64 (z % 1000)) 12 rfl (by kernel_rfl) rfl rfl rfl rfl rfl ((Go.TJ.binOp_rem (by decide)).trans (by rw [Int.tmod_eq_emod_of_nonneg z0])) hZ ?_
    refine EA.tLoad 13 rfl (by kernel_rfl) rfl rfl rfl rfl (fun _ hz => hz.2.2.1) hZ ?_
    refine EA.tBinI (kd := .i64) (v := .int .i64 (b : Nat)) 14 rfl (by kernel_rfl) rfl rfl rfl rfl rfl ((Go.TJ.binOp_rem (by omega)).trans (by rw [Int.tmod_eq_emod_of_nonneg (by omega), zg])) hZ ?_
    refine EA.tMove 15 rfl (by kernel_rfl) rfl rfl rfl rfl hZ ?_
    refine EA.tCmpF 16 rfl (by kernel_rfl) rfl rfl rfl rfl rfl rfl (by first | (dsimp only [cmpP]; omega) | exact rfl | exact Int.le_refl _) hZ ?_
    refine EA.tPickF 17 rfl (by kernel_rfl) rfl rfl rfl rfl rfl hZ ?_
    refine EA.tIdxS 18 rfl (by kernel_rfl) rfl rfl rfl rfl rfl (by omega) (by omega) hZ ?_
    refine EA.unitL (h' := hset h6 ⟨wb, 0 + ((n + q : Nat) : Int).toNat * 1, none⟩ (.bool false)) 19 rfl (by kernel_rfl) rfl rfl rfl (fun ρ Q X hρ hq => sem_store1 (hρ _ _ rfl) (hρ _ _ rfl) (by simp [OneCell]) ⟨_, hZ.2.2.2⟩ (hfroz_of wc6) (hsl _) hq) ?_
    refine EA.done (by kernel_rfl) ?_
    rw [show 0 + ((n + q : Nat) : Int).toNat * 1 = n + q by simp; omega]
    have wc7 : (hset h6 ⟨wb, n + q, none⟩ (.bool false))[wb]? = some (.cells (Array.replicate (n + q + 1) (Value.bool false)) 4 (0, 0)) := by
      rw [hset_get, if_pos rfl, wc6]
      show some (Obj.cells ((Array.replicate (n + q + 1) (Value.bool false)).setIfInBounds (n + q) (.bool false)) _ _) = _
      rw [rep_set]
    have u7 : Upd (fun b => b = wb) h6 (hset h6 ⟨wb, n + q, none⟩ (.bool false)) := Upd.hset _ _ _ rfl
    generalize hset h6 ⟨wb, n + q, none⟩ (.bool false) = h7 at wc7 u7 ⊢
    clear hZ hW6 hN6 hC6 hc6 wc5 wc6 wc qc qc5
    (repeat (first | refine EK.region ?_ | refine ER.done ?_ | refine EK.inBlock ?_ | refine ER.move rfl rfl rfl ?_ | refine ER.assign rfl rfl rfl ?_ | refine ER.add (kd := .i64) rfl rfl rfl rfl (i64_in (by omega) (by omega)) ?_))
    refine EK.back (again (k + 1, outY y b, .slice a5 ((y.po (n + q + 1)).length + 1) k5) _ _ (by dsimp only; omega) ⟨rfl, by dsimp only; omega, ?_, ?_, o1, o2.trans hc, o3.trans hpu, fun i hi => ?_, ?_, ?_, u7.get qc6 (fun z => X.ql.2.2.2.1 z), wc7, ?_, fun b hb => (hnew b hb).1⟩) ⟨rfl, rfl, rfl, rfl, rfl, rfl, rfl, rfl, trivial⟩
    · refine ((upd_trans' ((u1'.trans (u2.mono fun _ _ z => .inl (own64 z))).trans (Upd.push _ _)) u5 fun b hb z => ?_).trans (u6.mono fun _ _ z => .inr (.inl z))).trans (u7.mono fun _ _ z => .inr (.inr z))
      have := sb b z
      omega
    · have rr := r2'.upd0 up
      refine ((rr.upd u5 fun j hj z => ?_).upd u6 fun j hj z => ?_).upd u7 fun j hj z => ?_
      · have := sb _ z
        have := hkz j (by have hj' : okP G.L G.m j := hj; rwa [gm] at hj')
        have e' : (priM G fun k => (outY y b).v (G.B k)).B j = G.B j := rfl
        omega
      · exact (X.bl j (by have hj' : okP G.L G.m j := hj; rwa [gm] at hj')).2.2.2.1 z
      · exact (X.bl j (by have hj' : okP G.L G.m j := hj; rwa [gm] at hj')).2.2.2.2.1 z
    · show (outY y b).po i = _
      rw [o4, u1_ne hi]
      exact hpo i hi
    · show ((outY y b).po (n + q + 1)).length = k + 1
      rw [elen, List.length_append, hlen]
      rfl
    · show 2000 <= (outY y b).bd (n + q + 1) + 2 * (k + 1)
      rw [o5]
      omega
    · dsimp only
      rw [elen, List.length_append, List.map_append]
      exact (sl5.upd u6 fun b hb z => (hnew b hb).2.1 z).upd u7 fun b hb z => (hnew b hb).2.2 z
end
end Go.Proofs.Ytakioblpgmjdaaa
namespace Go.TJ
section
variable [Dm]
open Go Go.Conc
open Go.ConcN (upd upd_ne upd_same)
open Go.ConcM (OsLater)
variable {Γ : Type}
theorem company_runG {P : Program} {X : Fp Γ} (hX : X.Ok) {f : FuncId} {args : Array Value} {W : World} {γ₀ : Γ} {R : Value -> Hp -> Prop} (hini : P.inits.idxOf? f = none) (hn : X.num γ₀ = 1) (hj : ¬ X.jn γ₀) (hinv : X.Inv γ₀ W.heap) (hcf : ∀ b, ¬ (X.cf γ₀).shb b /\ ¬ (X.cf γ₀).ro b) (hfin : ∀ i, X.fin γ₀ i = none)
    (hc : CallW P true (SitM P X) f args W.heap ⟨0, γ₀⟩ fun
      | .ret v, h', δ' => δ'.d = 0 /\ (X.jn δ'.g \/ (X.lone δ'.g /\ X.num δ'.g = 1)) /\ ∀ H, Part True h' H -> R v H
      | .pan _, _, _ => False) :
    ∃ M last o w' t', runNT P (M + 1) (solo (G (Frame.enter P f args .normal) []) W) #[] = (.ended o w', t') /\ runN P M (solo (G (Frame.enter P f args .normal) []) W) = .next last /\ step P last = .ended o w' /\
      Conc.Good P (fun v W' => R v W'.heap /\ SameL W W') last o w' t' := by
  obtain ⟨N, m, T, hr, γ, gs, w, hs, γs, ts, sl, g', rfl, C, hg, hs', a, todo, mode, fn, rfl, hda, hf, hend⟩ := companyF hX (hc .normal (by simp) ⟨[], calm_normal []⟩) (sl := none) (cfg_one (g := G (Frame.enter P f args .normal) []) hX hn hj hinv hcf hfin) (if_pos rfl) rfl rfl
  rcases hend with ⟨rfl, v, hv, hd0, hjn, hR⟩ | ⟨_, _, hp⟩
  · obtain ⟨N₂, m₁, T₂, γ₂, gs₂, w₂, hs₂, γs₂, ts₂, sl₂, hr₂, hst, C₂, K₂, hg₂, ⟨hmg, hmt⟩, _⟩ := turns hX (g0 := G { (fb f .normal).at a todo with mode := .returning } []) rfl (Done := fun _ _ _ _ _ _ _ _ => True) (fun _ _ _ _ _ _ _ _ _ _ _ => .inr trivial) ts γ gs w T hs γs sl C ⟨rfl, rfl, rfl, SameL.refl w, rfl⟩ ⟨_, hg, .inl rfl⟩
    have M₂ := C₂.mi
    have hpos := M₂.pos
    have hcfs := hX.cfR _ _ _ (M₂.rel 0 hpos (fun z => absurd z (Nat.lt_irrefl _)))
    have hP := M₂.part 0 hpos
    rw [K₂.h] at hP
    obtain ⟨es, hrun, hes⟩ := hv w₂ hP.weak
    have hstep := stepG_last (w := w₂) (todo := todo) hda hf hini hrun
    have hrt := runT_many_ended (P := P) (sl := sl₂) (i := 0) hg₂ hstep
    obtain ⟨hseen, _⟩ := seen_reads (Γ := Γ) (P := P) (S := fun ad : Addr => (X.cf γ₂).ro ad.block) (f := f) hes
    have hl : X.lone (γs₂ 0) := by rw [K₂.γ]; exact hjn.elim (hX.jl _) fun z => z.1
    have hγ : γ₂ = γs₂ 0 := M₂.lone hl
    have hjn₂ : X.jn γ₂ \/ X.num γ₂ = 1 := by rw [hγ, K₂.γ]; exact hjn.imp id fun z => z.2
    have M₃ := M₂.own hX hpos (fun z => absurd z (Nat.lt_irrefl _)) f (G { (fb f .normal).at a todo with mode := .returning } []).frame.place (L := True) (S := fun ad : Addr => (X.cf γ₂).ro ad.block) (hv := hs 0) (h' := hs 0) (H' := w₂.heap) (es := seen P f es) (fun _ => Iff.rfl) (fun _ => trivial) (fun b => by rw [K₂.h])
      (Chg.refl ⟨hP.get, hP.size, fun _ => hP.same ⟨rfl, hl⟩⟩) hseen (fun z => absurd z (Nat.lt_irrefl _))
    have hdone : ∀ i, 0 < i -> i < gs₂.size -> X.done i γ₂ := fun i h0 hi => hX.lone γ₂ i (by rw [hγ]; exact hl) h0 (by rw [M₂.num]; exact hi)
    have hq : ∀ i x, 0 < i -> gs₂[i]? = some x -> ∃ n, QuitsD P n (Deaf T₂ i) x := fun i x h0 hi => by
      have hlt := (Array.getElem?_eq_some_iff.1 hi).1
      obtain ⟨g0, h1, h2⟩ := C₂.wk i x h0 hi
      have hd := hdone i h0 hlt
      rw [M₂.back i h0 hlt (hX.fin i γ₂ h0 hd)] at h1
      rcases h2 with rfl | ⟨_, _, hb⟩
      · exact runsN_quits h0 _ _ _ _ ((M₂.dn i h0 hlt).1 hd) h1
      · exact absurd hb (hX.blkd i γ₂ h0 hd)
    refine ⟨N + N₂, _, .done v, w₂, _, runNT_succ_end (runNT_then hr hr₂) (hst.trans hrt), runN_of_runNT _ _ _ _ _ (runNT_then hr hr₂), ?_, v, rfl, ⟨hR w₂.heap ⟨hP.get, hP.size, fun _ => hP.same ⟨rfl, hl⟩⟩, hs'.trans K₂.w⟩, M₃.tf.clean, hjn₂.elim M₃.tf.over fun z => M₃.tf.overLone (M₂.num.symm.trans z), ⟨fun x hx => ?_, ?_⟩, fun j x hx hj => ?_⟩
    · rw [step, hst, hrt]
    · rw [hmg] at hx
      obtain ⟨j, hj⟩ := List.mem_iff_getElem?.1 hx
      rw [List.getElem?_drop] at hj
      obtain ⟨n, hn⟩ := hq (1 + j) x (by omega) (by simpa using hj)
      exact ⟨n, hn.leaves⟩
    · rw [hmt]; rfl
    · rw [hmg] at hx
      obtain ⟨n, hn⟩ := hq j x (by omega) hx
      refine ⟨n, ?_⟩
      have e : (T₂ ++ MemOp.ofEvents 0 f (G { (fb f .normal).at a todo with mode := .returning } []).frame.place (seen P f es)).deaf j (T₂ ++ MemOp.ofEvents 0 f (G { (fb f .normal).at a todo with mode := .returning } []).frame.place (seen P f es)).size = Deaf T₂ j :=
        Deaf_other T₂ (g := j) (g' := 0) (Ne.symm hj) _ fun op hop => by obtain ⟨e, _, rfl⟩ := Go.Conc.mem_ofEvents hop; rfl
      rw [show (G { (fb f .normal).at a todo with mode := .returning } []).frame.fn = f from rfl, e]
      exact hn.hears _
  · exact hp.elim
end
end Go.TJ
