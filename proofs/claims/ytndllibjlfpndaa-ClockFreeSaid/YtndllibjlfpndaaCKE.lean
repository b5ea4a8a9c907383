/- Steps of the walk and of the plain law (FMv to FWm). Conditions: as each lemma says. -/
import Derived.Test.YtndllibjlfpndaaCKD
set_option linter.unusedSectionVars false
set_option linter.unusedVariables false
set_option linter.unusedSimpArgs false
namespace Go.Proofs.Ytndllibjlfpndaa
section
open Go Go.TJ Go.Proofs
variable [Dm]
section
variable {Y : Type} {T : Tids} {L : Law Y} {h : Hp} {δ : Ix (Gf Y)} {i b : Nat}
theorem ilock_ok (hL : L.Ok) (hA : At L i ⟨b, 1, 0⟩ δ.g) : CallW Try.prog false (SitW Try.prog (XF T L) i) 65 #[.pointer (some ⟨b, 2, none⟩)] h δ (Ret (MuQ L i h δ.d δ.g ⟨b, 6, 0⟩)) := by
  refine CallW.start (n := 13) rfl rfl ?_
  (repeat (first | refine EK.seq ?_ | refine EK.region ?_))
  refine ER.ext rfl rfl rfl rfl (fun Q X hq => semW_mark0 (vs := #[]) (by simp) (by simp) hq) ?_
  (repeat (first | refine EK.seq ?_ | refine EK.region ?_ | refine ER.done ?_ | refine ER.move rfl rfl rfl ?_ | refine ER.nilCheck rfl rfl rfl ?_ | refine ER.fieldAddr rfl rfl rfl ?_))
  refine ER.casM (c := 1) hL rfl rfl rfl rfl hA (by decide) fun γ₁ q1 a1 m1 c1 l1 => ⟨fun e => ?_, fun ne => ?_⟩
  · obtain ⟨eb, ek, es, en⟩ := mu_word (x1 := 0) (x2 := 0) (x3 := 0) (x4 := 0) m1 (by decide) (by decide) (by decide) e
    refine ⟨{ γ₁.mu b with b := 1 }, 6, 0, by simp only [Mu.word, ek, es, en]; rfl, rfl, .take0 eb es, fun γ₂ q2 a2 e2 => ?_⟩
    (repeat (first | refine EK.seq ?_ | refine EK.region ?_ | refine ER.done ?_ | refine EK.condT rfl ?_))
    refine ER.ext rfl rfl rfl rfl (fun Q X hq => semW_mark0 (vs := #[]) (by simp) (by simp) hq) ?_
    (repeat (first | refine EK.region ?_ | refine ER.done ?_ | refine ER.move rfl rfl rfl ?_))
    refine ER.unsafeM hL rfl rfl rfl (by decide) a2 (by decide) fun γ₃ q3 a3 => ?_
    refine ER.ext rfl rfl rfl rfl (fun Q X hq => semW_marked (by simp) (by simp) hq (hDu := a3.nd)) ?_
    (repeat (first | refine ER.done ?_ | refine EK.ret ?_))
    exact EU.ret0 rfl ⟨rfl, rfl, rfl, q2.trans hL q3, a3⟩
  · (repeat (first | refine EK.region ?_ | refine ER.done ?_ | refine EK.skip ?_ | refine ER.move rfl rfl rfl ?_ | refine EK.condF rfl ?_))
    refine ER.callR rfl rfl rfl rfl rfl (lockSlow_ok hL a1) ?_
    rintro v h' ⟨d', γ'⟩ ⟨rfl, rfl, e1, r1, a1'⟩
    simp only at e1 r1 a1'
    subst e1
    (repeat refine ER.done ?_)
    refine EK.done ?_
    exact EU.ret0 rfl ⟨rfl, rfl, rfl, q1.trans hL r1, a1'⟩
structure Uk (Y : Type) where
  m : Mu
  γ : Gf Y
  lv : Bool
def Uk.E (b : Nat) (s : Uk Y) : Env := [(4, .int .i32 (W s.m.b s.m.k s.m.s s.m.n)), (0, .pointer (some ⟨b, 2, none⟩))]
structure Uk.Ok (L : Law Y) (i b d : Nat) (γ₀ : Gf Y) (h : Hp) (s : Uk Y) (h' : Hp) (δ' : Ix (Gf Y)) : Prop where
  hp : h' = h
  d : δ'.d = d
  r0 : Ro L i γ₀ s.γ
  r1 : Ro L i s.γ δ'.g
  mu : s.lv = false -> (s.γ.mu b).word = W 0 0 0 s.m.n
  a : At L i ⟨b, if s.lv then 0 else 7, 0⟩ δ'.g
  b1 : s.m.b <= 1
  k1 : s.m.k <= 1
  s1 : s.m.s <= 1
  n1 : s.m.n <= 200
  go : s.lv = true -> s.m.n = 0 \/ s.m.b = 1 \/ s.m.k = 1 \/ s.m.s = 1
  st : s.lv = false -> s.m.b = 0 /\ s.m.k = 0 /\ s.m.s = 0 /\ s.m.n ≠ 0
theorem W_add1 {k s n : Nat} (hk : k <= 1) (hs : s <= 1) (hn : n <= 1000) : IntKind.i32.wrap (W 0 k s n + 1) = W 1 k s n := by
  unfold W
  rw [show ((0 + 2 * k + 4 * s + 8 * n : Nat) : Int) + 1 = ((1 + 2 * k + 4 * s + 8 * n : Nat) : Int) by omega]
  exact i32_nat (by omega)
set_option maxHeartbeats 4000000 in
theorem unlockSlow_ok (hL : L.Ok) {k s n c : Nat} (hk : k <= 1) (hs : s <= 1) (hn0 : n <= 200) (hA : At L i ⟨b, c, 0⟩ δ.g) (hc : (c = 0 /\ s = 0 /\ (n = 0 \/ k = 1)) \/ (c = 7 /\ s = 0 /\ n ≠ 0 /\ k = 0 /\ (δ.g.mu b).word = W 0 0 0 n) \/ (c = 9 /\ s = 1)) :
    CallW Try.prog false (SitW Try.prog (XF T L) i) 70 #[.pointer (some ⟨b, 2, none⟩), .int .i32 (W 0 k s n)] h δ (Ret (MuQ L i h δ.d δ.g ⟨b, 0, 0⟩)) := by
  refine CallW.start (n := 43) rfl rfl ?_
  have hn : n <= 1000 := by omega
  (repeat (first | refine EK.seq ?_ | refine EK.region ?_ | refine ER.move rfl rfl rfl ?_))
  refine ER.add (kd := .i32) (r := W 1 k s n) rfl rfl rfl rfl (W_add1 hk hs hn) ?_
  refine ER.andI (b := 1) rfl rfl rfl rfl (W_and (by decide) hk hs hn).2.1 ?_
  (repeat (first | refine EK.seq ?_ | refine EK.region ?_ | refine ER.done ?_ | refine EK.skip ?_ | refine ER.move rfl rfl rfl ?_ | refine ER.cmpF rfl rfl rfl rfl rfl (by first | (dsimp only [cmpP]; omega) | exact rfl | exact Int.le_refl _) ?_ | refine EK.condF rfl ?_))
  refine ER.andI (b := 4) rfl rfl rfl rfl (W_and (by decide) hk hs hn).2.2.2.1 ?_
  have hs' : s = 0 \/ s = 1 := by omega
  rcases hs' with rfl | rfl
  · (repeat (first | refine EK.seq ?_ | refine EK.region ?_ | refine ER.done ?_ | refine EK.block ?_ | refine ER.move rfl rfl rfl ?_ | refine ER.assign rfl rfl rfl ?_ | refine ER.cmpT rfl rfl rfl rfl rfl (by first | (dsimp only [cmpP]; omega) | exact rfl | exact Int.le_refl _) ?_ | refine EK.condT rfl ?_))
    refine EK.loopInv (Uk.E b) (Uk.Ok L i b δ.d δ.g h) (fun s => pot L s.γ) ⟨⟨0, k, 0, n, 0⟩, δ.g, decide (c = 0)⟩ ⟨rfl, rfl, trivial⟩ ⟨rfl, rfl, Ro.refl hL _ _, Ro.refl hL _ _, ?_, ?_, Nat.zero_le _, hk, Nat.zero_le _, hn0, ?_, ?_⟩ ?_
    · intro e
      rcases hc with ⟨rfl, _⟩ | ⟨_, _, _, _, h5⟩ | ⟨_, h⟩
      · simp at e
      · exact h5
      · cases h
    · rcases hc with ⟨rfl, _⟩ | ⟨rfl, _⟩ | ⟨_, h⟩
      · exact hA
      · exact hA
      · cases h
    · intro e
      rcases hc with ⟨rfl, _, h⟩ | ⟨rfl, _⟩ | ⟨_, h⟩
      · rcases h with h | h
        · exact .inl h
        · exact .inr (.inr (.inl h))
      · simp at e
      · cases h
    · intro e
      rcases hc with ⟨rfl, _⟩ | ⟨_, _, h3, h4, _⟩ | ⟨_, h⟩
      · simp at e
      · exact ⟨rfl, h4, rfl, h3⟩
      · cases h
    intro s h' δ' hI hback
    obtain ⟨rfl, hd, r0, r1, hmu, ha, hb1, hk1, hs1, hn1, hgo, hst⟩ := hI
    obtain ⟨⟨mb, mk, ms, mn, mz⟩, γs, lv⟩ := s
    simp only at hmu r0 r1 ha hb1 hk1 hs1 hn1 hgo hst
    have hn1' : mn <= 1000 := by omega
    refine EK.sub (show subE [(4, .int .i32 (W mb mk ms mn)), (0, .pointer (some ⟨b, 2, none⟩))] _ from ⟨rfl, rfl, trivial⟩) ?_
    cases lv
    · obtain ⟨rfl, rfl, rfl, h0⟩ := hst rfl
      replace ha : At L i ⟨b, 7, 0⟩ δ'.g := ha
      (repeat (first | refine EK.seq ?_ | refine EK.region ?_ | refine ER.done ?_ | refine EK.skip ?_ | refine EK.block ?_ | refine EK.inBlock ?_ | refine ER.move rfl rfl rfl ?_ | refine ER.assign rfl rfl rfl ?_ | refine ER.nilCheck rfl rfl rfl ?_ | refine ER.fieldAddr rfl rfl rfl ?_ | refine ER.load1 rfl rfl rfl (hcell_of (by assumption) rfl) ?_ | refine ER.no rfl rfl ?_ | refine ER.noU rfl ?_ | refine ER.eqV rfl rfl rfl rfl rfl ?_ | refine ER.neqV rfl rfl rfl rfl rfl ?_ | refine ER.eqA rfl rfl rfl rfl rfl ?_ | refine ER.neqA rfl rfl rfl rfl rfl ?_ | refine ER.notB rfl rfl rfl ?_ | refine ER.pickT rfl rfl rfl rfl ?_ | refine ER.pickF rfl rfl rfl rfl ?_ | refine ER.extract rfl rfl rfl rfl ?_ | refine ER.cmpT rfl rfl rfl rfl rfl (by first | (dsimp only [cmpP]; omega) | exact rfl | exact Int.le_refl _) ?_ | refine ER.cmpF rfl rfl rfl rfl rfl (by first | (dsimp only [cmpP]; omega) | exact rfl | exact Int.le_refl _) ?_ | refine ER.boxA rfl rfl rfl ?_ | refine ER.box rfl rfl rfl ?_ | refine ER.allocA rfl rfl ?_ | refine ER.alloc rfl rfl ?_ | refine ER.add (kd := .i64) rfl rfl rfl rfl (i64_in (by omega) (by omega)) ?_ | refine ER.sub' (kd := .i64) rfl rfl rfl rfl (i64_in (by omega) (by omega)) ?_ | refine ER.mul (kd := .i64) rfl rfl rfl rfl (i64_in (by omega) (by omega)) ?_ | refine ER.rem (kd := .i64) rfl rfl rfl rfl (by decide) rfl ?_ | refine ER.indexArr rfl rfl rfl rfl (by omega) (by omega) ?_ | refine ER.len1 rfl rfl rfl ?_ | refine ER.indexSl rfl rfl rfl rfl (by omega) (by omega) ?_ | refine EK.condT rfl ?_ | refine EK.condF rfl ?_ | refine ER.andI (b := 5) rfl rfl rfl rfl (W_and (by decide) (by decide) (by decide) (by omega)).1 ?_ | refine ER.andI (b := 1) rfl rfl rfl rfl (W_and (by decide) (by decide) (by decide) (by omega)).2.1 ?_ | refine ER.andI (b := 2) rfl rfl rfl rfl (W_and (by decide) (by decide) (by decide) (by omega)).2.2.1 ?_ | refine ER.andI (b := 4) rfl rfl rfl rfl (W_and (by decide) (by decide) (by decide) (by omega)).2.2.2.1 ?_ | refine ER.andI (b := 3) rfl rfl rfl rfl (W_and (by decide) (by decide) (by decide) (by omega)).2.2.2.2.1 ?_ | refine ER.andI (b := 7) rfl rfl rfl rfl (W_and (by decide) (by decide) (by decide) (by omega)).2.2.2.2.2 ?_ | refine ER.binI (op := .or) (b := 1) rfl rfl rfl rfl (by rw [binOp_bits (.inr rfl), (W_or (by decide) (by decide) (by decide) (by omega)).1]) ?_ | refine ER.binI (op := .or) (b := 2) rfl rfl rfl rfl (by rw [binOp_bits (.inr rfl), (W_or (by decide) (by decide) (by decide) (by omega)).2.1]) ?_ | refine ER.binI (op := .or) (b := 4) rfl rfl rfl rfl (by rw [binOp_bits (.inr rfl), (W_or (by decide) (by decide) (by decide) (by omega)).2.2]) ?_ | refine ER.binI2 (op := .shr) rfl rfl rfl rfl (W_shr (by decide) (by decide) (by decide)) ?_ | refine ER.binI (op := .andNot) rfl rfl rfl rfl (by rw [binOp_andN, W_andNot (by decide) (by decide) (by omega)]) ?_ | refine ER.add (kd := .i32) (b := 8) rfl rfl rfl rfl (W_add8 (by decide) (by decide) (by decide) (by omega)) ?_ | refine ER.sub' (kd := .i32) (b := 8) rfl rfl rfl rfl (W_sub8 (by decide) (by decide) (by decide) (by omega) (by omega)) ?_))
      refine ER.casM (c := 7) hL rfl rfl rfl rfl ha (by decide) fun γ₁ q1 a1 m1 c1 l1 => ⟨fun e => ?_, fun ne => ?_⟩
      · obtain ⟨eb, ek, es, en⟩ := mu_word m1 (by decide) (by decide) (by decide) e
        refine ⟨{ γ₁.mu b with n := (γ₁.mu b).n - 1, k := 1 }, 8, 0, by simp only [Mu.word, W, eb, es, en], rfl, .wake eb ek es (by omega), fun γ₂ q2 a2 e2 => ?_⟩
        (repeat (first | refine EK.seq ?_ | refine EK.region ?_ | refine ER.done ?_ | refine EK.skip ?_ | refine EK.block ?_ | refine EK.inBlock ?_ | refine ER.move rfl rfl rfl ?_ | refine ER.assign rfl rfl rfl ?_ | refine ER.nilCheck rfl rfl rfl ?_ | refine ER.fieldAddr rfl rfl rfl ?_ | refine ER.load1 rfl rfl rfl (hcell_of (by assumption) rfl) ?_ | refine ER.no rfl rfl ?_ | refine ER.noU rfl ?_ | refine ER.eqV rfl rfl rfl rfl rfl ?_ | refine ER.neqV rfl rfl rfl rfl rfl ?_ | refine ER.eqA rfl rfl rfl rfl rfl ?_ | refine ER.neqA rfl rfl rfl rfl rfl ?_ | refine ER.notB rfl rfl rfl ?_ | refine ER.pickT rfl rfl rfl rfl ?_ | refine ER.pickF rfl rfl rfl rfl ?_ | refine ER.extract rfl rfl rfl rfl ?_ | refine ER.cmpT rfl rfl rfl rfl rfl (by first | (dsimp only [cmpP]; omega) | exact rfl | exact Int.le_refl _) ?_ | refine ER.cmpF rfl rfl rfl rfl rfl (by first | (dsimp only [cmpP]; omega) | exact rfl | exact Int.le_refl _) ?_ | refine ER.boxA rfl rfl rfl ?_ | refine ER.box rfl rfl rfl ?_ | refine ER.allocA rfl rfl ?_ | refine ER.alloc rfl rfl ?_ | refine ER.add (kd := .i64) rfl rfl rfl rfl (i64_in (by omega) (by omega)) ?_ | refine ER.sub' (kd := .i64) rfl rfl rfl rfl (i64_in (by omega) (by omega)) ?_ | refine ER.mul (kd := .i64) rfl rfl rfl rfl (i64_in (by omega) (by omega)) ?_ | refine ER.rem (kd := .i64) rfl rfl rfl rfl (by decide) rfl ?_ | refine ER.indexArr rfl rfl rfl rfl (by omega) (by omega) ?_ | refine ER.len1 rfl rfl rfl ?_ | refine ER.indexSl rfl rfl rfl rfl (by omega) (by omega) ?_ | refine EK.condT rfl ?_ | refine EK.condF rfl ?_ | refine ER.andI (b := 5) rfl rfl rfl rfl (W_and (by decide) (by decide) (by decide) (by omega)).1 ?_ | refine ER.andI (b := 1) rfl rfl rfl rfl (W_and (by decide) (by decide) (by decide) (by omega)).2.1 ?_ | refine ER.andI (b := 2) rfl rfl rfl rfl (W_and (by decide) (by decide) (by decide) (by omega)).2.2.1 ?_ | refine ER.andI (b := 4) rfl rfl rfl rfl (W_and (by decide) (by decide) (by decide) (by omega)).2.2.2.1 ?_ | refine ER.andI (b := 3) rfl rfl rfl rfl (W_and (by decide) (by decide) (by decide) (by omega)).2.2.2.2.1 ?_ | refine ER.andI (b := 7) rfl rfl rfl rfl (W_and (by decide) (by decide) (by decide) (by omega)).2.2.2.2.2 ?_ | refine ER.binI (op := .or) (b := 1) rfl rfl rfl rfl (by rw [binOp_bits (.inr rfl), (W_or (by decide) (by decide) (by decide) (by omega)).1]) ?_ | refine ER.binI (op := .or) (b := 2) rfl rfl rfl rfl (by rw [binOp_bits (.inr rfl), (W_or (by decide) (by decide) (by decide) (by omega)).2.1]) ?_ | refine ER.binI (op := .or) (b := 4) rfl rfl rfl rfl (by rw [binOp_bits (.inr rfl), (W_or (by decide) (by decide) (by decide) (by omega)).2.2]) ?_ | refine ER.binI2 (op := .shr) rfl rfl rfl rfl (W_shr (by decide) (by decide) (by decide)) ?_ | refine ER.binI (op := .andNot) rfl rfl rfl rfl (by rw [binOp_andN, W_andNot (by decide) (by decide) (by omega)]) ?_ | refine ER.add (kd := .i32) (b := 8) rfl rfl rfl rfl (W_add8 (by decide) (by decide) (by decide) (by omega)) ?_ | refine ER.sub' (kd := .i32) (b := 8) rfl rfl rfl rfl (W_sub8 (by decide) (by decide) (by decide) (by omega) (by omega)) ?_))
        refine ER.semrelM hL rfl rfl rfl rfl a2 (.inl rfl) fun γ₃ q3 a3 => ?_
        (repeat (first | refine EK.seq ?_ | refine EK.region ?_ | refine ER.done ?_ | refine EK.skip ?_ | refine EK.block ?_ | refine EK.inBlock ?_ | refine ER.move rfl rfl rfl ?_ | refine ER.assign rfl rfl rfl ?_ | refine ER.nilCheck rfl rfl rfl ?_ | refine ER.fieldAddr rfl rfl rfl ?_ | refine ER.load1 rfl rfl rfl (hcell_of (by assumption) rfl) ?_ | refine ER.no rfl rfl ?_ | refine ER.noU rfl ?_ | refine ER.eqV rfl rfl rfl rfl rfl ?_ | refine ER.neqV rfl rfl rfl rfl rfl ?_ | refine ER.eqA rfl rfl rfl rfl rfl ?_ | refine ER.neqA rfl rfl rfl rfl rfl ?_ | refine ER.notB rfl rfl rfl ?_ | refine ER.pickT rfl rfl rfl rfl ?_ | refine ER.pickF rfl rfl rfl rfl ?_ | refine ER.extract rfl rfl rfl rfl ?_ | refine ER.cmpT rfl rfl rfl rfl rfl (by first | (dsimp only [cmpP]; omega) | exact rfl | exact Int.le_refl _) ?_ | refine ER.cmpF rfl rfl rfl rfl rfl (by first | (dsimp only [cmpP]; omega) | exact rfl | exact Int.le_refl _) ?_ | refine ER.boxA rfl rfl rfl ?_ | refine ER.box rfl rfl rfl ?_ | refine ER.allocA rfl rfl ?_ | refine ER.alloc rfl rfl ?_ | refine ER.add (kd := .i64) rfl rfl rfl rfl (i64_in (by omega) (by omega)) ?_ | refine ER.sub' (kd := .i64) rfl rfl rfl rfl (i64_in (by omega) (by omega)) ?_ | refine ER.mul (kd := .i64) rfl rfl rfl rfl (i64_in (by omega) (by omega)) ?_ | refine ER.rem (kd := .i64) rfl rfl rfl rfl (by decide) rfl ?_ | refine ER.indexArr rfl rfl rfl rfl (by omega) (by omega) ?_ | refine ER.len1 rfl rfl rfl ?_ | refine ER.indexSl rfl rfl rfl rfl (by omega) (by omega) ?_ | refine EK.condT rfl ?_ | refine EK.condF rfl ?_ | refine ER.andI (b := 5) rfl rfl rfl rfl (W_and (by decide) (by decide) (by decide) (by omega)).1 ?_ | refine ER.andI (b := 1) rfl rfl rfl rfl (W_and (by decide) (by decide) (by decide) (by omega)).2.1 ?_ | refine ER.andI (b := 2) rfl rfl rfl rfl (W_and (by decide) (by decide) (by decide) (by omega)).2.2.1 ?_ | refine ER.andI (b := 4) rfl rfl rfl rfl (W_and (by decide) (by decide) (by decide) (by omega)).2.2.2.1 ?_ | refine ER.andI (b := 3) rfl rfl rfl rfl (W_and (by decide) (by decide) (by decide) (by omega)).2.2.2.2.1 ?_ | refine ER.andI (b := 7) rfl rfl rfl rfl (W_and (by decide) (by decide) (by decide) (by omega)).2.2.2.2.2 ?_ | refine ER.binI (op := .or) (b := 1) rfl rfl rfl rfl (by rw [binOp_bits (.inr rfl), (W_or (by decide) (by decide) (by decide) (by omega)).1]) ?_ | refine ER.binI (op := .or) (b := 2) rfl rfl rfl rfl (by rw [binOp_bits (.inr rfl), (W_or (by decide) (by decide) (by decide) (by omega)).2.1]) ?_ | refine ER.binI (op := .or) (b := 4) rfl rfl rfl rfl (by rw [binOp_bits (.inr rfl), (W_or (by decide) (by decide) (by decide) (by omega)).2.2]) ?_ | refine ER.binI2 (op := .shr) rfl rfl rfl rfl (W_shr (by decide) (by decide) (by decide)) ?_ | refine ER.binI (op := .andNot) rfl rfl rfl rfl (by rw [binOp_andN, W_andNot (by decide) (by decide) (by omega)]) ?_ | refine ER.add (kd := .i32) (b := 8) rfl rfl rfl rfl (W_add8 (by decide) (by decide) (by decide) (by omega)) ?_ | refine ER.sub' (kd := .i32) (b := 8) rfl rfl rfl rfl (W_sub8 (by decide) (by decide) (by decide) (by omega) (by omega)) ?_))
        refine EK.ret ?_
        exact EU.ret0 rfl ⟨rfl, rfl, hd, ((r0.trans hL r1).trans hL q2).trans hL q3, a3⟩
      · (repeat (first | refine EK.seq ?_ | refine EK.region ?_ | refine ER.done ?_ | refine EK.skip ?_ | refine EK.block ?_ | refine EK.inBlock ?_ | refine ER.move rfl rfl rfl ?_ | refine ER.assign rfl rfl rfl ?_ | refine ER.nilCheck rfl rfl rfl ?_ | refine ER.fieldAddr rfl rfl rfl ?_ | refine ER.load1 rfl rfl rfl (hcell_of (by assumption) rfl) ?_ | refine ER.no rfl rfl ?_ | refine ER.noU rfl ?_ | refine ER.eqV rfl rfl rfl rfl rfl ?_ | refine ER.neqV rfl rfl rfl rfl rfl ?_ | refine ER.eqA rfl rfl rfl rfl rfl ?_ | refine ER.neqA rfl rfl rfl rfl rfl ?_ | refine ER.notB rfl rfl rfl ?_ | refine ER.pickT rfl rfl rfl rfl ?_ | refine ER.pickF rfl rfl rfl rfl ?_ | refine ER.extract rfl rfl rfl rfl ?_ | refine ER.cmpT rfl rfl rfl rfl rfl (by first | (dsimp only [cmpP]; omega) | exact rfl | exact Int.le_refl _) ?_ | refine ER.cmpF rfl rfl rfl rfl rfl (by first | (dsimp only [cmpP]; omega) | exact rfl | exact Int.le_refl _) ?_ | refine ER.boxA rfl rfl rfl ?_ | refine ER.box rfl rfl rfl ?_ | refine ER.allocA rfl rfl ?_ | refine ER.alloc rfl rfl ?_ | refine ER.add (kd := .i64) rfl rfl rfl rfl (i64_in (by omega) (by omega)) ?_ | refine ER.sub' (kd := .i64) rfl rfl rfl rfl (i64_in (by omega) (by omega)) ?_ | refine ER.mul (kd := .i64) rfl rfl rfl rfl (i64_in (by omega) (by omega)) ?_ | refine ER.rem (kd := .i64) rfl rfl rfl rfl (by decide) rfl ?_ | refine ER.indexArr rfl rfl rfl rfl (by omega) (by omega) ?_ | refine ER.len1 rfl rfl rfl ?_ | refine ER.indexSl rfl rfl rfl rfl (by omega) (by omega) ?_ | refine EK.condT rfl ?_ | refine EK.condF rfl ?_ | refine ER.andI (b := 5) rfl rfl rfl rfl (W_and (by decide) (by decide) (by decide) (by omega)).1 ?_ | refine ER.andI (b := 1) rfl rfl rfl rfl (W_and (by decide) (by decide) (by decide) (by omega)).2.1 ?_ | refine ER.andI (b := 2) rfl rfl rfl rfl (W_and (by decide) (by decide) (by decide) (by omega)).2.2.1 ?_ | refine ER.andI (b := 4) rfl rfl rfl rfl (W_and (by decide) (by decide) (by decide) (by omega)).2.2.2.1 ?_ | refine ER.andI (b := 3) rfl rfl rfl rfl (W_and (by decide) (by decide) (by decide) (by omega)).2.2.2.2.1 ?_ | refine ER.andI (b := 7) rfl rfl rfl rfl (W_and (by decide) (by decide) (by decide) (by omega)).2.2.2.2.2 ?_ | refine ER.binI (op := .or) (b := 1) rfl rfl rfl rfl (by rw [binOp_bits (.inr rfl), (W_or (by decide) (by decide) (by decide) (by omega)).1]) ?_ | refine ER.binI (op := .or) (b := 2) rfl rfl rfl rfl (by rw [binOp_bits (.inr rfl), (W_or (by decide) (by decide) (by decide) (by omega)).2.1]) ?_ | refine ER.binI (op := .or) (b := 4) rfl rfl rfl rfl (by rw [binOp_bits (.inr rfl), (W_or (by decide) (by decide) (by decide) (by omega)).2.2]) ?_ | refine ER.binI2 (op := .shr) rfl rfl rfl rfl (W_shr (by decide) (by decide) (by decide)) ?_ | refine ER.binI (op := .andNot) rfl rfl rfl rfl (by rw [binOp_andN, W_andNot (by decide) (by decide) (by omega)]) ?_ | refine ER.add (kd := .i32) (b := 8) rfl rfl rfl rfl (W_add8 (by decide) (by decide) (by decide) (by omega)) ?_ | refine ER.sub' (kd := .i32) (b := 8) rfl rfl rfl rfl (W_sub8 (by decide) (by decide) (by decide) (by omega) (by omega)) ?_))
        refine ER.loadM (c := 7) hL norace_unlockSlow rfl rfl rfl a1 (by decide) fun γ₃ q3 a3 m3 c3 l3 => ?_
        have hlt : pot L γ₃ < pot L γs := Nat.lt_of_le_of_lt q3.pot (Nat.lt_of_le_of_ne (r1.trans hL q1).pot fun z => ne (by rw [((r1.trans hL q1).same z).1]; exact hmu rfl))
        by_cases hg : (γ₃.mu b).n = 0 \/ (γ₃.mu b).b = 1 \/ (γ₃.mu b).k = 1 \/ (γ₃.mu b).s = 1
        · refine .inl ⟨0, 0, .off hg, fun γ₄ q4 a4 e4 p4 _ => ?_⟩
          (repeat (first | refine EK.seq ?_ | refine EK.region ?_ | refine ER.done ?_ | refine EK.skip ?_ | refine EK.block ?_ | refine EK.inBlock ?_ | refine ER.move rfl rfl rfl ?_ | refine ER.assign rfl rfl rfl ?_ | refine ER.nilCheck rfl rfl rfl ?_ | refine ER.fieldAddr rfl rfl rfl ?_ | refine ER.load1 rfl rfl rfl (hcell_of (by assumption) rfl) ?_ | refine ER.no rfl rfl ?_ | refine ER.noU rfl ?_ | refine ER.eqV rfl rfl rfl rfl rfl ?_ | refine ER.neqV rfl rfl rfl rfl rfl ?_ | refine ER.eqA rfl rfl rfl rfl rfl ?_ | refine ER.neqA rfl rfl rfl rfl rfl ?_ | refine ER.notB rfl rfl rfl ?_ | refine ER.pickT rfl rfl rfl rfl ?_ | refine ER.pickF rfl rfl rfl rfl ?_ | refine ER.extract rfl rfl rfl rfl ?_ | refine ER.cmpT rfl rfl rfl rfl rfl (by first | (dsimp only [cmpP]; omega) | exact rfl | exact Int.le_refl _) ?_ | refine ER.cmpF rfl rfl rfl rfl rfl (by first | (dsimp only [cmpP]; omega) | exact rfl | exact Int.le_refl _) ?_ | refine ER.boxA rfl rfl rfl ?_ | refine ER.box rfl rfl rfl ?_ | refine ER.allocA rfl rfl ?_ | refine ER.alloc rfl rfl ?_ | refine ER.add (kd := .i64) rfl rfl rfl rfl (i64_in (by omega) (by omega)) ?_ | refine ER.sub' (kd := .i64) rfl rfl rfl rfl (i64_in (by omega) (by omega)) ?_ | refine ER.mul (kd := .i64) rfl rfl rfl rfl (i64_in (by omega) (by omega)) ?_ | refine ER.rem (kd := .i64) rfl rfl rfl rfl (by decide) rfl ?_ | refine ER.indexArr rfl rfl rfl rfl (by omega) (by omega) ?_ | refine ER.len1 rfl rfl rfl ?_ | refine ER.indexSl rfl rfl rfl rfl (by omega) (by omega) ?_ | refine EK.condT rfl ?_ | refine EK.condF rfl ?_ | refine ER.andI (b := 5) rfl rfl rfl rfl (W_and (by decide) (by decide) (by decide) (by omega)).1 ?_ | refine ER.andI (b := 1) rfl rfl rfl rfl (W_and (by decide) (by decide) (by decide) (by omega)).2.1 ?_ | refine ER.andI (b := 2) rfl rfl rfl rfl (W_and (by decide) (by decide) (by decide) (by omega)).2.2.1 ?_ | refine ER.andI (b := 4) rfl rfl rfl rfl (W_and (by decide) (by decide) (by decide) (by omega)).2.2.2.1 ?_ | refine ER.andI (b := 3) rfl rfl rfl rfl (W_and (by decide) (by decide) (by decide) (by omega)).2.2.2.2.1 ?_ | refine ER.andI (b := 7) rfl rfl rfl rfl (W_and (by decide) (by decide) (by decide) (by omega)).2.2.2.2.2 ?_ | refine ER.binI (op := .or) (b := 1) rfl rfl rfl rfl (by rw [binOp_bits (.inr rfl), (W_or (by decide) (by decide) (by decide) (by omega)).1]) ?_ | refine ER.binI (op := .or) (b := 2) rfl rfl rfl rfl (by rw [binOp_bits (.inr rfl), (W_or (by decide) (by decide) (by decide) (by omega)).2.1]) ?_ | refine ER.binI (op := .or) (b := 4) rfl rfl rfl rfl (by rw [binOp_bits (.inr rfl), (W_or (by decide) (by decide) (by decide) (by omega)).2.2]) ?_ | refine ER.binI2 (op := .shr) rfl rfl rfl rfl (W_shr (by decide) (by decide) (by decide)) ?_ | refine ER.binI (op := .andNot) rfl rfl rfl rfl (by rw [binOp_andN, W_andNot (by decide) (by decide) (by omega)]) ?_ | refine ER.add (kd := .i32) (b := 8) rfl rfl rfl rfl (W_add8 (by decide) (by decide) (by decide) (by omega)) ?_ | refine ER.sub' (kd := .i32) (b := 8) rfl rfl rfl rfl (W_sub8 (by decide) (by decide) (by decide) (by omega) (by omega)) ?_))
          refine EK.sub ?_ (hback ⟨γ₃.mu b, γ₄, true⟩ _ _ (Nat.lt_of_le_of_lt p4 hlt) ⟨rfl, hd, (r0.trans hL r1).trans hL (q1.trans hL q4), Ro.refl hL _ _, nofun, a4, m3.b1, m3.k1, m3.s1, mi_n m3 (fun x => ct_le x) l3, fun _ => hg, nofun⟩)
          exact ⟨rfl, rfl, trivial⟩
        · refine .inr ?_
          (repeat (first | refine EK.seq ?_ | refine EK.region ?_ | refine ER.done ?_ | refine EK.skip ?_ | refine EK.block ?_ | refine EK.inBlock ?_ | refine ER.move rfl rfl rfl ?_ | refine ER.assign rfl rfl rfl ?_ | refine ER.nilCheck rfl rfl rfl ?_ | refine ER.fieldAddr rfl rfl rfl ?_ | refine ER.load1 rfl rfl rfl (hcell_of (by assumption) rfl) ?_ | refine ER.no rfl rfl ?_ | refine ER.noU rfl ?_ | refine ER.eqV rfl rfl rfl rfl rfl ?_ | refine ER.neqV rfl rfl rfl rfl rfl ?_ | refine ER.eqA rfl rfl rfl rfl rfl ?_ | refine ER.neqA rfl rfl rfl rfl rfl ?_ | refine ER.notB rfl rfl rfl ?_ | refine ER.pickT rfl rfl rfl rfl ?_ | refine ER.pickF rfl rfl rfl rfl ?_ | refine ER.extract rfl rfl rfl rfl ?_ | refine ER.cmpT rfl rfl rfl rfl rfl (by first | (dsimp only [cmpP]; omega) | exact rfl | exact Int.le_refl _) ?_ | refine ER.cmpF rfl rfl rfl rfl rfl (by first | (dsimp only [cmpP]; omega) | exact rfl | exact Int.le_refl _) ?_ | refine ER.boxA rfl rfl rfl ?_ | refine ER.box rfl rfl rfl ?_ | refine ER.allocA rfl rfl ?_ | refine ER.alloc rfl rfl ?_ | refine ER.add (kd := .i64) rfl rfl rfl rfl (i64_in (by omega) (by omega)) ?_ | refine ER.sub' (kd := .i64) rfl rfl rfl rfl (i64_in (by omega) (by omega)) ?_ | refine ER.mul (kd := .i64) rfl rfl rfl rfl (i64_in (by omega) (by omega)) ?_ | refine ER.rem (kd := .i64) rfl rfl rfl rfl (by decide) rfl ?_ | refine ER.indexArr rfl rfl rfl rfl (by omega) (by omega) ?_ | refine ER.len1 rfl rfl rfl ?_ | refine ER.indexSl rfl rfl rfl rfl (by omega) (by omega) ?_ | refine EK.condT rfl ?_ | refine EK.condF rfl ?_ | refine ER.andI (b := 5) rfl rfl rfl rfl (W_and (by decide) (by decide) (by decide) (by omega)).1 ?_ | refine ER.andI (b := 1) rfl rfl rfl rfl (W_and (by decide) (by decide) (by decide) (by omega)).2.1 ?_ | refine ER.andI (b := 2) rfl rfl rfl rfl (W_and (by decide) (by decide) (by decide) (by omega)).2.2.1 ?_ | refine ER.andI (b := 4) rfl rfl rfl rfl (W_and (by decide) (by decide) (by decide) (by omega)).2.2.2.1 ?_ | refine ER.andI (b := 3) rfl rfl rfl rfl (W_and (by decide) (by decide) (by decide) (by omega)).2.2.2.2.1 ?_ | refine ER.andI (b := 7) rfl rfl rfl rfl (W_and (by decide) (by decide) (by decide) (by omega)).2.2.2.2.2 ?_ | refine ER.binI (op := .or) (b := 1) rfl rfl rfl rfl (by rw [binOp_bits (.inr rfl), (W_or (by decide) (by decide) (by decide) (by omega)).1]) ?_ | refine ER.binI (op := .or) (b := 2) rfl rfl rfl rfl (by rw [binOp_bits (.inr rfl), (W_or (by decide) (by decide) (by decide) (by omega)).2.1]) ?_ | refine ER.binI (op := .or) (b := 4) rfl rfl rfl rfl (by rw [binOp_bits (.inr rfl), (W_or (by decide) (by decide) (by decide) (by omega)).2.2]) ?_ | refine ER.binI2 (op := .shr) rfl rfl rfl rfl (W_shr (by decide) (by decide) (by decide)) ?_ | refine ER.binI (op := .andNot) rfl rfl rfl rfl (by rw [binOp_andN, W_andNot (by decide) (by decide) (by omega)]) ?_ | refine ER.add (kd := .i32) (b := 8) rfl rfl rfl rfl (W_add8 (by decide) (by decide) (by decide) (by omega)) ?_ | refine ER.sub' (kd := .i32) (b := 8) rfl rfl rfl rfl (W_sub8 (by decide) (by decide) (by decide) (by omega) (by omega)) ?_))
          have hb3 := m3.b1
          have hk3 := m3.k1
          have hs3 := m3.s1
          have z1 : (γ₃.mu b).b = 0 := by omega
          have z2 : (γ₃.mu b).k = 0 := by omega
          have z3 : (γ₃.mu b).s = 0 := by omega
          refine EK.sub ?_ (hback ⟨γ₃.mu b, γ₃, false⟩ _ _ hlt ⟨rfl, hd, (r0.trans hL r1).trans hL (q1.trans hL q3), Ro.refl hL _ _, fun _ => by rw [Mu.word_eq, z1, z2, z3], a3, m3.b1, m3.k1, m3.s1, mi_n m3 (fun x => ct_le x) l3, nofun, fun _ => ⟨z1, z2, z3, fun z => hg (.inl z)⟩⟩)
          exact ⟨rfl, rfl, trivial⟩
    · replace ha : At L i ⟨b, 0, 0⟩ δ'.g := ha
      have hgo := hgo rfl
      (repeat (first | refine EK.seq ?_ | refine EK.region ?_ | refine ER.done ?_ | refine EK.skip ?_ | refine EK.block ?_ | refine EK.inBlock ?_ | refine ER.move rfl rfl rfl ?_ | refine ER.assign rfl rfl rfl ?_ | refine ER.nilCheck rfl rfl rfl ?_ | refine ER.fieldAddr rfl rfl rfl ?_ | refine ER.load1 rfl rfl rfl (hcell_of (by assumption) rfl) ?_ | refine ER.no rfl rfl ?_ | refine ER.noU rfl ?_ | refine ER.eqV rfl rfl rfl rfl rfl ?_ | refine ER.neqV rfl rfl rfl rfl rfl ?_ | refine ER.eqA rfl rfl rfl rfl rfl ?_ | refine ER.neqA rfl rfl rfl rfl rfl ?_ | refine ER.notB rfl rfl rfl ?_ | refine ER.pickT rfl rfl rfl rfl ?_ | refine ER.pickF rfl rfl rfl rfl ?_ | refine ER.extract rfl rfl rfl rfl ?_ | refine ER.cmpT rfl rfl rfl rfl rfl (by first | (dsimp only [cmpP]; omega) | exact rfl | exact Int.le_refl _) ?_ | refine ER.cmpF rfl rfl rfl rfl rfl (by first | (dsimp only [cmpP]; omega) | exact rfl | exact Int.le_refl _) ?_ | refine ER.boxA rfl rfl rfl ?_ | refine ER.box rfl rfl rfl ?_ | refine ER.allocA rfl rfl ?_ | refine ER.alloc rfl rfl ?_ | refine ER.add (kd := .i64) rfl rfl rfl rfl (i64_in (by omega) (by omega)) ?_ | refine ER.sub' (kd := .i64) rfl rfl rfl rfl (i64_in (by omega) (by omega)) ?_ | refine ER.mul (kd := .i64) rfl rfl rfl rfl (i64_in (by omega) (by omega)) ?_ | refine ER.rem (kd := .i64) rfl rfl rfl rfl (by decide) rfl ?_ | refine ER.indexArr rfl rfl rfl rfl (by omega) (by omega) ?_ | refine ER.len1 rfl rfl rfl ?_ | refine ER.indexSl rfl rfl rfl rfl (by omega) (by omega) ?_ | refine EK.condT rfl ?_ | refine EK.condF rfl ?_ | refine ER.andI (b := 5) rfl rfl rfl rfl (W_and (by decide) (by decide) (by decide) (by omega)).1 ?_ | refine ER.andI (b := 1) rfl rfl rfl rfl (W_and (by decide) (by decide) (by decide) (by omega)).2.1 ?_ | refine ER.andI (b := 2) rfl rfl rfl rfl (W_and (by decide) (by decide) (by decide) (by omega)).2.2.1 ?_ | refine ER.andI (b := 4) rfl rfl rfl rfl (W_and (by decide) (by decide) (by decide) (by omega)).2.2.2.1 ?_ | refine ER.andI (b := 3) rfl rfl rfl rfl (W_and (by decide) (by decide) (by decide) (by omega)).2.2.2.2.1 ?_ | refine ER.andI (b := 7) rfl rfl rfl rfl (W_and (by decide) (by decide) (by decide) (by omega)).2.2.2.2.2 ?_ | refine ER.binI (op := .or) (b := 1) rfl rfl rfl rfl (by rw [binOp_bits (.inr rfl), (W_or (by decide) (by decide) (by decide) (by omega)).1]) ?_ | refine ER.binI (op := .or) (b := 2) rfl rfl rfl rfl (by rw [binOp_bits (.inr rfl), (W_or (by decide) (by decide) (by decide) (by omega)).2.1]) ?_ | refine ER.binI (op := .or) (b := 4) rfl rfl rfl rfl (by rw [binOp_bits (.inr rfl), (W_or (by decide) (by decide) (by decide) (by omega)).2.2]) ?_ | refine ER.binI2 (op := .shr) rfl rfl rfl rfl (W_shr (by decide) (by decide) (by decide)) ?_ | refine ER.binI (op := .andNot) rfl rfl rfl rfl (by rw [binOp_andN, W_andNot (by decide) (by decide) (by omega)]) ?_ | refine ER.add (kd := .i32) (b := 8) rfl rfl rfl rfl (W_add8 (by decide) (by decide) (by decide) (by omega)) ?_ | refine ER.sub' (kd := .i32) (b := 8) rfl rfl rfl rfl (W_sub8 (by decide) (by decide) (by decide) (by omega) (by omega)) ?_))
      refine ER.binI2 (op := .shr) rfl rfl rfl rfl (W_shr hb1 hk1 hs1) ?_
      by_cases hz : mn = 0
      · subst hz
        (repeat (first | refine EK.seq ?_ | refine EK.region ?_ | refine ER.done ?_ | refine EK.skip ?_ | refine EK.block ?_ | refine EK.inBlock ?_ | refine ER.move rfl rfl rfl ?_ | refine ER.assign rfl rfl rfl ?_ | refine ER.nilCheck rfl rfl rfl ?_ | refine ER.fieldAddr rfl rfl rfl ?_ | refine ER.load1 rfl rfl rfl (hcell_of (by assumption) rfl) ?_ | refine ER.no rfl rfl ?_ | refine ER.noU rfl ?_ | refine ER.eqV rfl rfl rfl rfl rfl ?_ | refine ER.neqV rfl rfl rfl rfl rfl ?_ | refine ER.eqA rfl rfl rfl rfl rfl ?_ | refine ER.neqA rfl rfl rfl rfl rfl ?_ | refine ER.notB rfl rfl rfl ?_ | refine ER.pickT rfl rfl rfl rfl ?_ | refine ER.pickF rfl rfl rfl rfl ?_ | refine ER.extract rfl rfl rfl rfl ?_ | refine ER.cmpT rfl rfl rfl rfl rfl (by first | (dsimp only [cmpP]; omega) | exact rfl | exact Int.le_refl _) ?_ | refine ER.cmpF rfl rfl rfl rfl rfl (by first | (dsimp only [cmpP]; omega) | exact rfl | exact Int.le_refl _) ?_ | refine ER.boxA rfl rfl rfl ?_ | refine ER.box rfl rfl rfl ?_ | refine ER.allocA rfl rfl ?_ | refine ER.alloc rfl rfl ?_ | refine ER.add (kd := .i64) rfl rfl rfl rfl (i64_in (by omega) (by omega)) ?_ | refine ER.sub' (kd := .i64) rfl rfl rfl rfl (i64_in (by omega) (by omega)) ?_ | refine ER.mul (kd := .i64) rfl rfl rfl rfl (i64_in (by omega) (by omega)) ?_ | refine ER.rem (kd := .i64) rfl rfl rfl rfl (by decide) rfl ?_ | refine ER.indexArr rfl rfl rfl rfl (by omega) (by omega) ?_ | refine ER.len1 rfl rfl rfl ?_ | refine ER.indexSl rfl rfl rfl rfl (by omega) (by omega) ?_ | refine EK.condT rfl ?_ | refine EK.condF rfl ?_ | refine ER.andI (b := 5) rfl rfl rfl rfl (W_and (by decide) (by decide) (by decide) (by omega)).1 ?_ | refine ER.andI (b := 1) rfl rfl rfl rfl (W_and (by decide) (by decide) (by decide) (by omega)).2.1 ?_ | refine ER.andI (b := 2) rfl rfl rfl rfl (W_and (by decide) (by decide) (by decide) (by omega)).2.2.1 ?_ | refine ER.andI (b := 4) rfl rfl rfl rfl (W_and (by decide) (by decide) (by decide) (by omega)).2.2.2.1 ?_ | refine ER.andI (b := 3) rfl rfl rfl rfl (W_and (by decide) (by decide) (by decide) (by omega)).2.2.2.2.1 ?_ | refine ER.andI (b := 7) rfl rfl rfl rfl (W_and (by decide) (by decide) (by decide) (by omega)).2.2.2.2.2 ?_ | refine ER.binI (op := .or) (b := 1) rfl rfl rfl rfl (by rw [binOp_bits (.inr rfl), (W_or (by decide) (by decide) (by decide) (by omega)).1]) ?_ | refine ER.binI (op := .or) (b := 2) rfl rfl rfl rfl (by rw [binOp_bits (.inr rfl), (W_or (by decide) (by decide) (by decide) (by omega)).2.1]) ?_ | refine ER.binI (op := .or) (b := 4) rfl rfl rfl rfl (by rw [binOp_bits (.inr rfl), (W_or (by decide) (by decide) (by decide) (by omega)).2.2]) ?_ | refine ER.binI2 (op := .shr) rfl rfl rfl rfl (W_shr (by decide) (by decide) (by decide)) ?_ | refine ER.binI (op := .andNot) rfl rfl rfl rfl (by rw [binOp_andN, W_andNot (by decide) (by decide) (by omega)]) ?_ | refine ER.add (kd := .i32) (b := 8) rfl rfl rfl rfl (W_add8 (by decide) (by decide) (by decide) (by omega)) ?_ | refine ER.sub' (kd := .i32) (b := 8) rfl rfl rfl rfl (W_sub8 (by decide) (by decide) (by decide) (by omega) (by omega)) ?_))
        refine EK.ret ?_
        exact EU.ret0 rfl ⟨rfl, rfl, hd, r0.trans hL r1, ha⟩
      · (repeat (first | refine EK.seq ?_ | refine EK.region ?_ | refine ER.done ?_ | refine EK.skip ?_ | refine EK.block ?_ | refine EK.inBlock ?_ | refine ER.move rfl rfl rfl ?_ | refine ER.assign rfl rfl rfl ?_ | refine ER.nilCheck rfl rfl rfl ?_ | refine ER.fieldAddr rfl rfl rfl ?_ | refine ER.load1 rfl rfl rfl (hcell_of (by assumption) rfl) ?_ | refine ER.no rfl rfl ?_ | refine ER.noU rfl ?_ | refine ER.eqV rfl rfl rfl rfl rfl ?_ | refine ER.neqV rfl rfl rfl rfl rfl ?_ | refine ER.eqA rfl rfl rfl rfl rfl ?_ | refine ER.neqA rfl rfl rfl rfl rfl ?_ | refine ER.notB rfl rfl rfl ?_ | refine ER.pickT rfl rfl rfl rfl ?_ | refine ER.pickF rfl rfl rfl rfl ?_ | refine ER.extract rfl rfl rfl rfl ?_ | refine ER.cmpT rfl rfl rfl rfl rfl (by first | (dsimp only [cmpP]; omega) | exact rfl | exact Int.le_refl _) ?_ | refine ER.cmpF rfl rfl rfl rfl rfl (by first | (dsimp only [cmpP]; omega) | exact rfl | exact Int.le_refl _) ?_ | refine ER.boxA rfl rfl rfl ?_ | refine ER.box rfl rfl rfl ?_ | refine ER.allocA rfl rfl ?_ | refine ER.alloc rfl rfl ?_ | refine ER.add (kd := .i64) rfl rfl rfl rfl (i64_in (by omega) (by omega)) ?_ | refine ER.sub' (kd := .i64) rfl rfl rfl rfl (i64_in (by omega) (by omega)) ?_ | refine ER.mul (kd := .i64) rfl rfl rfl rfl (i64_in (by omega) (by omega)) ?_ | refine ER.rem (kd := .i64) rfl rfl rfl rfl (by decide) rfl ?_ | refine ER.indexArr rfl rfl rfl rfl (by omega) (by omega) ?_ | refine ER.len1 rfl rfl rfl ?_ | refine ER.indexSl rfl rfl rfl rfl (by omega) (by omega) ?_ | refine EK.condT rfl ?_ | refine EK.condF rfl ?_ | refine ER.andI (b := 5) rfl rfl rfl rfl (W_and (by decide) (by decide) (by decide) (by omega)).1 ?_ | refine ER.andI (b := 1) rfl rfl rfl rfl (W_and (by decide) (by decide) (by decide) (by omega)).2.1 ?_ | refine ER.andI (b := 2) rfl rfl rfl rfl (W_and (by decide) (by decide) (by decide) (by omega)).2.2.1 ?_ | refine ER.andI (b := 4) rfl rfl rfl rfl (W_and (by decide) (by decide) (by decide) (by omega)).2.2.2.1 ?_ | refine ER.andI (b := 3) rfl rfl rfl rfl (W_and (by decide) (by decide) (by decide) (by omega)).2.2.2.2.1 ?_ | refine ER.andI (b := 7) rfl rfl rfl rfl (W_and (by decide) (by decide) (by decide) (by omega)).2.2.2.2.2 ?_ | refine ER.binI (op := .or) (b := 1) rfl rfl rfl rfl (by rw [binOp_bits (.inr rfl), (W_or (by decide) (by decide) (by decide) (by omega)).1]) ?_ | refine ER.binI (op := .or) (b := 2) rfl rfl rfl rfl (by rw [binOp_bits (.inr rfl), (W_or (by decide) (by decide) (by decide) (by omega)).2.1]) ?_ | refine ER.binI (op := .or) (b := 4) rfl rfl rfl rfl (by rw [binOp_bits (.inr rfl), (W_or (by decide) (by decide) (by decide) (by omega)).2.2]) ?_ | refine ER.binI2 (op := .shr) rfl rfl rfl rfl (W_shr (by decide) (by decide) (by decide)) ?_ | refine ER.binI (op := .andNot) rfl rfl rfl rfl (by rw [binOp_andN, W_andNot (by decide) (by decide) (by omega)]) ?_ | refine ER.add (kd := .i32) (b := 8) rfl rfl rfl rfl (W_add8 (by decide) (by decide) (by decide) (by omega)) ?_ | refine ER.sub' (kd := .i32) (b := 8) rfl rfl rfl rfl (W_sub8 (by decide) (by decide) (by decide) (by omega) (by omega)) ?_))
        refine ER.andI (b := 7) rfl rfl rfl rfl (W_and hb1 hk1 hs1 hn1').2.2.2.2.2 ?_
        (repeat (first | refine EK.seq ?_ | refine EK.region ?_ | refine ER.done ?_ | refine EK.skip ?_ | refine EK.block ?_ | refine EK.inBlock ?_ | refine ER.move rfl rfl rfl ?_ | refine ER.assign rfl rfl rfl ?_ | refine ER.nilCheck rfl rfl rfl ?_ | refine ER.fieldAddr rfl rfl rfl ?_ | refine ER.load1 rfl rfl rfl (hcell_of (by assumption) rfl) ?_ | refine ER.no rfl rfl ?_ | refine ER.noU rfl ?_ | refine ER.eqV rfl rfl rfl rfl rfl ?_ | refine ER.neqV rfl rfl rfl rfl rfl ?_ | refine ER.eqA rfl rfl rfl rfl rfl ?_ | refine ER.neqA rfl rfl rfl rfl rfl ?_ | refine ER.notB rfl rfl rfl ?_ | refine ER.pickT rfl rfl rfl rfl ?_ | refine ER.pickF rfl rfl rfl rfl ?_ | refine ER.extract rfl rfl rfl rfl ?_ | refine ER.cmpT rfl rfl rfl rfl rfl (by first | (dsimp only [cmpP]; omega) | exact rfl | exact Int.le_refl _) ?_ | refine ER.cmpF rfl rfl rfl rfl rfl (by first | (dsimp only [cmpP]; omega) | exact rfl | exact Int.le_refl _) ?_ | refine ER.boxA rfl rfl rfl ?_ | refine ER.box rfl rfl rfl ?_ | refine ER.allocA rfl rfl ?_ | refine ER.alloc rfl rfl ?_ | refine ER.add (kd := .i64) rfl rfl rfl rfl (i64_in (by omega) (by omega)) ?_ | refine ER.sub' (kd := .i64) rfl rfl rfl rfl (i64_in (by omega) (by omega)) ?_ | refine ER.mul (kd := .i64) rfl rfl rfl rfl (i64_in (by omega) (by omega)) ?_ | refine ER.rem (kd := .i64) rfl rfl rfl rfl (by decide) rfl ?_ | refine ER.indexArr rfl rfl rfl rfl (by omega) (by omega) ?_ | refine ER.len1 rfl rfl rfl ?_ | refine ER.indexSl rfl rfl rfl rfl (by omega) (by omega) ?_ | refine EK.condT rfl ?_ | refine EK.condF rfl ?_ | refine ER.andI (b := 5) rfl rfl rfl rfl (W_and (by decide) (by decide) (by decide) (by omega)).1 ?_ | refine ER.andI (b := 1) rfl rfl rfl rfl (W_and (by decide) (by decide) (by decide) (by omega)).2.1 ?_ | refine ER.andI (b := 2) rfl rfl rfl rfl (W_and (by decide) (by decide) (by decide) (by omega)).2.2.1 ?_ | refine ER.andI (b := 4) rfl rfl rfl rfl (W_and (by decide) (by decide) (by decide) (by omega)).2.2.2.1 ?_ | refine ER.andI (b := 3) rfl rfl rfl rfl (W_and (by decide) (by decide) (by decide) (by omega)).2.2.2.2.1 ?_ | refine ER.andI (b := 7) rfl rfl rfl rfl (W_and (by decide) (by decide) (by decide) (by omega)).2.2.2.2.2 ?_ | refine ER.binI (op := .or) (b := 1) rfl rfl rfl rfl (by rw [binOp_bits (.inr rfl), (W_or (by decide) (by decide) (by decide) (by omega)).1]) ?_ | refine ER.binI (op := .or) (b := 2) rfl rfl rfl rfl (by rw [binOp_bits (.inr rfl), (W_or (by decide) (by decide) (by decide) (by omega)).2.1]) ?_ | refine ER.binI (op := .or) (b := 4) rfl rfl rfl rfl (by rw [binOp_bits (.inr rfl), (W_or (by decide) (by decide) (by decide) (by omega)).2.2]) ?_ | refine ER.binI2 (op := .shr) rfl rfl rfl rfl (W_shr (by decide) (by decide) (by decide)) ?_ | refine ER.binI (op := .andNot) rfl rfl rfl rfl (by rw [binOp_andN, W_andNot (by decide) (by decide) (by omega)]) ?_ | refine ER.add (kd := .i32) (b := 8) rfl rfl rfl rfl (W_add8 (by decide) (by decide) (by decide) (by omega)) ?_ | refine ER.sub' (kd := .i32) (b := 8) rfl rfl rfl rfl (W_sub8 (by decide) (by decide) (by decide) (by omega) (by omega)) ?_))
        refine EK.ret ?_
        exact EU.ret0 rfl ⟨rfl, rfl, hd, r0.trans hL r1, ha⟩
  · obtain rfl : c = 9 := by omega
    (repeat (first | refine EK.region ?_ | refine ER.done ?_ | refine ER.move rfl rfl rfl ?_ | refine ER.nilCheck rfl rfl rfl ?_ | refine ER.fieldAddr rfl rfl rfl ?_ | refine ER.cmpF rfl rfl rfl rfl rfl (by first | (dsimp only [cmpP]; omega) | exact rfl | exact Int.le_refl _) ?_ | refine EK.condF rfl ?_))
    refine ER.semrelM hL rfl rfl rfl rfl hA (.inr rfl) fun γ₃ q3 a3 => ?_
    (repeat refine ER.done ?_)
    refine EK.done ?_
    exact EU.ret0 rfl ⟨rfl, rfl, rfl, q3, a3⟩
set_option maxHeartbeats 4000000 in
theorem iunlock_ok (hL : L.Ok) (hA : At L i ⟨b, 6, 0⟩ δ.g) : CallW Try.prog false (SitW Try.prog (XF T L) i) 66 #[.pointer (some ⟨b, 2, none⟩)] h δ (Ret (MuQ L i h δ.d δ.g ⟨b, 0, 0⟩)) := by
  refine CallW.start (n := 21) rfl rfl ?_
  (repeat (first | refine EK.seq ?_ | refine EK.region ?_ | refine ER.move rfl rfl rfl ?_ | refine ER.nilCheck rfl rfl rfl ?_ | refine ER.fieldAddr rfl rfl rfl ?_ | refine EK.condT rfl ?_))
  refine ER.loadM (c := 6) hL norace_unlock rfl rfl rfl hA (by decide) fun γ₁ q1 a1 m1 c1 l1 => .inr ?_
  (repeat (first | refine EK.seq ?_ | refine EK.region ?_ | refine ER.done ?_ | refine ER.move rfl rfl rfl ?_))
  refine ER.unsafeM hL rfl rfl rfl (by decide) a1 (by decide) fun γ₂ q2 a2 => ?_
  refine ER.ext rfl rfl rfl rfl (fun Q X hq => semW_marked (by simp) (by simp) hq (hDu := a2.nd)) ?_
  (repeat (first | refine EK.region ?_ | refine ER.done ?_))
  refine ER.ext rfl rfl rfl rfl (fun Q X hq => semW_mark0 (vs := #[]) (by simp) (by simp) hq) ?_
  (repeat (first | refine EK.seq ?_ | refine EK.region ?_ | refine ER.done ?_ | refine ER.move rfl rfl rfl ?_ | refine ER.nilCheck rfl rfl rfl ?_ | refine ER.fieldAddr rfl rfl rfl ?_))
  refine ER.addM (c := 6) hL rfl rfl rfl rfl a2 (by decide) fun γ₃ q3 a3 m3 c3 l3 _ => ?_
  have hb : (γ₃.mu b).b = 1 := by have := m3.hold; have := m3.b1; omega
  have hn := mi_n m3 (fun x => ct_le x) l3
  have hk := m3.k1
  have hs := m3.s1
  have hw : IntKind.i32.wrap ((γ₃.mu b).word + -1) = ({ γ₃.mu b with b := 0 } : Mu).word := by
    rw [i32_in (by rw [Mu.word]; omega) (by rw [Mu.word]; omega)]
    simp only [Mu.word, hb]
    omega
  have key : ∀ c γ₄, Ro L i γ₂ γ₄ -> At L i ⟨b, c, 0⟩ γ₄ -> γ₄.mu b = { γ₃.mu b with b := 0 } -> ((c = 0 /\ (γ₃.mu b).s = 0 /\ ((γ₃.mu b).n = 0 \/ (γ₃.mu b).k = 1)) \/ (c = 7 /\ (γ₃.mu b).s = 0 /\ (γ₃.mu b).n ≠ 0 /\ (γ₃.mu b).k = 0) \/ (c = 9 /\ (γ₃.mu b).s = 1)) ->
      CallW Try.prog false (SitW Try.prog (XF T L) i) 70 #[.pointer (some ⟨b, 2, none⟩), .int .i32 (({ γ₃.mu b with b := 0 } : Mu).word)] h ⟨δ.d + 1, γ₄⟩ (Ret (MuQ L i h (δ.d + 1) γ₄ ⟨b, 0, 0⟩)) := by
    intro c γ₄ q4 a4 e4 hc
    refine unlockSlow_ok (δ := ⟨δ.d + 1, γ₄⟩) (k := (γ₃.mu b).k) (s := (γ₃.mu b).s) (n := (γ₃.mu b).n) hL hk hs hn a4 (hc.imp id fun z => z.imp (fun ⟨z1, z2, z3, z4⟩ => ⟨z1, z2, z3, z4, ?_⟩) id)
    simp only
    rw [e4, Mu.word_eq]
    simp only
    rw [z2, z4]
  obtain ⟨c', hT, hc⟩ : ∃ c', Tr (γ₃.mu b) 6 0 { γ₃.mu b with b := 0 } c' 0 /\ ((c' = 0 /\ (γ₃.mu b).s = 0 /\ ((γ₃.mu b).n = 0 \/ (γ₃.mu b).k = 1)) \/ (c' = 7 /\ (γ₃.mu b).s = 0 /\ (γ₃.mu b).n ≠ 0 /\ (γ₃.mu b).k = 0) \/ (c' = 9 /\ (γ₃.mu b).s = 1)) := by
    by_cases z : (γ₃.mu b).s = 1
    · exact ⟨9, .leaveS z, .inr (.inr ⟨rfl, z⟩)⟩
    · have z0 : (γ₃.mu b).s = 0 := by omega
      by_cases y : (γ₃.mu b).n = 0 \/ (γ₃.mu b).k = 1
      · exact ⟨0, .leave z0 y, .inl ⟨rfl, z0, y⟩⟩
      · exact ⟨7, .leaveU z0 (by omega) (by omega), .inr (.inl ⟨rfl, z0, by omega, by omega⟩)⟩
  refine ⟨{ γ₃.mu b with b := 0 }, c', 0, hw, rfl, hT, fun γ₄ q4 a4 e4 => ?_⟩
  (repeat (first | refine EK.seq ?_ | refine EK.region ?_ | refine ER.done ?_ | refine ER.move rfl rfl rfl ?_ | refine ER.assign rfl rfl rfl ?_))
  refine ER.cmpS rfl rfl rfl rfl rfl (fun hp => ?_) (fun hp => ?_)
  · (repeat (first | refine EK.region ?_ | refine ER.done ?_ | refine ER.move rfl rfl rfl ?_ | refine EK.condT rfl ?_))
    refine ER.callR rfl rfl rfl rfl rfl (key c' γ₄ q4 a4 e4 hc) ?_
    rintro v h' ⟨d', γ'⟩ ⟨rfl, rfl, e1, r1, a1'⟩
    simp only at e1 r1 a1'
    subst e1
    (repeat (first | refine EK.region ?_ | refine ER.done ?_))
    refine ER.ext rfl rfl rfl rfl (fun Q X hq => semW_mark0 (vs := #[]) (by simp) (by simp) hq) ?_
    (repeat refine ER.done ?_)
    refine EK.done ?_
    exact EU.ret0 rfl ⟨rfl, rfl, rfl, ((q1.trans hL q2).trans hL q4).trans hL r1, a1'⟩
  · have hz : ({ γ₃.mu b with b := 0 } : Mu).word = 0 := Classical.not_not.1 hp
    have hc0 : c' = 0 := by
      rw [Mu.word] at hz
      simp only at hz
      omega
    subst hc0
    (repeat (first | refine EK.region ?_ | refine ER.done ?_ | refine EK.skip ?_ | refine EK.condF rfl ?_))
    refine ER.ext rfl rfl rfl rfl (fun Q X hq => semW_mark0 (vs := #[]) (by simp) (by simp) hq) ?_
    (repeat refine ER.done ?_)
    refine EK.done ?_
    exact EU.ret0 rfl ⟨rfl, rfl, rfl, (q1.trans hL q2).trans hL q4, a4⟩
theorem lock_ok (hL : L.Ok) (hA : At L i ⟨b, 1, 0⟩ δ.g) : CallW Try.prog false (SitW Try.prog (XF T L) i) 58 #[.pointer (some ⟨b, 2, none⟩)] h δ (Ret (MuQ L i h δ.d δ.g ⟨b, 6, 0⟩)) := by
  refine CallW.start (n := 6) rfl rfl ?_
  (repeat (first | refine EK.region ?_ | refine ER.move rfl rfl rfl ?_ | refine ER.nilCheck rfl rfl rfl ?_ | refine ER.fieldAddr rfl rfl rfl ?_))
  refine ER.callR rfl rfl rfl rfl rfl (ilock_ok hL hA) ?_
  rintro v h' δ' ⟨rfl, rfl, e1, r1, a1⟩
  (repeat refine ER.done ?_)
  refine EK.done ?_
  exact EU.ret0 rfl ⟨rfl, rfl, e1, r1, a1⟩
theorem unlock_ok (hL : L.Ok) (hA : At L i ⟨b, 6, 0⟩ δ.g) : CallW Try.prog false (SitW Try.prog (XF T L) i) 59 #[.pointer (some ⟨b, 2, none⟩)] h δ (Ret (MuQ L i h δ.d δ.g ⟨b, 0, 0⟩)) := by
  refine CallW.start (n := 6) rfl rfl ?_
  (repeat (first | refine EK.region ?_ | refine ER.move rfl rfl rfl ?_ | refine ER.nilCheck rfl rfl rfl ?_ | refine ER.fieldAddr rfl rfl rfl ?_))
  refine ER.callR rfl rfl rfl rfl rfl (iunlock_ok hL hA) ?_
  rintro v h' δ' ⟨rfl, rfl, e1, r1, a1⟩
  (repeat refine ER.done ?_)
  refine EK.done ?_
  exact EU.ret0 rfl ⟨rfl, rfl, e1, r1, a1⟩
end
end
end Go.Proofs.Ytndllibjlfpndaa
namespace Go.TJ
section
variable [Dm]
open Go Go.Conc
open Go.ConcM (OsLater)
variable {Γ : Type}
structure Hnd (X : Fp Γ) (i : Nat) (γ₁ γ₂ : Γ) (a : Addr) (rd : Bool) (h h' : Hp) (w w' : World) : Prop where
  later : SameL w w'
  frame : ∀ b, ¬ (X.cf γ₁).shb b -> w'.heap[b]? = w.heap[b]?
  size : w'.heap.size = w.heap.size
  inv : X.Inv γ₂ w'.heap
  g : HandG X i γ₁ γ₂ a rd h h' w.heap
  lone : X.lone γ₂ ↔ X.lone γ₁
section
variable {P : Program} {S : Sit Γ} {f : FuncId} {n : Nat} {k : List Item} {env : Env} {ds : List Deferred} {h : Hp} {δ : Ix Γ} {R : Post Γ}
variable {ops : Array Oper} {l : List Oper} {X : Fp Γ} {i : Nat} {c : FuncId} {x : Operand} {args : Array Operand} {ats : Array TypeId} {d : Nat} {ty : TypeId} {pos : String} {af : Array Edge} {g : Option (Nat × Bool)} {a : Addr}
theorem hand_sync (a : Addr) (rd : Bool) : ∀ x ∈ handE a rd, x.sync = true /\ ∀ g, x.loc ≠ .mark (.extern g) := by
  intro x hx
  unfold handE at hx
  cases rd <;> simp at hx
  · subst hx; exact ⟨rfl, fun g h => by cases h⟩
  · rcases hx with rfl | rfl <;> exact ⟨rfl, fun g h => by cases h⟩
theorem ER.handY {e : Array Value -> Sem Value} [he : ExtFn P c e] {vs : List Value} (hS : ∀ g h δ Y, Hand P X i g h δ Y -> S.yld g h δ Y) (hw : wantE ops env g = some true) (hd : Nat.blt d n = true) (hx : ev env x = some (.func (.func c) #[] #[])) (ha : evL env args.toList = some vs) (h0 : 0 < i) (hnd : ¬ X.done i δ.g) (hf : X.fin δ.g i = none) (hdd : δ.d = 0)
    (hop : ∀ γ₁ (w : World), X.R i δ.g γ₁ -> X.Inv γ₁ w.heap -> Part False h w.heap -> (∀ a, Part False (X.bag γ₁ a) w.heap) ->
      (∃ v w' evs γ₂, (e vs.toArray).run P w = .ok v w' /\ (∀ es, (e vs.toArray).events P w es = es ++ evs) /\ (∀ x ∈ evs, x.sync = true /\ ∀ g, x.loc ≠ .mark (.extern g)) /\ Shd X i γ₁ γ₂ 0 w w' evs /\ ER P false S f n ops l k ((d, v) :: env) ds h ⟨deafBehind 0 evs, γ₂⟩ R) \/
      ∃ v w' γ₂ a rd h', (e vs.toArray).run P w = .ok v w' /\ (∀ es, (e vs.toArray).events P w es = es ++ handE a rd) /\ Hnd X i γ₁ γ₂ a rd h h' w w' /\ ER P false S f n ops l k ((d, v) :: env) ds h' ⟨0, γ₂⟩ R) :
    ER P false S f n ops (⟨some d, .call { callee := .value x, args, argTypes := ats }, ty, pos, af, g⟩ :: l) k env ds h δ R := by
  intro rest hr act ka
  obtain ⟨m, r, rfl, ho, hr'⟩ := ER.uncons hr
  intro kind hk cs
  have hwk : mayWake P (G ((fb f kind).at act (.inRegion ops (m :: r) :: k)) cs) = true := mayWake_of ho (wakes_ext (he := he) (ka.eval hx))
  refine .hands (Runs P false S (Left P f kind cs R)) (fun _ _ _ x => x) (hS _ _ _ _ ⟨⟨rfl, rfl⟩, h0, hnd, hf, hdd, fun γ₁ w hR hI hP hB => ?_⟩)
  rcases hop γ₁ w hR hI hP hB with ⟨v, w', evs, γ₂, q1, q2, q3, hs, hn⟩ | ⟨v, w', γ₂, a, rd, h', q1, q2, hs, hn⟩
  · have hrun := execOp_extT (P := P) (c := c) (dst := some d) (ats := ats) (ty := ty) (pos := pos) (af := af) (g := g) (ka.eval hx) (map_ofL (fun x v hx => ka.eval hx) ha) q1 (q2 _)
    have hst := stepG_opv (main := false) (f := f) (k := k) hk (cs := cs) ho (wantE_ok ka hw) (r := r) hrun
    rw [seen_entry f c _ q3] at hst
    exact .inl ⟨_, w', evs, γ₂, hst, rfl, hs.later, .inl hwk, hs.frame, hs.size, hs.inv, hs.mv, hs.fin, hs.ev, hs.late, hs.lone, hn r hr' _ (ka.put v hd) kind hk cs⟩
  · have hrun := execOp_extT (P := P) (c := c) (dst := some d) (ats := ats) (ty := ty) (pos := pos) (af := af) (g := g) (ka.eval hx) (map_ofL (fun x v hx => ka.eval hx) ha) q1 (q2 _)
    have hst := stepG_opv (main := false) (f := f) (k := k) hk (cs := cs) ho (wantE_ok ka hw) (r := r) hrun
    rw [seen_entry f c _ (hand_sync a rd)] at hst
    exact .inr ⟨_, w', γ₂, a, rd, h', hst, rfl, hs.later, .inl hwk, hs.frame, hs.size, hs.inv, hs.g, hs.lone, hn r hr' _ (ka.put v hd) kind hk cs⟩
theorem ER.astoreH (hX : X.Ok) [ExtFn P c Extern.Atomic.storeT] {v : Value} (hv : OneCell v) (hS : ∀ g h δ Y, Hand P X i g h δ Y -> S.yld g h δ Y) (hw : wantE ops env g = some true) (hd : Nat.blt d n = true) (hx : ev env x = some (.func (.func c) #[] #[])) (ha : evL env args.toList = some [.pointer (some a), v]) (h0 : 0 < i) (hnd : ¬ X.done i δ.g) (hf : X.fin δ.g i = none) (hdd : δ.d = 0)
    (hop : ∀ γ₁ (w : World), X.R i δ.g γ₁ -> X.Inv γ₁ w.heap -> Part False h w.heap -> (∀ a, Part False (X.bag γ₁ a) w.heap) -> ∃ u γ₂ h', hcell w.heap a = some u /\ hfroz w.heap a = false /\ X.Inv γ₂ (hset w.heap a v) /\ HandG X i γ₁ γ₂ a false h h' w.heap /\ (X.lone γ₂ ↔ X.lone γ₁) /\ ER P false S f n ops l k ((d, .tuple #[]) :: env) ds h' ⟨0, γ₂⟩ R) :
    ER P false S f n ops (⟨some d, .call { callee := .value x, args, argTypes := ats }, ty, pos, af, g⟩ :: l) k env ds h δ R := by
  refine ER.handY hS hw hd hx ha h0 hnd hf hdd fun γ₁ w hR hI hP hB => .inr ?_
  obtain ⟨u, γ₂, h', hc, hz, hinv, hG, hln, hn⟩ := hop γ₁ w hR hI hP hB
  have hc' : w.cell? a = some u := hc
  have hz' : w.frozen? a = false := hz
  have hr : ∀ es, (Extern.Atomic.storeT #[.pointer (some a), v]).runT P w es = (.ok (.tuple #[]) (w.setCell a v), es ++ #[⟨.cell a, true, true⟩]) := fun es => by
    show (Sem.store .atomic a v (Sem.pure (Value.tuple #[]))).runT P w es = _
    cases v <;> first | exact absurd rfl (hv.1 _) | exact absurd rfl (hv.2 _) | (simp only [Sem.runT, hc', hz', Bool.false_eq_true, if_false, Array.push_eq_append]; rfl)
  have hr2 : ∀ es, ((Extern.Atomic.storeT #[.pointer (some a), v]).run P w, (Extern.Atomic.storeT #[.pointer (some a), v]).events P w es) = (.ok (.tuple #[]) (w.setCell a v), es ++ #[⟨.cell a, true, true⟩]) := fun es => by rw [<- hr es, Sem.runT_eq]
  exact ⟨.tuple #[], w.setCell a v, γ₂, a, false, h', congrArg Prod.fst (hr2 #[]), fun es => congrArg Prod.snd (hr2 es), ⟨(⟨rfl, rfl, rfl⟩ : Same w (w.setCell a v)).later, fun b hb => hset_ne w.heap a v fun z => hb (z ▸ hX.atsh _ _ hG.at_), hset_size _ _ _, hinv, hG, hln⟩, hn⟩
theorem ER.acasH (hX : X.Ok) {kd : IntKind} {y nv : Int} [ExtFn P c (Extern.Atomic.casT (.int kd))] (hS : ∀ g h δ Y, Hand P X i g h δ Y -> S.yld g h δ Y) (hw : wantE ops env g = some true) (hd : Nat.blt d n = true) (hx : ev env x = some (.func (.func c) #[] #[])) (ha : evL env args.toList = some [.pointer (some a), .int kd y, .int kd nv]) (h0 : 0 < i) (hnd : ¬ X.done i δ.g) (hf : X.fin δ.g i = none) (hdd : δ.d = 0)
    (hop : ∀ γ₁ (w : World), X.R i δ.g γ₁ -> X.Inv γ₁ w.heap -> Part False h w.heap -> (∀ a, Part False (X.bag γ₁ a) w.heap) -> ∃ z, hcell w.heap a = some (.int kd z) /\ hfroz w.heap a = false /\ AtOk X i γ₁ 0 a /\
      ((z = y /\ ∃ γ₂ h', X.Inv γ₂ (hset w.heap a (.int kd nv)) /\ HandG X i γ₁ γ₂ a true h h' w.heap /\ (X.lone γ₂ ↔ X.lone γ₁) /\ ER P false S f n ops l k ((d, .bool true) :: env) ds h' ⟨0, γ₂⟩ R) \/ (z ≠ y /\ ∃ γ₂, Gh X i γ₁ γ₂ w.heap /\ ER P false S f n ops l k ((d, .bool false) :: env) ds h ⟨0, γ₂⟩ R))) :
    ER P false S f n ops (⟨some d, .call { callee := .value x, args, argTypes := ats }, ty, pos, af, g⟩ :: l) k env ds h δ R := by
  refine ER.handY hS hw hd hx ha h0 hnd hf hdd fun γ₁ w hR hI hP hB => ?_
  obtain ⟨z, hc, hz, hat, ⟨rfl, γ₂, h', hinv, hG, hln, hn⟩ | ⟨hne, γ₂, hg, hn⟩⟩ := hop γ₁ w hR hI hP hB
  · exact .inr ⟨_, _, γ₂, a, true, h', run_cas_hit_entry hc hz, fun es => by rw [show (Extern.Atomic.casT (.int kd) [Value.pointer (some a), .int kd z, .int kd nv].toArray).events P w es = _ from events_cas_hit_entry hc hz es, Array.push_eq_append, Array.push_eq_append, Array.append_assoc]; rfl, ⟨(⟨rfl, rfl, rfl⟩ : Same w (w.setCell a (.int kd nv))).later, fun b hb => hset_ne w.heap a _ fun z => hb (z ▸ hX.atsh _ _ hG.at_), hset_size _ _ _, hinv, hG, hln⟩, hn⟩
  · exact .inl ⟨_, _, #[⟨.cell a, false, true⟩], γ₂, run_cas_miss_entry hc hz hne, fun es => by rw [show (Extern.Atomic.casT (.int kd) [Value.pointer (some a), .int kd y, .int kd nv].toArray).events P w es = _ from events_cas_miss_entry hc hz hne es, Array.push_eq_append], sync_r a, shd_r hat hg, by simpa [deafBehind] using hn⟩
end
end
section
variable [Dm]
open Go Go.Conc
open Go.ConcN (upd upd_ne upd_same)
variable {Y : Type} {T : Tids} {L : Law Y}
structure LRel (L : Law Y) (i : Nat) (y y' : Y) : Prop where
  stat : Stt L y y'
  pairs : L.pairs y' <= L.pairs y
  vals : L.pairs y' = L.pairs y -> L.val y' = L.val y
  law : L.R i y y'
theorem LRel.refl (hL : L.Ok) (i : Nat) (y : Y) : LRel L i y y := ⟨Stt.refl _ _, Nat.le_refl _, fun _ => rfl, hL.refl _ _⟩
theorem LRel.trans (hL : L.Ok) {i : Nat} {a b c : Y} (x : LRel L i a b) (y : LRel L i b c) : LRel L i a c :=
  ⟨x.stat.trans y.stat, Nat.le_trans y.pairs x.pairs, fun e => by
    have h1 := x.pairs
    have h2 := y.pairs
    exact (y.vals (by omega)).trans (x.vals (by omega)), hL.trans _ _ _ _ x.law y.law⟩
def LRelM (L : Law Y) (m : Nat) (y y' : Y) : Prop := LRel L 0 y y' /\ ∀ j, m <= j -> LRel L j y y'
theorem LRelM.refl (hL : L.Ok) (m : Nat) (y : Y) : LRelM L m y y := ⟨LRel.refl hL _ _, fun _ _ => LRel.refl hL _ _⟩
theorem LRelM.trans (hL : L.Ok) {m : Nat} {a b c : Y} (x : LRelM L m a b) (y : LRelM L m b c) : LRelM L m a c := ⟨x.1.trans hL y.1, fun j hj => (x.2 j hj).trans hL (y.2 j hj)⟩
theorem LRelM.up {m n : Nat} {a b : Y} (x : LRelM L m a b) (h : m <= n) : LRelM L n a b := ⟨x.1, fun j hj => x.2 j (Nat.le_trans h hj)⟩
theorem Ro.lrel {i : Nat} {γ γ' : Gf Y} (r : Ro L i γ γ') : LRel L i γ.y γ'.y := ⟨r.stat, r.pairs, r.vals, r.law⟩
structure LMove (L : Law Y) (i : Nat) (y y' : Y) : Prop where
  stat : Stt L y y'
  law : ∀ j, j ≠ i -> L.R j y y'
  pairs : L.pairs y' <= L.pairs y
  val : L.val y' = L.val y
  arr : L.arr y' = L.arr y
  J : L.J y'
  fin : ∀ j hf, j ≠ i -> L.fin y j hf -> L.fin y' j hf
  may : ∀ j a w, L.may y' j a w -> L.may y j a w
  bag : L.bag y' = L.bag y
  bmay : ∀ b a, L.bmay y' b a -> L.bmay y b a
  atv : L.atv y' = L.atv y
theorem LMove.none (hL : L.Ok) {i : Nat} {y : Y} (hJ : L.J y) : LMove L i y y := ⟨Stt.refl _ _, fun _ _ => hL.refl _ _, Nat.le_refl _, rfl, rfl, hJ, fun _ _ _ h => h, fun _ _ _ h => h, rfl, fun _ _ h => h, rfl⟩
structure LStep0 (L : Law Y) (i b : Nat) (y y' : Y) : Prop where
  stat : Stt L y y'
  law : ∀ j, j ≠ i -> L.R j y y'
  pairs : L.pairs y' + 1 <= L.pairs y
  val : ∀ x, x ≠ b -> L.val y' x = L.val y x
  arr : L.arr y' = L.arr y
  J : L.J y'
  fin : ∀ j hf, j ≠ i -> L.fin y j hf -> L.fin y' j hf
  atv : L.atv y' = L.atv y
structure LStep (L : Law Y) (i b : Nat) (y y' : Y) : Prop extends LStep0 L i b y y' where
  may : ∀ j a w, L.may y' j a w -> L.may y j a w
  bag : L.bag y' = L.bag y
  bmay : ∀ b a, L.bmay y' b a -> L.bmay y b a
structure LHand (L : Law Y) (i b : Nat) (rd : Bool) (y y' : Y) (h h' : Hp) : Prop extends LStep0 L i b y y' where
  bago : ∀ x, x ≠ b -> L.bag y' x = L.bag y x
  bmo : ∀ x a, x ≠ b -> L.bmay y' x a -> L.bmay y x a
  got : ∀ (x : Nat) (o : Obj), h'[x]? = some o -> o ≠ dum -> h[x]? = some o \/ (rd = true /\ (L.bag y b)[x]? = some o)
  put : ∀ (x : Nat) (o : Obj), (L.bag y' b)[x]? = some o -> o ≠ dum -> ¬ L.ro y x /\ (h[x]? = some o \/ (rd = true /\ (L.bag y b)[x]? = some o))
  dj : ∀ x, Pres h' x -> ¬ Pres (L.bag y' b) x
  sz : h'.size <= max h.size (L.bag y b).size
  szb : (L.bag y' b).size <= max h.size (L.bag y b).size
  may : ∀ j a w, L.may y' j a w -> L.may y j a w \/ (j = i /\ (L.may y i a true \/ (rd = true /\ L.bmay y b a)))
  bm : ∀ a, L.bmay y' b a -> L.may y i a true \/ (rd = true /\ L.bmay y b a)
  emp : rd = false -> (∀ x, ¬ Pres (L.bag y b) x) /\ ∀ a, ¬ L.bmay y b a
structure Idle (L : Law Y) (i : Nat) (γ : Gf Y) : Prop where
  on : γ.st = 1
  i0 : 0 < i
  hi : i < γ.num
  c0 : (γ.ph i).c = 0
  wp : γ.wp i = 0
  fn : γ.fn i = none
theorem Idle.rr {i : Nat} {γ γ' : Gf Y} (h : Idle L i γ) (r : Rr L i γ γ') : Idle L i γ' :=
  ⟨r.st.trans h.on, h.i0, Nat.lt_of_lt_of_le h.hi r.num, by rw [r.ph]; exact h.c0, r.wp.trans h.wp, (r.fn h.i0).trans h.fn⟩
theorem Idle.at {i : Nat} {γ : Gf Y} (h : Idle L i γ) : At L i (γ.ph i) γ := ⟨h.on, h.i0, h.hi, rfl, h.wp, h.fn⟩
theorem At.idle {i b : Nat} {γ : Gf Y} (h : At L i ⟨b, 0, 0⟩ γ) : Idle L i γ := ⟨h.on, h.i0, h.hi, by rw [h.ph], h.wp, h.fn⟩
theorem MI.congr {m : Mu} {c c' : Nat -> Nat} (h : MI m c) (e : ∀ x, 2 <= x -> c' x = c x) : MI m c' := by
  obtain ⟨i1, i2, i3, i4, i5, i6, i7⟩ := h
  have e2 := e 2 (by omega)
  have e3 := e 3 (by omega)
  have e4 := e 4 (by omega)
  have e5 := e 5 (by omega)
  have e6 := e 6 (by omega)
  have e7 := e 7 (by omega)
  have e8 := e 8 (by omega)
  have e9 := e 9 (by omega)
  exact ⟨i1, i2, i3, by rw [e6]; exact i4, by rw [e9, e5, e3, e8, e2, e4]; exact i5, by rw [e2, e8, e3, e4, e5, e9]; exact i6, by rw [e7]; exact i7⟩
theorem ct_calm {ph : Nat -> Pc} {n i b' c' : Nat} {p : Pc} (hp : (ph i).c = 0) (hc : p.c = c') (hc1 : c' <= 1) (x : Nat) (hx : 2 <= x) : ct (upd ph i p) n b' x = ct ph n b' x := by
  refine nsum_congr _ _ _ fun j _ => ?_
  by_cases e : j = i
  · subst e
    rw [upd_same, if_neg (fun z => by omega), if_neg (fun z => by omega)]
  · rw [upd_ne ph _ e]
def lawMove (γ : Gf Y) (y' : Y) : Gf Y := { γ with y := y' }
theorem law_move {γ : Gf Y} {i : Nat} {y' : Y} {H : Hp} (hA : Idle L i γ) (hI : InvF T L γ H) (m : LMove L i γ.y y') : InvF T L (lawMove γ y') H /\ Stp L i γ (lawMove γ y') := by
  have J := hI.j
  have hp : pot L (lawMove γ y') + 14 * L.pairs γ.y = pot L γ + 14 * L.pairs y' := by
    unfold pot lawMove
    simp only [m.stat.cls]
    omega
  have hpp := m.pairs
  refine ⟨⟨fun x hx => ?_, fun x t hx => ?_, fun x t hx => ?_, hI.wg, ⟨fun x hx => ?_, J.sn, fun j hj h0 => ?_, ?_, ?_, J.le, m.J, fun j hf j0 hj h => m.fin j hf (fun e => by subst e; rw [show (lawMove γ y').fn j = γ.fn j from rfl, hA.fn] at h; cases h) (J.fin j hf j0 hj h), J.out⟩⟩, ⟨⟨hA.on, hA.hi, rfl, rfl, rfl, m.stat, by omega, fun _ => ⟨rfl, m.val⟩, hpp, fun _ => m.val, m.law, fun _ _ => rfl, fun _ _ => rfl, fun _ _ => rfl, id, fun _ => Nat.le_refl _⟩, m.may, m.bag, m.bmay⟩⟩
  · simp only [lawMove, m.stat.cls] at hx
    simp only [lawMove, m.val]
    exact hI.cell x hx
  · simp only [lawMove, m.stat.arrT] at hx
    simp only [lawMove, m.arr]
    exact hI.arr x t hx
  · simp only [lawMove, m.stat.atT] at hx
    simp only [lawMove, m.atv]
    exact hI.atm x t hx
  · simp only [lawMove, m.stat.cls] at hx
    exact J.mi x hx
  · simp only [lawMove, m.stat.cls]
    exact J.wh j hj h0
  · obtain ⟨w1, w2, w3, w4, w5, w6, w7⟩ := J.wi
    exact ⟨w1, w2, w3, w4, w5, w6, w7⟩
  · simp only [lawMove, m.stat.cls, m.stat.arrT, m.stat.atT]
    exact J.wc
def cellMove (γ : Gf Y) (i b : Nat) (y' : Y) : Gf Y := { γ with y := y', ph := upd γ.ph i ⟨b, 1, 0⟩ }
theorem cell_move0 (hL : L.Ok) {γ : Gf Y} {i b : Nat} {y' : Y} {H H' : Hp} (hA : Idle L i γ) (hI : InvF T L γ H) (hb : b ∈ L.cls γ.y) (m : LStep0 L i b γ.y y') (hH : H'[b]? = some (cellM T (L.val y' b) (γ.mu b))) (hne : ∀ x, x ≠ b -> H'[x]? = H[x]?) :
    InvF T L (cellMove γ i b y') H' /\ Stp0 L i γ (cellMove γ i b y') /\ At L i ⟨b, 1, 0⟩ (cellMove γ i b y') := by
  have J := hI.j
  have hp : pot L (cellMove γ i b y') + 14 * L.pairs γ.y = pot L γ + 13 + 14 * L.pairs y' := by
    have h1 := nsum_upd γ.num (fun j => wt (upd γ.ph i ⟨b, 1, 0⟩ j).c) (fun j => wt (γ.ph j).c) i hA.hi fun j _ hj => by rw [upd_ne γ.ph _ hj]
    simp only [upd_same, hA.c0] at h1
    have w0 : wt 0 = 0 := rfl
    have w1 : wt 1 = 13 := rfl
    rw [w0, w1] at h1
    unfold pot cellMove
    simp only [m.stat.cls]
    omega
  have hpp := m.pairs
  refine ⟨⟨fun x hx => ?_, fun x t hx => ?_, fun x t hx => ?_, ?_, ⟨fun x hx => ?_, fun j hj h5 => ?_, fun j hj h0 => ?_, ?_, ?_, J.le, m.J, fun j hf j0 hj h => m.fin j hf (fun e => by subst e; rw [show (cellMove γ j b y').fn j = γ.fn j from rfl, hA.fn] at h; cases h) (J.fin j hf j0 hj h), J.out⟩⟩, ⟨hA.on, hA.hi, rfl, rfl, rfl, m.stat, by omega, fun e => by omega, by show L.pairs y' <= L.pairs γ.y; omega, fun e => (by have e' : L.pairs y' = L.pairs γ.y := e; omega), m.law, fun j hj => upd_ne γ.ph _ hj, fun _ _ => rfl, fun _ _ => rfl, id, fun _ => Nat.le_refl _⟩, ⟨hA.on, hA.i0, hA.hi, upd_same _ _ _, hA.wp, hA.fn⟩⟩
  · simp only [cellMove, m.stat.cls] at hx
    by_cases e : x = b
    · subst e; exact hH
    · rw [hne x e]
      simp only [cellMove, m.val x e]
      exact hI.cell x hx
  · simp only [cellMove, m.stat.arrT] at hx
    have : x ≠ b := fun z => by subst z; have := hL.dj _ _ J.law hb; rw [this] at hx; cases hx
    rw [hne x this]
    simp only [cellMove, m.arr]
    exact hI.arr x t hx
  · simp only [cellMove, m.stat.atT] at hx
    have : x ≠ b := fun z => by subst z; exact (hL.dja _ _ J.law (by rw [hx]; rfl)).2 hb
    rw [hne x this]
    simp only [cellMove, m.atv]
    exact hI.atm x t hx
  · rw [hne _ (fun z => J.wc.1 (by have z' : γ.wg = b := z; rw [z']; exact hb))]
    exact hI.wg
  · simp only [cellMove, m.stat.cls] at hx
    exact (J.mi x hx).congr fun z hz => ct_calm (p := ⟨b, 1, 0⟩) (c' := 1) hA.c0 rfl (Nat.le_refl _) z hz
  · by_cases e : j = i
    · subst e; simp only [cellMove, upd_same] at h5; omega
    · simp only [cellMove, upd_ne γ.ph _ e] at h5 ⊢; exact J.sn j hj h5
  · by_cases e : j = i
    · subst e
      simp only [cellMove, upd_same, m.stat.cls]
      exact ⟨hA.i0, hb, hA.wp⟩
    · simp only [cellMove, upd_ne γ.ph _ e, m.stat.cls] at h0 ⊢; exact J.wh j hj h0
  · obtain ⟨w1, w2, w3, w4, w5, w6, w7⟩ := J.wi
    exact ⟨w1, w2, w3, w4, w5, w6, w7⟩
  · simp only [cellMove, m.stat.cls, m.stat.arrT, m.stat.atT]
    exact J.wc
theorem cell_move (hL : L.Ok) {γ : Gf Y} {i b : Nat} {y' : Y} {H H' : Hp} (hA : Idle L i γ) (hI : InvF T L γ H) (hb : b ∈ L.cls γ.y) (m : LStep L i b γ.y y') (hH : H'[b]? = some (cellM T (L.val y' b) (γ.mu b))) (hne : ∀ x, x ≠ b -> H'[x]? = H[x]?) :
    InvF T L (cellMove γ i b y') H' /\ Stp L i γ (cellMove γ i b y') /\ At L i ⟨b, 1, 0⟩ (cellMove γ i b y') :=
  let ⟨h1, h2, h3⟩ := cell_move0 hL hA hI hb m.toLStep0 hH hne
  ⟨h1, ⟨h2, m.may, m.bag, m.bmay⟩, h3⟩
theorem xf_bag {γ : Gf Y} {b : Nat} (hon : γ.st = 1) (hb : b ∈ L.cls γ.y) : (XF T L).bag γ ⟨b, 0, none⟩ = L.bag γ.y b := if_pos ⟨hon, hb, rfl⟩
theorem xf_bag_ne {γ γ' : Gf Y} {b : Nat} {a : Addr} (hst : γ'.st = γ.st) (hc : L.cls γ'.y = L.cls γ.y) (hb : ∀ x, x ≠ b -> L.bag γ'.y x = L.bag γ.y x) (ha : a ≠ ⟨b, 0, none⟩) : (XF T L).bag γ' a = (XF T L).bag γ a := by
  show (if γ'.st = 1 /\ a.block ∈ L.cls γ'.y /\ a = ⟨a.block, 0, none⟩ then L.bag γ'.y a.block else #[]) = if γ.st = 1 /\ a.block ∈ L.cls γ.y /\ a = ⟨a.block, 0, none⟩ then L.bag γ.y a.block else #[]
  rw [hst, hc]
  by_cases e : a = ⟨a.block, 0, none⟩
  · rw [hb a.block (fun z => ha (by rw [e, z]))]
  · rw [if_neg (fun z => e z.2.2), if_neg (fun z => e z.2.2)]
theorem hand_g {γ : Gf Y} {i b : Nat} {rd : Bool} {y' : Y} {h h' H : Hp} (hL : L.Ok) (hA : Idle L i γ) (hI : InvF T L γ H) (hb : b ∈ L.cls γ.y) (m : LHand L i b rd γ.y y' h h') (s : Stp0 L i γ (cellMove γ i b y')) (hsz : h.size <= H.size) (hszb : (L.bag γ.y b).size <= H.size) : HandG (XF T L) i γ (cellMove γ i b y') ⟨b, 0, none⟩ rd h h' H := by
  have hb' : b ∈ L.cls (cellMove γ i b y').y := by show b ∈ L.cls y'; rw [m.stat.cls]; exact hb
  have e1 : (XF T L).bag γ ⟨b, 0, none⟩ = L.bag γ.y b := xf_bag hA.on hb
  have e2 : (XF T L).bag (cellMove γ i b y') ⟨b, 0, none⟩ = L.bag y' b := xf_bag (γ := cellMove γ i b y') hA.on hb'
  have hbm : ∀ {x : Nat} {l : Addr}, x ∈ L.cls γ.y -> l.block ≠ γ.wg -> l.block ∉ L.cls γ.y -> (L.arrT γ.y l.block).isSome = true -> L.atT γ.y l.block = none -> L.bmay γ.y x l -> (XF T L).bmay γ ⟨x, 0, none⟩ l := fun z z1 z2 z3 z4 z5 => ⟨hA.on, ⟨z, rfl⟩, z1, z2, z3, z4, z5⟩
  refine ⟨rfl, ?_, fun j hj hn hd => s.rr hj, fun j => rfl, fun j hj => Iff.rfl, ?_, .inr (.inl ⟨hA.on, hb, .inl rfl⟩), fun a ha => xf_bag_ne rfl m.stat.cls m.bago ha, fun a l ha hl => ?_, ?_, ?_, ?_, ?_, ?_, fun j l w hl => ?_, fun l hl => ?_, fun e => ?_⟩
  · simp only [XF]
    rw [s.st, s.wg, s.stat.cls, s.stat.arrT, s.stat.ro, s.stat.atT]
  · exact Iff.rfl
  · obtain ⟨q1, ⟨q2, q3⟩, q4, q5, q6, q7, q8⟩ := hl
    have h1 := m.stat.cls
    have h2 := m.stat.arrT
    have h3 := m.stat.atT
    simp only [cellMove] at q2 q4 q5 q6 q7 q8
    rw [h1] at q2 q5
    rw [h2] at q6
    rw [h3] at q7
    exact ⟨hA.on, ⟨q2, q3⟩, q4, q5, q6, q7, m.bmo _ _ (fun z => ha (by rw [q3, z])) q8⟩
  · rw [e1]; exact m.got
  · rw [e1, e2]
    exact fun x o h1 h2 => ⟨fun z => (m.put x o h1 h2).1 z.2.1, (m.put x o h1 h2).2⟩
  · rw [e2]; exact m.dj
  · exact Nat.le_trans m.sz (Nat.max_le.2 ⟨hsz, hszb⟩)
  · rw [e2]; exact Nat.le_trans m.szb (Nat.max_le.2 ⟨hsz, hszb⟩)
  · obtain ⟨q1, q2, q3⟩ := hl
    have h1 := m.stat.cls
    have h2 := m.stat.arrT
    have h3 := m.stat.atT
    simp only [cellMove] at q2 q3
    rw [h1, h2, h3] at q3
    rcases q3 with q3 | ⟨q3, q4, q5, x, q6, q7⟩
    · exact .inl ⟨hA.on, q2, .inl q3⟩
    · rcases m.may _ _ _ q7 with k | ⟨k, k'⟩
      · exact .inl ⟨hA.on, q2, .inr ⟨q3, q4, q5, x, q6, k⟩⟩
      · subst k
        have hji : j = x := stands_uniq (n := γ.num) q6 (.inr ⟨hA.i0, hA.hi, rfl⟩)
        subst hji
        exact .inr ⟨rfl, k'.imp (fun z => ⟨hA.on, q2, .inr ⟨q3, q4, q5, j, q6, z⟩⟩) fun ⟨z, z'⟩ => ⟨z, hbm hb q2 q3 q4 q5 z'⟩⟩
  · obtain ⟨q1, ⟨q2, q3⟩, q4, q5, q6, q7, q8⟩ := hl
    have h1 := m.stat.cls
    have h2 := m.stat.arrT
    have h3 := m.stat.atT
    simp only [cellMove] at q2 q4 q5 q6 q7 q8
    rw [h1] at q2 q5
    rw [h2] at q6
    rw [h3] at q7
    exact (m.bm _ q8).imp (fun z => ⟨hA.on, q4, .inr ⟨q5, q6, q7, i, .inr ⟨hA.i0, hA.hi, rfl⟩, z⟩⟩) fun ⟨z, z'⟩ => ⟨z, hbm hb q4 q5 q6 q7 z'⟩
  · exact nobag_cell (m.emp e)
section
variable {P : Program} {f : FuncId} {n : Nat} {k : List Item} {env : Env} {ds : List Deferred} {h : Hp} {δ : Ix (Gf Y)} {R : Post (Gf Y)} {ops : Array Oper} {l : List Oper} {i b d : Nat}
variable {x : Operand} {args : Array Operand} {ats : Array TypeId} {ty : TypeId} {pos : String} {af : Array Edge} {g : Option (Nat × Bool)} {cc : FuncId}
theorem at_fin {p : Pc} {γ : Gf Y} (hA : At L i p γ) : ¬ (XF T L).done i γ /\ (XF T L).fin γ i = none := ⟨hA.nd, by show (if i = 0 then none else γ.fn i) = none; rw [hA.fn]; split <;> rfl⟩
theorem ER.loadC (hL : L.Ok) {t : TypeId} [Scal P t] {o : Nat} {v : Value} {p : Pc} (ho : (o = 1 /\ v = .bool true) \/ (o = 4 /\ v = .chan none)) (hw : wantE ops env g = some true) (hd : Nat.blt d n = true) (hx : ev env x = some (.pointer (some ⟨b, o, none⟩))) (hA : At L i p δ.g) (hb : b ∈ L.cls δ.g.y)
    (hop : ∀ γ₁, Rr L i δ.g γ₁ -> ER P false (SitW P (XF T L) i) f n ops l k ((d, v) :: env) ds h ⟨δ.d, γ₁⟩ R) : ER P false (SitW P (XF T L) i) f n ops (⟨some d, .load t x, ty, pos, af, g⟩ :: l) k env ds h δ R := by
  refine ER.loadS (xf_ok T L hL) opp_w hw hd hx (fun _ => at_fin hA) fun γ₁ w hR hI hP => ?_
  have hA1 := hA.rr hR
  have hF := hI.2 hA1.on
  have hb1 : b ∈ L.cls γ₁.y := by rw [hR.stat.cls]; exact hb
  have hc := cellM_cell (hF.cell b hb1)
  refine ⟨v, ?_, .inl ⟨hA1.on, fun z => hF.j.wc.1 (by rw [<- z]; exact hb1), .inl ⟨hb1, ?_, rfl⟩⟩, hop γ₁ hR⟩
  · rcases ho with ⟨rfl, rfl⟩ | ⟨rfl, rfl⟩
    · exact hc.2.1
    · exact hc.2.2.2.2.1
  · rcases ho with ⟨rfl, _⟩ | ⟨rfl, _⟩
    · exact .inl rfl
    · exact .inr rfl
theorem ER.loadV (hL : L.Ok) [ExtFn P cc (Extern.Atomic.loadT (.int .i64))] (hw : wantE ops env g = some true) (hd : Nat.blt d n = true) (hx : ev env x = some (.func (.func cc) #[] #[])) (ha : evL env args.toList = some [.pointer (some ⟨b, 0, none⟩)]) (hA : Idle L i δ.g) (hb : b ∈ L.cls δ.g.y)
    (hop : ∀ γ₁, Rr L i δ.g γ₁ -> Idle L i γ₁ -> L.J γ₁.y -> ∃ y', LMove L i γ₁.y y' /\ ∀ γ₂, γ₂.y = y' -> γ₂.wg = δ.g.wg -> Idle L i γ₂ -> ER P false (SitW P (XF T L) i) f n ops l k ((d, .int .i64 (L.val γ₁.y b)) :: env) ds h ⟨δ.d, γ₂⟩ R) :
    ER P false (SitW P (XF T L) i) f n ops (⟨some d, .call { callee := .value x, args, argTypes := ats }, ty, pos, af, g⟩ :: l) k env ds h δ R := by
  refine ER.aloadS opp_w hw hd hx ha (fun _ => hA.at.nd) fun γ₁ w hR hI hP => ?_
  have hA1 := hA.rr hR
  have hF := hI.2 hA1.on
  have hb1 : b ∈ L.cls γ₁.y := by rw [hR.stat.cls]; exact hb
  obtain ⟨y', m, hn⟩ := hop γ₁ hR hA1 hF.j.law
  obtain ⟨h1, h2⟩ := law_move hA1 hF m
  exact ⟨L.val γ₁.y b, lawMove γ₁ y', (cellM_cell (hF.cell b hb1)).1, atok_cell hA1.at hb1 (.inl rfl), gh_of h2 hI.1 rfl h1, hn _ rfl hR.wg ⟨hA1.on, hA1.i0, hA1.hi, hA1.c0, hA1.wp, hA1.fn⟩⟩
theorem ER.storeV (hL : L.Ok) {z : Int} [ExtFn P cc Extern.Atomic.storeT] (hw : wantE ops env g = some true) (hd : Nat.blt d n = true) (hx : ev env x = some (.func (.func cc) #[] #[])) (ha : evL env args.toList = some [.pointer (some ⟨b, 0, none⟩), .int .i64 z]) (hA : Idle L i δ.g) (hb : b ∈ L.cls δ.g.y) (hnb : ∀ y, L.J y -> LRel L i δ.g.y y -> LNoBag L y b)
    (hop : ∀ γ₁, Rr L i δ.g γ₁ -> Idle L i γ₁ -> L.J γ₁.y -> ∃ y', LStep L i b γ₁.y y' /\ L.val y' b = z /\ ∀ γ₂, γ₂.y = y' -> γ₂.wg = δ.g.wg -> At L i ⟨b, 1, 0⟩ γ₂ -> ER P false (SitW P (XF T L) i) f n ops l k ((d, .tuple #[]) :: env) ds h ⟨δ.d, γ₂⟩ R) :
    ER P false (SitW P (XF T L) i) f n ops (⟨some d, .call { callee := .value x, args, argTypes := ats }, ty, pos, af, g⟩ :: l) k env ds h δ R := by
  refine ER.astoreS (xf_ok T L hL) (by simp [OneCell]) opp_w hw hd hx ha (fun _ => hA.at.nd) fun γ₁ w hR hI hP => ?_
  have hA1 := hA.rr hR
  have hF := hI.2 hA1.on
  have hb1 : b ∈ L.cls γ₁.y := by rw [hR.stat.cls]; exact hb
  obtain ⟨y', m, hv, hn⟩ := hop γ₁ hR hA1 hF.j.law
  have hc := hF.cell b hb1
  obtain ⟨h1, h2, h3⟩ := cell_move (H' := hset w.heap ⟨b, 0, none⟩ (.int .i64 z)) hL hA1 hF hb1 m (cellM_set hc _ (.inl ⟨rfl, by rw [hv], rfl⟩)) fun y hy => hset_ne w.heap _ _ (fun z => hy z.symm)
  exact ⟨_, cellMove γ₁ i b y', (cellM_cell hc).1, (cellM_cell hc).2.2.2.2.2 0, ⟨atok_cell hA1.at hb1 (.inl rfl), nobag_cell (hnb _ hF.j.law hR.toRo.lrel)⟩, gh_of h2 hI.1 rfl h1, hn _ rfl hR.wg h3⟩
theorem ER.casV (hL : L.Ok) {u z : Int} [ExtFn P cc (Extern.Atomic.casT (.int .i64))] (hw : wantE ops env g = some true) (hd : Nat.blt d n = true) (hx : ev env x = some (.func (.func cc) #[] #[])) (ha : evL env args.toList = some [.pointer (some ⟨b, 0, none⟩), .int .i64 u, .int .i64 z]) (hA : Idle L i δ.g) (hb : b ∈ L.cls δ.g.y) (hnb : ∀ y, L.J y -> LRel L i δ.g.y y -> LNoBag L y b)
    (hop : ∀ γ₁, Rr L i δ.g γ₁ -> Idle L i γ₁ -> L.J γ₁.y -> (L.val γ₁.y b = u -> ∃ y', LStep L i b γ₁.y y' /\ L.val y' b = z /\ ∀ γ₂, γ₂.y = y' -> γ₂.wg = δ.g.wg -> At L i ⟨b, 1, 0⟩ γ₂ -> ER P false (SitW P (XF T L) i) f n ops l k ((d, .bool true) :: env) ds h ⟨δ.d, γ₂⟩ R) /\
      (L.val γ₁.y b ≠ u -> ∃ y', LMove L i γ₁.y y' /\ ∀ γ₂, γ₂.y = y' -> γ₂.wg = δ.g.wg -> Idle L i γ₂ -> ER P false (SitW P (XF T L) i) f n ops l k ((d, .bool false) :: env) ds h ⟨δ.d, γ₂⟩ R)) :
    ER P false (SitW P (XF T L) i) f n ops (⟨some d, .call { callee := .value x, args, argTypes := ats }, ty, pos, af, g⟩ :: l) k env ds h δ R := by
  refine ER.acasS (xf_ok T L hL) opp_w hw hd hx ha (fun _ => hA.at.nd) fun γ₁ w hR hI hP => ?_
  have hA1 := hA.rr hR
  have hF := hI.2 hA1.on
  have hb1 : b ∈ L.cls γ₁.y := by rw [hR.stat.cls]; exact hb
  have hc := hF.cell b hb1
  obtain ⟨k1, k2⟩ := hop γ₁ hR hA1 hF.j.law
  refine ⟨L.val γ₁.y b, (cellM_cell hc).1, (cellM_cell hc).2.2.2.2.2 0, ⟨atok_cell hA1.at hb1 (.inl rfl), nobag_cell (hnb _ hF.j.law hR.toRo.lrel)⟩, ?_⟩
  by_cases e : L.val γ₁.y b = u
  · obtain ⟨y', m, hv, hn⟩ := k1 e
    obtain ⟨h1, h2, h3⟩ := cell_move (H' := hset w.heap ⟨b, 0, none⟩ (.int .i64 z)) hL hA1 hF hb1 m (cellM_set hc _ (.inl ⟨rfl, by rw [hv], rfl⟩)) fun y hy => hset_ne w.heap _ _ (fun z => hy z.symm)
    exact .inl ⟨e, cellMove γ₁ i b y', gh_of h2 hI.1 rfl h1, hn _ rfl hR.wg h3⟩
  · obtain ⟨y', m, hn⟩ := k2 e
    obtain ⟨h1, h2⟩ := law_move hA1 hF m
    exact .inr ⟨e, lawMove γ₁ y', gh_of h2 hI.1 rfl h1, hn _ rfl hR.wg ⟨hA1.on, hA1.i0, hA1.hi, hA1.c0, hA1.wp, hA1.fn⟩⟩
theorem hand_w : ∀ g h δ Yy, Hand P (XF T L) i g h δ Yy -> (SitW P (XF T L) i).yld g h δ Yy := fun _ _ _ _ z => .inr (.inr (.inr z))
theorem hand_gh {γ : Gf Y} {y' : Y} (hA : Idle L i γ) : (XF T L).lone (cellMove γ i b y') ↔ (XF T L).lone γ := by
  show (γ.st ≠ 1 /\ _) ↔ (γ.st ≠ 1 /\ _)
  rw [hA.on]
  constructor <;> (rintro ⟨h, _⟩; omega)
theorem ER.storeH (hL : L.Ok) {z : Int} [ExtFn P cc Extern.Atomic.storeT] (hw : wantE ops env g = some true) (hd : Nat.blt d n = true) (hx : ev env x = some (.func (.func cc) #[] #[])) (ha : evL env args.toList = some [.pointer (some ⟨b, 0, none⟩), .int .i64 z]) (hA : Idle L i δ.g) (hb : b ∈ L.cls δ.g.y) (hdd : δ.d = 0)
    (hop : ∀ γ₁, Rr L i δ.g γ₁ -> Idle L i γ₁ -> L.J γ₁.y -> (∃ H : Hp, Part False h H /\ Part False (L.bag γ₁.y b) H) -> ∃ y' h', LHand L i b false γ₁.y y' h h' /\ L.val y' b = z /\ ∀ γ₂, γ₂.y = y' -> γ₂.wg = δ.g.wg -> At L i ⟨b, 1, 0⟩ γ₂ -> ER P false (SitW P (XF T L) i) f n ops l k ((d, .tuple #[]) :: env) ds h' ⟨0, γ₂⟩ R) :
    ER P false (SitW P (XF T L) i) f n ops (⟨some d, .call { callee := .value x, args, argTypes := ats }, ty, pos, af, g⟩ :: l) k env ds h δ R := by
  refine ER.astoreH (xf_ok T L hL) (by simp [OneCell]) hand_w hw hd hx ha hA.i0 hA.at.nd (at_fin hA.at).2 hdd fun γ₁ w hR hI hP hB => ?_
  have hA1 := hA.rr hR
  have hF := hI.2 hA1.on
  have hb1 : b ∈ L.cls γ₁.y := by rw [hR.stat.cls]; exact hb
  have hpb := hB ⟨b, 0, none⟩
  rw [xf_bag hA1.on hb1] at hpb
  have hsb := hpb.size
  obtain ⟨y', h', m, hv, hn⟩ := hop γ₁ hR hA1 hF.j.law ⟨w.heap, hP, hpb⟩
  have hc := hF.cell b hb1
  obtain ⟨h1, h2, h3⟩ := cell_move0 (H' := hset w.heap ⟨b, 0, none⟩ (.int .i64 z)) hL hA1 hF hb1 m.toLStep0 (cellM_set hc _ (.inl ⟨rfl, by rw [hv], rfl⟩)) fun y hy => hset_ne w.heap _ _ (fun z => hy z.symm)
  exact ⟨_, cellMove γ₁ i b y', h', (cellM_cell hc).1, (cellM_cell hc).2.2.2.2.2 0, ⟨hI.1, fun _ => h1⟩, hand_g hL hA1 hF hb1 m h2 hP.size hsb, hand_gh hA1, hn _ rfl hR.wg h3⟩
theorem ER.casH (hL : L.Ok) {u z : Int} [ExtFn P cc (Extern.Atomic.casT (.int .i64))] (hw : wantE ops env g = some true) (hd : Nat.blt d n = true) (hx : ev env x = some (.func (.func cc) #[] #[])) (ha : evL env args.toList = some [.pointer (some ⟨b, 0, none⟩), .int .i64 u, .int .i64 z]) (hA : Idle L i δ.g) (hb : b ∈ L.cls δ.g.y) (hdd : δ.d = 0)
    (hop : ∀ γ₁, Rr L i δ.g γ₁ -> Idle L i γ₁ -> L.J γ₁.y -> (∃ H : Hp, Part False h H /\ Part False (L.bag γ₁.y b) H) -> (L.val γ₁.y b = u -> ∃ y' h', LHand L i b true γ₁.y y' h h' /\ L.val y' b = z /\ ∀ γ₂, γ₂.y = y' -> γ₂.wg = δ.g.wg -> At L i ⟨b, 1, 0⟩ γ₂ -> ER P false (SitW P (XF T L) i) f n ops l k ((d, .bool true) :: env) ds h' ⟨0, γ₂⟩ R) /\
      (L.val γ₁.y b ≠ u -> ∃ y', LMove L i γ₁.y y' /\ ∀ γ₂, γ₂.y = y' -> γ₂.wg = δ.g.wg -> Idle L i γ₂ -> ER P false (SitW P (XF T L) i) f n ops l k ((d, .bool false) :: env) ds h ⟨0, γ₂⟩ R)) :
    ER P false (SitW P (XF T L) i) f n ops (⟨some d, .call { callee := .value x, args, argTypes := ats }, ty, pos, af, g⟩ :: l) k env ds h δ R := by
  refine ER.acasH (xf_ok T L hL) hand_w hw hd hx ha hA.i0 hA.at.nd (at_fin hA.at).2 hdd fun γ₁ w hR hI hP hB => ?_
  have hA1 := hA.rr hR
  have hF := hI.2 hA1.on
  have hb1 : b ∈ L.cls γ₁.y := by rw [hR.stat.cls]; exact hb
  have hc := hF.cell b hb1
  have hpb := hB ⟨b, 0, none⟩
  rw [xf_bag hA1.on hb1] at hpb
  have hsb := hpb.size
  obtain ⟨k1, k2⟩ := hop γ₁ hR hA1 hF.j.law ⟨w.heap, hP, hpb⟩
  refine ⟨L.val γ₁.y b, (cellM_cell hc).1, (cellM_cell hc).2.2.2.2.2 0, atok_cell hA1.at hb1 (.inl rfl), ?_⟩
  by_cases e : L.val γ₁.y b = u
  · obtain ⟨y', h', m, hv, hn⟩ := k1 e
    obtain ⟨h1, h2, h3⟩ := cell_move0 (H' := hset w.heap ⟨b, 0, none⟩ (.int .i64 z)) hL hA1 hF hb1 m.toLStep0 (cellM_set hc _ (.inl ⟨rfl, by rw [hv], rfl⟩)) fun y hy => hset_ne w.heap _ _ (fun z => hy z.symm)
    exact .inl ⟨e, cellMove γ₁ i b y', h', ⟨hI.1, fun _ => h1⟩, hand_g hL hA1 hF hb1 m h2 hP.size hsb, hand_gh hA1, hn _ rfl hR.wg h3⟩
  · obtain ⟨y', m, hn⟩ := k2 e
    obtain ⟨h1, h2⟩ := law_move hA1 hF m
    exact .inr ⟨e, lawMove γ₁ y', gh_of h2 hI.1 rfl h1, hn _ rfl hR.wg ⟨hA1.on, hA1.i0, hA1.hi, hA1.c0, hA1.wp, hA1.fn⟩⟩
end
end
section
variable [Dm]
open Go Go.Conc
open Go.ConcN (upd upd_ne upd_same)
variable {Y : Type} {T : Tids} {L : Law Y}
def wgMove (γ : Gf Y) (i p : Nat) (f : Option Hp) (v w z : Nat) : Gf Y := { γ with wp := upd γ.wp i p, fn := upd γ.fn i f, wv := v, ww := w, wz := z }
theorem cw_upd {γ : Gf Y} {i p : Nat} {f : Option Hp} {v w z : Nat} (h0 : 0 < i) (hi : i < γ.num) (x : Nat) : cw (wgMove γ i p f v w z) x + (if γ.wp i = x then 1 else 0) = cw γ x + (if p = x then 1 else 0) := by
  have := nsum_upd γ.num (fun j => if 0 < j /\ upd γ.wp i p j = x then 1 else 0) (fun j => if 0 < j /\ γ.wp j = x then 1 else 0) i hi fun j _ hj => by rw [upd_ne γ.wp _ hj]
  simp only [upd_same, h0, true_and] at this
  exact this
theorem cw_main {γ : Gf Y} {p : Nat} {f : Option Hp} {v w z : Nat} (x : Nat) : cw (wgMove γ 0 p f v w z) x = cw γ x := by
  refine nsum_congr _ _ _ fun j _ => ?_
  by_cases e : j = 0
  · subst e; simp
  · simp only [wgMove, upd_ne γ.wp _ e]
theorem cw_pos {γ : Gf Y} {i : Nat} (h0 : 0 < i) (hi : i < γ.num) : 0 < cw γ (γ.wp i) := by
  have := nsum_pos γ.num (fun j => if 0 < j /\ γ.wp j = γ.wp i then 1 else 0) i hi
  simp only [h0, true_and, if_true] at this
  exact this
theorem cw_le {γ : Gf Y} (x : Nat) : cw γ x <= γ.num := nsum_le _ _ fun j _ => by split <;> omega
theorem wg_move {γ : Gf Y} {i p : Nat} {f : Option Hp} {v w z : Nat} {H H' : Hp} (hon : γ.st = 1) (hi : i < γ.num) (hc : (γ.ph i).c = 0) (hI : InvF T L γ H) (hH : H'[γ.wg]? = some (wgO T v w z)) (hne : ∀ x, x ≠ γ.wg -> H'[x]? = H[x]?) (hjw : JW (wgMove γ i p f v w z)) (hfin : ∀ hf, 0 < i -> f = some hf -> L.fin γ.y i hf)
    (hv : i ≠ 0 -> v <= γ.wv) (hdn : γ.dn i -> (wgMove γ i p f v w z).dn i) (hL : L.Ok) : InvF T L (wgMove γ i p f v w z) H' /\ Stp L i γ (wgMove γ i p f v w z) := by
  have J := hI.j
  refine ⟨⟨fun x hx => ?_, fun x t hx => ?_, fun x t hx => ?_, hH, ⟨J.mi, J.sn, fun j hj h0 => ?_, hjw, J.wc, J.le, J.law, fun j hf j0 hj h => ?_, fun j hj => (by rw [show (wgMove γ i p f v w z).fn j = γ.fn j from upd_ne γ.fn _ (by have hj' : γ.num <= j := hj; omega)]; exact J.out j hj)⟩⟩, ⟨⟨hon, hi, rfl, rfl, rfl, Stt.refl _ _, Nat.le_refl _, fun _ => ⟨rfl, rfl⟩, Nat.le_refl _, fun _ => rfl, fun _ _ => hL.refl _ _, fun _ _ => rfl, fun j hj => upd_ne γ.wp _ hj, fun j hj => upd_ne γ.fn _ hj, hdn, hv⟩, fun _ _ _ z => z, rfl, fun _ _ z => z⟩⟩
  · rw [hne x (fun e => J.wc.1 (by rw [<- e]; exact hx))]
    exact hI.cell x hx
  · rw [hne x (fun e => by have h := J.wc.2.1; rw [<- e] at h; rw [show L.arrT (wgMove γ i p f v w z).y x = L.arrT γ.y x from rfl, h] at hx; cases hx)]
    exact hI.arr x t hx
  · rw [hne x (fun e => by have h := J.wc.2.2; rw [<- e] at h; rw [show L.atT (wgMove γ i p f v w z).y x = L.atT γ.y x from rfl, h] at hx; cases hx)]
    exact hI.atm x t hx
  · obtain ⟨q1, q2, q3⟩ := J.wh j hj h0
    have : j ≠ i := fun e => by subst e; exact h0 hc
    exact ⟨q1, q2, by show upd γ.wp i p j = 0; rw [upd_ne γ.wp _ this]; exact q3⟩
  · by_cases e : j = i
    · subst e
      rw [show (wgMove γ j p f v w z).fn j = f from upd_same _ _ _] at h
      exact hfin hf j0 h
    · rw [show (wgMove γ i p f v w z).fn j = γ.fn j from upd_ne γ.fn _ e] at h
      exact J.fin j hf j0 hj h
theorem wgO_cell {H : Hp} {b v w z : Nat} (h : H[b]? = some (wgO T v w z)) : hcell H ⟨b, 0, none⟩ = some (.int .u64 ((v * 4294967296 + w : Nat) : Int)) /\ hcell H ⟨b, 1, none⟩ = some (.int .u32 z) /\ ∀ o, hfroz H ⟨b, o, none⟩ = false :=
  ⟨hcell_of h rfl, hcell_of h rfl, fun _ => hfroz_of h⟩
theorem wgO_set {H : Hp} {b v w z v' w' z' o : Nat} {x : Value} (h : H[b]? = some (wgO T v w z)) (hx : (o = 0 /\ x = .int .u64 ((v' * 4294967296 + w' : Nat) : Int) /\ z' = z) \/ (o = 1 /\ x = .int .u32 z' /\ v' = v /\ w' = w)) : (hset H ⟨b, o, none⟩ x)[b]? = some (wgO T v' w' z') := by
  rw [hset_get, if_pos rfl, h]
  rcases hx with ⟨rfl, rfl, rfl⟩ | ⟨rfl, rfl, rfl, rfl⟩ <;> rfl
structure Wk (L : Law Y) (i p : Nat) (γ : Gf Y) : Prop where
  on : γ.st = 1
  i0 : 0 < i
  hi : i < γ.num
  c0 : (γ.ph i).c = 0
  wp : γ.wp i = p
  fn : (γ.fn i).isSome = true
theorem Wk.rr {i p : Nat} {γ γ' : Gf Y} (h : Wk L i p γ) (r : Rr L i γ γ') : Wk L i p γ' :=
  ⟨r.st.trans h.on, h.i0, Nat.lt_of_lt_of_le h.hi r.num, by rw [r.ph]; exact h.c0, r.wp.trans h.wp, by rw [r.fn h.i0]; exact h.fn⟩
theorem Wk.nd {i p : Nat} {γ : Gf Y} (h : Wk L i p γ) (hp : p ≠ 3) : ¬ γ.dn i := fun z => hp (h.wp.symm.trans z.1)
theorem Wk.dn {i : Nat} {γ : Gf Y} (h : Wk L i 3 γ) : γ.dn i := ⟨h.wp, h.fn⟩
section
variable {P : Program} {f : FuncId} {n : Nat} {k : List Item} {env : Env} {ds : List Deferred} {h : Hp} {δ : Ix (Gf Y)} {R : Post (Gf Y)} {ops : Array Oper} {l : List Oper} {i d b : Nat}
variable {x : Operand} {args : Array Operand} {ats : Array TypeId} {ty : TypeId} {pos : String} {af : Array Edge} {g : Option (Nat × Bool)} {cc : FuncId}
theorem ER.wRls (hL : L.Ok) [ExtFn P cc (Extern.Race.marked .releaseMerge)] (hw : wantE ops env g = some true) (hd : Nat.blt d n = true) (hx : ev env x = some (.func (.func cc) #[] #[])) (ha : evL env args.toList = some [.pointer (some ⟨b, 0, none⟩)]) (hA : Idle L i δ.g) (hb : δ.g.wg = b) (hdd : δ.d = 0)
    (hop : ∀ γ₁, Rr L i δ.g γ₁ -> L.J γ₁.y -> L.fin γ₁.y i h /\ ∀ γ₂, γ₂.wg = b -> Wk L i 1 γ₂ -> ER P false (SitW P (XF T L) i) f n ops l k ((d, .tuple #[]) :: env) ds #[] ⟨0, γ₂⟩ R) :
    ER P false (SitW P (XF T L) i) f n ops (⟨some d, .call { callee := .value x, args, argTypes := ats }, ty, pos, af, g⟩ :: l) k env ds h δ R := by
  refine ER.rlsS (X := XF T L) (i := i) (fun _ _ _ _ z => .inr (.inr (.inl z))) hw hd hx ha hA.i0 hA.at.nd hdd fun γ₁ w hR hI hP => ?_
  have hA1 := hA.rr hR
  have hF := hI.2 hA1.on
  obtain ⟨hf, hn⟩ := hop γ₁ hR hF.j.law
  obtain ⟨w1, w2, w3, w4, w5, w6, w7⟩ := hF.j.wi
  have cu := fun y => cw_upd (γ := γ₁) (p := 1) (f := some h) (v := γ₁.wv) (w := γ₁.ww) (z := γ₁.wz) hA1.i0 hA1.hi y
  have hn0 : (0 : Nat) ≠ i := by have := hA1.i0; omega
  have hwi := hA1.wp
  have m0 : (wgMove γ₁ i 1 (some h) γ₁.wv γ₁.ww γ₁.wz).wp 0 = γ₁.wp 0 := upd_ne γ₁.wp _ hn0
  have hJW : JW (wgMove γ₁ i 1 (some h) γ₁.wv γ₁.ww γ₁.wz) := by
    have c0 := cu 0
    have c1 := cu 1
    have c2 := cu 2
    have c4 := cu 4
    simp [hwi] at c0 c1 c2 c4
    refine ⟨?_, ?_, ?_, ?_, ?_, fun j => ?_, fun j j0 hj => ?_⟩
    · rw [m0]; show γ₁.wv = _; omega
    · rw [m0, c2, c4]; exact w2
    · rw [m0, c2, c4]; exact w3
    · rw [m0, c2, c4]; exact w4
    · rw [m0]; exact w5
    · by_cases e : j = i
      · subst e; rw [show (wgMove γ₁ j 1 (some h) γ₁.wv γ₁.ww γ₁.wz).wp j = 1 from upd_same _ _ _]; omega
      · rw [show (wgMove γ₁ i 1 (some h) γ₁.wv γ₁.ww γ₁.wz).wp j = γ₁.wp j from upd_ne γ₁.wp _ e]; exact w6 j
    · by_cases e : j = i
      · subst e
        rw [show (wgMove γ₁ j 1 (some h) γ₁.wv γ₁.ww γ₁.wz).wp j = 1 from upd_same _ _ _, show (wgMove γ₁ j 1 (some h) γ₁.wv γ₁.ww γ₁.wz).fn j = some h from upd_same _ _ _]
        simp
      · rw [show (wgMove γ₁ i 1 (some h) γ₁.wv γ₁.ww γ₁.wz).wp j = γ₁.wp j from upd_ne γ₁.wp _ e, show (wgMove γ₁ i 1 (some h) γ₁.wv γ₁.ww γ₁.wz).fn j = γ₁.fn j from upd_ne γ₁.fn _ e]
        exact w7 j j0 hj
  obtain ⟨g1, g2⟩ := wg_move (T := T) (H' := w.heap) hA1.on hA1.hi hA1.c0 hF hF.wg (fun _ _ => rfl) hJW (fun hf' _ e => by cases e; exact hf) (fun _ => Nat.le_refl _) (fun z => absurd z hA1.at.nd) hL
  have hi0 : i ≠ 0 := by have := hA1.i0; omega
  refine ⟨by show (⟨γ₁.wg, 0, none⟩ : Addr) = ⟨b, 0, none⟩; rw [hR.wg, hb], _, ⟨by rw [g2.num]; exact hI.1, fun _ => g1⟩, g2.mv, ?_, ?_, ?_, hn _ (hR.wg.trans hb) ⟨hA1.on, hA1.i0, hA1.hi, hA1.c0, upd_same _ _ _, by rw [show (wgMove γ₁ i 1 (some h) γ₁.wv γ₁.ww γ₁.wz).fn i = some h from upd_same _ _ _]; rfl⟩⟩
  · show (if i = 0 then none else γ₁.fn i) = none
    rw [if_neg hi0]; exact hA1.fn
  · show (if i = 0 then none else upd γ₁.fn i (some h) i) = some h
    rw [if_neg hi0, upd_same]
  · show (γ₁.st ≠ 1 /\ _) ↔ (γ₁.st ≠ 1 /\ _)
    rw [hA1.on]
    constructor <;> (rintro ⟨z, _⟩; omega)
theorem atok_wg {γ : Gf Y} {dd o : Nat} (hon : γ.st = 1) (hd : 0 < i -> 0 < dd) : AtOk (XF T L) i γ dd ⟨γ.wg, o, none⟩ :=
  ⟨.inl ⟨by rw [hon]; omega, rfl⟩, fun h0 _ => ⟨rfl, hd h0⟩⟩
theorem atokW_wg {γ : Gf Y} {dd o : Nat} (hon : γ.st = 1) (hwc : γ.wg ∉ L.cls γ.y) (hd : 0 < i -> 0 < dd) : AtOkW (XF T L) i γ dd ⟨γ.wg, o, none⟩ := ⟨atok_wg hon hd, nobag_of fun z => hwc z.1⟩
theorem wg_gh (hL : L.Ok) {γ : Gf Y} {p v w z o : Nat} {W : World} {u : Value} (hon : γ.st = 1) (hi : i < γ.num) (hc : (γ.ph i).c = 0) (hI : (XF T L).Inv γ W.heap) (hjw : JW (wgMove γ i p (γ.fn i) v w z)) (hu : (o = 0 /\ u = .int .u64 ((v * 4294967296 + w : Nat) : Int) /\ z = γ.wz) \/ (o = 1 /\ u = .int .u32 z /\ v = γ.wv /\ w = γ.ww))
    (hv : i ≠ 0 -> v <= γ.wv) (hdn : γ.dn i -> (wgMove γ i p (γ.fn i) v w z).dn i) : Gh (XF T L) i γ (wgMove γ i p (γ.fn i) v w z) (hset W.heap ⟨γ.wg, o, none⟩ u) := by
  have hF := hI.2 hon
  obtain ⟨g1, g2⟩ := wg_move (T := T) (H' := hset W.heap ⟨γ.wg, o, none⟩ u) hon hi hc hF (wgO_set hF.wg hu) (fun y hy => hset_ne W.heap _ _ (fun z => hy z.symm)) hjw (fun hf h0 e => hF.j.fin i hf h0 hi e) hv hdn hL
  exact gh_of g2 hI.1 (upd_same _ _ _) g1
theorem jw_worker {γ : Gf Y} {p v w z : Nat} (h0 : 0 < i) (hi : i < γ.num) (J : JW γ) (hp : p <= 4) (hp0 : p ≠ 0) (hw0 : γ.wp i ≠ 0)
    (hv : ∀ c : Nat -> Nat, (∀ x, c x + (if γ.wp i = x then 1 else 0) = cw γ x + (if p = x then 1 else 0)) ->
      (v = c 0 + c 1 + (if γ.wp 0 = 1 then 1 else 0)) /\ (γ.wp 0 <= 1 -> w = 0 /\ z = 0 /\ c 2 = 0 /\ c 4 = 0) /\ (γ.wp 0 = 2 -> (0 < v -> w = 1 /\ z = 0 /\ c 2 = 0 /\ c 4 = 0) /\ (v = 0 -> c 2 + c 4 + z = 1 /\ w = c 2)) /\ (γ.wp 0 = 3 -> v = 0 /\ w = 0 /\ z = 0 /\ c 2 = 0 /\ c 4 = 0)) : JW (wgMove γ i p (γ.fn i) v w z) := by
  have m0 : (wgMove γ i p (γ.fn i) v w z).wp 0 = γ.wp 0 := upd_ne γ.wp _ (by omega)
  obtain ⟨a1, a2, a3, a4⟩ := hv _ (fun x => cw_upd (γ := γ) (p := p) (f := γ.fn i) (v := v) (w := w) (z := z) h0 hi x)
  refine ⟨by rw [m0]; exact a1, by rw [m0]; exact a2, by rw [m0]; exact a3, by rw [m0]; exact a4, by rw [m0]; exact J.le0, fun j => ?_, fun j j0 hj => ?_⟩
  · by_cases e : j = i
    · subst e; rw [show (wgMove γ j p (γ.fn j) v w z).wp j = p from upd_same _ _ _]; exact hp
    · rw [show (wgMove γ i p (γ.fn i) v w z).wp j = γ.wp j from upd_ne γ.wp _ e]; exact J.le j
  · by_cases e : j = i
    · subst e
      rw [show (wgMove γ j p (γ.fn j) v w z).wp j = p from upd_same _ _ _, show (wgMove γ j p (γ.fn j) v w z).fn j = γ.fn j from upd_same _ _ _]
      have := J.fn j j0 hj
      exact ⟨fun z => absurd z hp0, fun z => absurd (this.2 z) hw0⟩
    · rw [show (wgMove γ i p (γ.fn i) v w z).wp j = γ.wp j from upd_ne γ.wp _ e, show (wgMove γ i p (γ.fn i) v w z).fn j = γ.fn j from upd_ne γ.fn _ e]
      exact J.fn j j0 hj
theorem u64_in {x : Int} (h1 : 0 <= x) (h2 : x < 18446744073709551616) : IntKind.u64.wrap x = x := by
  simp only [IntKind.wrap, IntKind.signed, IntKind.bits]
  simp
  omega
theorem u64_down {v w : Nat} (h0 : 0 < v) (hv : v <= 1000) (hw : w <= 1) : IntKind.u64.wrap (((v * 4294967296 + w : Nat) : Int) + 18446744069414584320) = (((v - 1) * 4294967296 + w : Nat) : Int) := by
  simp only [IntKind.wrap, IntKind.signed, IntKind.bits]
  simp
  omega
theorem ER.wAdd (hL : L.Ok) [ExtFn P cc (Extern.Atomic.update (Op.intArith .add) .u64 true)] (hw : wantE ops env g = some true) (hd : Nat.blt d n = true) (hx : ev env x = some (.func (.func cc) #[] #[])) (ha : evL env args.toList = some [.pointer (some ⟨b, 0, none⟩), .int .u64 18446744069414584320]) (hA : Wk L i 1 δ.g) (hb : δ.g.wg = b) (hdd : 0 < δ.d)
    (h1 : ∀ γ₂ (v w : Nat), γ₂.wg = b -> Wk L i 3 γ₂ -> v <= 200 -> w <= 1 -> (0 < v \/ w = 0) -> ER P false (SitW P (XF T L) i) f n ops l k ((d, .int .u64 ((v * 4294967296 + w : Nat) : Int)) :: env) ds h ⟨δ.d, γ₂⟩ R)
    (h2 : ∀ γ₂, γ₂.wg = b -> Wk L i 2 γ₂ -> ER P false (SitW P (XF T L) i) f n ops l k ((d, .int .u64 1) :: env) ds h ⟨δ.d, γ₂⟩ R) :
    ER P false (SitW P (XF T L) i) f n ops (⟨some d, .call { callee := .value x, args, argTypes := ats }, ty, pos, af, g⟩ :: l) k env ds h δ R := by
  subst hb
  refine ER.aaddS (xf_ok T L hL) opp_w hw hd hx ha (fun _ => hA.nd (by omega)) fun γ₁ w hR hI hP => ?_
  have hA1 := hA.rr hR
  have hF := hI.2 hA1.on
  obtain ⟨w1, w2, w3, w4, w5, w6, w7⟩ := hF.j.wi
  have hcp := cw_pos hA1.i0 hA1.hi
  rw [hA1.wp] at hcp
  have hvp : 0 < γ₁.wv := by omega
  have hle := hF.j.le
  have hv2 : γ₁.wv <= 200 := by
    have a0 := cw_le (γ := γ₁) 0
    have a1 := cw_le (γ := γ₁) 1
    have : (if γ₁.wp 0 = 1 then 1 else 0) <= 1 := by split <;> omega
    omega
  have hww : γ₁.ww <= 1 /\ γ₁.wp 0 ≠ 3 := by
    have : γ₁.wp 0 <= 1 \/ γ₁.wp 0 = 2 \/ γ₁.wp 0 = 3 := by omega
    rcases this with e | e | e
    · have := w2 e; exact ⟨by omega, by omega⟩
    · have := (w3 e).1 hvp; exact ⟨by omega, by omega⟩
    · have := w4 e; omega
  have hwg : γ₁.wg = δ.g.wg := hR.wg
  have hcell := wgO_cell hF.wg
  have hne0 : i ≠ 0 := by have := hA1.i0; omega
  refine ⟨((γ₁.wv * 4294967296 + γ₁.ww : Nat) : Int), ?_⟩
  rw [<- hwg]
  by_cases e : 0 < γ₁.wv - 1 \/ γ₁.ww = 0
  · have hjw : JW (wgMove γ₁ i 3 (γ₁.fn i) (γ₁.wv - 1) γ₁.ww γ₁.wz) := jw_worker hA1.i0 hA1.hi hF.j.wi (by omega) (by omega) (by rw [hA1.wp]; omega) fun c hc => by
      have c0 := hc 0
      have c1 := hc 1
      have c2 := hc 2
      have c4 := hc 4
      simp [hA1.wp] at c0 c1 c2 c4
      refine ⟨by omega, fun z => ?_, fun z => ⟨fun _ => ?_, fun z2 => ?_⟩, fun z => absurd z hww.2⟩
      · have := w2 z; omega
      · have := (w3 z).1 hvp; omega
      · have := (w3 z).1 hvp; omega
    have hg := wg_gh (T := T) (o := 0) (u := .int .u64 (((γ₁.wv - 1) * 4294967296 + γ₁.ww : Nat) : Int)) hL hA1.on hA1.hi hA1.c0 hI hjw (.inl ⟨rfl, rfl, rfl⟩) (fun _ => Nat.sub_le _ _) (fun z => absurd z (hA1.nd (by omega)))
    refine ⟨_, hcell.1, hcell.2.2 0, atokW_wg hA1.on hF.j.wc.1 (fun _ => hdd), by rw [u64_down hvp (by omega) hww.1]; exact hg, ?_⟩
    rw [u64_down hvp (by omega) hww.1]
    exact h1 _ _ _ hwg ⟨hA1.on, hA1.i0, hA1.hi, hA1.c0, upd_same _ _ _, by rw [show (wgMove γ₁ i 3 (γ₁.fn i) (γ₁.wv - 1) γ₁.ww γ₁.wz).fn i = γ₁.fn i from upd_same _ _ _]; exact hA1.fn⟩ (by omega) hww.1 e
  · have e1 : γ₁.wv = 1 := by omega
    have e2 : γ₁.ww = 1 := by omega
    have hjw : JW (wgMove γ₁ i 2 (γ₁.fn i) (γ₁.wv - 1) γ₁.ww γ₁.wz) := jw_worker hA1.i0 hA1.hi hF.j.wi (by omega) (by omega) (by rw [hA1.wp]; omega) fun c hc => by
      have c0 := hc 0
      have c1 := hc 1
      have c2 := hc 2
      have c4 := hc 4
      simp [hA1.wp] at c0 c1 c2 c4
      refine ⟨by omega, fun z => ?_, fun z => ⟨fun _ => ?_, fun z2 => ?_⟩, fun z => absurd z hww.2⟩
      · have := w2 z; omega
      · omega
      · have := (w3 z).1 hvp; omega
    have hg := wg_gh (T := T) (o := 0) (u := .int .u64 (((γ₁.wv - 1) * 4294967296 + γ₁.ww : Nat) : Int)) hL hA1.on hA1.hi hA1.c0 hI hjw (.inl ⟨rfl, rfl, rfl⟩) (fun _ => Nat.sub_le _ _) (fun z => absurd z (hA1.nd (by omega)))
    refine ⟨_, hcell.1, hcell.2.2 0, atokW_wg hA1.on hF.j.wc.1 (fun _ => hdd), by rw [u64_down hvp (by omega) hww.1]; exact hg, ?_⟩
    rw [u64_down hvp (by omega) hww.1, e1, e2]
    exact h2 _ hwg ⟨hA1.on, hA1.i0, hA1.hi, hA1.c0, upd_same _ _ _, by rw [show (wgMove γ₁ i 2 (γ₁.fn i) (1 - 1) 1 γ₁.wz).fn i = γ₁.fn i from upd_same _ _ _]; exact hA1.fn⟩
theorem jw_last {γ : Gf Y} (h0 : 0 < i) (hi : i < γ.num) (J : JW γ) (hw : γ.wp i = 2 \/ γ.wp i = 4) : γ.wp 0 = 2 /\ γ.wv = 0 /\ γ.wz = 0 /\ cw γ 0 = 0 /\ cw γ 1 = 0 /\ ((γ.wp i = 2 /\ γ.ww = 1 /\ cw γ 2 = 1 /\ cw γ 4 = 0) \/ (γ.wp i = 4 /\ γ.ww = 0 /\ cw γ 2 = 0 /\ cw γ 4 = 1)) := by
  obtain ⟨w1, w2, w3, w4, w5, w6, w7⟩ := J
  have hcp := cw_pos h0 hi
  have : γ.wp 0 <= 1 \/ γ.wp 0 = 2 \/ γ.wp 0 = 3 := by omega
  rcases hw with e | e <;> rw [e] at hcp
  · rcases this with z | z | z
    · have := w2 z; omega
    · rw [if_neg (by omega)] at w1
      have a := (w3 z).1
      have b := (w3 z).2
      omega
    · have := w4 z; omega
  · rcases this with z | z | z
    · have := w2 z; omega
    · rw [if_neg (by omega)] at w1
      have a := (w3 z).1
      have b := (w3 z).2
      omega
    · have := w4 z; omega
theorem ER.wLoad (hL : L.Ok) [ExtFn P cc (Extern.Atomic.loadT (.int .u64))] (hw : wantE ops env g = some true) (hd : Nat.blt d n = true) (hx : ev env x = some (.func (.func cc) #[] #[])) (ha : evL env args.toList = some [.pointer (some ⟨b, 0, none⟩)]) (hA : Wk L i 2 δ.g) (hb : δ.g.wg = b) (hdd : 0 < δ.d)
    (hn : ∀ γ₂, γ₂.wg = b -> Wk L i 2 γ₂ -> ER P false (SitW P (XF T L) i) f n ops l k ((d, .int .u64 1) :: env) ds h ⟨δ.d, γ₂⟩ R) :
    ER P false (SitW P (XF T L) i) f n ops (⟨some d, .call { callee := .value x, args, argTypes := ats }, ty, pos, af, g⟩ :: l) k env ds h δ R := by
  subst hb
  have hX := xf_ok T L hL
  refine ER.aloadS opp_w hw hd hx ha (fun _ => hA.nd (by omega)) fun γ₁ w hR hI hP => ?_
  have hA1 := hA.rr hR
  have hF := hI.2 hA1.on
  obtain ⟨j1, j2, j3, j4, j5, j6⟩ := jw_last hA1.i0 hA1.hi hF.j.wi (.inl hA1.wp)
  have hw1 : γ₁.ww = 1 := by have := hA1.wp; omega
  have hc := (wgO_cell hF.wg).1
  rw [j2, hw1] at hc
  refine ⟨1, γ₁, by rw [<- hR.wg]; exact hc, by rw [<- hR.wg]; exact atok_wg hA1.on (fun _ => hdd), ⟨hI, Mv.refl' hX i γ₁, rfl, Iff.rfl⟩, hn _ hR.wg hA1⟩
theorem ER.wStore (hL : L.Ok) [ExtFn P cc Extern.Atomic.storeT] (hw : wantE ops env g = some true) (hd : Nat.blt d n = true) (hx : ev env x = some (.func (.func cc) #[] #[])) (ha : evL env args.toList = some [.pointer (some ⟨b, 0, none⟩), .int .u64 0]) (hA : Wk L i 2 δ.g) (hb : δ.g.wg = b) (hdd : 0 < δ.d)
    (hn : ∀ γ₂, γ₂.wg = b -> Wk L i 4 γ₂ -> ER P false (SitW P (XF T L) i) f n ops l k ((d, .tuple #[]) :: env) ds h ⟨δ.d, γ₂⟩ R) :
    ER P false (SitW P (XF T L) i) f n ops (⟨some d, .call { callee := .value x, args, argTypes := ats }, ty, pos, af, g⟩ :: l) k env ds h δ R := by
  subst hb
  refine ER.astoreS (xf_ok T L hL) (by simp [OneCell]) opp_w hw hd hx ha (fun _ => hA.nd (by omega)) fun γ₁ w hR hI hP => ?_
  have hA1 := hA.rr hR
  have hF := hI.2 hA1.on
  obtain ⟨j1, j2, j3, j4, j5, j6⟩ := jw_last hA1.i0 hA1.hi hF.j.wi (.inl hA1.wp)
  have hw1 : γ₁.ww = 1 /\ cw γ₁ 2 = 1 /\ cw γ₁ 4 = 0 := by have := hA1.wp; omega
  have hjw : JW (wgMove γ₁ i 4 (γ₁.fn i) 0 0 γ₁.wz) := jw_worker hA1.i0 hA1.hi hF.j.wi (by omega) (by omega) (by rw [hA1.wp]; omega) fun c hc => by
    have c0 := hc 0
    have c1 := hc 1
    have c2 := hc 2
    have c4 := hc 4
    simp [hA1.wp] at c0 c1 c2 c4
    refine ⟨?_, fun z => by omega, fun z => ⟨fun _ => by omega, fun z2 => by omega⟩, fun z => by omega⟩
    rw [if_neg (by omega)]; omega
  have hg := wg_gh (T := T) (o := 0) (u := .int .u64 0) hL hA1.on hA1.hi hA1.c0 hI hjw (.inl ⟨rfl, rfl, rfl⟩) (fun _ => Nat.zero_le _) (fun z => absurd z (hA1.nd (by omega)))
  have hcell := wgO_cell hF.wg
  refine ⟨_, wgMove γ₁ i 4 (γ₁.fn i) 0 0 γ₁.wz, by rw [<- hR.wg]; exact hcell.1, by rw [<- hR.wg]; exact hcell.2.2 0, by rw [<- hR.wg]; exact atokW_wg hA1.on hF.j.wc.1 (fun _ => hdd), by rw [<- hR.wg]; exact hg, hn _ hR.wg ⟨hA1.on, hA1.i0, hA1.hi, hA1.c0, upd_same _ _ _, by rw [show (wgMove γ₁ i 4 (γ₁.fn i) 0 0 γ₁.wz).fn i = γ₁.fn i from upd_same _ _ _]; exact hA1.fn⟩⟩
theorem ER.wSem (hL : L.Ok) {vs : List Value} [ExtFn P cc Extern.Sync.semrelease] (hw : wantE ops env g = some true) (hd : Nat.blt d n = true) (hx : ev env x = some (.func (.func cc) #[] #[])) (ha : evL env args.toList = some (.pointer (some ⟨b, 1, none⟩) :: vs)) (hA : Wk L i 4 δ.g) (hb : δ.g.wg = b) (hdd : 0 < δ.d)
    (hn : ∀ γ₂, γ₂.wg = b -> Wk L i 3 γ₂ -> ER P false (SitW P (XF T L) i) f n ops l k ((d, .tuple #[]) :: env) ds h ⟨δ.d, γ₂⟩ R) :
    ER P false (SitW P (XF T L) i) f n ops (⟨some d, .call { callee := .value x, args, argTypes := ats }, ty, pos, af, g⟩ :: l) k env ds h δ R := by
  subst hb
  refine ER.semrelS (xf_ok T L hL) opp_w hw hd hx ha (fun _ => hA.nd (by omega)) fun γ₁ w hR hI hP => ?_
  have hA1 := hA.rr hR
  have hF := hI.2 hA1.on
  obtain ⟨j1, j2, j3, j4, j5, j6⟩ := jw_last hA1.i0 hA1.hi hF.j.wi (.inr hA1.wp)
  have hw1 : γ₁.ww = 0 /\ cw γ₁ 2 = 0 /\ cw γ₁ 4 = 1 := by have := hA1.wp; omega
  have hjw : JW (wgMove γ₁ i 3 (γ₁.fn i) γ₁.wv γ₁.ww 1) := jw_worker hA1.i0 hA1.hi hF.j.wi (by omega) (by omega) (by rw [hA1.wp]; omega) fun c hc => by
    have c0 := hc 0
    have c1 := hc 1
    have c2 := hc 2
    have c4 := hc 4
    simp [hA1.wp] at c0 c1 c2 c4
    refine ⟨?_, fun z => by omega, fun z => ⟨fun _ => by omega, fun z2 => by omega⟩, fun z => by omega⟩
    rw [if_neg (by omega)]; omega
  have hg := wg_gh (T := T) (o := 1) (u := .int .u32 1) hL hA1.on hA1.hi hA1.c0 hI hjw (.inr ⟨rfl, rfl, rfl, rfl⟩) (fun _ => Nat.le_refl _) (fun z => absurd z (hA1.nd (by omega)))
  have hcell := wgO_cell hF.wg
  refine ⟨(γ₁.wz : Int), wgMove γ₁ i 3 (γ₁.fn i) γ₁.wv γ₁.ww 1, by rw [<- hR.wg]; exact hcell.2.1, by rw [<- hR.wg]; exact hcell.2.2 1, by rw [<- hR.wg]; exact atokW_wg hA1.on hF.j.wc.1 (fun _ => hdd), ?_, hn _ hR.wg ⟨hA1.on, hA1.i0, hA1.hi, hA1.c0, upd_same _ _ _, by rw [show (wgMove γ₁ i 3 (γ₁.fn i) γ₁.wv γ₁.ww 1).fn i = γ₁.fn i from upd_same _ _ _]; exact hA1.fn⟩⟩
  rw [j3, <- hR.wg]
  exact hg
end
end
section
variable [Dm]
open Go Go.Conc
open Go.ConcN (upd upd_ne upd_same)
variable {Y : Type} {T : Tids} {L : Law Y}
structure Mn (p m b : Nat) (γ : Gf Y) : Prop where
  on : γ.st = 1
  wp : γ.wp 0 = p
  num : γ.num = m
  wg : γ.wg = b
theorem Mn.rr {p m b : Nat} {γ γ' : Gf Y} (h : Mn p m b γ) (r : Rr L 0 γ γ') : Mn p m b γ' := ⟨r.st.trans h.on, r.wp.trans h.wp, (r.nm rfl).trans h.num, r.wg.trans h.wg⟩
theorem Rr.lrelM {p m b : Nat} {γ γ' : Gf Y} (r : Rr L 0 γ γ') (hM : Mn p m b γ) : LRelM L m γ.y γ'.y :=
  ⟨r.toRo.lrel, fun j hj => ⟨r.stat, r.pairs, r.vals, r.un rfl j (by rw [hM.num]; exact hj)⟩⟩
def AllDn (γ : Gf Y) : Prop := ∀ j, 0 < j -> j < γ.num -> γ.dn j
theorem AllDn.rr {γ γ' : Gf Y} (h : AllDn γ) (r : Rr L 0 γ γ') : AllDn γ' := fun j h0 hj => r.dn rfl j (h j h0 (by rw [<- r.nm rfl]; exact hj))
theorem main_c0 {γ : Gf Y} {H : Hp} (hI : InvF T L γ H) (hp : 0 < γ.num) : (γ.ph 0).c = 0 := Classical.byContradiction fun h => by
  have := (hI.j.wh 0 hp h).1
  omega
theorem jw_main {γ : Gf Y} {p v w z : Nat} {f : Option Hp} (J : JW γ) (hp : p <= 3)
    (h : (v = cw γ 0 + cw γ 1 + (if p = 1 then 1 else 0)) /\ (p <= 1 -> w = 0 /\ z = 0 /\ cw γ 2 = 0 /\ cw γ 4 = 0) /\ (p = 2 -> (0 < v -> w = 1 /\ z = 0 /\ cw γ 2 = 0 /\ cw γ 4 = 0) /\ (v = 0 -> cw γ 2 + cw γ 4 + z = 1 /\ w = cw γ 2)) /\ (p = 3 -> v = 0 /\ w = 0 /\ z = 0 /\ cw γ 2 = 0 /\ cw γ 4 = 0)) : JW (wgMove γ 0 p f v w z) := by
  have m0 : (wgMove γ 0 p f v w z).wp 0 = p := upd_same γ.wp 0 p
  obtain ⟨a1, a2, a3, a4⟩ := h
  refine ⟨by rw [m0]; simp only [cw_main]; exact a1, by rw [m0]; simp only [cw_main]; exact a2, by rw [m0]; simp only [cw_main]; exact a3, by rw [m0]; simp only [cw_main]; exact a4, by rw [m0]; exact hp, fun j => ?_, fun j j0 hj => ?_⟩
  · by_cases e : j = 0
    · subst e; rw [m0]; omega
    · rw [show (wgMove γ 0 p f v w z).wp j = γ.wp j from upd_ne γ.wp _ e]; exact J.le j
  · have e : j ≠ 0 := by omega
    rw [show (wgMove γ 0 p f v w z).wp j = γ.wp j from upd_ne γ.wp _ e, show (wgMove γ 0 p f v w z).fn j = γ.fn j from upd_ne γ.fn _ e]
    exact J.fn j j0 hj
theorem all_dn {γ : Gf Y} (J : JW γ) (h0 : cw γ 0 = 0) (h1 : cw γ 1 = 0) (h2 : cw γ 2 = 0) (h4 : cw γ 4 = 0) : AllDn γ := fun j j0 hj => by
  have hp := cw_pos j0 hj
  have hl := J.le j
  have h3 : γ.wp j = 3 := by
    have : γ.wp j = 0 \/ γ.wp j = 1 \/ γ.wp j = 2 \/ γ.wp j = 3 \/ γ.wp j = 4 := by omega
    rcases this with e | e | e | e | e <;> first | exact e | (rw [e] at hp; omega)
  refine ⟨h3, ?_⟩
  cases e : γ.fn j with
  | none => exact absurd ((J.fn j j0 hj).2 e) (by omega)
  | some x => rfl
section
variable {P : Program} {f : FuncId} {n : Nat} {k : List Item} {env : Env} {ds : List Deferred} {h : Hp} {δ : Ix (Gf Y)} {R : Post (Gf Y)} {ops : Array Oper} {l : List Oper} {m d b : Nat}
variable {x : Operand} {args : Array Operand} {ats : Array TypeId} {ty : TypeId} {pos : String} {af : Array Edge} {g : Option (Nat × Bool)} {cc : FuncId}
theorem opp_m : ∀ g h δ Yy, Opp P true (XF T L) 0 g h δ Yy -> (SitM P (XF T L)).yld g h δ Yy := fun _ _ _ _ z => .inr (.inl z)
theorem main_gh (hL : L.Ok) {γ : Gf Y} {p v w z o : Nat} {W : World} {u : Value} (hM : Mn p m b γ) (hI : (XF T L).Inv γ W.heap) {p' : Nat} (hjw : JW (wgMove γ 0 p' (γ.fn 0) v w z)) (hu : (o = 0 /\ u = .int .u64 ((v * 4294967296 + w : Nat) : Int) /\ z = γ.wz) \/ (o = 1 /\ u = .int .u32 z /\ v = γ.wv /\ w = γ.ww)) (hp3 : p ≠ 3) :
    Gh (XF T L) 0 γ (wgMove γ 0 p' (γ.fn 0) v w z) (hset W.heap ⟨b, o, none⟩ u) := by
  have := wg_gh (T := T) (i := 0) (W := W) hL hM.on hI.1 (main_c0 (hI.2 hM.on) hI.1) hI hjw hu (fun z => absurd rfl z) (fun z => absurd (hM.wp.symm.trans z.1) hp3)
  rw [<- hM.wg]; exact this
theorem mn_of {γ : Gf Y} {p p' v w z : Nat} {f : Option Hp} (hM : Mn p m b γ) : Mn p' m b (wgMove γ 0 p' f v w z) := ⟨hM.on, upd_same γ.wp 0 p', hM.num, hM.wg⟩
theorem u64_up {v w : Nat} (hv : v <= 1000) (hw : w <= 1) : IntKind.u64.wrap (((v * 4294967296 + w : Nat) : Int) + 4294967296) = (((v + 1) * 4294967296 + w : Nat) : Int) := by
  simp only [IntKind.wrap, IntKind.signed, IntKind.bits]
  simp
  omega
theorem wv_le {γ : Gf Y} (J : JW γ) (hn : γ.num <= 65) : γ.wv <= 200 := by
  have a0 := cw_le (γ := γ) 0
  have a1 := cw_le (γ := γ) 1
  have : (if γ.wp 0 = 1 then 1 else 0) <= 1 := by split <;> omega
  have := J.v
  omega
theorem ER.mAdd (hL : L.Ok) [ExtFn P cc (Extern.Atomic.update (Op.intArith .add) .u64 true)] (hw : wantE ops env g = some true) (hd : Nat.blt d n = true) (hx : ev env x = some (.func (.func cc) #[] #[])) (ha : evL env args.toList = some [.pointer (some ⟨b, 0, none⟩), .int .u64 4294967296]) (hM : Mn 0 m b δ.g)
    (hn : ∀ γ₂ (v : Nat), LRelM L m δ.g.y γ₂.y -> Mn 1 m b γ₂ -> v <= 200 -> ER P true (SitM P (XF T L)) f n ops l k ((d, .int .u64 (((v + 1) * 4294967296 + 0 : Nat) : Int)) :: env) ds h ⟨δ.d, γ₂⟩ R) :
    ER P true (SitM P (XF T L)) f n ops (⟨some d, .call { callee := .value x, args, argTypes := ats }, ty, pos, af, g⟩ :: l) k env ds h δ R := by
  refine ER.aaddS (xf_ok T L hL) opp_m hw hd hx ha (fun z => absurd z (Nat.lt_irrefl _)) fun γ₁ w hR hI hP => ?_
  have hM1 := hM.rr hR
  have hF := hI.2 hM1.on
  obtain ⟨w1, w2, w3, w4, w5, w6, w7⟩ := hF.j.wi
  obtain ⟨e1, e2, e3, e4⟩ := w2 (by rw [hM1.wp]; omega)
  have hv := wv_le hF.j.wi hF.j.le
  have hjw : JW (wgMove γ₁ 0 1 (γ₁.fn 0) (γ₁.wv + 1) γ₁.ww γ₁.wz) := jw_main hF.j.wi (by omega) ⟨by rw [if_pos rfl]; rw [hM1.wp] at w1; simp at w1; omega, fun _ => ⟨e1, e2, e3, e4⟩, fun z => by omega, fun z => by omega⟩
  have hg := main_gh (o := 0) (u := .int .u64 (((γ₁.wv + 1) * 4294967296 + γ₁.ww : Nat) : Int)) hL hM1 hI hjw (.inl ⟨rfl, rfl, rfl⟩) (by omega)
  have hcell := wgO_cell hF.wg
  have hwg : γ₁.wg = b := hM1.wg
  rw [hwg] at hcell
  refine ⟨_, wgMove γ₁ 0 1 (γ₁.fn 0) (γ₁.wv + 1) γ₁.ww γ₁.wz, hcell.1, hcell.2.2 0, by rw [<- hwg]; exact atokW_wg hM1.on hF.j.wc.1 (fun z => absurd z (Nat.lt_irrefl _)), by rw [u64_up (by omega) (by omega)]; exact hg, ?_⟩
  rw [u64_up (by omega) (by omega), e1]
  exact hn _ _ (hR.lrelM hM) (mn_of hM1) hv
theorem ER.mSaid (hL : L.Ok) {mk : Addr -> Mark} (hmk : (∀ a, mk a = .read a) \/ ∀ a, mk a = .write a) [ExtFn P cc (Extern.Race.marked mk)] {p : Nat} (hw : wantE ops env g = some true) (hd : Nat.blt d n = true) (hx : ev env x = some (.func (.func cc) #[] #[])) (ha : evL env args.toList = some [.pointer (some ⟨b, 1, none⟩)]) (hM : Mn p m b δ.g)
    (hn : ∀ γ₂, Rr L 0 δ.g γ₂ -> Mn p m b γ₂ -> ER P true (SitM P (XF T L)) f n ops l k ((d, .tuple #[]) :: env) ds h ⟨δ.d, γ₂⟩ R) :
    ER P true (SitM P (XF T L)) f n ops (⟨some d, .call { callee := .value x, args, argTypes := ats }, ty, pos, af, g⟩ :: l) k env ds h δ R := by
  refine ER.saidS (xf_ok T L hL) hmk opp_m hw hd hx ha fun γ₁ w hR hI hP => ?_
  have hM1 := hM.rr hR
  exact ⟨.inl ⟨by rw [hM1.on]; omega, hM1.wg.symm⟩, hn _ hR hM1⟩
theorem ER.mUnsafe (hL : L.Ok) {src dst t sz by_ : Nat} {z : Value} [Und P src (.pointer t)] [Und P dst .unsafePointer] [Inf P t sz by_ z] {p o : Nat} (ho : o = 0 \/ o = 1) (hw : wantE ops env g = some true) (hd : Nat.blt d n = true) (hx : ev env x = some (.pointer (some ⟨b, o, none⟩))) (hsz : sz ≠ 0) (hM : Mn p m b δ.g)
    (hn : ∀ γ₂, Rr L 0 δ.g γ₂ -> Mn p m b γ₂ -> ER P true (SitM P (XF T L)) f n ops l k ((d, .pointer (some ⟨b, o, none⟩)) :: env) ds h ⟨δ.d, γ₂⟩ R) :
    ER P true (SitM P (XF T L)) f n ops (⟨some d, .convert src dst x, ty, pos, af, g⟩ :: l) k env ds h δ R := by
  refine ER.toUnsafeS (i := 0) (xf_ok T L hL) opp_m hw hd hx hsz (fun z => absurd z (Nat.lt_irrefl _)) fun γ₁ w hR hI hP => ?_
  have hM1 := hM.rr hR
  have hF := hI.2 hM1.on
  have hcell := wgO_cell hF.wg
  rw [hM1.wg] at hcell
  rcases ho with rfl | rfl
  · exact ⟨_, hcell.1, hn _ hR hM1⟩
  · exact ⟨_, hcell.2.1, hn _ hR hM1⟩
theorem ER.mLoad (hL : L.Ok) [ExtFn P cc (Extern.Atomic.loadT (.int .u64))] (hw : wantE ops env g = some true) (hd : Nat.blt d n = true) (hx : ev env x = some (.func (.func cc) #[] #[])) (ha : evL env args.toList = some [.pointer (some ⟨b, 0, none⟩)]) (hM : Mn 0 m b δ.g)
    (h1 : ∀ γ₂, LRelM L m δ.g.y γ₂.y -> Mn 3 m b γ₂ -> AllDn γ₂ -> ER P true (SitM P (XF T L)) f n ops l k ((d, .int .u64 0) :: env) ds h ⟨δ.d, γ₂⟩ R)
    (h2 : ∀ γ₂, Rr L 0 δ.g γ₂ -> Mn 0 m b γ₂ -> 0 < γ₂.wv -> γ₂.wv <= 200 -> ER P true (SitM P (XF T L)) f n ops l k ((d, .int .u64 ((γ₂.wv * 4294967296 + 0 : Nat) : Int)) :: env) ds h ⟨δ.d, γ₂⟩ R) :
    ER P true (SitM P (XF T L)) f n ops (⟨some d, .call { callee := .value x, args, argTypes := ats }, ty, pos, af, g⟩ :: l) k env ds h δ R := by
  have hX := xf_ok T L hL
  refine ER.aloadS (i := 0) opp_m hw hd hx ha (fun z => absurd z (Nat.lt_irrefl _)) fun γ₁ w hR hI hP => ?_
  have hM1 := hM.rr hR
  have hF := hI.2 hM1.on
  obtain ⟨w1, w2, w3, w4, w5, w6, w7⟩ := hF.j.wi
  obtain ⟨e1, e2, e3, e4⟩ := w2 (by rw [hM1.wp]; omega)
  have hcell := (wgO_cell hF.wg).1
  have hwg : γ₁.wg = b := hM1.wg
  rw [hwg, e1] at hcell
  have hat : AtOk (XF T L) 0 γ₁ δ.d ⟨b, 0, none⟩ := by rw [<- hwg]; exact atok_wg hM1.on (fun z => absurd z (Nat.lt_irrefl _))
  rw [hM1.wp] at w1
  simp at w1
  rcases Nat.eq_zero_or_pos γ₁.wv with ez | ez
  · have hjw : JW (wgMove γ₁ 0 3 (γ₁.fn 0) γ₁.wv γ₁.ww γ₁.wz) := jw_main hF.j.wi (by omega) ⟨by simp; omega, fun z => by omega, fun z => by omega, fun _ => ⟨ez, e1, e2, e3, e4⟩⟩
    obtain ⟨g1, g2⟩ := wg_move (T := T) (H' := w.heap) (i := 0) hM1.on hI.1 (main_c0 hF hI.1) hF hF.wg (fun _ _ => rfl) hjw (fun _ z _ => absurd z (Nat.lt_irrefl _)) (fun z => absurd rfl z) (fun z => absurd (hM1.wp.symm.trans z.1) (by omega)) hL
    have ad := all_dn hF.j.wi (by omega) (by omega) e3 e4
    refine ⟨_, wgMove γ₁ 0 3 (γ₁.fn 0) γ₁.wv γ₁.ww γ₁.wz, hcell, hat, gh_of g2 hI.1 (upd_same γ₁.fn 0 _) g1, ?_⟩
    rw [ez]
    refine h1 _ (hR.lrelM hM) (mn_of hM1) fun j j0 hj => ?_
    obtain ⟨q1, q2⟩ := ad j j0 hj
    exact ⟨by rw [show (wgMove γ₁ 0 3 (γ₁.fn 0) 0 γ₁.ww γ₁.wz).wp j = γ₁.wp j from upd_ne γ₁.wp _ (by omega)]; exact q1, by rw [show (wgMove γ₁ 0 3 (γ₁.fn 0) 0 γ₁.ww γ₁.wz).fn j = γ₁.fn j from upd_ne γ₁.fn _ (by omega)]; exact q2⟩
  · exact ⟨_, γ₁, hcell, hat, ⟨hI, Mv.refl' hX 0 γ₁, rfl, Iff.rfl⟩, h2 _ hR hM1 ez (wv_le hF.j.wi hF.j.le)⟩
theorem ER.mCas (hL : L.Ok) {v : Nat} [ExtFn P cc (Extern.Atomic.casT (.int .u64))] (hw : wantE ops env g = some true) (hd : Nat.blt d n = true) (hx : ev env x = some (.func (.func cc) #[] #[])) (ha : evL env args.toList = some [.pointer (some ⟨b, 0, none⟩), .int .u64 ((v * 4294967296 + 0 : Nat) : Int), .int .u64 ((v * 4294967296 + 1 : Nat) : Int)]) (hM : Mn 0 m b δ.g) (hv : 0 < v) (hvw : δ.g.wv <= v)
    (h1 : ∀ γ₂, LRelM L m δ.g.y γ₂.y -> Mn 2 m b γ₂ -> ER P true (SitM P (XF T L)) f n ops l k ((d, .bool true) :: env) ds h ⟨δ.d, γ₂⟩ R)
    (h2 : ∀ γ₂, Rr L 0 δ.g γ₂ -> Mn 0 m b γ₂ -> γ₂.wv < v -> ER P true (SitM P (XF T L)) f n ops l k ((d, .bool false) :: env) ds h ⟨δ.d, γ₂⟩ R) :
    ER P true (SitM P (XF T L)) f n ops (⟨some d, .call { callee := .value x, args, argTypes := ats }, ty, pos, af, g⟩ :: l) k env ds h δ R := by
  have hX := xf_ok T L hL
  refine ER.acasS (i := 0) hX opp_m hw hd hx ha (fun z => absurd z (Nat.lt_irrefl _)) fun γ₁ w hR hI hP => ?_
  have hM1 := hM.rr hR
  have hF := hI.2 hM1.on
  obtain ⟨w1, w2, w3, w4, w5, w6, w7⟩ := hF.j.wi
  obtain ⟨e1, e2, e3, e4⟩ := w2 (by rw [hM1.wp]; omega)
  have hcell := wgO_cell hF.wg
  have hwg : γ₁.wg = b := hM1.wg
  rw [hwg, e1] at hcell
  have hat : AtOkW (XF T L) 0 γ₁ δ.d ⟨b, 0, none⟩ := by rw [<- hwg]; exact atokW_wg hM1.on hF.j.wc.1 (fun z => absurd z (Nat.lt_irrefl _))
  rw [hM1.wp] at w1
  simp at w1
  refine ⟨_, hcell.1, hcell.2.2 0, hat, ?_⟩
  by_cases e : γ₁.wv = v
  · subst e
    have hjw : JW (wgMove γ₁ 0 2 (γ₁.fn 0) γ₁.wv 1 γ₁.wz) := jw_main hF.j.wi (by omega) ⟨by simp; omega, fun z => by omega, fun _ => ⟨fun _ => ⟨rfl, e2, e3, e4⟩, fun z => by omega⟩, fun z => by omega⟩
    have hg := main_gh (o := 0) (u := .int .u64 ((γ₁.wv * 4294967296 + 1 : Nat) : Int)) hL hM1 hI hjw (.inl ⟨rfl, rfl, rfl⟩) (by omega)
    exact .inl ⟨rfl, _, hg, h1 _ (hR.lrelM hM) (mn_of hM1)⟩
  · have := hR.wv rfl
    exact .inr ⟨by omega, γ₁, ⟨hI, Mv.refl' hX 0 γ₁, rfl, Iff.rfl⟩, h2 _ hR hM1 (by omega)⟩
theorem ER.mSem (hL : L.Ok) {vs : List Value} [ExtFn P cc Extern.Sync.semacquire] (hw : wantE ops env g = some true) (hd : Nat.blt d n = true) (hx : ev env x = some (.func (.func cc) #[] #[])) (ha : evL env args.toList = some (.pointer (some ⟨b, 1, none⟩) :: vs)) (hM : Mn 2 m b δ.g)
    (h1 : ∀ γ₂, LRelM L m δ.g.y γ₂.y -> Mn 3 m b γ₂ -> AllDn γ₂ -> ER P true (SitM P (XF T L)) f n ops l k ((d, .tuple #[]) :: env) ds h ⟨δ.d, γ₂⟩ R) :
    ER P true (SitM P (XF T L)) f n ops (⟨some d, .call { callee := .value x, args, argTypes := ats }, ty, pos, af, g⟩ :: l) k env ds h δ R := by
  refine ER.semacqS (i := 0) (xf_ok T L hL) opp_m hw hd hx ha (fun z => absurd z (Nat.lt_irrefl _)) fun γ₁ w hR hI hP => ?_
  have hM1 := hM.rr hR
  have hF := hI.2 hM1.on
  obtain ⟨w1, w2, w3, w4, w5, w6, w7⟩ := hF.j.wi
  have k3 := w3 hM1.wp
  have hcell := wgO_cell hF.wg
  have hwg : γ₁.wg = b := hM1.wg
  rw [hwg] at hcell
  have hat : AtOkW (XF T L) 0 γ₁ δ.d ⟨b, 1, none⟩ := by rw [<- hwg]; exact atokW_wg hM1.on hF.j.wc.1 (fun z => absurd z (Nat.lt_irrefl _))
  rw [hM1.wp] at w1
  simp at w1
  refine ⟨(γ₁.wz : Int), hcell.2.1, hcell.2.2 1, hat, ?_⟩
  rcases Nat.eq_zero_or_pos γ₁.wz with ez | ez
  · exact .inl ⟨by omega, hM1.on, .inl ⟨rfl, hM1.wp, ez⟩⟩
  · have ev : γ₁.wv = 0 := by
      rcases Nat.eq_zero_or_pos γ₁.wv with z | z
      · exact z
      · have := k3.1 z; omega
    have k4 := k3.2 ev
    have hjw : JW (wgMove γ₁ 0 3 (γ₁.fn 0) γ₁.wv γ₁.ww 0) := jw_main hF.j.wi (by omega) ⟨by simp; omega, fun z => by omega, fun z => by omega, fun _ => by omega⟩
    have hg := main_gh (o := 1) (u := .int .u32 0) hL hM1 hI hjw (.inr ⟨rfl, rfl, rfl, rfl⟩) (by omega)
    have ad := all_dn hF.j.wi (by omega) (by omega) (by omega) (by omega)
    refine .inr ⟨by omega, wgMove γ₁ 0 3 (γ₁.fn 0) γ₁.wv γ₁.ww 0, ?_, h1 _ (hR.lrelM hM) (mn_of hM1) fun j j0 hj => ?_⟩
    · have e1 : (γ₁.wz : Int) - 1 = 0 := by omega
      rw [e1]; exact hg
    · obtain ⟨q1, q2⟩ := ad j j0 hj
      exact ⟨by rw [show (wgMove γ₁ 0 3 (γ₁.fn 0) γ₁.wv γ₁.ww 0).wp j = γ₁.wp j from upd_ne γ₁.wp _ (by omega)]; exact q1, by rw [show (wgMove γ₁ 0 3 (γ₁.fn 0) γ₁.wv γ₁.ww 0).fn j = γ₁.fn j from upd_ne γ₁.fn _ (by omega)]; exact q2⟩
theorem ER.mLoad3 (hL : L.Ok) [ExtFn P cc (Extern.Atomic.loadT (.int .u64))] (hw : wantE ops env g = some true) (hd : Nat.blt d n = true) (hx : ev env x = some (.func (.func cc) #[] #[])) (ha : evL env args.toList = some [.pointer (some ⟨b, 0, none⟩)]) (hM : Mn 3 m b δ.g)
    (h1 : ∀ γ₂, Rr L 0 δ.g γ₂ -> Mn 3 m b γ₂ -> ER P true (SitM P (XF T L)) f n ops l k ((d, .int .u64 0) :: env) ds h ⟨δ.d, γ₂⟩ R) :
    ER P true (SitM P (XF T L)) f n ops (⟨some d, .call { callee := .value x, args, argTypes := ats }, ty, pos, af, g⟩ :: l) k env ds h δ R := by
  have hX := xf_ok T L hL
  refine ER.aloadS (i := 0) opp_m hw hd hx ha (fun z => absurd z (Nat.lt_irrefl _)) fun γ₁ w hR hI hP => ?_
  have hM1 := hM.rr hR
  have hF := hI.2 hM1.on
  obtain ⟨e0, e1, e2, e3, e4⟩ := hF.j.wi.m3 hM1.wp
  have hcell := (wgO_cell hF.wg).1
  have hwg : γ₁.wg = b := hM1.wg
  rw [hwg, e0, e1] at hcell
  exact ⟨0, γ₁, hcell, by rw [<- hwg]; exact atok_wg hM1.on (fun z => absurd z (Nat.lt_irrefl _)), ⟨hI, Mv.refl' hX 0 γ₁, rfl, Iff.rfl⟩, h1 _ hR hM1⟩
end
end
section
variable [Dm]
open Go Go.Conc
section
variable {Γ : Type} {P : Program} {main : Bool} {S : Sit Γ} {f : FuncId} {n : Nat} {env : Env} {ds : List Deferred} {h : Hp} {δ : Ix Γ} {R : Post Γ}
theorem EU.deferEnable {c : FuncId} [he : ExtFn P c (fun _ => do mark .enable; pure Extern.Race.none_)] (hn : EU P main S f n .returning env ds h (markd .enable δ) R) : EU P main S f n .returning env ({ target := .fn (.func c) #[] , args := #[] } :: ds) h δ R := by
  intro a ka kind hk cs todo
  obtain ⟨fn, h1, h2, h3, h4, h5⟩ := he.out
  have hinv : ∀ w, (invoke (.fn (.func c) #[]) #[]).runT P w #[] = (.ok (.value Extern.Race.none_) w, #[⟨.mark (.extern c), false, true⟩] ++ #[⟨.mark .enable, false, true⟩]) := by
    intro w
    have e : (invoke (.fn (.func c) #[]) #[]).runT P w #[] = (callFunc c #[]).runT P w #[] := rfl
    rw [e, Sem.runT_eq, run_callFunc_extern h1 h2 h3 h4 h5, events_callFunc_extern h1 h2 h3 h4 h5]
    rfl
  have hs : seen P f (#[⟨.mark (.extern c), false, true⟩] ++ #[⟨.mark .enable, false, true⟩]) = #[⟨.mark .enable, false, true⟩] := seen_entry f c _ (by
    intro x hx
    simp at hx
    subst hx
    exact ⟨rfl, fun g hg => by cases hg⟩)
  have hstep : ∀ w, stepG P main (G ({ (fb f kind).at a todo with mode := .returning }) cs) w = .go (G ({ (fb f kind).at { a with defers := ds } todo with mode := .returning }) cs) w #[⟨.mark .enable, false, true⟩] := fun w => by
    simp only [G, stepG, unwind, Frame.at, ka.defers, callDeferred, fb]
    rw [hinv, hs]
    simp [GStep.after]
  have hn' := hn { a with defers := ds } ⟨ka.size, rfl, ka.knows⟩ kind hk cs todo
  refine .of_step ⟨rfl, fun w hw => ?_, fun _ _ _ => ?_⟩
  · refine ⟨_, w, _, h, hstep w, Same.refl _, Chg.refl hw, fun e he => ?_, by rw [deafI_mark]; exact hn'⟩
    refine ⟨?_, evIn_mark e he⟩
    simp at he
    subst he
    exact ⟨by simp, by simp, by simp, by simp, by simp, by simp, by simp, by simp⟩
  · refine ⟨_, _, fun e he => ?_, hstep, by rw [deafI_mark]; exact hn'⟩
    simp at he
    subst he
    rfl
end
section
variable {Y : Type} {T : Tids} {L : Law Y} {P : Program} {f : FuncId} {n : Nat} {k : List Item} {env : Env} {ds : List Deferred} {h : Hp} {δ : Ix (Gf Y)} {R : Post (Gf Y)} {ops : Array Oper} {l : List Oper} {i b d : Nat}
variable {x : Operand} {ty : TypeId} {pos : String} {af : Array Edge} {g : Option (Nat × Bool)}
theorem ER.wUnsafe (hL : L.Ok) {src dst t sz by_ : Nat} {z : Value} [Und P src (.pointer t)] [Und P dst .unsafePointer] [Inf P t sz by_ z] (hw : wantE ops env g = some true) (hd : Nat.blt d n = true) (hx : ev env x = some (.pointer (some ⟨b, 0, none⟩))) (hsz : sz ≠ 0) (hA : Idle L i δ.g) (hb : δ.g.wg = b)
    (hn : ∀ γ₂, Rr L i δ.g γ₂ -> Idle L i γ₂ -> ER P false (SitW P (XF T L) i) f n ops l k ((d, .pointer (some ⟨b, 0, none⟩)) :: env) ds h ⟨δ.d, γ₂⟩ R) :
    ER P false (SitW P (XF T L) i) f n ops (⟨some d, .convert src dst x, ty, pos, af, g⟩ :: l) k env ds h δ R := by
  subst hb
  refine ER.toUnsafeS (xf_ok T L hL) opp_w hw hd hx hsz (fun _ => hA.at.nd) fun γ₁ w hR hI hP => ?_
  have hA1 := hA.rr hR
  have hF := hI.2 hA1.on
  have hcell := (wgO_cell hF.wg).1
  rw [show γ₁.wg = δ.g.wg from hR.wg] at hcell
  exact ⟨_, hcell, hn _ hR hA1⟩
end
end
section
variable [Dm]
open Go Go.Conc
def U (v w : Nat) : Int := ((v * 4294967296 + w : Nat) : Int)
theorem u64_nat {x : Nat} (h : x < 18446744073709551616) : IntKind.u64.wrap ((x : Nat) : Int) = (x : Int) := u64_in (by omega) (by omega)
theorem bv64_nat {x : Nat} : (BitVec.ofInt IntKind.u64.bits ((x : Nat) : Int)) = BitVec.ofNat 64 x := by
  apply BitVec.eq_of_toInt_eq
  simp [IntKind.bits]
theorem bits_nat64 {x c : Nat} (hx : x < 18446744073709551616) (hc : c < 18446744073709551616) : bits .and .u64 x c = ((x &&& c : Nat) : Int) := by
  have e1 : x % 18446744073709551616 = x := Nat.mod_eq_of_lt (by omega)
  have e2 : c % 18446744073709551616 = c := Nat.mod_eq_of_lt (by omega)
  unfold bits
  simp only [bv64_nat]
  have e : (BitVec.ofNat 64 x &&& BitVec.ofNat 64 c).toNat = x &&& c := by simp [BitVec.toNat_and, e1, e2]
  show IntKind.u64.wrap ((BitVec.ofNat 64 x &&& BitVec.ofNat 64 c).toNat : Int) = _
  rw [e]
  exact u64_nat (Nat.lt_of_le_of_lt Nat.and_le_left hx)
theorem U_and {v w : Nat} (hv : v <= 1000) (hw : w <= 1) : bits .and .u64 (U v w) 2147483648 = 0 /\ bits .and .u64 (U v w) 2147483647 = (w : Int) := by
  have key : ∀ c : Nat, c < 4294967296 -> c &&& 4294967295 = c -> bits .and .u64 (U v w) (c : Int) = ((w &&& c : Nat) : Int) := fun c hc hcc => by
    unfold U
    rw [bits_nat64 (by omega) (by omega)]
    have h1 : (v * 4294967296 + w) &&& c = ((v * 4294967296 + w) &&& 4294967295) &&& c := by rw [Nat.and_assoc, Nat.and_comm 4294967295 c, hcc]
    have h2 := Nat.and_two_pow_sub_one_eq_mod (v * 4294967296 + w) 32
    simp only [show (2 : Nat) ^ 32 - 1 = 4294967295 from rfl, show (2 : Nat) ^ 32 = 4294967296 from rfl] at h2
    rw [h1, h2]
    congr 2
    omega
  have hw' : w = 0 \/ w = 1 := by omega
  constructor
  · refine (key 2147483648 (by omega) (by decide)).trans ?_
    rcases hw' with rfl | rfl <;> rfl
  · refine (key 2147483647 (by omega) (by decide)).trans ?_
    rcases hw' with rfl | rfl <;> rfl
theorem U_shr {v w : Nat} {t : TypeId} (hw : w <= 1) : binOp .shr t (.int .u64 (U v w)) (.int .u64 32) = pure (.int .u64 (v : Int)) := by
  have : (U v w).fdiv (2 ^ 32) = (v : Int) := by
    unfold U
    rw [Int.fdiv_eq_ediv_of_nonneg _ (by decide)]
    omega
  have e : (2 : Int) ^ 32 = 4294967296 := by decide
  rw [e] at this
  simp [binOp, Op.shift, IntKind.bits, this]
theorem U_shl {t : TypeId} {x : Int} {r : Int} (h : IntKind.u64.wrap (x * 4294967296) = r) : binOp .shl t (.int .u64 x) (.int .u64 32) = pure (.int .u64 r) := by
  have e : (2 : Int) ^ 32 = 4294967296 := by decide
  subst h
  simp [binOp, Op.shift, IntKind.bits, e]
theorem u32_in {x : Int} (h1 : 0 <= x) (h2 : x < 4294967296) : IntKind.u32.wrap x = x := by
  simp only [IntKind.wrap, IntKind.signed, IntKind.bits]
  simp
  omega
end
section
variable [Dm]
open Go Go.Conc
variable {Γ : Type}
section
variable {P : Program} {main : Bool} {S : Sit Γ} {f : FuncId} {n : Nat} {k : List Item} {env : Env} {ds : List Deferred} {h : Hp} {δ : Ix Γ} {R : Post Γ}
end
theorem ER.gen {P : Program} {main : Bool} {S : Sit Γ} {f : FuncId} {n : Nat} {ops : Array Oper} {l : List Oper} {k : List Item} {env : Env} {ds : List Deferred} {h : Hp} {δ : Ix Γ} {R : Post Γ} (F : Hp -> Prop) (hF : F h) (hn : ∀ h', F h' -> ER P main S f n ops l k env ds h' δ R) : ER P main S f n ops l k env ds h δ R := hn h hF
theorem EK.gen {P : Program} {main : Bool} {S : Sit Γ} {f : FuncId} {n : Nat} {k : List Item} {env : Env} {ds : List Deferred} {h : Hp} {δ : Ix Γ} {R : Post Γ} (F : Hp -> Prop) (hF : F h) (hn : ∀ h', F h' -> EK P main S f n k env ds h' δ R) : EK P main S f n k env ds h δ R := hn h hF
theorem push2 (h : Hp) (a b : Obj) : Upd (fun _ => False) h ((h.push a).push b) /\ ((h.push a).push b).size = h.size + 2 /\ ((h.push a).push b)[h.size]? = some a /\ ((h.push a).push b)[h.size + 1]? = some b := by
  refine ⟨(Upd.push _ _).trans (Upd.push _ _), by simp, get_push _ (get_push_new _ _), ?_⟩
  have := get_push_new (h.push a) b
  rw [Array.size_push] at this
  exact this
theorem push3 (h : Hp) (a b c : Obj) : Upd (fun _ => False) h (((h.push a).push b).push c) /\ (((h.push a).push b).push c).size = h.size + 3 /\ (((h.push a).push b).push c)[h.size]? = some a /\ (((h.push a).push b).push c)[h.size + 1]? = some b /\ (((h.push a).push b).push c)[h.size + 2]? = some c := by
  obtain ⟨u, s, g0, g1⟩ := push2 h a b
  refine ⟨u.trans (Upd.push _ _), by simp, get_push _ g0, get_push _ g1, ?_⟩
  have := get_push_new ((h.push a).push b) c
  rw [s] at this
  exact this
end
section
variable [Dm]
open Go Go.Conc
variable {Γ : Type}
section
variable {P : Program} {main : Bool} {S : Sit Γ} {f : FuncId} {n : Nat} {k : List Item} {env : Env} {ds : List Deferred} {h : Hp} {δ : Ix Γ} {R : Post Γ}
variable {ops : Array Oper} {l : List Oper} {d : Nat} {ty : TypeId} {pos : String} {af : Array Edge} {g : Option (Nat × Bool)} {Z : Hp -> Prop} {zz : Nat} {m : Nat} {listed l' : Array Bool}
theorem sem_conv {src dst : TypeId} {sd : IntKind} {dd : IntKind} [hs : Und P src (.int sd)] [hd : Und P dst (.int dd)] {x : Operand} {kd : IntKind} {a r : Int} {ρ : Operand -> Value} {dst' : Option Nat} {Q : Next -> Hp -> Ix Γ -> Prop} {X : Value -> Hp -> Ix Γ -> Prop} (hx : ρ x = .int kd a) (hr : dd.wrap a = r) (hq : Q (.value (.int dd r)) h δ) :
    SemW P S (execOp ρ ⟨dst', .convert src dst x, ty, pos, af, g⟩) h δ Q X := by
  show SemW P S (convert src dst (ρ x) >>= fun v => pure (.value v)) h δ Q X
  rw [hx]
  refine semW_bind _ _ _ _ _ _ ?_
  unfold convert
  refine semW_underlying hs.out (semW_underlying hd.out ?_)
  show SemW P S (Conv.intToInt dd a) h δ _ X
  subst hr
  exact hq
theorem ER.conv {src dst : TypeId} {sd dd : IntKind} [Und P src (.int sd)] [Und P dst (.int dd)] {x : Operand} {kd : IntKind} {a r : Int} (hw : wantE ops env g = some true) (hd : Nat.blt d n = true) (hx : ev env x = some (.int kd a)) (hr : dd.wrap a = r)
    (hn : ER P main S f n ops l k ((d, .int dd r) :: env) ds h δ R) : ER P main S f n ops (⟨some d, .convert src dst x, ty, pos, af, g⟩ :: l) k env ds h δ R :=
  ER.to hw hd (fun _ρ _Q _X hρ hq => sem_conv (hρ _ _ hx) hr hq) hn
end
end
section
variable [Dm]
open Go Go.Conc
variable {Γ : Type}
theorem EAi.callD {P : Program} {main : Bool} {S : Sit Γ} {f : FuncId} {n : Nat} {k : List Item} {env : Env} {ds : List Deferred} {h : Hp} {δ : Ix Γ} {R : Post Γ} {ops : Array Oper} {Z : Hp -> Prop} {z m : Nat} {listed l' : Array Bool} {d : Nat} {ty : TypeId} {pos : String} {af : Array Edge} {g : Option (Nat × Bool)} {i : Nat} {x : Operand} {args : Array Operand} {ats : Array TypeId} {c : FuncId} {cap ws : Array Value} {vs : List Value} [HasBody P c] {v : Value} {h' : Hp} {δ' : Ix Γ}
    (hi : ops[i]? = some ⟨some d, .call { callee := .value x, args, argTypes := ats }, ty, pos, af, g⟩) (hl : listed.setIfInBounds i true = l') (hd : Nat.blt d n = true) (hw : wantE ops env g = some true) (hx : ev env x = some (.func (.func c) #[] cap)) (ha : evL env args.toList = some vs) (hws : vs.toArray ++ cap = ws)
    (hc : CallW P main S c ws h δ (Ret (Det v h' δ'))) (hZ : Z h') (hn : EA P main S f n ops Z z m l' k ((d, v) :: env) ds h' δ' R) : EAi P main S f n ops Z z m listed k env ds h δ R i := by
  subst hl
  intro a ka
  unfold OpK
  simp only [hi]
  rw [if_pos (wantE_ok ka (o := ⟨some d, .call { callee := .value x, args, argTypes := ats }, ty, pos, af, g⟩) hw)]
  subst hws
  refine .inl (semW_call rfl (ka.eval hx) (map_ofL (fun x v hx => ka.eval hx) ha) (hc.mono ?_))
  rintro (v' | p) h'' δ'' hq
  · obtain ⟨rfl, rfl, rfl⟩ := hq
    exact ⟨.inr hZ, hn _ (ka.put _ hd)⟩
  · exact hq.elim
end
section
variable [Dm]
open Go Go.Conc
open Go.ConcN (upd upd_ne upd_same)
section
variable {Γ : Type} {P : Program} {main : Bool} {S : Sit Γ} {f : FuncId} {h : Hp} {δ : Ix Γ}
theorem yields_opp {X : Fp Γ} {i : Nat} {s : Sem Next} {Yv : Value -> Hp -> Ix Γ -> Prop} (hS : ∀ g h δ Y, Opp P main X i g h δ Y -> S.yld g h δ Y) (hnd : 0 < i -> ¬ X.done i δ.g)
    (hop : ∀ γ₁ (w : World), X.R i δ.g γ₁ -> X.Inv γ₁ w.heap -> Part False h w.heap -> ∃ nx v w' es γ₂, s.runT P w #[] = (.ok nx w', es) /\ (nx = .value v \/ (nx = .skip /\ v = undef)) /\ (∀ j, X.blk j γ₁ -> X.blk j γ₂) /\ Shd X i γ₁ γ₂ δ.d w w' (seen P f es) /\ Yv v h ⟨deafBehind δ.d (seen P f es), γ₂⟩) : Yields P main S f s h δ Yv := by
  intro g fin hc
  refine hS _ _ _ _ ⟨hc.going, hnd, fun γ₁ w hR hI hP => .inr ?_⟩
  obtain ⟨nx, v, w', es, γ₂, hrun, hnx, hb, hs, hy⟩ := hop γ₁ w hR hI hP
  refine ⟨fin v, w', seen P f es, γ₂, ?_, hc.run v, hs.later, .inr hb, hs.frame, hs.size, hs.inv, hs.mv, hs.fin, hs.ev, hs.late, hs.lone, v, rfl, hy⟩
  rcases hnx with rfl | ⟨rfl, rfl⟩
  · exact hc.ok w v w' es hrun
  · exact hc.skip w w' es hrun
theorem runT_opLoad {t : TypeId} [Scal P t] {ρ : Operand -> Value} {dst : Option Nat} {x : Operand} {ty : TypeId} {pos : String} {af : Array Edge} {g : Option (Nat × Bool)} {a : Addr} {v : Value} {w : World} (hx : ρ x = .pointer (some a)) (hc : hcell w.heap a = some v) : (execOp ρ ⟨dst, .load t x, ty, pos, af, g⟩).runT P w #[] = (.ok (.value v) w, #[⟨.cell a, false, false⟩]) := by
  show ((Instr.sureAddr (ρ x) >>= fun a => loadVar t a) >>= fun v => pure (Next.value v)).runT P w #[] = _
  rw [hx]
  show (loadVar t a >>= fun v => pure (Next.value v)).runT P w #[] = _
  rw [runT_bindOk (runT_loadVar1 hc)]
  rfl
theorem runT_opStore {t : TypeId} [Scal P t] {ρ : Operand -> Value} {x y : Operand} {ty : TypeId} {pos : String} {af : Array Edge} {g : Option (Nat × Bool)} {b o : Nat} {u v : Value} {w : World} (hv : OneCell v) (hx : ρ x = .pointer (some ⟨b, o, none⟩)) (hy : ρ y = v) (hc : hcell w.heap ⟨b, o, none⟩ = some u) (hf : hfroz w.heap ⟨b, o, none⟩ = false) : (execOp ρ ⟨none, .store t x y, ty, pos, af, g⟩).runT P w #[] = (.ok .skip (w.setCell ⟨b, o, none⟩ v), #[⟨.cell ⟨b, o, none⟩, true, false⟩]) := by
  show ((Instr.sureAddr (ρ x) >>= fun ad => storeVar t ad (ρ y)) >>= fun _ => pure Next.skip).runT P w #[] = _
  rw [hx, hy]
  show (storeVar t ⟨b, o, none⟩ v >>= fun _ => pure Next.skip).runT P w #[] = _
  rw [runT_bindOk (runT_storeVar1 hv hc hf)]
  rfl
end
variable {Y : Type} {T : Tids} {L : Law Y}
structure AMove (L : Law Y) (i b o : Nat) (v : Value) (y y' : Y) : Prop where
  stat : Stt L y y'
  law : ∀ j, j ≠ i -> L.R j y y'
  pairs : L.pairs y' <= L.pairs y
  val : L.val y' = L.val y
  arr : ∀ x, x ≠ b -> L.arr y' x = L.arr y x
  set : L.arr y' b = (L.arr y b).setIfInBounds o v
  J : L.J y'
  fin : ∀ j hf, j ≠ i -> L.fin y j hf -> L.fin y' j hf
  may : ∀ j a w, L.may y' j a w -> L.may y j a w
  bag : L.bag y' = L.bag y
  bmay : ∀ b a, L.bmay y' b a -> L.bmay y b a
  atv : L.atv y' = L.atv y
theorem arr_move {γ : Gf Y} {i b o : Nat} {t : TypeId} {v : Value} {y' : Y} {H : Hp} (hA : Idle L i γ) (hI : InvF T L γ H) (ht : L.arrT γ.y b = some t) (m : AMove L i b o v γ.y y') (hL : L.Ok) : InvF T L (lawMove γ y') (hset H ⟨b, o, none⟩ v) /\ Stp L i γ (lawMove γ y') := by
  have J := hI.j
  have hp : pot L (lawMove γ y') + 14 * L.pairs γ.y = pot L γ + 14 * L.pairs y' := by
    unfold pot lawMove
    simp only [m.stat.cls]
    omega
  have hpp := m.pairs
  refine ⟨⟨fun x hx => ?_, fun x t' hx => ?_, fun x t' hx => ?_, ?_, ⟨fun x hx => ?_, J.sn, fun j hj h0 => ?_, ?_, ?_, J.le, m.J, fun j hf j0 hj h => m.fin j hf (fun e => by subst e; rw [show (lawMove γ y').fn j = γ.fn j from rfl, hA.fn] at h; cases h) (J.fin j hf j0 hj h), J.out⟩⟩, ⟨⟨hA.on, hA.hi, rfl, rfl, rfl, m.stat, by omega, fun _ => ⟨rfl, m.val⟩, hpp, fun _ => m.val, m.law, fun _ _ => rfl, fun _ _ => rfl, fun _ _ => rfl, id, fun _ => Nat.le_refl _⟩, m.may, m.bag, m.bmay⟩⟩
  · simp only [lawMove, m.stat.cls] at hx
    simp only [lawMove, m.val]
    have : b ≠ x := fun z => by subst z; have := hL.dj _ _ J.law hx; rw [this] at ht; cases ht
    rw [hset_ne _ _ _ this]
    exact hI.cell x hx
  · simp only [lawMove, m.stat.arrT] at hx
    simp only [lawMove]
    by_cases e : x = b
    · subst e
      rw [hset_get, if_pos rfl, hI.arr x t' hx, m.set]
      rfl
    · rw [hset_ne _ _ _ (fun z => e z.symm), m.arr x e]
      exact hI.arr x t' hx
  · simp only [lawMove, m.stat.atT] at hx
    have : b ≠ x := fun z => by subst z; have := (hL.dja _ _ J.law (by rw [hx]; rfl)).1; rw [this] at ht; cases ht
    simp only [lawMove, m.atv]
    rw [hset_ne _ _ _ this]
    exact hI.atm x t' hx
  · have : b ≠ γ.wg := fun z => by have := J.wc.2.1; rw [<- z, ht] at this; cases this
    rw [hset_ne _ _ _ this]
    exact hI.wg
  · simp only [lawMove, m.stat.cls] at hx
    exact J.mi x hx
  · simp only [lawMove, m.stat.cls]
    exact J.wh j hj h0
  · obtain ⟨w1, w2, w3, w4, w5, w6, w7⟩ := J.wi
    exact ⟨w1, w2, w3, w4, w5, w6, w7⟩
  · simp only [lawMove, m.stat.cls, m.stat.arrT, m.stat.atT]
    exact J.wc
theorem arr_cell {γ : Gf Y} {H : Hp} {b o : Nat} {t : TypeId} {v : Value} (hI : InvF T L γ H) (ht : L.arrT γ.y b = some t) (hv : (L.arr γ.y b)[o]? = some v) : hcell H ⟨b, o, none⟩ = some v /\ hfroz H ⟨b, o, none⟩ = false :=
  ⟨hcell_of (hI.arr b t ht) hv, hfroz_of (hI.arr b t ht)⟩
theorem arr_may (hL : L.Ok) {γ : Gf Y} {i b o : Nat} {t : TypeId} {w : Bool} {H : Hp} (hA : Idle L i γ) (hI : InvF T L γ H) (ht : L.arrT γ.y b = some t) (hm : L.may γ.y i ⟨b, o, none⟩ w) : (XF T L).may i γ ⟨b, o, none⟩ w :=
  ⟨hA.on, fun z => (by have := hI.j.wc.2.1; rw [<- z, show (⟨b, o, none⟩ : Addr).block = b from rfl, ht] at this; cases this), .inr ⟨fun z => (by have := hL.dj _ _ hI.j.law z; rw [show (⟨b, o, none⟩ : Addr).block = b from rfl, ht] at this; cases this), by rw [show (⟨b, o, none⟩ : Addr).block = b from rfl, ht]; rfl, (by
    cases e : L.atT γ.y b with
    | none => rfl
    | some x => have := (hL.dja γ.y b hI.j.law (by rw [e]; rfl)).1; rw [ht] at this; cases this), i, .inr ⟨hA.i0, hA.hi, rfl⟩, hm⟩⟩
section
variable {P : Program} {f : FuncId} {n : Nat} {k : List Item} {env : Env} {ds : List Deferred} {h : Hp} {δ : Ix (Gf Y)} {R : Post (Gf Y)} {ops : Array Oper} {l : List Oper} {i b o d : Nat}
variable {x y : Operand} {ty : TypeId} {pos : String} {af : Array Edge} {g : Option (Nat × Bool)}
theorem idle_fin {γ : Gf Y} (hA : Idle L i γ) : ¬ (XF T L).done i γ /\ (XF T L).fin γ i = none := at_fin hA.at
theorem ER.loadA (hL : L.Ok) {t : TypeId} [Scal P t] (hw : wantE ops env g = some true) (hd : Nat.blt d n = true) (hx : ev env x = some (.pointer (some ⟨b, o, none⟩))) (hA : Idle L i δ.g)
    (hop : ∀ γ₁, Rr L i δ.g γ₁ -> Idle L i γ₁ -> L.J γ₁.y -> ∃ t' v wr, L.arrT γ₁.y b = some t' /\ (L.arr γ₁.y b)[o]? = some v /\ L.may γ₁.y i ⟨b, o, none⟩ wr /\ ER P false (SitW P (XF T L) i) f n ops l k ((d, v) :: env) ds h ⟨δ.d, γ₁⟩ R) :
    ER P false (SitW P (XF T L) i) f n ops (⟨some d, .load t x, ty, pos, af, g⟩ :: l) k env ds h δ R := by
  refine ER.loadS (xf_ok T L hL) opp_w hw hd hx (fun _ => idle_fin hA) fun γ₁ w hR hI hP => ?_
  have hA1 := hA.rr hR
  have hF := hI.2 hA1.on
  obtain ⟨t', v, wr, h1, h2, h3, hn⟩ := hop γ₁ hR hA1 hF.j.law
  have hm := arr_may hL hA1 hF h1 h3
  exact ⟨v, (arr_cell hF h1 h2).1, by cases wr; exact .inl hm; exact .inr hm, hn⟩
theorem ER.storeA (hL : L.Ok) {t : TypeId} [Scal P t] {v : Value} (hw : wantE ops env g = some true) (hx : ev env x = some (.pointer (some ⟨b, o, none⟩))) (hy : ev env y = some v) (hv : OneCell v) (hA : Idle L i δ.g)
    (hop : ∀ γ₁, Rr L i δ.g γ₁ -> Idle L i γ₁ -> L.J γ₁.y -> ∃ t' u y', L.arrT γ₁.y b = some t' /\ (L.arr γ₁.y b)[o]? = some u /\ L.may γ₁.y i ⟨b, o, none⟩ true /\ AMove L i b o v γ₁.y y' /\ ∀ γ₂, γ₂.y = y' -> γ₂.wg = δ.g.wg -> Idle L i γ₂ -> ER P false (SitW P (XF T L) i) f n ops l k env ds h ⟨δ.d, γ₂⟩ R) :
    ER P false (SitW P (XF T L) i) f n ops (⟨none, .store t x y, ty, pos, af, g⟩ :: l) k env ds h δ R := by
  refine ER.storeS (xf_ok T L hL) opp_w hw hx hy hv (fun _ => idle_fin hA) fun γ₁ w hR hI hP => ?_
  have hA1 := hA.rr hR
  have hF := hI.2 hA1.on
  obtain ⟨t', u, y', h1, h2, h3, m, hn⟩ := hop γ₁ hR hA1 hF.j.law
  obtain ⟨g1, g2⟩ := arr_move hA1 hF h1 m hL
  have G := gh_of g2 hI.1 rfl g1
  exact ⟨u, lawMove γ₁ y', (arr_cell hF h1 h2).1, (arr_cell hF h1 h2).2, arr_may hL hA1 hF h1 h3, G.inv, G.mv, G.fin, G.lone, fun _ z => z, hn _ rfl hR.wg ⟨hA1.on, hA1.i0, hA1.hi, hA1.c0, hA1.wp, hA1.fn⟩⟩
theorem yields_loadA (hL : L.Ok) {t : TypeId} [Scal P t] {ρ : Operand -> Value} {dst : Option Nat} {Yv : Value -> Hp -> Ix (Gf Y) -> Prop} (hx : ρ x = .pointer (some ⟨b, o, none⟩)) (hA : Idle L i δ.g)
    (hop : ∀ γ₁, Rr L i δ.g γ₁ -> Idle L i γ₁ -> L.J γ₁.y -> ∃ t' v wr, L.arrT γ₁.y b = some t' /\ (L.arr γ₁.y b)[o]? = some v /\ L.may γ₁.y i ⟨b, o, none⟩ wr /\ Yv v h ⟨δ.d, γ₁⟩) :
    Yields P false (SitW P (XF T L) i) f (execOp ρ ⟨dst, .load t x, ty, pos, af, g⟩) h δ Yv := by
  have hX := xf_ok T L hL
  refine yields_opp (X := XF T L) (i := i) opp_w (fun _ => hA.at.nd) fun γ₁ w hR hI hP => ?_
  have hA1 := hA.rr hR
  have hF := hI.2 hA1.on
  obtain ⟨t', v, wr, h1, h2, h3, hn⟩ := hop γ₁ hR hA1 hF.j.law
  have hm := arr_may hL hA1 hF h1 h3
  refine ⟨_, v, w, _, γ₁, runT_opLoad hx (arr_cell hF h1 h2).1, .inl rfl, fun _ z => z, ⟨SameL.refl w, fun _ _ => rfl, rfl, hI, Mv.refl' hX i γ₁, rfl, fun e he => ?_, fun h0 hf => ?_, Iff.rfl⟩, by rw [seen_cell.2]; exact hn⟩
  · obtain rfl := (seen_cell (d := 0)).1 e he
    exact ⟨fun b hb => by cases hb; exact .inr ⟨rfl, by cases wr; exact .inl hm; exact .inr hm⟩, fun r hr => (by cases hr), nofun, nofun, fun m hm' => by cases hm'⟩
  · rw [(idle_fin (T := T) hA1).2] at hf; cases hf
theorem yields_storeA (hL : L.Ok) {t : TypeId} [Scal P t] {ρ : Operand -> Value} {v : Value} {Yv : Value -> Hp -> Ix (Gf Y) -> Prop} (hx : ρ x = .pointer (some ⟨b, o, none⟩)) (hy : ρ y = v) (hv : OneCell v) (hA : Idle L i δ.g)
    (hop : ∀ γ₁, Rr L i δ.g γ₁ -> Idle L i γ₁ -> L.J γ₁.y -> ∃ t' u y', L.arrT γ₁.y b = some t' /\ (L.arr γ₁.y b)[o]? = some u /\ L.may γ₁.y i ⟨b, o, none⟩ true /\ AMove L i b o v γ₁.y y' /\ ∀ γ₂, γ₂.y = y' -> γ₂.wg = δ.g.wg -> Idle L i γ₂ -> Yv undef h ⟨δ.d, γ₂⟩) :
    Yields P false (SitW P (XF T L) i) f (execOp ρ ⟨none, .store t x y, ty, pos, af, g⟩) h δ Yv := by
  have hX := xf_ok T L hL
  refine yields_opp (X := XF T L) (i := i) opp_w (fun _ => hA.at.nd) fun γ₁ w hR hI hP => ?_
  have hA1 := hA.rr hR
  have hF := hI.2 hA1.on
  obtain ⟨t', u, y', h1, h2, h3, m, hn⟩ := hop γ₁ hR hA1 hF.j.law
  obtain ⟨g1, g2⟩ := arr_move hA1 hF h1 m hL
  have G := gh_of g2 hI.1 rfl g1
  have hm := arr_may hL hA1 hF h1 h3
  refine ⟨_, undef, _, _, lawMove γ₁ y', runT_opStore hv hx hy (arr_cell hF h1 h2).1 (arr_cell hF h1 h2).2, .inr ⟨rfl, rfl⟩, fun _ z => z, ⟨(⟨rfl, rfl, rfl⟩ : Same w (w.setCell ⟨b, o, none⟩ v)).later, fun b' hb' => hset_ne w.heap ⟨b, o, none⟩ v fun z => hb' (z ▸ hX.maysh _ _ _ _ hm), hset_size _ _ _, G.inv, G.mv, G.fin, fun e he => ?_, fun h0 hf => ?_, G.lone⟩, by rw [seen_cell.2]; exact hn _ rfl hR.wg ⟨hA1.on, hA1.i0, hA1.hi, hA1.c0, hA1.wp, hA1.fn⟩⟩
  · obtain rfl := (seen_cell (d := 0)).1 e he
    exact ⟨fun b hb => by cases hb; exact .inr ⟨rfl, .inl hm⟩, fun r hr => (by cases hr), nofun, nofun, fun m hm' => by cases hm'⟩
  · rw [(idle_fin (T := T) hA1).2] at hf; cases hf
end
end
section
variable [Dm]
open Go Go.Conc
open Go.ConcN (upd upd_ne upd_same)
variable {Y : Type} {T : Tids} {L : Law Y}
def onlyB (h : Hp) (p : Nat -> Bool) : Hp := h.mapIdx fun b o => if p b then o else dum
theorem onlyB_get {h : Hp} {p : Nat -> Bool} {b : Nat} : (onlyB h p)[b]? = (h[b]?).map fun o => if p b then o else dum := by
  unfold onlyB
  rw [Array.getElem?_mapIdx]
theorem onlyB_size {h : Hp} {p : Nat -> Bool} : (onlyB h p).size = h.size := by simp [onlyB]
theorem onlyB_has {h : Hp} {p : Nat -> Bool} {b : Nat} {o : Obj} (hb : h[b]? = some o) (hp : p b = true) : (onlyB h p)[b]? = some o := by rw [onlyB_get, hb]; simp [hp]
theorem onlyB_some {h : Hp} {p : Nat -> Bool} {b : Nat} {o : Obj} (hb : (onlyB h p)[b]? = some o) (ho : o ≠ dum) : p b = true /\ h[b]? = some o := by
  rw [onlyB_get] at hb
  obtain ⟨o', h1, h2⟩ := Option.map_eq_some_iff.1 hb
  by_cases e : p b = true
  · rw [if_pos e] at h2; subst h2; exact ⟨e, h1⟩
  · rw [if_neg e] at h2; exact absurd h2.symm ho
theorem onlyB_sub (h : Hp) (p : Nat -> Bool) : Sub (onlyB h p) h := ⟨fun b o h1 h2 => (onlyB_some h1 h2).2, Nat.le_of_eq onlyB_size⟩
theorem onlyB_pres {h : Hp} {p : Nat -> Bool} {b : Nat} (hb : Pres (onlyB h p) b) : p b = true /\ Pres h b := by
  obtain ⟨o, h1, h2⟩ := hb
  exact ⟨(onlyB_some h1 h2).1, o, (onlyB_some h1 h2).2, h2⟩
def hireMove (γ : Gf Y) : Gf Y := { γ with num := γ.num + 1, wp := upd (upd γ.wp 0 0) γ.num 0, ph := upd γ.ph γ.num ⟨0, 0, 0⟩ }
theorem hire_g (hL : L.Ok) {γ : Gf Y} {m b : Nat} {H h : Hp} {pm pc : Nat -> Bool} (hM : Mn 1 m b γ) (hm : m < 65) (hI : (XF T L).Inv γ H) (hboth : ∀ x, pm x = true -> pc x = true -> Pres h x -> L.ro γ.y x /\ x ∉ L.cls γ.y /\ L.arrT γ.y x = none /\ L.atT γ.y x = none /\ x ≠ b) :
    HireG (XF T L) h γ (hireMove γ) (onlyB h pm) (onlyB h pc) H /\ Idle L m (hireMove γ) /\ Mn 0 (m + 1) b (hireMove γ) := by
  have hF := hI.2 hM.on
  have J := hF.j
  have hp := hI.1
  have hnum := hM.num
  have hwn : (hireMove γ).wp γ.num = 0 := upd_same _ _ _
  have hw0 : (hireMove γ).wp 0 = 0 := by
    show upd (upd γ.wp 0 0) γ.num 0 0 = 0
    rw [upd_ne _ _ (by omega), upd_same]
  have hwj : ∀ j, j ≠ 0 -> j ≠ γ.num -> (hireMove γ).wp j = γ.wp j := fun j h0 h1 => by
    show upd (upd γ.wp 0 0) γ.num 0 j = _
    rw [upd_ne _ _ h1, upd_ne _ _ h0]
  have hphn : (hireMove γ).ph γ.num = ⟨0, 0, 0⟩ := upd_same _ _ _
  have hphj : ∀ j, j ≠ γ.num -> (hireMove γ).ph j = γ.ph j := fun j h1 => upd_ne γ.ph _ h1
  have hpot : pot L (hireMove γ) = pot L γ := by
    unfold pot
    show nsum (γ.num + 1) _ + _ + _ = _
    rw [nsum]
    have h1 : nsum γ.num (fun j => wt ((hireMove γ).ph j).c) = nsum γ.num (fun j => wt (γ.ph j).c) := nsum_congr _ _ _ fun j hj => by rw [hphj j (by omega)]
    have h2 : wt ((hireMove γ).ph γ.num).c = 0 := by rw [hphn]; rfl
    rw [h1, h2]
    rfl
  have hro : ∀ j, Ro L j γ (hireMove γ) := fun j => ⟨rfl, rfl, Nat.le_succ _, Stt.refl _ _, Nat.le_of_eq hpot, fun _ => ⟨rfl, rfl⟩, Nat.le_refl _, fun _ => rfl, hL.refl _ _⟩
  have hdn : ∀ j, 0 < j -> j < γ.num -> ((hireMove γ).dn j ↔ γ.dn j) := fun j h0 hj => by
    unfold Gf.dn
    rw [hwj j (by omega) (by omega)]
    exact Iff.rfl
  have hcw : ∀ x, cw (hireMove γ) x = cw γ x + (if x = 0 then 1 else 0) := fun x => by
    unfold cw
    show nsum (γ.num + 1) _ = _
    rw [nsum]
    have h1 : nsum γ.num (fun j => if 0 < j /\ (hireMove γ).wp j = x then 1 else 0) = nsum γ.num (fun j => if 0 < j /\ γ.wp j = x then 1 else 0) := nsum_congr _ _ _ fun j hj => by
      by_cases e : j = 0
      · subst e; simp
      · rw [hwj j e (by omega)]
    rw [h1, hwn]
    congr 1
    by_cases e : x = 0
    · subst e; rw [if_pos ⟨hp, rfl⟩, if_pos rfl]
    · rw [if_neg (fun z => e z.2.symm), if_neg e]
  have hinv : InvF T L (hireMove γ) H := by
    refine ⟨hF.cell, hF.arr, hF.atm, hF.wg, ⟨fun x hx => (J.mi x hx).congr fun c hc => ?_, fun j hj h5 => ?_, fun j hj h0 => ?_, ⟨?_, ?_, ?_, ?_, ?_, fun j => ?_, fun j j0 hj => ?_⟩, J.wc, ?_, J.law, fun j hf j0 hj h => ?_, fun j hj => J.out j (by have hj' : γ.num + 1 <= j := hj; omega)⟩⟩
    · unfold ct
      show nsum (γ.num + 1) _ = _
      rw [nsum, hphn, if_neg (fun z => by have := z.2; simp only at this; omega)]
      exact nsum_congr _ _ _ fun j hj => by rw [hphj j (by omega)]
    · have hj' : j < γ.num + 1 := hj
      by_cases e : j = γ.num
      · subst e; rw [hphn] at h5; cases h5
      · rw [hphj j e] at h5 ⊢
        exact J.sn j (by omega) h5
    · have hj' : j < γ.num + 1 := hj
      by_cases e : j = γ.num
      · subst e; rw [hphn] at h0; exact absurd rfl h0
      · rw [hphj j e] at h0 ⊢
        obtain ⟨q1, q2, q3⟩ := J.wh j (by omega) h0
        exact ⟨q1, q2, by rw [hwj j (by omega) e]; exact q3⟩
    · rw [hcw, hcw, hw0]
      have := J.wi.v
      rw [hM.wp] at this
      simp at this ⊢
      show γ.wv = _
      omega
    · intro _
      have := J.wi.m0 (by rw [hM.wp]; omega)
      rw [hcw, hcw]
      exact this
    · intro z; rw [hw0] at z; omega
    · intro z; rw [hw0] at z; omega
    · rw [hw0]; omega
    · by_cases e : j = γ.num
      · subst e; rw [hwn]; omega
      · by_cases e0 : j = 0
        · subst e0; rw [hw0]; omega
        · rw [hwj j e0 e]; exact J.wi.le j
    · have hj' : j < γ.num + 1 := hj
      by_cases e : j = γ.num
      · subst e
        rw [hwn]
        exact ⟨fun _ => J.out _ (Nat.le_refl _), fun _ => rfl⟩
      · rw [hwj j (by omega) e]
        exact J.wi.fn j j0 (by omega)
    · show γ.num + 1 <= 65
      omega
    · have hj' : j < γ.num + 1 := hj
      by_cases e : j = γ.num
      · subst e
        rw [show (hireMove γ).fn γ.num = γ.fn γ.num from rfl, J.out _ (Nat.le_refl _)] at h
        cases h
      · exact J.fin j hf j0 (by omega) h
  refine ⟨⟨rfl, rfl, fun j h0 hj _ => ⟨hro j, hphj j (by have hj' : j < γ.num := hj; omega), hwj j (by omega) (by have hj' : j < γ.num := hj; omega), fun _ => rfl, fun z => by omega, fun z => by omega, fun z => absurd hM.on z, fun z => by omega, fun z => by omega⟩, fun _ => rfl, ?_, fun j h0 hj => hdn j h0 hj, fun j hj => ?_, fun j a w hj => ?_, fun a w => ?_, ⟨Nat.succ_pos _, fun _ => hinv⟩, onlyB_sub _ _, onlyB_sub _ _, fun x h1 h2 => ?_, fun z => ?_, fun z => ?_, fun z => ?_, fun z => ?_, rfl, fun _ _ z => z⟩, ⟨hM.on, by omega, by show m < γ.num + 1; omega, by rw [<- hnum, hphn], by rw [<- hnum]; exact hwn, by rw [<- hnum]; exact J.out _ (Nat.le_refl _)⟩, ⟨hM.on, hw0, by show γ.num + 1 = m + 1; rw [hnum], hM.wg⟩⟩
  · show (if γ.num = 0 then none else γ.fn γ.num) = none
    rw [J.out _ (Nat.le_refl _)]
    split <;> rfl
  · have hj' : j < γ.num := hj
    rintro ⟨z, ⟨z1, z2, z3⟩ | ⟨z1, z2, z3, z4⟩⟩
    · rw [hM.wp] at z2; omega
    · exact ⟨z, .inr ⟨z1, by rw [hwj j (by omega) (by omega)]; exact z2, by rw [hphj j (by omega)]; exact z3, by rw [hphj j (by omega)]; exact z4⟩⟩
  · have hj' : j < γ.num := hj
    rintro ⟨z1, z2, z3 | ⟨z3, z4, z7, x, z5, z6⟩⟩
    · exact ⟨z1, z2, .inl z3⟩
    · refine ⟨z1, z2, .inr ⟨z3, z4, z7, x, ?_, z6⟩⟩
      have z5' : (j = 0 /\ (x = 0 \/ γ.num + 1 <= x)) \/ (0 < j /\ j < γ.num + 1 /\ x = j) := z5
      show (j = 0 /\ (x = 0 \/ γ.num <= x)) \/ (0 < j /\ j < γ.num /\ x = j)
      omega
  · rintro ⟨z1, z2, z3 | ⟨z3, z4, z7, x, z5, z6⟩⟩
    · exact .inl ⟨z1, z2, .inl z3⟩
    · refine .inl ⟨z1, z2, .inr ⟨z3, z4, z7, x, ?_, z6⟩⟩
      have z5' : (γ.num = 0 /\ (x = 0 \/ γ.num + 1 <= x)) \/ (0 < γ.num /\ γ.num < γ.num + 1 /\ x = γ.num) := z5
      show (0 = 0 /\ (x = 0 \/ γ.num <= x)) \/ (0 < 0 /\ 0 < γ.num /\ x = 0)
      omega
  · obtain ⟨q1, q2⟩ := onlyB_pres h1
    obtain ⟨q3, _⟩ := onlyB_pres h2
    obtain ⟨r1, r2, r3, r5, r4⟩ := hboth x q1 q3 q2
    exact ⟨hM.on, r1, r2, r3, r5, by show x ≠ γ.wg; rw [hM.wg]; exact r4⟩
  · exact z.1 hM.on
  · exact z.1 hM.on
  · have := z.1; rw [hM.on] at this; omega
  · have : γ.st = 2 := z.1; rw [hM.on] at this; omega
section
variable {P : Program} {f : FuncId} {n : Nat} {k : List Item} {env : Env} {ds : List Deferred} {h : Hp} {δ : Ix (Gf Y)} {R : Post (Gf Y)} {ops : Array Oper} {l : List Oper} {m b : Nat}
variable {x : Operand} {ats : Array TypeId} {ty : TypeId} {pos : String} {af : Array Edge} {g : Option (Nat × Bool)}
theorem ER.hireM (hL : L.Ok) {bf : FuncId} {fn : Func} {cap : Array Value} [HasBody P bf] [IsFn P bf fn] (hres : fn.results = #[]) (pm pc : Nat -> Bool) (hw : wantE ops env g = some true) (hx : ev env x = some (.func (.func bf) #[] cap)) (hd : δ.d = 0) (hM : Mn 1 m b δ.g) (hm : m < 65)
    (hboth : ∀ y, LRelM L m δ.g.y y -> ∀ x, pm x = true -> pc x = true -> Pres h x -> L.ro y x /\ x ∉ L.cls y /\ L.arrT y x = none /\ L.atT y x = none /\ x ≠ b)
    (hchild : ∀ γ₂, LRel L m δ.g.y γ₂.y -> L.J γ₂.y -> Idle L m γ₂ -> γ₂.wg = b -> CallW P false (SitW P (XF T L) m) bf cap (onlyB h pc) ⟨0, γ₂⟩ fun
      | .ret _, h', δ' => h' = #[] /\ δ'.g.dn m /\ δ'.d = 0
      | .pan _, _, _ => False)
    (hn : ∀ γ₂, LRelM L (m + 1) δ.g.y γ₂.y -> Mn 0 (m + 1) b γ₂ -> ER P true (SitM P (XF T L)) f n ops l k env ds (onlyB h pm) ⟨0, γ₂⟩ R) :
    ER P true (SitM P (XF T L)) f n ops (⟨none, .go { callee := .value x, args := #[], argTypes := ats }, ty, pos, af, g⟩ :: l) k env ds h δ R := by
  refine ER.hireS (X := XF T L) (fun _ _ _ _ z => .inr (.inr (.inr (.inl z)))) hw hx hd fun γ₁ w hR hI hP => ?_
  have hM1 := hM.rr hR
  obtain ⟨g1, g2, g3⟩ := hire_g (T := T) (h := h) (pm := pm) (pc := pc) hL hM1 hm hI (hboth _ (hR.lrelM hM))
  have hJ := (hI.2 hM1.on).j.law
  refine ⟨hireMove γ₁, onlyB h pm, onlyB h pc, g1, ?_, hn _ ((hR.lrelM hM).up (Nat.le_succ m)) g3⟩
  have hnum : (XF T L).num γ₁ = m := hM1.num
  rw [hnum]
  exact hired_runs hres (hchild _ ((hR.lrelM hM).2 m (Nat.le_refl m)) hJ g2 hM1.wg)
end
end
section
variable [Dm]
open Go Go.Conc
theorem EA.recover {Γ : Type} {P : Program} {main : Bool} {S : Sit Γ} {f : FuncId} {n : Nat} {k : List Item} {env : Env} {ds : List Deferred} {h : Hp} {δ : Ix Γ} {R : Post Γ} {ops : Array Oper} {Z : Hp -> Prop} {z m : Nat} {listed l' : Array Bool} {d : Nat} {ty : TypeId} {pos : String} {af : Array Edge} {g : Option (Nat × Bool)} {args : Array Operand} {ats : Array TypeId} (i : Nat)
    (hi : ops[i]? = some ⟨some d, .call { callee := .builtin .recover, args, argTypes := ats }, ty, pos, af, g⟩) (hargs : args = #[]) (hr : Region.ready .any ops listed = [i]) (hl : listed.setIfInBounds i true = l') (hd : Nat.blt d n = true) (hw : wantE ops env g = some true) (hZ : Z h)
    (hn : EA P main S f n ops Z z m l' k ((d, .nilIface) :: env) ds h δ R) : EA P main S f n ops Z z (m + 1) listed k env ds h δ R := by
  subst hargs
  exact EA.only i hi hr hl hw fun a ka => ⟨.inr hZ, hn _ (ka.put .nilIface hd)⟩
end
section
variable [Dm]
open Go Go.Conc
theorem sub_mk {a h : Hp} {N : Nat} {o : Obj} (hs : Sub a h) (hN : h.size <= N) : Sub a ((padTo h N).push o) := ⟨fun b p h1 h2 => by
    have h3 : (padTo h N)[b]? = some p := (padTo_get h2).2 (hs.get b p h1 h2)
    have hlt : b < (padTo h N).size := (Array.getElem?_eq_some_iff.1 h3).1
    rw [Array.getElem?_push_lt hlt, <- Array.getElem?_eq_getElem hlt]; exact h3, by rw [Array.size_push, padTo_size hN]; have := hs.size; omega⟩
theorem mk_new {h : Hp} {N : Nat} {o : Obj} (hN : h.size <= N) : ((padTo h N).push o)[N]? = some o := by
  have := get_push_new (padTo h N) o
  rwa [padTo_size hN] at this
theorem mk_old {h : Hp} {N b : Nat} {o p : Obj} (hN : h.size <= N) (hb : h[b]? = some p) (hp : p ≠ dum) : ((padTo h N).push o)[b]? = some p := by
  have h3 : (padTo h N)[b]? = some p := (padTo_get hp).2 hb
  have hlt : b < (padTo h N).size := (Array.getElem?_eq_some_iff.1 h3).1
  rw [Array.getElem?_push_lt hlt, <- Array.getElem?_eq_getElem hlt]; exact h3
theorem mk_size {h : Hp} {N : Nat} {o : Obj} (hN : h.size <= N) : ((padTo h N).push o).size = N + 1 := by rw [Array.size_push, padTo_size hN]
theorem sub_set {a h : Hp} {b o : Nat} {v : Value} (hs : Sub a h) (hb : a.size <= b) : Sub a (hset h ⟨b, o, none⟩ v) := ⟨fun x p h1 h2 => by
    have hlt : x < a.size := (Array.getElem?_eq_some_iff.1 h1).1
    rw [hset_ne _ _ _ (by show b ≠ x; omega)]; exact hs.get x p h1 h2, by rw [hset_size]; exact hs.size⟩
theorem sub_only {a h : Hp} {p : Nat -> Bool} (hs : Sub a h) (hp : ∀ x, x < a.size -> p x = true) : Sub a (onlyB h p) := ⟨fun x o h1 h2 => onlyB_has (hs.get x o h1 h2) (hp x (Array.getElem?_eq_some_iff.1 h1).1), by rw [onlyB_size]; exact hs.size⟩
section
variable {Γ : Type} {P : Program} {main : Bool} {S : Sit Γ} {f : FuncId} {n : Nat} {k : List Item} {env : Env} {ds : List Deferred} {h : Hp} {δ : Ix Γ} {R : Post Γ}
variable {ops : Array Oper} {l : List Oper} {d : Nat} {ty : TypeId} {pos : String} {af : Array Edge} {g : Option (Nat × Bool)}
theorem ER.allocM {X : Fp Γ} {i : Nat} {t sz by_ : Nat} {z : Value} [ii : Inf P t sz by_ z] (hS : ∀ g h δ Y, Make P main X i g h δ Y -> S.yld g h δ Y) (hw : wantE ops env g = some true) (hd : Nat.blt d n = true) (hnd : 0 < i -> ¬ X.done i δ.g /\ X.fin δ.g i = none)
    (hn : ∀ N, h.size <= N -> ER P main S f n ops l k ((d, .pointer (some ⟨N, 0, none⟩)) :: env) ds ((padTo h N).push (.cells z.cells t)) δ R) : ER P main S f n ops (⟨some d, .alloc t, ty, pos, af, g⟩ :: l) k env ds h δ R := by
  refine ER.mk hS rfl hd hw hnd fun N hN => ⟨.pointer (some ⟨N, 0, none⟩), _, fun ρ hρ Q Xp hq => ?_, hn N hN⟩
  show SemW P (MakeS X) (Instr.alloc t true (.tuple #[]) >>= fun v => pure (.value v)) (padTo h N) δ Q Xp
  refine semW_bind _ _ _ _ _ _ ?_
  unfold Instr.alloc
  obtain ⟨inf, h1, h2, h3, h4⟩ := ii.get
  refine semW_zeroValue h1 h4 ⟨⟨trivial, thawed⟩, ?_⟩
  rw [padTo_size hN]
  exact hq
end
variable {Y : Type} {T : Tids} {L : Law Y}
def Gf.first (y : Y) (W : Nat) : Gf Y := { st := 1, num := 1, ph := fun _ => ⟨0, 0, 0⟩, mu := fun _ => Mu.free, wg := W, wv := 0, ww := 0, wz := 0, wp := fun _ => 0, fn := fun _ => none, y := y }
structure Starts (T : Tids) (L : Law Y) (y : Y) (W : Nat) (h : Hp) : Prop where
  cell : ∀ b, b ∈ L.cls y -> h[b]? = some (cellM T (L.val y b) Mu.free)
  arr : ∀ b t, L.arrT y b = some t -> h[b]? = some (.cells (L.arr y b) t (0, 0))
  ne : ∀ b t, L.arrT y b = some t -> L.arr y b ≠ #[]
  atm : ∀ b t, L.atT y b = some t -> h[b]? = some (.cells #[.int .i64 (L.atv y b)] t (0, 0))
  bag : ∀ b, L.bag y b = #[]
  wg : h[W]? = some (wgO T 0 0 0)
  wc : W ∉ L.cls y /\ L.arrT y W = none /\ L.atT y W = none
  J : L.J y
  ro : ∀ b, L.ro y b -> ∃ c e f, h[b]? = some (.cells c e f) /\ Pres h b
theorem first_inv {y : Y} {W : Nat} {h H : Hp} (s : Starts T L y W h) (hP : Part True h H) : InvF T L (Gf.first y W) H := by
  have hct : ∀ b x, x ≠ 0 -> ct (fun _ => (⟨0, 0, 0⟩ : Pc)) 1 b x = 0 := fun b x hx => ct_zero fun _ _ _ z => hx z.symm
  have hcw : ∀ x, cw (Gf.first y W) x = 0 := fun x => nsum_zero _ _ fun j hj => if_neg fun z => by have hj' : j < 1 := hj; omega
  refine ⟨fun b hb => hP.get b _ (s.cell b hb) (by unfold cellM dum; simp), fun b t hb => hP.get b _ (s.arr b t hb) (by unfold dum; intro z; injection z with z1; exact s.ne b t hb z1), fun b t hb => hP.get b _ (s.atm b t hb) (by unfold dum; simp), hP.get W _ s.wg (by unfold wgO dum; simp), ⟨fun b _ => ?_, fun j hj h5 => ?_, fun j hj h0 => absurd rfl h0, ⟨?_, ?_, ?_, ?_, ?_, ?_, ?_⟩, s.wc, ?_, s.J, fun j hf _ _ h => ?_, fun _ _ => rfl⟩⟩
  · refine (MI.free (c := fun _ => 0) fun _ => rfl).congr fun x hx => hct b x (by omega)
  · cases h5
  · rw [hcw, hcw]; rfl
  · intro _; rw [hcw, hcw]; exact ⟨rfl, rfl, rfl, rfl⟩
  · intro z; cases z
  · intro z; cases z
  · exact Nat.zero_le _
  · intro j; exact Nat.zero_le _
  · intro j _ _; exact ⟨fun _ => rfl, fun _ => rfl⟩
  · show 1 <= 65; omega
  · cases h
theorem share_ok {y : Y} {W d : Nat} {h : Hp} {γ₀ : Gf Y} {g : Goroutine} {Yy : Goroutine -> Hp -> Ix (Gf Y) -> Prop} {p : Nat -> Bool} (hst : γ₀.st = 0) (hnum : γ₀.num = 1) (s : Starts T L y W h) (hp : ∀ b, p b = true -> b ∉ L.cls y /\ L.arrT y b = none /\ L.atT y b = none /\ b ≠ W)
    (hy : Yy g (onlyB h p) ⟨d, Gf.first y W⟩) : Share (XF T L) g h ⟨d, γ₀⟩ Yy := by
  refine ⟨hnum, ⟨by show γ₀.st ≠ 1; omega, fun j j0 hj => by have hj' : j < γ₀.num := hj; omega⟩, fun z => by have : γ₀.st = 2 := z.1; omega, fun b z => by have : γ₀.st = 1 := z.1; omega, onlyB h p, Gf.first y W, onlyB_sub _ _, fun b hb hs => ?_, fun b hs => ?_, fun b hb => ?_, rfl, fun H hP => ⟨Nat.one_pos, fun _ => first_inv s hP⟩, fun z => z.1 rfl, fun z => ?_, fun j => ?_, fun a => ?_, hy⟩
  · obtain ⟨h1, h2, h4, h3⟩ := hp b (onlyB_pres hb).1
    rcases hs with ⟨_, hs | hs | hs⟩ | ⟨_, hs⟩
    · exact h1 hs
    · rw [show L.arrT (Gf.first y W).y b = none from h2] at hs; cases hs
    · rw [show L.atT (Gf.first y W).y b = none from h4] at hs; cases hs
    · exact h3 hs
  · rcases hs with ⟨_, hs | hs | hs⟩ | ⟨_, hs⟩
    · exact pres_of (s.cell b hs) (by unfold cellM dum; simp)
    · obtain ⟨t, ht⟩ := Option.isSome_iff_exists.1 hs
      exact pres_of (s.arr b t ht) (by unfold dum; intro z; injection z with z1; exact s.ne b t ht z1)
    · obtain ⟨t, ht⟩ := Option.isSome_iff_exists.1 hs
      exact pres_of (s.atm b t ht) (by unfold dum; simp)
    · have hs' : b = W := hs
      subst hs'
      exact pres_of s.wg (by unfold wgO dum; simp)
  · exact s.ro b hb.2.1
  · have : (1 : Nat) = 2 := z.1; omega
  · show (if j = 0 then none else none) = none
    split <;> rfl
  · show (if _ then L.bag y a.block else #[]) = #[]
    rw [s.bag]; split <;> rfl
end
section
variable [Dm]
open Go Go.Conc
variable {Γ : Type}
section
variable {P : Program} {main : Bool} {S : Sit Γ} {f : FuncId} {n : Nat} {k : List Item} {env : Env} {ds : List Deferred} {h : Hp} {δ : Ix Γ} {R : Post Γ}
variable {ops : Array Oper} {l : List Oper} {d : Nat} {ty : TypeId} {pos : String} {af : Array Edge} {g : Option (Nat × Bool)}
theorem ER.makeSliceD {t e by_ m : Nat} {z : Value} {x y : Operand} [hinf : Inf P e 1 by_ z] [hu : Und P t (.slice e)] (hw : wantE ops env g = some true) (hd : Nat.blt d n = true) (hx : ev env x = some (.int .i64 m)) (hy : ev env y = some (.int .i64 m))
    (hfit : by_ * m <= 140737488355328) (hm : m < 1000000000000) (hz : z.cells = #[z])
    (hn : ER P main S f n ops l k ((d, .slice (some ⟨h.size, 0, none⟩) m m) :: env) ds (h.push (.cells (List.replicate m z).toArray e)) δ R) (hLo : S.lone δ.g := by first | exact True.intro | assumption) (hDu : ¬ S.dull δ.g := by first | exact (fun x => x) | assumption) : ER P main S f n ops (⟨some d, .makeSlice t x y, ty, pos, af, g⟩ :: l) k env ds h δ R := by
  refine ER.to (v := .slice (some ⟨h.size, 0, none⟩) m m) (h' := h.push (.cells (List.replicate m z).toArray e)) hw hd (fun ρ Q X hρ hq => ?_) hn
  show SemW P S (Instr.makeSlice t (ρ x) (ρ y) >>= fun v => pure (.value v)) h δ Q X
  rw [hρ x _ hx, hρ y _ hy]
  refine semW_bind _ _ _ _ _ _ ?_
  obtain ⟨inf, hi1, hi2, hi3, hi4⟩ := hinf.get
  have hwr : IntKind.i64.wrap ((m : Int)) = m := i64_in (by omega) (by omega)
  unfold Instr.makeSlice
  show SemW P S (underlying t >>= _) h δ _ X
  refine semW_underlying hu.out ?_
  refine semW_pureBind ?_
  refine semW_pureBind ?_
  refine semW_typeInfo hi1 ?_
  simp only [hwr, hi3]
  have hc : ¬ ((by_ : Int) * m > 2 ^ 48) := by
    have := Int.ofNat_le.mpr hfit
    rw [Int.natCast_mul] at this
    have e : (2 : Int) ^ 48 = 281474976710656 := by decide
    rw [e]
    omega
  rw [if_neg (by rw [decide_eq_false (by omega : ¬ ((m : Int) < 0)), decide_eq_false hc, decide_eq_false (by omega : ¬ ((m : Int) > m))]; decide)]
  have hroom : ∀ {Q' : Unit -> Hp -> Ix Γ -> Prop}, Q' () h δ -> SemW P S (askRoom (((m : Int)).toNat * by_)) h δ Q' X := fun {Q'} hq' => by
    unfold askRoom
    split
    · exact ⟨⟨nofun, nofun, nofun, fun x => (hDu x).elim⟩, hq'⟩
    · exact hq'
  refine semW_bind _ _ _ _ _ _ (hroom ?_)
  refine semW_sizeOf hi1 ?_
  rw [hi2]
  have hrow : ∀ zs : Array Value, (m = 0 \/ zs = #[z]) -> Array.map (fun x => zs[x % zs.size]!) (Array.range (((m : Int)).toNat * 1)) = (List.replicate m z).toArray := fun zs hzs => by
    rcases hzs with rfl | rfl
    · simp
    · apply Array.ext'
      simp
      apply List.ext_getElem
      · simp
      · intro i h1 h2; simp [Nat.mod_one]
  split
  · refine semW_pureBind ?_
    rename_i h0
    refine ⟨⟨hLo, thawed⟩, ?_⟩
    rw [hrow _ (.inl (by omega))]
    exact hq
  · refine semW_zeroValue hi1 hi4 ?_
    refine semW_pureBind ?_
    refine ⟨⟨hLo, thawed⟩, ?_⟩
    rw [hrow _ (.inr hz)]
    exact hq
end
end
section
variable [Dm]
open Go Go.Conc
section
variable {Γ : Type} {P : Program} {main : Bool} {S : Sit Γ} {f : FuncId} {n : Nat} {ops : Array Oper} {Z : Hp -> Prop} {z m : Nat} {listed li lj l' : Array Bool} {k : List Item} {env : Env} {ds : List Deferred} {h : Hp} {δ : Ix Γ} {R : Post Γ}
theorem EA.swap {a b : Nat} {u v : Value} (hne : a ≠ b) (hk : EA P main S f n ops Z z m listed k ((a, u) :: (b, v) :: env) ds h δ R) : EA P main S f n ops Z z m listed k ((b, v) :: (a, u) :: env) ds h δ R := fun x kx => hk x ⟨kx.size, kx.defers, fun i w hl => kx.knows i w (by
  rw [look_cons, look_cons] at hl ⊢
  by_cases ea : a = i
  · rw [if_pos ea] at hl
    rw [if_neg (fun z => hne (ea.trans z.symm)), if_pos ea]; exact hl
  · rw [if_neg ea] at hl
    rw [if_neg ea]; exact hl)⟩
theorem EA.both (i j : Nat) {oi oj : Oper} {di dj : Nat} (I : Value -> Value -> Hp -> Ix Γ -> Prop) (hi : ops[i]? = some oi) (hj : ops[j]? = some oj) (hr : Region.ready .any ops listed = [i, j]) (hli : listed.setIfInBounds i true = li) (hlj : listed.setIfInBounds j true = lj)
    (hri : Region.ready .any ops li = [j]) (hrj : Region.ready .any ops lj = [i]) (hij : li.setIfInBounds j true = l') (hji : lj.setIfInBounds i true = l') (gi : oi.guard = none) (gj : oj.guard = none) (ti : oi.dst = some di) (tj : oj.dst = some dj) (bi : Nat.blt di n = true) (bj : Nat.blt dj n = true) (hne : di ≠ dj)
    (h1 : ∀ (ρ : Operand -> Value), (∀ x v, ev env x = some v -> ρ x = v) -> ∃ Y1 : Value -> Hp -> Ix Γ -> Prop, Yields P main S f (execOp ρ oi) h δ Y1 /\ ∀ v h' δ', Y1 v h' δ' -> Z h' /\ ∀ (ρ' : Operand -> Value), (∀ x u, ev ((di, v) :: env) x = some u -> ρ' x = u) -> ∃ Y2 : Value -> Hp -> Ix Γ -> Prop, Yields P main S f (execOp ρ' oj) h' δ' Y2 /\ ∀ v2 h2 δ2, Y2 v2 h2 δ2 -> Z h2 /\ I v v2 h2 δ2)
    (h2 : ∀ (ρ : Operand -> Value), (∀ x v, ev env x = some v -> ρ x = v) -> ∃ Y1 : Value -> Hp -> Ix Γ -> Prop, Yields P main S f (execOp ρ oj) h δ Y1 /\ ∀ v h' δ', Y1 v h' δ' -> Z h' /\ ∀ (ρ' : Operand -> Value), (∀ x u, ev ((dj, v) :: env) x = some u -> ρ' x = u) -> ∃ Y2 : Value -> Hp -> Ix Γ -> Prop, Yields P main S f (execOp ρ' oi) h' δ' Y2 /\ ∀ v2 h2 δ2, Y2 v2 h2 δ2 -> Z h2 /\ I v2 v h2 δ2)
    (hn : ∀ vi vj h2 δ2, I vi vj h2 δ2 -> Z h2 -> EA P main S f n ops Z z m l' k ((dj, vj) :: (di, vi) :: env) ds h2 δ2 R) : EA P main S f n ops Z z (m + 2) listed k env ds h δ R := by
  have wn : ∀ (e : Env) (o : Oper), o.guard = none -> wantE ops e o.guard = some true := fun e o ho => by rw [ho]; rfl
  refine EA.alt2 i j hr ?_ ?_
  · refine EAi.hands hi hli (wn _ _ gi) ti (.inl ⟨_, rfl, bi⟩) fun ρ hρ => ?_
    obtain ⟨Y1, y1, y2⟩ := h1 ρ hρ
    refine ⟨Y1, y1, fun v h' δ' hy => ?_⟩
    obtain ⟨z1, hs⟩ := y2 v h' δ' hy
    refine ⟨.inr z1, EA.onlyH j hj hri hij (wn _ _ gj) tj (.inl ⟨_, rfl, bj⟩) fun ρ' hρ' => ?_⟩
    obtain ⟨Y2, w1, w2⟩ := hs ρ' hρ'
    refine ⟨Y2, w1, fun v2 h2 δ2 hy2 => ?_⟩
    obtain ⟨z2, hI⟩ := w2 v2 h2 δ2 hy2
    exact ⟨.inr z2, hn _ _ _ _ hI z2⟩
  · refine EAi.hands hj hlj (wn _ _ gj) tj (.inl ⟨_, rfl, bj⟩) fun ρ hρ => ?_
    obtain ⟨Y1, y1, y2⟩ := h2 ρ hρ
    refine ⟨Y1, y1, fun v h' δ' hy => ?_⟩
    obtain ⟨z1, hs⟩ := y2 v h' δ' hy
    refine ⟨.inr z1, EA.onlyH i hi hrj hji (wn _ _ gi) ti (.inl ⟨_, rfl, bi⟩) fun ρ' hρ' => ?_⟩
    obtain ⟨Y2, w1, w2⟩ := hs ρ' hρ'
    refine ⟨Y2, w1, fun v2 h2 δ2 hy2 => ?_⟩
    obtain ⟨z2, hI⟩ := w2 v2 h2 δ2 hy2
    exact ⟨.inr z2, EA.swap (fun e => hne e.symm) (hn _ _ _ _ hI z2)⟩
end
section
variable {Γ : Type} {P : Program} {f : FuncId} {h : Hp} {δ : Ix Γ} {ty : TypeId} {pos : String} {af : Array Edge} {g : Option (Nat × Bool)}
theorem Upd.pad (T : Nat -> Prop) {N : Nat} (hN : h.size <= N) : Upd T h (padTo h N) := ⟨by rw [padTo_size hN]; exact hN, fun b hb _ => by unfold padTo; exact Array.getElem?_append_left hb⟩
variable {X : Fp Γ} {i : Nat}
theorem make_w : ∀ g h δ Y, Make P false X i g h δ Y -> (SitW P X i).yld g h δ Y := fun _ _ _ _ z => .inl z
end
end
section
variable [Dm]
open Go Go.Conc
open Go.ConcN (upd upd_ne upd_same)
variable {Y : Type} {T : Tids} {L : Law Y}
structure TMove (L : Law Y) (i b : Nat) (y y' : Y) : Prop where
  stat : Stt L y y'
  law : ∀ j, j ≠ i -> L.R j y y'
  pairs : L.pairs y' <= L.pairs y
  val : L.val y' = L.val y
  arr : L.arr y' = L.arr y
  J : L.J y'
  fin : ∀ j hf, j ≠ i -> L.fin y j hf -> L.fin y' j hf
  may : ∀ j a w, L.may y' j a w -> L.may y j a w
  bag : L.bag y' = L.bag y
  bmay : ∀ b a, L.bmay y' b a -> L.bmay y b a
  atv : ∀ x, x ≠ b -> L.atv y' x = L.atv y x
theorem atm_move {γ : Gf Y} {i b : Nat} {t : TypeId} {y' : Y} {H H' : Hp} (hL : L.Ok) (hA : Idle L i γ) (hI : InvF T L γ H) (ht : L.atT γ.y b = some t) (m : TMove L i b γ.y y') (hH : H'[b]? = some (.cells #[.int .i64 (L.atv y' b)] t (0, 0))) (hne : ∀ x, x ≠ b -> H'[x]? = H[x]?) : InvF T L (lawMove γ y') H' /\ Stp L i γ (lawMove γ y') := by
  have J := hI.j
  have hp : pot L (lawMove γ y') + 14 * L.pairs γ.y = pot L γ + 14 * L.pairs y' := by
    unfold pot lawMove
    simp only [m.stat.cls]
    omega
  have hpp := m.pairs
  obtain ⟨da, dc⟩ := hL.dja γ.y b J.law (by rw [ht]; rfl)
  refine ⟨⟨fun x hx => ?_, fun x t' hx => ?_, fun x t' hx => ?_, ?_, ⟨fun x hx => ?_, J.sn, fun j hj h0 => ?_, ?_, ?_, J.le, m.J, fun j hf j0 hj h => m.fin j hf (fun e => by subst e; rw [show (lawMove γ y').fn j = γ.fn j from rfl, hA.fn] at h; cases h) (J.fin j hf j0 hj h), J.out⟩⟩, ⟨⟨hA.on, hA.hi, rfl, rfl, rfl, m.stat, by omega, fun _ => ⟨rfl, m.val⟩, hpp, fun _ => m.val, m.law, fun _ _ => rfl, fun _ _ => rfl, fun _ _ => rfl, id, fun _ => Nat.le_refl _⟩, m.may, m.bag, m.bmay⟩⟩
  · simp only [lawMove, m.stat.cls] at hx
    simp only [lawMove, m.val]
    rw [hne x (fun z => dc (z ▸ hx))]
    exact hI.cell x hx
  · simp only [lawMove, m.stat.arrT] at hx
    simp only [lawMove, m.arr]
    rw [hne x (fun z => by rw [z, da] at hx; cases hx)]
    exact hI.arr x t' hx
  · simp only [lawMove, m.stat.atT] at hx
    simp only [lawMove]
    by_cases e : x = b
    · subst e
      rw [ht] at hx
      cases hx
      exact hH
    · rw [hne x e, m.atv x e]
      exact hI.atm x t' hx
  · rw [hne _ (fun z => by have := J.wc.2.2; rw [show γ.wg = b from z, ht] at this; cases this)]
    exact hI.wg
  · simp only [lawMove, m.stat.cls] at hx
    exact J.mi x hx
  · simp only [lawMove, m.stat.cls]
    exact J.wh j hj h0
  · obtain ⟨w1, w2, w3, w4, w5, w6, w7⟩ := J.wi
    exact ⟨w1, w2, w3, w4, w5, w6, w7⟩
  · simp only [lawMove, m.stat.cls, m.stat.arrT, m.stat.atT]
    exact J.wc
section
variable {P : Program} {f : FuncId} {n : Nat} {k : List Item} {env : Env} {ds : List Deferred} {h : Hp} {δ : Ix (Gf Y)} {R : Post (Gf Y)} {ops : Array Oper} {l : List Oper} {i b d : Nat}
variable {x : Operand} {args : Array Operand} {ats : Array TypeId} {ty : TypeId} {pos : String} {af : Array Edge} {g : Option (Nat × Bool)} {cc : FuncId}
theorem atok_atm {γ : Gf Y} {p : Pc} {dd : Nat} (hL : L.Ok) (hA : At L i p γ) (hJ : L.J γ.y) (hb : (L.atT γ.y b).isSome = true) : AtOkW (XF T L) i γ dd ⟨b, 0, none⟩ :=
  ⟨⟨.inr (.inr ⟨hA.on, hb, (hL.dja _ _ hJ hb).2⟩), fun h0 hf => by
    have : (if i = 0 then none else γ.fn i) = none := by rw [hA.fn]; split <;> rfl
    rw [show (XF T L).fin γ i = (if i = 0 then none else γ.fn i) from rfl, this] at hf
    cases hf⟩, nobag_of fun z => (hL.dja _ _ hJ hb).2 z.1⟩
theorem ER.addT (hL : L.Ok) {z : Int} {t : TypeId} [ExtFn P cc (Extern.Atomic.update (Op.intArith .add) .i64 true)] (hw : wantE ops env g = some true) (hd : Nat.blt d n = true) (hx : ev env x = some (.func (.func cc) #[] #[])) (ha : evL env args.toList = some [.pointer (some ⟨b, 0, none⟩), .int .i64 z]) (hA : Idle L i δ.g) (hb : L.atT δ.g.y b = some t)
    (hop : ∀ γ₁, Rr L i δ.g γ₁ -> Idle L i γ₁ -> L.J γ₁.y -> ∃ y', TMove L i b γ₁.y y' /\ L.atv y' b = IntKind.i64.wrap (L.atv γ₁.y b + z) /\ ∀ γ₂, γ₂.y = y' -> γ₂.wg = δ.g.wg -> Idle L i γ₂ -> ER P false (SitW P (XF T L) i) f n ops l k ((d, .int .i64 (L.atv y' b)) :: env) ds h ⟨δ.d, γ₂⟩ R) :
    ER P false (SitW P (XF T L) i) f n ops (⟨some d, .call { callee := .value x, args, argTypes := ats }, ty, pos, af, g⟩ :: l) k env ds h δ R := by
  refine ER.aaddS (xf_ok T L hL) opp_w hw hd hx ha (fun _ => hA.at.nd) fun γ₁ w hR hI hP => ?_
  have hA1 := hA.rr hR
  have hF := hI.2 hA1.on
  have hb1 : L.atT γ₁.y b = some t := by rw [hR.stat.atT]; exact hb
  obtain ⟨y', m, hv, hn⟩ := hop γ₁ hR hA1 hF.j.law
  have hc := hF.atm b t hb1
  have hcell : hcell w.heap ⟨b, 0, none⟩ = some (.int .i64 (L.atv γ₁.y b)) := hcell_of hc rfl
  have hset' : (hset w.heap ⟨b, 0, none⟩ (.int .i64 (L.atv y' b)))[b]? = some (.cells #[.int .i64 (L.atv y' b)] t (0, 0)) := by
    rw [hset_get, if_pos rfl, hc]; rfl
  obtain ⟨h1, h2⟩ := atm_move hL hA1 hF hb1 m hset' fun y hy => hset_ne w.heap _ _ (fun z => hy z.symm)
  rw [hv] at h1 hn
  exact ⟨L.atv γ₁.y b, lawMove γ₁ y', hcell, hfroz_of hc, atok_atm hL hA1.at hF.j.law (by rw [hb1]; rfl), gh_of h2 hI.1 rfl h1, hn _ rfl hR.wg ⟨hA1.on, hA1.i0, hA1.hi, hA1.c0, hA1.wp, hA1.fn⟩⟩
end
end
end Go.TJ
namespace Go.Proofs.Ytndllibjlfpndaa
section
open Go Go.TJ Go.Proofs
variable [Dm]
section
variable {Y : Type} {T : Tids} {L : Law Y} {h : Hp} {δ : Ix (Gf Y)} {i b : Nat}
def Cq (L : Law Y) (i : Nat) (h : Hp) (d wg : Nat) (F : Value -> Y -> Prop) : Value -> Hp -> Ix (Gf Y) -> Prop := fun v h' δ' => h' = h /\ δ'.d = d /\ δ'.g.wg = wg /\ Idle L i δ'.g /\ F v δ'.g.y
theorem none_f (hL : L.Ok) {p : Pc} (hA : At L i p δ.g) (hb : b ∈ L.cls δ.g.y) : CallW Try.prog false (SitW Try.prog (XF T L) i) 32 #[.pointer (some ⟨b, 0, none⟩)] h δ (Ret fun v h' δ' => v = .bool false /\ h' = h /\ δ'.d = δ.d /\ Rr L i δ.g δ'.g) := by
  refine CallW.start (n := 12) rfl rfl ?_
  (repeat (first | refine EK.seq ?_ | refine EK.region ?_ | refine ER.done ?_ | refine ER.move rfl rfl rfl ?_ | refine ER.assign rfl rfl rfl ?_ | refine ER.nilCheck rfl rfl rfl ?_ | refine ER.fieldAddr rfl rfl rfl ?_ | refine ER.eqV rfl rfl rfl rfl rfl ?_))
  refine ER.loadC (v := .bool true) hL (.inl ⟨rfl, rfl⟩) rfl rfl rfl hA hb fun γ₁ r1 => ?_
  (repeat (first | refine ER.done ?_ | refine ER.assign rfl rfl rfl ?_ | refine ER.notB rfl rfl rfl ?_ | refine ER.pickF rfl rfl rfl rfl ?_ | refine EK.ret ?_))
  exact EU.ret1 rfl rfl ⟨rfl, rfl, rfl, r1⟩
theorem wakes_f (hL : L.Ok) (hA : At L i ⟨b, 1, 0⟩ δ.g) (hb : b ∈ L.cls δ.g.y) : CallW Try.prog false (SitW Try.prog (XF T L) i) 36 #[.pointer (some ⟨b, 0, none⟩)] h δ (Ret fun v h' δ' => v = .tuple #[] /\ h' = h /\ δ'.d = δ.d /\ Ro L i δ.g δ'.g /\ Idle L i δ'.g) := by
  refine CallW.start (n := 21) rfl rfl ?_
  (repeat (first | refine EK.seq ?_ | refine EK.region ?_ | refine ER.move rfl rfl rfl ?_ | refine ER.nilCheck rfl rfl rfl ?_ | refine ER.fieldAddr rfl rfl rfl ?_))
  refine ER.callR rfl rfl rfl rfl rfl (lock_ok hL hA) ?_
  rintro v h' δ' ⟨rfl, rfl, e1, r1, a1⟩
  (repeat (first | refine EK.seq ?_ | refine EK.region ?_ | refine ER.done ?_ | refine ER.move rfl rfl rfl ?_ | refine ER.nilCheck rfl rfl rfl ?_ | refine ER.fieldAddr rfl rfl rfl ?_))
  refine ER.defer rfl rfl rfl ?_
  (repeat (first | refine EK.seq ?_ | refine EK.region ?_ | refine ER.done ?_ | refine ER.move rfl rfl rfl ?_ | refine ER.nilCheck rfl rfl rfl ?_ | refine ER.fieldAddr rfl rfl rfl ?_))
  refine ER.loadC (v := .chan none) hL (.inr ⟨rfl, rfl⟩) rfl rfl rfl a1 (by rw [r1.stat.cls]; exact hb) fun γ₁ r2 => ?_
  (repeat (first | refine ER.done ?_ | refine EK.skip ?_ | refine ER.neqV rfl rfl rfl rfl rfl ?_ | refine EK.condF rfl ?_))
  refine EK.done ?_
  refine EU.deferR rfl (unlock_ok hL (δ := ⟨δ'.d, γ₁⟩) (a1.rr r2)) ?_
  rintro v h' δ' ⟨rfl, rfl, e2, r3, a3⟩
  exact EU.ret0 rfl ⟨rfl, rfl, e2.trans e1, (r1.trans hL r2.toRo).trans hL r3, a3.idle⟩
theorem aload_f (hL : L.Ok) (hA : Idle L i δ.g) (hb : b ∈ L.cls δ.g.y) {Q : Value -> Hp -> Ix (Gf Y) -> Prop}
    (hop : ∀ γ₁, Rr L i δ.g γ₁ -> Idle L i γ₁ -> L.J γ₁.y -> ∃ y', LMove L i γ₁.y y' /\ ∀ γ₂, γ₂.y = y' -> γ₂.wg = δ.g.wg -> Idle L i γ₂ -> Q (.int .i64 (L.val γ₁.y b)) h ⟨δ.d, γ₂⟩) :
    CallW Try.prog false (SitW Try.prog (XF T L) i) 15 #[.pointer (some ⟨b, 0, none⟩)] h δ (Ret Q) := by
  refine CallW.start (n := 7) rfl rfl ?_
  (repeat (first | refine EK.seq ?_ | refine EK.region ?_ | refine ER.done ?_ | refine ER.move rfl rfl rfl ?_ | refine ER.assign rfl rfl rfl ?_ | refine ER.nilCheck rfl rfl rfl ?_ | refine ER.fieldAddr rfl rfl rfl ?_))
  refine ER.loadV hL rfl rfl rfl rfl hA hb fun γ₁ r1 a1 j1 => ?_
  obtain ⟨y', m, hn⟩ := hop γ₁ r1 a1 j1
  refine ⟨y', m, fun γ₂ e2 w2 a2 => ?_⟩
  (repeat (first | refine ER.done ?_ | refine ER.assign rfl rfl rfl ?_ | refine EK.ret ?_))
  exact EU.ret1 rfl rfl (hn γ₂ e2 w2 a2)
theorem astore_f (hL : L.Ok) {z : Int} (hA : Idle L i δ.g) (hb : b ∈ L.cls δ.g.y) (hnb : ∀ y, L.J y -> LRel L i δ.g.y y -> LNoBag L y b) {Q : Value -> Hp -> Ix (Gf Y) -> Prop}
    (hop : ∀ γ₁, Rr L i δ.g γ₁ -> Idle L i γ₁ -> L.J γ₁.y -> ∃ y', LStep L i b γ₁.y y' /\ L.val y' b = z /\ ∀ γ₂, γ₂.y = y' -> γ₂.wg = δ.g.wg -> At L i ⟨b, 1, 0⟩ γ₂ -> Q (.tuple #[]) h ⟨δ.d, γ₂⟩) :
    CallW Try.prog false (SitW Try.prog (XF T L) i) 31 #[.pointer (some ⟨b, 0, none⟩), .int .i64 z] h δ (Ret Q) := by
  refine CallW.start (n := 9) rfl rfl ?_
  (repeat (first | refine EK.region ?_ | refine ER.move rfl rfl rfl ?_ | refine ER.nilCheck rfl rfl rfl ?_ | refine ER.fieldAddr rfl rfl rfl ?_))
  refine ER.storeV hL rfl rfl rfl rfl hA hb hnb fun γ₁ r1 a1 j1 => ?_
  obtain ⟨y', m, hv, hn⟩ := hop γ₁ r1 a1 j1
  refine ⟨y', m, hv, fun γ₂ e2 w2 a2 => ?_⟩
  (repeat refine ER.done ?_)
  refine EK.done ?_
  exact EU.ret0 rfl (hn γ₂ e2 w2 a2)
theorem acas_f (hL : L.Ok) {u z : Int} (hA : Idle L i δ.g) (hb : b ∈ L.cls δ.g.y) (hnb : ∀ y, L.J y -> LRel L i δ.g.y y -> LNoBag L y b) {Q : Value -> Hp -> Ix (Gf Y) -> Prop}
    (hop : ∀ γ₁, Rr L i δ.g γ₁ -> Idle L i γ₁ -> L.J γ₁.y -> (L.val γ₁.y b = u -> ∃ y', LStep L i b γ₁.y y' /\ L.val y' b = z /\ ∀ γ₂, γ₂.y = y' -> γ₂.wg = δ.g.wg -> At L i ⟨b, 1, 0⟩ γ₂ -> Q (.bool true) h ⟨δ.d, γ₂⟩) /\
      (L.val γ₁.y b ≠ u -> ∃ y', LMove L i γ₁.y y' /\ ∀ γ₂, γ₂.y = y' -> γ₂.wg = δ.g.wg -> Idle L i γ₂ -> Q (.bool false) h ⟨δ.d, γ₂⟩)) :
    CallW Try.prog false (SitW Try.prog (XF T L) i) 35 #[.pointer (some ⟨b, 0, none⟩), .int .i64 u, .int .i64 z] h δ (Ret Q) := by
  refine CallW.start (n := 13) rfl rfl ?_
  (repeat (first | refine EK.seq ?_ | refine EK.region ?_ | refine ER.done ?_ | refine ER.move rfl rfl rfl ?_ | refine ER.assign rfl rfl rfl ?_ | refine ER.nilCheck rfl rfl rfl ?_ | refine ER.fieldAddr rfl rfl rfl ?_))
  refine ER.casV hL rfl rfl rfl rfl hA hb hnb fun γ₁ r1 a1 j1 => ?_
  obtain ⟨k1, k2⟩ := hop γ₁ r1 a1 j1
  refine ⟨fun e => ?_, fun e => ?_⟩
  · obtain ⟨y', m, hv, hn⟩ := k1 e
    refine ⟨y', m, hv, fun γ₂ e2 w2 a2 => ?_⟩
    (repeat (first | refine ER.done ?_ | refine ER.assign rfl rfl rfl ?_ | refine EK.ret ?_))
    exact EU.ret1 rfl rfl (hn γ₂ e2 w2 a2)
  · obtain ⟨y', m, hn⟩ := k2 e
    refine ⟨y', m, fun γ₂ e2 w2 a2 => ?_⟩
    (repeat (first | refine ER.done ?_ | refine ER.assign rfl rfl rfl ?_ | refine EK.ret ?_))
    exact EU.ret1 rfl rfl (hn γ₂ e2 w2 a2)
theorem cload_f (hL : L.Ok) (hA : Idle L i δ.g) (hb : b ∈ L.cls δ.g.y) {F : Value -> Y -> Prop}
    (hop : ∀ y₁, LRel L i δ.g.y y₁ -> L.J y₁ -> ∃ y', LMove L i y₁ y' /\ F (.int .i64 (L.val y₁ b)) y') :
    CallW Try.prog false (SitW Try.prog (XF T L) i) 19 #[.pointer (some ⟨b, 0, none⟩), .pointer none] h δ (Ret (Cq L i h δ.d δ.g.wg F)) := by
  refine CallW.start (n := 26) rfl rfl ?_
  (repeat (first | refine EK.seq ?_ | refine EK.region ?_ | refine ER.done ?_ | refine ER.move rfl rfl rfl ?_ | refine ER.assign rfl rfl rfl ?_))
  refine ER.callR rfl rfl rfl rfl rfl (none_f hL hA.at hb) ?_
  rintro v0 h' δ0 ⟨rfl, rfl, e0, r0⟩
  (repeat (first | refine EK.seq ?_ | refine EK.region ?_ | refine ER.done ?_ | refine EK.skip ?_ | refine ER.move rfl rfl rfl ?_ | refine EK.condF rfl ?_))
  refine ER.callD rfl rfl rfl rfl rfl live_nil ?_
  (repeat (first | refine EK.seq ?_ | refine EK.region ?_ | refine ER.done ?_ | refine EK.skip ?_ | refine ER.move rfl rfl rfl ?_ | refine ER.nilCheck rfl rfl rfl ?_ | refine ER.fieldAddr rfl rfl rfl ?_ | refine EK.condF rfl ?_))
  refine ER.callR rfl rfl rfl rfl rfl (aload_f (Q := fun v h1 δ1 => h1 = h' /\ δ1.d = δ0.d /\ δ1.g.wg = δ.g.wg /\ Idle L i δ1.g /\ F v δ1.g.y) hL (hA.rr r0) (by rw [r0.stat.cls]; exact hb) fun γ₁ r1 a1 j1 => ?_) ?_
  · obtain ⟨y', m, hF⟩ := hop γ₁.y (r0.lrel.trans hL r1.lrel) j1
    exact ⟨y', m, fun γ₂ e2 w2 a2 => ⟨rfl, rfl, w2.trans r0.wg, a2, by rw [e2]; exact hF⟩⟩
  rintro v h2 δ2 ⟨rfl, e2, w2, a2, hF⟩
  (repeat (first | refine ER.done ?_ | refine ER.assign rfl rfl rfl ?_ | refine EK.ret ?_))
  exact EU.ret1 rfl rfl ⟨rfl, e2.trans e0, w2, a2, hF⟩
theorem cstore_f (hL : L.Ok) {z : Int} (hA : Idle L i δ.g) (hb : b ∈ L.cls δ.g.y) (hnb : ∀ y, L.J y -> LRel L i δ.g.y y -> LNoBag L y b) {F : Value -> Y -> Prop}
    (hop : ∀ y₁, LRel L i δ.g.y y₁ -> L.J y₁ -> ∃ y', LStep L i b y₁ y' /\ L.val y' b = z /\ ∀ y₂, LRel L i y' y₂ -> F (.tuple #[]) y₂) :
    CallW Try.prog false (SitW Try.prog (XF T L) i) 21 #[.pointer (some ⟨b, 0, none⟩), .pointer none, .int .i64 z] h δ (Ret (Cq L i h δ.d δ.g.wg F)) := by
  refine CallW.start (n := 23) rfl rfl ?_
  (repeat (first | refine EK.seq ?_ | refine EK.region ?_ | refine ER.move rfl rfl rfl ?_))
  refine ER.callR rfl rfl rfl rfl rfl (none_f hL hA.at hb) ?_
  rintro v0 h' δ0 ⟨rfl, rfl, e0, r0⟩
  (repeat (first | refine EK.seq ?_ | refine EK.region ?_ | refine ER.done ?_ | refine EK.skip ?_ | refine ER.move rfl rfl rfl ?_ | refine EK.condF rfl ?_))
  refine ER.callD rfl rfl rfl rfl rfl live_nil ?_
  (repeat (first | refine EK.seq ?_ | refine EK.region ?_ | refine ER.done ?_ | refine EK.skip ?_ | refine ER.move rfl rfl rfl ?_ | refine ER.nilCheck rfl rfl rfl ?_ | refine ER.fieldAddr rfl rfl rfl ?_ | refine EK.condF rfl ?_))
  refine ER.callR rfl rfl rfl rfl rfl (astore_f (Q := fun v h1 δ1 => v = .tuple #[] /\ h1 = h' /\ δ1.d = δ0.d /\ δ1.g.wg = δ.g.wg /\ At L i ⟨b, 1, 0⟩ δ1.g /\ b ∈ L.cls δ1.g.y /\ ∀ y₂, LRel L i δ1.g.y y₂ -> F (.tuple #[]) y₂) hL (hA.rr r0) (by rw [r0.stat.cls]; exact hb) (fun y j r => hnb y j (r0.lrel.trans hL r)) fun γ₁ r1 a1 j1 => ?_) ?_
  · obtain ⟨y', m, hv, hF⟩ := hop γ₁.y (r0.lrel.trans hL r1.lrel) j1
    exact ⟨y', m, hv, fun γ₂ e2 w2 a2 => ⟨rfl, rfl, rfl, w2.trans r0.wg, a2, by rw [e2, m.stat.cls, r1.stat.cls, r0.stat.cls]; exact hb, by rw [e2]; exact hF⟩⟩
  rintro v h2 δ2 ⟨rfl, rfl, e2, w2, a2, b2, hF⟩
  (repeat (first | refine EK.region ?_ | refine ER.done ?_ | refine ER.move rfl rfl rfl ?_))
  refine ER.callR rfl rfl rfl rfl rfl (wakes_f hL a2 b2) ?_
  rintro v h3 δ3 ⟨rfl, rfl, e3, r3, a3⟩
  (repeat refine ER.done ?_)
  refine EK.done ?_
  exact EU.ret0 rfl ⟨rfl, (e3.trans e2).trans e0, r3.wg.trans w2, a3, hF _ r3.lrel⟩
theorem ccas_f (hL : L.Ok) {u z : Int} (hA : Idle L i δ.g) (hb : b ∈ L.cls δ.g.y) (hnb : ∀ y, L.J y -> LRel L i δ.g.y y -> LNoBag L y b) {F : Value -> Y -> Prop}
    (hop : ∀ y₁, LRel L i δ.g.y y₁ -> L.J y₁ -> (L.val y₁ b = u -> ∃ y', LStep L i b y₁ y' /\ L.val y' b = z /\ ∀ y₂, LRel L i y' y₂ -> F (.bool true) y₂) /\ (L.val y₁ b ≠ u -> ∃ y', LMove L i y₁ y' /\ F (.bool false) y')) :
    CallW Try.prog false (SitW Try.prog (XF T L) i) 20 #[.pointer (some ⟨b, 0, none⟩), .pointer none, .int .i64 u, .int .i64 z] h δ (Ret (Cq L i h δ.d δ.g.wg F)) := by
  refine CallW.start (n := 39) rfl rfl ?_
  (repeat (first | refine EK.seq ?_ | refine EK.region ?_ | refine ER.done ?_ | refine ER.move rfl rfl rfl ?_ | refine ER.assign rfl rfl rfl ?_))
  refine ER.callR rfl rfl rfl rfl rfl (none_f hL hA.at hb) ?_
  rintro v0 h' δ0 ⟨rfl, rfl, e0, r0⟩
  (repeat (first | refine EK.seq ?_ | refine EK.region ?_ | refine ER.done ?_ | refine EK.skip ?_ | refine ER.move rfl rfl rfl ?_ | refine EK.condF rfl ?_))
  refine ER.callD rfl rfl rfl rfl rfl live_nil ?_
  (repeat (first | refine EK.seq ?_ | refine EK.region ?_ | refine ER.done ?_ | refine EK.skip ?_ | refine ER.move rfl rfl rfl ?_ | refine ER.nilCheck rfl rfl rfl ?_ | refine ER.fieldAddr rfl rfl rfl ?_ | refine EK.condF rfl ?_))
  refine ER.callR rfl rfl rfl rfl rfl (acas_f (Q := fun v h1 δ1 => h1 = h' /\ δ1.d = δ0.d /\ δ1.g.wg = δ.g.wg /\ b ∈ L.cls δ1.g.y /\ ((v = .bool true /\ At L i ⟨b, 1, 0⟩ δ1.g /\ ∀ y₂, LRel L i δ1.g.y y₂ -> F (.bool true) y₂) \/ (v = .bool false /\ Idle L i δ1.g /\ F (.bool false) δ1.g.y))) hL (hA.rr r0) (by rw [r0.stat.cls]; exact hb) (fun y j r => hnb y j (r0.lrel.trans hL r)) fun γ₁ r1 a1 j1 => ?_) ?_
  · obtain ⟨k1, k2⟩ := hop γ₁.y (r0.lrel.trans hL r1.lrel) j1
    refine ⟨fun e => ?_, fun e => ?_⟩
    · obtain ⟨y', m, hv, hF⟩ := k1 e
      exact ⟨y', m, hv, fun γ₂ e2 w2 a2 => ⟨rfl, rfl, w2.trans r0.wg, by rw [e2, m.stat.cls, r1.stat.cls, r0.stat.cls]; exact hb, .inl ⟨rfl, a2, by rw [e2]; exact hF⟩⟩⟩
    · obtain ⟨y', m, hF⟩ := k2 e
      exact ⟨y', m, fun γ₂ e2 w2 a2 => ⟨rfl, rfl, w2.trans r0.wg, by rw [e2, m.stat.cls, r1.stat.cls, r0.stat.cls]; exact hb, .inr ⟨rfl, a2, by rw [e2]; exact hF⟩⟩⟩
  rintro v h2 δ2 ⟨rfl, e2, w2, b2, ⟨rfl, a2, hF⟩ | ⟨rfl, a2, hF⟩⟩
  · (repeat (first | refine EK.seq ?_ | refine EK.region ?_ | refine ER.done ?_ | refine ER.move rfl rfl rfl ?_ | refine ER.assign rfl rfl rfl ?_ | refine EK.condT rfl ?_))
    refine ER.callR rfl rfl rfl rfl rfl (wakes_f hL a2 b2) ?_
    rintro v h3 δ3 ⟨rfl, rfl, e3, r3, a3⟩
    (repeat (first | refine EK.seq ?_ | refine EK.region ?_ | refine ER.done ?_ | refine ER.move rfl rfl rfl ?_ | refine ER.assign rfl rfl rfl ?_ | refine EK.ret ?_))
    exact EU.ret1 rfl rfl ⟨rfl, (e3.trans e2).trans e0, r3.wg.trans w2, a3, hF _ r3.lrel⟩
  · (repeat (first | refine EK.seq ?_ | refine EK.region ?_ | refine ER.done ?_ | refine EK.skip ?_ | refine ER.move rfl rfl rfl ?_ | refine ER.assign rfl rfl rfl ?_ | refine EK.condF rfl ?_ | refine EK.ret ?_))
    exact EU.ret1 rfl rfl ⟨rfl, e2.trans e0, w2, a2, hF⟩
def CqH (L : Law Y) (i : Nat) (wg : Nat) (F : Value -> Hp -> Y -> Prop) : Value -> Hp -> Ix (Gf Y) -> Prop := fun v h' δ' => δ'.d = 0 /\ δ'.g.wg = wg /\ Idle L i δ'.g /\ F v h' δ'.g.y
theorem astoreH_f (hL : L.Ok) {z : Int} (hA : Idle L i δ.g) (hb : b ∈ L.cls δ.g.y) (hdd : δ.d = 0) {Q : Value -> Hp -> Ix (Gf Y) -> Prop}
    (hop : ∀ γ₁, Rr L i δ.g γ₁ -> Idle L i γ₁ -> L.J γ₁.y -> (∃ H : Hp, Part False h H /\ Part False (L.bag γ₁.y b) H) -> ∃ y' h', LHand L i b false γ₁.y y' h h' /\ L.val y' b = z /\ ∀ γ₂, γ₂.y = y' -> γ₂.wg = δ.g.wg -> At L i ⟨b, 1, 0⟩ γ₂ -> Q (.tuple #[]) h' ⟨0, γ₂⟩) :
    CallW Try.prog false (SitW Try.prog (XF T L) i) 31 #[.pointer (some ⟨b, 0, none⟩), .int .i64 z] h δ (Ret Q) := by
  refine CallW.start (n := 9) rfl rfl ?_
  (repeat (first | refine EK.region ?_ | refine ER.move rfl rfl rfl ?_ | refine ER.nilCheck rfl rfl rfl ?_ | refine ER.fieldAddr rfl rfl rfl ?_))
  refine ER.storeH hL rfl rfl rfl rfl hA hb hdd fun γ₁ r1 a1 j1 p1 => ?_
  obtain ⟨y', h', m, hv, hn⟩ := hop γ₁ r1 a1 j1 p1
  refine ⟨y', h', m, hv, fun γ₂ e2 w2 a2 => ?_⟩
  (repeat refine ER.done ?_)
  refine EK.done ?_
  exact EU.ret0 rfl (hn γ₂ e2 w2 a2)
theorem acasH_f (hL : L.Ok) {u z : Int} (hA : Idle L i δ.g) (hb : b ∈ L.cls δ.g.y) (hdd : δ.d = 0) {Q : Value -> Hp -> Ix (Gf Y) -> Prop}
    (hop : ∀ γ₁, Rr L i δ.g γ₁ -> Idle L i γ₁ -> L.J γ₁.y -> (∃ H : Hp, Part False h H /\ Part False (L.bag γ₁.y b) H) -> (L.val γ₁.y b = u -> ∃ y' h', LHand L i b true γ₁.y y' h h' /\ L.val y' b = z /\ ∀ γ₂, γ₂.y = y' -> γ₂.wg = δ.g.wg -> At L i ⟨b, 1, 0⟩ γ₂ -> Q (.bool true) h' ⟨0, γ₂⟩) /\
      (L.val γ₁.y b ≠ u -> ∃ y', LMove L i γ₁.y y' /\ ∀ γ₂, γ₂.y = y' -> γ₂.wg = δ.g.wg -> Idle L i γ₂ -> Q (.bool false) h ⟨0, γ₂⟩)) :
    CallW Try.prog false (SitW Try.prog (XF T L) i) 35 #[.pointer (some ⟨b, 0, none⟩), .int .i64 u, .int .i64 z] h δ (Ret Q) := by
  refine CallW.start (n := 13) rfl rfl ?_
  (repeat (first | refine EK.seq ?_ | refine EK.region ?_ | refine ER.done ?_ | refine ER.move rfl rfl rfl ?_ | refine ER.assign rfl rfl rfl ?_ | refine ER.nilCheck rfl rfl rfl ?_ | refine ER.fieldAddr rfl rfl rfl ?_))
  refine ER.casH hL rfl rfl rfl rfl hA hb hdd fun γ₁ r1 a1 j1 p1 => ?_
  obtain ⟨k1, k2⟩ := hop γ₁ r1 a1 j1 p1
  refine ⟨fun e => ?_, fun e => ?_⟩
  · obtain ⟨y', h', m, hv, hn⟩ := k1 e
    refine ⟨y', h', m, hv, fun γ₂ e2 w2 a2 => ?_⟩
    (repeat (first | refine ER.done ?_ | refine ER.assign rfl rfl rfl ?_ | refine EK.ret ?_))
    exact EU.ret1 rfl rfl (hn γ₂ e2 w2 a2)
  · obtain ⟨y', m, hn⟩ := k2 e
    refine ⟨y', m, fun γ₂ e2 w2 a2 => ?_⟩
    (repeat (first | refine ER.done ?_ | refine ER.assign rfl rfl rfl ?_ | refine EK.ret ?_))
    exact EU.ret1 rfl rfl (hn γ₂ e2 w2 a2)
theorem aaddT_f (hL : L.Ok) {z : Int} {t : TypeId} (hA : Idle L i δ.g) (hb : L.atT δ.g.y b = some t) {Q : Value -> Hp -> Ix (Gf Y) -> Prop}
    (hop : ∀ γ₁, Rr L i δ.g γ₁ -> Idle L i γ₁ -> L.J γ₁.y -> ∃ y', TMove L i b γ₁.y y' /\ L.atv y' b = IntKind.i64.wrap (L.atv γ₁.y b + z) /\ ∀ γ₂, γ₂.y = y' -> γ₂.wg = δ.g.wg -> Idle L i γ₂ -> Q (.int .i64 (L.atv y' b)) h ⟨δ.d, γ₂⟩) :
    CallW Try.prog false (SitW Try.prog (XF T L) i) 9 #[.pointer (some ⟨b, 0, none⟩), .int .i64 z] h δ (Ret Q) := by
  refine CallW.start (n := 10) rfl rfl ?_
  (repeat (first | refine EK.seq ?_ | refine EK.region ?_ | refine ER.done ?_ | refine ER.move rfl rfl rfl ?_ | refine ER.assign rfl rfl rfl ?_ | refine ER.nilCheck rfl rfl rfl ?_ | refine ER.fieldAddr rfl rfl rfl ?_))
  refine ER.addT hL rfl rfl rfl rfl hA hb fun γ₁ r1 a1 j1 => ?_
  obtain ⟨y', m, hv, hn⟩ := hop γ₁ r1 a1 j1
  refine ⟨y', m, hv, fun γ₂ e2 w2 a2 => ?_⟩
  (repeat (first | refine ER.done ?_ | refine ER.assign rfl rfl rfl ?_ | refine EK.ret ?_))
  exact EU.ret1 rfl rfl (hn γ₂ e2 w2 a2)
theorem cstoreH_f (hL : L.Ok) {z : Int} (hA : Idle L i δ.g) (hb : b ∈ L.cls δ.g.y) (hdd : δ.d = 0) {F : Value -> Hp -> Y -> Prop}
    (hop : ∀ y₁, LRel L i δ.g.y y₁ -> L.J y₁ -> (∃ H : Hp, Part False h H /\ Part False (L.bag y₁ b) H) -> ∃ y' h', LHand L i b false y₁ y' h h' /\ L.val y' b = z /\ ∀ y₂, LRel L i y' y₂ -> F (.tuple #[]) h' y₂) :
    CallW Try.prog false (SitW Try.prog (XF T L) i) 21 #[.pointer (some ⟨b, 0, none⟩), .pointer none, .int .i64 z] h δ (Ret (CqH L i δ.g.wg F)) := by
  refine CallW.start (n := 23) rfl rfl ?_
  (repeat (first | refine EK.seq ?_ | refine EK.region ?_ | refine ER.move rfl rfl rfl ?_))
  refine ER.callR rfl rfl rfl rfl rfl (none_f hL hA.at hb) ?_
  rintro v0 h' δ0 ⟨rfl, rfl, e0, r0⟩
  (repeat (first | refine EK.seq ?_ | refine EK.region ?_ | refine ER.done ?_ | refine EK.skip ?_ | refine ER.move rfl rfl rfl ?_ | refine EK.condF rfl ?_))
  refine ER.callD rfl rfl rfl rfl rfl live_nil ?_
  (repeat (first | refine EK.seq ?_ | refine EK.region ?_ | refine ER.done ?_ | refine EK.skip ?_ | refine ER.move rfl rfl rfl ?_ | refine ER.nilCheck rfl rfl rfl ?_ | refine ER.fieldAddr rfl rfl rfl ?_ | refine EK.condF rfl ?_))
  refine ER.callR rfl rfl rfl rfl rfl (astoreH_f (Q := fun v h1 δ1 => v = .tuple #[] /\ δ1.d = 0 /\ δ1.g.wg = δ.g.wg /\ At L i ⟨b, 1, 0⟩ δ1.g /\ b ∈ L.cls δ1.g.y /\ ∀ y₂, LRel L i δ1.g.y y₂ -> F (.tuple #[]) h1 y₂) hL (hA.rr r0) (by rw [r0.stat.cls]; exact hb) (e0.trans hdd) fun γ₁ r1 a1 j1 p1 => ?_) ?_
  · obtain ⟨y', h1, m, hv, hF⟩ := hop γ₁.y (r0.lrel.trans hL r1.lrel) j1 p1
    exact ⟨y', h1, m, hv, fun γ₂ e2 w2 a2 => ⟨rfl, rfl, w2.trans r0.wg, a2, by rw [e2, m.stat.cls, r1.stat.cls, r0.stat.cls]; exact hb, by rw [e2]; exact hF⟩⟩
  rintro v h2 δ2 ⟨rfl, e2, w2, a2, b2, hF⟩
  (repeat (first | refine EK.region ?_ | refine ER.done ?_ | refine ER.move rfl rfl rfl ?_))
  refine ER.callR rfl rfl rfl rfl rfl (wakes_f hL a2 b2) ?_
  rintro v h3 δ3 ⟨rfl, rfl, e3, r3, a3⟩
  (repeat refine ER.done ?_)
  refine EK.done ?_
  exact EU.ret0 rfl ⟨e3.trans e2, r3.wg.trans w2, a3, hF _ r3.lrel⟩
theorem ccasH_f (hL : L.Ok) {u z : Int} (hA : Idle L i δ.g) (hb : b ∈ L.cls δ.g.y) (hdd : δ.d = 0) {F : Value -> Hp -> Y -> Prop}
    (hop : ∀ y₁, LRel L i δ.g.y y₁ -> L.J y₁ -> (∃ H : Hp, Part False h H /\ Part False (L.bag y₁ b) H) -> (L.val y₁ b = u -> ∃ y' h', LHand L i b true y₁ y' h h' /\ L.val y' b = z /\ ∀ y₂, LRel L i y' y₂ -> F (.bool true) h' y₂) /\ (L.val y₁ b ≠ u -> ∃ y', LMove L i y₁ y' /\ F (.bool false) h y')) :
    CallW Try.prog false (SitW Try.prog (XF T L) i) 20 #[.pointer (some ⟨b, 0, none⟩), .pointer none, .int .i64 u, .int .i64 z] h δ (Ret (CqH L i δ.g.wg F)) := by
  refine CallW.start (n := 39) rfl rfl ?_
  (repeat (first | refine EK.seq ?_ | refine EK.region ?_ | refine ER.done ?_ | refine ER.move rfl rfl rfl ?_ | refine ER.assign rfl rfl rfl ?_))
  refine ER.callR rfl rfl rfl rfl rfl (none_f hL hA.at hb) ?_
  rintro v0 h' δ0 ⟨rfl, rfl, e0, r0⟩
  (repeat (first | refine EK.seq ?_ | refine EK.region ?_ | refine ER.done ?_ | refine EK.skip ?_ | refine ER.move rfl rfl rfl ?_ | refine EK.condF rfl ?_))
  refine ER.callD rfl rfl rfl rfl rfl live_nil ?_
  (repeat (first | refine EK.seq ?_ | refine EK.region ?_ | refine ER.done ?_ | refine EK.skip ?_ | refine ER.move rfl rfl rfl ?_ | refine ER.nilCheck rfl rfl rfl ?_ | refine ER.fieldAddr rfl rfl rfl ?_ | refine EK.condF rfl ?_))
  refine ER.callR rfl rfl rfl rfl rfl (acasH_f (Q := fun v h1 δ1 => δ1.d = 0 /\ δ1.g.wg = δ.g.wg /\ b ∈ L.cls δ1.g.y /\ ((v = .bool true /\ At L i ⟨b, 1, 0⟩ δ1.g /\ ∀ y₂, LRel L i δ1.g.y y₂ -> F (.bool true) h1 y₂) \/ (v = .bool false /\ Idle L i δ1.g /\ F (.bool false) h1 δ1.g.y))) hL (hA.rr r0) (by rw [r0.stat.cls]; exact hb) (e0.trans hdd) fun γ₁ r1 a1 j1 p1 => ?_) ?_
  · obtain ⟨k1, k2⟩ := hop γ₁.y (r0.lrel.trans hL r1.lrel) j1 p1
    refine ⟨fun e => ?_, fun e => ?_⟩
    · obtain ⟨y', h1, m, hv, hF⟩ := k1 e
      exact ⟨y', h1, m, hv, fun γ₂ e2 w2 a2 => ⟨rfl, w2.trans r0.wg, by rw [e2, m.stat.cls, r1.stat.cls, r0.stat.cls]; exact hb, .inl ⟨rfl, a2, by rw [e2]; exact hF⟩⟩⟩
    · obtain ⟨y', m, hF⟩ := k2 e
      exact ⟨y', m, fun γ₂ e2 w2 a2 => ⟨rfl, w2.trans r0.wg, by rw [e2, m.stat.cls, r1.stat.cls, r0.stat.cls]; exact hb, .inr ⟨rfl, a2, by rw [e2]; exact hF⟩⟩⟩
  rintro v h2 δ2 ⟨e2, w2, b2, ⟨rfl, a2, hF⟩ | ⟨rfl, a2, hF⟩⟩
  · (repeat (first | refine EK.seq ?_ | refine EK.region ?_ | refine ER.done ?_ | refine ER.move rfl rfl rfl ?_ | refine ER.assign rfl rfl rfl ?_ | refine EK.condT rfl ?_))
    refine ER.callR rfl rfl rfl rfl rfl (wakes_f hL a2 b2) ?_
    rintro v h3 δ3 ⟨rfl, rfl, e3, r3, a3⟩
    (repeat (first | refine EK.seq ?_ | refine EK.region ?_ | refine ER.done ?_ | refine ER.move rfl rfl rfl ?_ | refine ER.assign rfl rfl rfl ?_ | refine EK.ret ?_))
    exact EU.ret1 rfl rfl ⟨e3.trans e2, r3.wg.trans w2, a3, hF _ r3.lrel⟩
  · (repeat (first | refine EK.seq ?_ | refine EK.region ?_ | refine ER.done ?_ | refine EK.skip ?_ | refine ER.move rfl rfl rfl ?_ | refine ER.assign rfl rfl rfl ?_ | refine EK.condF rfl ?_ | refine EK.ret ?_))
    exact EU.ret1 rfl rfl ⟨e2, w2, a2, hF⟩
end
end
section
open Go Go.TJ Go.Proofs
variable [Dm]
section
variable {Y : Type} {T : Tids} {L : Law Y} {h : Hp} {δ : Ix (Gf Y)} {i b m : Nat}
theorem uadd_w (hL : L.Ok) (hA : Wk L i 1 δ.g) (hb : δ.g.wg = b) (hdd : 0 < δ.d) {Q : Value -> Hp -> Ix (Gf Y) -> Prop}
    (h1 : ∀ γ₂ (v w : Nat), γ₂.wg = b -> Wk L i 3 γ₂ -> v <= 200 -> w <= 1 -> (0 < v \/ w = 0) -> Q (.int .u64 (U v w)) h ⟨δ.d, γ₂⟩) (h2 : ∀ γ₂, γ₂.wg = b -> Wk L i 2 γ₂ -> Q (.int .u64 1) h ⟨δ.d, γ₂⟩) :
    CallW Try.prog false (SitW Try.prog (XF T L) i) 44 #[.pointer (some ⟨b, 0, none⟩), .int .u64 18446744069414584320] h δ (Ret Q) := by
  refine CallW.start (n := 10) rfl rfl ?_
  (repeat (first | refine EK.seq ?_ | refine EK.region ?_ | refine ER.done ?_ | refine ER.move rfl rfl rfl ?_ | refine ER.assign rfl rfl rfl ?_ | refine ER.nilCheck rfl rfl rfl ?_ | refine ER.fieldAddr rfl rfl rfl ?_))
  refine ER.wAdd hL rfl rfl rfl rfl hA hb hdd (fun γ₂ v w e2 a2 l1 l2 l3 => ?_) fun γ₂ e2 a2 => ?_
  · (repeat (first | refine ER.done ?_ | refine ER.assign rfl rfl rfl ?_ | refine EK.ret ?_))
    exact EU.ret1 rfl rfl (h1 γ₂ v w e2 a2 l1 l2 l3)
  · (repeat (first | refine ER.done ?_ | refine ER.assign rfl rfl rfl ?_ | refine EK.ret ?_))
    exact EU.ret1 rfl rfl (h2 γ₂ e2 a2)
theorem uload_w (hL : L.Ok) (hA : Wk L i 2 δ.g) (hb : δ.g.wg = b) (hdd : 0 < δ.d) :
    CallW Try.prog false (SitW Try.prog (XF T L) i) 46 #[.pointer (some ⟨b, 0, none⟩)] h δ (Ret fun v h' δ' => v = .int .u64 1 /\ h' = h /\ δ'.d = δ.d /\ δ'.g.wg = b /\ Wk L i 2 δ'.g) := by
  refine CallW.start (n := 7) rfl rfl ?_
  (repeat (first | refine EK.seq ?_ | refine EK.region ?_ | refine ER.done ?_ | refine ER.move rfl rfl rfl ?_ | refine ER.assign rfl rfl rfl ?_ | refine ER.nilCheck rfl rfl rfl ?_ | refine ER.fieldAddr rfl rfl rfl ?_))
  refine ER.wLoad hL rfl rfl rfl rfl hA hb hdd fun γ₂ e2 a2 => ?_
  (repeat (first | refine ER.done ?_ | refine ER.assign rfl rfl rfl ?_ | refine EK.ret ?_))
  exact EU.ret1 rfl rfl ⟨rfl, rfl, rfl, e2, a2⟩
theorem ustore_w (hL : L.Ok) (hA : Wk L i 2 δ.g) (hb : δ.g.wg = b) (hdd : 0 < δ.d) :
    CallW Try.prog false (SitW Try.prog (XF T L) i) 47 #[.pointer (some ⟨b, 0, none⟩), .int .u64 0] h δ (Ret fun v h' δ' => v = .tuple #[] /\ h' = h /\ δ'.d = δ.d /\ δ'.g.wg = b /\ Wk L i 4 δ'.g) := by
  refine CallW.start (n := 9) rfl rfl ?_
  (repeat (first | refine EK.region ?_ | refine ER.move rfl rfl rfl ?_ | refine ER.nilCheck rfl rfl rfl ?_ | refine ER.fieldAddr rfl rfl rfl ?_))
  refine ER.wStore hL rfl rfl rfl rfl hA hb hdd fun γ₂ e2 a2 => ?_
  (repeat refine ER.done ?_)
  refine EK.done ?_
  exact EU.ret0 rfl ⟨rfl, rfl, rfl, e2, a2⟩
set_option maxHeartbeats 4000000 in
theorem wdone_ok (hL : L.Ok) (hA : Idle L i δ.g) (hb : δ.g.wg = b) (hdd : δ.d = 0) (hfin : ∀ y₁, LRel L i δ.g.y y₁ -> L.J y₁ -> L.fin y₁ i h) :
    CallW Try.prog false (SitW Try.prog (XF T L) i) 24 #[.pointer (some ⟨b, 0, none⟩), .int .i64 (-1)] h δ (Ret fun v h' δ' => v = .tuple #[] /\ h' = #[] /\ δ'.d = 0 /\ δ'.g.dn i) := by
  refine CallW.start (n := 117) rfl rfl ?_
  (repeat (first | refine EK.seq ?_ | refine EK.region ?_ | refine ER.done ?_ | refine ER.move rfl rfl rfl ?_ | refine ER.cmpT rfl rfl rfl rfl rfl (by first | (dsimp only [cmpP]; omega) | exact rfl | exact Int.le_refl _) ?_ | refine EK.condT rfl ?_))
  refine ER.wUnsafe hL rfl rfl rfl (by decide) hA hb fun γ₁ r1 a1 => ?_
  refine ER.wRls hL rfl rfl rfl rfl a1 (r1.wg.trans hb) hdd fun γ₂ r2 j2 => ⟨hfin _ (r1.lrel.trans hL r2.lrel) j2, fun γ₃ e3 a3 => ?_⟩
  (repeat (first | refine EK.seq ?_ | refine EK.region ?_ | refine ER.done ?_))
  refine ER.ext rfl rfl rfl rfl (fun Q X hq => semW_mark0 (vs := #[]) (by simp) (by simp) hq) ?_
  (repeat (first | refine EK.region ?_ | refine ER.done ?_))
  refine ER.defer rfl rfl rfl ?_
  (repeat (first | refine EK.seq ?_ | refine EK.region ?_ | refine ER.done ?_ | refine ER.assign rfl rfl rfl ?_))
  refine ER.ext (e := fun _ => pure (.bool false)) (v := .bool false) (h' := #[]) (δ' := _) rfl rfl rfl rfl (fun Q X hq => hq) ?_
  (repeat (first | refine EK.seq ?_ | refine EK.region ?_ | refine ER.done ?_ | refine EK.skip ?_ | refine ER.move rfl rfl rfl ?_ | refine ER.nilCheck rfl rfl rfl ?_ | refine ER.fieldAddr rfl rfl rfl ?_ | refine EK.condF rfl ?_))
  refine ER.conv rfl rfl rfl (r := 18446744073709551615) (by decide) ?_
  refine ER.binI2 (op := .shl) rfl rfl rfl rfl (U_shl (r := 18446744069414584320) (by decide)) ?_
  refine ER.callR rfl rfl rfl rfl rfl (uadd_w (Q := fun v h' δ' => h' = #[] /\ δ'.d = 1 /\ δ'.g.wg = b /\ ((∃ x y : Nat, v = .int .u64 (U x y) /\ Wk L i 3 δ'.g /\ x <= 200 /\ y <= 1 /\ (0 < x \/ y = 0)) \/ (v = .int .u64 (U 0 1) /\ Wk L i 2 δ'.g))) hL a3 e3 Nat.one_pos (fun γ₄ v w e4 a4 l1 l2 l3 => ⟨rfl, rfl, e4, .inl ⟨v, w, rfl, a4, l1, l2, l3⟩⟩) fun γ₄ e4 a4 => ⟨rfl, rfl, e4, .inr ⟨rfl, a4⟩⟩) ?_
  rintro v h' ⟨d4, γ₄⟩ ⟨rfl, e1, e4, ⟨x, y, rfl, a4, l1, l2, l3⟩ | ⟨rfl, a4⟩⟩ <;> (simp only at e1 e4 a4; subst e1)
  · have hy : y = 0 \/ y = 1 := by omega
    rcases hy with rfl | rfl
    · rcases Nat.eq_zero_or_pos x with rfl | hx
      · (repeat (first | refine EK.seq ?_ | refine EK.region ?_ | refine ER.done ?_ | refine ER.move rfl rfl rfl ?_ | refine ER.assign rfl rfl rfl ?_))
        refine ER.andI (b := 2147483648) rfl rfl rfl rfl (U_and (v := 0) (w := 0) (by omega) (by omega)).1 ?_
        (repeat (first | refine EK.seq ?_ | refine EK.region ?_ | refine ER.done ?_ | refine EK.skip ?_ | refine ER.move rfl rfl rfl ?_ | refine ER.no rfl rfl ?_ | refine ER.pickF rfl rfl rfl rfl ?_ | refine ER.cmpF rfl rfl rfl rfl rfl (by first | (dsimp only [cmpP]; omega) | exact rfl | exact Int.le_refl _) ?_ | refine EK.condF rfl ?_))
        refine ER.binI2 (op := .shr) rfl rfl rfl rfl (U_shr (v := 0) (w := 0) (by omega)) ?_
        refine ER.conv rfl rfl rfl (r := (0 : Nat)) (i32_nat (x := 0) (by omega)) ?_
        (repeat (first | refine EK.seq ?_ | refine EK.region ?_ | refine ER.done ?_ | refine ER.move rfl rfl rfl ?_ | refine ER.assign rfl rfl rfl ?_))
        refine ER.andI (b := 2147483647) rfl rfl rfl rfl (U_and (v := 0) (w := 0) (by omega) (by omega)).2 ?_
        refine ER.conv rfl rfl rfl (r := (0 : Nat)) (u32_in (by omega) (by omega)) ?_
        (repeat (first | refine EK.seq ?_ | refine EK.region ?_ | refine ER.done ?_ | refine EK.skip ?_ | refine ER.move rfl rfl rfl ?_ | refine ER.assign rfl rfl rfl ?_ | refine ER.no rfl rfl ?_ | refine ER.pickT rfl rfl rfl rfl ?_ | refine ER.pickF rfl rfl rfl rfl ?_ | refine ER.cmpT rfl rfl rfl rfl rfl (by first | (dsimp only [cmpP]; omega) | exact rfl | exact Int.le_refl _) ?_ | refine ER.cmpF rfl rfl rfl rfl rfl (by first | (dsimp only [cmpP]; omega) | exact rfl | exact Int.le_refl _) ?_ | refine EK.condT rfl ?_ | refine EK.condF rfl ?_ | refine EK.ret ?_))
        refine EU.deferEnable ?_
        exact EU.ret0 rfl ⟨rfl, rfl, rfl, a4.dn⟩
      · (repeat (first | refine EK.seq ?_ | refine EK.region ?_ | refine ER.done ?_ | refine ER.move rfl rfl rfl ?_ | refine ER.assign rfl rfl rfl ?_))
        refine ER.andI (b := 2147483648) rfl rfl rfl rfl (U_and (v := x) (w := 0) (by omega) (by omega)).1 ?_
        (repeat (first | refine EK.seq ?_ | refine EK.region ?_ | refine ER.done ?_ | refine EK.skip ?_ | refine ER.move rfl rfl rfl ?_ | refine ER.no rfl rfl ?_ | refine ER.pickF rfl rfl rfl rfl ?_ | refine ER.cmpF rfl rfl rfl rfl rfl (by first | (dsimp only [cmpP]; omega) | exact rfl | exact Int.le_refl _) ?_ | refine EK.condF rfl ?_))
        refine ER.binI2 (op := .shr) rfl rfl rfl rfl (U_shr (v := x) (w := 0) (by omega)) ?_
        refine ER.conv rfl rfl rfl (r := (x : Nat)) (i32_nat (x := x) (by omega)) ?_
        (repeat (first | refine EK.seq ?_ | refine EK.region ?_ | refine ER.done ?_ | refine ER.move rfl rfl rfl ?_ | refine ER.assign rfl rfl rfl ?_))
        refine ER.andI (b := 2147483647) rfl rfl rfl rfl (U_and (v := x) (w := 0) (by omega) (by omega)).2 ?_
        refine ER.conv rfl rfl rfl (r := (0 : Nat)) (u32_in (by omega) (by omega)) ?_
        (repeat (first | refine EK.seq ?_ | refine EK.region ?_ | refine ER.done ?_ | refine EK.skip ?_ | refine ER.move rfl rfl rfl ?_ | refine ER.assign rfl rfl rfl ?_ | refine ER.no rfl rfl ?_ | refine ER.pickT rfl rfl rfl rfl ?_ | refine ER.pickF rfl rfl rfl rfl ?_ | refine ER.cmpT rfl rfl rfl rfl rfl (by first | (dsimp only [cmpP]; omega) | exact rfl | exact Int.le_refl _) ?_ | refine ER.cmpF rfl rfl rfl rfl rfl (by first | (dsimp only [cmpP]; omega) | exact rfl | exact Int.le_refl _) ?_ | refine EK.condT rfl ?_ | refine EK.condF rfl ?_ | refine EK.ret ?_))
        refine EU.deferEnable ?_
        exact EU.ret0 rfl ⟨rfl, rfl, rfl, a4.dn⟩
    · have hx : 0 < x := by omega
      (repeat (first | refine EK.seq ?_ | refine EK.region ?_ | refine ER.done ?_ | refine ER.move rfl rfl rfl ?_ | refine ER.assign rfl rfl rfl ?_))
      refine ER.andI (b := 2147483648) rfl rfl rfl rfl (U_and (v := x) (w := 1) (by omega) (by omega)).1 ?_
      (repeat (first | refine EK.seq ?_ | refine EK.region ?_ | refine ER.done ?_ | refine EK.skip ?_ | refine ER.move rfl rfl rfl ?_ | refine ER.no rfl rfl ?_ | refine ER.pickF rfl rfl rfl rfl ?_ | refine ER.cmpF rfl rfl rfl rfl rfl (by first | (dsimp only [cmpP]; omega) | exact rfl | exact Int.le_refl _) ?_ | refine EK.condF rfl ?_))
      refine ER.binI2 (op := .shr) rfl rfl rfl rfl (U_shr (v := x) (w := 1) (by omega)) ?_
      refine ER.conv rfl rfl rfl (r := (x : Nat)) (i32_nat (x := x) (by omega)) ?_
      (repeat (first | refine EK.seq ?_ | refine EK.region ?_ | refine ER.done ?_ | refine ER.move rfl rfl rfl ?_ | refine ER.assign rfl rfl rfl ?_))
      refine ER.andI (b := 2147483647) rfl rfl rfl rfl (U_and (v := x) (w := 1) (by omega) (by omega)).2 ?_
      refine ER.conv rfl rfl rfl (r := (1 : Nat)) (u32_in (by omega) (by omega)) ?_
      (repeat (first | refine EK.seq ?_ | refine EK.region ?_ | refine ER.done ?_ | refine EK.skip ?_ | refine ER.move rfl rfl rfl ?_ | refine ER.assign rfl rfl rfl ?_ | refine ER.no rfl rfl ?_ | refine ER.pickT rfl rfl rfl rfl ?_ | refine ER.pickF rfl rfl rfl rfl ?_ | refine ER.cmpT rfl rfl rfl rfl rfl (by first | (dsimp only [cmpP]; omega) | exact rfl | exact Int.le_refl _) ?_ | refine ER.cmpF rfl rfl rfl rfl rfl (by first | (dsimp only [cmpP]; omega) | exact rfl | exact Int.le_refl _) ?_ | refine EK.condT rfl ?_ | refine EK.condF rfl ?_ | refine EK.ret ?_))
      refine EU.deferEnable ?_
      exact EU.ret0 rfl ⟨rfl, rfl, rfl, a4.dn⟩
  · (repeat (first | refine EK.seq ?_ | refine EK.region ?_ | refine ER.done ?_ | refine ER.move rfl rfl rfl ?_ | refine ER.assign rfl rfl rfl ?_))
    refine ER.andI (b := 2147483648) rfl rfl rfl rfl (U_and (v := 0) (w := 1) (by omega) (by omega)).1 ?_
    (repeat (first | refine EK.seq ?_ | refine EK.region ?_ | refine ER.done ?_ | refine EK.skip ?_ | refine ER.move rfl rfl rfl ?_ | refine ER.no rfl rfl ?_ | refine ER.pickF rfl rfl rfl rfl ?_ | refine ER.cmpF rfl rfl rfl rfl rfl (by first | (dsimp only [cmpP]; omega) | exact rfl | exact Int.le_refl _) ?_ | refine EK.condF rfl ?_))
    refine ER.binI2 (op := .shr) rfl rfl rfl rfl (U_shr (v := 0) (w := 1) (by omega)) ?_
    refine ER.conv rfl rfl rfl (r := (0 : Nat)) (i32_nat (x := 0) (by omega)) ?_
    (repeat (first | refine EK.seq ?_ | refine EK.region ?_ | refine ER.done ?_ | refine ER.move rfl rfl rfl ?_ | refine ER.assign rfl rfl rfl ?_))
    refine ER.andI (b := 2147483647) rfl rfl rfl rfl (U_and (v := 0) (w := 1) (by omega) (by omega)).2 ?_
    refine ER.conv rfl rfl rfl (r := (1 : Nat)) (u32_in (by omega) (by omega)) ?_
    (repeat (first | refine EK.seq ?_ | refine EK.region ?_ | refine ER.done ?_ | refine EK.skip ?_ | refine ER.move rfl rfl rfl ?_ | refine ER.assign rfl rfl rfl ?_ | refine ER.nilCheck rfl rfl rfl ?_ | refine ER.fieldAddr rfl rfl rfl ?_ | refine ER.no rfl rfl ?_ | refine ER.pickT rfl rfl rfl rfl ?_ | refine ER.pickF rfl rfl rfl rfl ?_ | refine ER.cmpT rfl rfl rfl rfl rfl (by first | (dsimp only [cmpP]; omega) | exact rfl | exact Int.le_refl _) ?_ | refine ER.cmpF rfl rfl rfl rfl rfl (by first | (dsimp only [cmpP]; omega) | exact rfl | exact Int.le_refl _) ?_ | refine EK.condF rfl ?_))
    refine ER.callR rfl rfl rfl rfl rfl (uload_w hL a4 e4 Nat.one_pos) ?_
    rintro v h' ⟨d5, γ₅⟩ ⟨rfl, rfl, e1, e5, a5⟩
    simp only at e1 e5 a5
    subst e1
    (repeat refine ER.move rfl rfl rfl ?_)
    refine ER.cmpF rfl rfl rfl rfl rfl (by show ¬ ((1 : Int) ≠ U 0 1); decide) ?_
    (repeat (first | refine EK.seq ?_ | refine EK.region ?_ | refine ER.done ?_ | refine EK.skip ?_ | refine ER.move rfl rfl rfl ?_ | refine ER.nilCheck rfl rfl rfl ?_ | refine ER.fieldAddr rfl rfl rfl ?_ | refine EK.condF rfl ?_))
    refine ER.callR rfl rfl rfl rfl rfl (ustore_w hL a5 e5 Nat.one_pos) ?_
    rintro v h' ⟨d6, γ₆⟩ ⟨rfl, rfl, e1, e6, a6⟩
    simp only at e1 e6 a6
    subst e1
    (repeat (first | refine EK.seq ?_ | refine EK.region ?_ | refine ER.done ?_ | refine EK.skip ?_ | refine EK.block ?_ | refine ER.move rfl rfl rfl ?_ | refine EK.condF rfl ?_))
    refine EK.loop ?_
    (repeat (first | refine EK.seq ?_ | refine EK.region ?_ | refine ER.done ?_ | refine EK.skip ?_ | refine EK.block ?_ | refine ER.move rfl rfl rfl ?_ | refine ER.nilCheck rfl rfl rfl ?_ | refine ER.fieldAddr rfl rfl rfl ?_ | refine ER.cmpT rfl rfl rfl rfl rfl (by first | (dsimp only [cmpP]; omega) | exact rfl | exact Int.le_refl _) ?_ | refine EK.condT rfl ?_))
    refine ER.wSem hL rfl rfl rfl rfl a6 e6 Nat.one_pos fun γ₇ e7 a7 => ?_
    (repeat (first | refine EK.region ?_ | refine ER.done ?_ | refine EK.inBlock ?_ | refine ER.move rfl rfl rfl ?_))
    refine ER.sub' (kd := .u32) rfl rfl rfl rfl (r := 0) (by decide) ?_
    (repeat (first | refine ER.done ?_ | refine ER.assign rfl rfl rfl ?_))
    refine EK.inLoop ?_
    (repeat (first | refine EK.seq ?_ | refine EK.region ?_ | refine ER.done ?_ | refine ER.move rfl rfl rfl ?_ | refine ER.cmpF rfl rfl rfl rfl rfl (by first | (dsimp only [cmpP]; omega) | exact rfl | exact Int.le_refl _) ?_ | refine EK.condF rfl ?_ | refine EK.exit rfl ?_))
    refine EK.done ?_
    refine EU.deferEnable ?_
    exact EU.ret0 rfl ⟨rfl, rfl, rfl, a7.dn⟩
theorem done_ok (hL : L.Ok) (hA : Idle L i δ.g) (hb : δ.g.wg = b) (hdd : δ.d = 0) (hfin : ∀ y₁, LRel L i δ.g.y y₁ -> L.J y₁ -> L.fin y₁ i h) :
    CallW Try.prog false (SitW Try.prog (XF T L) i) 26 #[.pointer (some ⟨b, 0, none⟩)] h δ (Ret fun v h' δ' => v = .tuple #[] /\ h' = #[] /\ δ'.d = 0 /\ δ'.g.dn i) := by
  refine CallW.start (n := 4) rfl rfl ?_
  (repeat (first | refine EK.region ?_ | refine ER.move rfl rfl rfl ?_))
  refine ER.callR rfl rfl rfl rfl rfl (wdone_ok hL hA hb hdd hfin) ?_
  rintro v h' δ' ⟨rfl, rfl, e1, r1⟩
  (repeat refine ER.done ?_)
  refine EK.done ?_
  exact EU.ret0 rfl ⟨rfl, rfl, e1, r1⟩
end
end
section
open Go Go.TJ Go.Proofs
variable [Dm]
section
variable {Y : Type} {T : Tids} {L : Law Y} {h : Hp} {δ : Ix (Gf Y)} {b m : Nat}
theorem uadd_m (hL : L.Ok) (hM : Mn 0 m b δ.g) :
    CallW Try.prog true (SitM Try.prog (XF T L)) 44 #[.pointer (some ⟨b, 0, none⟩), .int .u64 4294967296] h δ (Ret fun v h' δ' => ∃ x : Nat, v = .int .u64 (U (x + 1) 0) /\ h' = h /\ δ'.d = δ.d /\ LRelM L m δ.g.y δ'.g.y /\ Mn 1 m b δ'.g /\ x <= 200) := by
  refine CallW.start (n := 10) rfl rfl ?_
  (repeat (first | refine EK.seq ?_ | refine EK.region ?_ | refine ER.done ?_ | refine ER.move rfl rfl rfl ?_ | refine ER.assign rfl rfl rfl ?_ | refine ER.nilCheck rfl rfl rfl ?_ | refine ER.fieldAddr rfl rfl rfl ?_))
  refine ER.mAdd hL rfl rfl rfl rfl hM fun γ₂ v r2 a2 l2 => ?_
  (repeat (first | refine ER.done ?_ | refine ER.assign rfl rfl rfl ?_ | refine EK.ret ?_))
  exact EU.ret1 rfl rfl ⟨v, rfl, rfl, rfl, r2, a2, l2⟩
theorem uload_m (hL : L.Ok) (hM : Mn 0 m b δ.g) :
    CallW Try.prog true (SitM Try.prog (XF T L)) 46 #[.pointer (some ⟨b, 0, none⟩)] h δ (Ret fun v h' δ' => h' = h /\ δ'.d = δ.d /\ LRelM L m δ.g.y δ'.g.y /\ ((v = .int .u64 (U 0 0) /\ Mn 3 m b δ'.g /\ AllDn δ'.g) \/ (v = .int .u64 (U δ'.g.wv 0) /\ Mn 0 m b δ'.g /\ 0 < δ'.g.wv /\ δ'.g.wv <= 200 /\ δ'.g.wv <= δ.g.wv))) := by
  refine CallW.start (n := 7) rfl rfl ?_
  (repeat (first | refine EK.seq ?_ | refine EK.region ?_ | refine ER.done ?_ | refine ER.move rfl rfl rfl ?_ | refine ER.assign rfl rfl rfl ?_ | refine ER.nilCheck rfl rfl rfl ?_ | refine ER.fieldAddr rfl rfl rfl ?_))
  refine ER.mLoad hL rfl rfl rfl rfl hM (fun γ₂ r2 a2 d2 => ?_) fun γ₂ r2 a2 l2 l3 => ?_
  · (repeat (first | refine ER.done ?_ | refine ER.assign rfl rfl rfl ?_ | refine EK.ret ?_))
    exact EU.ret1 rfl rfl ⟨rfl, rfl, r2, .inl ⟨rfl, a2, d2⟩⟩
  · (repeat (first | refine ER.done ?_ | refine ER.assign rfl rfl rfl ?_ | refine EK.ret ?_))
    exact EU.ret1 rfl rfl ⟨rfl, rfl, (r2.lrelM hM), .inr ⟨rfl, a2, l2, l3, r2.wv rfl⟩⟩
theorem ucas_m (hL : L.Ok) {v : Nat} (hM : Mn 0 m b δ.g) (hv : 0 < v) (hvw : δ.g.wv <= v) :
    CallW Try.prog true (SitM Try.prog (XF T L)) 52 #[.pointer (some ⟨b, 0, none⟩), .int .u64 (U v 0), .int .u64 (U v 1)] h δ (Ret fun x h' δ' => h' = h /\ δ'.d = δ.d /\ LRelM L m δ.g.y δ'.g.y /\ ((x = .bool true /\ Mn 2 m b δ'.g) \/ (x = .bool false /\ Mn 0 m b δ'.g /\ δ'.g.wv < v))) := by
  refine CallW.start (n := 13) rfl rfl ?_
  (repeat (first | refine EK.seq ?_ | refine EK.region ?_ | refine ER.done ?_ | refine ER.move rfl rfl rfl ?_ | refine ER.assign rfl rfl rfl ?_ | refine ER.nilCheck rfl rfl rfl ?_ | refine ER.fieldAddr rfl rfl rfl ?_))
  refine ER.mCas hL rfl rfl rfl rfl hM hv hvw (fun γ₂ r2 a2 => ?_) fun γ₂ r2 a2 l2 => ?_
  · (repeat (first | refine ER.done ?_ | refine ER.assign rfl rfl rfl ?_ | refine EK.ret ?_))
    exact EU.ret1 rfl rfl ⟨rfl, rfl, r2, .inl ⟨rfl, a2⟩⟩
  · (repeat (first | refine ER.done ?_ | refine ER.assign rfl rfl rfl ?_ | refine EK.ret ?_))
    exact EU.ret1 rfl rfl ⟨rfl, rfl, (r2.lrelM hM), .inr ⟨rfl, a2, l2⟩⟩
theorem uload3_m (hL : L.Ok) (hM : Mn 3 m b δ.g) (hD : AllDn δ.g) :
    CallW Try.prog true (SitM Try.prog (XF T L)) 46 #[.pointer (some ⟨b, 0, none⟩)] h δ (Ret fun v h' δ' => v = .int .u64 0 /\ h' = h /\ δ'.d = δ.d /\ LRelM L m δ.g.y δ'.g.y /\ Mn 3 m b δ'.g /\ AllDn δ'.g) := by
  refine CallW.start (n := 7) rfl rfl ?_
  (repeat (first | refine EK.seq ?_ | refine EK.region ?_ | refine ER.done ?_ | refine ER.move rfl rfl rfl ?_ | refine ER.assign rfl rfl rfl ?_ | refine ER.nilCheck rfl rfl rfl ?_ | refine ER.fieldAddr rfl rfl rfl ?_))
  refine ER.mLoad3 hL rfl rfl rfl rfl hM fun γ₂ r2 a2 => ?_
  (repeat (first | refine ER.done ?_ | refine ER.assign rfl rfl rfl ?_ | refine EK.ret ?_))
  exact EU.ret1 rfl rfl ⟨rfl, rfl, rfl, (r2.lrelM hM), a2, hD.rr r2⟩
set_option maxHeartbeats 4000000 in
theorem madd_ok (hL : L.Ok) (hM : Mn 0 m b δ.g) :
    CallW Try.prog true (SitM Try.prog (XF T L)) 24 #[.pointer (some ⟨b, 0, none⟩), .int .i64 1] h δ (Ret fun v h' δ' => v = .tuple #[] /\ h' = h /\ δ'.d = δ.d /\ LRelM L m δ.g.y δ'.g.y /\ Mn 1 m b δ'.g) := by
  refine CallW.start (n := 117) rfl rfl ?_
  (repeat (first | refine EK.seq ?_ | refine EK.region ?_ | refine ER.done ?_ | refine EK.skip ?_ | refine ER.move rfl rfl rfl ?_ | refine ER.cmpF rfl rfl rfl rfl rfl (by first | (dsimp only [cmpP]; omega) | exact rfl | exact Int.le_refl _) ?_ | refine EK.condT rfl ?_ | refine EK.condF rfl ?_))
  refine ER.ext rfl rfl rfl rfl (fun Q X hq => semW_mark0 (vs := #[]) (by simp) (by simp) hq) ?_
  (repeat (first | refine EK.region ?_ | refine ER.done ?_))
  refine ER.defer rfl rfl rfl ?_
  (repeat (first | refine EK.seq ?_ | refine EK.region ?_ | refine ER.done ?_ | refine ER.assign rfl rfl rfl ?_))
  refine ER.ext (e := fun _ => pure (.bool false)) (v := .bool false) (h' := h) (δ' := _) rfl rfl rfl rfl (fun Q X hq => hq) ?_
  (repeat (first | refine EK.seq ?_ | refine EK.region ?_ | refine ER.done ?_ | refine EK.skip ?_ | refine ER.move rfl rfl rfl ?_ | refine ER.nilCheck rfl rfl rfl ?_ | refine ER.fieldAddr rfl rfl rfl ?_ | refine EK.condF rfl ?_))
  refine ER.conv rfl rfl rfl (r := 1) (by decide) ?_
  refine ER.binI2 (op := .shl) rfl rfl rfl rfl (U_shl (r := 4294967296) (by decide)) ?_
  refine ER.callR rfl rfl rfl rfl rfl (uadd_m hL hM) ?_
  rintro v h' ⟨d4, γ₄⟩ ⟨x, rfl, rfl, e1, r4, a4, l4⟩
  simp only at e1 r4 a4
  subst e1
  (repeat (first | refine EK.seq ?_ | refine EK.region ?_ | refine ER.done ?_ | refine ER.move rfl rfl rfl ?_ | refine ER.assign rfl rfl rfl ?_))
  refine ER.andI (b := 2147483648) rfl rfl rfl rfl (U_and (v := x + 1) (w := 0) (by omega) (by omega)).1 ?_
  (repeat (first | refine EK.seq ?_ | refine EK.region ?_ | refine ER.done ?_ | refine EK.skip ?_ | refine ER.move rfl rfl rfl ?_ | refine ER.no rfl rfl ?_ | refine ER.pickF rfl rfl rfl rfl ?_ | refine ER.cmpF rfl rfl rfl rfl rfl (by first | (dsimp only [cmpP]; omega) | exact rfl | exact Int.le_refl _) ?_ | refine EK.condF rfl ?_))
  refine ER.binI2 (op := .shr) rfl rfl rfl rfl (U_shr (v := x + 1) (w := 0) (by omega)) ?_
  refine ER.conv rfl rfl rfl (r := (x + 1 : Nat)) (i32_nat (x := x + 1) (by omega)) ?_
  (repeat (first | refine EK.seq ?_ | refine EK.region ?_ | refine ER.done ?_ | refine ER.move rfl rfl rfl ?_ | refine ER.assign rfl rfl rfl ?_))
  refine ER.andI (b := 2147483647) rfl rfl rfl rfl (U_and (v := x + 1) (w := 0) (by omega) (by omega)).2 ?_
  refine ER.conv rfl rfl rfl (r := (0 : Nat)) (u32_in (by omega) (by omega)) ?_
  (repeat (first | refine EK.seq ?_ | refine EK.region ?_ | refine ER.done ?_ | refine ER.move rfl rfl rfl ?_ | refine ER.assign rfl rfl rfl ?_ | refine ER.pickT rfl rfl rfl rfl ?_ | refine ER.cmpT rfl rfl rfl rfl rfl (by first | (dsimp only [cmpP]; omega) | exact rfl | exact Int.le_refl _) ?_))
  refine ER.conv rfl rfl rfl (r := 1) (by decide) ?_
  rcases Nat.eq_zero_or_pos x with rfl | hx
  · (repeat (first | refine EK.region ?_ | refine ER.done ?_ | refine ER.move rfl rfl rfl ?_ | refine ER.nilCheck rfl rfl rfl ?_ | refine ER.fieldAddr rfl rfl rfl ?_ | refine ER.pickT rfl rfl rfl rfl ?_ | refine ER.cmpT rfl rfl rfl rfl rfl (by first | (dsimp only [cmpP]; omega) | exact rfl | exact Int.le_refl _) ?_ | refine EK.condT rfl ?_))
    refine ER.mUnsafe hL (.inr rfl) rfl rfl rfl (by decide) a4 fun γ₅ r5 a5 => ?_
    refine ER.mSaid (mk := .read) hL (.inl fun _ => rfl) rfl rfl rfl rfl a5 fun γ₆ r6 a6 => ?_
    (repeat (first | refine EK.seq ?_ | refine EK.region ?_ | refine ER.done ?_ | refine EK.skip ?_ | refine ER.move rfl rfl rfl ?_ | refine ER.no rfl rfl ?_ | refine ER.pickT rfl rfl rfl rfl ?_ | refine ER.pickF rfl rfl rfl rfl ?_ | refine ER.cmpT rfl rfl rfl rfl rfl (by first | (dsimp only [cmpP]; omega) | exact rfl | exact Int.le_refl _) ?_ | refine ER.cmpF rfl rfl rfl rfl rfl (by first | (dsimp only [cmpP]; omega) | exact rfl | exact Int.le_refl _) ?_ | refine EK.condT rfl ?_ | refine EK.condF rfl ?_ | refine EK.ret ?_))
    refine EU.deferEnable ?_
    exact EU.ret0 rfl ⟨rfl, rfl, rfl, (r4.trans hL (r5.lrelM a4)).trans hL (r6.lrelM a5), a6⟩
  · (repeat (first | refine EK.seq ?_ | refine EK.region ?_ | refine ER.done ?_ | refine EK.skip ?_ | refine ER.move rfl rfl rfl ?_ | refine ER.no rfl rfl ?_ | refine ER.pickT rfl rfl rfl rfl ?_ | refine ER.pickF rfl rfl rfl rfl ?_ | refine ER.cmpT rfl rfl rfl rfl rfl (by first | (dsimp only [cmpP]; omega) | exact rfl | exact Int.le_refl _) ?_ | refine ER.cmpF rfl rfl rfl rfl rfl (by first | (dsimp only [cmpP]; omega) | exact rfl | exact Int.le_refl _) ?_ | refine EK.condT rfl ?_ | refine EK.condF rfl ?_ | refine EK.ret ?_))
    refine EU.deferEnable ?_
    exact EU.ret0 rfl ⟨rfl, rfl, rfl, r4, a4⟩
structure Back (T : Tids) (L : Law Y) (y₀ : Y) (h : Hp) (m b : Nat) (h' : Hp) (γ' : Gf Y) : Prop where
  out : ∃ (γ₁ : Gf Y) (H : Hp), LRelM L m y₀ γ₁.y /\ γ₁.num = m /\ γ₁.wg = b /\ AllDn γ₁ /\ InvF T L γ₁ H /\ Part False h H /\ (∀ j hf, 0 < j -> γ₁.fn j = some hf -> Part False hf H) /\ (∀ x, x ∈ L.cls γ₁.y -> Part False (L.bag γ₁.y x) H) /\ h' = H.setIfInBounds b dum
  st : γ'.st = 2
  jn : (XF T L).jn γ'
theorem join_m {P : Program} {f : FuncId} {n : Nat} {k : List Item} {env : Env} {ds : List Deferred} {R : Post (Gf Y)} {ops : Array Oper} {l : List Oper} {d : Nat} {x : Operand} {args : Array Operand} {ats : Array TypeId} {ty : TypeId} {pos : String} {af : Array Edge} {g : Option (Nat × Bool)} {cc : FuncId}
    [ExtFn P cc (Extern.Race.marked .acquire)] (hw : wantE ops env g = some true) (hd : Nat.blt d n = true) (hx : ev env x = some (.func (.func cc) #[] #[])) (ha : evL env args.toList = some [.pointer (some ⟨b, 0, none⟩)]) (hdd : δ.d = 0) (hM : Mn 3 m b δ.g) (hD : AllDn δ.g)
    (hn : ∀ h' γ', Back T L δ.g.y h m b h' γ' -> ER P true (SitM P (XF T L)) f n ops l k ((d, .tuple #[]) :: env) ds h' ⟨0, γ'⟩ R) :
    ER P true (SitM P (XF T L)) f n ops (⟨some d, .call { callee := .value x, args, argTypes := ats }, ty, pos, af, g⟩ :: l) k env ds h δ R := by
  refine ER.joinS (X := XF T L) (fun _ _ _ _ z => .inr (.inr (.inr (.inr z)))) hw hd hx ha hdd hD fun γ₁ w hR hI hP hF hB => ?_
  have hM1 := hM.rr hR
  have hD1 := hD.rr hR
  have hinv := hI.2 hM1.on
  have hwg : γ₁.wg = b := hM1.wg
  have hdn : ∀ j, 0 < j -> j < γ₁.num -> ({ γ₁ with st := 2, fn := fun j => if j < γ₁.num then some #[] else none } : Gf Y).dn j := fun j j0 hj => ⟨(hD1 j j0 hj).1, by show (if j < γ₁.num then some #[] else none : Option Hp).isSome = true; rw [if_pos hj]; rfl⟩
  refine ⟨by show (⟨γ₁.wg, 0, none⟩ : Addr) = _; rw [hwg], { γ₁ with st := 2, fn := fun j => if j < γ₁.num then some #[] else none }, rfl, fun z => by have := z.1; rw [hM1.on] at this; omega, ⟨rfl, hdn⟩, ⟨by show (2 : Nat) ≠ 1; omega, hdn⟩, rfl, .inr ⟨by rw [hM1.on]; omega, rfl⟩, fun b' => ⟨fun z => ?_, fun z => .inr ⟨by show (2 : Nat) ≠ 0; omega, z⟩⟩, fun b' z => ?_, fun a z => ?_, fun j a w' z => ?_, fun a => ?_, fun a l z => ?_, fun j j0 hj => ?_, fun j hj => ?_, ⟨hI.1, fun z => ?_⟩, ?_⟩
  · rcases z with ⟨z, _⟩ | ⟨_, z⟩
    · have z' : (2 : Nat) = 1 := z; omega
    · exact z
  · have z' : (2 : Nat) = 1 := z.1; omega
  · rcases z with ⟨_, z⟩ | ⟨z, _⟩ | ⟨z, _⟩
    · exact .inl ⟨by rw [hM1.on]; omega, z⟩
    · have z' : (2 : Nat) = 1 := z; omega
    · have z' : (2 : Nat) = 1 := z; omega
  · have z' : (2 : Nat) = 1 := z.1; omega
  · show (if (2 : Nat) = 1 /\ a.block ∈ L.cls γ₁.y /\ a = ⟨a.block, 0, none⟩ then L.bag γ₁.y a.block else #[]) = #[]
    exact if_neg fun z => by have := z.1; omega
  · have z' : (2 : Nat) = 1 := z.1; omega
  · show (if j = 0 then none else if j < γ₁.num then some #[] else none) = some #[]
    rw [if_neg (by omega), if_pos (show j < γ₁.num from hj)]
  · show (if j = 0 then none else if j < γ₁.num then some #[] else none) = none
    have hj' : γ₁.num <= j := hj
    have := hI.1
    rw [if_neg (by omega), if_neg (by omega)]
  · have z' : (2 : Nat) = 1 := z; omega
  · refine hn _ _ ⟨⟨γ₁, w.heap, hR.lrelM hM, hM1.num, hwg, hD1, hinv, hP, fun j hf j0 e => hF j hf ?_, fun x hx => (by have := hB ⟨x, 0, none⟩; rwa [xf_bag hM1.on hx] at this), ?_⟩, rfl, ⟨rfl, hdn⟩⟩
    · show (if j = 0 then none else γ₁.fn j) = some hf
      rw [if_neg (by omega)]; exact e
    · show w.heap.setIfInBounds γ₁.wg dum = _
      rw [hwg]
theorem U_inc {v : Nat} (hv : v <= 1000) : IntKind.u64.wrap (U v 0 + 1) = U v 1 := by
  unfold U
  rw [u64_in (by omega) (by omega)]
  omega
set_option maxHeartbeats 4000000 in
theorem wait_ok (hL : L.Ok) (hM : Mn 0 m b δ.g) (hdd : δ.d = 0) :
    CallW Try.prog true (SitM Try.prog (XF T L)) 28 #[.pointer (some ⟨b, 0, none⟩)] h δ (Ret fun v h' δ' => v = .tuple #[] /\ δ'.d = 0 /\ ∃ y₁, LRelM L m δ.g.y y₁ /\ Back T L y₁ h m b h' δ'.g) := by
  refine CallW.start (n := 84) rfl rfl ?_
  (repeat (first | refine EK.seq ?_ | refine EK.region ?_ | refine EK.condT rfl ?_))
  refine ER.ext rfl rfl rfl rfl (fun Q X hq => semW_mark0 (vs := #[]) (by simp) (by simp) hq) ?_
  (repeat (first | refine ER.done ?_ | refine EK.block ?_))
  refine EK.loopInv (fun _ : Nat => [(0, .pointer (some ⟨b, 0, none⟩))]) (fun s h' δ' => h' = h /\ δ'.d = 1 /\ Mn 0 m b δ'.g /\ LRelM L m δ.g.y δ'.g.y /\ δ'.g.wv <= s) id δ.g.wv ⟨rfl, trivial⟩ ⟨rfl, by show markN .disable δ.d = 1; rw [hdd]; rfl, hM, LRelM.refl hL _ _, Nat.le_refl _⟩ ?_
  rintro s h' ⟨d1, γ₁⟩ ⟨rfl, e1, a1, r1, l1⟩ hback
  simp only at e1 a1 r1 l1
  subst e1
  (repeat (first | refine EK.seq ?_ | refine EK.region ?_ | refine EK.block ?_ | refine ER.move rfl rfl rfl ?_ | refine ER.nilCheck rfl rfl rfl ?_ | refine ER.fieldAddr rfl rfl rfl ?_))
  refine ER.callR rfl rfl rfl rfl rfl (uload_m hL a1) ?_
  rintro v h2 ⟨d2, γ₂⟩ ⟨rfl, e2, r2, ⟨rfl, a2, ad2⟩ | ⟨rfl, a2, l2, l3, l4⟩⟩ <;> (simp only at e2 r2 a2; subst e2)
  · (repeat (first | refine EK.seq ?_ | refine EK.region ?_ | refine ER.done ?_ | refine ER.move rfl rfl rfl ?_ | refine ER.assign rfl rfl rfl ?_))
    refine ER.binI2 (op := .shr) rfl rfl rfl rfl (U_shr (v := 0) (w := 0) (by omega)) ?_
    refine ER.conv rfl rfl rfl (r := (0 : Nat)) (i32_nat (x := 0) (by omega)) ?_
    (repeat (first | refine EK.seq ?_ | refine EK.region ?_ | refine ER.done ?_ | refine ER.move rfl rfl rfl ?_ | refine ER.assign rfl rfl rfl ?_))
    refine ER.andI (b := 2147483647) rfl rfl rfl rfl (U_and (v := 0) (w := 0) (by omega) (by omega)).2 ?_
    refine ER.conv rfl rfl rfl (r := (0 : Nat)) (u32_in (by omega) (by omega)) ?_
    (repeat (first | refine EK.seq ?_ | refine EK.region ?_ | refine ER.done ?_ | refine ER.move rfl rfl rfl ?_ | refine ER.assign rfl rfl rfl ?_ | refine ER.cmpT rfl rfl rfl rfl rfl (by first | (dsimp only [cmpP]; omega) | exact rfl | exact Int.le_refl _) ?_ | refine EK.condT rfl ?_))
    refine ER.ext rfl rfl rfl rfl (fun Q X hq => semW_mark0 (vs := #[]) (by simp) (by simp) hq) ?_
    (repeat (first | refine EK.region ?_ | refine ER.done ?_ | refine ER.move rfl rfl rfl ?_))
    refine ER.mUnsafe hL (.inl rfl) rfl rfl rfl (by decide) a2 fun γ₅ r5 a5 => ?_
    refine join_m rfl rfl rfl rfl rfl a5 (ad2.rr r5) fun h6 γ₆ B => ?_
    (repeat (first | refine EK.seq ?_ | refine EK.region ?_ | refine ER.done ?_ | refine ER.move rfl rfl rfl ?_ | refine ER.cmpT rfl rfl rfl rfl rfl (by first | (dsimp only [cmpP]; omega) | exact rfl | exact Int.le_refl _) ?_))
    refine ER.andI (b := 2147483648) rfl rfl rfl rfl (U_and (v := 0) (w := 0) (by omega) (by omega)).1 ?_
    (repeat (first | refine ER.done ?_ | refine EK.skip ?_ | refine ER.move rfl rfl rfl ?_ | refine ER.no rfl rfl ?_ | refine ER.pickT rfl rfl rfl rfl ?_ | refine ER.pickF rfl rfl rfl rfl ?_ | refine ER.cmpF rfl rfl rfl rfl rfl (by first | (dsimp only [cmpP]; omega) | exact rfl | exact Int.le_refl _) ?_ | refine EK.condF rfl ?_ | refine EK.ret ?_))
    exact EU.ret0 rfl ⟨rfl, rfl, γ₅.y, (r1.trans hL r2).trans hL (r5.lrelM a2), B⟩
  · simp only at l2 l3 l4
    (repeat (first | refine EK.seq ?_ | refine EK.region ?_ | refine ER.done ?_ | refine ER.move rfl rfl rfl ?_ | refine ER.assign rfl rfl rfl ?_))
    refine ER.binI2 (op := .shr) rfl rfl rfl rfl (U_shr (v := γ₂.wv) (w := 0) (by omega)) ?_
    refine ER.conv rfl rfl rfl (r := (γ₂.wv : Nat)) (i32_nat (x := γ₂.wv) (by omega)) ?_
    (repeat (first | refine EK.seq ?_ | refine EK.region ?_ | refine ER.done ?_ | refine ER.move rfl rfl rfl ?_ | refine ER.assign rfl rfl rfl ?_))
    refine ER.andI (b := 2147483647) rfl rfl rfl rfl (U_and (v := γ₂.wv) (w := 0) (by omega) (by omega)).2 ?_
    refine ER.conv rfl rfl rfl (r := (0 : Nat)) (u32_in (by omega) (by omega)) ?_
    (repeat (first | refine EK.seq ?_ | refine EK.region ?_ | refine ER.done ?_ | refine EK.skip ?_ | refine ER.move rfl rfl rfl ?_ | refine ER.assign rfl rfl rfl ?_ | refine ER.nilCheck rfl rfl rfl ?_ | refine ER.fieldAddr rfl rfl rfl ?_ | refine ER.cmpF rfl rfl rfl rfl rfl (by first | (dsimp only [cmpP]; omega) | exact rfl | exact Int.le_refl _) ?_ | refine EK.condF rfl ?_))
    refine ER.add (kd := .u64) rfl rfl rfl rfl (U_inc (v := γ₂.wv) (by omega)) ?_
    refine ER.callR rfl rfl rfl rfl rfl (ucas_m hL (v := γ₂.wv) a2 l2 (Nat.le_refl _)) ?_
    rintro v h3 ⟨d3, γ₃⟩ ⟨rfl, e3, r3, ⟨rfl, a3⟩ | ⟨rfl, a3, l5⟩⟩ <;> (simp only at e3 r3 a3; subst e3)
    · (repeat (first | refine EK.seq ?_ | refine EK.region ?_ | refine ER.done ?_ | refine ER.move rfl rfl rfl ?_ | refine ER.nilCheck rfl rfl rfl ?_ | refine ER.fieldAddr rfl rfl rfl ?_ | refine ER.pickT rfl rfl rfl rfl ?_ | refine ER.cmpT rfl rfl rfl rfl rfl (by first | (dsimp only [cmpP]; omega) | exact rfl | exact Int.le_refl _) ?_ | refine EK.condT rfl ?_))
      refine ER.mUnsafe hL (.inr rfl) rfl rfl rfl (by decide) a3 fun γ₅ r5 a5 => ?_
      refine ER.mSaid (mk := .write) hL (.inr fun _ => rfl) rfl rfl rfl rfl a5 fun γ₆ r6 a6 => ?_
      (repeat (first | refine EK.seq ?_ | refine EK.region ?_ | refine ER.done ?_ | refine ER.move rfl rfl rfl ?_ | refine ER.assign rfl rfl rfl ?_))
      refine ER.andI (b := 2147483648) rfl rfl rfl rfl (U_and (v := γ₂.wv) (w := 0) (by omega) (by omega)).1 ?_
      (repeat (first | refine EK.seq ?_ | refine EK.region ?_ | refine ER.done ?_ | refine EK.skip ?_ | refine ER.move rfl rfl rfl ?_ | refine ER.nilCheck rfl rfl rfl ?_ | refine ER.fieldAddr rfl rfl rfl ?_ | refine ER.no rfl rfl ?_ | refine ER.pickF rfl rfl rfl rfl ?_ | refine ER.cmpF rfl rfl rfl rfl rfl (by first | (dsimp only [cmpP]; omega) | exact rfl | exact Int.le_refl _) ?_ | refine EK.condF rfl ?_))
      refine ER.mSem hL rfl rfl rfl rfl a6 fun γ₇ r7 a7 ad7 => ?_
      (repeat (first | refine EK.seq ?_ | refine EK.region ?_ | refine ER.done ?_ | refine ER.move rfl rfl rfl ?_ | refine ER.nilCheck rfl rfl rfl ?_ | refine ER.fieldAddr rfl rfl rfl ?_))
      refine ER.callR rfl rfl rfl rfl rfl (uload3_m hL a7 ad7) ?_
      rintro v h8 ⟨d8, γ₈⟩ ⟨rfl, rfl, e8, r8, a8, ad8⟩
      simp only at e8 r8 a8
      subst e8
      (repeat (first | refine EK.seq ?_ | refine EK.region ?_ | refine ER.done ?_ | refine ER.assign rfl rfl rfl ?_ | refine ER.cmpF rfl rfl rfl rfl rfl (by first | (dsimp only [cmpP]; omega) | exact rfl | exact Int.le_refl _) ?_ | refine EK.condT rfl ?_))
      refine ER.ext rfl rfl rfl rfl (fun Q X hq => semW_mark0 (vs := #[]) (by simp) (by simp) hq) ?_
      (repeat (first | refine EK.region ?_ | refine ER.done ?_ | refine ER.move rfl rfl rfl ?_))
      refine ER.mUnsafe hL (.inl rfl) rfl rfl rfl (by decide) a8 fun γ₉ r9 a9 => ?_
      refine join_m rfl rfl rfl rfl rfl a9 (ad8.rr r9) fun h6 γ₁₀ B => ?_
      (repeat (first | refine EK.seq ?_ | refine EK.region ?_ | refine ER.done ?_ | refine EK.skip ?_ | refine ER.move rfl rfl rfl ?_ | refine EK.condF rfl ?_ | refine EK.ret ?_))
      exact EU.ret0 rfl ⟨rfl, rfl, γ₉.y, ((((((r1.trans hL r2).trans hL r3).trans hL (r5.lrelM a3)).trans hL (r6.lrelM a5)).trans hL r7).trans hL r8).trans hL (r9.lrelM a8), B⟩
    · (repeat (first | refine ER.done ?_ | refine EK.skip ?_ | refine EK.inBlock ?_ | refine EK.condF rfl ?_))
      refine EK.sub ?_ (hback γ₃.wv _ _ (by show γ₃.wv < s; simp only at l5 l1; omega) ⟨rfl, rfl, a3, (r1.trans hL r2).trans hL r3, Nat.le_refl _⟩)
      exact ⟨rfl, trivial⟩
end
end
end Go.Proofs.Ytndllibjlfpndaa
