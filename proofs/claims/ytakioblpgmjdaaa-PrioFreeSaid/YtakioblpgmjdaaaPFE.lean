/- Steps of the walk and of the plain law (FMv to PfD). Conditions: as each lemma says. -/
import Derived.Laws.BitsAllLaws
import Derived.Test.YtakioblpgmjdaaaPFD
set_option linter.unusedSectionVars false
set_option linter.unusedVariables false
set_option linter.unusedSimpArgs false
namespace Go.Proofs.Ytakioblpgmjdaaa
section
open Go Go.TJ Go.Proofs
variable [Dm]
section
variable {Y : Type} {T : Tids} {L : Law Y} {h : Hp} {δ : Ix (Gf Y)} {i b : Nat}
theorem ilock_ok (hL : L.Ok) (hA : At L i ⟨b, 1, 0⟩ δ.g) : CallW Try.prog false (SitW Try.prog (XF T L) i) 112 #[.pointer (some ⟨b, 2, none⟩)] h δ (Ret (MuQ L i h δ.d δ.g ⟨b, 6, 0⟩)) := by
  refine CallW.start (n := 13) rfl rfl ?_
  (repeat (first | refine EK.seq ?_ | refine EK.region ?_))
  refine ER.ext rfl rfl rfl rfl (fun Q X hq => semW_mark0 (vs := #[]) (by simp) (by simp) hq) ?_
  (repeat (first | refine EK.seq ?_ | refine EK.region ?_ | refine ER.done ?_ | refine ER.move rfl rfl rfl ?_ | refine ER.nilCheck rfl rfl rfl ?_ | refine ER.fieldAddr rfl rfl rfl ?_))
  refine ER.casM (c := 1) hL rfl rfl rfl rfl hA (by decide) fun γ₁ q1 a1 m1 c1 l1 => ⟨fun e => ?_, fun ne => ?_⟩
  · obtain ⟨eb, ek, es, en⟩ := mu_word (x1 := 0) (x2 := 0) (x3 := 0) (x4 := 0) m1 (by decide) (by decide) (by decide) e
    refine ⟨{ γ₁.mu b with b := 1 }, 6, 0, by simp only [Mu.word, ek, es, en]; rfl, rfl, .take0 eb es, fun γ₂ q2 a2 e2 => ?_⟩
    (repeat (first | refine EK.seq ?_ | refine EK.region ?_ | refine ER.done ?_ | refine EK.condT rfl ?_))
    refine ER.ext rfl rfl rfl rfl (fun Q X hq => semW_mark0 (vs := #[]) (by simp) (by simp) hq) ?_
    (repeat (first | refine EK.region ?_ | refine ER.done ?_ | refine ER.move rfl rfl rfl ?_))
    refine ER.unsafeM hL rfl rfl rfl (by decide) a2 (by decide) fun γ₃ q3 a3 => ?_
    refine ER.ext rfl rfl rfl rfl (fun Q X hq => semW_marked (by simp) (by simp) hq (hDu := a3.nd)) ?_
    (repeat (first | refine ER.done ?_ | refine EK.ret ?_))
    exact EU.ret0 rfl ⟨rfl, rfl, rfl, q2.trans hL q3, a3⟩
  · (repeat (first | refine EK.region ?_ | refine ER.done ?_ | refine EK.skip ?_ | refine ER.move rfl rfl rfl ?_ | refine EK.condF rfl ?_))
    refine ER.callR rfl rfl rfl rfl rfl (lockSlow_ok hL a1) ?_
    rintro v h' ⟨d', γ'⟩ ⟨rfl, rfl, e1, r1, a1'⟩
    simp only at e1 r1 a1'
    subst e1
    (repeat refine ER.done ?_)
    refine EK.done ?_
    exact EU.ret0 rfl ⟨rfl, rfl, rfl, q1.trans hL r1, a1'⟩
structure Uk (Y : Type) where
  m : Mu
  γ : Gf Y
  lv : Bool
def Uk.E (b : Nat) (s : Uk Y) : Env := [(4, .int .i32 (W s.m.b s.m.k s.m.s s.m.n)), (0, .pointer (some ⟨b, 2, none⟩))]
structure Uk.Ok (L : Law Y) (i b d : Nat) (γ₀ : Gf Y) (h : Hp) (s : Uk Y) (h' : Hp) (δ' : Ix (Gf Y)) : Prop where
  hp : h' = h
  d : δ'.d = d
  r0 : Ro L i γ₀ s.γ
  r1 : Ro L i s.γ δ'.g
  mu : s.lv = false -> (s.γ.mu b).word = W 0 0 0 s.m.n
  a : At L i ⟨b, if s.lv then 0 else 7, 0⟩ δ'.g
  b1 : s.m.b <= 1
  k1 : s.m.k <= 1
  s1 : s.m.s <= 1
  n1 : s.m.n <= 200
  go : s.lv = true -> s.m.n = 0 \/ s.m.b = 1 \/ s.m.k = 1 \/ s.m.s = 1
  st : s.lv = false -> s.m.b = 0 /\ s.m.k = 0 /\ s.m.s = 0 /\ s.m.n ≠ 0
theorem W_add1 {k s n : Nat} (hk : k <= 1) (hs : s <= 1) (hn : n <= 1000) : IntKind.i32.wrap (W 0 k s n + 1) = W 1 k s n := by
  unfold W
  rw [show ((0 + 2 * k + 4 * s + 8 * n : Nat) : Int) + 1 = ((1 + 2 * k + 4 * s + 8 * n : Nat) : Int) by omega]
  exact i32_nat (by omega)
set_option maxHeartbeats 4000000 in
theorem unlockSlow_ok (hL : L.Ok) {k s n c : Nat} (hk : k <= 1) (hs : s <= 1) (hn0 : n <= 200) (hA : At L i ⟨b, c, 0⟩ δ.g) (hc : (c = 0 /\ s = 0 /\ (n = 0 \/ k = 1)) \/ (c = 7 /\ s = 0 /\ n ≠ 0 /\ k = 0 /\ (δ.g.mu b).word = W 0 0 0 n) \/ (c = 9 /\ s = 1)) :
    CallW Try.prog false (SitW Try.prog (XF T L) i) 122 #[.pointer (some ⟨b, 2, none⟩), .int .i32 (W 0 k s n)] h δ (Ret (MuQ L i h δ.d δ.g ⟨b, 0, 0⟩)) := by
  refine CallW.start (n := 43) rfl rfl ?_
  have hn : n <= 1000 := by omega
  (repeat (first | refine EK.seq ?_ | refine EK.region ?_ | refine ER.move rfl rfl rfl ?_))
  refine ER.add (kd := .i32) (r := W 1 k s n) rfl rfl rfl rfl (W_add1 hk hs hn) ?_
  refine ER.andI (b := 1) rfl rfl rfl rfl (W_and (by decide) hk hs hn).2.1 ?_
  (repeat (first | refine EK.seq ?_ | refine EK.region ?_ | refine ER.done ?_ | refine EK.skip ?_ | refine ER.move rfl rfl rfl ?_ | refine ER.cmpF rfl rfl rfl rfl rfl (by first | (dsimp only [cmpP]; omega) | exact rfl | exact Int.le_refl _) ?_ | refine EK.condF rfl ?_))
  refine ER.andI (b := 4) rfl rfl rfl rfl (W_and (by decide) hk hs hn).2.2.2.1 ?_
  have hs' : s = 0 \/ s = 1 := by omega
  rcases hs' with rfl | rfl
  · (repeat (first | refine EK.seq ?_ | refine EK.region ?_ | refine ER.done ?_ | refine EK.block ?_ | refine ER.move rfl rfl rfl ?_ | refine ER.assign rfl rfl rfl ?_ | refine ER.cmpT rfl rfl rfl rfl rfl (by first | (dsimp only [cmpP]; omega) | exact rfl | exact Int.le_refl _) ?_ | refine EK.condT rfl ?_))
    refine EK.loopInv (Uk.E b) (Uk.Ok L i b δ.d δ.g h) (fun s => pot L s.γ) ⟨⟨0, k, 0, n, 0⟩, δ.g, decide (c = 0)⟩ ⟨rfl, rfl, trivial⟩ ⟨rfl, rfl, Ro.refl hL _ _, Ro.refl hL _ _, ?_, ?_, Nat.zero_le _, hk, Nat.zero_le _, hn0, ?_, ?_⟩ ?_
    · intro e
      rcases hc with ⟨rfl, _⟩ | ⟨_, _, _, _, h5⟩ | ⟨_, h⟩
      · simp at e
      · exact h5
      · cases h
    · rcases hc with ⟨rfl, _⟩ | ⟨rfl, _⟩ | ⟨_, h⟩
      · exact hA
      · exact hA
      · cases h
    · intro e
      rcases hc with ⟨rfl, _, h⟩ | ⟨rfl, _⟩ | ⟨_, h⟩
      · rcases h with h | h
        · exact .inl h
        · exact .inr (.inr (.inl h))
      · simp at e
      · cases h
    · intro e
      rcases hc with ⟨rfl, _⟩ | ⟨_, _, h3, h4, _⟩ | ⟨_, h⟩
      · simp at e
      · exact ⟨rfl, h4, rfl, h3⟩
      · cases h
    intro s h' δ' hI hback
    obtain ⟨rfl, hd, r0, r1, hmu, ha, hb1, hk1, hs1, hn1, hgo, hst⟩ := hI
    obtain ⟨⟨mb, mk, ms, mn, mz⟩, γs, lv⟩ := s
    simp only at hmu r0 r1 ha hb1 hk1 hs1 hn1 hgo hst
    have hn1' : mn <= 1000 := by omega
    refine EK.sub (show subE [(4, .int .i32 (W mb mk ms mn)), (0, .pointer (some ⟨b, 2, none⟩))] _ from ⟨rfl, rfl, trivial⟩) ?_
    cases lv
    · obtain ⟨rfl, rfl, rfl, h0⟩ := hst rfl
      replace ha : At L i ⟨b, 7, 0⟩ δ'.g := ha
      (repeat (first | refine EK.seq ?_ | refine EK.region ?_ | refine ER.done ?_ | refine EK.skip ?_ | refine EK.block ?_ | refine EK.inBlock ?_ | refine ER.move rfl rfl rfl ?_ | refine ER.assign rfl rfl rfl ?_ | refine ER.nilCheck rfl rfl rfl ?_ | refine ER.fieldAddr rfl rfl rfl ?_ | refine ER.load1 rfl rfl rfl (hcell_of (by assumption) rfl) ?_ | refine ER.no rfl rfl ?_ | refine ER.noU rfl ?_ | refine ER.eqV rfl rfl rfl rfl rfl ?_ | refine ER.neqV rfl rfl rfl rfl rfl ?_ | refine ER.eqA rfl rfl rfl rfl rfl ?_ | refine ER.neqA rfl rfl rfl rfl rfl ?_ | refine ER.notB rfl rfl rfl ?_ | refine ER.pickT rfl rfl rfl rfl ?_ | refine ER.pickF rfl rfl rfl rfl ?_ | refine ER.extract rfl rfl rfl rfl ?_ | refine ER.cmpT rfl rfl rfl rfl rfl (by first | (dsimp only [cmpP]; omega) | exact rfl | exact Int.le_refl _) ?_ | refine ER.cmpF rfl rfl rfl rfl rfl (by first | (dsimp only [cmpP]; omega) | exact rfl | exact Int.le_refl _) ?_ | refine ER.boxA rfl rfl rfl ?_ | refine ER.box rfl rfl rfl ?_ | refine ER.allocA rfl rfl ?_ | refine ER.alloc rfl rfl ?_ | refine ER.add (kd := .i64) rfl rfl rfl rfl (i64_in (by omega) (by omega)) ?_ | refine ER.sub' (kd := .i64) rfl rfl rfl rfl (i64_in (by omega) (by omega)) ?_ | refine ER.mul (kd := .i64) rfl rfl rfl rfl (i64_in (by omega) (by omega)) ?_ | refine ER.rem (kd := .i64) rfl rfl rfl rfl (by decide) rfl ?_ | refine ER.indexArr rfl rfl rfl rfl (by omega) (by omega) ?_ | refine ER.len1 rfl rfl rfl ?_ | refine ER.indexSl rfl rfl rfl rfl (by omega) (by omega) ?_ | refine EK.condT rfl ?_ | refine EK.condF rfl ?_ | refine ER.andI (b := 5) rfl rfl rfl rfl (W_and (by decide) (by decide) (by decide) (by omega)).1 ?_ | refine ER.andI (b := 1) rfl rfl rfl rfl (W_and (by decide) (by decide) (by decide) (by omega)).2.1 ?_ | refine ER.andI (b := 2) rfl rfl rfl rfl (W_and (by decide) (by decide) (by decide) (by omega)).2.2.1 ?_ | refine ER.andI (b := 4) rfl rfl rfl rfl (W_and (by decide) (by decide) (by decide) (by omega)).2.2.2.1 ?_ | refine ER.andI (b := 3) rfl rfl rfl rfl (W_and (by decide) (by decide) (by decide) (by omega)).2.2.2.2.1 ?_ | refine ER.andI (b := 7) rfl rfl rfl rfl (W_and (by decide) (by decide) (by decide) (by omega)).2.2.2.2.2 ?_ | refine ER.binI (op := .or) (b := 1) rfl rfl rfl rfl (by rw [binOp_bits (.inr rfl), (W_or (by decide) (by decide) (by decide) (by omega)).1]) ?_ | refine ER.binI (op := .or) (b := 2) rfl rfl rfl rfl (by rw [binOp_bits (.inr rfl), (W_or (by decide) (by decide) (by decide) (by omega)).2.1]) ?_ | refine ER.binI (op := .or) (b := 4) rfl rfl rfl rfl (by rw [binOp_bits (.inr rfl), (W_or (by decide) (by decide) (by decide) (by omega)).2.2]) ?_ | refine ER.binI2 (op := .shr) rfl rfl rfl rfl (W_shr (by decide) (by decide) (by decide)) ?_ | refine ER.binI (op := .andNot) rfl rfl rfl rfl (by rw [binOp_andN, W_andNot (by decide) (by decide) (by omega)]) ?_ | refine ER.add (kd := .i32) (b := 8) rfl rfl rfl rfl (W_add8 (by decide) (by decide) (by decide) (by omega)) ?_ | refine ER.sub' (kd := .i32) (b := 8) rfl rfl rfl rfl (W_sub8 (by decide) (by decide) (by decide) (by omega) (by omega)) ?_))
      refine ER.casM (c := 7) hL rfl rfl rfl rfl ha (by decide) fun γ₁ q1 a1 m1 c1 l1 => ⟨fun e => ?_, fun ne => ?_⟩
      · obtain ⟨eb, ek, es, en⟩ := mu_word m1 (by decide) (by decide) (by decide) e
        refine ⟨{ γ₁.mu b with n := (γ₁.mu b).n - 1, k := 1 }, 8, 0, by simp only [Mu.word, W, eb, es, en], rfl, .wake eb ek es (by omega), fun γ₂ q2 a2 e2 => ?_⟩
        (repeat (first | refine EK.seq ?_ | refine EK.region ?_ | refine ER.done ?_ | refine EK.skip ?_ | refine EK.block ?_ | refine EK.inBlock ?_ | refine ER.move rfl rfl rfl ?_ | refine ER.assign rfl rfl rfl ?_ | refine ER.nilCheck rfl rfl rfl ?_ | refine ER.fieldAddr rfl rfl rfl ?_ | refine ER.load1 rfl rfl rfl (hcell_of (by assumption) rfl) ?_ | refine ER.no rfl rfl ?_ | refine ER.noU rfl ?_ | refine ER.eqV rfl rfl rfl rfl rfl ?_ | refine ER.neqV rfl rfl rfl rfl rfl ?_ | refine ER.eqA rfl rfl rfl rfl rfl ?_ | refine ER.neqA rfl rfl rfl rfl rfl ?_ | refine ER.notB rfl rfl rfl ?_ | refine ER.pickT rfl rfl rfl rfl ?_ | refine ER.pickF rfl rfl rfl rfl ?_ | refine ER.extract rfl rfl rfl rfl ?_ | refine ER.cmpT rfl rfl rfl rfl rfl (by first | (dsimp only [cmpP]; omega) | exact rfl | exact Int.le_refl _) ?_ | refine ER.cmpF rfl rfl rfl rfl rfl (by first | (dsimp only [cmpP]; omega) | exact rfl | exact Int.le_refl _) ?_ | refine ER.boxA rfl rfl rfl ?_ | refine ER.box rfl rfl rfl ?_ | refine ER.allocA rfl rfl ?_ | refine ER.alloc rfl rfl ?_ | refine ER.add (kd := .i64) rfl rfl rfl rfl (i64_in (by omega) (by omega)) ?_ | refine ER.sub' (kd := .i64) rfl rfl rfl rfl (i64_in (by omega) (by omega)) ?_ | refine ER.mul (kd := .i64) rfl rfl rfl rfl (i64_in (by omega) (by omega)) ?_ | refine ER.rem (kd := .i64) rfl rfl rfl rfl (by decide) rfl ?_ | refine ER.indexArr rfl rfl rfl rfl (by omega) (by omega) ?_ | refine ER.len1 rfl rfl rfl ?_ | refine ER.indexSl rfl rfl rfl rfl (by omega) (by omega) ?_ | refine EK.condT rfl ?_ | refine EK.condF rfl ?_ | refine ER.andI (b := 5) rfl rfl rfl rfl (W_and (by decide) (by decide) (by decide) (by omega)).1 ?_ | refine ER.andI (b := 1) rfl rfl rfl rfl (W_and (by decide) (by decide) (by decide) (by omega)).2.1 ?_ | refine ER.andI (b := 2) rfl rfl rfl rfl (W_and (by decide) (by decide) (by decide) (by omega)).2.2.1 ?_ | refine ER.andI (b := 4) rfl rfl rfl rfl (W_and (by decide) (by decide) (by decide) (by omega)).2.2.2.1 ?_ | refine ER.andI (b := 3) rfl rfl rfl rfl (W_and (by decide) (by decide) (by decide) (by omega)).2.2.2.2.1 ?_ | refine ER.andI (b := 7) rfl rfl rfl rfl (W_and (by decide) (by decide) (by decide) (by omega)).2.2.2.2.2 ?_ | refine ER.binI (op := .or) (b := 1) rfl rfl rfl rfl (by rw [binOp_bits (.inr rfl), (W_or (by decide) (by decide) (by decide) (by omega)).1]) ?_ | refine ER.binI (op := .or) (b := 2) rfl rfl rfl rfl (by rw [binOp_bits (.inr rfl), (W_or (by decide) (by decide) (by decide) (by omega)).2.1]) ?_ | refine ER.binI (op := .or) (b := 4) rfl rfl rfl rfl (by rw [binOp_bits (.inr rfl), (W_or (by decide) (by decide) (by decide) (by omega)).2.2]) ?_ | refine ER.binI2 (op := .shr) rfl rfl rfl rfl (W_shr (by decide) (by decide) (by decide)) ?_ | refine ER.binI (op := .andNot) rfl rfl rfl rfl (by rw [binOp_andN, W_andNot (by decide) (by decide) (by omega)]) ?_ | refine ER.add (kd := .i32) (b := 8) rfl rfl rfl rfl (W_add8 (by decide) (by decide) (by decide) (by omega)) ?_ | refine ER.sub' (kd := .i32) (b := 8) rfl rfl rfl rfl (W_sub8 (by decide) (by decide) (by decide) (by omega) (by omega)) ?_))
        refine ER.semrelM hL rfl rfl rfl rfl a2 (.inl rfl) fun γ₃ q3 a3 => ?_
        (repeat (first | refine EK.seq ?_ | refine EK.region ?_ | refine ER.done ?_ | refine EK.skip ?_ | refine EK.block ?_ | refine EK.inBlock ?_ | refine ER.move rfl rfl rfl ?_ | refine ER.assign rfl rfl rfl ?_ | refine ER.nilCheck rfl rfl rfl ?_ | refine ER.fieldAddr rfl rfl rfl ?_ | refine ER.load1 rfl rfl rfl (hcell_of (by assumption) rfl) ?_ | refine ER.no rfl rfl ?_ | refine ER.noU rfl ?_ | refine ER.eqV rfl rfl rfl rfl rfl ?_ | refine ER.neqV rfl rfl rfl rfl rfl ?_ | refine ER.eqA rfl rfl rfl rfl rfl ?_ | refine ER.neqA rfl rfl rfl rfl rfl ?_ | refine ER.notB rfl rfl rfl ?_ | refine ER.pickT rfl rfl rfl rfl ?_ | refine ER.pickF rfl rfl rfl rfl ?_ | refine ER.extract rfl rfl rfl rfl ?_ | refine ER.cmpT rfl rfl rfl rfl rfl (by first | (dsimp only [cmpP]; omega) | exact rfl | exact Int.le_refl _) ?_ | refine ER.cmpF rfl rfl rfl rfl rfl (by first | (dsimp only [cmpP]; omega) | exact rfl | exact Int.le_refl _) ?_ | refine ER.boxA rfl rfl rfl ?_ | refine ER.box rfl rfl rfl ?_ | refine ER.allocA rfl rfl ?_ | refine ER.alloc rfl rfl ?_ | refine ER.add (kd := .i64) rfl rfl rfl rfl (i64_in (by omega) (by omega)) ?_ | refine ER.sub' (kd := .i64) rfl rfl rfl rfl (i64_in (by omega) (by omega)) ?_ | refine ER.mul (kd := .i64) rfl rfl rfl rfl (i64_in (by omega) (by omega)) ?_ | refine ER.rem (kd := .i64) rfl rfl rfl rfl (by decide) rfl ?_ | refine ER.indexArr rfl rfl rfl rfl (by omega) (by omega) ?_ | refine ER.len1 rfl rfl rfl ?_ | refine ER.indexSl rfl rfl rfl rfl (by omega) (by omega) ?_ | refine EK.condT rfl ?_ | refine EK.condF rfl ?_ | refine ER.andI (b := 5) rfl rfl rfl rfl (W_and (by decide) (by decide) (by decide) (by omega)).1 ?_ | refine ER.andI (b := 1) rfl rfl rfl rfl (W_and (by decide) (by decide) (by decide) (by omega)).2.1 ?_ | refine ER.andI (b := 2) rfl rfl rfl rfl (W_and (by decide) (by decide) (by decide) (by omega)).2.2.1 ?_ | refine ER.andI (b := 4) rfl rfl rfl rfl (W_and (by decide) (by decide) (by decide) (by omega)).2.2.2.1 ?_ | refine ER.andI (b := 3) rfl rfl rfl rfl (W_and (by decide) (by decide) (by decide) (by omega)).2.2.2.2.1 ?_ | refine ER.andI (b := 7) rfl rfl rfl rfl (W_and (by decide) (by decide) (by decide) (by omega)).2.2.2.2.2 ?_ | refine ER.binI (op := .or) (b := 1) rfl rfl rfl rfl (by rw [binOp_bits (.inr rfl), (W_or (by decide) (by decide) (by decide) (by omega)).1]) ?_ | refine ER.binI (op := .or) (b := 2) rfl rfl rfl rfl (by rw [binOp_bits (.inr rfl), (W_or (by decide) (by decide) (by decide) (by omega)).2.1]) ?_ | refine ER.binI (op := .or) (b := 4) rfl rfl rfl rfl (by rw [binOp_bits (.inr rfl), (W_or (by decide) (by decide) (by decide) (by omega)).2.2]) ?_ | refine ER.binI2 (op := .shr) rfl rfl rfl rfl (W_shr (by decide) (by decide) (by decide)) ?_ | refine ER.binI (op := .andNot) rfl rfl rfl rfl (by rw [binOp_andN, W_andNot (by decide) (by decide) (by omega)]) ?_ | refine ER.add (kd := .i32) (b := 8) rfl rfl rfl rfl (W_add8 (by decide) (by decide) (by decide) (by omega)) ?_ | refine ER.sub' (kd := .i32) (b := 8) rfl rfl rfl rfl (W_sub8 (by decide) (by decide) (by decide) (by omega) (by omega)) ?_))
        refine EK.ret ?_
        exact EU.ret0 rfl ⟨rfl, rfl, hd, ((r0.trans hL r1).trans hL q2).trans hL q3, a3⟩
      · (repeat (first | refine EK.seq ?_ | refine EK.region ?_ | refine ER.done ?_ | refine EK.skip ?_ | refine EK.block ?_ | refine EK.inBlock ?_ | refine ER.move rfl rfl rfl ?_ | refine ER.assign rfl rfl rfl ?_ | refine ER.nilCheck rfl rfl rfl ?_ | refine ER.fieldAddr rfl rfl rfl ?_ | refine ER.load1 rfl rfl rfl (hcell_of (by assumption) rfl) ?_ | refine ER.no rfl rfl ?_ | refine ER.noU rfl ?_ | refine ER.eqV rfl rfl rfl rfl rfl ?_ | refine ER.neqV rfl rfl rfl rfl rfl ?_ | refine ER.eqA rfl rfl rfl rfl rfl ?_ | refine ER.neqA rfl rfl rfl rfl rfl ?_ | refine ER.notB rfl rfl rfl ?_ | refine ER.pickT rfl rfl rfl rfl ?_ | refine ER.pickF rfl rfl rfl rfl ?_ | refine ER.extract rfl rfl rfl rfl ?_ | refine ER.cmpT rfl rfl rfl rfl rfl (by first | (dsimp only [cmpP]; omega) | exact rfl | exact Int.le_refl _) ?_ | refine ER.cmpF rfl rfl rfl rfl rfl (by first | (dsimp only [cmpP]; omega) | exact rfl | exact Int.le_refl _) ?_ | refine ER.boxA rfl rfl rfl ?_ | refine ER.box rfl rfl rfl ?_ | refine ER.allocA rfl rfl ?_ | refine ER.alloc rfl rfl ?_ | refine ER.add (kd := .i64) rfl rfl rfl rfl (i64_in (by omega) (by omega)) ?_ | refine ER.sub' (kd := .i64) rfl rfl rfl rfl (i64_in (by omega) (by omega)) ?_ | refine ER.mul (kd := .i64) rfl rfl rfl rfl (i64_in (by omega) (by omega)) ?_ | refine ER.rem (kd := .i64) rfl rfl rfl rfl (by decide) rfl ?_ | refine ER.indexArr rfl rfl rfl rfl (by omega) (by omega) ?_ | refine ER.len1 rfl rfl rfl ?_ | refine ER.indexSl rfl rfl rfl rfl (by omega) (by omega) ?_ | refine EK.condT rfl ?_ | refine EK.condF rfl ?_ | refine ER.andI (b := 5) rfl rfl rfl rfl (W_and (by decide) (by decide) (by decide) (by omega)).1 ?_ | refine ER.andI (b := 1) rfl rfl rfl rfl (W_and (by decide) (by decide) (by decide) (by omega)).2.1 ?_ | refine ER.andI (b := 2) rfl rfl rfl rfl (W_and (by decide) (by decide) (by decide) (by omega)).2.2.1 ?_ | refine ER.andI (b := 4) rfl rfl rfl rfl (W_and (by decide) (by decide) (by decide) (by omega)).2.2.2.1 ?_ | refine ER.andI (b := 3) rfl rfl rfl rfl (W_and (by decide) (by decide) (by decide) (by omega)).2.2.2.2.1 ?_ | refine ER.andI (b := 7) rfl rfl rfl rfl (W_and (by decide) (by decide) (by decide) (by omega)).2.2.2.2.2 ?_ | refine ER.binI (op := .or) (b := 1) rfl rfl rfl rfl (by rw [binOp_bits (.inr rfl), (W_or (by decide) (by decide) (by decide) (by omega)).1]) ?_ | refine ER.binI (op := .or) (b := 2) rfl rfl rfl rfl (by rw [binOp_bits (.inr rfl), (W_or (by decide) (by decide) (by decide) (by omega)).2.1]) ?_ | refine ER.binI (op := .or) (b := 4) rfl rfl rfl rfl (by rw [binOp_bits (.inr rfl), (W_or (by decide) (by decide) (by decide) (by omega)).2.2]) ?_ | refine ER.binI2 (op := .shr) rfl rfl rfl rfl (W_shr (by decide) (by decide) (by decide)) ?_ | refine ER.binI (op := .andNot) rfl rfl rfl rfl (by rw [binOp_andN, W_andNot (by decide) (by decide) (by omega)]) ?_ | refine ER.add (kd := .i32) (b := 8) rfl rfl rfl rfl (W_add8 (by decide) (by decide) (by decide) (by omega)) ?_ | refine ER.sub' (kd := .i32) (b := 8) rfl rfl rfl rfl (W_sub8 (by decide) (by decide) (by decide) (by omega) (by omega)) ?_))
        refine ER.loadM (c := 7) hL norace_unlockSlow rfl rfl rfl a1 (by decide) fun γ₃ q3 a3 m3 c3 l3 => ?_
        have hlt : pot L γ₃ < pot L γs := Nat.lt_of_le_of_lt q3.pot (Nat.lt_of_le_of_ne (r1.trans hL q1).pot fun z => ne (by rw [((r1.trans hL q1).same z).1]; exact hmu rfl))
        by_cases hg : (γ₃.mu b).n = 0 \/ (γ₃.mu b).b = 1 \/ (γ₃.mu b).k = 1 \/ (γ₃.mu b).s = 1
        · refine .inl ⟨0, 0, .off hg, fun γ₄ q4 a4 e4 p4 _ => ?_⟩
          (repeat (first | refine EK.seq ?_ | refine EK.region ?_ | refine ER.done ?_ | refine EK.skip ?_ | refine EK.block ?_ | refine EK.inBlock ?_ | refine ER.move rfl rfl rfl ?_ | refine ER.assign rfl rfl rfl ?_ | refine ER.nilCheck rfl rfl rfl ?_ | refine ER.fieldAddr rfl rfl rfl ?_ | refine ER.load1 rfl rfl rfl (hcell_of (by assumption) rfl) ?_ | refine ER.no rfl rfl ?_ | refine ER.noU rfl ?_ | refine ER.eqV rfl rfl rfl rfl rfl ?_ | refine ER.neqV rfl rfl rfl rfl rfl ?_ | refine ER.eqA rfl rfl rfl rfl rfl ?_ | refine ER.neqA rfl rfl rfl rfl rfl ?_ | refine ER.notB rfl rfl rfl ?_ | refine ER.pickT rfl rfl rfl rfl ?_ | refine ER.pickF rfl rfl rfl rfl ?_ | refine ER.extract rfl rfl rfl rfl ?_ | refine ER.cmpT rfl rfl rfl rfl rfl (by first | (dsimp only [cmpP]; omega) | exact rfl | exact Int.le_refl _) ?_ | refine ER.cmpF rfl rfl rfl rfl rfl (by first | (dsimp only [cmpP]; omega) | exact rfl | exact Int.le_refl _) ?_ | refine ER.boxA rfl rfl rfl ?_ | refine ER.box rfl rfl rfl ?_ | refine ER.allocA rfl rfl ?_ | refine ER.alloc rfl rfl ?_ | refine ER.add (kd := .i64) rfl rfl rfl rfl (i64_in (by omega) (by omega)) ?_ | refine ER.sub' (kd := .i64) rfl rfl rfl rfl (i64_in (by omega) (by omega)) ?_ | refine ER.mul (kd := .i64) rfl rfl rfl rfl (i64_in (by omega) (by omega)) ?_ | refine ER.rem (kd := .i64) rfl rfl rfl rfl (by decide) rfl ?_ | refine ER.indexArr rfl rfl rfl rfl (by omega) (by omega) ?_ | refine ER.len1 rfl rfl rfl ?_ | refine ER.indexSl rfl rfl rfl rfl (by omega) (by omega) ?_ | refine EK.condT rfl ?_ | refine EK.condF rfl ?_ | refine ER.andI (b := 5) rfl rfl rfl rfl (W_and (by decide) (by decide) (by decide) (by omega)).1 ?_ | refine ER.andI (b := 1) rfl rfl rfl rfl (W_and (by decide) (by decide) (by decide) (by omega)).2.1 ?_ | refine ER.andI (b := 2) rfl rfl rfl rfl (W_and (by decide) (by decide) (by decide) (by omega)).2.2.1 ?_ | refine ER.andI (b := 4) rfl rfl rfl rfl (W_and (by decide) (by decide) (by decide) (by omega)).2.2.2.1 ?_ | refine ER.andI (b := 3) rfl rfl rfl rfl (W_and (by decide) (by decide) (by decide) (by omega)).2.2.2.2.1 ?_ | refine ER.andI (b := 7) rfl rfl rfl rfl (W_and (by decide) (by decide) (by decide) (by omega)).2.2.2.2.2 ?_ | refine ER.binI (op := .or) (b := 1) rfl rfl rfl rfl (by rw [binOp_bits (.inr rfl), (W_or (by decide) (by decide) (by decide) (by omega)).1]) ?_ | refine ER.binI (op := .or) (b := 2) rfl rfl rfl rfl (by rw [binOp_bits (.inr rfl), (W_or (by decide) (by decide) (by decide) (by omega)).2.1]) ?_ | refine ER.binI (op := .or) (b := 4) rfl rfl rfl rfl (by rw [binOp_bits (.inr rfl), (W_or (by decide) (by decide) (by decide) (by omega)).2.2]) ?_ | refine ER.binI2 (op := .shr) rfl rfl rfl rfl (W_shr (by decide) (by decide) (by decide)) ?_ | refine ER.binI (op := .andNot) rfl rfl rfl rfl (by rw [binOp_andN, W_andNot (by decide) (by decide) (by omega)]) ?_ | refine ER.add (kd := .i32) (b := 8) rfl rfl rfl rfl (W_add8 (by decide) (by decide) (by decide) (by omega)) ?_ | refine ER.sub' (kd := .i32) (b := 8) rfl rfl rfl rfl (W_sub8 (by decide) (by decide) (by decide) (by omega) (by omega)) ?_))
          refine EK.sub ?_ (hback ⟨γ₃.mu b, γ₄, true⟩ _ _ (Nat.lt_of_le_of_lt p4 hlt) ⟨rfl, hd, (r0.trans hL r1).trans hL (q1.trans hL q4), Ro.refl hL _ _, nofun, a4, m3.b1, m3.k1, m3.s1, mi_n m3 (fun x => ct_le x) l3, fun _ => hg, nofun⟩)
          exact ⟨rfl, rfl, trivial⟩
        · refine .inr ?_
          (repeat (first | refine EK.seq ?_ | refine EK.region ?_ | refine ER.done ?_ | refine EK.skip ?_ | refine EK.block ?_ | refine EK.inBlock ?_ | refine ER.move rfl rfl rfl ?_ | refine ER.assign rfl rfl rfl ?_ | refine ER.nilCheck rfl rfl rfl ?_ | refine ER.fieldAddr rfl rfl rfl ?_ | refine ER.load1 rfl rfl rfl (hcell_of (by assumption) rfl) ?_ | refine ER.no rfl rfl ?_ | refine ER.noU rfl ?_ | refine ER.eqV rfl rfl rfl rfl rfl ?_ | refine ER.neqV rfl rfl rfl rfl rfl ?_ | refine ER.eqA rfl rfl rfl rfl rfl ?_ | refine ER.neqA rfl rfl rfl rfl rfl ?_ | refine ER.notB rfl rfl rfl ?_ | refine ER.pickT rfl rfl rfl rfl ?_ | refine ER.pickF rfl rfl rfl rfl ?_ | refine ER.extract rfl rfl rfl rfl ?_ | refine ER.cmpT rfl rfl rfl rfl rfl (by first | (dsimp only [cmpP]; omega) | exact rfl | exact Int.le_refl _) ?_ | refine ER.cmpF rfl rfl rfl rfl rfl (by first | (dsimp only [cmpP]; omega) | exact rfl | exact Int.le_refl _) ?_ | refine ER.boxA rfl rfl rfl ?_ | refine ER.box rfl rfl rfl ?_ | refine ER.allocA rfl rfl ?_ | refine ER.alloc rfl rfl ?_ | refine ER.add (kd := .i64) rfl rfl rfl rfl (i64_in (by omega) (by omega)) ?_ | refine ER.sub' (kd := .i64) rfl rfl rfl rfl (i64_in (by omega) (by omega)) ?_ | refine ER.mul (kd := .i64) rfl rfl rfl rfl (i64_in (by omega) (by omega)) ?_ | refine ER.rem (kd := .i64) rfl rfl rfl rfl (by decide) rfl ?_ | refine ER.indexArr rfl rfl rfl rfl (by omega) (by omega) ?_ | refine ER.len1 rfl rfl rfl ?_ | refine ER.indexSl rfl rfl rfl rfl (by omega) (by omega) ?_ | refine EK.condT rfl ?_ | refine EK.condF rfl ?_ | refine ER.andI (b := 5) rfl rfl rfl rfl (W_and (by decide) (by decide) (by decide) (by omega)).1 ?_ | refine ER.andI (b := 1) rfl rfl rfl rfl (W_and (by decide) (by decide) (by decide) (by omega)).2.1 ?_ | refine ER.andI (b := 2) rfl rfl rfl rfl (W_and (by decide) (by decide) (by decide) (by omega)).2.2.1 ?_ | refine ER.andI (b := 4) rfl rfl rfl rfl (W_and (by decide) (by decide) (by decide) (by omega)).2.2.2.1 ?_ | refine ER.andI (b := 3) rfl rfl rfl rfl (W_and (by decide) (by decide) (by decide) (by omega)).2.2.2.2.1 ?_ | refine ER.andI (b := 7) rfl rfl rfl rfl (W_and (by decide) (by decide) (by decide) (by omega)).2.2.2.2.2 ?_ | refine ER.binI (op := .or) (b := 1) rfl rfl rfl rfl (by rw [binOp_bits (.inr rfl), (W_or (by decide) (by decide) (by decide) (by omega)).1]) ?_ | refine ER.binI (op := .or) (b := 2) rfl rfl rfl rfl (by rw [binOp_bits (.inr rfl), (W_or (by decide) (by decide) (by decide) (by omega)).2.1]) ?_ | refine ER.binI (op := .or) (b := 4) rfl rfl rfl rfl (by rw [binOp_bits (.inr rfl), (W_or (by decide) (by decide) (by decide) (by omega)).2.2]) ?_ | refine ER.binI2 (op := .shr) rfl rfl rfl rfl (W_shr (by decide) (by decide) (by decide)) ?_ | refine ER.binI (op := .andNot) rfl rfl rfl rfl (by rw [binOp_andN, W_andNot (by decide) (by decide) (by omega)]) ?_ | refine ER.add (kd := .i32) (b := 8) rfl rfl rfl rfl (W_add8 (by decide) (by decide) (by decide) (by omega)) ?_ | refine ER.sub' (kd := .i32) (b := 8) rfl rfl rfl rfl (W_sub8 (by decide) (by decide) (by decide) (by omega) (by omega)) ?_))
          have hb3 := m3.b1
          have hk3 := m3.k1
          have hs3 := m3.s1
          have z1 : (γ₃.mu b).b = 0 := by omega
          have z2 : (γ₃.mu b).k = 0 := by omega
          have z3 : (γ₃.mu b).s = 0 := by omega
          refine EK.sub ?_ (hback ⟨γ₃.mu b, γ₃, false⟩ _ _ hlt ⟨rfl, hd, (r0.trans hL r1).trans hL (q1.trans hL q3), Ro.refl hL _ _, fun _ => by rw [Mu.word_eq, z1, z2, z3], a3, m3.b1, m3.k1, m3.s1, mi_n m3 (fun x => ct_le x) l3, nofun, fun _ => ⟨z1, z2, z3, fun z => hg (.inl z)⟩⟩)
          exact ⟨rfl, rfl, trivial⟩
    · replace ha : At L i ⟨b, 0, 0⟩ δ'.g := ha
      have hgo := hgo rfl
      (repeat (first | refine EK.seq ?_ | refine EK.region ?_ | refine ER.done ?_ | refine EK.skip ?_ | refine EK.block ?_ | refine EK.inBlock ?_ | refine ER.move rfl rfl rfl ?_ | refine ER.assign rfl rfl rfl ?_ | refine ER.nilCheck rfl rfl rfl ?_ | refine ER.fieldAddr rfl rfl rfl ?_ | refine ER.load1 rfl rfl rfl (hcell_of (by assumption) rfl) ?_ | refine ER.no rfl rfl ?_ | refine ER.noU rfl ?_ | refine ER.eqV rfl rfl rfl rfl rfl ?_ | refine ER.neqV rfl rfl rfl rfl rfl ?_ | refine ER.eqA rfl rfl rfl rfl rfl ?_ | refine ER.neqA rfl rfl rfl rfl rfl ?_ | refine ER.notB rfl rfl rfl ?_ | refine ER.pickT rfl rfl rfl rfl ?_ | refine ER.pickF rfl rfl rfl rfl ?_ | refine ER.extract rfl rfl rfl rfl ?_ | refine ER.cmpT rfl rfl rfl rfl rfl (by first | (dsimp only [cmpP]; omega) | exact rfl | exact Int.le_refl _) ?_ | refine ER.cmpF rfl rfl rfl rfl rfl (by first | (dsimp only [cmpP]; omega) | exact rfl | exact Int.le_refl _) ?_ | refine ER.boxA rfl rfl rfl ?_ | refine ER.box rfl rfl rfl ?_ | refine ER.allocA rfl rfl ?_ | refine ER.alloc rfl rfl ?_ | refine ER.add (kd := .i64) rfl rfl rfl rfl (i64_in (by omega) (by omega)) ?_ | refine ER.sub' (kd := .i64) rfl rfl rfl rfl (i64_in (by omega) (by omega)) ?_ | refine ER.mul (kd := .i64) rfl rfl rfl rfl (i64_in (by omega) (by omega)) ?_ | refine ER.rem (kd := .i64) rfl rfl rfl rfl (by decide) rfl ?_ | refine ER.indexArr rfl rfl rfl rfl (by omega) (by omega) ?_ | refine ER.len1 rfl rfl rfl ?_ | refine ER.indexSl rfl rfl rfl rfl (by omega) (by omega) ?_ | refine EK.condT rfl ?_ | refine EK.condF rfl ?_ | refine ER.andI (b := 5) rfl rfl rfl rfl (W_and (by decide) (by decide) (by decide) (by omega)).1 ?_ | refine ER.andI (b := 1) rfl rfl rfl rfl (W_and (by decide) (by decide) (by decide) (by omega)).2.1 ?_ | refine ER.andI (b := 2) rfl rfl rfl rfl (W_and (by decide) (by decide) (by decide) (by omega)).2.2.1 ?_ | refine ER.andI (b := 4) rfl rfl rfl rfl (W_and (by decide) (by decide) (by decide) (by omega)).2.2.2.1 ?_ | refine ER.andI (b := 3) rfl rfl rfl rfl (W_and (by decide) (by decide) (by decide) (by omega)).2.2.2.2.1 ?_ | refine ER.andI (b := 7) rfl rfl rfl rfl (W_and (by decide) (by decide) (by decide) (by omega)).2.2.2.2.2 ?_ | refine ER.binI (op := .or) (b := 1) rfl rfl rfl rfl (by rw [binOp_bits (.inr rfl), (W_or (by decide) (by decide) (by decide) (by omega)).1]) ?_ | refine ER.binI (op := .or) (b := 2) rfl rfl rfl rfl (by rw [binOp_bits (.inr rfl), (W_or (by decide) (by decide) (by decide) (by omega)).2.1]) ?_ | refine ER.binI (op := .or) (b := 4) rfl rfl rfl rfl (by rw [binOp_bits (.inr rfl), (W_or (by decide) (by decide) (by decide) (by omega)).2.2]) ?_ | refine ER.binI2 (op := .shr) rfl rfl rfl rfl (W_shr (by decide) (by decide) (by decide)) ?_ | refine ER.binI (op := .andNot) rfl rfl rfl rfl (by rw [binOp_andN, W_andNot (by decide) (by decide) (by omega)]) ?_ | refine ER.add (kd := .i32) (b := 8) rfl rfl rfl rfl (W_add8 (by decide) (by decide) (by decide) (by omega)) ?_ | refine ER.sub' (kd := .i32) (b := 8) rfl rfl rfl rfl (W_sub8 (by decide) (by decide) (by decide) (by omega) (by omega)) ?_))
      refine ER.binI2 (op := .shr) rfl rfl rfl rfl (W_shr hb1 hk1 hs1) ?_
      by_cases hz : mn = 0
      · subst hz
        (repeat (first | refine EK.seq ?_ | refine EK.region ?_ | refine ER.done ?_ | refine EK.skip ?_ | refine EK.block ?_ | refine EK.inBlock ?_ | refine ER.move rfl rfl rfl ?_ | refine ER.assign rfl rfl rfl ?_ | refine ER.nilCheck rfl rfl rfl ?_ | refine ER.fieldAddr rfl rfl rfl ?_ | refine ER.load1 rfl rfl rfl (hcell_of (by assumption) rfl) ?_ | refine ER.no rfl rfl ?_ | refine ER.noU rfl ?_ | refine ER.eqV rfl rfl rfl rfl rfl ?_ | refine ER.neqV rfl rfl rfl rfl rfl ?_ | refine ER.eqA rfl rfl rfl rfl rfl ?_ | refine ER.neqA rfl rfl rfl rfl rfl ?_ | refine ER.notB rfl rfl rfl ?_ | refine ER.pickT rfl rfl rfl rfl ?_ | refine ER.pickF rfl rfl rfl rfl ?_ | refine ER.extract rfl rfl rfl rfl ?_ | refine ER.cmpT rfl rfl rfl rfl rfl (by first | (dsimp only [cmpP]; omega) | exact rfl | exact Int.le_refl _) ?_ | refine ER.cmpF rfl rfl rfl rfl rfl (by first | (dsimp only [cmpP]; omega) | exact rfl | exact Int.le_refl _) ?_ | refine ER.boxA rfl rfl rfl ?_ | refine ER.box rfl rfl rfl ?_ | refine ER.allocA rfl rfl ?_ | refine ER.alloc rfl rfl ?_ | refine ER.add (kd := .i64) rfl rfl rfl rfl (i64_in (by omega) (by omega)) ?_ | refine ER.sub' (kd := .i64) rfl rfl rfl rfl (i64_in (by omega) (by omega)) ?_ | refine ER.mul (kd := .i64) rfl rfl rfl rfl (i64_in (by omega) (by omega)) ?_ | refine ER.rem (kd := .i64) rfl rfl rfl rfl (by decide) rfl ?_ | refine ER.indexArr rfl rfl rfl rfl (by omega) (by omega) ?_ | refine ER.len1 rfl rfl rfl ?_ | refine ER.indexSl rfl rfl rfl rfl (by omega) (by omega) ?_ | refine EK.condT rfl ?_ | refine EK.condF rfl ?_ | refine ER.andI (b := 5) rfl rfl rfl rfl (W_and (by decide) (by decide) (by decide) (by omega)).1 ?_ | refine ER.andI (b := 1) rfl rfl rfl rfl (W_and (by decide) (by decide) (by decide) (by omega)).2.1 ?_ | refine ER.andI (b := 2) rfl rfl rfl rfl (W_and (by decide) (by decide) (by decide) (by omega)).2.2.1 ?_ | refine ER.andI (b := 4) rfl rfl rfl rfl (W_and (by decide) (by decide) (by decide) (by omega)).2.2.2.1 ?_ | refine ER.andI (b := 3) rfl rfl rfl rfl (W_and (by decide) (by decide) (by decide) (by omega)).2.2.2.2.1 ?_ | refine ER.andI (b := 7) rfl rfl rfl rfl (W_and (by decide) (by decide) (by decide) (by omega)).2.2.2.2.2 ?_ | refine ER.binI (op := .or) (b := 1) rfl rfl rfl rfl (by rw [binOp_bits (.inr rfl), (W_or (by decide) (by decide) (by decide) (by omega)).1]) ?_ | refine ER.binI (op := .or) (b := 2) rfl rfl rfl rfl (by rw [binOp_bits (.inr rfl), (W_or (by decide) (by decide) (by decide) (by omega)).2.1]) ?_ | refine ER.binI (op := .or) (b := 4) rfl rfl rfl rfl (by rw [binOp_bits (.inr rfl), (W_or (by decide) (by decide) (by decide) (by omega)).2.2]) ?_ | refine ER.binI2 (op := .shr) rfl rfl rfl rfl (W_shr (by decide) (by decide) (by decide)) ?_ | refine ER.binI (op := .andNot) rfl rfl rfl rfl (by rw [binOp_andN, W_andNot (by decide) (by decide) (by omega)]) ?_ | refine ER.add (kd := .i32) (b := 8) rfl rfl rfl rfl (W_add8 (by decide) (by decide) (by decide) (by omega)) ?_ | refine ER.sub' (kd := .i32) (b := 8) rfl rfl rfl rfl (W_sub8 (by decide) (by decide) (by decide) (by omega) (by omega)) ?_))
        refine EK.ret ?_
        exact EU.ret0 rfl ⟨rfl, rfl, hd, r0.trans hL r1, ha⟩
      · (repeat (first | refine EK.seq ?_ | refine EK.region ?_ | refine ER.done ?_ | refine EK.skip ?_ | refine EK.block ?_ | refine EK.inBlock ?_ | refine ER.move rfl rfl rfl ?_ | refine ER.assign rfl rfl rfl ?_ | refine ER.nilCheck rfl rfl rfl ?_ | refine ER.fieldAddr rfl rfl rfl ?_ | refine ER.load1 rfl rfl rfl (hcell_of (by assumption) rfl) ?_ | refine ER.no rfl rfl ?_ | refine ER.noU rfl ?_ | refine ER.eqV rfl rfl rfl rfl rfl ?_ | refine ER.neqV rfl rfl rfl rfl rfl ?_ | refine ER.eqA rfl rfl rfl rfl rfl ?_ | refine ER.neqA rfl rfl rfl rfl rfl ?_ | refine ER.notB rfl rfl rfl ?_ | refine ER.pickT rfl rfl rfl rfl ?_ | refine ER.pickF rfl rfl rfl rfl ?_ | refine ER.extract rfl rfl rfl rfl ?_ | refine ER.cmpT rfl rfl rfl rfl rfl (by first | (dsimp only [cmpP]; omega) | exact rfl | exact Int.le_refl _) ?_ | refine ER.cmpF rfl rfl rfl rfl rfl (by first | (dsimp only [cmpP]; omega) | exact rfl | exact Int.le_refl _) ?_ | refine ER.boxA rfl rfl rfl ?_ | refine ER.box rfl rfl rfl ?_ | refine ER.allocA rfl rfl ?_ | refine ER.alloc rfl rfl ?_ | refine ER.add (kd := .i64) rfl rfl rfl rfl (i64_in (by omega) (by omega)) ?_ | refine ER.sub' (kd := .i64) rfl rfl rfl rfl (i64_in (by omega) (by omega)) ?_ | refine ER.mul (kd := .i64) rfl rfl rfl rfl (i64_in (by omega) (by omega)) ?_ | refine ER.rem (kd := .i64) rfl rfl rfl rfl (by decide) rfl ?_ | refine ER.indexArr rfl rfl rfl rfl (by omega) (by omega) ?_ | refine ER.len1 rfl rfl rfl ?_ | refine ER.indexSl rfl rfl rfl rfl (by omega) (by omega) ?_ | refine EK.condT rfl ?_ | refine EK.condF rfl ?_ | refine ER.andI (b := 5) rfl rfl rfl rfl (W_and (by decide) (by decide) (by decide) (by omega)).1 ?_ | refine ER.andI (b := 1) rfl rfl rfl rfl (W_and (by decide) (by decide) (by decide) (by omega)).2.1 ?_ | refine ER.andI (b := 2) rfl rfl rfl rfl (W_and (by decide) (by decide) (by decide) (by omega)).2.2.1 ?_ | refine ER.andI (b := 4) rfl rfl rfl rfl (W_and (by decide) (by decide) (by decide) (by omega)).2.2.2.1 ?_ | refine ER.andI (b := 3) rfl rfl rfl rfl (W_and (by decide) (by decide) (by decide) (by omega)).2.2.2.2.1 ?_ | refine ER.andI (b := 7) rfl rfl rfl rfl (W_and (by decide) (by decide) (by decide) (by omega)).2.2.2.2.2 ?_ | refine ER.binI (op := .or) (b := 1) rfl rfl rfl rfl (by rw [binOp_bits (.inr rfl), (W_or (by decide) (by decide) (by decide) (by omega)).1]) ?_ | refine ER.binI (op := .or) (b := 2) rfl rfl rfl rfl (by rw [binOp_bits (.inr rfl), (W_or (by decide) (by decide) (by decide) (by omega)).2.1]) ?_ | refine ER.binI (op := .or) (b := 4) rfl rfl rfl rfl (by rw [binOp_bits (.inr rfl), (W_or (by decide) (by decide) (by decide) (by omega)).2.2]) ?_ | refine ER.binI2 (op := .shr) rfl rfl rfl rfl (W_shr (by decide) (by decide) (by decide)) ?_ | refine ER.binI (op := .andNot) rfl rfl rfl rfl (by rw [binOp_andN, W_andNot (by decide) (by decide) (by omega)]) ?_ | refine ER.add (kd := .i32) (b := 8) rfl rfl rfl rfl (W_add8 (by decide) (by decide) (by decide) (by omega)) ?_ | refine ER.sub' (kd := .i32) (b := 8) rfl rfl rfl rfl (W_sub8 (by decide) (by decide) (by decide) (by omega) (by omega)) ?_))
        refine ER.andI (b := 7) rfl rfl rfl rfl (W_and hb1 hk1 hs1 hn1').2.2.2.2.2 ?_
        (repeat (first | refine EK.seq ?_ | refine EK.region ?_ | refine ER.done ?_ | refine EK.skip ?_ | refine EK.block ?_ | refine EK.inBlock ?_ | refine ER.move rfl rfl rfl ?_ | refine ER.assign rfl rfl rfl ?_ | refine ER.nilCheck rfl rfl rfl ?_ | refine ER.fieldAddr rfl rfl rfl ?_ | refine ER.load1 rfl rfl rfl (hcell_of (by assumption) rfl) ?_ | refine ER.no rfl rfl ?_ | refine ER.noU rfl ?_ | refine ER.eqV rfl rfl rfl rfl rfl ?_ | refine ER.neqV rfl rfl rfl rfl rfl ?_ | refine ER.eqA rfl rfl rfl rfl rfl ?_ | refine ER.neqA rfl rfl rfl rfl rfl ?_ | refine ER.notB rfl rfl rfl ?_ | refine ER.pickT rfl rfl rfl rfl ?_ | refine ER.pickF rfl rfl rfl rfl ?_ | refine ER.extract rfl rfl rfl rfl ?_ | refine ER.cmpT rfl rfl rfl rfl rfl (by first | (dsimp only [cmpP]; omega) | exact rfl | exact Int.le_refl _) ?_ | refine ER.cmpF rfl rfl rfl rfl rfl (by first | (dsimp only [cmpP]; omega) | exact rfl | exact Int.le_refl _) ?_ | refine ER.boxA rfl rfl rfl ?_ | refine ER.box rfl rfl rfl ?_ | refine ER.allocA rfl rfl ?_ | refine ER.alloc rfl rfl ?_ | refine ER.add (kd := .i64) rfl rfl rfl rfl (i64_in (by omega) (by omega)) ?_ | refine ER.sub' (kd := .i64) rfl rfl rfl rfl (i64_in (by omega) (by omega)) ?_ | refine ER.mul (kd := .i64) rfl rfl rfl rfl (i64_in (by omega) (by omega)) ?_ | refine ER.rem (kd := .i64) rfl rfl rfl rfl (by decide) rfl ?_ | refine ER.indexArr rfl rfl rfl rfl (by omega) (by omega) ?_ | refine ER.len1 rfl rfl rfl ?_ | refine ER.indexSl rfl rfl rfl rfl (by omega) (by omega) ?_ | refine EK.condT rfl ?_ | refine EK.condF rfl ?_ | refine ER.andI (b := 5) rfl rfl rfl rfl (W_and (by decide) (by decide) (by decide) (by omega)).1 ?_ | refine ER.andI (b := 1) rfl rfl rfl rfl (W_and (by decide) (by decide) (by decide) (by omega)).2.1 ?_ | refine ER.andI (b := 2) rfl rfl rfl rfl (W_and (by decide) (by decide) (by decide) (by omega)).2.2.1 ?_ | refine ER.andI (b := 4) rfl rfl rfl rfl (W_and (by decide) (by decide) (by decide) (by omega)).2.2.2.1 ?_ | refine ER.andI (b := 3) rfl rfl rfl rfl (W_and (by decide) (by decide) (by decide) (by omega)).2.2.2.2.1 ?_ | refine ER.andI (b := 7) rfl rfl rfl rfl (W_and (by decide) (by decide) (by decide) (by omega)).2.2.2.2.2 ?_ | refine ER.binI (op := .or) (b := 1) rfl rfl rfl rfl (by rw [binOp_bits (.inr rfl), (W_or (by decide) (by decide) (by decide) (by omega)).1]) ?_ | refine ER.binI (op := .or) (b := 2) rfl rfl rfl rfl (by rw [binOp_bits (.inr rfl), (W_or (by decide) (by decide) (by decide) (by omega)).2.1]) ?_ | refine ER.binI (op := .or) (b := 4) rfl rfl rfl rfl (by rw [binOp_bits (.inr rfl), (W_or (by decide) (by decide) (by decide) (by omega)).2.2]) ?_ | refine ER.binI2 (op := .shr) rfl rfl rfl rfl (W_shr (by decide) (by decide) (by decide)) ?_ | refine ER.binI (op := .andNot) rfl rfl rfl rfl (by rw [binOp_andN, W_andNot (by decide) (by decide) (by omega)]) ?_ | refine ER.add (kd := .i32) (b := 8) rfl rfl rfl rfl (W_add8 (by decide) (by decide) (by decide) (by omega)) ?_ | refine ER.sub' (kd := .i32) (b := 8) rfl rfl rfl rfl (W_sub8 (by decide) (by decide) (by decide) (by omega) (by omega)) ?_))
        refine EK.ret ?_
        exact EU.ret0 rfl ⟨rfl, rfl, hd, r0.trans hL r1, ha⟩
  · obtain rfl : c = 9 := by omega
    (repeat (first | refine EK.region ?_ | refine ER.done ?_ | refine ER.move rfl rfl rfl ?_ | refine ER.nilCheck rfl rfl rfl ?_ | refine ER.fieldAddr rfl rfl rfl ?_ | refine ER.cmpF rfl rfl rfl rfl rfl (by first | (dsimp only [cmpP]; omega) | exact rfl | exact Int.le_refl _) ?_ | refine EK.condF rfl ?_))
    refine ER.semrelM hL rfl rfl rfl rfl hA (.inr rfl) fun γ₃ q3 a3 => ?_
    (repeat refine ER.done ?_)
    refine EK.done ?_
    exact EU.ret0 rfl ⟨rfl, rfl, rfl, q3, a3⟩
set_option maxHeartbeats 4000000 in
theorem iunlock_ok (hL : L.Ok) (hA : At L i ⟨b, 6, 0⟩ δ.g) : CallW Try.prog false (SitW Try.prog (XF T L) i) 113 #[.pointer (some ⟨b, 2, none⟩)] h δ (Ret (MuQ L i h δ.d δ.g ⟨b, 0, 0⟩)) := by
  refine CallW.start (n := 21) rfl rfl ?_
  (repeat (first | refine EK.seq ?_ | refine EK.region ?_ | refine ER.move rfl rfl rfl ?_ | refine ER.nilCheck rfl rfl rfl ?_ | refine ER.fieldAddr rfl rfl rfl ?_ | refine EK.condT rfl ?_))
  refine ER.loadM (c := 6) hL norace_unlock rfl rfl rfl hA (by decide) fun γ₁ q1 a1 m1 c1 l1 => .inr ?_
  (repeat (first | refine EK.seq ?_ | refine EK.region ?_ | refine ER.done ?_ | refine ER.move rfl rfl rfl ?_))
  refine ER.unsafeM hL rfl rfl rfl (by decide) a1 (by decide) fun γ₂ q2 a2 => ?_
  refine ER.ext rfl rfl rfl rfl (fun Q X hq => semW_marked (by simp) (by simp) hq (hDu := a2.nd)) ?_
  (repeat (first | refine EK.region ?_ | refine ER.done ?_))
  refine ER.ext rfl rfl rfl rfl (fun Q X hq => semW_mark0 (vs := #[]) (by simp) (by simp) hq) ?_
  (repeat (first | refine EK.seq ?_ | refine EK.region ?_ | refine ER.done ?_ | refine ER.move rfl rfl rfl ?_ | refine ER.nilCheck rfl rfl rfl ?_ | refine ER.fieldAddr rfl rfl rfl ?_))
  refine ER.addM (c := 6) hL rfl rfl rfl rfl a2 (by decide) fun γ₃ q3 a3 m3 c3 l3 _ => ?_
  have hb : (γ₃.mu b).b = 1 := by have := m3.hold; have := m3.b1; omega
  have hn := mi_n m3 (fun x => ct_le x) l3
  have hk := m3.k1
  have hs := m3.s1
  have hw : IntKind.i32.wrap ((γ₃.mu b).word + -1) = ({ γ₃.mu b with b := 0 } : Mu).word := by
    rw [i32_in (by rw [Mu.word]; omega) (by rw [Mu.word]; omega)]
    simp only [Mu.word, hb]
    omega
  have key : ∀ c γ₄, Ro L i γ₂ γ₄ -> At L i ⟨b, c, 0⟩ γ₄ -> γ₄.mu b = { γ₃.mu b with b := 0 } -> ((c = 0 /\ (γ₃.mu b).s = 0 /\ ((γ₃.mu b).n = 0 \/ (γ₃.mu b).k = 1)) \/ (c = 7 /\ (γ₃.mu b).s = 0 /\ (γ₃.mu b).n ≠ 0 /\ (γ₃.mu b).k = 0) \/ (c = 9 /\ (γ₃.mu b).s = 1)) ->
      CallW Try.prog false (SitW Try.prog (XF T L) i) 122 #[.pointer (some ⟨b, 2, none⟩), .int .i32 (({ γ₃.mu b with b := 0 } : Mu).word)] h ⟨δ.d + 1, γ₄⟩ (Ret (MuQ L i h (δ.d + 1) γ₄ ⟨b, 0, 0⟩)) := by
    intro c γ₄ q4 a4 e4 hc
    refine unlockSlow_ok (δ := ⟨δ.d + 1, γ₄⟩) (k := (γ₃.mu b).k) (s := (γ₃.mu b).s) (n := (γ₃.mu b).n) hL hk hs hn a4 (hc.imp id fun z => z.imp (fun ⟨z1, z2, z3, z4⟩ => ⟨z1, z2, z3, z4, ?_⟩) id)
    simp only
    rw [e4, Mu.word_eq]
    simp only
    rw [z2, z4]
  obtain ⟨c', hT, hc⟩ : ∃ c', Tr (γ₃.mu b) 6 0 { γ₃.mu b with b := 0 } c' 0 /\ ((c' = 0 /\ (γ₃.mu b).s = 0 /\ ((γ₃.mu b).n = 0 \/ (γ₃.mu b).k = 1)) \/ (c' = 7 /\ (γ₃.mu b).s = 0 /\ (γ₃.mu b).n ≠ 0 /\ (γ₃.mu b).k = 0) \/ (c' = 9 /\ (γ₃.mu b).s = 1)) := by
    by_cases z : (γ₃.mu b).s = 1
    · exact ⟨9, .leaveS z, .inr (.inr ⟨rfl, z⟩)⟩
    · have z0 : (γ₃.mu b).s = 0 := by omega
      by_cases y : (γ₃.mu b).n = 0 \/ (γ₃.mu b).k = 1
      · exact ⟨0, .leave z0 y, .inl ⟨rfl, z0, y⟩⟩
      · exact ⟨7, .leaveU z0 (by omega) (by omega), .inr (.inl ⟨rfl, z0, by omega, by omega⟩)⟩
  refine ⟨{ γ₃.mu b with b := 0 }, c', 0, hw, rfl, hT, fun γ₄ q4 a4 e4 => ?_⟩
  (repeat (first | refine EK.seq ?_ | refine EK.region ?_ | refine ER.done ?_ | refine ER.move rfl rfl rfl ?_ | refine ER.assign rfl rfl rfl ?_))
  refine ER.cmpS rfl rfl rfl rfl rfl (fun hp => ?_) (fun hp => ?_)
  · (repeat (first | refine EK.region ?_ | refine ER.done ?_ | refine ER.move rfl rfl rfl ?_ | refine EK.condT rfl ?_))
    refine ER.callR rfl rfl rfl rfl rfl (key c' γ₄ q4 a4 e4 hc) ?_
    rintro v h' ⟨d', γ'⟩ ⟨rfl, rfl, e1, r1, a1'⟩
    simp only at e1 r1 a1'
    subst e1
    (repeat (first | refine EK.region ?_ | refine ER.done ?_))
    refine ER.ext rfl rfl rfl rfl (fun Q X hq => semW_mark0 (vs := #[]) (by simp) (by simp) hq) ?_
    (repeat refine ER.done ?_)
    refine EK.done ?_
    exact EU.ret0 rfl ⟨rfl, rfl, rfl, ((q1.trans hL q2).trans hL q4).trans hL r1, a1'⟩
  · have hz : ({ γ₃.mu b with b := 0 } : Mu).word = 0 := Classical.not_not.1 hp
    have hc0 : c' = 0 := by
      rw [Mu.word] at hz
      simp only at hz
      omega
    subst hc0
    (repeat (first | refine EK.region ?_ | refine ER.done ?_ | refine EK.skip ?_ | refine EK.condF rfl ?_))
    refine ER.ext rfl rfl rfl rfl (fun Q X hq => semW_mark0 (vs := #[]) (by simp) (by simp) hq) ?_
    (repeat refine ER.done ?_)
    refine EK.done ?_
    exact EU.ret0 rfl ⟨rfl, rfl, rfl, (q1.trans hL q2).trans hL q4, a4⟩
theorem lock_ok (hL : L.Ok) (hA : At L i ⟨b, 1, 0⟩ δ.g) : CallW Try.prog false (SitW Try.prog (XF T L) i) 91 #[.pointer (some ⟨b, 2, none⟩)] h δ (Ret (MuQ L i h δ.d δ.g ⟨b, 6, 0⟩)) := by
  refine CallW.start (n := 6) rfl rfl ?_
  (repeat (first | refine EK.region ?_ | refine ER.move rfl rfl rfl ?_ | refine ER.nilCheck rfl rfl rfl ?_ | refine ER.fieldAddr rfl rfl rfl ?_))
  refine ER.callR rfl rfl rfl rfl rfl (ilock_ok hL hA) ?_
  rintro v h' δ' ⟨rfl, rfl, e1, r1, a1⟩
  (repeat refine ER.done ?_)
  refine EK.done ?_
  exact EU.ret0 rfl ⟨rfl, rfl, e1, r1, a1⟩
theorem unlock_ok (hL : L.Ok) (hA : At L i ⟨b, 6, 0⟩ δ.g) : CallW Try.prog false (SitW Try.prog (XF T L) i) 92 #[.pointer (some ⟨b, 2, none⟩)] h δ (Ret (MuQ L i h δ.d δ.g ⟨b, 0, 0⟩)) := by
  refine CallW.start (n := 6) rfl rfl ?_
  (repeat (first | refine EK.region ?_ | refine ER.move rfl rfl rfl ?_ | refine ER.nilCheck rfl rfl rfl ?_ | refine ER.fieldAddr rfl rfl rfl ?_))
  refine ER.callR rfl rfl rfl rfl rfl (iunlock_ok hL hA) ?_
  rintro v h' δ' ⟨rfl, rfl, e1, r1, a1⟩
  (repeat refine ER.done ?_)
  refine EK.done ?_
  exact EU.ret0 rfl ⟨rfl, rfl, e1, r1, a1⟩
end
end
section
open Go Go.TJ Go.Proofs
variable [Dm]
section
variable {Y : Type} {T : Tids} {L : Law Y} {h : Hp} {δ : Ix (Gf Y)} {i b : Nat}
def Cq (L : Law Y) (i : Nat) (h : Hp) (d wg : Nat) (F : Value -> Y -> Prop) : Value -> Hp -> Ix (Gf Y) -> Prop := fun v h' δ' => h' = h /\ δ'.d = d /\ δ'.g.wg = wg /\ Idle L i δ'.g /\ F v δ'.g.y
theorem none_f (hL : L.Ok) {p : Pc} (hA : At L i p δ.g) (hb : b ∈ L.cls δ.g.y) : CallW Try.prog false (SitW Try.prog (XF T L) i) 66 #[.pointer (some ⟨b, 0, none⟩)] h δ (Ret fun v h' δ' => v = .bool false /\ h' = h /\ δ'.d = δ.d /\ Rr L i δ.g δ'.g) := by
  refine CallW.start (n := 12) rfl rfl ?_
  (repeat (first | refine EK.seq ?_ | refine EK.region ?_ | refine ER.done ?_ | refine ER.move rfl rfl rfl ?_ | refine ER.assign rfl rfl rfl ?_ | refine ER.nilCheck rfl rfl rfl ?_ | refine ER.fieldAddr rfl rfl rfl ?_ | refine ER.eqV rfl rfl rfl rfl rfl ?_))
  refine ER.loadC (v := .bool true) hL (.inl ⟨rfl, rfl⟩) rfl rfl rfl hA hb fun γ₁ r1 => ?_
  (repeat (first | refine ER.done ?_ | refine ER.assign rfl rfl rfl ?_ | refine ER.notB rfl rfl rfl ?_ | refine ER.pickF rfl rfl rfl rfl ?_ | refine EK.ret ?_))
  exact EU.ret1 rfl rfl ⟨rfl, rfl, rfl, r1⟩
theorem wakes_f (hL : L.Ok) (hA : At L i ⟨b, 1, 0⟩ δ.g) (hb : b ∈ L.cls δ.g.y) : CallW Try.prog false (SitW Try.prog (XF T L) i) 69 #[.pointer (some ⟨b, 0, none⟩)] h δ (Ret fun v h' δ' => v = .tuple #[] /\ h' = h /\ δ'.d = δ.d /\ Ro L i δ.g δ'.g /\ Idle L i δ'.g) := by
  refine CallW.start (n := 21) rfl rfl ?_
  (repeat (first | refine EK.seq ?_ | refine EK.region ?_ | refine ER.move rfl rfl rfl ?_ | refine ER.nilCheck rfl rfl rfl ?_ | refine ER.fieldAddr rfl rfl rfl ?_))
  refine ER.callR rfl rfl rfl rfl rfl (lock_ok hL hA) ?_
  rintro v h' δ' ⟨rfl, rfl, e1, r1, a1⟩
  (repeat (first | refine EK.seq ?_ | refine EK.region ?_ | refine ER.done ?_ | refine ER.move rfl rfl rfl ?_ | refine ER.nilCheck rfl rfl rfl ?_ | refine ER.fieldAddr rfl rfl rfl ?_))
  refine ER.defer rfl rfl rfl ?_
  (repeat (first | refine EK.seq ?_ | refine EK.region ?_ | refine ER.done ?_ | refine ER.move rfl rfl rfl ?_ | refine ER.nilCheck rfl rfl rfl ?_ | refine ER.fieldAddr rfl rfl rfl ?_))
  refine ER.loadC (v := .chan none) hL (.inr ⟨rfl, rfl⟩) rfl rfl rfl a1 (by rw [r1.stat.cls]; exact hb) fun γ₁ r2 => ?_
  (repeat (first | refine ER.done ?_ | refine EK.skip ?_ | refine ER.neqV rfl rfl rfl rfl rfl ?_ | refine EK.condF rfl ?_))
  refine EK.done ?_
  refine EU.deferR rfl (unlock_ok hL (δ := ⟨δ'.d, γ₁⟩) (a1.rr r2)) ?_
  rintro v h' δ' ⟨rfl, rfl, e2, r3, a3⟩
  exact EU.ret0 rfl ⟨rfl, rfl, e2.trans e1, (r1.trans hL r2.toRo).trans hL r3, a3.idle⟩
theorem aload_f (hL : L.Ok) (hA : Idle L i δ.g) (hb : b ∈ L.cls δ.g.y) {Q : Value -> Hp -> Ix (Gf Y) -> Prop}
    (hop : ∀ γ₁, Rr L i δ.g γ₁ -> Idle L i γ₁ -> L.J γ₁.y -> ∃ y', LMove L i γ₁.y y' /\ ∀ γ₂, γ₂.y = y' -> γ₂.wg = δ.g.wg -> Idle L i γ₂ -> Q (.int .i64 (L.val γ₁.y b)) h ⟨δ.d, γ₂⟩) :
    CallW Try.prog false (SitW Try.prog (XF T L) i) 50 #[.pointer (some ⟨b, 0, none⟩)] h δ (Ret Q) := by
  refine CallW.start (n := 7) rfl rfl ?_
  (repeat (first | refine EK.seq ?_ | refine EK.region ?_ | refine ER.done ?_ | refine ER.move rfl rfl rfl ?_ | refine ER.assign rfl rfl rfl ?_ | refine ER.nilCheck rfl rfl rfl ?_ | refine ER.fieldAddr rfl rfl rfl ?_))
  refine ER.loadV hL rfl rfl rfl rfl hA hb fun γ₁ r1 a1 j1 => ?_
  obtain ⟨y', m, hn⟩ := hop γ₁ r1 a1 j1
  refine ⟨y', m, fun γ₂ e2 w2 a2 => ?_⟩
  (repeat (first | refine ER.done ?_ | refine ER.assign rfl rfl rfl ?_ | refine EK.ret ?_))
  exact EU.ret1 rfl rfl (hn γ₂ e2 w2 a2)
theorem astore_f (hL : L.Ok) {z : Int} (hA : Idle L i δ.g) (hb : b ∈ L.cls δ.g.y) {Q : Value -> Hp -> Ix (Gf Y) -> Prop}
    (hop : ∀ γ₁, Rr L i δ.g γ₁ -> Idle L i γ₁ -> L.J γ₁.y -> ∃ y', LStep L i b γ₁.y y' /\ L.val y' b = z /\ ∀ γ₂, γ₂.y = y' -> γ₂.wg = δ.g.wg -> At L i ⟨b, 1, 0⟩ γ₂ -> Q (.tuple #[]) h ⟨δ.d, γ₂⟩) :
    CallW Try.prog false (SitW Try.prog (XF T L) i) 61 #[.pointer (some ⟨b, 0, none⟩), .int .i64 z] h δ (Ret Q) := by
  refine CallW.start (n := 9) rfl rfl ?_
  (repeat (first | refine EK.region ?_ | refine ER.move rfl rfl rfl ?_ | refine ER.nilCheck rfl rfl rfl ?_ | refine ER.fieldAddr rfl rfl rfl ?_))
  refine ER.storeV hL rfl rfl rfl rfl hA hb fun γ₁ r1 a1 j1 => ?_
  obtain ⟨y', m, hv, hn⟩ := hop γ₁ r1 a1 j1
  refine ⟨y', m, hv, fun γ₂ e2 w2 a2 => ?_⟩
  (repeat refine ER.done ?_)
  refine EK.done ?_
  exact EU.ret0 rfl (hn γ₂ e2 w2 a2)
theorem aadd_f (hL : L.Ok) {z : Int} (hA : Idle L i δ.g) (hb : b ∈ L.cls δ.g.y) {Q : Value -> Hp -> Ix (Gf Y) -> Prop}
    (hop : ∀ γ₁, Rr L i δ.g γ₁ -> Idle L i γ₁ -> L.J γ₁.y -> ∃ y', LStep L i b γ₁.y y' /\ L.val y' b = IntKind.i64.wrap (L.val γ₁.y b + z) /\ ∀ γ₂, γ₂.y = y' -> γ₂.wg = δ.g.wg -> At L i ⟨b, 1, 0⟩ γ₂ -> Q (.int .i64 (L.val y' b)) h ⟨δ.d, γ₂⟩) :
    CallW Try.prog false (SitW Try.prog (XF T L) i) 44 #[.pointer (some ⟨b, 0, none⟩), .int .i64 z] h δ (Ret Q) := by
  refine CallW.start (n := 10) rfl rfl ?_
  (repeat (first | refine EK.seq ?_ | refine EK.region ?_ | refine ER.done ?_ | refine ER.move rfl rfl rfl ?_ | refine ER.assign rfl rfl rfl ?_ | refine ER.nilCheck rfl rfl rfl ?_ | refine ER.fieldAddr rfl rfl rfl ?_))
  refine ER.addV hL rfl rfl rfl rfl hA hb fun γ₁ r1 a1 j1 => ?_
  obtain ⟨y', m, hv, hn⟩ := hop γ₁ r1 a1 j1
  refine ⟨y', m, hv, fun γ₂ e2 w2 a2 => ?_⟩
  (repeat (first | refine ER.done ?_ | refine ER.assign rfl rfl rfl ?_ | refine EK.ret ?_))
  exact EU.ret1 rfl rfl (hn γ₂ e2 w2 a2)
theorem acas_f (hL : L.Ok) {u z : Int} (hA : Idle L i δ.g) (hb : b ∈ L.cls δ.g.y) {Q : Value -> Hp -> Ix (Gf Y) -> Prop}
    (hop : ∀ γ₁, Rr L i δ.g γ₁ -> Idle L i γ₁ -> L.J γ₁.y -> (L.val γ₁.y b = u -> ∃ y', LStep L i b γ₁.y y' /\ L.val y' b = z /\ ∀ γ₂, γ₂.y = y' -> γ₂.wg = δ.g.wg -> At L i ⟨b, 1, 0⟩ γ₂ -> Q (.bool true) h ⟨δ.d, γ₂⟩) /\
      (L.val γ₁.y b ≠ u -> ∃ y', LMove L i γ₁.y y' /\ ∀ γ₂, γ₂.y = y' -> γ₂.wg = δ.g.wg -> Idle L i γ₂ -> Q (.bool false) h ⟨δ.d, γ₂⟩)) :
    CallW Try.prog false (SitW Try.prog (XF T L) i) 89 #[.pointer (some ⟨b, 0, none⟩), .int .i64 u, .int .i64 z] h δ (Ret Q) := by
  refine CallW.start (n := 13) rfl rfl ?_
  (repeat (first | refine EK.seq ?_ | refine EK.region ?_ | refine ER.done ?_ | refine ER.move rfl rfl rfl ?_ | refine ER.assign rfl rfl rfl ?_ | refine ER.nilCheck rfl rfl rfl ?_ | refine ER.fieldAddr rfl rfl rfl ?_))
  refine ER.casV hL rfl rfl rfl rfl hA hb fun γ₁ r1 a1 j1 => ?_
  obtain ⟨k1, k2⟩ := hop γ₁ r1 a1 j1
  refine ⟨fun e => ?_, fun e => ?_⟩
  · obtain ⟨y', m, hv, hn⟩ := k1 e
    refine ⟨y', m, hv, fun γ₂ e2 w2 a2 => ?_⟩
    (repeat (first | refine ER.done ?_ | refine ER.assign rfl rfl rfl ?_ | refine EK.ret ?_))
    exact EU.ret1 rfl rfl (hn γ₂ e2 w2 a2)
  · obtain ⟨y', m, hn⟩ := k2 e
    refine ⟨y', m, fun γ₂ e2 w2 a2 => ?_⟩
    (repeat (first | refine ER.done ?_ | refine ER.assign rfl rfl rfl ?_ | refine EK.ret ?_))
    exact EU.ret1 rfl rfl (hn γ₂ e2 w2 a2)
theorem cload_f (hL : L.Ok) (hA : Idle L i δ.g) (hb : b ∈ L.cls δ.g.y) {F : Value -> Y -> Prop}
    (hop : ∀ y₁, LRel L i δ.g.y y₁ -> L.J y₁ -> ∃ y', LMove L i y₁ y' /\ F (.int .i64 (L.val y₁ b)) y') :
    CallW Try.prog false (SitW Try.prog (XF T L) i) 23 #[.pointer (some ⟨b, 0, none⟩), .pointer none] h δ (Ret (Cq L i h δ.d δ.g.wg F)) := by
  refine CallW.start (n := 26) rfl rfl ?_
  (repeat (first | refine EK.seq ?_ | refine EK.region ?_ | refine ER.done ?_ | refine ER.move rfl rfl rfl ?_ | refine ER.assign rfl rfl rfl ?_))
  refine ER.callR rfl rfl rfl rfl rfl (none_f hL hA.at hb) ?_
  rintro v0 h' δ0 ⟨rfl, rfl, e0, r0⟩
  (repeat (first | refine EK.seq ?_ | refine EK.region ?_ | refine ER.done ?_ | refine EK.skip ?_ | refine ER.move rfl rfl rfl ?_ | refine EK.condF rfl ?_))
  refine ER.callD rfl rfl rfl rfl rfl live_nil ?_
  (repeat (first | refine EK.seq ?_ | refine EK.region ?_ | refine ER.done ?_ | refine EK.skip ?_ | refine ER.move rfl rfl rfl ?_ | refine ER.nilCheck rfl rfl rfl ?_ | refine ER.fieldAddr rfl rfl rfl ?_ | refine EK.condF rfl ?_))
  refine ER.callR rfl rfl rfl rfl rfl (aload_f (Q := fun v h1 δ1 => h1 = h' /\ δ1.d = δ0.d /\ δ1.g.wg = δ.g.wg /\ Idle L i δ1.g /\ F v δ1.g.y) hL (hA.rr r0) (by rw [r0.stat.cls]; exact hb) fun γ₁ r1 a1 j1 => ?_) ?_
  · obtain ⟨y', m, hF⟩ := hop γ₁.y (r0.lrel.trans hL r1.lrel) j1
    exact ⟨y', m, fun γ₂ e2 w2 a2 => ⟨rfl, rfl, w2.trans r0.wg, a2, by rw [e2]; exact hF⟩⟩
  rintro v h2 δ2 ⟨rfl, e2, w2, a2, hF⟩
  (repeat (first | refine ER.done ?_ | refine ER.assign rfl rfl rfl ?_ | refine EK.ret ?_))
  exact EU.ret1 rfl rfl ⟨rfl, e2.trans e0, w2, a2, hF⟩
theorem cstore_f (hL : L.Ok) {z : Int} (hA : Idle L i δ.g) (hb : b ∈ L.cls δ.g.y) {F : Value -> Y -> Prop}
    (hop : ∀ y₁, LRel L i δ.g.y y₁ -> L.J y₁ -> ∃ y', LStep L i b y₁ y' /\ L.val y' b = z /\ ∀ y₂, LRel L i y' y₂ -> F (.tuple #[]) y₂) :
    CallW Try.prog false (SitW Try.prog (XF T L) i) 22 #[.pointer (some ⟨b, 0, none⟩), .pointer none, .int .i64 z] h δ (Ret (Cq L i h δ.d δ.g.wg F)) := by
  refine CallW.start (n := 23) rfl rfl ?_
  (repeat (first | refine EK.seq ?_ | refine EK.region ?_ | refine ER.move rfl rfl rfl ?_))
  refine ER.callR rfl rfl rfl rfl rfl (none_f hL hA.at hb) ?_
  rintro v0 h' δ0 ⟨rfl, rfl, e0, r0⟩
  (repeat (first | refine EK.seq ?_ | refine EK.region ?_ | refine ER.done ?_ | refine EK.skip ?_ | refine ER.move rfl rfl rfl ?_ | refine EK.condF rfl ?_))
  refine ER.callD rfl rfl rfl rfl rfl live_nil ?_
  (repeat (first | refine EK.seq ?_ | refine EK.region ?_ | refine ER.done ?_ | refine EK.skip ?_ | refine ER.move rfl rfl rfl ?_ | refine ER.nilCheck rfl rfl rfl ?_ | refine ER.fieldAddr rfl rfl rfl ?_ | refine EK.condF rfl ?_))
  refine ER.callR rfl rfl rfl rfl rfl (astore_f (Q := fun v h1 δ1 => v = .tuple #[] /\ h1 = h' /\ δ1.d = δ0.d /\ δ1.g.wg = δ.g.wg /\ At L i ⟨b, 1, 0⟩ δ1.g /\ b ∈ L.cls δ1.g.y /\ ∀ y₂, LRel L i δ1.g.y y₂ -> F (.tuple #[]) y₂) hL (hA.rr r0) (by rw [r0.stat.cls]; exact hb) fun γ₁ r1 a1 j1 => ?_) ?_
  · obtain ⟨y', m, hv, hF⟩ := hop γ₁.y (r0.lrel.trans hL r1.lrel) j1
    exact ⟨y', m, hv, fun γ₂ e2 w2 a2 => ⟨rfl, rfl, rfl, w2.trans r0.wg, a2, by rw [e2, m.stat.cls, r1.stat.cls, r0.stat.cls]; exact hb, by rw [e2]; exact hF⟩⟩
  rintro v h2 δ2 ⟨rfl, rfl, e2, w2, a2, b2, hF⟩
  (repeat (first | refine EK.region ?_ | refine ER.done ?_ | refine ER.move rfl rfl rfl ?_))
  refine ER.callR rfl rfl rfl rfl rfl (wakes_f hL a2 b2) ?_
  rintro v h3 δ3 ⟨rfl, rfl, e3, r3, a3⟩
  (repeat refine ER.done ?_)
  refine EK.done ?_
  exact EU.ret0 rfl ⟨rfl, (e3.trans e2).trans e0, r3.wg.trans w2, a3, hF _ r3.lrel⟩
theorem cadd_f (hL : L.Ok) {z : Int} (hA : Idle L i δ.g) (hb : b ∈ L.cls δ.g.y) {F : Value -> Y -> Prop}
    (hop : ∀ y₁, LRel L i δ.g.y y₁ -> L.J y₁ -> ∃ y', LStep L i b y₁ y' /\ L.val y' b = IntKind.i64.wrap (L.val y₁ b + z) /\ ∀ y₂, LRel L i y' y₂ -> F (.int .i64 (L.val y' b)) y₂) :
    CallW Try.prog false (SitW Try.prog (XF T L) i) 71 #[.pointer (some ⟨b, 0, none⟩), .pointer none, .int .i64 z] h δ (Ret (Cq L i h δ.d δ.g.wg F)) := by
  refine CallW.start (n := 34) rfl rfl ?_
  (repeat (first | refine EK.seq ?_ | refine EK.region ?_ | refine ER.done ?_ | refine ER.move rfl rfl rfl ?_ | refine ER.assign rfl rfl rfl ?_))
  refine ER.callR rfl rfl rfl rfl rfl (none_f hL hA.at hb) ?_
  rintro v0 h' δ0 ⟨rfl, rfl, e0, r0⟩
  (repeat (first | refine EK.seq ?_ | refine EK.region ?_ | refine ER.done ?_ | refine EK.skip ?_ | refine ER.move rfl rfl rfl ?_ | refine EK.condF rfl ?_))
  refine ER.callD rfl rfl rfl rfl rfl live_nil ?_
  (repeat (first | refine EK.seq ?_ | refine EK.region ?_ | refine ER.done ?_ | refine EK.skip ?_ | refine ER.move rfl rfl rfl ?_ | refine ER.nilCheck rfl rfl rfl ?_ | refine ER.fieldAddr rfl rfl rfl ?_ | refine EK.condF rfl ?_))
  refine ER.callR rfl rfl rfl rfl rfl (aadd_f (Q := fun v h1 δ1 => ∃ u, v = .int .i64 u /\ h1 = h' /\ δ1.d = δ0.d /\ δ1.g.wg = δ.g.wg /\ At L i ⟨b, 1, 0⟩ δ1.g /\ b ∈ L.cls δ1.g.y /\ ∀ y₂, LRel L i δ1.g.y y₂ -> F (.int .i64 u) y₂) hL (hA.rr r0) (by rw [r0.stat.cls]; exact hb) fun γ₁ r1 a1 j1 => ?_) ?_
  · obtain ⟨y', m, hv, hF⟩ := hop γ₁.y (r0.lrel.trans hL r1.lrel) j1
    exact ⟨y', m, hv, fun γ₂ e2 w2 a2 => ⟨_, rfl, rfl, rfl, w2.trans r0.wg, a2, by rw [e2, m.stat.cls, r1.stat.cls, r0.stat.cls]; exact hb, by rw [e2]; exact hF⟩⟩
  rintro v h2 δ2 ⟨u, rfl, rfl, e2, w2, a2, b2, hF⟩
  (repeat (first | refine EK.seq ?_ | refine EK.region ?_ | refine ER.done ?_ | refine ER.move rfl rfl rfl ?_ | refine ER.assign rfl rfl rfl ?_))
  refine ER.callR rfl rfl rfl rfl rfl (wakes_f hL a2 b2) ?_
  rintro v h3 δ3 ⟨rfl, rfl, e3, r3, a3⟩
  (repeat (first | refine EK.seq ?_ | refine EK.region ?_ | refine ER.done ?_ | refine ER.move rfl rfl rfl ?_ | refine ER.assign rfl rfl rfl ?_ | refine EK.ret ?_))
  exact EU.ret1 rfl rfl ⟨rfl, (e3.trans e2).trans e0, r3.wg.trans w2, a3, hF _ r3.lrel⟩
theorem ccas_f (hL : L.Ok) {u z : Int} (hA : Idle L i δ.g) (hb : b ∈ L.cls δ.g.y) {F : Value -> Y -> Prop}
    (hop : ∀ y₁, LRel L i δ.g.y y₁ -> L.J y₁ -> (L.val y₁ b = u -> ∃ y', LStep L i b y₁ y' /\ L.val y' b = z /\ ∀ y₂, LRel L i y' y₂ -> F (.bool true) y₂) /\ (L.val y₁ b ≠ u -> ∃ y', LMove L i y₁ y' /\ F (.bool false) y')) :
    CallW Try.prog false (SitW Try.prog (XF T L) i) 65 #[.pointer (some ⟨b, 0, none⟩), .pointer none, .int .i64 u, .int .i64 z] h δ (Ret (Cq L i h δ.d δ.g.wg F)) := by
  refine CallW.start (n := 39) rfl rfl ?_
  (repeat (first | refine EK.seq ?_ | refine EK.region ?_ | refine ER.done ?_ | refine ER.move rfl rfl rfl ?_ | refine ER.assign rfl rfl rfl ?_))
  refine ER.callR rfl rfl rfl rfl rfl (none_f hL hA.at hb) ?_
  rintro v0 h' δ0 ⟨rfl, rfl, e0, r0⟩
  (repeat (first | refine EK.seq ?_ | refine EK.region ?_ | refine ER.done ?_ | refine EK.skip ?_ | refine ER.move rfl rfl rfl ?_ | refine EK.condF rfl ?_))
  refine ER.callD rfl rfl rfl rfl rfl live_nil ?_
  (repeat (first | refine EK.seq ?_ | refine EK.region ?_ | refine ER.done ?_ | refine EK.skip ?_ | refine ER.move rfl rfl rfl ?_ | refine ER.nilCheck rfl rfl rfl ?_ | refine ER.fieldAddr rfl rfl rfl ?_ | refine EK.condF rfl ?_))
  refine ER.callR rfl rfl rfl rfl rfl (acas_f (Q := fun v h1 δ1 => h1 = h' /\ δ1.d = δ0.d /\ δ1.g.wg = δ.g.wg /\ b ∈ L.cls δ1.g.y /\ ((v = .bool true /\ At L i ⟨b, 1, 0⟩ δ1.g /\ ∀ y₂, LRel L i δ1.g.y y₂ -> F (.bool true) y₂) \/ (v = .bool false /\ Idle L i δ1.g /\ F (.bool false) δ1.g.y))) hL (hA.rr r0) (by rw [r0.stat.cls]; exact hb) fun γ₁ r1 a1 j1 => ?_) ?_
  · obtain ⟨k1, k2⟩ := hop γ₁.y (r0.lrel.trans hL r1.lrel) j1
    refine ⟨fun e => ?_, fun e => ?_⟩
    · obtain ⟨y', m, hv, hF⟩ := k1 e
      exact ⟨y', m, hv, fun γ₂ e2 w2 a2 => ⟨rfl, rfl, w2.trans r0.wg, by rw [e2, m.stat.cls, r1.stat.cls, r0.stat.cls]; exact hb, .inl ⟨rfl, a2, by rw [e2]; exact hF⟩⟩⟩
    · obtain ⟨y', m, hF⟩ := k2 e
      exact ⟨y', m, fun γ₂ e2 w2 a2 => ⟨rfl, rfl, w2.trans r0.wg, by rw [e2, m.stat.cls, r1.stat.cls, r0.stat.cls]; exact hb, .inr ⟨rfl, a2, by rw [e2]; exact hF⟩⟩⟩
  rintro v h2 δ2 ⟨rfl, e2, w2, b2, ⟨rfl, a2, hF⟩ | ⟨rfl, a2, hF⟩⟩
  · (repeat (first | refine EK.seq ?_ | refine EK.region ?_ | refine ER.done ?_ | refine ER.move rfl rfl rfl ?_ | refine ER.assign rfl rfl rfl ?_ | refine EK.condT rfl ?_))
    refine ER.callR rfl rfl rfl rfl rfl (wakes_f hL a2 b2) ?_
    rintro v h3 δ3 ⟨rfl, rfl, e3, r3, a3⟩
    (repeat (first | refine EK.seq ?_ | refine EK.region ?_ | refine ER.done ?_ | refine ER.move rfl rfl rfl ?_ | refine ER.assign rfl rfl rfl ?_ | refine EK.ret ?_))
    exact EU.ret1 rfl rfl ⟨rfl, (e3.trans e2).trans e0, r3.wg.trans w2, a3, hF _ r3.lrel⟩
  · (repeat (first | refine EK.seq ?_ | refine EK.region ?_ | refine ER.done ?_ | refine EK.skip ?_ | refine ER.move rfl rfl rfl ?_ | refine ER.assign rfl rfl rfl ?_ | refine EK.condF rfl ?_ | refine EK.ret ?_))
    exact EU.ret1 rfl rfl ⟨rfl, e2.trans e0, w2, a2, hF⟩
end
end
section
open Go Go.TJ Go.Proofs
variable [Dm]
structure Own (i : Nat) (c : Cc) (fa fr : Nat -> Bool) (hd : Int) (rs : Bool) (bd : Nat) (ha : Int) (ra : Bool) (y : Cy) : Prop where
  cc : y.c = c
  fa : ∀ k, k % c.n = i - 1 -> y.ka k = fa k
  fr : ∀ k, k % c.n = i - 1 -> y.kr k = fr k
  hd : y.hd i = hd
  rs : y.rs i = rs
  bd : bd <= y.bd i
  ha : y.ha (i - 1) = ha
  ra : y.ra (i - 1) = ra
section
variable {i : Nat} {c : Cc} {fa fr : Nat -> Bool} {hd : Int} {rs : Bool} {bd : Nat} {ha : Int} {ra : Bool} {y y' : Cy}
theorem Own.rel (o : Own i c fa fr hd rs bd ha ra y) (h0 : 0 < i) (r : LRel cL i y y') : Own i c fa fr hd rs bd ha ra y' := by
  have q : Cr i y y' := r.law
  have hc := o.cc
  exact ⟨q.c.trans hc, fun k hk => (q.ka h0 k (by rw [hc]; exact hk)).trans (o.fa k hk), fun k hk => (q.kr h0 k (by rw [hc]; exact hk)).trans (o.fr k hk), (q.hd h0).trans o.hd, (q.rs h0).trans o.rs, by rw [q.bd h0]; exact o.bd, (q.ha h0).trans o.ha, (q.ra h0).trans o.ra⟩
theorem Own.add (o : Own i c fa fr hd rs bd ha ra y) (k b : Nat) : Own i c (u1 fa k true) fr hd rs (bd - 1) ha ra (addY y i k b) :=
  ⟨o.cc, fun q hq => by
    show u1 y.ka k true q = u1 fa k true q
    by_cases e : q = k
    · subst e; rw [u1_same, u1_same]
    · rw [u1_ne e, u1_ne e]; exact o.fa q hq, o.fr, o.hd, o.rs, by show bd - 1 <= u1 y.bd i _ i; rw [u1_same]; have := o.bd; omega, o.ha, o.ra⟩
theorem Own.raise (o : Own i c fa fr hd rs bd ha ra y) (k : Nat) : Own i c fa (u1 fr k true) hd true (bd - 1) ha ra (raiseY y i k) :=
  ⟨o.cc, o.fa, fun q hq => by
    show u1 y.kr k true q = u1 fr k true q
    by_cases e : q = k
    · subst e; rw [u1_same, u1_same]
    · rw [u1_ne e, u1_ne e]; exact o.fr q hq, o.hd, u1_same, by show bd - 1 <= u1 y.bd i _ i; rw [u1_same]; have := o.bd; omega, o.ha, o.ra⟩
theorem Own.tick (o : Own i c fa fr hd rs bd ha ra y) (d : Int) : Own i c fa fr (hd + d) rs (bd - 1) ha ra (tickY y i d) :=
  ⟨o.cc, o.fa, o.fr, by show u1 y.hd i _ i = _; rw [u1_same, o.hd], o.rs, by show bd - 1 <= u1 y.bd i _ i; rw [u1_same]; have := o.bd; omega, o.ha, o.ra⟩
theorem Own.less (o : Own i c fa fr hd rs bd ha ra y) {b : Nat} (h : b <= bd) : Own i c fa fr hd rs b ha ra y := ⟨o.cc, o.fa, o.fr, o.hd, o.rs, Nat.le_trans h o.bd, o.ha, o.ra⟩
end
section
variable {h : Hp} {δ : Ix (Gf Cy)} {i : Nat} {c : Cc} {fa fr : Nat -> Bool} {hd : Int} {rs : Bool} {bd : Nat} {ha : Int} {ra : Bool} {k : Nat}
end
end
section
open Go Go.TJ Go.Proofs
variable [Dm]
abbrev ptr (b : Nat) : Value := .pointer (some ⟨b, 0, none⟩)
abbrev nilS : Value := .slice none 0 0
instance : Mixed Try.prog := ⟨by kernel_rfl⟩
end
section
open Go Go.TJ Go.Proofs
variable [Dm]
theorem EA.gen {Γ : Type} {P : Program} {main : Bool} {S : Sit Γ} {f : FuncId} {n : Nat} {ops : Array Oper} {Z : Hp -> Prop} {z m : Nat} {listed : Array Bool} {k : List Item} {env : Env} {ds : List Deferred} {h : Hp} {δ : Ix Γ} {R : Post Γ} (F : Hp -> Prop) (hF : F h) (hn : ∀ h', F h' -> EA P main S f n ops Z z m listed k env ds h' δ R) : EA P main S f n ops Z z m listed k env ds h δ R := hn h hF
section
variable {Γ : Type} {main : Bool} {h : Hp} {δ : Ix Γ}
end
end
section
open Go Go.TJ Go.Proofs
variable [Dm]
section
variable {h : Hp} {n : Nat} {B : Nat -> Nat} {v : Nat -> Int}
end
section
variable {Γ : Type} {main : Bool} {h : Hp} {δ : Ix Γ} {n : Nat} {B : Nat -> Nat} {v : Nat -> Int}
end
end
section
open Go Go.TJ Go.Proofs
variable [Dm]
section
variable {i : Nat} {c : Sc} {hn : Option Nat} {s : Option (Nat × Int)} {w : Int} {pu po : List Int} {bd : Nat} {sp sq : Value} {y y' : Sy} {X : Nat} {h m : Int}
end
section
variable {h : Hp} {δ : Ix (Gf Sy)} {i : Nat} {c : Sc} {w : Int} {pu po : List Int} {bd : Nat} {sp sq : Value} {X x sb ib : Nat}
end
end
section
open Go Go.TJ Go.Proofs
variable [Dm]
section
variable {h : Hp} {δ : Ix (Gf Sy)} {i : Nat} {c : Sc} {w : Int} {pu po : List Int} {bd : Nat} {sp sq : Value} {X x sb ib : Nat}
end
end
end Go.Proofs.Ytakioblpgmjdaaa
namespace Go.TJ
section
variable [Dm]
open Go Go.Conc
section
variable {Γ : Type} {P : Program} {main : Bool} {S : Sit Γ} {f : FuncId} {n : Nat} {ops : Array Oper} {Z : Hp -> Prop} {z m : Nat} {listed li lj l' : Array Bool} {k : List Item} {env : Env} {ds : List Deferred} {h : Hp} {δ : Ix Γ} {R : Post Γ}
theorem EA.swap {a b : Nat} {u v : Value} (hne : a ≠ b) (hk : EA P main S f n ops Z z m listed k ((a, u) :: (b, v) :: env) ds h δ R) : EA P main S f n ops Z z m listed k ((b, v) :: (a, u) :: env) ds h δ R := fun x kx => hk x ⟨kx.size, kx.defers, fun i w hl => kx.knows i w (by
  rw [look_cons, look_cons] at hl ⊢
  by_cases ea : a = i
  · rw [if_pos ea] at hl
    rw [if_neg (fun z => hne (ea.trans z.symm)), if_pos ea]; exact hl
  · rw [if_neg ea] at hl
    rw [if_neg ea]; exact hl)⟩
theorem EA.both (i j : Nat) {oi oj : Oper} {di dj : Nat} (I : Value -> Value -> Hp -> Ix Γ -> Prop) (hi : ops[i]? = some oi) (hj : ops[j]? = some oj) (hr : Region.ready .any ops listed = [i, j]) (hli : listed.setIfInBounds i true = li) (hlj : listed.setIfInBounds j true = lj)
    (hri : Region.ready .any ops li = [j]) (hrj : Region.ready .any ops lj = [i]) (hij : li.setIfInBounds j true = l') (hji : lj.setIfInBounds i true = l') (gi : oi.guard = none) (gj : oj.guard = none) (ti : oi.dst = some di) (tj : oj.dst = some dj) (bi : Nat.blt di n = true) (bj : Nat.blt dj n = true) (hne : di ≠ dj)
    (h1 : ∀ (ρ : Operand -> Value), (∀ x v, ev env x = some v -> ρ x = v) -> ∃ Y1 : Value -> Hp -> Ix Γ -> Prop, Yields P main S f (execOp ρ oi) h δ Y1 /\ ∀ v h' δ', Y1 v h' δ' -> Z h' /\ ∀ (ρ' : Operand -> Value), (∀ x u, ev ((di, v) :: env) x = some u -> ρ' x = u) -> ∃ Y2 : Value -> Hp -> Ix Γ -> Prop, Yields P main S f (execOp ρ' oj) h' δ' Y2 /\ ∀ v2 h2 δ2, Y2 v2 h2 δ2 -> Z h2 /\ I v v2 h2 δ2)
    (h2 : ∀ (ρ : Operand -> Value), (∀ x v, ev env x = some v -> ρ x = v) -> ∃ Y1 : Value -> Hp -> Ix Γ -> Prop, Yields P main S f (execOp ρ oj) h δ Y1 /\ ∀ v h' δ', Y1 v h' δ' -> Z h' /\ ∀ (ρ' : Operand -> Value), (∀ x u, ev ((dj, v) :: env) x = some u -> ρ' x = u) -> ∃ Y2 : Value -> Hp -> Ix Γ -> Prop, Yields P main S f (execOp ρ' oi) h' δ' Y2 /\ ∀ v2 h2 δ2, Y2 v2 h2 δ2 -> Z h2 /\ I v2 v h2 δ2)
    (hn : ∀ vi vj h2 δ2, I vi vj h2 δ2 -> Z h2 -> EA P main S f n ops Z z m l' k ((dj, vj) :: (di, vi) :: env) ds h2 δ2 R) : EA P main S f n ops Z z (m + 2) listed k env ds h δ R := by
  have wn : ∀ (e : Env) (o : Oper), o.guard = none -> wantE ops e o.guard = some true := fun e o ho => by rw [ho]; rfl
  refine EA.alt2 i j hr ?_ ?_
  · refine EAi.hands hi hli (wn _ _ gi) ti (.inl ⟨_, rfl, bi⟩) fun ρ hρ => ?_
    obtain ⟨Y1, y1, y2⟩ := h1 ρ hρ
    refine ⟨Y1, y1, fun v h' δ' hy => ?_⟩
    obtain ⟨z1, hs⟩ := y2 v h' δ' hy
    refine ⟨.inr z1, EA.onlyH j hj hri hij (wn _ _ gj) tj (.inl ⟨_, rfl, bj⟩) fun ρ' hρ' => ?_⟩
    obtain ⟨Y2, w1, w2⟩ := hs ρ' hρ'
    refine ⟨Y2, w1, fun v2 h2 δ2 hy2 => ?_⟩
    obtain ⟨z2, hI⟩ := w2 v2 h2 δ2 hy2
    exact ⟨.inr z2, hn _ _ _ _ hI z2⟩
  · refine EAi.hands hj hlj (wn _ _ gj) tj (.inl ⟨_, rfl, bj⟩) fun ρ hρ => ?_
    obtain ⟨Y1, y1, y2⟩ := h2 ρ hρ
    refine ⟨Y1, y1, fun v h' δ' hy => ?_⟩
    obtain ⟨z1, hs⟩ := y2 v h' δ' hy
    refine ⟨.inr z1, EA.onlyH i hi hrj hji (wn _ _ gi) ti (.inl ⟨_, rfl, bi⟩) fun ρ' hρ' => ?_⟩
    obtain ⟨Y2, w1, w2⟩ := hs ρ' hρ'
    refine ⟨Y2, w1, fun v2 h2 δ2 hy2 => ?_⟩
    obtain ⟨z2, hI⟩ := w2 v2 h2 δ2 hy2
    exact ⟨.inr z2, EA.swap (fun e => hne e.symm) (hn _ _ _ _ hI z2)⟩
end
section
variable {Γ : Type} {P : Program} {f : FuncId} {h : Hp} {δ : Ix Γ} {ty : TypeId} {pos : String} {af : Array Edge} {g : Option (Nat × Bool)}
theorem sem_build1 {S : Sit Γ} {t e sz by_ : Nat} {z : Value} {ps : Array (Nat × Operand)} {parts : List (Nat × Value)} {cells : Array Value} [hinf : Inf P e sz by_ z] [hu : Und P t (.slice e)] {env : Env} {ρ : Operand -> Value} {dst : Option Nat} {Q : Next -> Hp -> Ix Γ -> Prop} {X : Value -> Hp -> Ix Γ -> Prop}
    (hρ : ∀ x v, ev env x = some v -> ρ x = v) (hp : evP env ps.toList = some parts) (hsz : 0 < sz) (hsz2 : sz <= 1000000) (hz : z.cells.size = sz) (hf : Instr.fill (fun i => some (i * sz, sz)) z.cells parts = some cells) (hLo : S.lone δ.g)
    (hq : Q (.value (.slice (some ⟨h.size, 0, none⟩) 1 1)) (h.push (.cells cells e)) δ) : SemW P S (execOp ρ ⟨dst, .buildSlice t 1 ps, ty, pos, af, g⟩) h δ Q X := by
  have e1 : (ps.map fun (i, x) => (i, ρ x)) = parts.toArray := by
    obtain ⟨ps⟩ := ps
    simp only [List.map_toArray]
    rw [<- evP_ok hρ ps parts hp]
  unfold execOp
  dsimp only
  rw [e1]
  refine semW_bind _ _ _ _ _ _ ?_
  obtain ⟨inf, hi1, hi2, hi3, hi4⟩ := hinf.get
  unfold Instr.buildSlice
  refine semW_underlying hu.out ?_
  refine semW_sizeOf hi1 ?_
  rw [hi2, if_neg (by omega), if_neg (by omega)]
  refine semW_zeroValue hi1 hi4 ?_
  refine semW_pureBind ?_
  have hf' : Instr.fill (fun i => some (i * sz, sz)) ((Array.range (1 * sz)).map (z.cells[· % z.cells.size]!)) parts.toArray.toList = some cells := by rw [zeros1 hz]; exact hf
  dsimp only
  rw [hf']
  exact ⟨⟨hLo, thawed⟩, hq⟩
theorem Upd.pad (T : Nat -> Prop) {N : Nat} (hN : h.size <= N) : Upd T h (padTo h N) := ⟨by rw [padTo_size hN]; exact hN, fun b hb _ => by unfold padTo; exact Array.getElem?_append_left hb⟩
variable {X : Fp Γ} {i : Nat}
theorem make_w : ∀ g h δ Y, Make P false X i g h δ Y -> (SitW P X i).yld g h δ Y := fun _ _ _ _ z => .inl z
theorem yields_build {t e sz by_ : Nat} {z : Value} {ps : Array (Nat × Operand)} {parts : List (Nat × Value)} {cells : Array Value} [hinf : Inf P e sz by_ z] [hu : Und P t (.slice e)] {env : Env} {ρ : Operand -> Value} {dst : Option Nat}
    (hnd : 0 < i -> ¬ X.done i δ.g /\ X.fin δ.g i = none) (hρ : ∀ x v, ev env x = some v -> ρ x = v) (hp : evP env ps.toList = some parts) (hsz : 0 < sz) (hsz2 : sz <= 1000000) (hz : z.cells.size = sz) (hf : Instr.fill (fun i => some (i * sz, sz)) z.cells parts = some cells) :
    Yields P false (SitW P X i) f (execOp ρ ⟨dst, .buildSlice t 1 ps, ty, pos, af, g⟩) h δ (fun v h' δ' => δ' = δ /\ ∃ N, h.size <= N /\ v = .slice (some ⟨N, 0, none⟩) 1 1 /\ h' = (padTo h N).push (.cells cells e)) :=
  yields_make (X := X) (i := i) make_w hnd fun N hN => sem_build1 hρ hp hsz hsz2 hz hf True.intro ⟨_, .inl rfl, rfl, rfl, N, hN, by rw [padTo_size hN], rfl⟩
theorem yields_append {t e sz by_ : Nat} {z : Value} [hinf : Inf P e sz by_ z] [hu : Und P t (.slice e)] {s x : Value} {a b : Operand} {m c' b' e' : Nat} {fz : Nat × Nat} {cells new : List Value} {ρ : Operand -> Value} {dst : Option Nat}
    (hnd : 0 < i -> ¬ X.done i δ.g /\ X.fin δ.g i = none) (ha : ρ a = s) (hb : ρ b = x)
    (hs : SliceO h s e sz m cells) (hx : x = .slice (some ⟨b', 0, none⟩) 1 c') (hb' : h[b']? = some (.cells new.toArray e' fz)) (hnew : new.length = sz) (hone : ∀ v ∈ new, OneCell v) (hfit : (m + 1) * by_ <= 140737488355328) (hm : m < 1000000000000) (hz : z.cells.size = sz) (hS : ∀ b, blk s = some b -> ¬ (X.cf δ.g).ro b) :
    Yields P false (SitW P X i) f (execOp ρ ⟨dst, .call { callee := .builtin .append, args := #[a, b], argTypes := #[t, t] }, ty, pos, af, g⟩) h δ (fun v h' δ' => δ' = δ /\ SliceO h' v e sz (m + 1) (cells ++ new) /\ Upd (fun b => blk s = some b) h h' /\ ∀ b, blk v = some b -> blk s = some b \/ h.size <= b) := by
  refine yields_make (X := X) (i := i) make_w hnd fun N hN => ?_
  have up := Upd.pad (h := h) (fun _ => False) hN
  refine sem_builtin (vs := #[s, x]) (by simp [ha, hb]) fun cs => ?_
  show SemW P (MakeS X) (Builtin.append_ #[t, t] ty #[s, x] >>= fun v => pure (Next.value v)) (padTo h N) δ _ _
  refine semW_bind _ _ _ _ _ _ (sem_append1 (hs.upd up fun _ _ z => z) hx (up.get hb' fun z => z) hnew hone hfit hm hz (fun b o hb => hS b hb) (fun s' h' h1 h2 h3 => ?_) True.intro (fun z => z))
  refine ⟨s', .inl rfl, rfl, rfl, h1, ?_, fun b hb => ?_⟩
  · exact (Upd.pad _ hN).trans h2
  · rcases h3 b hb with h4 | h4
    · exact .inl h4
    · rw [padTo_size hN] at h4; exact .inr (by omega)
end
end
end Go.TJ
namespace Go.Proofs.Ytakioblpgmjdaaa
section
open Go Go.TJ Go.Proofs
variable [Dm]
structure Kw where
  vM : Nat
  vS : Nat
  vP : Nat
  vQ : Nat
  sb : Nat
  ib : Nat
def intv (x : Int) : Value := .int .i64 x
section
variable {h : Hp} {δ : Ix (Gf Sy)} {i : Nat} {c : Sc} {hn : Option Nat} {s : Option (Nat × Int)} {w : Int} {pu po : List Int} {bd : Nat} {sp sq : Value} {y : Sy}
theorem range_get {n j : Nat} {g : Nat -> Value} (h : j < n) : (((List.range n).map g).toArray)[j]? = some (g j) := by simp [h]
theorem app_ok {h' h5 h6 : Hp} {s1 s2 v : Value} {l1 l2 : List Int} {N : Nat} {o : Obj} {z : Int} (u : Upd (fun _ => False) h h') (x1 : SliceO h' s1 2 1 l1.length (l1.map intv)) (x2 : SliceO h' s2 2 1 l2.length (l2.map intv)) (b1 : ∀ b, blk s1 = some b -> h.size <= b) (ne : ∀ b, blk s1 = some b -> blk s2 ≠ some b) (hN : h'.size <= N) (e5 : h5 = (padTo h' N).push o)
    (x6 : SliceO h6 v 2 1 (l1.length + 1) (l1.map intv ++ [intv z])) (u6 : Upd (fun b => blk s1 = some b) h5 h6) (b6 : ∀ b, blk v = some b -> blk s1 = some b \/ h5.size <= b) :
    Upd (fun _ => False) h h6 /\ SliceO h6 v 2 1 (l1 ++ [z]).length ((l1 ++ [z]).map intv) /\ SliceO h6 s2 2 1 l2.length (l2.map intv) /\ (∀ b, blk v = some b -> h.size <= b) /\ (∀ b, blk v = some b -> blk s2 ≠ some b) := by
  have u5 : Upd (fun _ => False) h' h5 := by rw [e5]; exact (Upd.pad _ hN).trans (Upd.push _ _)
  have z5 := u5.size
  have z0 := u.size
  refine ⟨(u.trans u5).over u6 b1, ?_, (x2.upd u5 fun _ _ z => z).upd u6 fun b hb hb' => ne b hb' hb, fun b hb => ?_, fun b hb hb' => ?_⟩
  · rw [List.length_append, List.map_append]
    exact x6
  · rcases b6 b hb with h4 | h4
    · exact b1 b h4
    · omega
  · rcases b6 b hb with h4 | h4
    · exact ne b h4 hb'
    · have := x2.lt hb'
      omega
end
end
section
open Go Go.TJ Go.Proofs
variable [Dm]
abbrev Key := Nat × Nat × Nat
abbrev kTop : Key := (0, 0, 0)
abbrev kLvs : Key := (1, 0, 0)
abbrev kLev (i : Nat) : Key := (2, i + 1, 0)
abbrev kPls (i : Nat) : Key := (3, i + 1, 0)
abbrev kTk : Key := (4, 0, 0)
abbrev kIn (i : Nat) : Key := (5, i + 1, 0)
abbrev kOut (i : Nat) : Key := (6, i + 1, 0)
abbrev kTurn (i j : Nat) : Key := (7, i + 1, j)
abbrev kTick (i j : Nat) : Key := (8, i + 1, j)
abbrev kSlot (i j : Nat) : Key := (9, i + 1, j)
structure PG where
  L : Nat
  m : Nat
  capL : Nat
  capP : Nat -> Nat
  rL : List Value
  rP : Nat -> List Value
  B : Key -> Nat
def okP (L m : Nat) : Key -> Prop
  | (0, 0, 0) => True
  | (1, 0, 0) => True
  | (2, i + 1, 0) => i < L
  | (3, i + 1, 0) => i < L
  | (4, 0, 0) => True
  | (5, i + 1, 0) => i < L
  | (6, i + 1, 0) => i < L
  | (7, i + 1, j) => i < L /\ j < m
  | (8, i + 1, j) => i < L /\ j < m
  | (9, i + 1, j) => i < L /\ j < m
  | _ => False
def priO (G : PG) (v : Key -> Int) : Key -> Obj
  | (0, _, _) => .cells #[ptr (G.B kTk), .slice (some ⟨G.B kLvs, 0, none⟩) G.L G.capL] 140 (0, 0)
  | (1, _, _) => .cells (((List.range G.L).map fun i => ptr (G.B (kLev i))) ++ G.rL).toArray 141 (0, 0)
  | (2, 0, _) => cellO 0
  | (2, i + 1, _) => .cells #[ptr (G.B (kIn i)), ptr (G.B (kOut i)), .slice (some ⟨G.B (kPls i), 0, none⟩) G.m (G.capP i)] 144 (0, 0)
  | (3, 0, _) => cellO 0
  | (3, i + 1, _) => .cells (((List.range G.m).flatMap fun j => [ptr (G.B (kTurn i j)), ptr (G.B (kTick i j)), ptr (G.B (kSlot i j))]) ++ G.rP i).toArray 146 (0, 0)
  | k => cellO (v k)
abbrev priM (G : PG) (v : Key -> Int) : Mem Key := ⟨okP G.L G.m, G.B, priO G v⟩
abbrev Pri (h : Hp) (G : PG) (v : Key -> Int) : Prop := Rep h (priM G v)
def isV (k : Key) : Prop := 4 <= k.1
theorem priO_v {G : PG} {v : Key -> Int} {k : Key} (hk : isV k) : priO G v k = cellO (v k) := by
  obtain ⟨a, b, c⟩ := k
  unfold isV at hk
  dsimp only at hk
  rcases a with _ | _ | _ | _ | a
  · omega
  · omega
  · omega
  · omega
  · rfl
theorem priO_other {G : PG} {v v' : Key -> Int} {k : Key} (hk : ¬ isV k) : priO G v k = priO G v' k := by
  obtain ⟨a, b, c⟩ := k
  unfold isV at hk
  dsimp only at hk
  rcases a with _ | _ | _ | _ | a
  · rfl
  · rfl
  · rcases b with _ | b <;> rfl
  · rcases b with _ | b <;> rfl
  · omega
theorem Pri.val {h : Hp} {G : PG} {v : Key -> Int} (r : Pri h G v) {k : Key} (hk : okP G.L G.m k) (hv : isV k) : h[G.B k]? = some (cellO (v k)) := by
  have := r.has k hk
  rwa [show (priM G v).O k = cellO (v k) from priO_v hv] at this
theorem Pri.setv {h : Hp} {G : PG} {v : Key -> Int} (r : Pri h G v) {k : Key} (hk : okP G.L G.m k) (hv : isV k) (x : Int) : Pri (h.setIfInBounds (G.B k) (cellO x)) G (ut v k x) := by
  refine (Rep.set r hk (cellO x)).congr (fun _ y => y) (fun _ _ => rfl) (fun j _ => ?_)
  show priO G (ut v k x) j = ut (priO G v) k (cellO x) j
  by_cases e : j = k
  · subst e; rw [ut_same, priO_v hv, ut_same]
  · rw [ut_ne _ _ e]
    by_cases hj : isV j
    · rw [priO_v hj, priO_v hj, ut_ne _ _ e]
    · exact priO_other hj
theorem flat3_get {G : PG} {i j : Nat} : ∀ {m : Nat}, j < m -> ∀ t, t < 3 -> ((List.range m).flatMap fun j => [ptr (G.B (kTurn i j)), ptr (G.B (kTick i j)), ptr (G.B (kSlot i j))])[j * 3 + t]? = some (ptr (G.B (7 + t, i + 1, j)))
  | 0, h, _, _ => by omega
  | m + 1, h, t, ht => by
    have hl : ∀ m, ((List.range m).flatMap fun j => [ptr (G.B (kTurn i j)), ptr (G.B (kTick i j)), ptr (G.B (kSlot i j))]).length = m * 3 := by
      intro m
      induction m with
      | zero => rfl
      | succ m ih => rw [List.range_succ, List.flatMap_append, List.length_append, ih]; simp; omega
    rw [List.range_succ, List.flatMap_append]
    by_cases e : j = m
    · subst e
      rw [List.getElem?_append_right (by rw [hl]; omega), hl, show j * 3 + t - j * 3 = t by omega]
      rcases t with _ | _ | _ | t
      · rfl
      · rfl
      · rfl
      · omega
    · have : j * 3 + t < m * 3 := by omega
      rw [List.getElem?_append_left (by rw [hl]; exact this)]
      exact flat3_get (by omega) t ht
section
variable {h : Hp} {G : PG} {v : Key -> Int}
theorem Pri.ptk (r : Pri h G v) : hcell h ⟨G.B kTop, 0, none⟩ = some (ptr (G.B kTk)) := r.cell (k := kTop) trivial rfl rfl
theorem Pri.plv (r : Pri h G v) : hcell h ⟨G.B kTop, 1, none⟩ = some (.slice (some ⟨G.B kLvs, 0, none⟩) G.L G.capL) := r.cell (k := kTop) trivial rfl rfl
theorem Pri.plev (r : Pri h G v) {i : Nat} (hi : i < G.L) : hcell h ⟨G.B kLvs, 0 + i * 1, none⟩ = some (ptr (G.B (kLev i))) := r.cell (k := kLvs) trivial rfl (by
  rw [show 0 + i * 1 = i by omega]
  simp [List.getElem?_append_left, hi])
theorem Pri.pin (r : Pri h G v) {i : Nat} (hi : i < G.L) : hcell h ⟨G.B (kLev i), 0, none⟩ = some (ptr (G.B (kIn i))) := r.cell (k := kLev i) hi rfl rfl
theorem Pri.pout (r : Pri h G v) {i : Nat} (hi : i < G.L) : hcell h ⟨G.B (kLev i), 1, none⟩ = some (ptr (G.B (kOut i))) := r.cell (k := kLev i) hi rfl rfl
theorem Pri.ppls (r : Pri h G v) {i : Nat} (hi : i < G.L) : hcell h ⟨G.B (kLev i), 2, none⟩ = some (.slice (some ⟨G.B (kPls i), 0, none⟩) G.m (G.capP i)) := r.cell (k := kLev i) hi rfl rfl
theorem Pri.pplace (r : Pri h G v) {i j t : Nat} (hi : i < G.L) (hj : j < G.m) (ht : t < 3) : hcell h ⟨G.B (kPls i), 0 + j * 3 + t, none⟩ = some (ptr (G.B (7 + t, i + 1, j))) := r.cell (k := kPls i) hi rfl (by
  have hlen : ((List.range G.m).flatMap fun j => [ptr (G.B (kTurn i j)), ptr (G.B (kTick i j)), ptr (G.B (kSlot i j))])[j * 3 + t]? = some (ptr (G.B (7 + t, i + 1, j))) := flat3_get hj t ht
  rw [show 0 + j * 3 + t = j * 3 + t by omega]
  simp only [List.getElem?_toArray]
  rw [List.getElem?_append_left (by rcases Nat.lt_or_ge (j * 3 + t) ((List.range G.m).flatMap fun j => [ptr (G.B (kTurn i j)), ptr (G.B (kTick i j)), ptr (G.B (kSlot i j))]).length with x | x
                                    · exact x
                                    · rw [List.getElem?_eq_none x] at hlen; cases hlen)]
  exact hlen)
end
theorem mask {x m e : Nat} (hm : m = 2 ^ e) (he : e <= 62) (hx : x < 4611686018427387904) : bits .and .i64 (x : Int) ((m : Int) - 1) = ((x % m : Nat) : Int) := by
  subst hm
  have := and_mask (x := (x : Int)) he (by omega) (by omega)
  rw [show ((2 ^ e : Nat) : Int) = 2 ^ e by simp, this]
  simp
section
variable {Γ : Type} {main : Bool} {h : Hp} {δ : Ix Γ} {G : PG} {v : Key -> Int}
theorem at_ok {i p e : Nat} (r : Pri h G v) (hi : i < G.L) (hm : G.m = 2 ^ e) (he : e <= 12) (hp : p < 4611686018427387904) :
    CallW Try.prog main NoS 84 #[ptr (G.B (kLev i)), .int .i64 p] h δ (Ret (Det (.pointer (some ⟨G.B (kPls i), 0 + (p % G.m) * 3, none⟩)) h δ)) := by
  have hm0 : 0 < G.m := by rw [hm]; exact Nat.two_pow_pos e
  have hm1 : G.m <= 4096 := by have := Nat.pow_le_pow_right (n := 2) (by decide) he; omega
  have hlt : p % G.m < G.m := Nat.mod_lt _ hm0
  refine CallW.start (n := 18) rfl rfl ?_
  (repeat (first | refine EK.seq ?_ | refine EK.region ?_ | refine ER.done ?_ | refine ER.assign rfl rfl rfl ?_))
  refine EK.regionAny (fun h' => h' = h) ?_
  have hZ : h = h := rfl
  have hc := r.ppls hi
  refine EA.tMove 0 rfl (by kernel_rfl) rfl rfl rfl rfl hZ ?_
  refine EA.tNil 1 rfl (by kernel_rfl) rfl rfl rfl rfl hZ ?_
  refine EA.tField 2 rfl (by kernel_rfl) rfl rfl rfl rfl hZ ?_
  refine EA.tLoad 3 rfl (by kernel_rfl) rfl rfl rfl rfl (fun _ hz => hz ▸ hc) hZ ?_
  refine EA.tMove 4 rfl (by kernel_rfl) rfl rfl rfl rfl hZ ?_
  refine EA.tMove 5 rfl (by kernel_rfl) rfl rfl rfl rfl hZ ?_
  refine EA.tNil 6 rfl (by kernel_rfl) rfl rfl rfl rfl hZ ?_
  refine EA.tField 7 rfl (by kernel_rfl) rfl rfl rfl rfl hZ ?_
  refine EA.tLoad 8 rfl (by kernel_rfl) rfl rfl rfl rfl (fun _ hz => hz ▸ hc) hZ ?_
  refine EA.tLen1 9 rfl (by kernel_rfl) rfl rfl rfl rfl hZ ?_
  refine EA.tSub (kd := .i64) 10 rfl (by kernel_rfl) rfl rfl rfl rfl rfl (i64_in (by omega) (by omega)) hZ ?_
  refine EA.tBinI (kd := .i64) (v := .int .i64 ((p % G.m : Nat) : Int)) 11 rfl (by kernel_rfl) rfl rfl rfl rfl rfl (by rw [binOp_bits (.inl rfl), mask hm (by omega) hp]) hZ ?_
  refine EA.tIdxS 12 rfl (by kernel_rfl) rfl rfl rfl rfl rfl (by omega) (by omega) hZ ?_
  refine EA.tAssign 13 rfl (by kernel_rfl) rfl rfl rfl rfl hZ ?_
  refine EA.done (by kernel_rfl) ?_
  (repeat refine EK.ret ?_)
  exact EU.ret1 rfl rfl det
theorem vv {a b c : Nat} (h : 4 <= a) : isV (a, b, c) := h
abbrev PFree (S : Sit Γ) (γ : Γ) (G : PG) : Prop := ∀ k o, okP G.L G.m k -> ¬ NoS.still γ ⟨G.B k, o, none⟩
theorem Pri.own (_ : Pri h G v) {k : Key} (hk : okP G.L G.m k) : (priM G v).Own (G.B k) := ⟨k, hk, rfl⟩
abbrev PSet (G : PG) (v : Key -> Int) (h : Hp) (δ : Ix Γ) (k : Key) (y : Int) (w : Value) : Value -> Hp -> Ix Γ -> Prop := fun w' h' δ' => w' = w /\ δ' = δ /\ Pri h' G (ut v k y) /\ Upd (priM G v).Own h h'
theorem pload {k : Key} {x : Int} (r : Pri h G v) (hk : okP G.L G.m k) (hv : isV k) (hx : v k = x) : CallW Try.prog main NoS 23 #[ptr (G.B k), .pointer none] h δ (Ret (Det (.int .i64 x) h δ)) :=
  cload (hx ▸ r.val hk hv)
theorem pstore {k : Key} {y : Int} (r : Pri h G v) (hk : okP G.L G.m k) (hv : isV k) (hS : PFree NoS δ.g G) : CallW Try.prog main NoS 22 #[ptr (G.B k), .pointer none, .int .i64 y] h δ (Ret (PSet G v h δ k y (.tuple #[]))) :=
  (cstore (r.val hk hv) (fun o => hS k o hk)).conseq (by rintro _ _ _ ⟨rfl, rfl, rfl⟩; exact ⟨rfl, rfl, r.setv hk hv y, Upd.set _ _ _ (r.own hk)⟩)
theorem padd {k : Key} {x y z : Int} (r : Pri h G v) (hk : okP G.L G.m k) (hv : isV k) (hx : v k = x) (hz : IntKind.i64.wrap (x + y) = z) (hS : PFree NoS δ.g G) : CallW Try.prog main NoS 71 #[ptr (G.B k), .pointer none, .int .i64 y] h δ (Ret (PSet G v h δ k z (.int .i64 z))) :=
  (cadd hz (hx ▸ r.val hk hv) (fun o => hS k o hk)).conseq (by rintro _ _ _ ⟨rfl, rfl, rfl⟩; exact ⟨rfl, rfl, r.setv hk hv z, Upd.set _ _ _ (r.own hk)⟩)
theorem pcas {k : Key} {x y : Int} (r : Pri h G v) (hk : okP G.L G.m k) (hv : isV k) (hx : v k = x) (hS : PFree NoS δ.g G) : CallW Try.prog main NoS 65 #[ptr (G.B k), .pointer none, .int .i64 x, .int .i64 y] h δ (Ret (PSet G v h δ k y (.bool true))) :=
  (ccas_yes (hx ▸ r.val hk hv) (fun o => hS k o hk)).conseq (by rintro _ _ _ ⟨rfl, rfl, rfl⟩; exact ⟨rfl, rfl, r.setv hk hv y, Upd.set _ _ _ (r.own hk)⟩)
theorem claim_ok {i I e : Nat} (r : Pri h G v) (hi : i < G.L) (hm : G.m = 2 ^ e) (he : e <= 12) (hI : v (kIn i) = I) (hIb : I < 2305843009213693952) (hfree : v (kTurn i (I % G.m)) = I) (hS : PFree NoS δ.g G) :
    CallW Try.prog main NoS 83 #[ptr (G.B (kLev i)), .pointer none] h δ (Ret (PSet G v h δ (kIn i) ((I : Int) + 1) (.tuple #[.int .i64 I, .bool true]))) := by
  have hm0 : 0 < G.m := by rw [hm]; exact Nat.two_pow_pos e
  have hlt : I % G.m < G.m := Nat.mod_lt _ hm0
  refine CallW.start (n := 42) rfl rfl ?_
  (repeat (first | refine EK.seq ?_ | refine EK.region ?_ | refine ER.done ?_ | refine EK.block ?_ | refine ER.assign rfl rfl rfl ?_))
  refine EK.loop ?_
  (repeat (first | refine EK.seq ?_ | refine EK.region ?_ | refine EK.block ?_ | refine ER.move rfl rfl rfl ?_ | refine ER.nilCheck rfl rfl rfl ?_ | refine ER.fieldAddr rfl rfl rfl ?_))
  refine ER.load1 rfl rfl rfl (r.pin hi) ?_
  (repeat refine ER.move rfl rfl rfl ?_)
  refine ER.callD rfl rfl rfl rfl rfl (pload r (k := kIn i) hi (vv (by omega)) hI) ?_
  (repeat (first | refine EK.seq ?_ | refine EK.region ?_ | refine ER.done ?_ | refine ER.move rfl rfl rfl ?_ | refine ER.assign rfl rfl rfl ?_))
  refine ER.callD rfl rfl rfl rfl rfl (at_ok r hi hm he (by omega)) ?_
  (repeat (first | refine ER.nilCheck rfl rfl rfl ?_ | refine ER.fieldAddr rfl rfl rfl ?_))
  refine ER.load1 rfl rfl rfl (r.pplace (t := 0) hi hlt (by omega)) ?_
  (repeat refine ER.move rfl rfl rfl ?_)
  refine ER.callD rfl rfl rfl rfl rfl (pload r (k := kTurn i (I % G.m)) ⟨hi, hlt⟩ (vv (by omega)) hfree) ?_
  (repeat (first | refine EK.seq ?_ | refine EK.region ?_ | refine ER.done ?_ | refine EK.block ?_ | refine ER.move rfl rfl rfl ?_ | refine ER.assign rfl rfl rfl ?_ | refine ER.nilCheck rfl rfl rfl ?_ | refine ER.fieldAddr rfl rfl rfl ?_ | refine ER.cmpT rfl rfl rfl rfl rfl (by first | (dsimp only [cmpP]; omega) | exact rfl | exact Int.le_refl _) ?_ | refine ER.cmpF rfl rfl rfl rfl rfl (by first | (dsimp only [cmpP]; omega) | exact rfl | exact Int.le_refl _) ?_ | refine ER.sub' (kd := .i64) rfl rfl rfl rfl (i64_in (by omega) (by omega)) ?_ | refine EK.condF rfl ?_))
  refine ER.load1 rfl rfl rfl (r.pin hi) ?_
  (repeat (first | refine ER.move rfl rfl rfl ?_ | refine ER.add (kd := .i64) rfl rfl rfl rfl (i64_in (by omega) (by omega)) ?_))
  refine ER.callR rfl rfl rfl rfl rfl (pcas r (k := kIn i) hi (vv (by omega)) hI hS) ?_
  rintro _ h1 δ1 ⟨rfl, hδ, r1, u1⟩
  (repeat (first | refine EK.seq ?_ | refine EK.region ?_ | refine ER.done ?_ | refine ER.move rfl rfl rfl ?_ | refine ER.assign rfl rfl rfl ?_ | refine ER.pickT rfl rfl rfl rfl ?_ | refine EK.condT rfl ?_ | refine EK.ret ?_))
  exact EU.ret2 rfl rfl rfl ⟨rfl, hδ, r1, u1⟩
theorem put_arg {on : Int} {t x : Value} (r : Pri h G v) (ho : on < 0 \/ (G.L : Int) <= on) :
    CallW Try.prog main NoS 56 #[ptr (G.B kTop), t, .int .i64 on, x] h δ (Ret (Det (.int .i64 1) h δ)) := by
  refine CallW.start (n := 87) rfl rfl ?_
  (repeat (first | refine EK.seq ?_ | refine EK.region ?_ | refine ER.done ?_ | refine ER.move rfl rfl rfl ?_ | refine ER.assign rfl rfl rfl ?_ | refine ER.nilCheck rfl rfl rfl ?_ | refine ER.fieldAddr rfl rfl rfl ?_ | refine ER.eqV rfl rfl rfl rfl rfl ?_))
  refine ER.load1 rfl rfl rfl r.ptk ?_
  by_cases h0 : on < 0
  · (repeat (first | refine EK.seq ?_ | refine EK.region ?_ | refine ER.done ?_ | refine EK.skip ?_ | refine ER.move rfl rfl rfl ?_ | refine ER.assign rfl rfl rfl ?_ | refine ER.no rfl rfl ?_ | refine ER.eqV rfl rfl rfl rfl rfl ?_ | refine ER.pickT rfl rfl rfl rfl ?_ | refine ER.pickF rfl rfl rfl rfl ?_ | refine ER.cmpT rfl rfl rfl rfl rfl (by first | (dsimp only [cmpP]; omega) | exact rfl | exact Int.le_refl _) ?_ | refine EK.condT rfl ?_ | refine EK.condF rfl ?_ | refine EK.ret ?_))
    exact EU.ret1 rfl rfl det
  · have h1 : (G.L : Int) <= on := ho.resolve_left h0
    (repeat (first | refine EK.seq ?_ | refine EK.region ?_ | refine ER.done ?_ | refine EK.skip ?_ | refine ER.move rfl rfl rfl ?_ | refine ER.nilCheck rfl rfl rfl ?_ | refine ER.fieldAddr rfl rfl rfl ?_ | refine ER.eqV rfl rfl rfl rfl rfl ?_ | refine ER.pickF rfl rfl rfl rfl ?_ | refine ER.cmpF rfl rfl rfl rfl rfl (by first | (dsimp only [cmpP]; omega) | exact rfl | exact Int.le_refl _) ?_ | refine EK.condF rfl ?_))
    refine ER.load1 rfl rfl rfl r.plv ?_
    (repeat (first | refine EK.seq ?_ | refine EK.region ?_ | refine ER.done ?_ | refine ER.assign rfl rfl rfl ?_ | refine ER.pickF rfl rfl rfl rfl ?_ | refine ER.cmpT rfl rfl rfl rfl rfl (by first | (dsimp only [cmpP]; omega) | exact rfl | exact Int.le_refl _) ?_ | refine ER.len1 rfl rfl rfl ?_ | refine EK.condT rfl ?_ | refine EK.ret ?_))
    exact EU.ret1 rfl rfl det
def putV (m : Nat) (v : Key -> Int) (i I : Nat) (K x : Int) : Key -> Int :=
  ut (ut (ut (ut (ut v (kIn i) ((I : Int) + 1)) kTk (K + 1)) (kTick i (I % m)) (K + 1)) (kSlot i (I % m)) x) (kTurn i (I % m)) ((I : Int) + 1)
set_option maxHeartbeats 1000000 in
theorem put_ok {i I e : Nat} {K x : Int} (r : Pri h G v) (hi : i < G.L) (hm : G.m = 2 ^ e) (he : e <= 12) (hI : v (kIn i) = I) (hIb : I < 2305843009213693952) (hfree : v (kTurn i (I % G.m)) = I) (hK : v kTk = K) (hK0 : 0 <= K) (hK1 : K < 2305843009213693952) (hS : PFree NoS δ.g G) :
    CallW Try.prog main NoS 56 #[ptr (G.B kTop), .pointer none, .int .i64 i, .int .i64 x] h δ (Ret fun w h' δ' => w = .int .i64 0 /\ δ' = δ /\ Pri h' G (putV G.m v i I K x) /\ Upd (priM G v).Own h h') := by
  have hm0 : 0 < G.m := by rw [hm]; exact Nat.two_pow_pos e
  have hlt : I % G.m < G.m := Nat.mod_lt _ hm0
  refine CallW.start (n := 87) rfl rfl ?_
  (repeat (first | refine EK.seq ?_ | refine EK.region ?_ | refine ER.done ?_ | refine ER.move rfl rfl rfl ?_ | refine ER.assign rfl rfl rfl ?_ | refine ER.nilCheck rfl rfl rfl ?_ | refine ER.fieldAddr rfl rfl rfl ?_ | refine ER.eqV rfl rfl rfl rfl rfl ?_))
  refine ER.load1 rfl rfl rfl r.ptk ?_
  (repeat (first | refine EK.seq ?_ | refine EK.region ?_ | refine ER.done ?_ | refine EK.skip ?_ | refine ER.move rfl rfl rfl ?_ | refine ER.nilCheck rfl rfl rfl ?_ | refine ER.fieldAddr rfl rfl rfl ?_ | refine ER.eqV rfl rfl rfl rfl rfl ?_ | refine ER.pickF rfl rfl rfl rfl ?_ | refine ER.cmpF rfl rfl rfl rfl rfl (by first | (dsimp only [cmpP]; omega) | exact rfl | exact Int.le_refl _) ?_ | refine EK.condF rfl ?_))
  refine ER.load1 rfl rfl rfl r.plv ?_
  (repeat (first | refine EK.seq ?_ | refine EK.region ?_ | refine ER.done ?_ | refine EK.skip ?_ | refine ER.move rfl rfl rfl ?_ | refine ER.nilCheck rfl rfl rfl ?_ | refine ER.fieldAddr rfl rfl rfl ?_ | refine ER.pickF rfl rfl rfl rfl ?_ | refine ER.cmpF rfl rfl rfl rfl rfl (by first | (dsimp only [cmpP]; omega) | exact rfl | exact Int.le_refl _) ?_ | refine ER.len1 rfl rfl rfl ?_ | refine EK.condF rfl ?_))
  refine ER.load1 rfl rfl rfl r.plv ?_
  (repeat (first | refine ER.move rfl rfl rfl ?_ | refine ER.indexSl rfl rfl rfl rfl (by omega) (by omega) ?_))
  refine ER.load1 rfl rfl rfl (r.plev hi) ?_
  refine ER.makeF rfl rfl rfl rfl rfl rfl ?_
  (repeat (first | refine EK.seq ?_ | refine EK.region ?_ | refine ER.done ?_ | refine ER.move rfl rfl rfl ?_ | refine ER.assign rfl rfl rfl ?_))
  refine ER.callFR rfl rfl rfl rfl rfl (claim_ok r hi hm he hI hIb hfree hS) ?_
  rintro _ h1 δ1 ⟨rfl, rfl, r1, u1⟩
  (repeat (first | refine EK.seq ?_ | refine EK.region ?_ | refine ER.done ?_ | refine EK.skip ?_ | refine ER.move rfl rfl rfl ?_ | refine ER.assign rfl rfl rfl ?_ | refine ER.nilCheck rfl rfl rfl ?_ | refine ER.fieldAddr rfl rfl rfl ?_ | refine ER.notB rfl rfl rfl ?_ | refine ER.extract rfl rfl rfl rfl ?_ | refine EK.condF rfl ?_))
  refine ER.load1 rfl rfl rfl r1.plv ?_
  (repeat (first | refine ER.move rfl rfl rfl ?_ | refine ER.indexSl rfl rfl rfl rfl (by omega) (by omega) ?_))
  refine ER.load1 rfl rfl rfl (r1.plev hi) ?_
  (repeat refine ER.move rfl rfl rfl ?_)
  refine ER.callD rfl rfl rfl rfl rfl (at_ok r1 hi hm he (by omega)) ?_
  (repeat (first | refine EK.seq ?_ | refine EK.region ?_ | refine ER.done ?_ | refine ER.move rfl rfl rfl ?_ | refine ER.assign rfl rfl rfl ?_ | refine ER.nilCheck rfl rfl rfl ?_ | refine ER.fieldAddr rfl rfl rfl ?_))
  refine ER.load1 rfl rfl rfl r1.ptk ?_
  (repeat refine ER.move rfl rfl rfl ?_)
  refine ER.callR rfl rfl rfl rfl rfl (padd (z := K + 1) r1 (k := kTk) trivial (vv (by omega)) ((ut_ne _ _ (by simp)).trans hK) (i64_in (by omega) (by omega)) hS) ?_
  rintro _ h2 δ2 ⟨rfl, rfl, r2, u2⟩
  (repeat (first | refine EK.seq ?_ | refine EK.region ?_ | refine ER.done ?_ | refine ER.move rfl rfl rfl ?_ | refine ER.assign rfl rfl rfl ?_ | refine ER.nilCheck rfl rfl rfl ?_ | refine ER.fieldAddr rfl rfl rfl ?_))
  refine ER.load1 rfl rfl rfl (r2.pplace (t := 1) hi hlt (by omega)) ?_
  (repeat refine ER.move rfl rfl rfl ?_)
  refine ER.callR rfl rfl rfl rfl rfl (pstore r2 (k := kTick i (I % G.m)) ⟨hi, hlt⟩ (vv (by omega)) hS) ?_
  rintro _ h3 δ3 ⟨rfl, rfl, r3, u3⟩
  (repeat (first | refine EK.seq ?_ | refine EK.region ?_ | refine ER.done ?_ | refine ER.move rfl rfl rfl ?_ | refine ER.nilCheck rfl rfl rfl ?_ | refine ER.fieldAddr rfl rfl rfl ?_))
  refine ER.load1 rfl rfl rfl (r3.pplace (t := 2) hi hlt (by omega)) ?_
  (repeat refine ER.move rfl rfl rfl ?_)
  refine ER.callR rfl rfl rfl rfl rfl (pstore r3 (k := kSlot i (I % G.m)) ⟨hi, hlt⟩ (vv (by omega)) hS) ?_
  rintro _ h4 δ4 ⟨rfl, rfl, r4, u4⟩
  (repeat (first | refine EK.seq ?_ | refine EK.region ?_ | refine ER.done ?_ | refine ER.move rfl rfl rfl ?_ | refine ER.nilCheck rfl rfl rfl ?_ | refine ER.fieldAddr rfl rfl rfl ?_))
  refine ER.load1 rfl rfl rfl (r4.pplace (t := 0) hi hlt (by omega)) ?_
  (repeat (first | refine ER.move rfl rfl rfl ?_ | refine ER.add (kd := .i64) rfl rfl rfl rfl (i64_in (by omega) (by omega)) ?_))
  refine ER.callR rfl rfl rfl rfl rfl (pstore r4 (k := kTurn i (I % G.m)) ⟨hi, hlt⟩ (vv (by omega)) hS) ?_
  rintro _ h5 δ5 ⟨rfl, rfl, r5, u5⟩
  (repeat (first | refine EK.seq ?_ | refine EK.region ?_ | refine ER.done ?_ | refine ER.assign rfl rfl rfl ?_ | refine EK.ret ?_))
  exact EU.ret1 rfl rfl ⟨rfl, rfl, r5, (((u1.trans u2).trans u3).trans u4).trans u5⟩
end
end
section
open Go Go.TJ Go.Proofs
variable [Dm]
abbrev Hd := Bool × Int × Int
def hrowH (x : Hd) : List Value := [.bool x.1, .int .i64 x.2.1, .int .i64 x.2.2]
def cellsH (H : Nat -> Hd) : List Value := (List.range 8).flatMap fun i => hrowH (H i)
def headsO (H : Nat -> Hd) : Obj := .cells (cellsH H).toArray 151 (0, 0)
theorem cellsH_len (H : Nat -> Hd) : (cellsH H).length = 24 := rfl
theorem lt8 {i : Nat} (hi : i < 8) : i = 0 \/ i = 1 \/ i = 2 \/ i = 3 \/ i = 4 \/ i = 5 \/ i = 6 \/ i = 7 := by omega
theorem cellsH_get (H : Nat -> Hd) {i t : Nat} (hi : i < 8) (ht : t < 3) : (cellsH H)[i * 3 + t]? = (hrowH (H i))[t]? := by
  have h3 : t = 0 \/ t = 1 \/ t = 2 := by omega
  rcases lt8 hi with rfl | rfl | rfl | rfl | rfl | rfl | rfl | rfl <;> rcases h3 with rfl | rfl | rfl <;> rfl
theorem cellsH_set (H : Nat -> Hd) {i : Nat} (hi : i < 8) (x : Hd) : (cellsH H).take (i * 3) ++ hrowH x ++ (cellsH H).drop (i * 3 + 3) = cellsH (up H i x) := by
  rcases lt8 hi with rfl | rfl | rfl | rfl | rfl | rfl | rfl | rfl <;> rfl
theorem cellsH_one (H : Nat -> Hd) : ∀ v ∈ cellsH H, OneCell v := by
  intro v hv
  obtain ⟨i, _, hi⟩ := List.mem_flatMap.mp hv
  simp only [hrowH, List.mem_cons, List.not_mem_nil, or_false] at hi
  rcases hi with rfl | rfl | rfl <;> exact ⟨nofun, nofun⟩
theorem heads_row {h : Hp} {b : Nat} {H : Nat -> Hd} (hb : h[b]? = some (headsO H)) {i : Nat} (hi : i < 8) : hrow h b (0 + i * 3) (hrowH (H i)) := fun t v hv => by
  have ht : t < 3 := by
    rcases Nat.lt_or_ge t 3 with x | x
    · exact x
    · rw [List.getElem?_eq_none (by exact x)] at hv; cases hv
  refine hcell_of hb ?_
  simp only [List.getElem?_toArray]
  rw [show 0 + i * 3 + t = i * 3 + t by omega, cellsH_get H hi ht, hv]
theorem heads_all {h : Hp} {b : Nat} {H : Nat -> Hd} (hb : h[b]? = some (headsO H)) : hrow h b 0 (cellsH H) := hrow_block (rest := []) (by rw [List.append_nil]; exact hb)
theorem heads_put {h : Hp} {H : Nat -> Hd} {i : Nat} (hi : i < 8) (x : Hd) : hsetRow (h.push (headsO H)) h.size (0 + i * 3) (hrowH x) = h.push (headsO (up H i x)) := by
  unfold headsO
  rw [hsetRow_block (hrowH x) _ _ _ (get_push_new _ _) (by rw [cellsH_len]; show 0 + i * 3 + 3 <= 24; omega), push_set, Nat.zero_add]
  rw [<- cellsH_set H hi x]
  rfl
def hdF (G : PG) (v : Key -> Int) (oN : Nat -> Nat) (i q : Nat) : Hd :=
  if i <= q /\ q < G.L /\ v (kTurn q (oN q % G.m)) = oN q + 1 then (true, (oN q : Int), v (kTick q (oN q % G.m))) else (false, 0, 0)
def bst (H : Nat -> Hd) : Nat -> Option Nat
  | 0 => none
  | n + 1 => if (H n).1 = true /\ ∀ b, bst H n = some b -> 64 * ((n : Int) - b) > (H n).2.2 - (H b).2.2 then some n else bst H n
def bv : Option Nat -> Int
  | none => -1
  | some b => b
theorem bst_lt {H : Nat -> Hd} : ∀ {n b : Nat}, bst H n = some b -> b < n /\ (H b).1 = true
  | 0, _, h => by cases h
  | n + 1, b, h => by
    unfold bst at h
    split at h
    · rename_i hc; cases h; exact ⟨by omega, hc.1⟩
    · have := bst_lt h; exact ⟨by omega, this.2⟩
theorem hdF_step {G : PG} {v : Key -> Int} {oN : Nat -> Nat} {n : Nat} (h : n < G.L) : hdF G v oN n = up (hdF G v oN (n + 1)) n (if v (kTurn n (oN n % G.m)) = oN n + 1 then (true, (oN n : Int), v (kTick n (oN n % G.m))) else (false, 0, 0)) := by
  funext q
  by_cases e : q = n
  · subst e
    rw [up_same]
    unfold hdF
    by_cases e : v (kTurn q (oN q % G.m)) = oN q + 1
    · rw [if_pos ⟨Nat.le_refl _, h, e⟩, if_pos e]
    · rw [if_neg (fun x => e x.2.2), if_neg e]
  · rw [up_ne _ _ e]
    unfold hdF
    by_cases hq : n + 1 <= q
    · simp only [hq, show n <= q by omega, true_and]
    · rw [if_neg (fun x => by omega), if_neg (fun x => hq x.1)]
section
variable {Γ : Type} {main : Bool} {h : Hp} {δ : Ix Γ} {G : PG} {v : Key -> Int}
set_option maxRecDepth 8000 in
set_option maxHeartbeats 2000000 in
theorem looks_ok {e : Nat} {oN : Nat -> Nat} (r : Pri h G v) (hm : G.m = 2 ^ e) (he : e <= 12) (hL1 : 1 <= G.L) (hL : G.L <= 8) (hO : ∀ q, q < G.L -> v (kOut q) = oN q /\ oN q < 2305843009213693952)
    (hT : ∀ q j, q < G.L -> -2305843009213693952 <= v (kTick q j) /\ v (kTick q j) <= 2305843009213693952) (hF : ∀ b o, h.size <= b -> ¬ NoS.still δ.g ⟨b, o, none⟩) :
    CallW Try.prog main NoS 85 #[ptr (G.B kTop), .pointer none] h δ
      (Ret fun w h' δ' => δ' = δ /\ Upd (fun _ => False) h h' /\ w = .tuple #[.agg (cellsH (hdF G v oN 0)).toArray, .int .i64 (bv (bst (hdF G v oN 0) 8))]) := by
  have hm0 : 0 < G.m := by rw [hm]; exact Nat.two_pow_pos e
  have hH0 : hdF G v oN G.L = fun _ => (false, 0, 0) := by
    funext q; unfold hdF; rw [if_neg (by omega)]
  refine CallW.start (n := 88) rfl rfl ?_
  (repeat (first | refine EK.seq ?_ | refine EK.region ?_ | refine ER.done ?_ | refine ER.move rfl rfl rfl ?_ | refine ER.assign rfl rfl rfl ?_ | refine ER.nilCheck rfl rfl rfl ?_ | refine ER.fieldAddr rfl rfl rfl ?_ | refine ER.allocA rfl rfl ?_))
  have r1 : Pri (h.push (headsO (hdF G v oN G.L))) G v := r.upd0 (Upd.push _ _)
  change ER _ _ _ _ _ _ _ _ _ _ (h.push (headsO fun _ => (false, 0, 0))) _ _
  rw [<- hH0]
  refine ER.load1 rfl rfl rfl r1.plv ?_
  (repeat (first | refine ER.done ?_ | refine EK.block ?_ | refine ER.assign rfl rfl rfl ?_ | refine ER.sub' (kd := .i64) rfl rfl rfl rfl (i64_in (by omega) (by omega)) ?_ | refine ER.len1 rfl rfl rfl ?_))
  refine EK.loopInv (fun i : Nat => [(6, .int .i64 ((i : Int) - 1)), (0, ptr (G.B kTop)), (1, .pointer none), (4, ptr h.size), (5, .int .i64 0)]) (fun i h' δ' => h' = h.push (headsO (hdF G v oN i)) /\ δ' = δ /\ i <= G.L) (fun i => i) G.L ⟨rfl, rfl, rfl, rfl, rfl, trivial⟩ ⟨rfl, rfl, Nat.le_refl _⟩ ?_
  clear r1
  rintro i _ δi ⟨rfl, hδi, hi⟩ again
  obtain rfl : δ = δi := hδi.symm
  have r1 : Pri (h.push (headsO (hdF G v oN i))) G v := r.upd0 (Upd.push _ _)
  rcases i with _ | n
  · obtain ⟨H, hH⟩ : ∃ H, H = hdF G v oN 0 := ⟨_, rfl⟩
    rw [<- hH]
    have hTk : ∀ q, -2305843009213693952 <= (H q).2.2 /\ (H q).2.2 <= 2305843009213693952 := fun q => by
      rw [hH]; unfold hdF
      by_cases hc : 0 <= q /\ q < G.L /\ v (kTurn q (oN q % G.m)) = oN q + 1
      · rw [if_pos hc]; exact hT q _ hc.2.1
      · rw [if_neg hc]; exact ⟨by dsimp only; omega, by dsimp only; omega⟩
    have hb1 := get_push_new h (headsO H)
    have u1 : Upd (fun _ => False) h (h.push (headsO H)) := Upd.push _ _
    generalize h.push (headsO H) = h1 at hb1 u1 ⊢
    clear r1 again hi
    (repeat (first | refine EK.seq ?_ | refine EK.region ?_ | refine ER.done ?_ | refine EK.block ?_ | refine ER.move rfl rfl rfl ?_ | refine ER.assign rfl rfl rfl ?_ | refine ER.nilCheck rfl rfl rfl ?_ | refine ER.cmpF rfl rfl rfl rfl rfl (by first | (dsimp only [cmpP]; omega) | exact rfl | exact Int.le_refl _) ?_ | refine EK.condF rfl ?_ | refine EK.exit rfl ?_))
    refine EK.loopInv (fun n : Nat => [(58, .int .i64 n), (5, .int .i64 (bv (bst H n))), (0, ptr (G.B kTop)), (1, .pointer none), (4, ptr h.size)]) (fun n h' δ' => h'[h.size]? = some (headsO H) /\ Upd (fun _ => False) h h' /\ δ' = δ /\ n <= 8) (fun n => 8 - n) 0 ⟨rfl, rfl, rfl, rfl, rfl, trivial⟩ ⟨hb1, u1, rfl, by omega⟩ ?_
    clear hb1 u1
    rintro n h2 δ2 ⟨hb2, u2, hδ2, hn8⟩ again
    obtain rfl : δ = δ2 := hδ2.symm
    have hsz := u2.size
    by_cases hn : n < 8
    · (repeat (first | refine EK.seq ?_ | refine EK.region ?_ | refine ER.done ?_ | refine EK.skip ?_ | refine EK.block ?_ | refine ER.cmpT rfl rfl rfl rfl rfl (by first | (dsimp only [cmpP]; omega) | exact rfl | exact Int.le_refl _) ?_ | refine EK.condT rfl ?_))
      refine EK.regionAny (fun h' => hrow h' h.size (0 + n * 3) (hrowH (H n))) ?_
      have hZ := heads_row hb2 hn
      refine EA.tMove 0 rfl (by kernel_rfl) rfl rfl rfl rfl hZ ?_
      refine EA.tNil 1 rfl (by kernel_rfl) rfl rfl rfl rfl hZ ?_
      refine EA.tIdxA 2 rfl (by kernel_rfl) rfl rfl rfl rfl rfl (by omega) (by omega) hZ ?_
      refine EA.tLoadN (vs := hrowH (H n)) 3 rfl (by kernel_rfl) rfl rfl rfl rfl rfl (fun _ hz => hz) hZ ?_
      have hZ : hrow (h2.push (.cells #[.bool false, .int .i64 0, .int .i64 0] 150)) h.size (0 + n * 3) (hrowH (H n)) := fun i w hw => hcell_push (hZ i w hw)
      refine EA.val (v := ptr h2.size) (h' := h2.push (.cells #[.bool false, .int .i64 0, .int .i64 0] 150)) 4 rfl (by kernel_rfl) rfl rfl rfl (fun ρ Q X hρ hq => sem_allocA hq) hZ ?_
      refine EA.tAssign 5 rfl (by kernel_rfl) rfl rfl rfl rfl hZ ?_
      have hrs : hsetRow (h2.push (.cells #[.bool false, .int .i64 0, .int .i64 0] 150)) h2.size 0 (hrowH (H n)) = h2.push (.cells (hrowH (H n)).toArray 150) := hsetRow_push (c := [.bool false, .int .i64 0, .int .i64 0]) rfl
      have hlth := lt_of_get hb2
      refine EA.unit 6 rfl (by kernel_rfl) rfl rfl (fun ρ Q X hρ hq => sem_storeN (hρ _ _ rfl) (hρ _ _ rfl) rfl (by simp [hrowH, OneCell]) (fun j hj => ⟨?_, hfroz_of (get_push_new _ _), hF _ _ hsz⟩) hq) ?_ ?_
      · have hj3 : j < 3 := hj
        have hb := get_push_new h2 (.cells #[.bool false, .int .i64 0, .int .i64 0] 150 (0, 0))
        rcases (show j = 0 \/ j = 1 \/ j = 2 by omega) with rfl | rfl | rfl <;> exact ⟨_, hcell_of hb rfl⟩
      · rw [hrs]
        exact fun i w hw => hcell_push (heads_row hb2 hn i w hw)
      refine EA.done (by kernel_rfl) ?_
      rw [hrs]
      have hb3 := get_push (.cells (hrowH (H n)).toArray 150) hb2
      have hc3 := get_push_new h2 (.cells (hrowH (H n)).toArray 150)
      have u3 := u2.trans (Upd.push (T := fun _ => False) h2 (.cells (hrowH (H n)).toArray 150))
      generalize h2.push (.cells (hrowH (H n)).toArray 150) = h3 at hb3 hc3 u3 ⊢
      have c0 : hcell h3 ⟨h2.size, 0 + 0, none⟩ = some (.bool (H n).1) := hcell_of hc3 rfl
      have c2 : hcell h3 ⟨h2.size, 0 + 2, none⟩ = some (.int .i64 (H n).2.2) := hcell_of hc3 rfl
      clear hc3 hZ hb2 u2 hrs
      have hTn := hTk n
      have fin : ∀ o : Option Nat, bst H (n + 1) = o -> EK Try.prog main NoS 85 88 _ [(58, .int .i64 ((n : Int) + 1)), (5, .int .i64 (bv o)), (0, ptr (G.B kTop)), (1, .pointer none), (4, ptr h.size)] [] h3 δ _ := fun o ho => by
        subst ho
        exact EK.back (again (n + 1) _ _ (by omega) ⟨hb3, u3, rfl, by omega⟩) ⟨rfl, rfl, rfl, rfl, rfl, trivial⟩
      (repeat refine EK.seq ?_)
      refine EK.regionAny (fun h' => h' = h3) ?_
      have hZ : h3 = h3 := rfl
      refine EA.tField 0 rfl (by kernel_rfl) rfl rfl rfl rfl hZ ?_
      refine EA.tLoad 1 rfl (by kernel_rfl) rfl rfl rfl rfl (fun _ hz => hz ▸ c0) hZ ?_
      cases hthere : (H n).1
      · have hbn : bst H (n + 1) = bst H n := by
          show (if (H n).1 = true /\ _ then some n else bst H n) = _
          rw [if_neg (fun x => by rw [hthere] at x; cases x.1)]
        refine EA.tMove 2 rfl (by kernel_rfl) rfl rfl rfl rfl hZ ?_
        refine EA.takeNo 3 rfl (by kernel_rfl) rfl rfl rfl hZ ?_
        refine EA.takeNo 4 rfl (by kernel_rfl) rfl rfl rfl hZ ?_
        refine EA.takeNo 5 rfl (by kernel_rfl) rfl rfl rfl hZ ?_
        refine EA.takeNo 6 rfl (by kernel_rfl) rfl rfl rfl hZ ?_
        refine EA.takeNo 7 rfl (by kernel_rfl) rfl rfl rfl hZ ?_
        refine EA.takeNo 8 rfl (by kernel_rfl) rfl rfl rfl hZ ?_
        refine EA.takeNo 9 rfl (by kernel_rfl) rfl rfl rfl hZ ?_
        refine EA.takeNo 10 rfl (by kernel_rfl) rfl rfl rfl hZ ?_
        refine EA.takeNo 11 rfl (by kernel_rfl) rfl rfl rfl hZ ?_
        refine EA.takeNo 12 rfl (by kernel_rfl) rfl rfl rfl hZ ?_
        refine EA.takeNo 13 rfl (by kernel_rfl) rfl rfl rfl hZ ?_
        refine EA.takeNo 14 rfl (by kernel_rfl) rfl rfl rfl hZ ?_
        refine EA.takeNo 15 rfl (by kernel_rfl) rfl rfl rfl hZ ?_
        refine EA.takeNo 16 rfl (by kernel_rfl) rfl rfl rfl hZ ?_
        refine EA.takeNo 17 rfl (by kernel_rfl) rfl rfl rfl hZ ?_
        refine EA.takeNo 18 rfl (by kernel_rfl) rfl rfl rfl hZ ?_
        refine EA.tPickF 19 rfl (by kernel_rfl) rfl rfl rfl rfl rfl hZ ?_
        refine EA.done (by kernel_rfl) ?_
        (repeat (first | refine EK.region ?_ | refine ER.done ?_ | refine EK.skip ?_ | refine EK.inBlock ?_ | refine ER.move rfl rfl rfl ?_ | refine ER.add (kd := .i64) rfl rfl rfl rfl (i64_in (by omega) (by omega)) ?_ | refine EK.condF rfl ?_))
        exact EK.back (fin _ hbn) ⟨rfl, rfl, rfl, rfl, rfl, trivial⟩
      · cases hbe : bst H n with
        | none =>
          have hbn : bst H (n + 1) = some n := by
            show (if (H n).1 = true /\ _ then some n else bst H n) = _
            rw [if_pos ⟨hthere, fun b hb => by rw [hbe] at hb; cases hb⟩]
          have hm1 : (bv none : Int) = -1 := rfl
          refine EA.tMove 2 rfl (by kernel_rfl) rfl rfl rfl rfl hZ ?_
          refine EA.tMove 3 rfl (by kernel_rfl) rfl rfl rfl rfl hZ ?_
          refine EA.tCmpT 4 rfl (by kernel_rfl) rfl rfl rfl rfl rfl rfl (by first | (dsimp only [cmpP]; omega) | exact rfl | exact Int.le_refl _) hZ ?_
          refine EA.tMove 5 rfl (by kernel_rfl) rfl rfl rfl rfl hZ ?_
          refine EA.takeNo 6 rfl (by kernel_rfl) rfl rfl rfl hZ ?_
          refine EA.takeNo 7 rfl (by kernel_rfl) rfl rfl rfl hZ ?_
          refine EA.takeNo 8 rfl (by kernel_rfl) rfl rfl rfl hZ ?_
          refine EA.takeNo 9 rfl (by kernel_rfl) rfl rfl rfl hZ ?_
          refine EA.takeNo 10 rfl (by kernel_rfl) rfl rfl rfl hZ ?_
          refine EA.takeNo 11 rfl (by kernel_rfl) rfl rfl rfl hZ ?_
          refine EA.takeNo 12 rfl (by kernel_rfl) rfl rfl rfl hZ ?_
          refine EA.takeNo 13 rfl (by kernel_rfl) rfl rfl rfl hZ ?_
          refine EA.takeNo 14 rfl (by kernel_rfl) rfl rfl rfl hZ ?_
          refine EA.takeNo 15 rfl (by kernel_rfl) rfl rfl rfl hZ ?_
          refine EA.takeNo 16 rfl (by kernel_rfl) rfl rfl rfl hZ ?_
          refine EA.takeNo 17 rfl (by kernel_rfl) rfl rfl rfl hZ ?_
          refine EA.tPickT 18 rfl (by kernel_rfl) rfl rfl rfl rfl rfl hZ ?_
          refine EA.tPickT 19 rfl (by kernel_rfl) rfl rfl rfl rfl rfl hZ ?_
          refine EA.done (by kernel_rfl) ?_
          (repeat (first | refine EK.region ?_ | refine ER.done ?_ | refine EK.inBlock ?_ | refine ER.move rfl rfl rfl ?_ | refine ER.assign rfl rfl rfl ?_ | refine ER.add (kd := .i64) rfl rfl rfl rfl (i64_in (by omega) (by omega)) ?_ | refine EK.condT rfl ?_))
          exact EK.back (fin _ hbn) ⟨rfl, rfl, rfl, rfl, rfl, trivial⟩
        | some b =>
          have hbb : (bv (some b) : Int) = b := rfl
          have hb8 := (bst_lt hbe).1
          have hTb := hTk b
          have c4 : hcell h3 ⟨h.size, 0 + b * 3 + 2, none⟩ = some (.int .i64 (H b).2.2) := heads_row hb3 (i := b) (by omega) 2 _ rfl
          rw [hbb]
          refine EA.tMove 2 rfl (by kernel_rfl) rfl rfl rfl rfl hZ ?_
          refine EA.tMove 3 rfl (by kernel_rfl) rfl rfl rfl rfl hZ ?_
          refine EA.tCmpF 4 rfl (by kernel_rfl) rfl rfl rfl rfl rfl rfl (by first | (dsimp only [cmpP]; omega) | exact rfl | exact Int.le_refl _) hZ ?_
          refine EA.tMove 5 rfl (by kernel_rfl) rfl rfl rfl rfl hZ ?_
          refine EA.tMove 6 rfl (by kernel_rfl) rfl rfl rfl rfl hZ ?_
          refine EA.tMove 7 rfl (by kernel_rfl) rfl rfl rfl rfl hZ ?_
          refine EA.tSub (kd := .i64) 8 rfl (by kernel_rfl) rfl rfl rfl rfl rfl (i64_in (by omega) (by omega)) hZ ?_
          refine EA.tMul (kd := .i64) 9 rfl (by kernel_rfl) rfl rfl rfl rfl rfl (i64_in (by omega) (by omega)) hZ ?_
          refine EA.tField 10 rfl (by kernel_rfl) rfl rfl rfl rfl hZ ?_
          refine EA.tLoad 11 rfl (by kernel_rfl) rfl rfl rfl rfl (fun _ hz => hz ▸ c2) hZ ?_
          refine EA.tMove 12 rfl (by kernel_rfl) rfl rfl rfl rfl hZ ?_
          refine EA.tIdxA 13 rfl (by kernel_rfl) rfl rfl rfl rfl rfl (by omega) (by omega) hZ ?_
          refine EA.tField 14 rfl (by kernel_rfl) rfl rfl rfl rfl hZ ?_
          refine EA.tLoad 15 rfl (by kernel_rfl) rfl rfl rfl rfl (fun _ hz => hz ▸ c4) hZ ?_
          refine EA.tSub (kd := .i64) 16 rfl (by kernel_rfl) rfl rfl rfl rfl rfl (i64_in (by omega) (by omega)) hZ ?_
          by_cases hgo : 64 * ((n : Int) - b) > (H n).2.2 - (H b).2.2
          · have hbn : bst H (n + 1) = some n := by
              show (if (H n).1 = true /\ _ then some n else bst H n) = _
              rw [if_pos ⟨hthere, fun b' hb' => by rw [hbe] at hb'; cases hb'; exact hgo⟩]
            refine EA.tCmpT 17 rfl (by kernel_rfl) rfl rfl rfl rfl rfl rfl (by first | (dsimp only [cmpP]; omega) | exact rfl | exact Int.le_refl _) hZ ?_
            refine EA.tPickF 18 rfl (by kernel_rfl) rfl rfl rfl rfl rfl hZ ?_
            refine EA.tPickT 19 rfl (by kernel_rfl) rfl rfl rfl rfl rfl hZ ?_
            refine EA.done (by kernel_rfl) ?_
            (repeat (first | refine EK.region ?_ | refine ER.done ?_ | refine EK.inBlock ?_ | refine ER.move rfl rfl rfl ?_ | refine ER.assign rfl rfl rfl ?_ | refine ER.add (kd := .i64) rfl rfl rfl rfl (i64_in (by omega) (by omega)) ?_ | refine EK.condT rfl ?_))
            exact EK.back (fin _ hbn) ⟨rfl, rfl, rfl, rfl, rfl, trivial⟩
          · have hbn : bst H (n + 1) = some b := by
              show (if (H n).1 = true /\ _ then some n else bst H n) = _
              rw [if_neg (fun x => hgo (x.2 b hbe)), hbe]
            refine EA.tCmpF 17 rfl (by kernel_rfl) rfl rfl rfl rfl rfl rfl (by first | (dsimp only [cmpP]; omega) | exact rfl | exact Int.le_refl _) hZ ?_
            refine EA.tPickF 18 rfl (by kernel_rfl) rfl rfl rfl rfl rfl hZ ?_
            refine EA.tPickT 19 rfl (by kernel_rfl) rfl rfl rfl rfl rfl hZ ?_
            refine EA.done (by kernel_rfl) ?_
            (repeat (first | refine EK.region ?_ | refine ER.done ?_ | refine EK.skip ?_ | refine EK.inBlock ?_ | refine ER.move rfl rfl rfl ?_ | refine ER.add (kd := .i64) rfl rfl rfl rfl (i64_in (by omega) (by omega)) ?_ | refine EK.condF rfl ?_))
            exact EK.back (fin _ hbn) ⟨rfl, rfl, rfl, rfl, rfl, trivial⟩
    · obtain rfl : n = 8 := by omega
      (repeat (first | refine EK.seq ?_ | refine EK.region ?_ | refine ER.done ?_ | refine ER.cmpF rfl rfl rfl rfl rfl (by first | (dsimp only [cmpP]; omega) | exact rfl | exact Int.le_refl _) ?_ | refine EK.condF rfl ?_ | refine EK.exit rfl ?_))
      refine ER.loadN (vs := cellsH H) rfl rfl rfl rfl (heads_all hb2) ?_
      (repeat refine ER.move rfl rfl rfl ?_)
      refine ER.storeN (vs := cellsH H) rfl rfl rfl rfl (cellsH_one H) (fun j hj => ⟨?_, hfroz_of hb2, hF _ _ (Nat.le_refl _)⟩) ?_
      · have hj3 : j < (cellsH H).length := hj
        exact ⟨_, heads_all hb2 j _ (List.getElem?_eq_getElem hj3)⟩
      rw [hsetRow_block (cellsH H) 0 _ _ hb2 (by rw [Nat.zero_add]; exact Nat.le_refl _)]
      have e1 : List.take 0 (cellsH H) ++ cellsH H ++ List.drop (0 + (cellsH H).length) (cellsH H) = cellsH H := by simp
      rw [e1]
      have hb4 : (h2.setIfInBounds h.size (headsO H))[h.size]? = some (headsO H) := get_set_same hb2
      have u4 : Upd (fun _ => False) h (h2.setIfInBounds h.size (headsO H)) := u2.over (Upd.set (T := fun b => b = h.size) _ _ _ rfl) (fun b hb => by omega)
      change ER _ _ _ _ _ _ _ _ _ _ (h2.setIfInBounds h.size (headsO H)) _ _
      generalize h2.setIfInBounds h.size (headsO H) = h5 at hb4 u4 ⊢
      (repeat (first | refine ER.done ?_ | refine ER.assign rfl rfl rfl ?_ | refine EK.ret ?_))
      exact EU.retCell (vs := cellsH H) rfl rfl rfl (heads_all hb4) rfl ⟨rfl, u4, rfl⟩
  · have ex : (((n + 1 : Nat) : Int) - 1) = (n : Int) := by omega
    rw [ex]
    have hn : n < G.L := by omega
    obtain ⟨hOn, hOb⟩ := hO n hn
    have hlt : oN n % G.m < G.m := Nat.mod_lt _ hm0
    have hstep := hdF_step (v := v) (oN := oN) hn
    (repeat (first | refine EK.seq ?_ | refine EK.region ?_ | refine ER.done ?_ | refine EK.skip ?_ | refine EK.block ?_ | refine ER.move rfl rfl rfl ?_ | refine ER.nilCheck rfl rfl rfl ?_ | refine ER.fieldAddr rfl rfl rfl ?_ | refine ER.cmpT rfl rfl rfl rfl rfl (by first | (dsimp only [cmpP]; omega) | exact rfl | exact Int.le_refl _) ?_ | refine EK.condT rfl ?_))
    refine ER.load1 rfl rfl rfl r1.plv ?_
    (repeat (first | refine ER.move rfl rfl rfl ?_ | refine ER.indexSl rfl rfl rfl rfl (by omega) (by omega) ?_))
    refine ER.load1 rfl rfl rfl (r1.plev hn) ?_
    (repeat (first | refine EK.seq ?_ | refine EK.region ?_ | refine ER.done ?_ | refine ER.move rfl rfl rfl ?_ | refine ER.assign rfl rfl rfl ?_ | refine ER.nilCheck rfl rfl rfl ?_ | refine ER.fieldAddr rfl rfl rfl ?_))
    refine ER.load1 rfl rfl rfl (r1.pout hn) ?_
    (repeat refine ER.move rfl rfl rfl ?_)
    refine ER.callD rfl rfl rfl rfl rfl (pload r1 (k := kOut n) hn (vv (by omega)) hOn) ?_
    (repeat (first | refine EK.seq ?_ | refine EK.region ?_ | refine ER.done ?_ | refine ER.move rfl rfl rfl ?_ | refine ER.assign rfl rfl rfl ?_))
    refine ER.callD rfl rfl rfl rfl rfl (at_ok r1 hn hm he (by omega)) ?_
    (repeat (first | refine ER.nilCheck rfl rfl rfl ?_ | refine ER.fieldAddr rfl rfl rfl ?_))
    refine ER.load1 rfl rfl rfl (r1.pplace (t := 0) hn hlt (by omega)) ?_
    (repeat refine ER.move rfl rfl rfl ?_)
    refine ER.callD rfl rfl rfl rfl rfl (pload r1 (k := kTurn n (oN n % G.m)) ⟨hn, hlt⟩ (vv (by omega)) rfl) ?_
    by_cases ht : v (kTurn n (oN n % G.m)) = oN n + 1
    · rw [if_pos ht] at hstep
      (repeat (first | refine EK.region ?_ | refine ER.done ?_ | refine ER.move rfl rfl rfl ?_ | refine ER.cmpT rfl rfl rfl rfl rfl (by first | (dsimp only [cmpP]; omega) | exact rfl | exact Int.le_refl _) ?_ | refine ER.add (kd := .i64) rfl rfl rfl rfl (i64_in (by omega) (by omega)) ?_ | refine EK.condT rfl ?_))
      refine ER.callD rfl rfl rfl rfl rfl (at_ok r1 hn hm he (by omega)) ?_
      (repeat (first | refine ER.nilCheck rfl rfl rfl ?_ | refine ER.fieldAddr rfl rfl rfl ?_))
      refine ER.load1 rfl rfl rfl (r1.pplace (t := 1) hn hlt (by omega)) ?_
      (repeat refine ER.move rfl rfl rfl ?_)
      refine ER.callD rfl rfl rfl rfl rfl (pload r1 (k := kTick n (oN n % G.m)) ⟨hn, hlt⟩ (vv (by omega)) rfl) ?_
      skip
      refine ER.buildS (cells := #[.bool true, .int .i64 (oN n), .int .i64 (v (kTick n (oN n % G.m)))]) rfl rfl rfl rfl ?_
      (repeat refine ER.indexArr rfl rfl rfl rfl (by omega) (by omega) ?_)
      have hrw := heads_row (get_push_new h (headsO (hdF G v oN (n + 1)))) (i := n) (by omega)
      refine ER.storeN (vs := hrowH (true, (oN n : Int), v (kTick n (oN n % G.m)))) rfl rfl rfl rfl (by simp [hrowH, OneCell]) (fun j hj => ⟨?_, hfroz_of (get_push_new _ _), hF _ _ (Nat.le_refl _)⟩) ?_
      · have hj3 : j < 3 := hj
        rcases (show j = 0 \/ j = 1 \/ j = 2 by omega) with rfl | rfl | rfl
        · exact ⟨_, hrw 0 _ rfl⟩
        · exact ⟨_, hrw 1 _ rfl⟩
        · exact ⟨_, hrw 2 _ rfl⟩
      change ER _ _ _ _ _ _ _ _ _ _ (hsetRow (h.push (headsO (hdF G v oN (n + 1)))) h.size (0 + n * 3) (hrowH (true, (oN n : Int), v (kTick n (oN n % G.m))))) _ _
      rw [heads_put (by omega), <- hstep]
      (repeat (first | refine EK.region ?_ | refine ER.done ?_ | refine EK.inBlock ?_ | refine ER.move rfl rfl rfl ?_ | refine ER.assign rfl rfl rfl ?_ | refine ER.sub' (kd := .i64) rfl rfl rfl rfl (i64_in (by omega) (by omega)) ?_))
      exact EK.back (again n _ _ (by omega) ⟨rfl, rfl, by omega⟩) ⟨rfl, rfl, rfl, rfl, rfl, trivial⟩
    · rw [if_neg ht] at hstep
      have hz : hdF G v oN (n + 1) n = (false, 0, 0) := by unfold hdF; rw [if_neg (by omega)]
      have hs2 : hdF G v oN n = hdF G v oN (n + 1) := by
        rw [hstep, <- hz]; funext q
        by_cases e : q = n
        · subst e; rw [up_same]
        · rw [up_ne _ _ e]
      (repeat (first | refine EK.region ?_ | refine ER.done ?_ | refine EK.skip ?_ | refine EK.inBlock ?_ | refine ER.move rfl rfl rfl ?_ | refine ER.assign rfl rfl rfl ?_ | refine ER.cmpF rfl rfl rfl rfl rfl (by first | (dsimp only [cmpP]; omega) | exact rfl | exact Int.le_refl _) ?_ | refine ER.add (kd := .i64) rfl rfl rfl rfl (i64_in (by omega) (by omega)) ?_ | refine ER.sub' (kd := .i64) rfl rfl rfl rfl (i64_in (by omega) (by omega)) ?_ | refine EK.condF rfl ?_))
      exact EK.back (again n _ _ (by omega) ⟨by rw [hs2], rfl, by omega⟩) ⟨rfl, rfl, rfl, rfl, rfl, trivial⟩
theorem heads_new {H : Nat -> Hd} : hsetRow (h.push (headsO fun _ => (false, 0, 0))) h.size 0 (cellsH H) = h.push (headsO H) := hsetRow_push (c := cellsH fun _ => (false, 0, 0)) rfl
theorem take_none {e : Nat} {oN : Nat -> Nat} (r : Pri h G v) (hm : G.m = 2 ^ e) (he : e <= 12) (hL1 : 1 <= G.L) (hL : G.L <= 8) (hO : ∀ q, q < G.L -> v (kOut q) = oN q /\ oN q < 2305843009213693952)
    (hT : ∀ q j, q < G.L -> -2305843009213693952 <= v (kTick q j) /\ v (kTick q j) <= 2305843009213693952) (hF : ∀ b o, h.size <= b -> ¬ NoS.still δ.g ⟨b, o, none⟩) (hb : bst (hdF G v oN 0) 8 = none) :
    CallW Try.prog main NoS 57 #[ptr (G.B kTop), .pointer none] h δ (Ret fun w h' δ' => w = .tuple #[.int .i64 0, .int .i64 0, .bool false] /\ δ' = δ /\ Upd (fun _ => False) h h') := by
  refine CallW.start (n := 75) rfl rfl ?_
  (repeat (first | refine EK.seq ?_ | refine EK.region ?_ | refine ER.done ?_ | refine ER.move rfl rfl rfl ?_ | refine ER.assign rfl rfl rfl ?_ | refine ER.nilCheck rfl rfl rfl ?_ | refine ER.fieldAddr rfl rfl rfl ?_ | refine ER.eqV rfl rfl rfl rfl rfl ?_))
  refine ER.load1 rfl rfl rfl r.ptk ?_
  (repeat (first | refine ER.done ?_ | refine EK.skip ?_ | refine EK.block ?_ | refine ER.eqV rfl rfl rfl rfl rfl ?_ | refine ER.pickF rfl rfl rfl rfl ?_ | refine EK.condF rfl ?_))
  refine EK.loop ?_
  (repeat (first | refine EK.seq ?_ | refine EK.region ?_ | refine EK.block ?_ | refine ER.move rfl rfl rfl ?_))
  refine ER.callR rfl rfl rfl rfl rfl (looks_ok r hm he hL1 hL hO hT hF) ?_
  rintro _ h1 δ1 ⟨rfl, u1, rfl⟩
  rw [hb]
  generalize hdF G v oN 0 = H
  have hsz := u1.size
  (repeat (first | refine ER.move rfl rfl rfl ?_ | refine ER.extract rfl rfl rfl rfl ?_ | refine ER.allocA rfl rfl ?_))
  change ER _ _ _ _ _ _ _ _ _ _ (h1.push (headsO fun _ => (false, 0, 0))) _ _
  refine ER.storeN (vs := cellsH H) rfl rfl rfl rfl (cellsH_one H) (fun j hj => ⟨?_, hfroz_of (get_push_new _ _), hF _ _ hsz⟩) ?_
  · exact ⟨_, heads_all (get_push_new h1 (headsO fun _ => (false, 0, 0))) j _ (List.getElem?_eq_getElem (show j < (cellsH fun _ => (false, 0, 0)).length from hj))⟩
  rw [heads_new]
  have hv : (bv none : Int) = -1 := rfl
  (repeat (first | refine EK.seq ?_ | refine EK.region ?_ | refine ER.done ?_ | refine ER.move rfl rfl rfl ?_ | refine ER.assign rfl rfl rfl ?_ | refine ER.cmpT rfl rfl rfl rfl rfl (by first | (dsimp only [cmpP]; omega) | exact rfl | exact Int.le_refl _) ?_ | refine EK.condT rfl ?_ | refine EK.ret ?_))
  exact EU.ret3 rfl rfl rfl rfl ⟨rfl, rfl, u1.trans (Upd.push _ _)⟩
def takeV (m : Nat) (v : Key -> Int) (b o : Nat) : Key -> Int := ut (ut v (kOut b) ((o : Int) + 1)) (kTurn b (o % m)) ((o : Int) + m)
set_option maxRecDepth 8000 in
set_option maxHeartbeats 2000000 in
theorem take_ok {e b : Nat} {oN : Nat -> Nat} (r : Pri h G v) (hm : G.m = 2 ^ e) (he : e <= 12) (hL1 : 1 <= G.L) (hL : G.L <= 8) (hO : ∀ q, q < G.L -> v (kOut q) = oN q /\ oN q < 2305843009213693952)
    (hT : ∀ q j, q < G.L -> -2305843009213693952 <= v (kTick q j) /\ v (kTick q j) <= 2305843009213693952) (hF : ∀ b o, h.size <= b -> ¬ NoS.still δ.g ⟨b, o, none⟩) (hS : PFree NoS δ.g G) (hb : bst (hdF G v oN 0) 8 = some b) :
    CallW Try.prog main NoS 57 #[ptr (G.B kTop), .pointer none] h δ (Ret fun w h' δ' => w = .tuple #[.int .i64 (v (kSlot b (oN b % G.m))), .int .i64 b, .bool true] /\ δ' = δ /\ Pri h' G (takeV G.m v b (oN b)) /\ Upd (priM G v).Own h h') := by
  have hm0 : 0 < G.m := by rw [hm]; exact Nat.two_pow_pos e
  have hm1 : G.m <= 4096 := by have := Nat.pow_le_pow_right (n := 2) (by decide) he; omega
  have hlt : oN b % G.m < G.m := Nat.mod_lt _ hm0
  obtain ⟨hb8, hbt⟩ := bst_lt hb
  have hbH : b < G.L /\ hdF G v oN 0 b = (true, (oN b : Int), v (kTick b (oN b % G.m))) := by
    unfold hdF at hbt ⊢
    by_cases hc : 0 <= b /\ b < G.L /\ v (kTurn b (oN b % G.m)) = oN b + 1
    · rw [if_pos hc]; exact ⟨hc.2.1, rfl⟩
    · rw [if_neg hc] at hbt; cases hbt
  obtain ⟨hbL, hbe⟩ := hbH
  obtain ⟨hOb, hOl⟩ := hO b hbL
  refine CallW.start (n := 75) rfl rfl ?_
  (repeat (first | refine EK.seq ?_ | refine EK.region ?_ | refine ER.done ?_ | refine ER.move rfl rfl rfl ?_ | refine ER.assign rfl rfl rfl ?_ | refine ER.nilCheck rfl rfl rfl ?_ | refine ER.fieldAddr rfl rfl rfl ?_ | refine ER.eqV rfl rfl rfl rfl rfl ?_))
  refine ER.load1 rfl rfl rfl r.ptk ?_
  (repeat (first | refine ER.done ?_ | refine EK.skip ?_ | refine EK.block ?_ | refine ER.eqV rfl rfl rfl rfl rfl ?_ | refine ER.pickF rfl rfl rfl rfl ?_ | refine EK.condF rfl ?_))
  refine EK.loop ?_
  (repeat (first | refine EK.seq ?_ | refine EK.region ?_ | refine EK.block ?_ | refine ER.move rfl rfl rfl ?_))
  refine ER.callR rfl rfl rfl rfl rfl (looks_ok r hm he hL1 hL hO hT hF) ?_
  rintro _ h1 δ1 ⟨rfl, u1, rfl⟩
  rw [hb]
  generalize hdF G v oN 0 = H at hbe
  have hsz := u1.size
  (repeat (first | refine ER.move rfl rfl rfl ?_ | refine ER.extract rfl rfl rfl rfl ?_ | refine ER.allocA rfl rfl ?_))
  change ER _ _ _ _ _ _ _ _ _ _ (h1.push (headsO fun _ => (false, 0, 0))) _ _
  refine ER.storeN (vs := cellsH H) rfl rfl rfl rfl (cellsH_one H) (fun j hj => ⟨?_, hfroz_of (get_push_new _ _), hF _ _ hsz⟩) ?_
  · exact ⟨_, heads_all (get_push_new h1 (headsO fun _ => (false, 0, 0))) j _ (List.getElem?_eq_getElem (show j < (cellsH fun _ => (false, 0, 0)).length from hj))⟩
  rw [heads_new]
  have hb2 := get_push_new h1 (headsO H)
  have u2 : Upd (fun _ => False) h (h1.push (headsO H)) := u1.trans (Upd.push _ _)
  have r2 : Pri (h1.push (headsO H)) G v := r.upd0 u2
  generalize h1.push (headsO H) = h2 at hb2 u2 r2 ⊢
  have hv : (bv (some b) : Int) = b := rfl
  rw [hv]
  have cA : hcell h2 ⟨h1.size, 0 + b * 3 + 1, none⟩ = some (.int .i64 (oN b : Int)) := by
    have := heads_row hb2 hb8 1 _ rfl
    rw [hbe] at this
    exact this
  have cL := r2.plv
  have cV := r2.plev hbL
  (repeat (first | refine EK.seq ?_ | refine EK.region ?_ | refine ER.done ?_ | refine EK.skip ?_ | refine ER.move rfl rfl rfl ?_ | refine ER.assign rfl rfl rfl ?_ | refine ER.cmpF rfl rfl rfl rfl rfl (by first | (dsimp only [cmpP]; omega) | exact rfl | exact Int.le_refl _) ?_ | refine EK.condF rfl ?_))
  refine EK.regionAny (fun h' => h' = h2) ?_
  have hZ : h2 = h2 := rfl
  refine EA.tMove 0 rfl (by kernel_rfl) rfl rfl rfl rfl hZ ?_
  refine EA.tNil 1 rfl (by kernel_rfl) rfl rfl rfl rfl hZ ?_
  refine EA.tField 2 rfl (by kernel_rfl) rfl rfl rfl rfl hZ ?_
  refine EA.tLoad 3 rfl (by kernel_rfl) rfl rfl rfl rfl (fun _ hz => hz ▸ cL) hZ ?_
  refine EA.tMove 4 rfl (by kernel_rfl) rfl rfl rfl rfl hZ ?_
  refine EA.tIdxS 5 rfl (by kernel_rfl) rfl rfl rfl rfl rfl (by omega) (by omega) hZ ?_
  refine EA.tLoad 6 rfl (by kernel_rfl) rfl rfl rfl rfl (fun _ hz => hz ▸ cV) hZ ?_
  refine EA.tMove 7 rfl (by kernel_rfl) rfl rfl rfl rfl hZ ?_
  refine EA.tIdxA 8 rfl (by kernel_rfl) rfl rfl rfl rfl rfl (by omega) (by omega) hZ ?_
  refine EA.tField 9 rfl (by kernel_rfl) rfl rfl rfl rfl hZ ?_
  refine EA.tLoad 10 rfl (by kernel_rfl) rfl rfl rfl rfl (fun _ hz => hz ▸ cA) hZ ?_
  refine EA.tAssign 11 rfl (by kernel_rfl) rfl rfl rfl rfl hZ ?_
  refine EA.tAssign 12 rfl (by kernel_rfl) rfl rfl rfl rfl hZ ?_
  refine EA.done (by kernel_rfl) ?_
  clear hZ
  (repeat (first | refine EK.seq ?_ | refine EK.region ?_ | refine ER.move rfl rfl rfl ?_ | refine ER.nilCheck rfl rfl rfl ?_ | refine ER.fieldAddr rfl rfl rfl ?_))
  refine ER.load1 rfl rfl rfl (r2.pout hbL) ?_
  (repeat (first | refine ER.move rfl rfl rfl ?_ | refine ER.add (kd := .i64) rfl rfl rfl rfl (i64_in (by omega) (by omega)) ?_))
  refine ER.callR rfl rfl rfl rfl rfl (pcas r2 (k := kOut b) hbL (vv (by omega)) hOb hS) ?_
  rintro _ h3 δ3 ⟨rfl, rfl, r3, u3⟩
  (repeat (first | refine EK.seq ?_ | refine EK.region ?_ | refine ER.done ?_ | refine EK.skip ?_ | refine ER.move rfl rfl rfl ?_ | refine ER.notB rfl rfl rfl ?_ | refine EK.condF rfl ?_))
  refine ER.callD rfl rfl rfl rfl rfl (at_ok r3 hbL hm he (by omega)) ?_
  (repeat (first | refine ER.nilCheck rfl rfl rfl ?_ | refine ER.fieldAddr rfl rfl rfl ?_))
  refine ER.load1 rfl rfl rfl (r3.pplace (t := 2) hbL hlt (by omega)) ?_
  (repeat refine ER.move rfl rfl rfl ?_)
  refine ER.callD rfl rfl rfl rfl rfl (pload r3 (k := kSlot b (oN b % G.m)) ⟨hbL, hlt⟩ (vv (by omega)) (ut_ne _ _ (by simp))) ?_
  (repeat (first | refine EK.seq ?_ | refine ER.done ?_ | refine ER.assign rfl rfl rfl ?_))
  have cP := r3.ppls hbL
  have cT := r3.pplace (t := 0) hbL hlt (by omega)
  refine EK.regionAny (fun h' => hcell h' ⟨G.B (kLev b), 2, none⟩ = some (.slice (some ⟨G.B (kPls b), 0, none⟩) G.m (G.capP b)) /\ hcell h' ⟨G.B (kPls b), 0 + (oN b % G.m) * 3 + 0, none⟩ = some (ptr (G.B (kTurn b (oN b % G.m))))) ?_
  have hZ := And.intro cP cT
  refine EA.tMove 0 rfl (by kernel_rfl) rfl rfl rfl rfl hZ ?_
  refine EA.tMove 1 rfl (by kernel_rfl) rfl rfl rfl rfl hZ ?_
  refine EA.tMove 6 rfl (by kernel_rfl) rfl rfl rfl rfl hZ ?_
  refine EA.tMove 7 rfl (by kernel_rfl) rfl rfl rfl rfl hZ ?_
  refine EA.tMove 8 rfl (by kernel_rfl) rfl rfl rfl rfl hZ ?_
  refine EA.tNil 9 rfl (by kernel_rfl) rfl rfl rfl rfl hZ ?_
  refine EA.tField 10 rfl (by kernel_rfl) rfl rfl rfl rfl hZ ?_
  refine EA.tLoad 11 rfl (by kernel_rfl) rfl rfl rfl rfl (fun _ hz => hz.1) hZ ?_
  refine EA.tLen1 12 rfl (by kernel_rfl) rfl rfl rfl rfl hZ ?_
  refine EA.tAdd (kd := .i64) 13 rfl (by kernel_rfl) rfl rfl rfl rfl rfl (i64_in (by omega) (by omega)) hZ ?_
  refine EA.callD 2 rfl (by kernel_rfl) rfl rfl rfl rfl rfl rfl (at_ok r3 hbL hm he (by omega)) hZ ?_
  refine EA.tNil 3 rfl (by kernel_rfl) rfl rfl rfl rfl hZ ?_
  refine EA.tField 4 rfl (by kernel_rfl) rfl rfl rfl rfl hZ ?_
  refine EA.tLoad 5 rfl (by kernel_rfl) rfl rfl rfl rfl (fun _ hz => hz.2) hZ ?_
  refine EA.callR 14 rfl (by kernel_rfl) rfl rfl rfl rfl rfl rfl (pstore r3 (k := kTurn b (oN b % G.m)) ⟨hbL, hlt⟩ (vv (by omega)) hS) ?_
  rintro _ h4 δ4 ⟨rfl, rfl, r4, u4⟩
  refine ⟨⟨r4.ppls hbL, r4.pplace (t := 0) hbL hlt (by omega)⟩, ?_⟩
  refine EA.done (by kernel_rfl) ?_
  (repeat (first | refine EK.seq ?_ | refine EK.region ?_ | refine ER.done ?_ | refine ER.move rfl rfl rfl ?_ | refine ER.assign rfl rfl rfl ?_ | refine EK.ret ?_))
  exact EU.ret3 rfl rfl rfl rfl ⟨rfl, rfl, r4, ((u2.mono (fun _ _ x => x.elim)).trans u3).trans u4⟩
end
end
section
open Go Go.TJ Go.Proofs
variable [Dm]
def u2 {α : Type} (f : Nat -> Nat -> α) (g j : Nat) (x : α) : Nat -> Nat -> α := fun a b => if a = g /\ b = j then x else f a b
theorem u2_same {α : Type} {f : Nat -> Nat -> α} {g j : Nat} {x : α} : u2 f g j x g j = x := if_pos ⟨rfl, rfl⟩
theorem u2_ne {α : Type} {f : Nat -> Nat -> α} {g j a b : Nat} {x : α} (h : ¬ (a = g /\ b = j)) : u2 f g j x a b = f a b := if_neg h
def kvals (L m : Nat) : List Key := kTk :: (List.range L).flatMap fun i => kIn i :: kOut i :: (List.range m).flatMap fun j => [kTurn i j, kTick i j, kSlot i j]
theorem kvals_mem {L m : Nat} {k : Key} : k ∈ kvals L m ↔ k = kTk \/ ∃ i, i < L /\ (k = kIn i \/ k = kOut i \/ ∃ j, j < m /\ (k = kTurn i j \/ k = kTick i j \/ k = kSlot i j)) := by
  unfold kvals
  simp only [List.mem_cons, List.mem_flatMap, List.mem_range, List.not_mem_nil, or_false]
theorem kvals_nodup (L m : Nat) : (kvals L m).Nodup := by
  unfold kvals
  refine List.nodup_cons.2 ⟨fun h => ?_, ?_⟩
  · simp only [List.mem_cons, List.mem_flatMap, List.mem_range, List.not_mem_nil, or_false] at h
    obtain ⟨i, _, h | h | ⟨j, _, h | h | h⟩⟩ := h <;> cases h
  · refine List.pairwise_flatMap.2 ⟨fun i _ => ?_, ?_⟩
    · refine List.nodup_cons.2 ⟨fun h => ?_, List.nodup_cons.2 ⟨fun h => ?_, List.pairwise_flatMap.2 ⟨fun j _ => ?_, ?_⟩⟩⟩
      · simp only [List.mem_cons, List.mem_flatMap, List.mem_range, List.not_mem_nil, or_false] at h
        obtain h | ⟨j, _, h | h | h⟩ := h <;> cases h
      · simp only [List.mem_cons, List.mem_flatMap, List.mem_range, List.not_mem_nil, or_false] at h
        obtain ⟨j, _, h | h | h⟩ := h <;> cases h
      · simp
      · refine List.nodup_range.imp fun {a b} hne x hx y hy e => hne ?_
        subst e
        simp only [List.mem_cons, List.not_mem_nil, or_false] at hx hy
        rcases hx with rfl | rfl | rfl <;> rcases hy with h | h | h <;> cases h <;> rfl
    · refine List.nodup_range.imp fun {a b} hne x hx y hy e => hne ?_
      subst e
      simp only [List.mem_cons, List.mem_flatMap, List.mem_range, List.not_mem_nil, or_false] at hx hy
      rcases hx with rfl | rfl | ⟨j, _, rfl | rfl | rfl⟩ <;> rcases hy with h | h | ⟨j', _, h | h | h⟩ <;> cases h <;> rfl
structure Pc' where
  n : Nat
  q : Nat
  e : Nat
  L : Nat
  K : Int
  B : Key -> Nat
  pb : Nat
  qb : Nat
  wb : Nat
  fb : Nat
  top : Nat
  tS : TypeId
  tB : TypeId
  ro : Nat -> Prop
def Pc'.W (c : Pc') : Nat := c.n + c.q
structure Py where
  c : Pc'
  v : Nat -> Int
  I : Nat -> Nat
  O : Nat -> Nat
  ph : Nat -> Nat -> Nat
  ps : Nat -> Nat -> Nat
  ow : Nat -> Nat -> Nat
  bd : Nat -> Nat
  pu : Nat -> List Int
  po : Nat -> List Int
  sp : Nat -> Value
  sq : Nat -> Value
def Py.fv (y : Py) (x : Nat) : Option Int := if y.ph ((x - 1) / 64) ((x - 1) % 64) = 2 then some (y.v (y.c.B (kSlot ((x - 1) / 64) ((x - 1) % 64)))) else none
def Py.fl (y : Py) : List Int := fmW y.fv (y.c.L * 64)
def Py.tn (y : Py) (g j : Nat) : Nat := if y.ph g j = 2 \/ y.ph g j = 3 then y.ps g j + 1 else y.ps g j
def LvOk (L : Nat) (g : Nat) (z : Int) : Prop := 0 <= z /\ (z % 1000) % (L : Int) = g
structure Pr (i : Nat) (y y' : Py) : Prop where
  c : y'.c = y.c
  bd : 0 < i -> y'.bd i = y.bd i
  pu : 0 < i -> y'.pu i = y.pu i
  po : 0 < i -> y'.po i = y.po i
  sp : 0 < i -> i <= y.c.n -> y'.sp (i - 1) = y.sp (i - 1)
  sq : y.c.n < i -> y'.sq (i - 1 - y.c.n) = y.sq (i - 1 - y.c.n)
  main : y'.sq y.c.q = y.sq y.c.q
  own : 0 < i -> ∀ g j, y.ow g j = i -> (y.ph g j = 1 \/ y.ph g j = 3) -> y'.ow g j = i /\ y'.ph g j = y.ph g j /\ y'.ps g j = y.ps g j /\ y'.v (y.c.B (kSlot g j)) = y.v (y.c.B (kSlot g j))
  I : ∀ g, y.I g <= y'.I g
  O : ∀ g, y.O g <= y'.O g
  p0 : ∀ g j, y.ph g j = 0 -> y'.I g = y.I g -> y'.ph g j = 0
  p2 : ∀ g j, y.ph g j = 2 -> y'.O g = y.O g -> y'.ph g j = 2 /\ y'.ps g j = y.ps g j /\ y'.v (y.c.B (kSlot g j)) = y.v (y.c.B (kSlot g j))
  new : ∀ q, (0 < i /\ q = i) \/ q = y.c.W + 1 -> ∀ g j, y'.ow g j = q -> (y'.ph g j = 1 \/ y'.ph g j = 3) -> y.ow g j = q /\ y'.ph g j = y.ph g j
  ml : y'.pu (y.c.W + 1) = y.pu (y.c.W + 1) /\ y'.po (y.c.W + 1) = y.po (y.c.W + 1) /\ y'.bd (y.c.W + 1) = y.bd (y.c.W + 1)
structure Pj (y : Py) : Prop where
  inj : ∀ k k', y.c.B k = y.c.B k' -> k = k'
  ar : ∀ k, k ∈ kvals y.c.L 64 -> y.c.B k ≠ y.c.pb /\ y.c.B k ≠ y.c.qb /\ y.c.B k ≠ y.c.wb /\ y.c.B k ≠ y.c.fb
  ad : y.c.pb ≠ y.c.qb /\ y.c.pb ≠ y.c.wb /\ y.c.pb ≠ y.c.fb /\ y.c.qb ≠ y.c.wb /\ y.c.qb ≠ y.c.fb /\ y.c.wb ≠ y.c.fb
  n1 : 1 <= y.c.n /\ y.c.n <= 4 /\ 1 <= y.c.q /\ y.c.q <= 4 /\ 1 <= y.c.L /\ y.c.L <= 8
  cK : y.c.K <= 1000000000
  vi : ∀ g, g < y.c.L -> y.v (y.c.B (kIn g)) = y.I g
  vo : ∀ g, g < y.c.L -> y.v (y.c.B (kOut g)) = y.O g
  vt : ∀ g j, g < y.c.L -> j < 64 -> y.v (y.c.B (kTurn g j)) = y.tn g j
  oi : ∀ g, g < y.c.L -> y.O g <= y.I g /\ y.I g <= y.O g + 64
  pm : ∀ g j, g < y.c.L -> j < 64 -> y.ps g j % 64 = j /\ y.ph g j <= 3 /\ (y.ph g j = 0 -> y.I g <= y.ps g j /\ y.ps g j < y.O g + 64) /\ (y.ph g j = 1 \/ y.ph g j = 2 -> y.O g <= y.ps g j /\ y.ps g j < y.I g) /\ (y.ph g j = 3 -> y.ps g j < y.O g /\ y.I g <= y.ps g j + 64)
  lev : ∀ g j, g < y.c.L -> j < 64 -> (y.ph g j = 2 \/ y.ph g j = 3) -> LvOk y.c.L g (y.v (y.c.B (kSlot g j)))
  ows : ∀ g j, g < y.c.L -> j < 64 -> (y.ph g j = 1 \/ y.ph g j = 3) -> 0 < y.ow g j /\ y.ow g j <= y.c.W + 1
  vs : (flW y.pu (y.c.W + 1)).Perm (y.fl ++ flW y.po (y.c.W + 1))
  K : ∀ g, g < y.c.L -> (y.I g : Int) + ((nsum (y.c.W + 2) y.bd : Nat) : Int) <= y.c.K
  tk : 0 <= y.v (y.c.B kTk) /\ y.v (y.c.B kTk) + ((nsum (y.c.W + 2) y.bd : Nat) : Int) <= y.c.K
  tc : ∀ g j, 0 <= y.v (y.c.B (kTick g j)) /\ y.v (y.c.B (kTick g j)) <= y.c.K
def pL : Law Py where
  cls y := (kvals y.c.L 64).map y.c.B
  arrT y b := if b = y.c.pb then some y.c.tS else if b = y.c.qb then some y.c.tS else if b = y.c.wb then some y.c.tB else if b = y.c.fb then some y.c.tB else none
  ro y := y.c.ro
  val y := y.v
  arr y b := if b = y.c.pb then ((List.range y.c.n).map y.sp).toArray else if b = y.c.qb then ((List.range (y.c.q + 1)).map y.sq).toArray else if b = y.c.wb then Array.replicate (y.c.W + 1) (.bool false) else Array.replicate y.c.W (.bool false)
  may y i a _ := 0 < i /\ ((a.block = y.c.pb /\ i <= y.c.n /\ a.off = i - 1) \/ (a.block = y.c.qb /\ y.c.n < i /\ a.off = i - 1 - y.c.n) \/ ((a.block = y.c.wb \/ a.block = y.c.fb) /\ a.off = i - 1)) /\ (y.c.pb ≠ y.c.qb /\ y.c.pb ≠ y.c.wb /\ y.c.pb ≠ y.c.fb /\ y.c.qb ≠ y.c.wb /\ y.c.qb ≠ y.c.fb)
  pairs y := nsum (y.c.W + 2) y.bd
  R := Pr
  J := Pj
  fin y i hf := 0 < i -> (y.pu i).Nodup /\ (∀ z, z ∈ y.pu i -> 1000 * ((i : Int) - 1) <= z /\ z < 1000 * ((i : Int) - 1) + y.c.e) /\ (i <= y.c.n -> Rd y.c.top hf (y.sp (i - 1)) (y.pu i) /\ y.po i = []) /\ (y.c.n < i -> Rd y.c.top hf (y.sq (i - 1 - y.c.n)) (y.po i) /\ y.pu i = []) /\ ∀ g j, y.ow g j = i -> ¬ (y.ph g j = 1 \/ y.ph g j = 3)
theorem pL_ok : pL.Ok where
  refl i y := ⟨rfl, fun _ => rfl, fun _ => rfl, fun _ => rfl, fun _ _ => rfl, fun _ => rfl, rfl, fun _ g j h _ => ⟨h, rfl, rfl, rfl⟩, fun _ => Nat.le_refl _, fun _ => Nat.le_refl _, fun _ _ h _ => h, fun _ _ h _ => ⟨h, rfl, rfl⟩, fun _ _ _ _ h _ => ⟨h, rfl⟩, rfl, rfl, rfl⟩
  trans i a b c x y := by
    have e := x.c
    refine ⟨y.c.trans x.c, fun h => (y.bd h).trans (x.bd h), fun h => (y.pu h).trans (x.pu h), fun h => (y.po h).trans (x.po h), fun h h' => (y.sp h (by rw [e]; exact h')).trans (x.sp h h'), fun h => ?_, ?_, fun h g j ho hp => ?_, fun g => Nat.le_trans (x.I g) (y.I g), fun g => Nat.le_trans (x.O g) (y.O g), fun g j hp hI => ?_, fun g j hp hO => ?_, fun q hq g j ho hp => ?_, ?_⟩
    · have := y.sq (by rw [e]; exact h)
      rw [e] at this
      exact this.trans (x.sq h)
    · have := y.main
      rw [e] at this
      exact this.trans x.main
    · obtain ⟨p1, p2, p3, p4⟩ := x.own h g j ho hp
      obtain ⟨q1, q2, q3, q4⟩ := y.own h g j p1 (by rw [p2]; exact hp)
      rw [e] at q4
      exact ⟨q1, q2.trans p2, q3.trans p3, q4.trans p4⟩
    · have h1 := x.I g
      have h2 := y.I g
      exact y.p0 g j (x.p0 g j hp (by omega)) (by omega)
    · have h1 := x.O g
      have h2 := y.O g
      obtain ⟨p1, p2, p3⟩ := x.p2 g j hp (by omega)
      obtain ⟨q1, q2, q3⟩ := y.p2 g j p1 (by omega)
      rw [e] at q3
      exact ⟨q1, q2.trans p2, q3.trans p3⟩
    · obtain ⟨p1, p2⟩ := y.new q (by rw [e]; exact hq) g j ho hp
      obtain ⟨q1, q2⟩ := x.new q hq g j p1 (by rw [<- p2]; exact hp)
      exact ⟨q1, p2.trans q2⟩
    · have := y.ml
      rw [e] at this
      exact ⟨this.1.trans x.ml.1, this.2.1.trans x.ml.2.1, this.2.2.trans x.ml.2.2⟩
  mayx y i j a w h1 h2 := by
    obtain ⟨i0, h1, hd⟩ := h1
    obtain ⟨j0, h2, _⟩ := h2
    rcases h1 with h1 | h1 | h1 <;> rcases h2 with h2 | h2 | h2 <;> omega
  nodup y h := by
    show ((kvals y.c.L 64).map y.c.B).Nodup
    exact List.pairwise_map.2 ((kvals_nodup _ _).imp fun {a b} hne e => hne (h.inj _ _ e))
  dj y b h hb := by
    obtain ⟨k, hk, rfl⟩ := List.mem_map.1 hb
    obtain ⟨h1, h2, h3, h4⟩ := h.ar k hk
    show (if _ = y.c.pb then _ else if _ = y.c.qb then _ else if _ = y.c.wb then _ else if _ = y.c.fb then _ else none) = none
    rw [if_neg h1, if_neg h2, if_neg h3, if_neg h4]
theorem p_stat {y y' : Py} (h : y'.c = y.c) : Stt pL y y' := by
  refine ⟨?_, ?_, ?_, ?_⟩ <;> (simp only [pL]; rw [h])
theorem p_cls {y : Py} {k : Key} (h : k ∈ kvals y.c.L 64) : y.c.B k ∈ pL.cls y := List.mem_map.2 ⟨k, h, rfl⟩
theorem p_fin {y y' : Py} {i : Nat} (h : ∀ j, 0 < j -> j ≠ i -> Pr j y y') : ∀ j hf, j ≠ i -> pL.fin y j hf -> pL.fin y' j hf := by
  intro j hf hj hh h0
  obtain ⟨h1, h2, h3, h4, h5⟩ := hh h0
  have r := h j h0 hj
  refine ⟨by rw [r.pu h0]; exact h1, by rw [r.pu h0, r.c]; exact h2, fun hn => ?_, fun hn => ?_, fun a b ho hp => ?_⟩
  · rw [r.c] at hn ⊢
    rw [r.sp h0 hn, r.pu h0, r.po h0]
    exact h3 hn
  · rw [r.c] at hn ⊢
    rw [r.sq hn, r.pu h0, r.po h0]
    exact h4 hn
  · obtain ⟨p1, p2⟩ := r.new j (.inl ⟨h0, rfl⟩) a b ho hp
    exact h5 a b p1 (by rw [<- p2]; exact hp)
theorem k_in {L g : Nat} (h : g < L) : kIn g ∈ kvals L 64 := kvals_mem.2 (.inr ⟨g, h, .inl rfl⟩)
theorem k_out {L g : Nat} (h : g < L) : kOut g ∈ kvals L 64 := kvals_mem.2 (.inr ⟨g, h, .inr (.inl rfl)⟩)
theorem k_turn {L g j : Nat} (h : g < L) (hj : j < 64) : kTurn g j ∈ kvals L 64 := kvals_mem.2 (.inr ⟨g, h, .inr (.inr ⟨j, hj, .inl rfl⟩)⟩)
theorem k_tick {L g j : Nat} (h : g < L) (hj : j < 64) : kTick g j ∈ kvals L 64 := kvals_mem.2 (.inr ⟨g, h, .inr (.inr ⟨j, hj, .inr (.inl rfl)⟩)⟩)
theorem k_slot {L g j : Nat} (h : g < L) (hj : j < 64) : kSlot g j ∈ kvals L 64 := kvals_mem.2 (.inr ⟨g, h, .inr (.inr ⟨j, hj, .inr (.inr rfl)⟩)⟩)
theorem k_tk {L : Nat} : kTk ∈ kvals L 64 := kvals_mem.2 (.inl rfl)
end
section
open Go Go.TJ Go.Proofs
variable [Dm]
section
variable {y : Py} {i g j : Nat}
theorem fv_eq {y y' : Py} (hc : y'.c = y.c) (h : ∀ a b, a < y.c.L -> b < 64 -> y'.ph a b = y.ph a b /\ (y.ph a b = 2 -> y'.v (y.c.B (kSlot a b)) = y.v (y.c.B (kSlot a b)))) : y'.fl = y.fl := by
  unfold Py.fl
  rw [hc]
  refine fmW_congr fun x x0 hx => ?_
  obtain ⟨h1, h2⟩ := h ((x - 1) / 64) ((x - 1) % 64) (by omega) (by omega)
  unfold Py.fv
  rw [h1, hc]
  by_cases e : y.ph ((x - 1) / 64) ((x - 1) % 64) = 2
  · rw [if_pos e, if_pos e, h2 e]
  · rw [if_neg e, if_neg e]
theorem fv_add {y y' : Py} (hc : y'.c = y.c) (hg : g < y.c.L) (hj : j < 64) (h0 : y.ph g j ≠ 2) (h1 : y'.ph g j = 2) (h : ∀ a b, a < y.c.L -> b < 64 -> ¬ (a = g /\ b = j) -> y'.ph a b = y.ph a b /\ (y.ph a b = 2 -> y'.v (y.c.B (kSlot a b)) = y.v (y.c.B (kSlot a b)))) : y'.fl.Perm (y'.v (y.c.B (kSlot g j)) :: y.fl) := by
  have e1 : (g * 64 + j + 1 - 1) / 64 = g := by omega
  have e2 : (g * 64 + j + 1 - 1) % 64 = j := by omega
  have key : ∀ x, x <= y.c.L * 64 -> x ≠ g * 64 + j + 1 -> 0 < x -> y'.fv x = y.fv x := fun x hx hne x0 => by
    obtain ⟨h1, h2⟩ := h ((x - 1) / 64) ((x - 1) % 64) (by omega) (by omega) (by omega)
    unfold Py.fv
    rw [h1, hc]
    by_cases e : y.ph ((x - 1) / 64) ((x - 1) % 64) = 2
    · rw [if_pos e, if_pos e, h2 e]
    · rw [if_neg e, if_neg e]
  have n0 : y.fv (g * 64 + j + 1) = none := by
    unfold Py.fv
    rw [e1, e2, if_neg h0]
  have n1 : y'.fv (g * 64 + j + 1) = some (y'.v (y.c.B (kSlot g j))) := by
    unfold Py.fv
    rw [e1, e2, if_pos h1, hc]
  have hb : g * 64 + j + 1 <= y.c.L * 64 := by
    have := Nat.mul_le_mul_right 64 (show g + 1 <= y.c.L from hg)
    omega
  have hle : fmW y'.fv (y'.c.L * 64) = fmW (fun x => if x = g * 64 + j + 1 then some (y'.v (y.c.B (kSlot g j))) else y.fv x) (y.c.L * 64) := by
    rw [hc]
    refine fmW_congr fun x x0 hx => ?_
    by_cases e : x = g * 64 + j + 1
    · subst e; rw [if_pos rfl, n1]
    · rw [if_neg e, key x hx e x0]
  unfold Py.fl
  rw [hle]
  exact fmW_add (Nat.succ_pos _) hb n0 (if_pos rfl) fun x hx => if_neg hx
theorem p_bd {bd' : Nat -> Nat} (hi : i <= y.c.W + 1) (hb : 0 < y.bd i) (e : bd' = u1 y.bd i (y.bd i - 1)) : nsum (y.c.W + 2) bd' + 1 = nsum (y.c.W + 2) y.bd := by
  subst e
  have := nsum_upd (y.c.W + 2) (u1 y.bd i (y.bd i - 1)) y.bd i (by omega) fun j _ hj => u1_ne hj
  rw [u1_same] at this
  omega
def claimY (y : Py) (i g : Nat) : Py := { y with v := u1 y.v (y.c.B (kIn g)) ((y.I g + 1 : Nat) : Int), I := u1 y.I g (y.I g + 1), ph := u2 y.ph g (y.I g % 64) 1, ow := u2 y.ow g (y.I g % 64) i, bd := u1 y.bd i (y.bd i - 1) }
theorem claim_step (hJ : Pj y) (i0 : 0 < i) (hi : i <= y.c.W) (hg : g < y.c.L) (h0 : y.ph g (y.I g % 64) = 0) (hb : 0 < y.bd i) : LStep pL i (y.c.B (kIn g)) y (claimY y i g) := by
  have inj := hJ.inj
  have vne : ∀ k, k ≠ kIn g -> (claimY y i g).v (y.c.B k) = y.v (y.c.B k) := fun k hk => u1_ne fun e => hk (inj _ _ e)
  have hp := p_bd (bd' := u1 y.bd i (y.bd i - 1)) (Nat.le_succ_of_le hi) hb rfl
  have hn : ∀ q, q ≠ i -> ∀ a b, (claimY y i g).ow a b = q -> ((claimY y i g).ph a b = 1 \/ (claimY y i g).ph a b = 3) -> y.ow a b = q /\ (claimY y i g).ph a b = y.ph a b := fun q hq a b ho hp => by
    by_cases e : a = g /\ b = y.I g % 64
    · obtain ⟨rfl, rfl⟩ := e
      exact absurd (ho.symm.trans (show (claimY y i a).ow a (y.I a % 64) = i from u2_same)) hq
    · exact ⟨(show (claimY y i g).ow a b = y.ow a b from u2_ne e).symm.trans ho, u2_ne e⟩
  have hR : ∀ q, q ≠ i -> Pr q y (claimY y i g) := fun q hq => by
    refine ⟨rfl, fun _ => u1_ne hq, fun _ => rfl, fun _ => rfl, fun _ _ => rfl, fun _ => rfl, rfl, fun _ a b ho hph => ?_, fun a => ?_, fun a => Nat.le_refl _, fun a b hph hI => ?_, fun a b hph _ => ?_, fun q' hq' => hn q' (by rcases hq' with ⟨_, rfl⟩ | rfl <;> omega), rfl, rfl, u1_ne (by omega)⟩
    · have hne : ¬ (a = g /\ b = y.I g % 64) := fun ⟨ea, eb⟩ => by subst ea eb; omega
      exact ⟨(u2_ne hne).trans ho, u2_ne hne, rfl, vne _ (by intro e; cases e)⟩
    · show y.I a <= u1 y.I g _ a
      by_cases e : a = g
      · subst e; rw [u1_same]; omega
      · rw [u1_ne e]; exact Nat.le_refl _
    · have hne : ¬ (a = g /\ b = y.I g % 64) := fun ⟨ea, eb⟩ => by
        subst ea
        have : u1 y.I a (y.I a + 1) a = y.I a := hI
        rw [u1_same] at this
        omega
      exact (u2_ne hne).trans hph
    · have hne : ¬ (a = g /\ b = y.I g % 64) := fun ⟨ea, eb⟩ => by subst ea eb; omega
      exact ⟨(u2_ne hne).trans hph, rfl, vne _ (by intro e; cases e)⟩
  obtain ⟨m1, m2, m3, m4, m5⟩ := hJ.pm g (y.I g % 64) hg (by omega)
  obtain ⟨m31, m32⟩ := m3 h0
  have hoi := hJ.oi g hg
  have eps : y.ps g (y.I g % 64) = y.I g := by omega
  have phne : ∀ a b, ¬ (a = g /\ b = y.I g % 64) -> (claimY y i g).ph a b = y.ph a b := fun a b h => u2_ne h
  have hJ' : Pj (claimY y i g) := by
    refine ⟨inj, hJ.ar, hJ.ad, hJ.n1, hJ.cK, fun a ha => ?_, fun a ha => ?_, fun a b ha hb' => ?_, fun a ha => ?_, fun a b ha hb' => ?_, fun a b ha hb' hph => ?_, fun a b ha hb' hph => ?_, ?_, fun a ha => ?_, ?_, fun a b => ?_⟩
    · by_cases e : a = g
      · subst e
        show u1 y.v _ _ _ = ((u1 y.I a _ a : Nat) : Int)
        rw [u1_same]
        exact u1_same
      · refine (vne _ (by intro e'; cases e'; exact e rfl)).trans ((hJ.vi a ha).trans ?_)
        show _ = ((u1 y.I g _ a : Nat) : Int)
        rw [u1_ne e]
    · exact (vne _ (by intro e'; cases e')).trans (hJ.vo a ha)
    · refine (vne _ (by intro e'; cases e')).trans ((hJ.vt a b ha hb').trans ?_)
      congr 1
      unfold Py.tn
      by_cases e : a = g /\ b = y.I g % 64
      · obtain ⟨rfl, rfl⟩ := e
        rw [show (claimY y i a).ph a (y.I a % 64) = 1 from u2_same, h0]
        simp
        rfl
      · rw [phne a b e]
        rfl
    · by_cases e : a = g
      · subst e
        show y.O a <= u1 y.I a _ a /\ u1 y.I a _ a <= y.O a + 64
        rw [u1_same]
        omega
      · show y.O a <= u1 y.I g _ a /\ u1 y.I g _ a <= y.O a + 64
        rw [u1_ne e]
        exact hJ.oi a ha
    · by_cases ea : a = g
      · subst ea
        show y.ps a b % 64 = b /\ u2 y.ph a (y.I a % 64) 1 a b <= 3 /\ (u2 y.ph a (y.I a % 64) 1 a b = 0 -> u1 y.I a (y.I a + 1) a <= y.ps a b /\ y.ps a b < y.O a + 64) /\ (u2 y.ph a (y.I a % 64) 1 a b = 1 \/ u2 y.ph a (y.I a % 64) 1 a b = 2 -> y.O a <= y.ps a b /\ y.ps a b < u1 y.I a (y.I a + 1) a) /\ (u2 y.ph a (y.I a % 64) 1 a b = 3 -> y.ps a b < y.O a /\ u1 y.I a (y.I a + 1) a <= y.ps a b + 64)
        rw [u1_same]
        by_cases eb : b = y.I a % 64
        · subst eb
          rw [u2_same]
          refine ⟨m1, by omega, fun h => by omega, fun _ => by omega, fun h => by omega⟩
        · rw [u2_ne (fun e => eb e.2)]
          obtain ⟨k1, k2, k3, k4, k5⟩ := hJ.pm a b ha hb'
          refine ⟨k1, k2, fun h => ?_, fun h => ?_, fun h => ?_⟩
          · have := k3 h
            omega
          · have := k4 h
            omega
          · have := k5 h
            omega
      · show y.ps a b % 64 = b /\ u2 y.ph g (y.I g % 64) 1 a b <= 3 /\ (u2 y.ph g (y.I g % 64) 1 a b = 0 -> u1 y.I g (y.I g + 1) a <= y.ps a b /\ y.ps a b < y.O a + 64) /\ (u2 y.ph g (y.I g % 64) 1 a b = 1 \/ u2 y.ph g (y.I g % 64) 1 a b = 2 -> y.O a <= y.ps a b /\ y.ps a b < u1 y.I g (y.I g + 1) a) /\ (u2 y.ph g (y.I g % 64) 1 a b = 3 -> y.ps a b < y.O a /\ u1 y.I g (y.I g + 1) a <= y.ps a b + 64)
        rw [u1_ne ea, u2_ne (fun e => ea e.1)]
        exact hJ.pm a b ha hb'
    · have e : ¬ (a = g /\ b = y.I g % 64) := fun ⟨ea, eb⟩ => by
        subst ea eb
        rw [show (claimY y i a).ph a (y.I a % 64) = 1 from u2_same] at hph
        omega
      rw [phne a b e] at hph
      rw [show (claimY y i g).v ((claimY y i g).c.B (kSlot a b)) = y.v (y.c.B (kSlot a b)) from vne _ (by intro e'; cases e')]
      exact hJ.lev a b ha hb' hph
    · by_cases e : a = g /\ b = y.I g % 64
      · obtain ⟨rfl, rfl⟩ := e
        rw [show (claimY y i a).ow a (y.I a % 64) = i from u2_same]
        exact ⟨i0, Nat.le_succ_of_le hi⟩
      · rw [phne a b e] at hph
        rw [show (claimY y i g).ow a b = y.ow a b from u2_ne e]
        exact hJ.ows a b ha hb' hph
    · have : (claimY y i g).fl = y.fl := by
        unfold Py.fl
        refine fmW_congr fun x x0 hx => ?_
        unfold Py.fv
        by_cases e : (x - 1) / 64 = g /\ (x - 1) % 64 = y.I g % 64
        · rw [e.1, e.2, show (claimY y i g).ph g (y.I g % 64) = 1 from u2_same, h0]
          simp
        · rw [phne _ _ e]
          rw [show (claimY y i g).v ((claimY y i g).c.B (kSlot ((x - 1) / 64) ((x - 1) % 64))) = y.v (y.c.B (kSlot ((x - 1) / 64) ((x - 1) % 64))) from vne _ (by intro e'; cases e')]
      rw [this]
      exact hJ.vs
    · have hK := hJ.K a ha
      show ((u1 y.I g (y.I g + 1) a : Nat) : Int) + ((nsum (y.c.W + 2) (u1 y.bd i (y.bd i - 1)) : Nat) : Int) <= y.c.K
      by_cases e : a = g
      · subst e; rw [u1_same]; omega
      · rw [u1_ne e]; omega
    · have := hJ.tk
      rw [show (claimY y i g).v ((claimY y i g).c.B kTk) = y.v (y.c.B kTk) from vne _ (by intro e'; cases e')]
      show _ /\ _ + ((nsum (y.c.W + 2) (u1 y.bd i (y.bd i - 1)) : Nat) : Int) <= y.c.K
      omega
    · rw [show (claimY y i g).v ((claimY y i g).c.B (kTick a b)) = y.v (y.c.B (kTick a b)) from vne _ (by intro e'; cases e')]
      exact hJ.tc a b
  exact ⟨p_stat rfl, hR, Nat.le_of_eq hp, fun z hz => u1_ne hz, rfl, hJ', p_fin (i := i) fun q _ hq => hR q hq⟩
def noteY (y : Py) (i : Nat) (k : Key) (w : Int) : Py := { y with v := u1 y.v (y.c.B k) w, bd := u1 y.bd i (y.bd i - 1) }
theorem note_step {k : Key} {w : Int} (hJ : Pj y) (hi : i <= y.c.W) (hb : 0 < y.bd i) (hk : (k = kTk /\ w = y.v (y.c.B kTk) + 1) \/ (∃ a b, k = kTick a b /\ 0 <= w /\ w <= y.c.K) \/ ∃ a b, k = kSlot a b /\ y.ph a b = 1 /\ y.ow a b = i) : LStep pL i (y.c.B k) y (noteY y i k w) := by
  have inj := hJ.inj
  have vne : ∀ k', k' ≠ k -> (noteY y i k w).v (y.c.B k') = y.v (y.c.B k') := fun k' hk' => u1_ne fun e => hk' (inj _ _ e)
  have hp := p_bd (bd' := u1 y.bd i (y.bd i - 1)) (Nat.le_succ_of_le hi) hb rfl
  have sne : ∀ a b, (y.ph a b = 2 \/ y.ph a b = 3 \/ y.ow a b ≠ i) -> kSlot a b ≠ k := fun a b h e => by
    subst e
    rcases hk with ⟨hk, _⟩ | ⟨_, _, hk, _⟩ | ⟨a', b', hk, h1, h2⟩
    · cases hk
    · cases hk
    · cases hk
      omega
  have hR : ∀ q, q ≠ i -> Pr q y (noteY y i k w) := fun q hq => ⟨rfl, fun _ => u1_ne hq, fun _ => rfl, fun _ => rfl, fun _ _ => rfl, fun _ => rfl, rfl, fun _ a b ho _ => ⟨ho, rfl, rfl, vne _ (sne a b (.inr (.inr (by omega))))⟩, fun _ => Nat.le_refl _, fun _ => Nat.le_refl _, fun _ _ h _ => h, fun a b h _ => ⟨h, rfl, vne _ (sne a b (.inl h))⟩, fun _ _ _ _ h _ => ⟨h, rfl⟩, rfl, rfl, u1_ne (by omega)⟩
  have hJ' : Pj (noteY y i k w) := by
    refine ⟨inj, hJ.ar, hJ.ad, hJ.n1, hJ.cK, fun a ha => (vne _ fun e => ?_).trans (hJ.vi a ha), fun a ha => (vne _ fun e => ?_).trans (hJ.vo a ha), fun a b ha hb' => (vne _ fun e => ?_).trans (hJ.vt a b ha hb'), hJ.oi, hJ.pm, fun a b ha hb' hph => ?_, fun a b ha hb' hph => ?_, ?_, fun a ha => ?_, ?_, fun a b => ?_⟩
    · subst e; rcases hk with ⟨hk, _⟩ | ⟨_, _, hk, _⟩ | ⟨_, _, hk, _⟩ <;> cases hk
    · subst e; rcases hk with ⟨hk, _⟩ | ⟨_, _, hk, _⟩ | ⟨_, _, hk, _⟩ <;> cases hk
    · subst e; rcases hk with ⟨hk, _⟩ | ⟨_, _, hk, _⟩ | ⟨_, _, hk, _⟩ <;> cases hk
    · rw [show (noteY y i k w).v ((noteY y i k w).c.B (kSlot a b)) = y.v (y.c.B (kSlot a b)) from vne _ (sne a b (hph.elim .inl fun h => .inr (.inl h)))]
      exact hJ.lev a b ha hb' hph
    · exact hJ.ows a b ha hb' hph
    · rw [fv_eq (y := y) (y' := noteY y i k w) rfl fun a b _ _ => ⟨rfl, fun h => vne _ (sne a b (.inl h))⟩]
      exact hJ.vs
    · have hK := hJ.K a ha
      show (y.I a : Int) + ((nsum (y.c.W + 2) (u1 y.bd i (y.bd i - 1)) : Nat) : Int) <= y.c.K
      omega
    · have hT := hJ.tk
      show 0 <= u1 y.v (y.c.B k) w (y.c.B kTk) /\ u1 y.v (y.c.B k) w (y.c.B kTk) + ((nsum (y.c.W + 2) (u1 y.bd i (y.bd i - 1)) : Nat) : Int) <= y.c.K
      by_cases e : k = kTk
      · subst e
        rw [u1_same]
        rcases hk with ⟨_, hw⟩ | ⟨_, _, hk, _⟩ | ⟨_, _, hk, _⟩
        · omega
        · cases hk
        · cases hk
      · rw [u1_ne fun e' => e (inj _ _ e').symm]
        omega
    · show 0 <= u1 y.v (y.c.B k) w (y.c.B (kTick a b)) /\ u1 y.v (y.c.B k) w (y.c.B (kTick a b)) <= y.c.K
      by_cases e : k = kTick a b
      · subst e
        rw [u1_same]
        rcases hk with ⟨hk, _⟩ | ⟨_, _, _, hw⟩ | ⟨_, _, hk, _⟩
        · cases hk
        · exact hw
        · cases hk
      · rw [u1_ne fun e' => e (inj _ _ e').symm]
        exact hJ.tc a b
  exact ⟨p_stat rfl, hR, Nat.le_of_eq hp, fun z hz => u1_ne hz, rfl, hJ', p_fin (i := i) fun q _ hq => hR q hq⟩
def fillY (y : Py) (i g j : Nat) : Py := { y with v := u1 y.v (y.c.B (kTurn g j)) ((y.ps g j + 1 : Nat) : Int), ph := u2 y.ph g j 2, pu := u1 y.pu i (y.pu i ++ [y.v (y.c.B (kSlot g j))]), bd := u1 y.bd i (y.bd i - 1) }
theorem fill_step (hJ : Pj y) (i0 : 0 < i) (hi : i <= y.c.W) (hg : g < y.c.L) (hj : j < 64) (h1 : y.ph g j = 1) (ho : y.ow g j = i) (hl : LvOk y.c.L g (y.v (y.c.B (kSlot g j)))) (hb : 0 < y.bd i) : LStep pL i (y.c.B (kTurn g j)) y (fillY y i g j) := by
  have inj := hJ.inj
  have vne : ∀ k, k ≠ kTurn g j -> (fillY y i g j).v (y.c.B k) = y.v (y.c.B k) := fun k hk => u1_ne fun e => hk (inj _ _ e)
  have hp := p_bd (bd' := u1 y.bd i (y.bd i - 1)) (Nat.le_succ_of_le hi) hb rfl
  have phne : ∀ a b, ¬ (a = g /\ b = j) -> (fillY y i g j).ph a b = y.ph a b := fun a b h => u2_ne h
  have pheq : (fillY y i g j).ph g j = 2 := u2_same
  have hn : ∀ q, q ≠ i -> ∀ a b, (fillY y i g j).ow a b = q -> ((fillY y i g j).ph a b = 1 \/ (fillY y i g j).ph a b = 3) -> y.ow a b = q /\ (fillY y i g j).ph a b = y.ph a b := fun q hq a b ho' hp => by
    by_cases e : a = g /\ b = j
    · obtain ⟨rfl, rfl⟩ := e
      exact absurd ((show y.ow a b = q from ho').symm.trans ho) hq
    · exact ⟨ho', phne a b e⟩
  have hR : ∀ q, q ≠ i -> Pr q y (fillY y i g j) := fun q hq => by
    refine ⟨rfl, fun _ => u1_ne hq, fun _ => u1_ne hq, fun _ => rfl, fun _ _ => rfl, fun _ => rfl, rfl, fun _ a b ho' hph => ?_, fun a => Nat.le_refl _, fun a => Nat.le_refl _, fun a b hph _ => ?_, fun a b hph _ => ?_, fun q' hq' => hn q' (by rcases hq' with ⟨_, rfl⟩ | rfl <;> omega), u1_ne (by omega), rfl, u1_ne (by omega)⟩
    · have hne : ¬ (a = g /\ b = j) := fun ⟨ea, eb⟩ => by subst ea eb; omega
      exact ⟨ho', phne a b hne, rfl, vne _ (by intro e; cases e)⟩
    · exact (phne a b (fun ⟨ea, eb⟩ => by subst ea eb; omega)).trans hph
    · exact ⟨(phne a b (fun ⟨ea, eb⟩ => by subst ea eb; omega)).trans hph, rfl, vne _ (by intro e; cases e)⟩
  have hJ' : Pj (fillY y i g j) := by
    refine ⟨inj, hJ.ar, hJ.ad, hJ.n1, hJ.cK, fun a ha => (vne _ (by intro e'; cases e')).trans (hJ.vi a ha), fun a ha => (vne _ (by intro e'; cases e')).trans (hJ.vo a ha), fun a b ha hb' => ?_, hJ.oi, fun a b ha hb' => ?_, fun a b ha hb' hph => ?_, fun a b ha hb' hph => ?_, ?_, fun a ha => ?_, ?_, fun a b => ?_⟩
    · by_cases e : a = g /\ b = j
      · obtain ⟨rfl, rfl⟩ := e
        have : (fillY y i a b).tn a b = y.ps a b + 1 := by
          unfold Py.tn
          rw [pheq]
          rfl
        rw [this]
        exact u1_same
      · refine (vne _ (by intro e'; cases e'; exact e ⟨rfl, rfl⟩)).trans ((hJ.vt a b ha hb').trans ?_)
        congr 1
        unfold Py.tn
        rw [phne a b e]
        rfl
    · by_cases e : a = g /\ b = j
      · obtain ⟨rfl, rfl⟩ := e
        obtain ⟨m1, m2, m3, m4, m5⟩ := hJ.pm a b ha hb'
        rw [pheq]
        exact ⟨m1, by omega, fun h => by omega, fun _ => m4 (.inl h1), fun h => by omega⟩
      · rw [phne a b e]
        exact hJ.pm a b ha hb'
    · rw [show (fillY y i g j).v ((fillY y i g j).c.B (kSlot a b)) = y.v (y.c.B (kSlot a b)) from vne _ (by intro e'; cases e')]
      by_cases e : a = g /\ b = j
      · obtain ⟨rfl, rfl⟩ := e
        exact hl
      · rw [phne a b e] at hph
        exact hJ.lev a b ha hb' hph
    · by_cases e : a = g /\ b = j
      · obtain ⟨rfl, rfl⟩ := e
        rw [pheq] at hph
        omega
      · rw [phne a b e] at hph
        exact hJ.ows a b ha hb' hph
    · have hf := fv_add (y := y) (y' := fillY y i g j) rfl hg hj (by omega) pheq fun a b _ _ hne => ⟨phne a b hne, fun _ => vne _ (by intro e; cases e)⟩
      rw [vne _ (by intro e; cases e)] at hf
      have hi := Nat.le_succ_of_le hi
      have hq : (flW (u1 y.pu i (y.pu i ++ [y.v (y.c.B (kSlot g j))])) (y.c.W + 1)).Perm (y.v (y.c.B (kSlot g j)) :: flW y.pu (y.c.W + 1)) := flW_add i0 hi
      exact hq.trans ((hJ.vs.cons _).trans (hf.symm.append_right _))
    · have hK := hJ.K a ha
      show (y.I a : Int) + ((nsum (y.c.W + 2) (u1 y.bd i (y.bd i - 1)) : Nat) : Int) <= y.c.K
      omega
    · have := hJ.tk
      rw [show (fillY y i g j).v ((fillY y i g j).c.B kTk) = y.v (y.c.B kTk) from vne _ (by intro e'; cases e')]
      show _ /\ _ + ((nsum (y.c.W + 2) (u1 y.bd i (y.bd i - 1)) : Nat) : Int) <= y.c.K
      omega
    · rw [show (fillY y i g j).v ((fillY y i g j).c.B (kTick a b)) = y.v (y.c.B (kTick a b)) from vne _ (by intro e'; cases e')]
      exact hJ.tc a b
  exact ⟨p_stat rfl, hR, Nat.le_of_eq hp, fun z hz => u1_ne hz, rfl, hJ', p_fin (i := i) fun q _ hq => hR q hq⟩
def ptakY (y : Py) (i g : Nat) : Py := { y with v := u1 y.v (y.c.B (kOut g)) ((y.O g + 1 : Nat) : Int), O := u1 y.O g (y.O g + 1), ph := u2 y.ph g (y.O g % 64) 3, ow := u2 y.ow g (y.O g % 64) i, po := u1 y.po i (y.po i ++ [y.v (y.c.B (kSlot g (y.O g % 64)))]), bd := u1 y.bd i (y.bd i - 1) }
theorem ptake_J (hJ : Pj y) (i0 : 0 < i) (hi : i <= y.c.W + 1) (hg : g < y.c.L) (h2 : y.ph g (y.O g % 64) = 2) (hps : y.ps g (y.O g % 64) = y.O g) (hb : 0 < y.bd i) : Pj (ptakY y i g) := by
  have inj := hJ.inj
  have hj : y.O g % 64 < 64 := Nat.mod_lt _ (by omega)
  have vne : ∀ k, k ≠ kOut g -> (ptakY y i g).v (y.c.B k) = y.v (y.c.B k) := fun k hk => u1_ne fun e => hk (inj _ _ e)
  have hp := p_bd (bd' := u1 y.bd i (y.bd i - 1)) hi hb rfl
  have phne : ∀ a b, ¬ (a = g /\ b = y.O g % 64) -> (ptakY y i g).ph a b = y.ph a b := fun a b h => u2_ne h
  have pheq : (ptakY y i g).ph g (y.O g % 64) = 3 := u2_same
  obtain ⟨m1, m2, m3, m4, m5⟩ := hJ.pm g _ hg hj
  have m4' := m4 (.inr h2)
  have hoi := hJ.oi g hg
  refine ⟨inj, hJ.ar, hJ.ad, hJ.n1, hJ.cK, fun a ha => (vne _ (by intro e'; cases e')).trans (hJ.vi a ha), fun a ha => ?_, fun a b ha hb' => ?_, fun a ha => ?_, fun a b ha hb' => ?_, fun a b ha hb' hph => ?_, fun a b ha hb' hph => ?_, ?_, fun a ha => ?_, ?_, fun a b => ?_⟩
  · by_cases e : a = g
    · subst e
      show u1 y.v _ _ _ = ((u1 y.O a _ a : Nat) : Int)
      rw [u1_same]
      exact u1_same
    · refine (vne _ (by intro e'; cases e'; exact e rfl)).trans ((hJ.vo a ha).trans ?_)
      show _ = ((u1 y.O g _ a : Nat) : Int)
      rw [u1_ne e]
  · refine (vne _ (by intro e'; cases e')).trans ((hJ.vt a b ha hb').trans ?_)
    congr 1
    unfold Py.tn
    by_cases e : a = g /\ b = y.O g % 64
    · obtain ⟨rfl, rfl⟩ := e
      rw [pheq, h2]
      rfl
    · rw [phne a b e]
      rfl
  · show u1 y.O g _ a <= y.I a /\ y.I a <= u1 y.O g _ a + 64
    by_cases e : a = g
    · subst e; rw [u1_same]; omega
    · rw [u1_ne e]; exact hJ.oi a ha
  · obtain ⟨k1, k2, k3, k4, k5⟩ := hJ.pm a b ha hb'
    show y.ps a b % 64 = b /\ (ptakY y i g).ph a b <= 3 /\ ((ptakY y i g).ph a b = 0 -> y.I a <= y.ps a b /\ y.ps a b < u1 y.O g (y.O g + 1) a + 64) /\ ((ptakY y i g).ph a b = 1 \/ (ptakY y i g).ph a b = 2 -> u1 y.O g (y.O g + 1) a <= y.ps a b /\ y.ps a b < y.I a) /\ ((ptakY y i g).ph a b = 3 -> y.ps a b < u1 y.O g (y.O g + 1) a /\ y.I a <= y.ps a b + 64)
    by_cases ea : a = g
    · subst ea
      rw [u1_same]
      by_cases eb : b = y.O a % 64
      · subst eb
        rw [pheq]
        exact ⟨k1, by omega, fun h => by omega, fun h => by omega, fun _ => by omega⟩
      · rw [phne a b (fun e => eb e.2)]
        refine ⟨k1, k2, fun h => ?_, fun h => ?_, fun h => ?_⟩
        · have := k3 h; omega
        · have := k4 h
          have : y.ps a b ≠ y.O a := fun e => eb (by rw [<- e]; exact k1.symm)
          omega
        · have := k5 h; omega
    · rw [u1_ne ea, phne a b (fun e => ea e.1)]
      exact ⟨k1, k2, k3, k4, k5⟩
  · rw [show (ptakY y i g).v ((ptakY y i g).c.B (kSlot a b)) = y.v (y.c.B (kSlot a b)) from vne _ (by intro e'; cases e')]
    by_cases e : a = g /\ b = y.O g % 64
    · obtain ⟨rfl, rfl⟩ := e
      exact hJ.lev _ _ ha hj (.inl h2)
    · rw [phne a b e] at hph
      exact hJ.lev a b ha hb' hph
  · by_cases e : a = g /\ b = y.O g % 64
    · obtain ⟨rfl, rfl⟩ := e
      rw [show (ptakY y i a).ow a (y.O a % 64) = i from u2_same]
      exact ⟨i0, hi⟩
    · rw [phne a b e] at hph
      rw [show (ptakY y i g).ow a b = y.ow a b from u2_ne e]
      exact hJ.ows a b ha hb' hph
  · have hf := fv_add (y := ptakY y i g) (y' := y) rfl hg hj (by rw [pheq]; omega) h2 fun a b _ _ hne => ⟨(phne a b hne).symm, fun _ => (vne _ (by intro e; cases e)).symm⟩
    have hq : (flW (u1 y.po i (y.po i ++ [y.v (y.c.B (kSlot g (y.O g % 64)))])) (y.c.W + 1)).Perm (y.v (y.c.B (kSlot g (y.O g % 64))) :: flW y.po (y.c.W + 1)) := flW_add i0 hi
    refine (hJ.vs.trans (hf.append_right _)).trans ?_
    refine List.Perm.symm ((List.Perm.append_left _ hq).trans List.perm_middle)
  · have hK := hJ.K a ha
    show (y.I a : Int) + ((nsum (y.c.W + 2) (u1 y.bd i (y.bd i - 1)) : Nat) : Int) <= y.c.K
    omega
  · have := hJ.tk
    rw [show (ptakY y i g).v ((ptakY y i g).c.B kTk) = y.v (y.c.B kTk) from vne _ (by intro e'; cases e')]
    show _ /\ _ + ((nsum (y.c.W + 2) (u1 y.bd i (y.bd i - 1)) : Nat) : Int) <= y.c.K
    omega
  · rw [show (ptakY y i g).v ((ptakY y i g).c.B (kTick a b)) = y.v (y.c.B (kTick a b)) from vne _ (by intro e'; cases e')]
    exact hJ.tc a b
theorem ptake_step (hJ : Pj y) (i0 : 0 < i) (hi : i <= y.c.W) (hg : g < y.c.L) (h2 : y.ph g (y.O g % 64) = 2) (hps : y.ps g (y.O g % 64) = y.O g) (hb : 0 < y.bd i) : LStep pL i (y.c.B (kOut g)) y (ptakY y i g) := by
  have inj := hJ.inj
  have hj : y.O g % 64 < 64 := Nat.mod_lt _ (by omega)
  have vne : ∀ k, k ≠ kOut g -> (ptakY y i g).v (y.c.B k) = y.v (y.c.B k) := fun k hk => u1_ne fun e => hk (inj _ _ e)
  have hp := p_bd (bd' := u1 y.bd i (y.bd i - 1)) (Nat.le_succ_of_le hi) hb rfl
  have phne : ∀ a b, ¬ (a = g /\ b = y.O g % 64) -> (ptakY y i g).ph a b = y.ph a b := fun a b h => u2_ne h
  have pheq : (ptakY y i g).ph g (y.O g % 64) = 3 := u2_same
  obtain ⟨m1, m2, m3, m4, m5⟩ := hJ.pm g _ hg hj
  have m4' := m4 (.inr h2)
  have hoi := hJ.oi g hg
  have hn : ∀ q, q ≠ i -> ∀ a b, (ptakY y i g).ow a b = q -> ((ptakY y i g).ph a b = 1 \/ (ptakY y i g).ph a b = 3) -> y.ow a b = q /\ (ptakY y i g).ph a b = y.ph a b := fun q hq a b ho hp => by
    by_cases e : a = g /\ b = y.O g % 64
    · obtain ⟨rfl, rfl⟩ := e
      exact absurd (ho.symm.trans (show (ptakY y i a).ow a (y.O a % 64) = i from u2_same)) hq
    · exact ⟨(show (ptakY y i g).ow a b = y.ow a b from u2_ne e).symm.trans ho, u2_ne e⟩
  have hR : ∀ q, q ≠ i -> Pr q y (ptakY y i g) := fun q hq => by
    refine ⟨rfl, fun _ => u1_ne hq, fun _ => rfl, fun _ => u1_ne hq, fun _ _ => rfl, fun _ => rfl, rfl, fun _ a b ho' hph => ?_, fun a => Nat.le_refl _, fun a => ?_, fun a b hph _ => ?_, fun a b hph hO => ?_, fun q' hq' => hn q' (by rcases hq' with ⟨_, rfl⟩ | rfl <;> omega), rfl, u1_ne (by omega), u1_ne (by omega)⟩
    · have hne : ¬ (a = g /\ b = y.O g % 64) := fun ⟨ea, eb⟩ => by subst ea eb; omega
      exact ⟨(u2_ne hne).trans ho', phne a b hne, rfl, vne _ (by intro e; cases e)⟩
    · show y.O a <= u1 y.O g _ a
      by_cases e : a = g
      · subst e; rw [u1_same]; omega
      · rw [u1_ne e]; exact Nat.le_refl _
    · exact (phne a b (fun ⟨ea, eb⟩ => by subst ea eb; omega)).trans hph
    · have hne : ¬ (a = g /\ b = y.O g % 64) := fun ⟨ea, eb⟩ => by
        subst ea
        have : u1 y.O a (y.O a + 1) a = y.O a := hO
        rw [u1_same] at this
        omega
      exact ⟨(phne a b hne).trans hph, rfl, vne _ (by intro e; cases e)⟩
  exact ⟨p_stat rfl, hR, Nat.le_of_eq hp, fun z hz => u1_ne hz, rfl, ptake_J hJ i0 (Nat.le_succ_of_le hi) hg h2 hps hb, p_fin (i := i) fun q _ hq => hR q hq⟩
def freeY (y : Py) (i g j : Nat) : Py := { y with v := u1 y.v (y.c.B (kTurn g j)) ((y.ps g j + 64 : Nat) : Int), ph := u2 y.ph g j 0, ps := u2 y.ps g j (y.ps g j + 64), bd := u1 y.bd i (y.bd i - 1) }
theorem free_J (hJ : Pj y) (hi : i <= y.c.W + 1) (hg : g < y.c.L) (hj : j < 64) (h3 : y.ph g j = 3) (ho : y.ow g j = i) (hb : 0 < y.bd i) : Pj (freeY y i g j) := by
  have inj := hJ.inj
  have vne : ∀ k, k ≠ kTurn g j -> (freeY y i g j).v (y.c.B k) = y.v (y.c.B k) := fun k hk => u1_ne fun e => hk (inj _ _ e)
  have hp := p_bd (bd' := u1 y.bd i (y.bd i - 1)) hi hb rfl
  have phne : ∀ a b, ¬ (a = g /\ b = j) -> (freeY y i g j).ph a b = y.ph a b := fun a b h => u2_ne h
  have psne : ∀ a b, ¬ (a = g /\ b = j) -> (freeY y i g j).ps a b = y.ps a b := fun a b h => u2_ne h
  have pheq : (freeY y i g j).ph g j = 0 := u2_same
  have pseq : (freeY y i g j).ps g j = y.ps g j + 64 := u2_same
  refine ⟨inj, hJ.ar, hJ.ad, hJ.n1, hJ.cK, fun a ha => (vne _ (by intro e'; cases e')).trans (hJ.vi a ha), fun a ha => (vne _ (by intro e'; cases e')).trans (hJ.vo a ha), fun a b ha hb' => ?_, hJ.oi, fun a b ha hb' => ?_, fun a b ha hb' hph => ?_, fun a b ha hb' hph => ?_, ?_, fun a ha => ?_, ?_, fun a b => ?_⟩
  · by_cases e : a = g /\ b = j
    · obtain ⟨rfl, rfl⟩ := e
      have : (freeY y i a b).tn a b = y.ps a b + 64 := by
        unfold Py.tn
        rw [pheq, pseq]
        rfl
      rw [this]
      exact u1_same
    · refine (vne _ (by intro e'; cases e'; exact e ⟨rfl, rfl⟩)).trans ((hJ.vt a b ha hb').trans ?_)
      congr 1
      unfold Py.tn
      rw [phne a b e, psne a b e]
  · obtain ⟨m1, m2, m3, m4, m5⟩ := hJ.pm a b ha hb'
    by_cases e : a = g /\ b = j
    · obtain ⟨rfl, rfl⟩ := e
      have := m5 h3
      rw [pheq, pseq]
      exact ⟨by omega, by omega, fun _ => ⟨this.2, by show y.ps a b + 64 < y.O a + 64; omega⟩, fun h => by omega, fun h => by omega⟩
    · rw [phne a b e, psne a b e]
      exact ⟨m1, m2, m3, m4, m5⟩
  · rw [show (freeY y i g j).v ((freeY y i g j).c.B (kSlot a b)) = y.v (y.c.B (kSlot a b)) from vne _ (by intro e'; cases e')]
    by_cases e : a = g /\ b = j
    · obtain ⟨rfl, rfl⟩ := e
      rw [pheq] at hph
      omega
    · rw [phne a b e] at hph
      exact hJ.lev a b ha hb' hph
  · by_cases e : a = g /\ b = j
    · obtain ⟨rfl, rfl⟩ := e
      rw [pheq] at hph
      omega
    · rw [phne a b e] at hph
      exact hJ.ows a b ha hb' hph
  · have : (freeY y i g j).fl = y.fl := by
      unfold Py.fl
      refine fmW_congr fun x x0 hx => ?_
      unfold Py.fv
      by_cases e : (x - 1) / 64 = g /\ (x - 1) % 64 = j
      · rw [e.1, e.2, pheq, h3]
        simp
      · rw [phne _ _ e]
        rw [show (freeY y i g j).v ((freeY y i g j).c.B (kSlot ((x - 1) / 64) ((x - 1) % 64))) = y.v (y.c.B (kSlot ((x - 1) / 64) ((x - 1) % 64))) from vne _ (by intro e'; cases e')]
    rw [this]
    exact hJ.vs
  · have hK := hJ.K a ha
    show (y.I a : Int) + ((nsum (y.c.W + 2) (u1 y.bd i (y.bd i - 1)) : Nat) : Int) <= y.c.K
    omega
  · have := hJ.tk
    rw [show (freeY y i g j).v ((freeY y i g j).c.B kTk) = y.v (y.c.B kTk) from vne _ (by intro e'; cases e')]
    show _ /\ _ + ((nsum (y.c.W + 2) (u1 y.bd i (y.bd i - 1)) : Nat) : Int) <= y.c.K
    omega
  · rw [show (freeY y i g j).v ((freeY y i g j).c.B (kTick a b)) = y.v (y.c.B (kTick a b)) from vne _ (by intro e'; cases e')]
    exact hJ.tc a b
theorem free_step (hJ : Pj y) (hi : i <= y.c.W) (hg : g < y.c.L) (hj : j < 64) (h3 : y.ph g j = 3) (ho : y.ow g j = i) (hb : 0 < y.bd i) : LStep pL i (y.c.B (kTurn g j)) y (freeY y i g j) := by
  have inj := hJ.inj
  have vne : ∀ k, k ≠ kTurn g j -> (freeY y i g j).v (y.c.B k) = y.v (y.c.B k) := fun k hk => u1_ne fun e => hk (inj _ _ e)
  have hp := p_bd (bd' := u1 y.bd i (y.bd i - 1)) (Nat.le_succ_of_le hi) hb rfl
  have phne : ∀ a b, ¬ (a = g /\ b = j) -> (freeY y i g j).ph a b = y.ph a b := fun a b h => u2_ne h
  have psne : ∀ a b, ¬ (a = g /\ b = j) -> (freeY y i g j).ps a b = y.ps a b := fun a b h => u2_ne h
  have pheq : (freeY y i g j).ph g j = 0 := u2_same
  have pseq : (freeY y i g j).ps g j = y.ps g j + 64 := u2_same
  have hn : ∀ q, q ≠ i -> ∀ a b, (freeY y i g j).ow a b = q -> ((freeY y i g j).ph a b = 1 \/ (freeY y i g j).ph a b = 3) -> y.ow a b = q /\ (freeY y i g j).ph a b = y.ph a b := fun q hq a b ho' hp => by
    by_cases e : a = g /\ b = j
    · obtain ⟨rfl, rfl⟩ := e
      exact absurd ((show y.ow a b = q from ho').symm.trans ho) hq
    · exact ⟨ho', phne a b e⟩
  have hR : ∀ q, q ≠ i -> Pr q y (freeY y i g j) := fun q hq => by
    refine ⟨rfl, fun _ => u1_ne hq, fun _ => rfl, fun _ => rfl, fun _ _ => rfl, fun _ => rfl, rfl, fun _ a b ho' hph => ?_, fun a => Nat.le_refl _, fun a => Nat.le_refl _, fun a b hph _ => ?_, fun a b hph _ => ?_, fun q' hq' => hn q' (by rcases hq' with ⟨_, rfl⟩ | rfl <;> omega), rfl, rfl, u1_ne (by omega)⟩
    · have hne : ¬ (a = g /\ b = j) := fun ⟨ea, eb⟩ => by subst ea eb; omega
      exact ⟨ho', phne a b hne, psne a b hne, vne _ (by intro e; cases e)⟩
    · exact (phne a b (fun ⟨ea, eb⟩ => by subst ea eb; omega)).trans hph
    · have hne : ¬ (a = g /\ b = j) := fun ⟨ea, eb⟩ => by subst ea eb; omega
      exact ⟨(phne a b hne).trans hph, psne a b hne, vne _ (by intro e; cases e)⟩
  exact ⟨p_stat rfl, hR, Nat.le_of_eq hp, fun z hz => u1_ne hz, rfl, free_J hJ (Nat.le_succ_of_le hi) hg hj h3 ho hb, p_fin (i := i) fun q _ hq => hR q hq⟩
theorem pmap_u1 {n j : Nat} {g : Nat -> Value} {v : Value} : ((List.range n).map (u1 g j v)).toArray = (((List.range n).map g).toArray).setIfInBounds j v := map_u1 (fun z : Value => z)
def pspY (y : Py) (i : Nat) (v : Value) : Py := { y with sp := u1 y.sp (i - 1) v }
def psqY (y : Py) (i : Nat) (v : Value) : Py := { y with sq := u1 y.sq (i - 1 - y.c.n) v }
theorem psp_move {v : Value} (hJ : Pj y) (hi0 : 0 < i) (hi : i <= y.c.n) : AMove pL i y.c.pb (i - 1) v y (pspY y i v) := by
  have hR : ∀ q, q ≠ i -> Pr q y (pspY y i v) := fun q hq => ⟨rfl, fun _ => rfl, fun _ => rfl, fun _ => rfl, fun j0 _ => u1_ne (by omega), fun _ => rfl, rfl, fun _ a b h _ => ⟨h, rfl, rfl, rfl⟩, fun _ => Nat.le_refl _, fun _ => Nat.le_refl _, fun _ _ h _ => h, fun _ _ h _ => ⟨h, rfl, rfl⟩, fun _ _ _ _ h _ => ⟨h, rfl⟩, rfl, rfl, rfl⟩
  refine ⟨p_stat rfl, hR, Nat.le_refl _, rfl, fun x hx => ?_, ?_, ⟨hJ.inj, hJ.ar, hJ.ad, hJ.n1, hJ.cK, hJ.vi, hJ.vo, hJ.vt, hJ.oi, hJ.pm, hJ.lev, hJ.ows, hJ.vs, hJ.K, hJ.tk, hJ.tc⟩, p_fin (i := i) fun q _ hq => hR q hq⟩
  · show (if x = y.c.pb then _ else _) = if x = y.c.pb then _ else _
    rw [if_neg hx, if_neg hx]
    rfl
  · show (if y.c.pb = y.c.pb then _ else _) = (if y.c.pb = y.c.pb then _ else _ : Array Value).setIfInBounds _ _
    rw [if_pos rfl, if_pos rfl]
    exact pmap_u1
theorem psq_move {v : Value} (hJ : Pj y) (hi0 : y.c.n < i) (hi : i <= y.c.W) : AMove pL i y.c.qb (i - 1 - y.c.n) v y (psqY y i v) := by
  have hW : i <= y.c.n + y.c.q := hi
  have hR : ∀ q, q ≠ i -> Pr q y (psqY y i v) := fun q hq => ⟨rfl, fun _ => rfl, fun _ => rfl, fun _ => rfl, fun _ _ => rfl, fun hq' => u1_ne (by omega), u1_ne (by omega), fun _ a b h _ => ⟨h, rfl, rfl, rfl⟩, fun _ => Nat.le_refl _, fun _ => Nat.le_refl _, fun _ _ h _ => h, fun _ _ h _ => ⟨h, rfl, rfl⟩, fun _ _ _ _ h _ => ⟨h, rfl⟩, rfl, rfl, rfl⟩
  refine ⟨p_stat rfl, hR, Nat.le_refl _, rfl, fun x hx => ?_, ?_, ⟨hJ.inj, hJ.ar, hJ.ad, hJ.n1, hJ.cK, hJ.vi, hJ.vo, hJ.vt, hJ.oi, hJ.pm, hJ.lev, hJ.ows, hJ.vs, hJ.K, hJ.tk, hJ.tc⟩, p_fin (i := i) fun q _ hq => hR q hq⟩
  · show (if x = y.c.pb then _ else if x = y.c.qb then _ else _) = if x = y.c.pb then _ else if x = y.c.qb then _ else _
    rw [if_neg hx, if_neg hx]
    rfl
  · have e : y.c.qb ≠ y.c.pb := fun z => hJ.ad.1 z.symm
    show (if y.c.qb = y.c.pb then _ else if y.c.qb = y.c.qb then _ else _) = (if y.c.qb = y.c.pb then _ else if y.c.qb = y.c.qb then _ else _ : Array Value).setIfInBounds _ _
    rw [if_neg e, if_neg e, if_pos rfl, if_pos rfl]
    exact pmap_u1
theorem rep_set {n j : Nat} {v : Value} : (Array.replicate n v).setIfInBounds j v = Array.replicate n v := by
  apply Array.ext
  · simp
  · intro k h1 h2
    simp [Array.getElem_setIfInBounds]
theorem pwb_move {j : Nat} (hJ : Pj y) : AMove pL i y.c.wb j (.bool false) y y := by
  obtain ⟨d1, d2, d3, d4, d5, d6⟩ := hJ.ad
  refine ⟨p_stat rfl, fun q _ => pL_ok.refl q y, Nat.le_refl _, rfl, fun _ _ => rfl, ?_, hJ, fun _ _ _ h => h⟩
  show (if y.c.wb = y.c.pb then _ else if y.c.wb = y.c.qb then _ else if y.c.wb = y.c.wb then _ else _) = (if y.c.wb = y.c.pb then _ else if y.c.wb = y.c.qb then _ else if y.c.wb = y.c.wb then _ else _ : Array Value).setIfInBounds _ _
  rw [if_neg (fun z => d2 z.symm), if_neg (fun z => d4 z.symm), if_pos rfl]
  exact rep_set.symm
theorem pfb_move {j : Nat} (hJ : Pj y) : AMove pL i y.c.fb j (.bool false) y y := by
  obtain ⟨d1, d2, d3, d4, d5, d6⟩ := hJ.ad
  refine ⟨p_stat rfl, fun q _ => pL_ok.refl q y, Nat.le_refl _, rfl, fun _ _ => rfl, ?_, hJ, fun _ _ _ h => h⟩
  show (if y.c.fb = y.c.pb then _ else if y.c.fb = y.c.qb then _ else if y.c.fb = y.c.wb then _ else _) = (if y.c.fb = y.c.pb then _ else if y.c.fb = y.c.qb then _ else if y.c.fb = y.c.wb then _ else _ : Array Value).setIfInBounds _ _
  rw [if_neg (fun z => d3 z.symm), if_neg (fun z => d5 z.symm), if_neg (fun z => d6 z.symm)]
  exact rep_set.symm
end
end
section
open Go Go.TJ Go.Proofs
variable [Dm]
structure OwnP (i : Nat) (c : Pc') (hd : Option (Nat × Nat)) (pu po : List Int) (bd : Nat) (sp sq : Value) (y : Py) : Prop where
  cc : y.c = c
  pu : y.pu i = pu
  po : y.po i = po
  bd : bd <= y.bd i
  sp : i <= c.n -> y.sp (i - 1) = sp
  sq : c.n < i -> y.sq (i - 1 - c.n) = sq
  own : ∀ a b, y.ow a b = i -> (y.ph a b = 1 \/ y.ph a b = 3) -> hd = some (a, b)
structure Cl (g p s : Nat) (y : Py) : Prop where
  I : p <= y.I g
  v : y.v (y.c.B (kIn g)) = y.I g
  pr : pL.pairs y <= s
  ne : y.I g ≠ p -> pL.pairs y < s
structure Cd (i g p : Nat) (y : Py) : Prop where
  ph : y.ph g (p % 64) = 1
  ow : y.ow g (p % 64) = i
  ps : y.ps g (p % 64) = p
section
variable {i g p s : Nat} {c : Pc'} {hd : Option (Nat × Nat)} {pu po : List Int} {bd : Nat} {sp sq : Value} {y y' : Py} {z : Int}
theorem OwnP.rel (o : OwnP i c hd pu po bd sp sq y) (h0 : 0 < i) (r : LRel pL i y y') : OwnP i c hd pu po bd sp sq y' := by
  have q : Pr i y y' := r.law
  have hc := o.cc
  refine ⟨q.c.trans hc, (q.pu h0).trans o.pu, (q.po h0).trans o.po, by rw [q.bd h0]; exact o.bd, fun h => (q.sp h0 (by rw [hc]; exact h)).trans (o.sp h), fun h => ?_, fun a b ho hp => ?_⟩
  · have := q.sq (by rw [hc]; exact h)
    rw [hc] at this
    exact this.trans (o.sq h)
  · obtain ⟨p1, p2⟩ := q.new i (.inl ⟨h0, rfl⟩) a b ho hp
    exact o.own a b p1 (by rw [<- p2]; exact hp)
theorem OwnP.less (o : OwnP i c hd pu po bd sp sq y) {b : Nat} (h : b <= bd) : OwnP i c hd pu po b sp sq y := ⟨o.cc, o.pu, o.po, Nat.le_trans h o.bd, o.sp, o.sq, o.own⟩
theorem p_pairs (r : LRel pL i y y') {b : Nat} (h : y'.v b ≠ y.v b) : pL.pairs y' < pL.pairs y :=
  Nat.lt_of_le_of_ne r.pairs fun e => h (congrFun (r.vals e) b)
theorem Cl.now (hJ : Pj y) (hg : g < y.c.L) (hs : pL.pairs y <= s) : Cl g (y.I g) s y := ⟨Nat.le_refl _, hJ.vi g hg, hs, fun h => absurd rfl h⟩
theorem Cl.rel (k : Cl g p s y) (hJ : Pj y') (hg : g < y'.c.L) (r : LRel pL i y y') : Cl g p s y' := by
  have q : Pr i y y' := r.law
  have hv := hJ.vi g hg
  refine ⟨Nat.le_trans k.I (q.I g), hv, Nat.le_trans r.pairs k.pr, fun h => ?_⟩
  by_cases e : y.I g = p
  · have hp := k.pr
    refine Nat.lt_of_lt_of_le (p_pairs r (b := y.c.B (kIn g)) fun e' => h ?_) hp
    have h1 := k.v
    rw [q.c] at hv
    rw [hv, h1] at e'
    omega
  · have := k.ne e
    have := r.pairs
    omega
theorem Cd.rel (k : Cd i g p y) (h0 : 0 < i) (r : LRel pL i y y') : Cd i g p y' := by
  obtain ⟨p1, p2, p3, _⟩ := (show Pr i y y' from r.law).own h0 g _ k.ow (.inl k.ph)
  exact ⟨p2.trans k.ph, p1, p3.trans k.ps⟩
theorem Cd.slot (k : Cd i g p y) (h0 : 0 < i) (r : LRel pL i y y') (hc : y.c = c) (hz : y.v (c.B (kSlot g (p % 64))) = z) : y'.v (c.B (kSlot g (p % 64))) = z := by
  obtain ⟨_, _, _, p4⟩ := (show Pr i y y' from r.law).own h0 g _ k.ow (.inl k.ph)
  rw [hc] at p4
  exact p4.trans hz
theorem turn_says (hJ : Pj y) (hg : g < y.c.L) {t : Int} (ht : y.v (y.c.B (kTurn g (p % 64))) = t) (k : Cl g p s y) : 0 <= t /\ t <= 1000000100 /\ (t = p -> y.I g = p -> y.ph g (p % 64) = 0 /\ y.ps g (p % 64) = p) /\ (t > p -> pL.pairs y < s) := by
  have hj : p % 64 < 64 := Nat.mod_lt _ (by omega)
  have hv := hJ.vt g _ hg hj
  rw [ht] at hv
  obtain ⟨m1, m2, m3, m4, m5⟩ := hJ.pm g _ hg hj
  have hoi := hJ.oi g hg
  have hK := hJ.K g hg
  have hcK := hJ.cK
  have tn : y.tn g (p % 64) = if y.ph g (p % 64) = 2 \/ y.ph g (p % 64) = 3 then y.ps g (p % 64) + 1 else y.ps g (p % 64) := rfl
  have hkI := k.I
  rcases (show y.ph g (p % 64) = 0 \/ y.ph g (p % 64) = 1 \/ y.ph g (p % 64) = 2 \/ y.ph g (p % 64) = 3 by omega) with e | e | e | e
  · rw [if_neg (by omega)] at tn
    have := m3 e
    refine ⟨by omega, by omega, fun _ _ => ⟨e, by omega⟩, fun h => k.ne ?_⟩
    omega
  · rw [if_neg (by omega)] at tn
    have := m4 (.inl e)
    refine ⟨by omega, by omega, fun _ _ => by omega, fun h => k.ne ?_⟩
    omega
  · rw [if_pos (by omega)] at tn
    have := m4 (.inr e)
    refine ⟨by omega, by omega, fun _ _ => by omega, fun h => k.ne ?_⟩
    omega
  · rw [if_pos (by omega)] at tn
    have := m5 e
    refine ⟨by omega, by omega, fun _ _ => by omega, fun h => k.ne ?_⟩
    omega
end
structure KP (c : Pc') (capL : Nat) (capP : Nat -> Nat) (h : Hp) : Prop where
  tk : hcell h ⟨c.B kTop, 0, none⟩ = some (ptr (c.B kTk))
  lv : hcell h ⟨c.B kTop, 1, none⟩ = some (.slice (some ⟨c.B kLvs, 0, none⟩) c.L capL)
  lev : ∀ g, g < c.L -> hcell h ⟨c.B kLvs, 0 + g * 1, none⟩ = some (ptr (c.B (kLev g)))
  pin : ∀ g, g < c.L -> hcell h ⟨c.B (kLev g), 0, none⟩ = some (ptr (c.B (kIn g)))
  out : ∀ g, g < c.L -> hcell h ⟨c.B (kLev g), 1, none⟩ = some (ptr (c.B (kOut g)))
  pls : ∀ g, g < c.L -> hcell h ⟨c.B (kLev g), 2, none⟩ = some (.slice (some ⟨c.B (kPls g), 0, none⟩) 64 (capP g))
  pl : ∀ g j t, g < c.L -> j < 64 -> t < 3 -> hcell h ⟨c.B (kPls g), 0 + j * 3 + t, none⟩ = some (ptr (c.B (7 + t, g + 1, j)))
theorem KP.upd {c : Pc'} {capL : Nat} {capP : Nat -> Nat} {h h' : Hp} (m : KP c capL capP h) (u : Upd (fun _ => False) h h') : KP c capL capP h' where
  tk := u.hcell m.tk fun z => z
  lv := u.hcell m.lv fun z => z
  lev g hg := u.hcell (m.lev g hg) fun z => z
  pin g hg := u.hcell (m.pin g hg) fun z => z
  out g hg := u.hcell (m.out g hg) fun z => z
  pls g hg := u.hcell (m.pls g hg) fun z => z
  pl g j t hg hj ht := u.hcell (m.pl g j t hg hj ht) fun z => z
section
variable {Γ : Type} {main : Bool} {h : Hp} {δ : Ix Γ}
theorem pat_g {S : Sit Γ} {h : Hp} {lb pb cp p : Nat} (cs : hcell h ⟨lb, 2, none⟩ = some (.slice (some ⟨pb, 0, none⟩) 64 cp)) (hp : p < 4611686018427387904) (hDu : ¬ S.dull δ.g) :
    CallW Try.prog main S 84 #[ptr lb, .int .i64 p] h δ (Ret (Det (.pointer (some ⟨pb, 0 + (p % 64) * 3, none⟩)) h δ)) := by
  have hlt : p % 64 < 64 := Nat.mod_lt _ (by omega)
  refine CallW.start (n := 18) rfl rfl ?_
  (repeat (first | refine EK.seq ?_ | refine EK.region ?_ | refine ER.done ?_ | refine ER.assign rfl rfl rfl ?_))
  refine EK.regionAny (fun h' => h' = h) ?_ (hDu := hDu)
  have hZ : h = h := rfl
  refine EA.tMove 0 rfl (by kernel_rfl) rfl rfl rfl rfl hZ ?_
  refine EA.tNil 1 rfl (by kernel_rfl) rfl rfl rfl rfl hZ ?_
  refine EA.tField 2 rfl (by kernel_rfl) rfl rfl rfl rfl hZ ?_
  refine EA.tLoad 3 rfl (by kernel_rfl) rfl rfl rfl rfl (fun _ hz => hz ▸ cs) hZ ?_
  refine EA.tMove 4 rfl (by kernel_rfl) rfl rfl rfl rfl hZ ?_
  refine EA.tMove 5 rfl (by kernel_rfl) rfl rfl rfl rfl hZ ?_
  refine EA.tNil 6 rfl (by kernel_rfl) rfl rfl rfl rfl hZ ?_
  refine EA.tField 7 rfl (by kernel_rfl) rfl rfl rfl rfl hZ ?_
  refine EA.tLoad 8 rfl (by kernel_rfl) rfl rfl rfl rfl (fun _ hz => hz ▸ cs) hZ ?_
  refine EA.tLen1 9 rfl (by kernel_rfl) rfl rfl rfl rfl hZ ?_
  refine EA.tSub (kd := .i64) 10 rfl (by kernel_rfl) rfl rfl rfl rfl rfl (i64_in (by omega) (by omega)) hZ ?_
  refine EA.tBinI (kd := .i64) (v := .int .i64 ((p % 64 : Nat) : Int)) 11 rfl (by kernel_rfl) rfl rfl rfl rfl rfl (by rw [binOp_bits (.inl rfl)]; exact congrArg (fun z => pure (Value.int .i64 z)) (mask (m := 64) (e := 6) rfl (by decide) hp)) hZ ?_
  refine EA.tIdxS 12 rfl (by kernel_rfl) rfl rfl rfl rfl rfl (by omega) (by omega) hZ ?_
  refine EA.tAssign 13 rfl (by kernel_rfl) rfl rfl rfl rfl hZ ?_
  refine EA.done (by kernel_rfl) ?_
  (repeat refine EK.ret ?_)
  exact EU.ret1 rfl rfl det
end
section
variable {h : Hp} {δ : Ix (Gf Py)} {i g : Nat} {c : Pc'} {hd : Option (Nat × Nat)} {pu po : List Int} {bd : Nat} {sp sq : Value} {capL : Nat} {capP : Nat -> Nat}
theorem mem_in {y : Py} (hg : g < c.L) (hc : y.c = c) : c.B (kIn g) ∈ pL.cls y := by rw [<- hc] at hg ⊢; exact p_cls (k_in hg)
theorem mem_out {y : Py} (hg : g < c.L) (hc : y.c = c) : c.B (kOut g) ∈ pL.cls y := by rw [<- hc] at hg ⊢; exact p_cls (k_out hg)
theorem mem_turn {y : Py} {p : Nat} (hg : g < c.L) (hc : y.c = c) : c.B (kTurn g (p % 64)) ∈ pL.cls y := by rw [<- hc] at hg ⊢; exact p_cls (k_turn hg (Nat.mod_lt _ (by omega)))
theorem mem_tick {y : Py} {p : Nat} (hg : g < c.L) (hc : y.c = c) : c.B (kTick g (p % 64)) ∈ pL.cls y := by rw [<- hc] at hg ⊢; exact p_cls (k_tick hg (Nat.mod_lt _ (by omega)))
theorem mem_slot {y : Py} {p : Nat} (hg : g < c.L) (hc : y.c = c) : c.B (kSlot g (p % 64)) ∈ pL.cls y := by rw [<- hc] at hg ⊢; exact p_cls (k_slot hg (Nat.mod_lt _ (by omega)))
theorem mem_tk {y : Py} (hc : y.c = c) : c.B kTk ∈ pL.cls y := by rw [<- hc]; exact p_cls k_tk
set_option maxRecDepth 8000 in
set_option maxHeartbeats 4000000 in
theorem claim_w (hA : Idle pL i δ.g) (hi : i <= c.W) (o : OwnP i c none pu po bd sp sq δ.g.y) (hbd : 1 <= bd) (hg : g < c.L) (m : KP c capL capP h) :
    CallW Try.prog false (SitW Try.prog (XF TT pL) i) 83 #[ptr (c.B (kLev g)), .pointer none] h δ (Ret (Cq pL i h δ.d δ.g.wg fun v y => (v = .tuple #[.int .i64 0, .bool false] /\ OwnP i c none pu po bd sp sq y) \/ ∃ p : Nat, v = .tuple #[.int .i64 p, .bool true] /\ p <= 1000000000 /\ OwnP i c (some (g, p % 64)) pu po (bd - 1) sp sq y /\ Cd i g p y)) := by
  have i0 := hA.i0
  have mi := m.pin g hg
  refine CallW.start (n := 42) rfl rfl ?_
  (repeat (first | refine EK.seq ?_ | refine EK.region ?_ | refine ER.done ?_ | refine EK.block ?_ | refine ER.assign rfl rfl rfl ?_))
  refine EK.loopInv (fun _ : Nat => [(1, .pointer none), (0, ptr (c.B (kLev g)))]) (fun s h2 δ2 => h2 = h /\ δ2.d = δ.d /\ δ2.g.wg = δ.g.wg /\ Idle pL i δ2.g /\ OwnP i c none pu po bd sp sq δ2.g.y /\ pL.pairs δ2.g.y <= s) (fun s => s) (pL.pairs δ.g.y) ⟨rfl, rfl, trivial⟩ ⟨rfl, rfl, rfl, hA, o, Nat.le_refl _⟩ ?_
  rintro s h2 ⟨d2, γ2⟩ ⟨rfl, e2, w2, a2, o2, p2⟩ again
  simp only at e2 w2 a2 o2 p2
  (repeat (first | refine EK.seq ?_ | refine EK.region ?_ | refine EK.block ?_ | refine ER.move rfl rfl rfl ?_ | refine ER.nilCheck rfl rfl rfl ?_ | refine ER.fieldAddr rfl rfl rfl ?_ | refine ER.load1 rfl rfl rfl (by assumption) ?_))
  refine ER.callR rfl rfl rfl rfl rfl (cload_f (F := fun v y => ∃ p : Nat, v = .int .i64 p /\ p <= 1000000000 /\ OwnP i c none pu po bd sp sq y /\ Cl g p s y) pL_ok a2 (b := c.B (kIn g)) (mem_in hg o2.cc) fun y₁ q1 j1 => ?_) ?_
  · have o1 := o2.rel i0 q1
    have ec := o1.cc
    have hv := j1.vi g (by rw [ec]; exact hg)
    have hK := j1.K g (by rw [ec]; exact hg)
    have hcK := j1.cK
    rw [ec] at hv
    exact ⟨y₁, LMove.none pL_ok j1, y₁.I g, congrArg (Value.int .i64) hv, by omega, o1, Cl.now j1 (by rw [ec]; exact hg) (Nat.le_trans q1.pairs p2)⟩
  rintro v h3 ⟨d3, γ3⟩ ⟨rfl, e3, w3, a3, p, rfl, hp, o3, k3⟩
  simp only at e3 w3 a3 o3 k3
  have mp := m.pl g (p % 64) 0 hg (Nat.mod_lt _ (by omega)) (by omega)
  (repeat (first | refine EK.seq ?_ | refine EK.region ?_ | refine ER.done ?_ | refine ER.move rfl rfl rfl ?_ | refine ER.assign rfl rfl rfl ?_))
  refine ER.callD rfl rfl rfl rfl rfl (pat_g (m.pls g hg) (by omega) a3.at.nd) ?_
  (repeat (first | refine ER.move rfl rfl rfl ?_ | refine ER.nilCheck rfl rfl rfl ?_ | refine ER.fieldAddr rfl rfl rfl ?_ | refine ER.load1 rfl rfl rfl (by assumption) ?_))
  refine ER.callR rfl rfl rfl rfl rfl (cload_f (F := fun v y => ∃ t : Int, v = .int .i64 t /\ 0 <= t /\ t <= 1000000100 /\ OwnP i c none pu po bd sp sq y /\ Cl g p s y /\ (t = p -> y.I g = p -> y.ph g (p % 64) = 0 /\ y.ps g (p % 64) = p) /\ (t > p -> pL.pairs y < s)) pL_ok a3 (b := c.B (kTurn g (p % 64))) (mem_turn hg o3.cc) fun y₁ q1 j1 => ?_) ?_
  · have o1 := o3.rel i0 q1
    have ec := o1.cc
    have k1 := k3.rel j1 (by rw [ec]; exact hg) q1
    obtain ⟨t0, t1, t2, t3⟩ := turn_says (t := y₁.v (c.B (kTurn g (p % 64)))) j1 (by rw [ec]; exact hg) (by rw [ec]) k1
    exact ⟨y₁, LMove.none pL_ok j1, _, rfl, t0, t1, o1, k1, t2, t3⟩
  rintro v h4 ⟨d4, γ4⟩ ⟨rfl, e4, w4, a4, t, rfl, t0, t1, o4, k4, z4, l4⟩
  simp only at e4 w4 a4 o4 k4 z4 l4
  rcases (show t < p \/ t = p \/ t > p by omega) with ht | rfl | ht
  · have hneg : t - p < 0 := by omega
    (repeat (first | refine EK.seq ?_ | refine EK.region ?_ | refine ER.done ?_ | refine EK.block ?_ | refine ER.move rfl rfl rfl ?_ | refine ER.assign rfl rfl rfl ?_ | refine ER.cmpT rfl rfl rfl rfl rfl (by first | (dsimp only [cmpP]; omega) | exact rfl | exact Int.le_refl _) ?_ | refine ER.sub' (kd := .i64) rfl rfl rfl rfl (i64_in (by omega) (by omega)) ?_ | refine EK.condT rfl ?_ | refine EK.ret ?_))
    exact EU.ret2 rfl rfl rfl ⟨rfl, (e4.trans e3).trans e2, (w4.trans w3).trans w2, a4, .inl ⟨rfl, o4⟩⟩
  · replace z4 := z4 rfl
    (repeat (first | refine EK.seq ?_ | refine EK.region ?_ | refine ER.done ?_ | refine EK.block ?_ | refine ER.move rfl rfl rfl ?_ | refine ER.assign rfl rfl rfl ?_ | refine ER.nilCheck rfl rfl rfl ?_ | refine ER.fieldAddr rfl rfl rfl ?_ | refine ER.cmpT rfl rfl rfl rfl rfl (by first | (dsimp only [cmpP]; omega) | exact rfl | exact Int.le_refl _) ?_ | refine ER.cmpF rfl rfl rfl rfl rfl (by first | (dsimp only [cmpP]; omega) | exact rfl | exact Int.le_refl _) ?_ | refine ER.add (kd := .i64) rfl rfl rfl rfl (i64_in (by omega) (by omega)) ?_ | refine ER.sub' (kd := .i64) rfl rfl rfl rfl (i64_in (by omega) (by omega)) ?_ | refine EK.condF rfl ?_ | refine ER.load1 rfl rfl rfl (by assumption) ?_))
    refine ER.callR rfl rfl rfl rfl rfl (ccas_f (F := fun v y => (v = .bool true /\ OwnP i c (some (g, p % 64)) pu po (bd - 1) sp sq y /\ Cd i g p y) \/ (v = .bool false /\ OwnP i c none pu po bd sp sq y /\ pL.pairs y < s)) pL_ok a4 (b := c.B (kIn g)) (mem_in hg o4.cc) fun y₁ q1 j1 => ?_) ?_
    · have o1 := o4.rel i0 q1
      have ec := o1.cc
      have hg' : g < y₁.c.L := by rw [ec]; exact hg
      have k1 := k4.rel j1 hg' q1
      have hv := j1.vi g hg'
      rw [ec] at hv
      refine ⟨fun e => ?_, fun e => ⟨y₁, LMove.none pL_ok j1, .inr ⟨rfl, o1, k1.ne fun e' => e ?_⟩⟩⟩
      · have e' : y₁.v (c.B (kIn g)) = p := e
        rw [hv] at e'
        have eI : y₁.I g = p := by omega
        have hq : Pr i _ y₁ := q1.law
        have eI4 : γ4.y.I g = p := by
          have : γ4.y.I g <= y₁.I g := hq.I g
          have := k4.I
          omega
        obtain ⟨z1, z2⟩ := z4 eI4
        have h0 := hq.p0 g _ z1 (by rw [eI, eI4])
        have hbd1 := o1.bd
        have st := claim_step (i := i) (g := g) j1 i0 (by rw [ec]; omega) hg' (by rw [eI]; exact h0) (by omega)
        rw [ec] at st
        have hpm := (j1.pm g (p % 64) hg' (Nat.mod_lt _ (by omega)))
        have hoi := j1.oi g hg'
        have hps : y₁.ps g (p % 64) = p := by
          have := hpm.1
          have := hpm.2.2.1 h0
          omega
        refine ⟨claimY y₁ i g, st, ?_, fun y₂ q2 => .inl ⟨rfl, OwnP.rel (y := claimY y₁ i g) ⟨ec, o1.pu, o1.po, ?_, o1.sp, o1.sq, fun a b ho hph => ?_⟩ i0 q2, Cd.rel (y := claimY y₁ i g) ⟨?_, ?_, hps⟩ i0 q2⟩⟩
        · show u1 y₁.v (y₁.c.B (kIn g)) _ (c.B (kIn g)) = _
          rw [ec, u1_same, eI]
          rfl
        · show bd - 1 <= u1 y₁.bd i _ i
          rw [u1_same]; omega
        · by_cases e : a = g /\ b = p % 64
          · rw [e.1, e.2]
          · have e1 : (claimY y₁ i g).ow a b = y₁.ow a b := by
              show u2 y₁.ow g (y₁.I g % 64) i a b = _
              rw [eI]; exact u2_ne e
            have e2 : (claimY y₁ i g).ph a b = y₁.ph a b := by
              show u2 y₁.ph g (y₁.I g % 64) 1 a b = _
              rw [eI]; exact u2_ne e
            rw [e1] at ho
            rw [e2] at hph
            cases o1.own a b ho hph
        · show u2 y₁.ph g (y₁.I g % 64) 1 g (p % 64) = 1
          rw [eI, u2_same]
        · show u2 y₁.ow g (y₁.I g % 64) i g (p % 64) = i
          rw [eI, u2_same]
      · show y₁.v (c.B (kIn g)) = _
        rw [hv, e']
    rintro v h5 ⟨d5, γ5⟩ ⟨rfl, e5, w5, a5, ⟨rfl, o5, k5⟩ | ⟨rfl, o5, p5⟩⟩
    · simp only at e5 w5 a5 o5 k5
      (repeat (first | refine EK.seq ?_ | refine EK.region ?_ | refine ER.done ?_ | refine ER.move rfl rfl rfl ?_ | refine ER.assign rfl rfl rfl ?_ | refine ER.pickT rfl rfl rfl rfl ?_ | refine EK.condT rfl ?_ | refine EK.ret ?_))
      exact EU.ret2 rfl rfl rfl ⟨rfl, ((e5.trans e4).trans e3).trans e2, ((w5.trans w4).trans w3).trans w2, a5, .inr ⟨p, rfl, hp, o5, k5⟩⟩
    · simp only at e5 w5 a5 o5 p5
      (repeat (first | refine ER.done ?_ | refine EK.skip ?_ | refine EK.inBlock ?_ | refine ER.assign rfl rfl rfl ?_ | refine ER.pickT rfl rfl rfl rfl ?_ | refine EK.condF rfl ?_))
      refine EK.sub ?_ (again (pL.pairs γ5.y) _ _ p5 ⟨rfl, ((e5.trans e4).trans e3).trans e2, ((w5.trans w4).trans w3).trans w2, a5, o5, Nat.le_refl _⟩)
      exact ⟨rfl, rfl, trivial⟩
  · have hneg : ¬ (t - p < 0) := by omega
    have hne : ¬ (t - p = 0) := by omega
    have p4 := l4 ht
    (repeat (first | refine EK.seq ?_ | refine EK.region ?_ | refine ER.done ?_ | refine EK.skip ?_ | refine EK.block ?_ | refine EK.inBlock ?_ | refine ER.move rfl rfl rfl ?_ | refine ER.assign rfl rfl rfl ?_ | refine ER.no rfl rfl ?_ | refine ER.pickF rfl rfl rfl rfl ?_ | refine ER.cmpF rfl rfl rfl rfl rfl (by first | (dsimp only [cmpP]; omega) | exact rfl | exact Int.le_refl _) ?_ | refine ER.sub' (kd := .i64) rfl rfl rfl rfl (i64_in (by omega) (by omega)) ?_ | refine EK.condF rfl ?_))
    refine EK.sub ?_ (again (pL.pairs γ4.y) _ _ p4 ⟨rfl, (e4.trans e3).trans e2, (w4.trans w3).trans w2, a4, o4, Nat.le_refl _⟩)
    exact ⟨rfl, rfl, trivial⟩
theorem OwnP.note {y : Py} {k : Key} {w : Int} (o : OwnP i c hd pu po bd sp sq y) : OwnP i c hd pu po (bd - 1) sp sq (noteY y i k w) := ⟨o.cc, o.pu, o.po, by show bd - 1 <= u1 y.bd i _ i; rw [u1_same]; have := o.bd; omega, o.sp, o.sq, o.own⟩
set_option maxRecDepth 8000 in
set_option maxHeartbeats 4000000 in
theorem put_w {z : Int} (hA : Idle pL i δ.g) (hi : i <= c.W) (o : OwnP i c none pu po bd sp sq δ.g.y) (hbd : 5 <= bd) (hg : g < c.L) (hL8 : c.L <= 8) (hz : LvOk c.L g z) (m : KP c capL capP h) :
    CallW Try.prog false (SitW Try.prog (XF TT pL) i) 56 #[ptr (c.B kTop), .pointer none, .int .i64 g, .int .i64 z] h δ (Ret (Cq pL i h δ.d δ.g.wg fun v y => (v = .int .i64 12 /\ OwnP i c none pu po bd sp sq y) \/ (v = .int .i64 0 /\ OwnP i c none (pu ++ [z]) po (bd - 5) sp sq y))) := by
  have i0 := hA.i0
  have mt := m.tk
  have ml := m.lv
  have mv := m.lev g hg
  refine CallW.start (n := 87) rfl rfl ?_
  (repeat (first | refine EK.seq ?_ | refine EK.region ?_ | refine ER.done ?_ | refine EK.skip ?_ | refine ER.move rfl rfl rfl ?_ | refine ER.assign rfl rfl rfl ?_ | refine ER.nilCheck rfl rfl rfl ?_ | refine ER.fieldAddr rfl rfl rfl ?_ | refine ER.eqV rfl rfl rfl rfl rfl ?_ | refine ER.pickF rfl rfl rfl rfl ?_ | refine ER.cmpF rfl rfl rfl rfl rfl (by first | (dsimp only [cmpP]; omega) | exact rfl | exact Int.le_refl _) ?_ | refine ER.len1 rfl rfl rfl ?_ | refine ER.indexSl rfl rfl rfl rfl (by omega) (by omega) ?_ | refine EK.condF rfl ?_ | refine ER.load1 rfl rfl rfl (by assumption) ?_))
  refine ER.makeF rfl rfl rfl rfl rfl rfl ?_
  (repeat (first | refine EK.seq ?_ | refine EK.region ?_ | refine ER.done ?_ | refine ER.move rfl rfl rfl ?_ | refine ER.assign rfl rfl rfl ?_))
  refine ER.callFR rfl rfl rfl rfl rfl (claim_w hA hi o (by omega) hg m) ?_
  rintro v h2 ⟨d2, γ2⟩ ⟨rfl, e2, w2, a2, ⟨rfl, o2⟩ | ⟨p, rfl, hp, o2, k2⟩⟩
  · simp only at e2 w2 a2 o2
    (repeat (first | refine EK.seq ?_ | refine EK.region ?_ | refine ER.done ?_ | refine ER.move rfl rfl rfl ?_ | refine ER.assign rfl rfl rfl ?_ | refine ER.notB rfl rfl rfl ?_ | refine ER.extract rfl rfl rfl rfl ?_ | refine EK.condT rfl ?_ | refine EK.ret ?_))
    exact EU.ret1 rfl rfl ⟨rfl, e2, w2, a2, .inl ⟨rfl, o2⟩⟩
  · simp only at e2 w2 a2 o2 k2
    have hlt : p % 64 < 64 := Nat.mod_lt _ (by omega)
    have mp0 := m.pl g (p % 64) 0 hg hlt (by omega)
    have mp1 := m.pl g (p % 64) 1 hg hlt (by omega)
    have mp2 := m.pl g (p % 64) 2 hg hlt (by omega)
    (repeat (first | refine EK.seq ?_ | refine EK.region ?_ | refine ER.done ?_ | refine EK.skip ?_ | refine ER.move rfl rfl rfl ?_ | refine ER.assign rfl rfl rfl ?_ | refine ER.nilCheck rfl rfl rfl ?_ | refine ER.fieldAddr rfl rfl rfl ?_ | refine ER.notB rfl rfl rfl ?_ | refine ER.extract rfl rfl rfl rfl ?_ | refine ER.indexSl rfl rfl rfl rfl (by omega) (by omega) ?_ | refine EK.condF rfl ?_ | refine ER.load1 rfl rfl rfl (by assumption) ?_))
    refine ER.callD rfl rfl rfl rfl rfl (pat_g (m.pls g hg) (by omega) a2.at.nd) ?_
    (repeat (first | refine EK.seq ?_ | refine EK.region ?_ | refine ER.done ?_ | refine ER.move rfl rfl rfl ?_ | refine ER.assign rfl rfl rfl ?_ | refine ER.nilCheck rfl rfl rfl ?_ | refine ER.fieldAddr rfl rfl rfl ?_ | refine ER.load1 rfl rfl rfl (by assumption) ?_))
    refine ER.callR rfl rfl rfl rfl rfl (cadd_f (F := fun v y => ∃ k : Int, v = .int .i64 k /\ 0 <= k /\ k <= c.K /\ OwnP i c (some (g, p % 64)) pu po (bd - 2) sp sq y /\ Cd i g p y) pL_ok a2 (b := c.B kTk) (mem_tk o2.cc) fun y₁ q1 j1 => ?_) ?_
    · have o1 := o2.rel i0 q1
      have ec := o1.cc
      have hbd1 := o1.bd
      have k1 := k2.rel i0 q1
      have st := note_step (i := i) (k := kTk) (w := y₁.v (y₁.c.B kTk) + 1) j1 (by rw [ec]; omega) (by omega) (.inl ⟨rfl, rfl⟩)
      obtain ⟨t0, t1⟩ := j1.tk
      have t2 := st.J.tk
      have hcK := j1.cK
      have ev : (noteY y₁ i kTk (y₁.v (y₁.c.B kTk) + 1)).v (c.B kTk) = y₁.v (c.B kTk) + 1 := by
        show u1 y₁.v (y₁.c.B kTk) _ (c.B kTk) = _
        rw [ec, u1_same]
      rw [show (noteY y₁ i kTk (y₁.v (y₁.c.B kTk) + 1)).c = c from ec] at t2
      rw [ev] at t2
      rw [ec] at t0 t1 hcK
      refine ⟨noteY y₁ i kTk (y₁.v (y₁.c.B kTk) + 1), by rw [ec] at st ⊢; exact st, ?_, fun y₂ q2 => ⟨_, congrArg (Value.int .i64) ev, by omega, by omega, OwnP.rel (y := noteY y₁ i kTk (y₁.v (y₁.c.B kTk) + 1)) (o1.note.less (by omega)) i0 q2, Cd.rel (y := noteY y₁ i kTk (y₁.v (y₁.c.B kTk) + 1)) ⟨k1.ph, k1.ow, k1.ps⟩ i0 q2⟩⟩
      refine ev.trans (Eq.symm ?_)
      show IntKind.i64.wrap (y₁.v (c.B kTk) + 1) = _
      exact i64_in (by omega) (by omega)
    rintro v h3 ⟨d3, γ3⟩ ⟨rfl, e3, w3, a3, k, rfl, kk0, kk1, o3, k3⟩
    simp only at e3 w3 a3 o3 k3
    (repeat (first | refine EK.seq ?_ | refine EK.region ?_ | refine ER.done ?_ | refine ER.move rfl rfl rfl ?_ | refine ER.assign rfl rfl rfl ?_ | refine ER.nilCheck rfl rfl rfl ?_ | refine ER.fieldAddr rfl rfl rfl ?_ | refine ER.load1 rfl rfl rfl (by assumption) ?_))
    refine ER.callR rfl rfl rfl rfl rfl (cstore_f (F := fun _ y => OwnP i c (some (g, p % 64)) pu po (bd - 3) sp sq y /\ Cd i g p y) pL_ok a3 (b := c.B (kTick g (p % 64))) (mem_tick hg o3.cc) fun y₁ q1 j1 => ?_) ?_
    · have o1 := o3.rel i0 q1
      have ec := o1.cc
      have hbd1 := o1.bd
      have k1 := k3.rel i0 q1
      have st := note_step (i := i) (k := kTick g (p % 64)) (w := k) j1 (by rw [ec]; omega) (by omega) (.inr (.inl ⟨_, _, rfl, kk0, by rw [ec]; exact kk1⟩))
      refine ⟨noteY y₁ i (kTick g (p % 64)) k, by rw [ec] at st; exact st, ?_, fun y₂ q2 => ⟨OwnP.rel (y := noteY y₁ i (kTick g (p % 64)) k) (o1.note.less (by omega)) i0 q2, Cd.rel (y := noteY y₁ i (kTick g (p % 64)) k) ⟨k1.ph, k1.ow, k1.ps⟩ i0 q2⟩⟩
      show u1 y₁.v (y₁.c.B (kTick g (p % 64))) _ (c.B (kTick g (p % 64))) = _
      rw [ec, u1_same]
    rintro v h4 ⟨d4, γ4⟩ ⟨rfl, e4, w4, a4, o4, k4⟩
    simp only at e4 w4 a4 o4 k4
    (repeat (first | refine EK.seq ?_ | refine EK.region ?_ | refine ER.done ?_ | refine ER.move rfl rfl rfl ?_ | refine ER.nilCheck rfl rfl rfl ?_ | refine ER.fieldAddr rfl rfl rfl ?_ | refine ER.load1 rfl rfl rfl (by assumption) ?_))
    refine ER.callR rfl rfl rfl rfl rfl (cstore_f (F := fun _ y => OwnP i c (some (g, p % 64)) pu po (bd - 4) sp sq y /\ Cd i g p y /\ y.v (c.B (kSlot g (p % 64))) = z) pL_ok a4 (b := c.B (kSlot g (p % 64))) (mem_slot hg o4.cc) fun y₁ q1 j1 => ?_) ?_
    · have o1 := o4.rel i0 q1
      have ec := o1.cc
      have hbd1 := o1.bd
      have k1 := k4.rel i0 q1
      have st := note_step (i := i) (k := kSlot g (p % 64)) (w := z) j1 (by rw [ec]; omega) (by omega) (.inr (.inr ⟨_, _, rfl, k1.ph, k1.ow⟩))
      have ev : (noteY y₁ i (kSlot g (p % 64)) z).v (c.B (kSlot g (p % 64))) = z := by
        show u1 y₁.v (y₁.c.B (kSlot g (p % 64))) _ (c.B (kSlot g (p % 64))) = _
        rw [ec, u1_same]
      have k1' : Cd i g p (noteY y₁ i (kSlot g (p % 64)) z) := ⟨k1.ph, k1.ow, k1.ps⟩
      exact ⟨noteY y₁ i (kSlot g (p % 64)) z, by rw [ec] at st; exact st, ev, fun y₂ q2 => ⟨OwnP.rel (y := noteY y₁ i (kSlot g (p % 64)) z) (o1.note.less (by omega)) i0 q2, k1'.rel i0 q2, k1'.slot i0 q2 ec ev⟩⟩
    rintro v h5 ⟨d5, γ5⟩ ⟨rfl, e5, w5, a5, o5, k5, z5⟩
    simp only at e5 w5 a5 o5 k5 z5
    (repeat (first | refine EK.seq ?_ | refine EK.region ?_ | refine ER.done ?_ | refine ER.move rfl rfl rfl ?_ | refine ER.nilCheck rfl rfl rfl ?_ | refine ER.fieldAddr rfl rfl rfl ?_ | refine ER.add (kd := .i64) rfl rfl rfl rfl (i64_in (by omega) (by omega)) ?_ | refine ER.load1 rfl rfl rfl (by assumption) ?_))
    refine ER.callR rfl rfl rfl rfl rfl (cstore_f (F := fun _ y => OwnP i c none (pu ++ [z]) po (bd - 5) sp sq y) pL_ok a5 (b := c.B (kTurn g (p % 64))) (mem_turn hg o5.cc) fun y₁ q1 j1 => ?_) ?_
    · have o1 := o5.rel i0 q1
      have ec := o1.cc
      have hbd1 := o1.bd
      have k1 := k5.rel i0 q1
      have z1 := k5.slot i0 q1 o5.cc z5
      have st := fill_step (i := i) (g := g) (j := p % 64) j1 i0 (by rw [ec]; omega) (by rw [ec]; exact hg) hlt k1.ph k1.ow (by rw [ec, z1]; exact hz) (by omega)
      refine ⟨fillY y₁ i g (p % 64), by rw [ec] at st; exact st, ?_, fun y₂ q2 => OwnP.rel (y := fillY y₁ i g (p % 64)) ⟨ec, ?_, o1.po, ?_, o1.sp, o1.sq, fun a b ho hph => ?_⟩ i0 q2⟩
      · show u1 y₁.v (y₁.c.B (kTurn g (p % 64))) _ (c.B (kTurn g (p % 64))) = _
        rw [ec, u1_same, k1.ps]
        rfl
      · show u1 y₁.pu i (y₁.pu i ++ [y₁.v (y₁.c.B (kSlot g (p % 64)))]) i = _
        rw [u1_same, o1.pu, ec, z1]
      · show bd - 5 <= u1 y₁.bd i _ i
        rw [u1_same]; omega
      · by_cases e : a = g /\ b = p % 64
        · obtain ⟨rfl, rfl⟩ := e
          rw [show (fillY y₁ i a (p % 64)).ph a (p % 64) = 2 from u2_same] at hph
          omega
        · rw [show (fillY y₁ i g (p % 64)).ph a b = y₁.ph a b from u2_ne e] at hph
          cases o1.own a b ho hph
          exact absurd ⟨rfl, rfl⟩ e
    rintro v h6 ⟨d6, γ6⟩ ⟨rfl, e6, w6, a6, o6⟩
    simp only at e6 w6 a6 o6
    (repeat (first | refine EK.seq ?_ | refine EK.region ?_ | refine ER.done ?_ | refine ER.assign rfl rfl rfl ?_ | refine EK.ret ?_))
    exact EU.ret1 rfl rfl ⟨rfl, (((e6.trans e5).trans e4).trans e3).trans e2, (((w6.trans w5).trans w4).trans w3).trans w2, a6, .inr ⟨rfl, o6⟩⟩
end
end
section
open Go Go.TJ Go.Proofs
variable [Dm]
section
variable {Γ : Type} {P : Program} {f : FuncId} {h : Hp} {δ : Ix Γ} {ty : TypeId} {pos : String} {af : Array Edge} {g : Option (Nat × Bool)} {X : Fp Γ} {i : Nat}
theorem yields_alloc {t sz by_ : Nat} {cs : Array Value} [Inf P t sz by_ (.agg cs)] {ρ : Operand -> Value} {dst : Option Nat} (hnd : 0 < i -> ¬ X.done i δ.g /\ X.fin δ.g i = none) :
    Go.TJ.Yields P false (SitW P X i) f (execOp ρ ⟨dst, .alloc t, ty, pos, af, g⟩) h δ (fun v h' δ' => δ' = δ /\ ∃ N, h.size <= N /\ v = .pointer (some ⟨N, 0, none⟩) /\ h' = (padTo h N).push (.cells cs t)) :=
  yields_make (X := X) (i := i) make_w hnd fun N hN => sem_allocA (S := MakeS X) ⟨_, .inl rfl, rfl, rfl, N, hN, by rw [padTo_size hN], rfl⟩ True.intro
end
structure Co (g p s : Nat) (y : Py) : Prop where
  O : p <= y.O g
  v : y.v (y.c.B (kOut g)) = y.O g
  pr : pL.pairs y <= s
  ne : y.O g ≠ p -> pL.pairs y < s
def Cf1 (g p : Nat) (y : Py) : Prop := y.O g = p -> y.ph g (p % 64) = 2 /\ y.ps g (p % 64) = p
section
variable {i g p s : Nat} {c : Pc'} {hd : Option (Nat × Nat)} {pu po : List Int} {bd : Nat} {sp sq : Value} {y y' : Py} {z : Int}
theorem Co.now (hJ : Pj y) (hg : g < y.c.L) (hs : pL.pairs y <= s) : Co g (y.O g) s y := ⟨Nat.le_refl _, hJ.vo g hg, hs, fun h => absurd rfl h⟩
theorem Co.rel (k : Co g p s y) (hJ : Pj y') (hg : g < y'.c.L) (r : LRel pL i y y') : Co g p s y' := by
  have q : Pr i y y' := r.law
  have hv := hJ.vo g hg
  refine ⟨Nat.le_trans k.O (q.O g), hv, Nat.le_trans r.pairs k.pr, fun h => ?_⟩
  by_cases e : y.O g = p
  · have hp := k.pr
    refine Nat.lt_of_lt_of_le (p_pairs r (b := y.c.B (kOut g)) fun e' => h ?_) hp
    have h1 := k.v
    rw [q.c] at hv
    rw [hv, h1] at e'
    omega
  · have := k.ne e
    have := r.pairs
    omega
theorem Cf1.rel (f : Cf1 g p y) (k : Co g p s y) (r : LRel pL i y y') : Cf1 g p y' := fun e => by
  have q : Pr i y y' := r.law
  have h1 := q.O g
  have h2 := k.O
  have e1 : y.O g = p := by omega
  obtain ⟨f1, f2⟩ := f e1
  obtain ⟨g1, g2, _⟩ := q.p2 g _ f1 (by omega)
  exact ⟨g1, g2.trans f2⟩
theorem turn_there (hJ : Pj y) (hg : g < y.c.L) (ht : y.v (y.c.B (kTurn g (p % 64))) = (p : Int) + 1) (k : Co g p s y) : Cf1 g p y := fun e => by
  have hj : p % 64 < 64 := Nat.mod_lt _ (by omega)
  have hv := hJ.vt g _ hg hj
  rw [ht] at hv
  obtain ⟨m1, m2, m3, m4, m5⟩ := hJ.pm g _ hg hj
  have tn : y.tn g (p % 64) = if y.ph g (p % 64) = 2 \/ y.ph g (p % 64) = 3 then y.ps g (p % 64) + 1 else y.ps g (p % 64) := rfl
  rcases (show y.ph g (p % 64) = 0 \/ y.ph g (p % 64) = 1 \/ y.ph g (p % 64) = 2 \/ y.ph g (p % 64) = 3 by omega) with e' | e' | e' | e'
  · rw [if_neg (by omega)] at tn
    omega
  · rw [if_neg (by omega)] at tn
    omega
  · rw [if_pos (by omega)] at tn
    exact ⟨e', by omega⟩
  · rw [if_pos (by omega)] at tn
    have := m5 e'
    omega
end
def HK (c : Pc') (s : Nat) (H : Nat -> Hd) (y : Py) : Prop := ∀ q, (0 <= (H q).2.2 /\ (H q).2.2 <= 1000000000) /\ ((H q).1 = true -> q < c.L /\ ∃ o : Nat, (H q).2.1 = o /\ o <= 1000000000 /\ Co q o s y /\ Cf1 q o y)
theorem HK.rel {c : Pc'} {s i : Nat} {H : Nat -> Hd} {y y' : Py} (k : HK c s H y) (hJ : Pj y') (hc : y'.c = c) (r : LRel pL i y y') : HK c s H y' := fun q => ⟨(k q).1, fun h => by
  obtain ⟨h1, o, h2, h3, h4, h5⟩ := (k q).2 h
  exact ⟨h1, o, h2, h3, h4.rel hJ (by rw [hc]; exact h1) r, h5.rel h4 r⟩⟩
theorem w_still {i : Nat} {c : Pc'} {γ : Gf Py} {b o : Nat} (hc : γ.y.c = c) (hro : ∀ b, c.ro b -> b < c.top) (hb : c.top <= b) : ¬ (SitW Try.prog (XF TT pL) i).still γ ⟨b, o, none⟩ := fun z => by
  have z' : γ.y.c.ro b := z.2.1
  rw [hc] at z'
  have := hro b z'
  omega
section
variable {h : Hp} {δ : Ix (Gf Py)} {i : Nat} {c : Pc'} {hd : Option (Nat × Nat)} {pu po : List Int} {bd s : Nat} {sp sq : Value} {capL : Nat} {capP : Nat -> Nat}
set_option maxRecDepth 8000 in
set_option maxHeartbeats 4000000 in
theorem looks_w (hA : Idle pL i δ.g) (o : OwnP i c hd pu po bd sp sq δ.g.y) (hL8 : c.L <= 8) (hro : ∀ b, c.ro b -> b < c.top) (htop : c.top <= h.size) (hs : pL.pairs δ.g.y <= s) (m : KP c capL capP h) :
    CallW Try.prog false (SitW Try.prog (XF TT pL) i) 85 #[ptr (c.B kTop), .pointer none] h δ (Ret fun w h' δ' => ∃ H, w = .tuple #[.agg (cellsH H).toArray, .int .i64 (bv (bst H 8))] /\ Upd (fun _ => False) h h' /\ δ'.d = δ.d /\ δ'.g.wg = δ.g.wg /\ Idle pL i δ'.g /\ OwnP i c hd pu po bd sp sq δ'.g.y /\ HK c s H δ'.g.y) := by
  have i0 := hA.i0
  refine CallW.start (n := 88) rfl rfl ?_
  refine EK.seq ?_
  refine EK.region ?_
  refine ER.allocM (X := XF TT pL) (i := i) (z := .agg (cellsH fun _ => (false, 0, 0)).toArray) make_w rfl rfl (fun _ => idle_fin hA) fun N hN => ?_
  have u0 : Upd (fun _ => False) h (padTo h N) := Upd.pad _ hN
  have eN : N = (padTo h N).size := (padTo_size hN).symm
  generalize padTo h N = h0 at u0 eN
  subst eN
  have hsz0 := u0.size
  have m0 := m.upd u0
  change ER _ _ _ _ _ _ _ _ _ _ (h0.push (headsO fun _ => (false, 0, 0))) _ _
  have mA : ∀ H, KP c capL capP (h0.push (headsO H)) := fun H => m0.upd (Upd.push _ _)
  have ml := (mA fun _ => (false, 0, 0)).lv
  (repeat (first | refine EK.seq ?_ | refine EK.region ?_ | refine ER.done ?_ | refine EK.block ?_ | refine ER.move rfl rfl rfl ?_ | refine ER.assign rfl rfl rfl ?_ | refine ER.nilCheck rfl rfl rfl ?_ | refine ER.fieldAddr rfl rfl rfl ?_ | refine ER.sub' (kd := .i64) rfl rfl rfl rfl (i64_in (by omega) (by omega)) ?_ | refine ER.len1 rfl rfl rfl ?_ | refine ER.load1 rfl rfl rfl (by assumption) ?_))
  refine EK.loopInv (fun i : Nat => [(6, .int .i64 ((i : Int) - 1)), (0, ptr (c.B kTop)), (1, .pointer none), (4, ptr h0.size), (5, .int .i64 0)]) (fun j h' δ' => ∃ H, h' = h0.push (headsO H) /\ j <= c.L /\ δ'.d = δ.d /\ δ'.g.wg = δ.g.wg /\ Idle pL i δ'.g /\ OwnP i c hd pu po bd sp sq δ'.g.y /\ HK c s H δ'.g.y /\ pL.pairs δ'.g.y <= s) (fun i => i) c.L ⟨rfl, rfl, rfl, rfl, rfl, trivial⟩ ⟨_, rfl, Nat.le_refl _, rfl, rfl, hA, o, fun q => ⟨⟨Int.le_refl _, by dsimp only; omega⟩, fun z => by cases z⟩, hs⟩ ?_
  clear ml
  rintro j _ ⟨d1, γ1⟩ ⟨H, rfl, hj, e1, w1, a1, o1, k1, p1⟩ again
  simp only at e1 w1 a1 o1 k1 p1
  have m1 := mA H
  have ml := m1.lv
  rcases j with _ | n
  · have hb1 := get_push_new h0 (headsO H)
    have u1 : Upd (fun _ => False) h (h0.push (headsO H)) := u0.trans (Upd.push _ _)
    have hsz1 : h.size <= h0.size := u0.size
    clear u0 m0 mA m1
    generalize h0.push (headsO H) = h1 at hb1 u1 ml ⊢
    clear again hj
    have hTk : ∀ q, 0 <= (H q).2.2 /\ (H q).2.2 <= 1000000000 := fun q => (k1 q).1
    (repeat (first | refine EK.seq ?_ | refine EK.region ?_ | refine ER.done ?_ | refine EK.block ?_ | refine ER.move rfl rfl rfl ?_ | refine ER.assign rfl rfl rfl ?_ | refine ER.nilCheck rfl rfl rfl ?_ | refine ER.cmpF rfl rfl rfl rfl rfl (by first | (dsimp only [cmpP]; omega) | exact rfl | exact Int.le_refl _) ?_ | refine EK.condF rfl ?_ | refine EK.exit rfl ?_))
    refine EK.loopInv (fun n : Nat => [(58, .int .i64 n), (5, .int .i64 (bv (bst H n))), (0, ptr (c.B kTop)), (1, .pointer none), (4, ptr h0.size)]) (fun n h' δ' => h'[h0.size]? = some (headsO H) /\ Upd (fun _ => False) h h' /\ δ' = ⟨d1, γ1⟩ /\ n <= 8) (fun n => 8 - n) 0 ⟨rfl, rfl, rfl, rfl, rfl, trivial⟩ ⟨hb1, u1, rfl, by omega⟩ ?_
    clear hb1 u1 ml
    rintro n h2 _ ⟨hb2, u2, rfl, hn8⟩ again
    have hsz := u2.size
    by_cases hn : n < 8
    · (repeat (first | refine EK.seq ?_ | refine EK.region ?_ | refine ER.done ?_ | refine EK.skip ?_ | refine EK.block ?_ | refine ER.cmpT rfl rfl rfl rfl rfl (by first | (dsimp only [cmpP]; omega) | exact rfl | exact Int.le_refl _) ?_ | refine EK.condT rfl ?_))
      refine EK.regionAny (fun h' => hrow h' h0.size (0 + n * 3) (hrowH (H n))) ?_ (hDu := a1.at.nd)
      have hZ := heads_row hb2 hn
      refine EA.tMove 0 rfl (by kernel_rfl) rfl rfl rfl rfl hZ ?_
      refine EA.tNil 1 rfl (by kernel_rfl) rfl rfl rfl rfl hZ ?_
      refine EA.tIdxA 2 rfl (by kernel_rfl) rfl rfl rfl rfl rfl (by omega) (by omega) hZ ?_
      refine EA.tLoadN (vs := hrowH (H n)) 3 rfl (by kernel_rfl) rfl rfl rfl rfl rfl (fun _ hz => hz) hZ ?_
      refine EA.onlyH 4 rfl (by kernel_rfl) rfl rfl rfl (.inl ⟨_, rfl, rfl⟩) fun ρ hρ => ⟨_, yields_alloc (cs := #[.bool false, .int .i64 0, .int .i64 0]) (fun _ => idle_fin a1), ?_⟩
      rintro v _ _ ⟨rfl, N2, hN2, rfl, rfl⟩
      have up2 : Upd (fun _ => False) h2 (padTo h2 N2) := Upd.pad _ hN2
      have eN2 : N2 = (padTo h2 N2).size := (padTo_size hN2).symm
      have hb2 := up2.get hb2 fun z => z
      have u2 := u2.trans up2
      generalize padTo h2 N2 = h2 at up2 eN2 hb2 u2 ⊢
      subst eN2
      have hsz2 := u2.size
      have hZ : hrow (h2.push (.cells #[.bool false, .int .i64 0, .int .i64 0] 150)) h0.size (0 + n * 3) (hrowH (H n)) := fun i w hw => hcell_push (heads_row hb2 hn i w hw)
      refine ⟨.inr hZ, ?_⟩
      refine EA.tAssign 5 rfl (by kernel_rfl) rfl rfl rfl rfl hZ ?_
      have hrs : hsetRow (h2.push (.cells #[.bool false, .int .i64 0, .int .i64 0] 150)) h2.size 0 (hrowH (H n)) = h2.push (.cells (hrowH (H n)).toArray 150) := hsetRow_push (c := [.bool false, .int .i64 0, .int .i64 0]) rfl
      refine EA.unit 6 rfl (by kernel_rfl) rfl rfl (fun ρ Q X hρ hq => sem_storeN (hρ _ _ rfl) (hρ _ _ rfl) rfl (by simp [hrowH, OneCell]) (fun j hj => ⟨?_, hfroz_of (get_push_new _ _), w_still o1.cc hro (by omega)⟩) hq) ?_ ?_
      · have hj3 : j < 3 := hj
        have hb := get_push_new h2 (.cells #[.bool false, .int .i64 0, .int .i64 0] 150 (0, 0))
        rcases (show j = 0 \/ j = 1 \/ j = 2 by omega) with rfl | rfl | rfl <;> exact ⟨_, hcell_of hb rfl⟩
      · rw [hrs]
        exact fun i w hw => hcell_push (heads_row hb2 hn i w hw)
      refine EA.done (by kernel_rfl) ?_
      rw [hrs]
      have hb3 := get_push (.cells (hrowH (H n)).toArray 150) hb2
      have hc3 := get_push_new h2 (.cells (hrowH (H n)).toArray 150)
      have u3 := u2.trans (Upd.push (T := fun _ => False) h2 (.cells (hrowH (H n)).toArray 150))
      generalize h2.push (.cells (hrowH (H n)).toArray 150) = h3 at hb3 hc3 u3 ⊢
      have c0 : hcell h3 ⟨h2.size, 0 + 0, none⟩ = some (.bool (H n).1) := hcell_of hc3 rfl
      have c2 : hcell h3 ⟨h2.size, 0 + 2, none⟩ = some (.int .i64 (H n).2.2) := hcell_of hc3 rfl
      clear hc3 hZ hb2 u2 hrs
      have hTn := hTk n
      have fin : ∀ o : Option Nat, bst H (n + 1) = o -> EK Try.prog false (SitW Try.prog (XF TT pL) i) 85 88 _ [(58, .int .i64 ((n : Int) + 1)), (5, .int .i64 (bv o)), (0, ptr (c.B kTop)), (1, .pointer none), (4, ptr h0.size)] [] h3 ⟨d1, γ1⟩ _ := fun o ho => by
        subst ho
        exact EK.back (again (n + 1) _ _ (by omega) ⟨hb3, u3, rfl, by omega⟩) ⟨rfl, rfl, rfl, rfl, rfl, trivial⟩
      (repeat refine EK.seq ?_)
      refine EK.regionAny (fun h' => h' = h3) ?_ (hDu := a1.at.nd)
      have hZ : h3 = h3 := rfl
      refine EA.tField 0 rfl (by kernel_rfl) rfl rfl rfl rfl hZ ?_
      refine EA.tLoad 1 rfl (by kernel_rfl) rfl rfl rfl rfl (fun _ hz => hz ▸ c0) hZ ?_
      cases hthere : (H n).1
      · have hbn : bst H (n + 1) = bst H n := by
          show (if (H n).1 = true /\ _ then some n else bst H n) = _
          rw [if_neg (fun x => by rw [hthere] at x; cases x.1)]
        refine EA.tMove 2 rfl (by kernel_rfl) rfl rfl rfl rfl hZ ?_
        refine EA.takeNo 3 rfl (by kernel_rfl) rfl rfl rfl hZ ?_
        refine EA.takeNo 4 rfl (by kernel_rfl) rfl rfl rfl hZ ?_
        refine EA.takeNo 5 rfl (by kernel_rfl) rfl rfl rfl hZ ?_
        refine EA.takeNo 6 rfl (by kernel_rfl) rfl rfl rfl hZ ?_
        refine EA.takeNo 7 rfl (by kernel_rfl) rfl rfl rfl hZ ?_
        refine EA.takeNo 8 rfl (by kernel_rfl) rfl rfl rfl hZ ?_
        refine EA.takeNo 9 rfl (by kernel_rfl) rfl rfl rfl hZ ?_
        refine EA.takeNo 10 rfl (by kernel_rfl) rfl rfl rfl hZ ?_
        refine EA.takeNo 11 rfl (by kernel_rfl) rfl rfl rfl hZ ?_
        refine EA.takeNo 12 rfl (by kernel_rfl) rfl rfl rfl hZ ?_
        refine EA.takeNo 13 rfl (by kernel_rfl) rfl rfl rfl hZ ?_
        refine EA.takeNo 14 rfl (by kernel_rfl) rfl rfl rfl hZ ?_
        refine EA.takeNo 15 rfl (by kernel_rfl) rfl rfl rfl hZ ?_
        refine EA.takeNo 16 rfl (by kernel_rfl) rfl rfl rfl hZ ?_
        refine EA.takeNo 17 rfl (by kernel_rfl) rfl rfl rfl hZ ?_
        refine EA.takeNo 18 rfl (by kernel_rfl) rfl rfl rfl hZ ?_
        refine EA.tPickF 19 rfl (by kernel_rfl) rfl rfl rfl rfl rfl hZ ?_
        refine EA.done (by kernel_rfl) ?_
        (repeat (first | refine EK.region ?_ | refine ER.done ?_ | refine EK.skip ?_ | refine EK.inBlock ?_ | refine ER.move rfl rfl rfl ?_ | refine ER.add (kd := .i64) rfl rfl rfl rfl (i64_in (by omega) (by omega)) ?_ | refine EK.condF rfl ?_))
        exact EK.back (fin _ hbn) ⟨rfl, rfl, rfl, rfl, rfl, trivial⟩
      · cases hbe : bst H n with
        | none =>
          have hbn : bst H (n + 1) = some n := by
            show (if (H n).1 = true /\ _ then some n else bst H n) = _
            rw [if_pos ⟨hthere, fun b hb => by rw [hbe] at hb; cases hb⟩]
          have hm1 : (bv none : Int) = -1 := rfl
          refine EA.tMove 2 rfl (by kernel_rfl) rfl rfl rfl rfl hZ ?_
          refine EA.tMove 3 rfl (by kernel_rfl) rfl rfl rfl rfl hZ ?_
          refine EA.tCmpT 4 rfl (by kernel_rfl) rfl rfl rfl rfl rfl rfl (by first | (dsimp only [cmpP]; omega) | exact rfl | exact Int.le_refl _) hZ ?_
          refine EA.tMove 5 rfl (by kernel_rfl) rfl rfl rfl rfl hZ ?_
          refine EA.takeNo 6 rfl (by kernel_rfl) rfl rfl rfl hZ ?_
          refine EA.takeNo 7 rfl (by kernel_rfl) rfl rfl rfl hZ ?_
          refine EA.takeNo 8 rfl (by kernel_rfl) rfl rfl rfl hZ ?_
          refine EA.takeNo 9 rfl (by kernel_rfl) rfl rfl rfl hZ ?_
          refine EA.takeNo 10 rfl (by kernel_rfl) rfl rfl rfl hZ ?_
          refine EA.takeNo 11 rfl (by kernel_rfl) rfl rfl rfl hZ ?_
          refine EA.takeNo 12 rfl (by kernel_rfl) rfl rfl rfl hZ ?_
          refine EA.takeNo 13 rfl (by kernel_rfl) rfl rfl rfl hZ ?_
          refine EA.takeNo 14 rfl (by kernel_rfl) rfl rfl rfl hZ ?_
          refine EA.takeNo 15 rfl (by kernel_rfl) rfl rfl rfl hZ ?_
          refine EA.takeNo 16 rfl (by kernel_rfl) rfl rfl rfl hZ ?_
          refine EA.takeNo 17 rfl (by kernel_rfl) rfl rfl rfl hZ ?_
          refine EA.tPickT 18 rfl (by kernel_rfl) rfl rfl rfl rfl rfl hZ ?_
          refine EA.tPickT 19 rfl (by kernel_rfl) rfl rfl rfl rfl rfl hZ ?_
          refine EA.done (by kernel_rfl) ?_
          (repeat (first | refine EK.region ?_ | refine ER.done ?_ | refine EK.inBlock ?_ | refine ER.move rfl rfl rfl ?_ | refine ER.assign rfl rfl rfl ?_ | refine ER.add (kd := .i64) rfl rfl rfl rfl (i64_in (by omega) (by omega)) ?_ | refine EK.condT rfl ?_))
          exact EK.back (fin _ hbn) ⟨rfl, rfl, rfl, rfl, rfl, trivial⟩
        | some b =>
          have hbb : (bv (some b) : Int) = b := rfl
          have hb8 := (bst_lt hbe).1
          have hTb := hTk b
          have c4 : hcell h3 ⟨h0.size, 0 + b * 3 + 2, none⟩ = some (.int .i64 (H b).2.2) := heads_row hb3 (i := b) (by omega) 2 _ rfl
          rw [hbb]
          refine EA.tMove 2 rfl (by kernel_rfl) rfl rfl rfl rfl hZ ?_
          refine EA.tMove 3 rfl (by kernel_rfl) rfl rfl rfl rfl hZ ?_
          refine EA.tCmpF 4 rfl (by kernel_rfl) rfl rfl rfl rfl rfl rfl (by first | (dsimp only [cmpP]; omega) | exact rfl | exact Int.le_refl _) hZ ?_
          refine EA.tMove 5 rfl (by kernel_rfl) rfl rfl rfl rfl hZ ?_
          refine EA.tMove 6 rfl (by kernel_rfl) rfl rfl rfl rfl hZ ?_
          refine EA.tMove 7 rfl (by kernel_rfl) rfl rfl rfl rfl hZ ?_
          refine EA.tSub (kd := .i64) 8 rfl (by kernel_rfl) rfl rfl rfl rfl rfl (i64_in (by omega) (by omega)) hZ ?_
          refine EA.tMul (kd := .i64) 9 rfl (by kernel_rfl) rfl rfl rfl rfl rfl (i64_in (by omega) (by omega)) hZ ?_
          refine EA.tField 10 rfl (by kernel_rfl) rfl rfl rfl rfl hZ ?_
          refine EA.tLoad 11 rfl (by kernel_rfl) rfl rfl rfl rfl (fun _ hz => hz ▸ c2) hZ ?_
          refine EA.tMove 12 rfl (by kernel_rfl) rfl rfl rfl rfl hZ ?_
          refine EA.tIdxA 13 rfl (by kernel_rfl) rfl rfl rfl rfl rfl (by omega) (by omega) hZ ?_
          refine EA.tField 14 rfl (by kernel_rfl) rfl rfl rfl rfl hZ ?_
          refine EA.tLoad 15 rfl (by kernel_rfl) rfl rfl rfl rfl (fun _ hz => hz ▸ c4) hZ ?_
          refine EA.tSub (kd := .i64) 16 rfl (by kernel_rfl) rfl rfl rfl rfl rfl (i64_in (by omega) (by omega)) hZ ?_
          by_cases hgo : 64 * ((n : Int) - b) > (H n).2.2 - (H b).2.2
          · have hbn : bst H (n + 1) = some n := by
              show (if (H n).1 = true /\ _ then some n else bst H n) = _
              rw [if_pos ⟨hthere, fun b' hb' => by rw [hbe] at hb'; cases hb'; exact hgo⟩]
            refine EA.tCmpT 17 rfl (by kernel_rfl) rfl rfl rfl rfl rfl rfl (by first | (dsimp only [cmpP]; omega) | exact rfl | exact Int.le_refl _) hZ ?_
            refine EA.tPickF 18 rfl (by kernel_rfl) rfl rfl rfl rfl rfl hZ ?_
            refine EA.tPickT 19 rfl (by kernel_rfl) rfl rfl rfl rfl rfl hZ ?_
            refine EA.done (by kernel_rfl) ?_
            (repeat (first | refine EK.region ?_ | refine ER.done ?_ | refine EK.inBlock ?_ | refine ER.move rfl rfl rfl ?_ | refine ER.assign rfl rfl rfl ?_ | refine ER.add (kd := .i64) rfl rfl rfl rfl (i64_in (by omega) (by omega)) ?_ | refine EK.condT rfl ?_))
            exact EK.back (fin _ hbn) ⟨rfl, rfl, rfl, rfl, rfl, trivial⟩
          · have hbn : bst H (n + 1) = some b := by
              show (if (H n).1 = true /\ _ then some n else bst H n) = _
              rw [if_neg (fun x => hgo (x.2 b hbe)), hbe]
            refine EA.tCmpF 17 rfl (by kernel_rfl) rfl rfl rfl rfl rfl rfl (by first | (dsimp only [cmpP]; omega) | exact rfl | exact Int.le_refl _) hZ ?_
            refine EA.tPickF 18 rfl (by kernel_rfl) rfl rfl rfl rfl rfl hZ ?_
            refine EA.tPickT 19 rfl (by kernel_rfl) rfl rfl rfl rfl rfl hZ ?_
            refine EA.done (by kernel_rfl) ?_
            (repeat (first | refine EK.region ?_ | refine ER.done ?_ | refine EK.skip ?_ | refine EK.inBlock ?_ | refine ER.move rfl rfl rfl ?_ | refine ER.add (kd := .i64) rfl rfl rfl rfl (i64_in (by omega) (by omega)) ?_ | refine EK.condF rfl ?_))
            exact EK.back (fin _ hbn) ⟨rfl, rfl, rfl, rfl, rfl, trivial⟩
    · obtain rfl : n = 8 := by omega
      (repeat (first | refine EK.seq ?_ | refine EK.region ?_ | refine ER.done ?_ | refine ER.cmpF rfl rfl rfl rfl rfl (by first | (dsimp only [cmpP]; omega) | exact rfl | exact Int.le_refl _) ?_ | refine EK.condF rfl ?_ | refine EK.exit rfl ?_))
      refine ER.loadN (vs := cellsH H) rfl rfl rfl rfl (heads_all hb2) ?_
      (repeat refine ER.move rfl rfl rfl ?_)
      refine ER.storeN (vs := cellsH H) rfl rfl rfl rfl (cellsH_one H) (fun j hj => ⟨?_, hfroz_of hb2, w_still o1.cc hro (by omega)⟩) ?_
      · have hj3 : j < (cellsH H).length := hj
        exact ⟨_, heads_all hb2 j _ (List.getElem?_eq_getElem hj3)⟩
      rw [hsetRow_block (cellsH H) 0 _ _ hb2 (by rw [Nat.zero_add]; exact Nat.le_refl _)]
      have e1' : List.take 0 (cellsH H) ++ cellsH H ++ List.drop (0 + (cellsH H).length) (cellsH H) = cellsH H := by simp
      rw [e1']
      have hb4 : (h2.setIfInBounds h0.size (headsO H))[h0.size]? = some (headsO H) := get_set_same hb2
      have u4 : Upd (fun _ => False) h (h2.setIfInBounds h0.size (headsO H)) := u2.over (Upd.set (T := fun b => b = h0.size) _ _ _ rfl) (fun b hb => by omega)
      change ER _ _ _ _ _ _ _ _ _ _ (h2.setIfInBounds h0.size (headsO H)) _ _
      generalize h2.setIfInBounds h0.size (headsO H) = h5 at hb4 u4 ⊢
      (repeat (first | refine ER.done ?_ | refine ER.assign rfl rfl rfl ?_ | refine EK.ret ?_))
      exact EU.retCell (vs := cellsH H) rfl rfl rfl (heads_all hb4) rfl ⟨H, rfl, u4, e1, w1, a1, o1, k1⟩
  · have ex : (((n + 1 : Nat) : Int) - 1) = (n : Int) := by omega
    rw [ex]
    have hn : n < c.L := by omega
    have mv := m1.lev n hn
    have mo := m1.out n hn
    (repeat (first | refine EK.seq ?_ | refine EK.region ?_ | refine ER.done ?_ | refine EK.skip ?_ | refine EK.block ?_ | refine ER.move rfl rfl rfl ?_ | refine ER.assign rfl rfl rfl ?_ | refine ER.nilCheck rfl rfl rfl ?_ | refine ER.fieldAddr rfl rfl rfl ?_ | refine ER.cmpT rfl rfl rfl rfl rfl (by first | (dsimp only [cmpP]; omega) | exact rfl | exact Int.le_refl _) ?_ | refine ER.indexSl rfl rfl rfl rfl (by omega) (by omega) ?_ | refine EK.condT rfl ?_ | refine ER.load1 rfl rfl rfl (by assumption) ?_))
    refine ER.callR rfl rfl rfl rfl rfl (cload_f (F := fun v y => ∃ p : Nat, v = .int .i64 p /\ p <= 1000000000 /\ OwnP i c hd pu po bd sp sq y /\ HK c s H y /\ Co n p s y) pL_ok a1 (b := c.B (kOut n)) (mem_out hn o1.cc) fun y₁ q1 j1 => ?_) ?_
    · have o1' := o1.rel i0 q1
      have ec := o1'.cc
      have hg' : n < y₁.c.L := by rw [ec]; exact hn
      have hv := j1.vo n hg'
      have hK := j1.K n hg'
      have hoi := j1.oi n hg'
      have hcK := j1.cK
      rw [ec] at hv
      exact ⟨y₁, LMove.none pL_ok j1, y₁.O n, congrArg (Value.int .i64) hv, by omega, o1', k1.rel j1 ec q1, Co.now j1 hg' (Nat.le_trans q1.pairs p1)⟩
    rintro v h3 ⟨d3, γ3⟩ ⟨rfl, e3, w3, a3, p, rfl, hp, o3, k3, co3⟩
    simp only at e3 w3 a3 o3 k3 co3
    have hlt : p % 64 < 64 := Nat.mod_lt _ (by omega)
    have mp := m1.pl n (p % 64) 0 hn hlt (by omega)
    have mq := m1.pl n (p % 64) 1 hn hlt (by omega)
    (repeat (first | refine EK.seq ?_ | refine EK.region ?_ | refine ER.done ?_ | refine ER.move rfl rfl rfl ?_ | refine ER.assign rfl rfl rfl ?_))
    refine ER.callD rfl rfl rfl rfl rfl (pat_g (m1.pls n hn) (by omega) a3.at.nd) ?_
    (repeat (first | refine ER.move rfl rfl rfl ?_ | refine ER.nilCheck rfl rfl rfl ?_ | refine ER.fieldAddr rfl rfl rfl ?_ | refine ER.load1 rfl rfl rfl (by assumption) ?_))
    refine ER.callR rfl rfl rfl rfl rfl (cload_f (F := fun v y => ∃ t : Int, v = .int .i64 t /\ OwnP i c hd pu po bd sp sq y /\ HK c s H y /\ Co n p s y /\ (t = (p : Int) + 1 -> Cf1 n p y)) pL_ok a3 (b := c.B (kTurn n (p % 64))) (mem_turn hn o3.cc) fun y₁ q1 j1 => ?_) ?_
    · have o1' := o3.rel i0 q1
      have ec := o1'.cc
      have hg' : n < y₁.c.L := by rw [ec]; exact hn
      have co1 := co3.rel j1 hg' q1
      exact ⟨y₁, LMove.none pL_ok j1, _, rfl, o1', k3.rel j1 ec q1, co1, fun ht => turn_there j1 hg' (by rw [ec]; exact ht) co1⟩
    rintro v h4 ⟨d4, γ4⟩ ⟨rfl, e4, w4, a4, t, rfl, o4, k4, co4, f4⟩
    simp only at e4 w4 a4 o4 k4 co4 f4
    by_cases ht : t = (p : Int) + 1
    · subst ht
      replace f4 := f4 rfl
      (repeat (first | refine EK.region ?_ | refine ER.done ?_ | refine ER.move rfl rfl rfl ?_ | refine ER.cmpT rfl rfl rfl rfl rfl (by first | (dsimp only [cmpP]; omega) | exact rfl | exact Int.le_refl _) ?_ | refine ER.add (kd := .i64) rfl rfl rfl rfl (i64_in (by omega) (by omega)) ?_ | refine EK.condT rfl ?_))
      refine ER.callD rfl rfl rfl rfl rfl (pat_g (m1.pls n hn) (by omega) a4.at.nd) ?_
      (repeat (first | refine ER.move rfl rfl rfl ?_ | refine ER.nilCheck rfl rfl rfl ?_ | refine ER.fieldAddr rfl rfl rfl ?_ | refine ER.load1 rfl rfl rfl (by assumption) ?_))
      refine ER.callR rfl rfl rfl rfl rfl (cload_f (F := fun v y => ∃ t : Int, v = .int .i64 t /\ 0 <= t /\ t <= 1000000000 /\ OwnP i c hd pu po bd sp sq y /\ HK c s H y /\ Co n p s y /\ Cf1 n p y) pL_ok a4 (b := c.B (kTick n (p % 64))) (mem_tick hn o4.cc) fun y₁ q1 j1 => ?_) ?_
      · have o1' := o4.rel i0 q1
        have ec := o1'.cc
        have hg' : n < y₁.c.L := by rw [ec]; exact hn
        have hcK := j1.cK
        obtain ⟨t1, t2⟩ := j1.tc n (p % 64)
        rw [ec] at t1 t2 hcK
        exact ⟨y₁, LMove.none pL_ok j1, _, rfl, t1, Int.le_trans t2 hcK, o1', k4.rel j1 ec q1, co4.rel j1 hg' q1, f4.rel co4 q1⟩
      rintro v h5 ⟨d5, γ5⟩ ⟨rfl, e5, w5, a5, t, rfl, t0, t1, o5, k5, co5, f5⟩
      simp only at e5 w5 a5 o5 k5 co5 f5
      skip
      refine ER.buildS (cells := #[.bool true, .int .i64 p, .int .i64 t]) rfl rfl rfl rfl ?_
      (repeat refine ER.indexArr rfl rfl rfl rfl (by omega) (by omega) ?_)
      have hrw := heads_row (get_push_new h0 (headsO H)) (i := n) (by omega)
      refine ER.storeN (vs := hrowH (true, (p : Int), t)) rfl rfl rfl rfl (by simp [hrowH, OneCell]) (fun j hj => ⟨?_, hfroz_of (get_push_new _ _), w_still o5.cc hro (by omega)⟩) ?_
      · have hj3 : j < 3 := hj
        rcases (show j = 0 \/ j = 1 \/ j = 2 by omega) with rfl | rfl | rfl
        · exact ⟨_, hrw 0 _ rfl⟩
        · exact ⟨_, hrw 1 _ rfl⟩
        · exact ⟨_, hrw 2 _ rfl⟩
      change ER _ _ _ _ _ _ _ _ _ _ (hsetRow (h0.push (headsO H)) h0.size (0 + n * 3) (hrowH (true, (p : Int), t))) _ _
      rw [heads_put (by omega)]
      (repeat (first | refine EK.region ?_ | refine ER.done ?_ | refine EK.inBlock ?_ | refine ER.move rfl rfl rfl ?_ | refine ER.assign rfl rfl rfl ?_ | refine ER.sub' (kd := .i64) rfl rfl rfl rfl (i64_in (by omega) (by omega)) ?_))
      refine EK.back (again n _ _ (by omega) ⟨up H n (true, (p : Int), t), rfl, by omega, ((e5.trans e4).trans e3).trans e1, ((w5.trans w4).trans w3).trans w1, a5, o5, fun q => ?_, co5.pr⟩) ⟨rfl, rfl, rfl, rfl, rfl, trivial⟩
      by_cases e : q = n
      · subst e
        rw [up_same]
        exact ⟨⟨t0, t1⟩, fun _ => ⟨hn, p, rfl, hp, co5, f5⟩⟩
      · rw [up_ne _ _ e]
        exact k5 q
    · (repeat (first | refine EK.region ?_ | refine ER.done ?_ | refine EK.skip ?_ | refine EK.inBlock ?_ | refine ER.move rfl rfl rfl ?_ | refine ER.assign rfl rfl rfl ?_ | refine ER.cmpF rfl rfl rfl rfl rfl (by first | (dsimp only [cmpP]; omega) | exact rfl | exact Int.le_refl _) ?_ | refine ER.add (kd := .i64) rfl rfl rfl rfl (i64_in (by omega) (by omega)) ?_ | refine ER.sub' (kd := .i64) rfl rfl rfl rfl (i64_in (by omega) (by omega)) ?_ | refine EK.condF rfl ?_))
      exact EK.back (again n _ _ (by omega) ⟨H, rfl, by omega, (e4.trans e3).trans e1, (w4.trans w3).trans w1, a4, o4, k4, co4.pr⟩) ⟨rfl, rfl, rfl, rfl, rfl, trivial⟩
end
end
end Go.Proofs.Ytakioblpgmjdaaa
