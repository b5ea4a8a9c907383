/- Steps of the walk and of the plain law (FMv to KfJ). Conditions: as each lemma says. -/
import Derived.Test.YtakioblpgmjdaaaCFD
set_option linter.unusedSectionVars false
set_option linter.unusedVariables false
set_option linter.unusedSimpArgs false
namespace Go.Proofs.Ytakioblpgmjdaaa
section
open Go Go.TJ Go.Proofs
variable [Dm]
section
variable {Y : Type} {T : Tids} {L : Law Y} {h : Hp} {δ : Ix (Gf Y)} {i b : Nat}
theorem ilock_ok (hL : L.Ok) (hA : At L i ⟨b, 1, 0⟩ δ.g) : CallW Try.prog false (SitW Try.prog (XF T L) i) 112 #[.pointer (some ⟨b, 2, none⟩)] h δ (Ret (MuQ L i h δ.d δ.g ⟨b, 6, 0⟩)) := by
  refine CallW.start (n := 13) rfl rfl ?_
  (repeat (first | refine EK.seq ?_ | refine EK.region ?_))
  refine ER.ext rfl rfl rfl rfl (fun Q X hq => semW_mark0 (vs := #[]) (by simp) (by simp) hq) ?_
  (repeat (first | refine EK.seq ?_ | refine EK.region ?_ | refine ER.done ?_ | refine ER.move rfl rfl rfl ?_ | refine ER.nilCheck rfl rfl rfl ?_ | refine ER.fieldAddr rfl rfl rfl ?_))
  refine ER.casM (c := 1) hL rfl rfl rfl rfl hA (by decide) fun γ₁ q1 a1 m1 c1 l1 => ⟨fun e => ?_, fun ne => ?_⟩
  · obtain ⟨eb, ek, es, en⟩ := mu_word (x1 := 0) (x2 := 0) (x3 := 0) (x4 := 0) m1 (by decide) (by decide) (by decide) e
    refine ⟨{ γ₁.mu b with b := 1 }, 6, 0, by simp only [Mu.word, ek, es, en]; rfl, rfl, .take0 eb es, fun γ₂ q2 a2 e2 => ?_⟩
    (repeat (first | refine EK.seq ?_ | refine EK.region ?_ | refine ER.done ?_ | refine EK.condT rfl ?_))
    refine ER.ext rfl rfl rfl rfl (fun Q X hq => semW_mark0 (vs := #[]) (by simp) (by simp) hq) ?_
    (repeat (first | refine EK.region ?_ | refine ER.done ?_ | refine ER.move rfl rfl rfl ?_))
    refine ER.unsafeM hL rfl rfl rfl (by decide) a2 (by decide) fun γ₃ q3 a3 => ?_
    refine ER.ext rfl rfl rfl rfl (fun Q X hq => semW_marked (by simp) (by simp) hq (hDu := a3.nd)) ?_
    (repeat (first | refine ER.done ?_ | refine EK.ret ?_))
    exact EU.ret0 rfl ⟨rfl, rfl, rfl, q2.trans hL q3, a3⟩
  · (repeat (first | refine EK.region ?_ | refine ER.done ?_ | refine EK.skip ?_ | refine ER.move rfl rfl rfl ?_ | refine EK.condF rfl ?_))
    refine ER.callR rfl rfl rfl rfl rfl (lockSlow_ok hL a1) ?_
    rintro v h' ⟨d', γ'⟩ ⟨rfl, rfl, e1, r1, a1'⟩
    simp only at e1 r1 a1'
    subst e1
    (repeat refine ER.done ?_)
    refine EK.done ?_
    exact EU.ret0 rfl ⟨rfl, rfl, rfl, q1.trans hL r1, a1'⟩
structure Uk (Y : Type) where
  m : Mu
  γ : Gf Y
  lv : Bool
def Uk.E (b : Nat) (s : Uk Y) : Env := [(4, .int .i32 (W s.m.b s.m.k s.m.s s.m.n)), (0, .pointer (some ⟨b, 2, none⟩))]
structure Uk.Ok (L : Law Y) (i b d : Nat) (γ₀ : Gf Y) (h : Hp) (s : Uk Y) (h' : Hp) (δ' : Ix (Gf Y)) : Prop where
  hp : h' = h
  d : δ'.d = d
  r0 : Ro L i γ₀ s.γ
  r1 : Ro L i s.γ δ'.g
  mu : s.lv = false -> (s.γ.mu b).word = W 0 0 0 s.m.n
  a : At L i ⟨b, if s.lv then 0 else 7, 0⟩ δ'.g
  b1 : s.m.b <= 1
  k1 : s.m.k <= 1
  s1 : s.m.s <= 1
  n1 : s.m.n <= 200
  go : s.lv = true -> s.m.n = 0 \/ s.m.b = 1 \/ s.m.k = 1 \/ s.m.s = 1
  st : s.lv = false -> s.m.b = 0 /\ s.m.k = 0 /\ s.m.s = 0 /\ s.m.n ≠ 0
theorem W_add1 {k s n : Nat} (hk : k <= 1) (hs : s <= 1) (hn : n <= 1000) : IntKind.i32.wrap (W 0 k s n + 1) = W 1 k s n := by
  unfold W
  rw [show ((0 + 2 * k + 4 * s + 8 * n : Nat) : Int) + 1 = ((1 + 2 * k + 4 * s + 8 * n : Nat) : Int) by omega]
  exact i32_nat (by omega)
set_option maxHeartbeats 4000000 in
theorem unlockSlow_ok (hL : L.Ok) {k s n c : Nat} (hk : k <= 1) (hs : s <= 1) (hn0 : n <= 200) (hA : At L i ⟨b, c, 0⟩ δ.g) (hc : (c = 0 /\ s = 0 /\ (n = 0 \/ k = 1)) \/ (c = 7 /\ s = 0 /\ n ≠ 0 /\ k = 0 /\ (δ.g.mu b).word = W 0 0 0 n) \/ (c = 9 /\ s = 1)) :
    CallW Try.prog false (SitW Try.prog (XF T L) i) 122 #[.pointer (some ⟨b, 2, none⟩), .int .i32 (W 0 k s n)] h δ (Ret (MuQ L i h δ.d δ.g ⟨b, 0, 0⟩)) := by
  refine CallW.start (n := 43) rfl rfl ?_
  have hn : n <= 1000 := by omega
  (repeat (first | refine EK.seq ?_ | refine EK.region ?_ | refine ER.move rfl rfl rfl ?_))
  refine ER.add (kd := .i32) (r := W 1 k s n) rfl rfl rfl rfl (W_add1 hk hs hn) ?_
  refine ER.andI (b := 1) rfl rfl rfl rfl (W_and (by decide) hk hs hn).2.1 ?_
  (repeat (first | refine EK.seq ?_ | refine EK.region ?_ | refine ER.done ?_ | refine EK.skip ?_ | refine ER.move rfl rfl rfl ?_ | refine ER.cmpF rfl rfl rfl rfl rfl (by first | (dsimp only [cmpP]; omega) | exact rfl | exact Int.le_refl _) ?_ | refine EK.condF rfl ?_))
  refine ER.andI (b := 4) rfl rfl rfl rfl (W_and (by decide) hk hs hn).2.2.2.1 ?_
  have hs' : s = 0 \/ s = 1 := by omega
  rcases hs' with rfl | rfl
  · (repeat (first | refine EK.seq ?_ | refine EK.region ?_ | refine ER.done ?_ | refine EK.block ?_ | refine ER.move rfl rfl rfl ?_ | refine ER.assign rfl rfl rfl ?_ | refine ER.cmpT rfl rfl rfl rfl rfl (by first | (dsimp only [cmpP]; omega) | exact rfl | exact Int.le_refl _) ?_ | refine EK.condT rfl ?_))
    refine EK.loopInv (Uk.E b) (Uk.Ok L i b δ.d δ.g h) (fun s => pot L s.γ) ⟨⟨0, k, 0, n, 0⟩, δ.g, decide (c = 0)⟩ ⟨rfl, rfl, trivial⟩ ⟨rfl, rfl, Ro.refl hL _ _, Ro.refl hL _ _, ?_, ?_, Nat.zero_le _, hk, Nat.zero_le _, hn0, ?_, ?_⟩ ?_
    · intro e
      rcases hc with ⟨rfl, _⟩ | ⟨_, _, _, _, h5⟩ | ⟨_, h⟩
      · simp at e
      · exact h5
      · cases h
    · rcases hc with ⟨rfl, _⟩ | ⟨rfl, _⟩ | ⟨_, h⟩
      · exact hA
      · exact hA
      · cases h
    · intro e
      rcases hc with ⟨rfl, _, h⟩ | ⟨rfl, _⟩ | ⟨_, h⟩
      · rcases h with h | h
        · exact .inl h
        · exact .inr (.inr (.inl h))
      · simp at e
      · cases h
    · intro e
      rcases hc with ⟨rfl, _⟩ | ⟨_, _, h3, h4, _⟩ | ⟨_, h⟩
      · simp at e
      · exact ⟨rfl, h4, rfl, h3⟩
      · cases h
    intro s h' δ' hI hback
    obtain ⟨rfl, hd, r0, r1, hmu, ha, hb1, hk1, hs1, hn1, hgo, hst⟩ := hI
    obtain ⟨⟨mb, mk, ms, mn, mz⟩, γs, lv⟩ := s
    simp only at hmu r0 r1 ha hb1 hk1 hs1 hn1 hgo hst
    have hn1' : mn <= 1000 := by omega
    refine EK.sub (show subE [(4, .int .i32 (W mb mk ms mn)), (0, .pointer (some ⟨b, 2, none⟩))] _ from ⟨rfl, rfl, trivial⟩) ?_
    cases lv
    · obtain ⟨rfl, rfl, rfl, h0⟩ := hst rfl
      replace ha : At L i ⟨b, 7, 0⟩ δ'.g := ha
      (repeat (first | refine EK.seq ?_ | refine EK.region ?_ | refine ER.done ?_ | refine EK.skip ?_ | refine EK.block ?_ | refine EK.inBlock ?_ | refine ER.move rfl rfl rfl ?_ | refine ER.assign rfl rfl rfl ?_ | refine ER.nilCheck rfl rfl rfl ?_ | refine ER.fieldAddr rfl rfl rfl ?_ | refine ER.load1 rfl rfl rfl (hcell_of (by assumption) rfl) ?_ | refine ER.no rfl rfl ?_ | refine ER.noU rfl ?_ | refine ER.eqV rfl rfl rfl rfl rfl ?_ | refine ER.neqV rfl rfl rfl rfl rfl ?_ | refine ER.eqA rfl rfl rfl rfl rfl ?_ | refine ER.neqA rfl rfl rfl rfl rfl ?_ | refine ER.notB rfl rfl rfl ?_ | refine ER.pickT rfl rfl rfl rfl ?_ | refine ER.pickF rfl rfl rfl rfl ?_ | refine ER.extract rfl rfl rfl rfl ?_ | refine ER.cmpT rfl rfl rfl rfl rfl (by first | (dsimp only [cmpP]; omega) | exact rfl | exact Int.le_refl _) ?_ | refine ER.cmpF rfl rfl rfl rfl rfl (by first | (dsimp only [cmpP]; omega) | exact rfl | exact Int.le_refl _) ?_ | refine ER.boxA rfl rfl rfl ?_ | refine ER.box rfl rfl rfl ?_ | refine ER.allocA rfl rfl ?_ | refine ER.alloc rfl rfl ?_ | refine ER.add (kd := .i64) rfl rfl rfl rfl (i64_in (by omega) (by omega)) ?_ | refine ER.sub' (kd := .i64) rfl rfl rfl rfl (i64_in (by omega) (by omega)) ?_ | refine ER.mul (kd := .i64) rfl rfl rfl rfl (i64_in (by omega) (by omega)) ?_ | refine ER.rem (kd := .i64) rfl rfl rfl rfl (by decide) rfl ?_ | refine ER.indexArr rfl rfl rfl rfl (by omega) (by omega) ?_ | refine ER.len1 rfl rfl rfl ?_ | refine ER.indexSl rfl rfl rfl rfl (by omega) (by omega) ?_ | refine EK.condT rfl ?_ | refine EK.condF rfl ?_ | refine ER.andI (b := 5) rfl rfl rfl rfl (W_and (by decide) (by decide) (by decide) (by omega)).1 ?_ | refine ER.andI (b := 1) rfl rfl rfl rfl (W_and (by decide) (by decide) (by decide) (by omega)).2.1 ?_ | refine ER.andI (b := 2) rfl rfl rfl rfl (W_and (by decide) (by decide) (by decide) (by omega)).2.2.1 ?_ | refine ER.andI (b := 4) rfl rfl rfl rfl (W_and (by decide) (by decide) (by decide) (by omega)).2.2.2.1 ?_ | refine ER.andI (b := 3) rfl rfl rfl rfl (W_and (by decide) (by decide) (by decide) (by omega)).2.2.2.2.1 ?_ | refine ER.andI (b := 7) rfl rfl rfl rfl (W_and (by decide) (by decide) (by decide) (by omega)).2.2.2.2.2 ?_ | refine ER.binI (op := .or) (b := 1) rfl rfl rfl rfl (by rw [binOp_bits (.inr rfl), (W_or (by decide) (by decide) (by decide) (by omega)).1]) ?_ | refine ER.binI (op := .or) (b := 2) rfl rfl rfl rfl (by rw [binOp_bits (.inr rfl), (W_or (by decide) (by decide) (by decide) (by omega)).2.1]) ?_ | refine ER.binI (op := .or) (b := 4) rfl rfl rfl rfl (by rw [binOp_bits (.inr rfl), (W_or (by decide) (by decide) (by decide) (by omega)).2.2]) ?_ | refine ER.binI2 (op := .shr) rfl rfl rfl rfl (W_shr (by decide) (by decide) (by decide)) ?_ | refine ER.binI (op := .andNot) rfl rfl rfl rfl (by rw [binOp_andN, W_andNot (by decide) (by decide) (by omega)]) ?_ | refine ER.add (kd := .i32) (b := 8) rfl rfl rfl rfl (W_add8 (by decide) (by decide) (by decide) (by omega)) ?_ | refine ER.sub' (kd := .i32) (b := 8) rfl rfl rfl rfl (W_sub8 (by decide) (by decide) (by decide) (by omega) (by omega)) ?_))
      refine ER.casM (c := 7) hL rfl rfl rfl rfl ha (by decide) fun γ₁ q1 a1 m1 c1 l1 => ⟨fun e => ?_, fun ne => ?_⟩
      · obtain ⟨eb, ek, es, en⟩ := mu_word m1 (by decide) (by decide) (by decide) e
        refine ⟨{ γ₁.mu b with n := (γ₁.mu b).n - 1, k := 1 }, 8, 0, by simp only [Mu.word, W, eb, es, en], rfl, .wake eb ek es (by omega), fun γ₂ q2 a2 e2 => ?_⟩
        (repeat (first | refine EK.seq ?_ | refine EK.region ?_ | refine ER.done ?_ | refine EK.skip ?_ | refine EK.block ?_ | refine EK.inBlock ?_ | refine ER.move rfl rfl rfl ?_ | refine ER.assign rfl rfl rfl ?_ | refine ER.nilCheck rfl rfl rfl ?_ | refine ER.fieldAddr rfl rfl rfl ?_ | refine ER.load1 rfl rfl rfl (hcell_of (by assumption) rfl) ?_ | refine ER.no rfl rfl ?_ | refine ER.noU rfl ?_ | refine ER.eqV rfl rfl rfl rfl rfl ?_ | refine ER.neqV rfl rfl rfl rfl rfl ?_ | refine ER.eqA rfl rfl rfl rfl rfl ?_ | refine ER.neqA rfl rfl rfl rfl rfl ?_ | refine ER.notB rfl rfl rfl ?_ | refine ER.pickT rfl rfl rfl rfl ?_ | refine ER.pickF rfl rfl rfl rfl ?_ | refine ER.extract rfl rfl rfl rfl ?_ | refine ER.cmpT rfl rfl rfl rfl rfl (by first | (dsimp only [cmpP]; omega) | exact rfl | exact Int.le_refl _) ?_ | refine ER.cmpF rfl rfl rfl rfl rfl (by first | (dsimp only [cmpP]; omega) | exact rfl | exact Int.le_refl _) ?_ | refine ER.boxA rfl rfl rfl ?_ | refine ER.box rfl rfl rfl ?_ | refine ER.allocA rfl rfl ?_ | refine ER.alloc rfl rfl ?_ | refine ER.add (kd := .i64) rfl rfl rfl rfl (i64_in (by omega) (by omega)) ?_ | refine ER.sub' (kd := .i64) rfl rfl rfl rfl (i64_in (by omega) (by omega)) ?_ | refine ER.mul (kd := .i64) rfl rfl rfl rfl (i64_in (by omega) (by omega)) ?_ | refine ER.rem (kd := .i64) rfl rfl rfl rfl (by decide) rfl ?_ | refine ER.indexArr rfl rfl rfl rfl (by omega) (by omega) ?_ | refine ER.len1 rfl rfl rfl ?_ | refine ER.indexSl rfl rfl rfl rfl (by omega) (by omega) ?_ | refine EK.condT rfl ?_ | refine EK.condF rfl ?_ | refine ER.andI (b := 5) rfl rfl rfl rfl (W_and (by decide) (by decide) (by decide) (by omega)).1 ?_ | refine ER.andI (b := 1) rfl rfl rfl rfl (W_and (by decide) (by decide) (by decide) (by omega)).2.1 ?_ | refine ER.andI (b := 2) rfl rfl rfl rfl (W_and (by decide) (by decide) (by decide) (by omega)).2.2.1 ?_ | refine ER.andI (b := 4) rfl rfl rfl rfl (W_and (by decide) (by decide) (by decide) (by omega)).2.2.2.1 ?_ | refine ER.andI (b := 3) rfl rfl rfl rfl (W_and (by decide) (by decide) (by decide) (by omega)).2.2.2.2.1 ?_ | refine ER.andI (b := 7) rfl rfl rfl rfl (W_and (by decide) (by decide) (by decide) (by omega)).2.2.2.2.2 ?_ | refine ER.binI (op := .or) (b := 1) rfl rfl rfl rfl (by rw [binOp_bits (.inr rfl), (W_or (by decide) (by decide) (by decide) (by omega)).1]) ?_ | refine ER.binI (op := .or) (b := 2) rfl rfl rfl rfl (by rw [binOp_bits (.inr rfl), (W_or (by decide) (by decide) (by decide) (by omega)).2.1]) ?_ | refine ER.binI (op := .or) (b := 4) rfl rfl rfl rfl (by rw [binOp_bits (.inr rfl), (W_or (by decide) (by decide) (by decide) (by omega)).2.2]) ?_ | refine ER.binI2 (op := .shr) rfl rfl rfl rfl (W_shr (by decide) (by decide) (by decide)) ?_ | refine ER.binI (op := .andNot) rfl rfl rfl rfl (by rw [binOp_andN, W_andNot (by decide) (by decide) (by omega)]) ?_ | refine ER.add (kd := .i32) (b := 8) rfl rfl rfl rfl (W_add8 (by decide) (by decide) (by decide) (by omega)) ?_ | refine ER.sub' (kd := .i32) (b := 8) rfl rfl rfl rfl (W_sub8 (by decide) (by decide) (by decide) (by omega) (by omega)) ?_))
        refine ER.semrelM hL rfl rfl rfl rfl a2 (.inl rfl) fun γ₃ q3 a3 => ?_
        (repeat (first | refine EK.seq ?_ | refine EK.region ?_ | refine ER.done ?_ | refine EK.skip ?_ | refine EK.block ?_ | refine EK.inBlock ?_ | refine ER.move rfl rfl rfl ?_ | refine ER.assign rfl rfl rfl ?_ | refine ER.nilCheck rfl rfl rfl ?_ | refine ER.fieldAddr rfl rfl rfl ?_ | refine ER.load1 rfl rfl rfl (hcell_of (by assumption) rfl) ?_ | refine ER.no rfl rfl ?_ | refine ER.noU rfl ?_ | refine ER.eqV rfl rfl rfl rfl rfl ?_ | refine ER.neqV rfl rfl rfl rfl rfl ?_ | refine ER.eqA rfl rfl rfl rfl rfl ?_ | refine ER.neqA rfl rfl rfl rfl rfl ?_ | refine ER.notB rfl rfl rfl ?_ | refine ER.pickT rfl rfl rfl rfl ?_ | refine ER.pickF rfl rfl rfl rfl ?_ | refine ER.extract rfl rfl rfl rfl ?_ | refine ER.cmpT rfl rfl rfl rfl rfl (by first | (dsimp only [cmpP]; omega) | exact rfl | exact Int.le_refl _) ?_ | refine ER.cmpF rfl rfl rfl rfl rfl (by first | (dsimp only [cmpP]; omega) | exact rfl | exact Int.le_refl _) ?_ | refine ER.boxA rfl rfl rfl ?_ | refine ER.box rfl rfl rfl ?_ | refine ER.allocA rfl rfl ?_ | refine ER.alloc rfl rfl ?_ | refine ER.add (kd := .i64) rfl rfl rfl rfl (i64_in (by omega) (by omega)) ?_ | refine ER.sub' (kd := .i64) rfl rfl rfl rfl (i64_in (by omega) (by omega)) ?_ | refine ER.mul (kd := .i64) rfl rfl rfl rfl (i64_in (by omega) (by omega)) ?_ | refine ER.rem (kd := .i64) rfl rfl rfl rfl (by decide) rfl ?_ | refine ER.indexArr rfl rfl rfl rfl (by omega) (by omega) ?_ | refine ER.len1 rfl rfl rfl ?_ | refine ER.indexSl rfl rfl rfl rfl (by omega) (by omega) ?_ | refine EK.condT rfl ?_ | refine EK.condF rfl ?_ | refine ER.andI (b := 5) rfl rfl rfl rfl (W_and (by decide) (by decide) (by decide) (by omega)).1 ?_ | refine ER.andI (b := 1) rfl rfl rfl rfl (W_and (by decide) (by decide) (by decide) (by omega)).2.1 ?_ | refine ER.andI (b := 2) rfl rfl rfl rfl (W_and (by decide) (by decide) (by decide) (by omega)).2.2.1 ?_ | refine ER.andI (b := 4) rfl rfl rfl rfl (W_and (by decide) (by decide) (by decide) (by omega)).2.2.2.1 ?_ | refine ER.andI (b := 3) rfl rfl rfl rfl (W_and (by decide) (by decide) (by decide) (by omega)).2.2.2.2.1 ?_ | refine ER.andI (b := 7) rfl rfl rfl rfl (W_and (by decide) (by decide) (by decide) (by omega)).2.2.2.2.2 ?_ | refine ER.binI (op := .or) (b := 1) rfl rfl rfl rfl (by rw [binOp_bits (.inr rfl), (W_or (by decide) (by decide) (by decide) (by omega)).1]) ?_ | refine ER.binI (op := .or) (b := 2) rfl rfl rfl rfl (by rw [binOp_bits (.inr rfl), (W_or (by decide) (by decide) (by decide) (by omega)).2.1]) ?_ | refine ER.binI (op := .or) (b := 4) rfl rfl rfl rfl (by rw [binOp_bits (.inr rfl), (W_or (by decide) (by decide) (by decide) (by omega)).2.2]) ?_ | refine ER.binI2 (op := .shr) rfl rfl rfl rfl (W_shr (by decide) (by decide) (by decide)) ?_ | refine ER.binI (op := .andNot) rfl rfl rfl rfl (by rw [binOp_andN, W_andNot (by decide) (by decide) (by omega)]) ?_ | refine ER.add (kd := .i32) (b := 8) rfl rfl rfl rfl (W_add8 (by decide) (by decide) (by decide) (by omega)) ?_ | refine ER.sub' (kd := .i32) (b := 8) rfl rfl rfl rfl (W_sub8 (by decide) (by decide) (by decide) (by omega) (by omega)) ?_))
        refine EK.ret ?_
        exact EU.ret0 rfl ⟨rfl, rfl, hd, ((r0.trans hL r1).trans hL q2).trans hL q3, a3⟩
      · (repeat (first | refine EK.seq ?_ | refine EK.region ?_ | refine ER.done ?_ | refine EK.skip ?_ | refine EK.block ?_ | refine EK.inBlock ?_ | refine ER.move rfl rfl rfl ?_ | refine ER.assign rfl rfl rfl ?_ | refine ER.nilCheck rfl rfl rfl ?_ | refine ER.fieldAddr rfl rfl rfl ?_ | refine ER.load1 rfl rfl rfl (hcell_of (by assumption) rfl) ?_ | refine ER.no rfl rfl ?_ | refine ER.noU rfl ?_ | refine ER.eqV rfl rfl rfl rfl rfl ?_ | refine ER.neqV rfl rfl rfl rfl rfl ?_ | refine ER.eqA rfl rfl rfl rfl rfl ?_ | refine ER.neqA rfl rfl rfl rfl rfl ?_ | refine ER.notB rfl rfl rfl ?_ | refine ER.pickT rfl rfl rfl rfl ?_ | refine ER.pickF rfl rfl rfl rfl ?_ | refine ER.extract rfl rfl rfl rfl ?_ | refine ER.cmpT rfl rfl rfl rfl rfl (by first | (dsimp only [cmpP]; omega) | exact rfl | exact Int.le_refl _) ?_ | refine ER.cmpF rfl rfl rfl rfl rfl (by first | (dsimp only [cmpP]; omega) | exact rfl | exact Int.le_refl _) ?_ | refine ER.boxA rfl rfl rfl ?_ | refine ER.box rfl rfl rfl ?_ | refine ER.allocA rfl rfl ?_ | refine ER.alloc rfl rfl ?_ | refine ER.add (kd := .i64) rfl rfl rfl rfl (i64_in (by omega) (by omega)) ?_ | refine ER.sub' (kd := .i64) rfl rfl rfl rfl (i64_in (by omega) (by omega)) ?_ | refine ER.mul (kd := .i64) rfl rfl rfl rfl (i64_in (by omega) (by omega)) ?_ | refine ER.rem (kd := .i64) rfl rfl rfl rfl (by decide) rfl ?_ | refine ER.indexArr rfl rfl rfl rfl (by omega) (by omega) ?_ | refine ER.len1 rfl rfl rfl ?_ | refine ER.indexSl rfl rfl rfl rfl (by omega) (by omega) ?_ | refine EK.condT rfl ?_ | refine EK.condF rfl ?_ | refine ER.andI (b := 5) rfl rfl rfl rfl (W_and (by decide) (by decide) (by decide) (by omega)).1 ?_ | refine ER.andI (b := 1) rfl rfl rfl rfl (W_and (by decide) (by decide) (by decide) (by omega)).2.1 ?_ | refine ER.andI (b := 2) rfl rfl rfl rfl (W_and (by decide) (by decide) (by decide) (by omega)).2.2.1 ?_ | refine ER.andI (b := 4) rfl rfl rfl rfl (W_and (by decide) (by decide) (by decide) (by omega)).2.2.2.1 ?_ | refine ER.andI (b := 3) rfl rfl rfl rfl (W_and (by decide) (by decide) (by decide) (by omega)).2.2.2.2.1 ?_ | refine ER.andI (b := 7) rfl rfl rfl rfl (W_and (by decide) (by decide) (by decide) (by omega)).2.2.2.2.2 ?_ | refine ER.binI (op := .or) (b := 1) rfl rfl rfl rfl (by rw [binOp_bits (.inr rfl), (W_or (by decide) (by decide) (by decide) (by omega)).1]) ?_ | refine ER.binI (op := .or) (b := 2) rfl rfl rfl rfl (by rw [binOp_bits (.inr rfl), (W_or (by decide) (by decide) (by decide) (by omega)).2.1]) ?_ | refine ER.binI (op := .or) (b := 4) rfl rfl rfl rfl (by rw [binOp_bits (.inr rfl), (W_or (by decide) (by decide) (by decide) (by omega)).2.2]) ?_ | refine ER.binI2 (op := .shr) rfl rfl rfl rfl (W_shr (by decide) (by decide) (by decide)) ?_ | refine ER.binI (op := .andNot) rfl rfl rfl rfl (by rw [binOp_andN, W_andNot (by decide) (by decide) (by omega)]) ?_ | refine ER.add (kd := .i32) (b := 8) rfl rfl rfl rfl (W_add8 (by decide) (by decide) (by decide) (by omega)) ?_ | refine ER.sub' (kd := .i32) (b := 8) rfl rfl rfl rfl (W_sub8 (by decide) (by decide) (by decide) (by omega) (by omega)) ?_))
        refine ER.loadM (c := 7) hL norace_unlockSlow rfl rfl rfl a1 (by decide) fun γ₃ q3 a3 m3 c3 l3 => ?_
        have hlt : pot L γ₃ < pot L γs := Nat.lt_of_le_of_lt q3.pot (Nat.lt_of_le_of_ne (r1.trans hL q1).pot fun z => ne (by rw [((r1.trans hL q1).same z).1]; exact hmu rfl))
        by_cases hg : (γ₃.mu b).n = 0 \/ (γ₃.mu b).b = 1 \/ (γ₃.mu b).k = 1 \/ (γ₃.mu b).s = 1
        · refine .inl ⟨0, 0, .off hg, fun γ₄ q4 a4 e4 p4 _ => ?_⟩
          (repeat (first | refine EK.seq ?_ | refine EK.region ?_ | refine ER.done ?_ | refine EK.skip ?_ | refine EK.block ?_ | refine EK.inBlock ?_ | refine ER.move rfl rfl rfl ?_ | refine ER.assign rfl rfl rfl ?_ | refine ER.nilCheck rfl rfl rfl ?_ | refine ER.fieldAddr rfl rfl rfl ?_ | refine ER.load1 rfl rfl rfl (hcell_of (by assumption) rfl) ?_ | refine ER.no rfl rfl ?_ | refine ER.noU rfl ?_ | refine ER.eqV rfl rfl rfl rfl rfl ?_ | refine ER.neqV rfl rfl rfl rfl rfl ?_ | refine ER.eqA rfl rfl rfl rfl rfl ?_ | refine ER.neqA rfl rfl rfl rfl rfl ?_ | refine ER.notB rfl rfl rfl ?_ | refine ER.pickT rfl rfl rfl rfl ?_ | refine ER.pickF rfl rfl rfl rfl ?_ | refine ER.extract rfl rfl rfl rfl ?_ | refine ER.cmpT rfl rfl rfl rfl rfl (by first | (dsimp only [cmpP]; omega) | exact rfl | exact Int.le_refl _) ?_ | refine ER.cmpF rfl rfl rfl rfl rfl (by first | (dsimp only [cmpP]; omega) | exact rfl | exact Int.le_refl _) ?_ | refine ER.boxA rfl rfl rfl ?_ | refine ER.box rfl rfl rfl ?_ | refine ER.allocA rfl rfl ?_ | refine ER.alloc rfl rfl ?_ | refine ER.add (kd := .i64) rfl rfl rfl rfl (i64_in (by omega) (by omega)) ?_ | refine ER.sub' (kd := .i64) rfl rfl rfl rfl (i64_in (by omega) (by omega)) ?_ | refine ER.mul (kd := .i64) rfl rfl rfl rfl (i64_in (by omega) (by omega)) ?_ | refine ER.rem (kd := .i64) rfl rfl rfl rfl (by decide) rfl ?_ | refine ER.indexArr rfl rfl rfl rfl (by omega) (by omega) ?_ | refine ER.len1 rfl rfl rfl ?_ | refine ER.indexSl rfl rfl rfl rfl (by omega) (by omega) ?_ | refine EK.condT rfl ?_ | refine EK.condF rfl ?_ | refine ER.andI (b := 5) rfl rfl rfl rfl (W_and (by decide) (by decide) (by decide) (by omega)).1 ?_ | refine ER.andI (b := 1) rfl rfl rfl rfl (W_and (by decide) (by decide) (by decide) (by omega)).2.1 ?_ | refine ER.andI (b := 2) rfl rfl rfl rfl (W_and (by decide) (by decide) (by decide) (by omega)).2.2.1 ?_ | refine ER.andI (b := 4) rfl rfl rfl rfl (W_and (by decide) (by decide) (by decide) (by omega)).2.2.2.1 ?_ | refine ER.andI (b := 3) rfl rfl rfl rfl (W_and (by decide) (by decide) (by decide) (by omega)).2.2.2.2.1 ?_ | refine ER.andI (b := 7) rfl rfl rfl rfl (W_and (by decide) (by decide) (by decide) (by omega)).2.2.2.2.2 ?_ | refine ER.binI (op := .or) (b := 1) rfl rfl rfl rfl (by rw [binOp_bits (.inr rfl), (W_or (by decide) (by decide) (by decide) (by omega)).1]) ?_ | refine ER.binI (op := .or) (b := 2) rfl rfl rfl rfl (by rw [binOp_bits (.inr rfl), (W_or (by decide) (by decide) (by decide) (by omega)).2.1]) ?_ | refine ER.binI (op := .or) (b := 4) rfl rfl rfl rfl (by rw [binOp_bits (.inr rfl), (W_or (by decide) (by decide) (by decide) (by omega)).2.2]) ?_ | refine ER.binI2 (op := .shr) rfl rfl rfl rfl (W_shr (by decide) (by decide) (by decide)) ?_ | refine ER.binI (op := .andNot) rfl rfl rfl rfl (by rw [binOp_andN, W_andNot (by decide) (by decide) (by omega)]) ?_ | refine ER.add (kd := .i32) (b := 8) rfl rfl rfl rfl (W_add8 (by decide) (by decide) (by decide) (by omega)) ?_ | refine ER.sub' (kd := .i32) (b := 8) rfl rfl rfl rfl (W_sub8 (by decide) (by decide) (by decide) (by omega) (by omega)) ?_))
          refine EK.sub ?_ (hback ⟨γ₃.mu b, γ₄, true⟩ _ _ (Nat.lt_of_le_of_lt p4 hlt) ⟨rfl, hd, (r0.trans hL r1).trans hL (q1.trans hL q4), Ro.refl hL _ _, nofun, a4, m3.b1, m3.k1, m3.s1, mi_n m3 (fun x => ct_le x) l3, fun _ => hg, nofun⟩)
          exact ⟨rfl, rfl, trivial⟩
        · refine .inr ?_
          (repeat (first | refine EK.seq ?_ | refine EK.region ?_ | refine ER.done ?_ | refine EK.skip ?_ | refine EK.block ?_ | refine EK.inBlock ?_ | refine ER.move rfl rfl rfl ?_ | refine ER.assign rfl rfl rfl ?_ | refine ER.nilCheck rfl rfl rfl ?_ | refine ER.fieldAddr rfl rfl rfl ?_ | refine ER.load1 rfl rfl rfl (hcell_of (by assumption) rfl) ?_ | refine ER.no rfl rfl ?_ | refine ER.noU rfl ?_ | refine ER.eqV rfl rfl rfl rfl rfl ?_ | refine ER.neqV rfl rfl rfl rfl rfl ?_ | refine ER.eqA rfl rfl rfl rfl rfl ?_ | refine ER.neqA rfl rfl rfl rfl rfl ?_ | refine ER.notB rfl rfl rfl ?_ | refine ER.pickT rfl rfl rfl rfl ?_ | refine ER.pickF rfl rfl rfl rfl ?_ | refine ER.extract rfl rfl rfl rfl ?_ | refine ER.cmpT rfl rfl rfl rfl rfl (by first | (dsimp only [cmpP]; omega) | exact rfl | exact Int.le_refl _) ?_ | refine ER.cmpF rfl rfl rfl rfl rfl (by first | (dsimp only [cmpP]; omega) | exact rfl | exact Int.le_refl _) ?_ | refine ER.boxA rfl rfl rfl ?_ | refine ER.box rfl rfl rfl ?_ | refine ER.allocA rfl rfl ?_ | refine ER.alloc rfl rfl ?_ | refine ER.add (kd := .i64) rfl rfl rfl rfl (i64_in (by omega) (by omega)) ?_ | refine ER.sub' (kd := .i64) rfl rfl rfl rfl (i64_in (by omega) (by omega)) ?_ | refine ER.mul (kd := .i64) rfl rfl rfl rfl (i64_in (by omega) (by omega)) ?_ | refine ER.rem (kd := .i64) rfl rfl rfl rfl (by decide) rfl ?_ | refine ER.indexArr rfl rfl rfl rfl (by omega) (by omega) ?_ | refine ER.len1 rfl rfl rfl ?_ | refine ER.indexSl rfl rfl rfl rfl (by omega) (by omega) ?_ | refine EK.condT rfl ?_ | refine EK.condF rfl ?_ | refine ER.andI (b := 5) rfl rfl rfl rfl (W_and (by decide) (by decide) (by decide) (by omega)).1 ?_ | refine ER.andI (b := 1) rfl rfl rfl rfl (W_and (by decide) (by decide) (by decide) (by omega)).2.1 ?_ | refine ER.andI (b := 2) rfl rfl rfl rfl (W_and (by decide) (by decide) (by decide) (by omega)).2.2.1 ?_ | refine ER.andI (b := 4) rfl rfl rfl rfl (W_and (by decide) (by decide) (by decide) (by omega)).2.2.2.1 ?_ | refine ER.andI (b := 3) rfl rfl rfl rfl (W_and (by decide) (by decide) (by decide) (by omega)).2.2.2.2.1 ?_ | refine ER.andI (b := 7) rfl rfl rfl rfl (W_and (by decide) (by decide) (by decide) (by omega)).2.2.2.2.2 ?_ | refine ER.binI (op := .or) (b := 1) rfl rfl rfl rfl (by rw [binOp_bits (.inr rfl), (W_or (by decide) (by decide) (by decide) (by omega)).1]) ?_ | refine ER.binI (op := .or) (b := 2) rfl rfl rfl rfl (by rw [binOp_bits (.inr rfl), (W_or (by decide) (by decide) (by decide) (by omega)).2.1]) ?_ | refine ER.binI (op := .or) (b := 4) rfl rfl rfl rfl (by rw [binOp_bits (.inr rfl), (W_or (by decide) (by decide) (by decide) (by omega)).2.2]) ?_ | refine ER.binI2 (op := .shr) rfl rfl rfl rfl (W_shr (by decide) (by decide) (by decide)) ?_ | refine ER.binI (op := .andNot) rfl rfl rfl rfl (by rw [binOp_andN, W_andNot (by decide) (by decide) (by omega)]) ?_ | refine ER.add (kd := .i32) (b := 8) rfl rfl rfl rfl (W_add8 (by decide) (by decide) (by decide) (by omega)) ?_ | refine ER.sub' (kd := .i32) (b := 8) rfl rfl rfl rfl (W_sub8 (by decide) (by decide) (by decide) (by omega) (by omega)) ?_))
          have hb3 := m3.b1
          have hk3 := m3.k1
          have hs3 := m3.s1
          have z1 : (γ₃.mu b).b = 0 := by omega
          have z2 : (γ₃.mu b).k = 0 := by omega
          have z3 : (γ₃.mu b).s = 0 := by omega
          refine EK.sub ?_ (hback ⟨γ₃.mu b, γ₃, false⟩ _ _ hlt ⟨rfl, hd, (r0.trans hL r1).trans hL (q1.trans hL q3), Ro.refl hL _ _, fun _ => by rw [Mu.word_eq, z1, z2, z3], a3, m3.b1, m3.k1, m3.s1, mi_n m3 (fun x => ct_le x) l3, nofun, fun _ => ⟨z1, z2, z3, fun z => hg (.inl z)⟩⟩)
          exact ⟨rfl, rfl, trivial⟩
    · replace ha : At L i ⟨b, 0, 0⟩ δ'.g := ha
      have hgo := hgo rfl
      (repeat (first | refine EK.seq ?_ | refine EK.region ?_ | refine ER.done ?_ | refine EK.skip ?_ | refine EK.block ?_ | refine EK.inBlock ?_ | refine ER.move rfl rfl rfl ?_ | refine ER.assign rfl rfl rfl ?_ | refine ER.nilCheck rfl rfl rfl ?_ | refine ER.fieldAddr rfl rfl rfl ?_ | refine ER.load1 rfl rfl rfl (hcell_of (by assumption) rfl) ?_ | refine ER.no rfl rfl ?_ | refine ER.noU rfl ?_ | refine ER.eqV rfl rfl rfl rfl rfl ?_ | refine ER.neqV rfl rfl rfl rfl rfl ?_ | refine ER.eqA rfl rfl rfl rfl rfl ?_ | refine ER.neqA rfl rfl rfl rfl rfl ?_ | refine ER.notB rfl rfl rfl ?_ | refine ER.pickT rfl rfl rfl rfl ?_ | refine ER.pickF rfl rfl rfl rfl ?_ | refine ER.extract rfl rfl rfl rfl ?_ | refine ER.cmpT rfl rfl rfl rfl rfl (by first | (dsimp only [cmpP]; omega) | exact rfl | exact Int.le_refl _) ?_ | refine ER.cmpF rfl rfl rfl rfl rfl (by first | (dsimp only [cmpP]; omega) | exact rfl | exact Int.le_refl _) ?_ | refine ER.boxA rfl rfl rfl ?_ | refine ER.box rfl rfl rfl ?_ | refine ER.allocA rfl rfl ?_ | refine ER.alloc rfl rfl ?_ | refine ER.add (kd := .i64) rfl rfl rfl rfl (i64_in (by omega) (by omega)) ?_ | refine ER.sub' (kd := .i64) rfl rfl rfl rfl (i64_in (by omega) (by omega)) ?_ | refine ER.mul (kd := .i64) rfl rfl rfl rfl (i64_in (by omega) (by omega)) ?_ | refine ER.rem (kd := .i64) rfl rfl rfl rfl (by decide) rfl ?_ | refine ER.indexArr rfl rfl rfl rfl (by omega) (by omega) ?_ | refine ER.len1 rfl rfl rfl ?_ | refine ER.indexSl rfl rfl rfl rfl (by omega) (by omega) ?_ | refine EK.condT rfl ?_ | refine EK.condF rfl ?_ | refine ER.andI (b := 5) rfl rfl rfl rfl (W_and (by decide) (by decide) (by decide) (by omega)).1 ?_ | refine ER.andI (b := 1) rfl rfl rfl rfl (W_and (by decide) (by decide) (by decide) (by omega)).2.1 ?_ | refine ER.andI (b := 2) rfl rfl rfl rfl (W_and (by decide) (by decide) (by decide) (by omega)).2.2.1 ?_ | refine ER.andI (b := 4) rfl rfl rfl rfl (W_and (by decide) (by decide) (by decide) (by omega)).2.2.2.1 ?_ | refine ER.andI (b := 3) rfl rfl rfl rfl (W_and (by decide) (by decide) (by decide) (by omega)).2.2.2.2.1 ?_ | refine ER.andI (b := 7) rfl rfl rfl rfl (W_and (by decide) (by decide) (by decide) (by omega)).2.2.2.2.2 ?_ | refine ER.binI (op := .or) (b := 1) rfl rfl rfl rfl (by rw [binOp_bits (.inr rfl), (W_or (by decide) (by decide) (by decide) (by omega)).1]) ?_ | refine ER.binI (op := .or) (b := 2) rfl rfl rfl rfl (by rw [binOp_bits (.inr rfl), (W_or (by decide) (by decide) (by decide) (by omega)).2.1]) ?_ | refine ER.binI (op := .or) (b := 4) rfl rfl rfl rfl (by rw [binOp_bits (.inr rfl), (W_or (by decide) (by decide) (by decide) (by omega)).2.2]) ?_ | refine ER.binI2 (op := .shr) rfl rfl rfl rfl (W_shr (by decide) (by decide) (by decide)) ?_ | refine ER.binI (op := .andNot) rfl rfl rfl rfl (by rw [binOp_andN, W_andNot (by decide) (by decide) (by omega)]) ?_ | refine ER.add (kd := .i32) (b := 8) rfl rfl rfl rfl (W_add8 (by decide) (by decide) (by decide) (by omega)) ?_ | refine ER.sub' (kd := .i32) (b := 8) rfl rfl rfl rfl (W_sub8 (by decide) (by decide) (by decide) (by omega) (by omega)) ?_))
      refine ER.binI2 (op := .shr) rfl rfl rfl rfl (W_shr hb1 hk1 hs1) ?_
      by_cases hz : mn = 0
      · subst hz
        (repeat (first | refine EK.seq ?_ | refine EK.region ?_ | refine ER.done ?_ | refine EK.skip ?_ | refine EK.block ?_ | refine EK.inBlock ?_ | refine ER.move rfl rfl rfl ?_ | refine ER.assign rfl rfl rfl ?_ | refine ER.nilCheck rfl rfl rfl ?_ | refine ER.fieldAddr rfl rfl rfl ?_ | refine ER.load1 rfl rfl rfl (hcell_of (by assumption) rfl) ?_ | refine ER.no rfl rfl ?_ | refine ER.noU rfl ?_ | refine ER.eqV rfl rfl rfl rfl rfl ?_ | refine ER.neqV rfl rfl rfl rfl rfl ?_ | refine ER.eqA rfl rfl rfl rfl rfl ?_ | refine ER.neqA rfl rfl rfl rfl rfl ?_ | refine ER.notB rfl rfl rfl ?_ | refine ER.pickT rfl rfl rfl rfl ?_ | refine ER.pickF rfl rfl rfl rfl ?_ | refine ER.extract rfl rfl rfl rfl ?_ | refine ER.cmpT rfl rfl rfl rfl rfl (by first | (dsimp only [cmpP]; omega) | exact rfl | exact Int.le_refl _) ?_ | refine ER.cmpF rfl rfl rfl rfl rfl (by first | (dsimp only [cmpP]; omega) | exact rfl | exact Int.le_refl _) ?_ | refine ER.boxA rfl rfl rfl ?_ | refine ER.box rfl rfl rfl ?_ | refine ER.allocA rfl rfl ?_ | refine ER.alloc rfl rfl ?_ | refine ER.add (kd := .i64) rfl rfl rfl rfl (i64_in (by omega) (by omega)) ?_ | refine ER.sub' (kd := .i64) rfl rfl rfl rfl (i64_in (by omega) (by omega)) ?_ | refine ER.mul (kd := .i64) rfl rfl rfl rfl (i64_in (by omega) (by omega)) ?_ | refine ER.rem (kd := .i64) rfl rfl rfl rfl (by decide) rfl ?_ | refine ER.indexArr rfl rfl rfl rfl (by omega) (by omega) ?_ | refine ER.len1 rfl rfl rfl ?_ | refine ER.indexSl rfl rfl rfl rfl (by omega) (by omega) ?_ | refine EK.condT rfl ?_ | refine EK.condF rfl ?_ | refine ER.andI (b := 5) rfl rfl rfl rfl (W_and (by decide) (by decide) (by decide) (by omega)).1 ?_ | refine ER.andI (b := 1) rfl rfl rfl rfl (W_and (by decide) (by decide) (by decide) (by omega)).2.1 ?_ | refine ER.andI (b := 2) rfl rfl rfl rfl (W_and (by decide) (by decide) (by decide) (by omega)).2.2.1 ?_ | refine ER.andI (b := 4) rfl rfl rfl rfl (W_and (by decide) (by decide) (by decide) (by omega)).2.2.2.1 ?_ | refine ER.andI (b := 3) rfl rfl rfl rfl (W_and (by decide) (by decide) (by decide) (by omega)).2.2.2.2.1 ?_ | refine ER.andI (b := 7) rfl rfl rfl rfl (W_and (by decide) (by decide) (by decide) (by omega)).2.2.2.2.2 ?_ | refine ER.binI (op := .or) (b := 1) rfl rfl rfl rfl (by rw [binOp_bits (.inr rfl), (W_or (by decide) (by decide) (by decide) (by omega)).1]) ?_ | refine ER.binI (op := .or) (b := 2) rfl rfl rfl rfl (by rw [binOp_bits (.inr rfl), (W_or (by decide) (by decide) (by decide) (by omega)).2.1]) ?_ | refine ER.binI (op := .or) (b := 4) rfl rfl rfl rfl (by rw [binOp_bits (.inr rfl), (W_or (by decide) (by decide) (by decide) (by omega)).2.2]) ?_ | refine ER.binI2 (op := .shr) rfl rfl rfl rfl (W_shr (by decide) (by decide) (by decide)) ?_ | refine ER.binI (op := .andNot) rfl rfl rfl rfl (by rw [binOp_andN, W_andNot (by decide) (by decide) (by omega)]) ?_ | refine ER.add (kd := .i32) (b := 8) rfl rfl rfl rfl (W_add8 (by decide) (by decide) (by decide) (by omega)) ?_ | refine ER.sub' (kd := .i32) (b := 8) rfl rfl rfl rfl (W_sub8 (by decide) (by decide) (by decide) (by omega) (by omega)) ?_))
        refine EK.ret ?_
        exact EU.ret0 rfl ⟨rfl, rfl, hd, r0.trans hL r1, ha⟩
      · (repeat (first | refine EK.seq ?_ | refine EK.region ?_ | refine ER.done ?_ | refine EK.skip ?_ | refine EK.block ?_ | refine EK.inBlock ?_ | refine ER.move rfl rfl rfl ?_ | refine ER.assign rfl rfl rfl ?_ | refine ER.nilCheck rfl rfl rfl ?_ | refine ER.fieldAddr rfl rfl rfl ?_ | refine ER.load1 rfl rfl rfl (hcell_of (by assumption) rfl) ?_ | refine ER.no rfl rfl ?_ | refine ER.noU rfl ?_ | refine ER.eqV rfl rfl rfl rfl rfl ?_ | refine ER.neqV rfl rfl rfl rfl rfl ?_ | refine ER.eqA rfl rfl rfl rfl rfl ?_ | refine ER.neqA rfl rfl rfl rfl rfl ?_ | refine ER.notB rfl rfl rfl ?_ | refine ER.pickT rfl rfl rfl rfl ?_ | refine ER.pickF rfl rfl rfl rfl ?_ | refine ER.extract rfl rfl rfl rfl ?_ | refine ER.cmpT rfl rfl rfl rfl rfl (by first | (dsimp only [cmpP]; omega) | exact rfl | exact Int.le_refl _) ?_ | refine ER.cmpF rfl rfl rfl rfl rfl (by first | (dsimp only [cmpP]; omega) | exact rfl | exact Int.le_refl _) ?_ | refine ER.boxA rfl rfl rfl ?_ | refine ER.box rfl rfl rfl ?_ | refine ER.allocA rfl rfl ?_ | refine ER.alloc rfl rfl ?_ | refine ER.add (kd := .i64) rfl rfl rfl rfl (i64_in (by omega) (by omega)) ?_ | refine ER.sub' (kd := .i64) rfl rfl rfl rfl (i64_in (by omega) (by omega)) ?_ | refine ER.mul (kd := .i64) rfl rfl rfl rfl (i64_in (by omega) (by omega)) ?_ | refine ER.rem (kd := .i64) rfl rfl rfl rfl (by decide) rfl ?_ | refine ER.indexArr rfl rfl rfl rfl (by omega) (by omega) ?_ | refine ER.len1 rfl rfl rfl ?_ | refine ER.indexSl rfl rfl rfl rfl (by omega) (by omega) ?_ | refine EK.condT rfl ?_ | refine EK.condF rfl ?_ | refine ER.andI (b := 5) rfl rfl rfl rfl (W_and (by decide) (by decide) (by decide) (by omega)).1 ?_ | refine ER.andI (b := 1) rfl rfl rfl rfl (W_and (by decide) (by decide) (by decide) (by omega)).2.1 ?_ | refine ER.andI (b := 2) rfl rfl rfl rfl (W_and (by decide) (by decide) (by decide) (by omega)).2.2.1 ?_ | refine ER.andI (b := 4) rfl rfl rfl rfl (W_and (by decide) (by decide) (by decide) (by omega)).2.2.2.1 ?_ | refine ER.andI (b := 3) rfl rfl rfl rfl (W_and (by decide) (by decide) (by decide) (by omega)).2.2.2.2.1 ?_ | refine ER.andI (b := 7) rfl rfl rfl rfl (W_and (by decide) (by decide) (by decide) (by omega)).2.2.2.2.2 ?_ | refine ER.binI (op := .or) (b := 1) rfl rfl rfl rfl (by rw [binOp_bits (.inr rfl), (W_or (by decide) (by decide) (by decide) (by omega)).1]) ?_ | refine ER.binI (op := .or) (b := 2) rfl rfl rfl rfl (by rw [binOp_bits (.inr rfl), (W_or (by decide) (by decide) (by decide) (by omega)).2.1]) ?_ | refine ER.binI (op := .or) (b := 4) rfl rfl rfl rfl (by rw [binOp_bits (.inr rfl), (W_or (by decide) (by decide) (by decide) (by omega)).2.2]) ?_ | refine ER.binI2 (op := .shr) rfl rfl rfl rfl (W_shr (by decide) (by decide) (by decide)) ?_ | refine ER.binI (op := .andNot) rfl rfl rfl rfl (by rw [binOp_andN, W_andNot (by decide) (by decide) (by omega)]) ?_ | refine ER.add (kd := .i32) (b := 8) rfl rfl rfl rfl (W_add8 (by decide) (by decide) (by decide) (by omega)) ?_ | refine ER.sub' (kd := .i32) (b := 8) rfl rfl rfl rfl (W_sub8 (by decide) (by decide) (by decide) (by omega) (by omega)) ?_))
        refine ER.andI (b := 7) rfl rfl rfl rfl (W_and hb1 hk1 hs1 hn1').2.2.2.2.2 ?_
        (repeat (first | refine EK.seq ?_ | refine EK.region ?_ | refine ER.done ?_ | refine EK.skip ?_ | refine EK.block ?_ | refine EK.inBlock ?_ | refine ER.move rfl rfl rfl ?_ | refine ER.assign rfl rfl rfl ?_ | refine ER.nilCheck rfl rfl rfl ?_ | refine ER.fieldAddr rfl rfl rfl ?_ | refine ER.load1 rfl rfl rfl (hcell_of (by assumption) rfl) ?_ | refine ER.no rfl rfl ?_ | refine ER.noU rfl ?_ | refine ER.eqV rfl rfl rfl rfl rfl ?_ | refine ER.neqV rfl rfl rfl rfl rfl ?_ | refine ER.eqA rfl rfl rfl rfl rfl ?_ | refine ER.neqA rfl rfl rfl rfl rfl ?_ | refine ER.notB rfl rfl rfl ?_ | refine ER.pickT rfl rfl rfl rfl ?_ | refine ER.pickF rfl rfl rfl rfl ?_ | refine ER.extract rfl rfl rfl rfl ?_ | refine ER.cmpT rfl rfl rfl rfl rfl (by first | (dsimp only [cmpP]; omega) | exact rfl | exact Int.le_refl _) ?_ | refine ER.cmpF rfl rfl rfl rfl rfl (by first | (dsimp only [cmpP]; omega) | exact rfl | exact Int.le_refl _) ?_ | refine ER.boxA rfl rfl rfl ?_ | refine ER.box rfl rfl rfl ?_ | refine ER.allocA rfl rfl ?_ | refine ER.alloc rfl rfl ?_ | refine ER.add (kd := .i64) rfl rfl rfl rfl (i64_in (by omega) (by omega)) ?_ | refine ER.sub' (kd := .i64) rfl rfl rfl rfl (i64_in (by omega) (by omega)) ?_ | refine ER.mul (kd := .i64) rfl rfl rfl rfl (i64_in (by omega) (by omega)) ?_ | refine ER.rem (kd := .i64) rfl rfl rfl rfl (by decide) rfl ?_ | refine ER.indexArr rfl rfl rfl rfl (by omega) (by omega) ?_ | refine ER.len1 rfl rfl rfl ?_ | refine ER.indexSl rfl rfl rfl rfl (by omega) (by omega) ?_ | refine EK.condT rfl ?_ | refine EK.condF rfl ?_ | refine ER.andI (b := 5) rfl rfl rfl rfl (W_and (by decide) (by decide) (by decide) (by omega)).1 ?_ | refine ER.andI (b := 1) rfl rfl rfl rfl (W_and (by decide) (by decide) (by decide) (by omega)).2.1 ?_ | refine ER.andI (b := 2) rfl rfl rfl rfl (W_and (by decide) (by decide) (by decide) (by omega)).2.2.1 ?_ | refine ER.andI (b := 4) rfl rfl rfl rfl (W_and (by decide) (by decide) (by decide) (by omega)).2.2.2.1 ?_ | refine ER.andI (b := 3) rfl rfl rfl rfl (W_and (by decide) (by decide) (by decide) (by omega)).2.2.2.2.1 ?_ | refine ER.andI (b := 7) rfl rfl rfl rfl (W_and (by decide) (by decide) (by decide) (by omega)).2.2.2.2.2 ?_ | refine ER.binI (op := .or) (b := 1) rfl rfl rfl rfl (by rw [binOp_bits (.inr rfl), (W_or (by decide) (by decide) (by decide) (by omega)).1]) ?_ | refine ER.binI (op := .or) (b := 2) rfl rfl rfl rfl (by rw [binOp_bits (.inr rfl), (W_or (by decide) (by decide) (by decide) (by omega)).2.1]) ?_ | refine ER.binI (op := .or) (b := 4) rfl rfl rfl rfl (by rw [binOp_bits (.inr rfl), (W_or (by decide) (by decide) (by decide) (by omega)).2.2]) ?_ | refine ER.binI2 (op := .shr) rfl rfl rfl rfl (W_shr (by decide) (by decide) (by decide)) ?_ | refine ER.binI (op := .andNot) rfl rfl rfl rfl (by rw [binOp_andN, W_andNot (by decide) (by decide) (by omega)]) ?_ | refine ER.add (kd := .i32) (b := 8) rfl rfl rfl rfl (W_add8 (by decide) (by decide) (by decide) (by omega)) ?_ | refine ER.sub' (kd := .i32) (b := 8) rfl rfl rfl rfl (W_sub8 (by decide) (by decide) (by decide) (by omega) (by omega)) ?_))
        refine EK.ret ?_
        exact EU.ret0 rfl ⟨rfl, rfl, hd, r0.trans hL r1, ha⟩
  · obtain rfl : c = 9 := by omega
    (repeat (first | refine EK.region ?_ | refine ER.done ?_ | refine ER.move rfl rfl rfl ?_ | refine ER.nilCheck rfl rfl rfl ?_ | refine ER.fieldAddr rfl rfl rfl ?_ | refine ER.cmpF rfl rfl rfl rfl rfl (by first | (dsimp only [cmpP]; omega) | exact rfl | exact Int.le_refl _) ?_ | refine EK.condF rfl ?_))
    refine ER.semrelM hL rfl rfl rfl rfl hA (.inr rfl) fun γ₃ q3 a3 => ?_
    (repeat refine ER.done ?_)
    refine EK.done ?_
    exact EU.ret0 rfl ⟨rfl, rfl, rfl, q3, a3⟩
set_option maxHeartbeats 4000000 in
theorem iunlock_ok (hL : L.Ok) (hA : At L i ⟨b, 6, 0⟩ δ.g) : CallW Try.prog false (SitW Try.prog (XF T L) i) 113 #[.pointer (some ⟨b, 2, none⟩)] h δ (Ret (MuQ L i h δ.d δ.g ⟨b, 0, 0⟩)) := by
  refine CallW.start (n := 21) rfl rfl ?_
  (repeat (first | refine EK.seq ?_ | refine EK.region ?_ | refine ER.move rfl rfl rfl ?_ | refine ER.nilCheck rfl rfl rfl ?_ | refine ER.fieldAddr rfl rfl rfl ?_ | refine EK.condT rfl ?_))
  refine ER.loadM (c := 6) hL norace_unlock rfl rfl rfl hA (by decide) fun γ₁ q1 a1 m1 c1 l1 => .inr ?_
  (repeat (first | refine EK.seq ?_ | refine EK.region ?_ | refine ER.done ?_ | refine ER.move rfl rfl rfl ?_))
  refine ER.unsafeM hL rfl rfl rfl (by decide) a1 (by decide) fun γ₂ q2 a2 => ?_
  refine ER.ext rfl rfl rfl rfl (fun Q X hq => semW_marked (by simp) (by simp) hq (hDu := a2.nd)) ?_
  (repeat (first | refine EK.region ?_ | refine ER.done ?_))
  refine ER.ext rfl rfl rfl rfl (fun Q X hq => semW_mark0 (vs := #[]) (by simp) (by simp) hq) ?_
  (repeat (first | refine EK.seq ?_ | refine EK.region ?_ | refine ER.done ?_ | refine ER.move rfl rfl rfl ?_ | refine ER.nilCheck rfl rfl rfl ?_ | refine ER.fieldAddr rfl rfl rfl ?_))
  refine ER.addM (c := 6) hL rfl rfl rfl rfl a2 (by decide) fun γ₃ q3 a3 m3 c3 l3 _ => ?_
  have hb : (γ₃.mu b).b = 1 := by have := m3.hold; have := m3.b1; omega
  have hn := mi_n m3 (fun x => ct_le x) l3
  have hk := m3.k1
  have hs := m3.s1
  have hw : IntKind.i32.wrap ((γ₃.mu b).word + -1) = ({ γ₃.mu b with b := 0 } : Mu).word := by
    rw [i32_in (by rw [Mu.word]; omega) (by rw [Mu.word]; omega)]
    simp only [Mu.word, hb]
    omega
  have key : ∀ c γ₄, Ro L i γ₂ γ₄ -> At L i ⟨b, c, 0⟩ γ₄ -> γ₄.mu b = { γ₃.mu b with b := 0 } -> ((c = 0 /\ (γ₃.mu b).s = 0 /\ ((γ₃.mu b).n = 0 \/ (γ₃.mu b).k = 1)) \/ (c = 7 /\ (γ₃.mu b).s = 0 /\ (γ₃.mu b).n ≠ 0 /\ (γ₃.mu b).k = 0) \/ (c = 9 /\ (γ₃.mu b).s = 1)) ->
      CallW Try.prog false (SitW Try.prog (XF T L) i) 122 #[.pointer (some ⟨b, 2, none⟩), .int .i32 (({ γ₃.mu b with b := 0 } : Mu).word)] h ⟨δ.d + 1, γ₄⟩ (Ret (MuQ L i h (δ.d + 1) γ₄ ⟨b, 0, 0⟩)) := by
    intro c γ₄ q4 a4 e4 hc
    refine unlockSlow_ok (δ := ⟨δ.d + 1, γ₄⟩) (k := (γ₃.mu b).k) (s := (γ₃.mu b).s) (n := (γ₃.mu b).n) hL hk hs hn a4 (hc.imp id fun z => z.imp (fun ⟨z1, z2, z3, z4⟩ => ⟨z1, z2, z3, z4, ?_⟩) id)
    simp only
    rw [e4, Mu.word_eq]
    simp only
    rw [z2, z4]
  obtain ⟨c', hT, hc⟩ : ∃ c', Tr (γ₃.mu b) 6 0 { γ₃.mu b with b := 0 } c' 0 /\ ((c' = 0 /\ (γ₃.mu b).s = 0 /\ ((γ₃.mu b).n = 0 \/ (γ₃.mu b).k = 1)) \/ (c' = 7 /\ (γ₃.mu b).s = 0 /\ (γ₃.mu b).n ≠ 0 /\ (γ₃.mu b).k = 0) \/ (c' = 9 /\ (γ₃.mu b).s = 1)) := by
    by_cases z : (γ₃.mu b).s = 1
    · exact ⟨9, .leaveS z, .inr (.inr ⟨rfl, z⟩)⟩
    · have z0 : (γ₃.mu b).s = 0 := by omega
      by_cases y : (γ₃.mu b).n = 0 \/ (γ₃.mu b).k = 1
      · exact ⟨0, .leave z0 y, .inl ⟨rfl, z0, y⟩⟩
      · exact ⟨7, .leaveU z0 (by omega) (by omega), .inr (.inl ⟨rfl, z0, by omega, by omega⟩)⟩
  refine ⟨{ γ₃.mu b with b := 0 }, c', 0, hw, rfl, hT, fun γ₄ q4 a4 e4 => ?_⟩
  (repeat (first | refine EK.seq ?_ | refine EK.region ?_ | refine ER.done ?_ | refine ER.move rfl rfl rfl ?_ | refine ER.assign rfl rfl rfl ?_))
  refine ER.cmpS rfl rfl rfl rfl rfl (fun hp => ?_) (fun hp => ?_)
  · (repeat (first | refine EK.region ?_ | refine ER.done ?_ | refine ER.move rfl rfl rfl ?_ | refine EK.condT rfl ?_))
    refine ER.callR rfl rfl rfl rfl rfl (key c' γ₄ q4 a4 e4 hc) ?_
    rintro v h' ⟨d', γ'⟩ ⟨rfl, rfl, e1, r1, a1'⟩
    simp only at e1 r1 a1'
    subst e1
    (repeat (first | refine EK.region ?_ | refine ER.done ?_))
    refine ER.ext rfl rfl rfl rfl (fun Q X hq => semW_mark0 (vs := #[]) (by simp) (by simp) hq) ?_
    (repeat refine ER.done ?_)
    refine EK.done ?_
    exact EU.ret0 rfl ⟨rfl, rfl, rfl, ((q1.trans hL q2).trans hL q4).trans hL r1, a1'⟩
  · have hz : ({ γ₃.mu b with b := 0 } : Mu).word = 0 := Classical.not_not.1 hp
    have hc0 : c' = 0 := by
      rw [Mu.word] at hz
      simp only at hz
      omega
    subst hc0
    (repeat (first | refine EK.region ?_ | refine ER.done ?_ | refine EK.skip ?_ | refine EK.condF rfl ?_))
    refine ER.ext rfl rfl rfl rfl (fun Q X hq => semW_mark0 (vs := #[]) (by simp) (by simp) hq) ?_
    (repeat refine ER.done ?_)
    refine EK.done ?_
    exact EU.ret0 rfl ⟨rfl, rfl, rfl, (q1.trans hL q2).trans hL q4, a4⟩
theorem lock_ok (hL : L.Ok) (hA : At L i ⟨b, 1, 0⟩ δ.g) : CallW Try.prog false (SitW Try.prog (XF T L) i) 91 #[.pointer (some ⟨b, 2, none⟩)] h δ (Ret (MuQ L i h δ.d δ.g ⟨b, 6, 0⟩)) := by
  refine CallW.start (n := 6) rfl rfl ?_
  (repeat (first | refine EK.region ?_ | refine ER.move rfl rfl rfl ?_ | refine ER.nilCheck rfl rfl rfl ?_ | refine ER.fieldAddr rfl rfl rfl ?_))
  refine ER.callR rfl rfl rfl rfl rfl (ilock_ok hL hA) ?_
  rintro v h' δ' ⟨rfl, rfl, e1, r1, a1⟩
  (repeat refine ER.done ?_)
  refine EK.done ?_
  exact EU.ret0 rfl ⟨rfl, rfl, e1, r1, a1⟩
theorem unlock_ok (hL : L.Ok) (hA : At L i ⟨b, 6, 0⟩ δ.g) : CallW Try.prog false (SitW Try.prog (XF T L) i) 92 #[.pointer (some ⟨b, 2, none⟩)] h δ (Ret (MuQ L i h δ.d δ.g ⟨b, 0, 0⟩)) := by
  refine CallW.start (n := 6) rfl rfl ?_
  (repeat (first | refine EK.region ?_ | refine ER.move rfl rfl rfl ?_ | refine ER.nilCheck rfl rfl rfl ?_ | refine ER.fieldAddr rfl rfl rfl ?_))
  refine ER.callR rfl rfl rfl rfl rfl (iunlock_ok hL hA) ?_
  rintro v h' δ' ⟨rfl, rfl, e1, r1, a1⟩
  (repeat refine ER.done ?_)
  refine EK.done ?_
  exact EU.ret0 rfl ⟨rfl, rfl, e1, r1, a1⟩
end
end
section
open Go Go.TJ Go.Proofs
variable [Dm]
section
variable {Y : Type} {T : Tids} {L : Law Y} {h : Hp} {δ : Ix (Gf Y)} {i b : Nat}
def Cq (L : Law Y) (i : Nat) (h : Hp) (d wg : Nat) (F : Value -> Y -> Prop) : Value -> Hp -> Ix (Gf Y) -> Prop := fun v h' δ' => h' = h /\ δ'.d = d /\ δ'.g.wg = wg /\ Idle L i δ'.g /\ F v δ'.g.y
theorem none_f (hL : L.Ok) {p : Pc} (hA : At L i p δ.g) (hb : b ∈ L.cls δ.g.y) : CallW Try.prog false (SitW Try.prog (XF T L) i) 66 #[.pointer (some ⟨b, 0, none⟩)] h δ (Ret fun v h' δ' => v = .bool false /\ h' = h /\ δ'.d = δ.d /\ Rr L i δ.g δ'.g) := by
  refine CallW.start (n := 12) rfl rfl ?_
  (repeat (first | refine EK.seq ?_ | refine EK.region ?_ | refine ER.done ?_ | refine ER.move rfl rfl rfl ?_ | refine ER.assign rfl rfl rfl ?_ | refine ER.nilCheck rfl rfl rfl ?_ | refine ER.fieldAddr rfl rfl rfl ?_ | refine ER.eqV rfl rfl rfl rfl rfl ?_))
  refine ER.loadC (v := .bool true) hL (.inl ⟨rfl, rfl⟩) rfl rfl rfl hA hb fun γ₁ r1 => ?_
  (repeat (first | refine ER.done ?_ | refine ER.assign rfl rfl rfl ?_ | refine ER.notB rfl rfl rfl ?_ | refine ER.pickF rfl rfl rfl rfl ?_ | refine EK.ret ?_))
  exact EU.ret1 rfl rfl ⟨rfl, rfl, rfl, r1⟩
theorem wakes_f (hL : L.Ok) (hA : At L i ⟨b, 1, 0⟩ δ.g) (hb : b ∈ L.cls δ.g.y) : CallW Try.prog false (SitW Try.prog (XF T L) i) 69 #[.pointer (some ⟨b, 0, none⟩)] h δ (Ret fun v h' δ' => v = .tuple #[] /\ h' = h /\ δ'.d = δ.d /\ Ro L i δ.g δ'.g /\ Idle L i δ'.g) := by
  refine CallW.start (n := 21) rfl rfl ?_
  (repeat (first | refine EK.seq ?_ | refine EK.region ?_ | refine ER.move rfl rfl rfl ?_ | refine ER.nilCheck rfl rfl rfl ?_ | refine ER.fieldAddr rfl rfl rfl ?_))
  refine ER.callR rfl rfl rfl rfl rfl (lock_ok hL hA) ?_
  rintro v h' δ' ⟨rfl, rfl, e1, r1, a1⟩
  (repeat (first | refine EK.seq ?_ | refine EK.region ?_ | refine ER.done ?_ | refine ER.move rfl rfl rfl ?_ | refine ER.nilCheck rfl rfl rfl ?_ | refine ER.fieldAddr rfl rfl rfl ?_))
  refine ER.defer rfl rfl rfl ?_
  (repeat (first | refine EK.seq ?_ | refine EK.region ?_ | refine ER.done ?_ | refine ER.move rfl rfl rfl ?_ | refine ER.nilCheck rfl rfl rfl ?_ | refine ER.fieldAddr rfl rfl rfl ?_))
  refine ER.loadC (v := .chan none) hL (.inr ⟨rfl, rfl⟩) rfl rfl rfl a1 (by rw [r1.stat.cls]; exact hb) fun γ₁ r2 => ?_
  (repeat (first | refine ER.done ?_ | refine EK.skip ?_ | refine ER.neqV rfl rfl rfl rfl rfl ?_ | refine EK.condF rfl ?_))
  refine EK.done ?_
  refine EU.deferR rfl (unlock_ok hL (δ := ⟨δ'.d, γ₁⟩) (a1.rr r2)) ?_
  rintro v h' δ' ⟨rfl, rfl, e2, r3, a3⟩
  exact EU.ret0 rfl ⟨rfl, rfl, e2.trans e1, (r1.trans hL r2.toRo).trans hL r3, a3.idle⟩
theorem aload_f (hL : L.Ok) (hA : Idle L i δ.g) (hb : b ∈ L.cls δ.g.y) {Q : Value -> Hp -> Ix (Gf Y) -> Prop}
    (hop : ∀ γ₁, Rr L i δ.g γ₁ -> Idle L i γ₁ -> L.J γ₁.y -> ∃ y', LMove L i γ₁.y y' /\ ∀ γ₂, γ₂.y = y' -> γ₂.wg = δ.g.wg -> Idle L i γ₂ -> Q (.int .i64 (L.val γ₁.y b)) h ⟨δ.d, γ₂⟩) :
    CallW Try.prog false (SitW Try.prog (XF T L) i) 50 #[.pointer (some ⟨b, 0, none⟩)] h δ (Ret Q) := by
  refine CallW.start (n := 7) rfl rfl ?_
  (repeat (first | refine EK.seq ?_ | refine EK.region ?_ | refine ER.done ?_ | refine ER.move rfl rfl rfl ?_ | refine ER.assign rfl rfl rfl ?_ | refine ER.nilCheck rfl rfl rfl ?_ | refine ER.fieldAddr rfl rfl rfl ?_))
  refine ER.loadV hL rfl rfl rfl rfl hA hb fun γ₁ r1 a1 j1 => ?_
  obtain ⟨y', m, hn⟩ := hop γ₁ r1 a1 j1
  refine ⟨y', m, fun γ₂ e2 w2 a2 => ?_⟩
  (repeat (first | refine ER.done ?_ | refine ER.assign rfl rfl rfl ?_ | refine EK.ret ?_))
  exact EU.ret1 rfl rfl (hn γ₂ e2 w2 a2)
theorem aadd_f (hL : L.Ok) {z : Int} (hA : Idle L i δ.g) (hb : b ∈ L.cls δ.g.y) {Q : Value -> Hp -> Ix (Gf Y) -> Prop}
    (hop : ∀ γ₁, Rr L i δ.g γ₁ -> Idle L i γ₁ -> L.J γ₁.y -> ∃ y', LStep L i b γ₁.y y' /\ L.val y' b = IntKind.i64.wrap (L.val γ₁.y b + z) /\ ∀ γ₂, γ₂.y = y' -> γ₂.wg = δ.g.wg -> At L i ⟨b, 1, 0⟩ γ₂ -> Q (.int .i64 (L.val y' b)) h ⟨δ.d, γ₂⟩) :
    CallW Try.prog false (SitW Try.prog (XF T L) i) 44 #[.pointer (some ⟨b, 0, none⟩), .int .i64 z] h δ (Ret Q) := by
  refine CallW.start (n := 10) rfl rfl ?_
  (repeat (first | refine EK.seq ?_ | refine EK.region ?_ | refine ER.done ?_ | refine ER.move rfl rfl rfl ?_ | refine ER.assign rfl rfl rfl ?_ | refine ER.nilCheck rfl rfl rfl ?_ | refine ER.fieldAddr rfl rfl rfl ?_))
  refine ER.addV hL rfl rfl rfl rfl hA hb fun γ₁ r1 a1 j1 => ?_
  obtain ⟨y', m, hv, hn⟩ := hop γ₁ r1 a1 j1
  refine ⟨y', m, hv, fun γ₂ e2 w2 a2 => ?_⟩
  (repeat (first | refine ER.done ?_ | refine ER.assign rfl rfl rfl ?_ | refine EK.ret ?_))
  exact EU.ret1 rfl rfl (hn γ₂ e2 w2 a2)
theorem acas_f (hL : L.Ok) {u z : Int} (hA : Idle L i δ.g) (hb : b ∈ L.cls δ.g.y) {Q : Value -> Hp -> Ix (Gf Y) -> Prop}
    (hop : ∀ γ₁, Rr L i δ.g γ₁ -> Idle L i γ₁ -> L.J γ₁.y -> (L.val γ₁.y b = u -> ∃ y', LStep L i b γ₁.y y' /\ L.val y' b = z /\ ∀ γ₂, γ₂.y = y' -> γ₂.wg = δ.g.wg -> At L i ⟨b, 1, 0⟩ γ₂ -> Q (.bool true) h ⟨δ.d, γ₂⟩) /\
      (L.val γ₁.y b ≠ u -> ∃ y', LMove L i γ₁.y y' /\ ∀ γ₂, γ₂.y = y' -> γ₂.wg = δ.g.wg -> Idle L i γ₂ -> Q (.bool false) h ⟨δ.d, γ₂⟩)) :
    CallW Try.prog false (SitW Try.prog (XF T L) i) 89 #[.pointer (some ⟨b, 0, none⟩), .int .i64 u, .int .i64 z] h δ (Ret Q) := by
  refine CallW.start (n := 13) rfl rfl ?_
  (repeat (first | refine EK.seq ?_ | refine EK.region ?_ | refine ER.done ?_ | refine ER.move rfl rfl rfl ?_ | refine ER.assign rfl rfl rfl ?_ | refine ER.nilCheck rfl rfl rfl ?_ | refine ER.fieldAddr rfl rfl rfl ?_))
  refine ER.casV hL rfl rfl rfl rfl hA hb fun γ₁ r1 a1 j1 => ?_
  obtain ⟨k1, k2⟩ := hop γ₁ r1 a1 j1
  refine ⟨fun e => ?_, fun e => ?_⟩
  · obtain ⟨y', m, hv, hn⟩ := k1 e
    refine ⟨y', m, hv, fun γ₂ e2 w2 a2 => ?_⟩
    (repeat (first | refine ER.done ?_ | refine ER.assign rfl rfl rfl ?_ | refine EK.ret ?_))
    exact EU.ret1 rfl rfl (hn γ₂ e2 w2 a2)
  · obtain ⟨y', m, hn⟩ := k2 e
    refine ⟨y', m, fun γ₂ e2 w2 a2 => ?_⟩
    (repeat (first | refine ER.done ?_ | refine ER.assign rfl rfl rfl ?_ | refine EK.ret ?_))
    exact EU.ret1 rfl rfl (hn γ₂ e2 w2 a2)
theorem cload_f (hL : L.Ok) (hA : Idle L i δ.g) (hb : b ∈ L.cls δ.g.y) {F : Value -> Y -> Prop}
    (hop : ∀ y₁, LRel L i δ.g.y y₁ -> L.J y₁ -> ∃ y', LMove L i y₁ y' /\ F (.int .i64 (L.val y₁ b)) y') :
    CallW Try.prog false (SitW Try.prog (XF T L) i) 23 #[.pointer (some ⟨b, 0, none⟩), .pointer none] h δ (Ret (Cq L i h δ.d δ.g.wg F)) := by
  refine CallW.start (n := 26) rfl rfl ?_
  (repeat (first | refine EK.seq ?_ | refine EK.region ?_ | refine ER.done ?_ | refine ER.move rfl rfl rfl ?_ | refine ER.assign rfl rfl rfl ?_))
  refine ER.callR rfl rfl rfl rfl rfl (none_f hL hA.at hb) ?_
  rintro v0 h' δ0 ⟨rfl, rfl, e0, r0⟩
  (repeat (first | refine EK.seq ?_ | refine EK.region ?_ | refine ER.done ?_ | refine EK.skip ?_ | refine ER.move rfl rfl rfl ?_ | refine EK.condF rfl ?_))
  refine ER.callD rfl rfl rfl rfl rfl live_nil ?_
  (repeat (first | refine EK.seq ?_ | refine EK.region ?_ | refine ER.done ?_ | refine EK.skip ?_ | refine ER.move rfl rfl rfl ?_ | refine ER.nilCheck rfl rfl rfl ?_ | refine ER.fieldAddr rfl rfl rfl ?_ | refine EK.condF rfl ?_))
  refine ER.callR rfl rfl rfl rfl rfl (aload_f (Q := fun v h1 δ1 => h1 = h' /\ δ1.d = δ0.d /\ δ1.g.wg = δ.g.wg /\ Idle L i δ1.g /\ F v δ1.g.y) hL (hA.rr r0) (by rw [r0.stat.cls]; exact hb) fun γ₁ r1 a1 j1 => ?_) ?_
  · obtain ⟨y', m, hF⟩ := hop γ₁.y (r0.lrel.trans hL r1.lrel) j1
    exact ⟨y', m, fun γ₂ e2 w2 a2 => ⟨rfl, rfl, w2.trans r0.wg, a2, by rw [e2]; exact hF⟩⟩
  rintro v h2 δ2 ⟨rfl, e2, w2, a2, hF⟩
  (repeat (first | refine ER.done ?_ | refine ER.assign rfl rfl rfl ?_ | refine EK.ret ?_))
  exact EU.ret1 rfl rfl ⟨rfl, e2.trans e0, w2, a2, hF⟩
theorem cadd_f (hL : L.Ok) {z : Int} (hA : Idle L i δ.g) (hb : b ∈ L.cls δ.g.y) {F : Value -> Y -> Prop}
    (hop : ∀ y₁, LRel L i δ.g.y y₁ -> L.J y₁ -> ∃ y', LStep L i b y₁ y' /\ L.val y' b = IntKind.i64.wrap (L.val y₁ b + z) /\ ∀ y₂, LRel L i y' y₂ -> F (.int .i64 (L.val y' b)) y₂) :
    CallW Try.prog false (SitW Try.prog (XF T L) i) 71 #[.pointer (some ⟨b, 0, none⟩), .pointer none, .int .i64 z] h δ (Ret (Cq L i h δ.d δ.g.wg F)) := by
  refine CallW.start (n := 34) rfl rfl ?_
  (repeat (first | refine EK.seq ?_ | refine EK.region ?_ | refine ER.done ?_ | refine ER.move rfl rfl rfl ?_ | refine ER.assign rfl rfl rfl ?_))
  refine ER.callR rfl rfl rfl rfl rfl (none_f hL hA.at hb) ?_
  rintro v0 h' δ0 ⟨rfl, rfl, e0, r0⟩
  (repeat (first | refine EK.seq ?_ | refine EK.region ?_ | refine ER.done ?_ | refine EK.skip ?_ | refine ER.move rfl rfl rfl ?_ | refine EK.condF rfl ?_))
  refine ER.callD rfl rfl rfl rfl rfl live_nil ?_
  (repeat (first | refine EK.seq ?_ | refine EK.region ?_ | refine ER.done ?_ | refine EK.skip ?_ | refine ER.move rfl rfl rfl ?_ | refine ER.nilCheck rfl rfl rfl ?_ | refine ER.fieldAddr rfl rfl rfl ?_ | refine EK.condF rfl ?_))
  refine ER.callR rfl rfl rfl rfl rfl (aadd_f (Q := fun v h1 δ1 => ∃ u, v = .int .i64 u /\ h1 = h' /\ δ1.d = δ0.d /\ δ1.g.wg = δ.g.wg /\ At L i ⟨b, 1, 0⟩ δ1.g /\ b ∈ L.cls δ1.g.y /\ ∀ y₂, LRel L i δ1.g.y y₂ -> F (.int .i64 u) y₂) hL (hA.rr r0) (by rw [r0.stat.cls]; exact hb) fun γ₁ r1 a1 j1 => ?_) ?_
  · obtain ⟨y', m, hv, hF⟩ := hop γ₁.y (r0.lrel.trans hL r1.lrel) j1
    exact ⟨y', m, hv, fun γ₂ e2 w2 a2 => ⟨_, rfl, rfl, rfl, w2.trans r0.wg, a2, by rw [e2, m.stat.cls, r1.stat.cls, r0.stat.cls]; exact hb, by rw [e2]; exact hF⟩⟩
  rintro v h2 δ2 ⟨u, rfl, rfl, e2, w2, a2, b2, hF⟩
  (repeat (first | refine EK.seq ?_ | refine EK.region ?_ | refine ER.done ?_ | refine ER.move rfl rfl rfl ?_ | refine ER.assign rfl rfl rfl ?_))
  refine ER.callR rfl rfl rfl rfl rfl (wakes_f hL a2 b2) ?_
  rintro v h3 δ3 ⟨rfl, rfl, e3, r3, a3⟩
  (repeat (first | refine EK.seq ?_ | refine EK.region ?_ | refine ER.done ?_ | refine ER.move rfl rfl rfl ?_ | refine ER.assign rfl rfl rfl ?_ | refine EK.ret ?_))
  exact EU.ret1 rfl rfl ⟨rfl, (e3.trans e2).trans e0, r3.wg.trans w2, a3, hF _ r3.lrel⟩
theorem ccas_f (hL : L.Ok) {u z : Int} (hA : Idle L i δ.g) (hb : b ∈ L.cls δ.g.y) {F : Value -> Y -> Prop}
    (hop : ∀ y₁, LRel L i δ.g.y y₁ -> L.J y₁ -> (L.val y₁ b = u -> ∃ y', LStep L i b y₁ y' /\ L.val y' b = z /\ ∀ y₂, LRel L i y' y₂ -> F (.bool true) y₂) /\ (L.val y₁ b ≠ u -> ∃ y', LMove L i y₁ y' /\ F (.bool false) y')) :
    CallW Try.prog false (SitW Try.prog (XF T L) i) 65 #[.pointer (some ⟨b, 0, none⟩), .pointer none, .int .i64 u, .int .i64 z] h δ (Ret (Cq L i h δ.d δ.g.wg F)) := by
  refine CallW.start (n := 39) rfl rfl ?_
  (repeat (first | refine EK.seq ?_ | refine EK.region ?_ | refine ER.done ?_ | refine ER.move rfl rfl rfl ?_ | refine ER.assign rfl rfl rfl ?_))
  refine ER.callR rfl rfl rfl rfl rfl (none_f hL hA.at hb) ?_
  rintro v0 h' δ0 ⟨rfl, rfl, e0, r0⟩
  (repeat (first | refine EK.seq ?_ | refine EK.region ?_ | refine ER.done ?_ | refine EK.skip ?_ | refine ER.move rfl rfl rfl ?_ | refine EK.condF rfl ?_))
  refine ER.callD rfl rfl rfl rfl rfl live_nil ?_
  (repeat (first | refine EK.seq ?_ | refine EK.region ?_ | refine ER.done ?_ | refine EK.skip ?_ | refine ER.move rfl rfl rfl ?_ | refine ER.nilCheck rfl rfl rfl ?_ | refine ER.fieldAddr rfl rfl rfl ?_ | refine EK.condF rfl ?_))
  refine ER.callR rfl rfl rfl rfl rfl (acas_f (Q := fun v h1 δ1 => h1 = h' /\ δ1.d = δ0.d /\ δ1.g.wg = δ.g.wg /\ b ∈ L.cls δ1.g.y /\ ((v = .bool true /\ At L i ⟨b, 1, 0⟩ δ1.g /\ ∀ y₂, LRel L i δ1.g.y y₂ -> F (.bool true) y₂) \/ (v = .bool false /\ Idle L i δ1.g /\ F (.bool false) δ1.g.y))) hL (hA.rr r0) (by rw [r0.stat.cls]; exact hb) fun γ₁ r1 a1 j1 => ?_) ?_
  · obtain ⟨k1, k2⟩ := hop γ₁.y (r0.lrel.trans hL r1.lrel) j1
    refine ⟨fun e => ?_, fun e => ?_⟩
    · obtain ⟨y', m, hv, hF⟩ := k1 e
      exact ⟨y', m, hv, fun γ₂ e2 w2 a2 => ⟨rfl, rfl, w2.trans r0.wg, by rw [e2, m.stat.cls, r1.stat.cls, r0.stat.cls]; exact hb, .inl ⟨rfl, a2, by rw [e2]; exact hF⟩⟩⟩
    · obtain ⟨y', m, hF⟩ := k2 e
      exact ⟨y', m, fun γ₂ e2 w2 a2 => ⟨rfl, rfl, w2.trans r0.wg, by rw [e2, m.stat.cls, r1.stat.cls, r0.stat.cls]; exact hb, .inr ⟨rfl, a2, by rw [e2]; exact hF⟩⟩⟩
  rintro v h2 δ2 ⟨rfl, e2, w2, b2, ⟨rfl, a2, hF⟩ | ⟨rfl, a2, hF⟩⟩
  · (repeat (first | refine EK.seq ?_ | refine EK.region ?_ | refine ER.done ?_ | refine ER.move rfl rfl rfl ?_ | refine ER.assign rfl rfl rfl ?_ | refine EK.condT rfl ?_))
    refine ER.callR rfl rfl rfl rfl rfl (wakes_f hL a2 b2) ?_
    rintro v h3 δ3 ⟨rfl, rfl, e3, r3, a3⟩
    (repeat (first | refine EK.seq ?_ | refine EK.region ?_ | refine ER.done ?_ | refine ER.move rfl rfl rfl ?_ | refine ER.assign rfl rfl rfl ?_ | refine EK.ret ?_))
    exact EU.ret1 rfl rfl ⟨rfl, (e3.trans e2).trans e0, r3.wg.trans w2, a3, hF _ r3.lrel⟩
  · (repeat (first | refine EK.seq ?_ | refine EK.region ?_ | refine ER.done ?_ | refine EK.skip ?_ | refine ER.move rfl rfl rfl ?_ | refine ER.assign rfl rfl rfl ?_ | refine EK.condF rfl ?_ | refine EK.ret ?_))
    exact EU.ret1 rfl rfl ⟨rfl, e2.trans e0, w2, a2, hF⟩
end
end
section
open Go Go.TJ Go.Proofs
variable [Dm]
structure Own (i : Nat) (c : Cc) (fa fr : Nat -> Bool) (hd : Int) (rs : Bool) (bd : Nat) (ha : Int) (ra : Bool) (y : Cy) : Prop where
  cc : y.c = c
  fa : ∀ k, k % c.n = i - 1 -> y.ka k = fa k
  fr : ∀ k, k % c.n = i - 1 -> y.kr k = fr k
  hd : y.hd i = hd
  rs : y.rs i = rs
  bd : bd <= y.bd i
  ha : y.ha (i - 1) = ha
  ra : y.ra (i - 1) = ra
section
variable {i : Nat} {c : Cc} {fa fr : Nat -> Bool} {hd : Int} {rs : Bool} {bd : Nat} {ha : Int} {ra : Bool} {y y' : Cy}
theorem Own.rel (o : Own i c fa fr hd rs bd ha ra y) (h0 : 0 < i) (r : LRel cL i y y') : Own i c fa fr hd rs bd ha ra y' := by
  have q : Cr i y y' := r.law
  have hc := o.cc
  exact ⟨q.c.trans hc, fun k hk => (q.ka h0 k (by rw [hc]; exact hk)).trans (o.fa k hk), fun k hk => (q.kr h0 k (by rw [hc]; exact hk)).trans (o.fr k hk), (q.hd h0).trans o.hd, (q.rs h0).trans o.rs, by rw [q.bd h0]; exact o.bd, (q.ha h0).trans o.ha, (q.ra h0).trans o.ra⟩
theorem Own.add (o : Own i c fa fr hd rs bd ha ra y) (k b : Nat) : Own i c (u1 fa k true) fr hd rs (bd - 1) ha ra (addY y i k b) :=
  ⟨o.cc, fun q hq => by
    show u1 y.ka k true q = u1 fa k true q
    by_cases e : q = k
    · subst e; rw [u1_same, u1_same]
    · rw [u1_ne e, u1_ne e]; exact o.fa q hq, o.fr, o.hd, o.rs, by show bd - 1 <= u1 y.bd i _ i; rw [u1_same]; have := o.bd; omega, o.ha, o.ra⟩
theorem Own.raise (o : Own i c fa fr hd rs bd ha ra y) (k : Nat) : Own i c fa (u1 fr k true) hd true (bd - 1) ha ra (raiseY y i k) :=
  ⟨o.cc, o.fa, fun q hq => by
    show u1 y.kr k true q = u1 fr k true q
    by_cases e : q = k
    · subst e; rw [u1_same, u1_same]
    · rw [u1_ne e, u1_ne e]; exact o.fr q hq, o.hd, u1_same, by show bd - 1 <= u1 y.bd i _ i; rw [u1_same]; have := o.bd; omega, o.ha, o.ra⟩
theorem Own.pass (o : Own i c fa fr hd rs bd ha ra y) (k : Nat) : Own i c fa (u1 fr k true) hd rs bd ha ra (passY y k) :=
  ⟨o.cc, o.fa, fun q hq => by
    show u1 y.kr k true q = u1 fr k true q
    by_cases e : q = k
    · subst e; rw [u1_same, u1_same]
    · rw [u1_ne e, u1_ne e]; exact o.fr q hq, o.hd, o.rs, o.bd, o.ha, o.ra⟩
theorem Own.tick (o : Own i c fa fr hd rs bd ha ra y) (d : Int) : Own i c fa fr (hd + d) rs (bd - 1) ha ra (tickY y i d) :=
  ⟨o.cc, o.fa, o.fr, by show u1 y.hd i _ i = _; rw [u1_same, o.hd], o.rs, by show bd - 1 <= u1 y.bd i _ i; rw [u1_same]; have := o.bd; omega, o.ha, o.ra⟩
theorem Own.less (o : Own i c fa fr hd rs bd ha ra y) {b : Nat} (h : b <= bd) : Own i c fa fr hd rs b ha ra y := ⟨o.cc, o.fa, o.fr, o.hd, o.rs, Nat.le_trans h o.bd, o.ha, o.ra⟩
end
section
variable {h : Hp} {δ : Ix (Gf Cy)} {i : Nat} {c : Cc} {fa fr : Nat -> Bool} {hd : Int} {rs : Bool} {bd : Nat} {ha : Int} {ra : Bool} {k : Nat}
theorem val_pb {y : Cy} (h : Cj y) : cL.val y y.c.pb = y.tp := by
  have hnl : y.c.pb ≠ y.c.lb := by
    have := (List.nodup_append.1 h.nd).2.1
    simp at this
    exact fun e => this e.symm
  show (if y.c.pb = y.c.lb then y.lf else if y.c.pb = y.c.pb then y.tp else _) = _
  rw [if_neg hnl, if_pos rfl]
theorem val_lb {y : Cy} : cL.val y y.c.lb = y.lf := by
  show (if y.c.lb = y.c.lb then y.lf else _) = _
  rw [if_pos rfl]
theorem idx_range {S : Nat} (hS : 0 < S) {w : Int} (h1 : -100 <= w) (h2 : w <= 100) (hS2 : S <= 1000) : 0 <= (w.tmod S + S).tmod S /\ (w.tmod S + S).tmod S < S /\ -9223372036854775808 <= w.tmod S + S /\ w.tmod S + S <= 9223372036854775807 := by
  have a1 : -(S : Int) < w.tmod S := Int.lt_tmod_of_pos _ (by omega)
  have a2 : w.tmod S < S := Int.tmod_lt_of_pos _ (by omega)
  have a3 : 0 <= w.tmod S + S := by omega
  exact ⟨Int.tmod_nonneg _ a3, Int.tmod_lt_of_pos _ (by omega), by omega, by omega⟩
set_option maxHeartbeats 4000000 in
theorem add_w {cb sb S cap : Nat} {B : Nat -> Nat} {w : Int} (hA : Idle cL i δ.g) (hi : i <= c.n) (ho : Own i c fa fr hd rs bd ha ra δ.g.y) (hk : k < c.adds.length) (hki : k % c.n = i - 1) (hfa : fa k = false) (hbd : 0 < bd)
    (hC : hcell h ⟨cb, 0, none⟩ = some (.slice (some ⟨sb, 0, none⟩) S cap)) (hS : ∀ j, j < S -> hcell h ⟨sb, j, none⟩ = some (.pointer (some ⟨B j, 0, none⟩)) /\ B j ∈ c.sl) (hS0 : 0 < S) (hS1 : S <= 1000) (hw1 : -100 <= w) (hw2 : w <= 100) :
    CallW Try.prog false (SitW Try.prog (XF TT cL) i) 32 #[.pointer (some ⟨cb, 0, none⟩), .pointer none, .int .i64 w, .int .i64 (c.adds.getD k 0)] h δ (Ret (Cq cL i h δ.d δ.g.wg fun v y => v = .int .i64 0 /\ Own i c (u1 fa k true) fr hd rs (bd - 1) ha ra y)) := by
  obtain ⟨r1, r2, r3, r4⟩ := idx_range hS0 hw1 hw2 hS1
  obtain ⟨j, hj⟩ : ∃ j : Nat, (w.tmod S + S).tmod S = (j : Int) := ⟨_, (Int.toNat_of_nonneg r1).symm⟩
  rw [hj] at r1 r2
  obtain ⟨s1, s2⟩ := hS j (by omega)
  refine CallW.start (n := 41) rfl rfl ?_
  (repeat (first | refine EK.seq ?_ | refine EK.region ?_ | refine ER.done ?_ | refine EK.skip ?_ | refine ER.move rfl rfl rfl ?_ | refine ER.assign rfl rfl rfl ?_ | refine ER.nilCheck rfl rfl rfl ?_ | refine ER.fieldAddr rfl rfl rfl ?_ | refine ER.eqV rfl rfl rfl rfl rfl ?_ | refine ER.pickF rfl rfl rfl rfl ?_ | refine ER.cmpF rfl rfl rfl rfl rfl (by first | (dsimp only [cmpP]; omega) | exact rfl | exact Int.le_refl _) ?_ | refine ER.len1 rfl rfl rfl ?_ | refine EK.condF rfl ?_ | refine ER.load1 rfl rfl rfl (by assumption) ?_))
  refine EK.regionAny (fun h' => hcell h' ⟨cb, 0, none⟩ = some (.slice (some ⟨sb, 0, none⟩) S cap) /\ hcell h' ⟨sb, 0 + ((j : Nat) : Int).toNat * 1, none⟩ = some (.pointer (some ⟨B j, 0, none⟩))) ?_ (hDu := hA.at.nd)
  have hZ : hcell h ⟨cb, 0, none⟩ = some (.slice (some ⟨sb, 0, none⟩) S cap) /\ hcell h ⟨sb, 0 + ((j : Nat) : Int).toNat * 1, none⟩ = some (.pointer (some ⟨B j, 0, none⟩)) := ⟨hC, by rw [show 0 + ((j : Nat) : Int).toNat * 1 = j by simp]; exact s1⟩
  refine EA.tMove 0 rfl (by kernel_rfl) rfl rfl rfl rfl hZ ?_
  refine EA.tNil 1 rfl (by kernel_rfl) rfl rfl rfl rfl hZ ?_
  refine EA.tField 2 rfl (by kernel_rfl) rfl rfl rfl rfl hZ ?_
  refine EA.tLoad 3 rfl (by kernel_rfl) rfl rfl rfl rfl (fun _ hz => hz.1) hZ ?_
  refine EA.tMove 4 rfl (by kernel_rfl) rfl rfl rfl rfl hZ ?_
  refine EA.tMove 5 rfl (by kernel_rfl) rfl rfl rfl rfl hZ ?_
  refine EA.tBinI (kd := .i64) (v := .int .i64 (w.tmod S)) 6 rfl (by kernel_rfl) rfl rfl rfl rfl rfl (Go.TJ.binOp_rem (by omega)) hZ ?_
  refine EA.tMove 7 rfl (by kernel_rfl) rfl rfl rfl rfl hZ ?_
  refine EA.tAdd (kd := .i64) 8 rfl (by kernel_rfl) rfl rfl rfl rfl rfl (i64_in r3 r4) hZ ?_
  refine EA.tMove 9 rfl (by kernel_rfl) rfl rfl rfl rfl hZ ?_
  refine EA.tBinI (kd := .i64) (v := .int .i64 j) 10 rfl (by kernel_rfl) rfl rfl rfl rfl rfl ((Go.TJ.binOp_rem (by omega)).trans (by rw [hj])) hZ ?_
  refine EA.tIdxS 11 rfl (by kernel_rfl) rfl rfl rfl rfl rfl (by omega) (by omega) hZ ?_
  refine EA.tLoad 12 rfl (by kernel_rfl) rfl rfl rfl rfl (fun _ hz => hz.2) hZ ?_
  refine EA.tMove 13 rfl (by kernel_rfl) rfl rfl rfl rfl hZ ?_
  refine EA.tMove 14 rfl (by kernel_rfl) rfl rfl rfl rfl hZ ?_
  refine EA.callR 15 rfl (by kernel_rfl) rfl rfl rfl rfl rfl rfl (cadd_f (F := fun _ y => Own i c (u1 fa k true) fr hd rs (bd - 1) ha ra y) cL_ok hA (b := B j) (by show B j ∈ δ.g.y.c.sl ++ _; rw [ho.cc]; exact List.mem_append_left _ s2) fun y₁ q1 j1 => ?_) ?_
  · have o1 := ho.rel hA.i0 q1
    have ec := o1.cc
    obtain ⟨p1, p2⟩ := add_step (b := B j) j1 hA.i0 (by rw [ec]; exact hi) (k := k) (by rw [ec]; exact hk) (by rw [ec]; exact hki) ((o1.fa k hki).trans hfa) (by rw [ec]; exact s2) (Nat.lt_of_lt_of_le hbd o1.bd)
    refine ⟨_, p1, ?_, fun y₂ q2 => (o1.add k (B j)).rel hA.i0 q2⟩
    rw [p2]
    unfold Cy.ad
    rw [ec]
  · rintro v h' δ' ⟨rfl, e1, w1, a1, o2⟩
    refine ⟨hZ, EA.done (by kernel_rfl) ?_⟩
    (repeat (first | refine EK.seq ?_ | refine EK.region ?_ | refine ER.done ?_ | refine ER.assign rfl rfl rfl ?_ | refine EK.ret ?_))
    exact EU.ret1 rfl rfl ⟨rfl, e1, w1, a1, rfl, o2⟩
theorem zsum_nonneg : ∀ (n : Nat) (f : Nat -> Int), (∀ j, j < n -> 0 <= f j) -> 0 <= zsum n f
  | 0, _, _ => Int.le_refl _
  | n + 1, f, h => by
    have := zsum_nonneg n f fun j hj => h j (by omega)
    have := h n (by omega)
    rw [zsum]; omega
theorem zsum_le : ∀ (n : Nat) (f : Nat -> Int) (i : Nat), i < n -> (∀ j, j < n -> 0 <= f j) -> f i <= zsum n f
  | 0, _, _, h, _ => by omega
  | n + 1, f, i, h, hf => by
    rw [zsum]
    have h0 := hf n (by omega)
    by_cases e : i = n
    · subst e
      have := zsum_nonneg i f fun j hj => hf j (by omega)
      omega
    · have := zsum_le n f i (by omega) fun j hj => hf j (by omega)
      omega
theorem lf_le {y : Cy} (h : Cj y) (hi0 : 0 < i) (hi : i <= y.c.n) : y.lf + y.hd i <= y.c.tk /\ 0 <= y.lf /\ y.lf <= y.c.tk := by
  have h1 := zsum_le y.c.n (fun w => y.hd (w + 1)) (i - 1) (by omega) fun j _ => h.hd0 _
  simp only [show i - 1 + 1 = i by omega] at h1
  have h2 := h.lf
  have h3 := h.lf0
  have h4 := h.hd0 i
  omega
theorem pairs_lt {y y' : Cy} (r : LRel cL i y y') {b : Nat} (h : cL.val y' b ≠ cL.val y b) : cL.pairs y' < cL.pairs y :=
  Nat.lt_of_le_of_ne r.pairs fun e => h (congrFun (r.vals e) b)
set_option maxHeartbeats 4000000 in
theorem take_w {tb : Nat} (hA : Idle cL i δ.g) (hi : i <= c.n) (ho : Own i c fa fr hd rs bd ha ra δ.g.y) (hbd : 0 < bd) (hh0 : 0 <= hd) (htk : c.tk <= 1000) (hT : hcell h ⟨tb, 1, none⟩ = some (.pointer (some ⟨c.lb, 0, none⟩))) :
    CallW Try.prog false (SitW Try.prog (XF TT cL) i) 34 #[.pointer (some ⟨tb, 0, none⟩), .pointer none] h δ (Ret (Cq cL i h δ.d δ.g.wg fun v y => (v = .bool true /\ Own i c fa fr (hd + 1) rs (bd - 1) ha ra y) \/ (v = .bool false /\ Own i c fa fr hd rs bd ha ra y))) := by
  refine CallW.start (n := 38) rfl rfl ?_
  (repeat (first | refine EK.seq ?_ | refine EK.region ?_ | refine ER.done ?_ | refine EK.skip ?_ | refine ER.move rfl rfl rfl ?_ | refine ER.assign rfl rfl rfl ?_ | refine ER.nilCheck rfl rfl rfl ?_ | refine ER.fieldAddr rfl rfl rfl ?_ | refine ER.eqV rfl rfl rfl rfl rfl ?_ | refine ER.pickF rfl rfl rfl rfl ?_ | refine EK.condF rfl ?_ | refine ER.load1 rfl rfl rfl (by assumption) ?_))
  refine ER.callR rfl rfl rfl rfl rfl (cload_f (F := fun v y => ∃ x, v = .int .i64 x /\ Own i c fa fr hd rs bd ha ra y /\ y.lf = x /\ 0 <= x /\ x <= c.tk /\ x + hd <= c.tk /\ cL.pairs y <= cL.pairs δ.g.y) cL_ok hA (b := c.lb) (by show c.lb ∈ (δ.g.y).c.sl ++ [(δ.g.y).c.lb, (δ.g.y).c.pb]; rw [ho.cc]; simp) fun y₁ q1 j1 => ?_) ?_
  · have o1 := ho.rel hA.i0 q1
    have ec := o1.cc
    obtain ⟨l1, l2, l3⟩ := lf_le j1 hA.i0 (by rw [ec]; exact hi)
    rw [ec] at l1 l3
    rw [o1.hd] at l1
    refine ⟨y₁, LMove.none cL_ok j1, y₁.lf, ?_, o1, rfl, l2, l3, l1, q1.pairs⟩
    rw [<- ec, val_lb]
  rintro v h' ⟨d1, γ1⟩ ⟨rfl, e1, w1, a1, x, rfl, o1, lx, x0, x1, _⟩
  simp only at e1 w1 a1 o1 lx
  (repeat (first | refine ER.done ?_ | refine EK.block ?_ | refine ER.assign rfl rfl rfl ?_))
  refine EK.loopInv (fun s : Int × Cy => [(5, .int .i64 s.1), (4, .bool false), (1, .pointer none), (0, .pointer (some ⟨tb, 0, none⟩))]) (fun s h2 δ2 => h2 = h' /\ δ2.d = δ.d /\ δ2.g.wg = δ.g.wg /\ Idle cL i δ2.g /\ Own i c fa fr hd rs bd ha ra δ2.g.y /\ LRel cL i s.2 δ2.g.y /\ s.2.lf = s.1 /\ s.2.c = c /\ 0 <= s.1 /\ s.1 <= c.tk) (fun s => cL.pairs s.2) (x, γ1.y) ⟨rfl, rfl, rfl, rfl, trivial⟩ ⟨rfl, e1, w1, a1, o1, LRel.refl cL_ok _ _, lx, o1.cc, x0, x1⟩ ?_
  clear o1 lx x0 x1 a1 w1 e1
  rintro ⟨x, yl⟩ h2 ⟨d2, γ2⟩ ⟨rfl, e2, w2, a2, o2, r2, lx, lc, x0, x1⟩ again
  simp only at e2 w2 a2 o2 r2 lx lc x0 x1
  by_cases hx : x = 0
  · subst hx
    (repeat (first | refine EK.seq ?_ | refine EK.region ?_ | refine ER.done ?_ | refine ER.move rfl rfl rfl ?_ | refine ER.assign rfl rfl rfl ?_ | refine ER.cmpF rfl rfl rfl rfl rfl (by first | (dsimp only [cmpP]; omega) | exact rfl | exact Int.le_refl _) ?_ | refine EK.condF rfl ?_ | refine EK.ret ?_ | refine EK.exit rfl ?_))
    exact EU.ret1 rfl rfl ⟨rfl, e2, w2, a2, .inr ⟨rfl, o2⟩⟩
  · (repeat (first | refine EK.seq ?_ | refine EK.region ?_ | refine ER.done ?_ | refine EK.skip ?_ | refine EK.block ?_ | refine ER.move rfl rfl rfl ?_ | refine ER.nilCheck rfl rfl rfl ?_ | refine ER.fieldAddr rfl rfl rfl ?_ | refine ER.cmpT rfl rfl rfl rfl rfl (by first | (dsimp only [cmpP]; omega) | exact rfl | exact Int.le_refl _) ?_ | refine ER.sub' (kd := .i64) rfl rfl rfl rfl (i64_in (by omega) (by omega)) ?_ | refine EK.condT rfl ?_ | refine ER.load1 rfl rfl rfl (by assumption) ?_))
    refine ER.callR rfl rfl rfl rfl rfl (ccas_f (F := fun v y => (v = .bool true /\ Own i c fa fr (hd + 1) rs (bd - 1) ha ra y) \/ (v = .bool false /\ Own i c fa fr hd rs bd ha ra y /\ cL.pairs y < cL.pairs yl)) cL_ok a2 (b := c.lb) (by show c.lb ∈ γ2.y.c.sl ++ [γ2.y.c.lb, γ2.y.c.pb]; rw [o2.cc]; simp) fun y₁ q1 j1 => ?_) ?_
    · have o3 := o2.rel hA.i0 q1
      have ec := o3.cc
      have hv : cL.val y₁ c.lb = y₁.lf := by rw [<- ec]; exact val_lb
      have hvl : cL.val yl c.lb = x := by rw [<- lc, val_lb]; exact lx
      rw [hv]
      refine ⟨fun e => ?_, fun e => ?_⟩
      · obtain ⟨p1, p2⟩ := tick_step (d := 1) j1 hA.i0 (by rw [ec]; exact hi) (Nat.lt_of_lt_of_le hbd o3.bd) (by rw [e]; omega) (by rw [o3.hd]; omega)
        rw [ec] at p1 p2
        exact ⟨_, p1, by rw [p2, e], fun y₂ q2 => .inl ⟨rfl, (o3.tick 1).rel hA.i0 q2⟩⟩
      · exact ⟨y₁, LMove.none cL_ok j1, .inr ⟨rfl, o3, pairs_lt (r2.trans cL_ok q1) (b := c.lb) (by rw [hv, hvl]; exact e)⟩⟩
    · rintro v h3 ⟨d3, γ3⟩ ⟨rfl, e3, w3, a3, ⟨rfl, o3⟩ | ⟨rfl, o3, p3⟩⟩
      · simp only at e3 w3 a3 o3
        (repeat (first | refine EK.seq ?_ | refine EK.region ?_ | refine ER.done ?_ | refine ER.assign rfl rfl rfl ?_ | refine EK.condT rfl ?_ | refine EK.ret ?_))
        exact EU.ret1 rfl rfl ⟨rfl, e3.trans e2, w3.trans w2, a3, .inl ⟨rfl, o3⟩⟩
      · simp only at e3 w3 a3 o3 p3
        (repeat (first | refine EK.region ?_ | refine ER.done ?_ | refine EK.skip ?_ | refine EK.inBlock ?_ | refine ER.move rfl rfl rfl ?_ | refine ER.nilCheck rfl rfl rfl ?_ | refine ER.fieldAddr rfl rfl rfl ?_ | refine EK.condF rfl ?_ | refine ER.load1 rfl rfl rfl (by assumption) ?_))
        refine ER.callR rfl rfl rfl rfl rfl (cload_f (F := fun v y => ∃ x, v = .int .i64 x /\ Own i c fa fr hd rs bd ha ra y /\ y.lf = x /\ 0 <= x /\ x <= c.tk /\ x + hd <= c.tk /\ cL.pairs y <= cL.pairs γ3.y) cL_ok a3 (b := c.lb) (by show c.lb ∈ (γ3.y).c.sl ++ [(γ3.y).c.lb, (γ3.y).c.pb]; rw [o3.cc]; simp) fun y₁ q1 j1 => ?_) ?_
        · have o1 := o3.rel hA.i0 q1
          have ec := o1.cc
          obtain ⟨l1, l2, l3⟩ := lf_le j1 hA.i0 (by rw [ec]; exact hi)
          rw [ec] at l1 l3
          rw [o1.hd] at l1
          refine ⟨y₁, LMove.none cL_ok j1, y₁.lf, ?_, o1, rfl, l2, l3, l1, q1.pairs⟩
          rw [<- ec, val_lb]
        rintro v h4 ⟨d4, γ4⟩ ⟨rfl, e4, w4, a4, x', rfl, o4, lx', x0', x1', _, p4⟩
        simp only at e4 w4 a4 o4 lx' p4
        (repeat (first | refine ER.done ?_ | refine ER.assign rfl rfl rfl ?_))
        refine EK.sub ?_ (again (x', γ4.y) _ _ (Nat.lt_of_le_of_lt p4 p3) ⟨rfl, (e4.trans e3).trans e2, (w4.trans w3).trans w2, a4, o4, LRel.refl cL_ok _ _, lx', o4.cc, x0', x1'⟩)
        exact ⟨rfl, rfl, rfl, rfl, trivial⟩
set_option maxHeartbeats 4000000 in
theorem back_w {tb : Nat} (hA : Idle cL i δ.g) (hi : i <= c.n) (ho : Own i c fa fr hd rs bd ha ra δ.g.y) (hbd : 0 < bd) (hh0 : 1 <= hd) (htk : c.tk <= 1000) (hT : hcell h ⟨tb, 1, none⟩ = some (.pointer (some ⟨c.lb, 0, none⟩))) (hN : hcell h ⟨tb, 0, none⟩ = some (.int .i64 c.tk)) :
    CallW Try.prog false (SitW Try.prog (XF TT cL) i) 35 #[.pointer (some ⟨tb, 0, none⟩), .pointer none] h δ (Ret (Cq cL i h δ.d δ.g.wg fun v y => v = .int .i64 0 /\ Own i c fa fr (hd - 1) rs (bd - 1) ha ra y)) := by
  refine CallW.start (n := 42) rfl rfl ?_
  (repeat (first | refine EK.seq ?_ | refine EK.region ?_ | refine ER.done ?_ | refine EK.skip ?_ | refine ER.move rfl rfl rfl ?_ | refine ER.assign rfl rfl rfl ?_ | refine ER.nilCheck rfl rfl rfl ?_ | refine ER.fieldAddr rfl rfl rfl ?_ | refine ER.eqV rfl rfl rfl rfl rfl ?_ | refine ER.pickF rfl rfl rfl rfl ?_ | refine EK.condF rfl ?_ | refine ER.load1 rfl rfl rfl (by assumption) ?_))
  refine ER.callR rfl rfl rfl rfl rfl (cload_f (F := fun v y => ∃ x, v = .int .i64 x /\ Own i c fa fr hd rs bd ha ra y /\ y.lf = x /\ 0 <= x /\ x <= c.tk /\ x + hd <= c.tk /\ cL.pairs y <= cL.pairs δ.g.y) cL_ok hA (b := c.lb) (by show c.lb ∈ (δ.g.y).c.sl ++ [(δ.g.y).c.lb, (δ.g.y).c.pb]; rw [ho.cc]; simp) fun y₁ q1 j1 => ?_) ?_
  · have o1 := ho.rel hA.i0 q1
    have ec := o1.cc
    obtain ⟨l1, l2, l3⟩ := lf_le j1 hA.i0 (by rw [ec]; exact hi)
    rw [ec] at l1 l3
    rw [o1.hd] at l1
    refine ⟨y₁, LMove.none cL_ok j1, y₁.lf, ?_, o1, rfl, l2, l3, l1, q1.pairs⟩
    rw [<- ec, val_lb]
  rintro v h' ⟨d1, γ1⟩ ⟨rfl, e1, w1, a1, x, rfl, o1, lx, x0, x1, x2, _⟩
  simp only at e1 w1 a1 o1 lx
  (repeat (first | refine ER.done ?_ | refine EK.block ?_ | refine ER.assign rfl rfl rfl ?_))
  refine EK.loopInv (fun s : Int × Cy => [(5, .int .i64 s.1), (4, .int .i64 0), (1, .pointer none), (0, .pointer (some ⟨tb, 0, none⟩))]) (fun s h2 δ2 => h2 = h' /\ δ2.d = δ.d /\ δ2.g.wg = δ.g.wg /\ Idle cL i δ2.g /\ Own i c fa fr hd rs bd ha ra δ2.g.y /\ LRel cL i s.2 δ2.g.y /\ s.2.lf = s.1 /\ s.2.c = c /\ 0 <= s.1 /\ s.1 + hd <= c.tk) (fun s => cL.pairs s.2) (x, γ1.y) ⟨rfl, rfl, rfl, rfl, trivial⟩ ⟨rfl, e1, w1, a1, o1, LRel.refl cL_ok _ _, lx, o1.cc, x0, x2⟩ ?_
  clear o1 lx x0 x1 x2 a1 w1 e1
  rintro ⟨x, yl⟩ h2 ⟨d2, γ2⟩ ⟨rfl, e2, w2, a2, o2, r2, lx, lc, x0, x1⟩ again
  simp only at e2 w2 a2 o2 r2 lx lc x0 x1
  (repeat (first | refine EK.seq ?_ | refine EK.region ?_ | refine ER.done ?_ | refine EK.skip ?_ | refine EK.block ?_ | refine ER.move rfl rfl rfl ?_ | refine ER.nilCheck rfl rfl rfl ?_ | refine ER.fieldAddr rfl rfl rfl ?_ | refine ER.cmpT rfl rfl rfl rfl rfl (by first | (dsimp only [cmpP]; omega) | exact rfl | exact Int.le_refl _) ?_ | refine ER.add (kd := .i64) rfl rfl rfl rfl (i64_in (by omega) (by omega)) ?_ | refine EK.condT rfl ?_ | refine ER.load1 rfl rfl rfl (by assumption) ?_))
  refine ER.callR rfl rfl rfl rfl rfl (ccas_f (F := fun v y => (v = .bool true /\ Own i c fa fr (hd - 1) rs (bd - 1) ha ra y) \/ (v = .bool false /\ Own i c fa fr hd rs bd ha ra y /\ cL.pairs y < cL.pairs yl)) cL_ok a2 (b := c.lb) (by show c.lb ∈ γ2.y.c.sl ++ [γ2.y.c.lb, γ2.y.c.pb]; rw [o2.cc]; simp) fun y₁ q1 j1 => ?_) ?_
  · have o3 := o2.rel hA.i0 q1
    have ec := o3.cc
    have hv : cL.val y₁ c.lb = y₁.lf := by rw [<- ec]; exact val_lb
    have hvl : cL.val yl c.lb = x := by rw [<- lc, val_lb]; exact lx
    rw [hv]
    refine ⟨fun e => ?_, fun e => ?_⟩
    · obtain ⟨p1, p2⟩ := tick_step (d := -1) j1 hA.i0 (by rw [ec]; exact hi) (Nat.lt_of_lt_of_le hbd o3.bd) (by rw [e]; omega) (by rw [o3.hd]; omega)
      rw [ec] at p1 p2
      exact ⟨_, p1, by rw [p2, e]; omega, fun y₂ q2 => .inl ⟨rfl, (o3.tick (-1)).rel hA.i0 q2⟩⟩
    · exact ⟨y₁, LMove.none cL_ok j1, .inr ⟨rfl, o3, pairs_lt (r2.trans cL_ok q1) (b := c.lb) (by rw [hv, hvl]; exact e)⟩⟩
  · rintro v h3 ⟨d3, γ3⟩ ⟨rfl, e3, w3, a3, ⟨rfl, o3⟩ | ⟨rfl, o3, p3⟩⟩
    · simp only at e3 w3 a3 o3
      (repeat (first | refine EK.seq ?_ | refine EK.region ?_ | refine ER.done ?_ | refine ER.assign rfl rfl rfl ?_ | refine EK.condT rfl ?_ | refine EK.ret ?_))
      exact EU.ret1 rfl rfl ⟨rfl, e3.trans e2, w3.trans w2, a3, rfl, o3⟩
    · simp only at e3 w3 a3 o3 p3
      (repeat (first | refine EK.region ?_ | refine ER.done ?_ | refine EK.skip ?_ | refine EK.inBlock ?_ | refine ER.move rfl rfl rfl ?_ | refine ER.nilCheck rfl rfl rfl ?_ | refine ER.fieldAddr rfl rfl rfl ?_ | refine EK.condF rfl ?_ | refine ER.load1 rfl rfl rfl (by assumption) ?_))
      refine ER.callR rfl rfl rfl rfl rfl (cload_f (F := fun v y => ∃ x, v = .int .i64 x /\ Own i c fa fr hd rs bd ha ra y /\ y.lf = x /\ 0 <= x /\ x <= c.tk /\ x + hd <= c.tk /\ cL.pairs y <= cL.pairs γ3.y) cL_ok a3 (b := c.lb) (by show c.lb ∈ (γ3.y).c.sl ++ [(γ3.y).c.lb, (γ3.y).c.pb]; rw [o3.cc]; simp) fun y₁ q1 j1 => ?_) ?_
      · have o1 := o3.rel hA.i0 q1
        have ec := o1.cc
        obtain ⟨l1, l2, l3⟩ := lf_le j1 hA.i0 (by rw [ec]; exact hi)
        rw [ec] at l1 l3
        rw [o1.hd] at l1
        refine ⟨y₁, LMove.none cL_ok j1, y₁.lf, ?_, o1, rfl, l2, l3, l1, q1.pairs⟩
        rw [<- ec, val_lb]
      rintro v h4 ⟨d4, γ4⟩ ⟨rfl, e4, w4, a4, x', rfl, o4, lx', x0', _, x1', p4⟩
      simp only at e4 w4 a4 o4 lx' p4
      (repeat (first | refine ER.done ?_ | refine ER.assign rfl rfl rfl ?_))
      refine EK.sub ?_ (again (x', γ4.y) _ _ (Nat.lt_of_le_of_lt p4 p3) ⟨rfl, (e4.trans e3).trans e2, (w4.trans w3).trans w2, a4, o4, LRel.refl cL_ok _ _, lx', o4.cc, x0', x1'⟩)
      exact ⟨rfl, rfl, rfl, rfl, trivial⟩
set_option maxHeartbeats 4000000 in
theorem raise_w {pk : Nat} (hA : Idle cL i δ.g) (hi : i <= c.n) (ho : Own i c fa fr hd rs bd ha ra δ.g.y) (hk : k < c.adds.length) (hki : k % c.n = i - 1) (hbd : 0 < bd) (hP : hcell h ⟨pk, 0, none⟩ = some (.pointer (some ⟨c.pb, 0, none⟩))) :
    CallW Try.prog false (SitW Try.prog (XF TT cL) i) 33 #[.pointer (some ⟨pk, 0, none⟩), .pointer none, .int .i64 (c.adds.getD k 0)] h δ (Ret (Cq cL i h δ.d δ.g.wg fun v y => ∃ r : Bool, v = .bool r /\ Own i c fa (u1 fr k true) hd (rs || r) (bd - 1) ha ra y)) := by
  refine CallW.start (n := 43) rfl rfl ?_
  (repeat (first | refine EK.seq ?_ | refine EK.region ?_ | refine ER.done ?_ | refine EK.skip ?_ | refine ER.move rfl rfl rfl ?_ | refine ER.assign rfl rfl rfl ?_ | refine ER.nilCheck rfl rfl rfl ?_ | refine ER.fieldAddr rfl rfl rfl ?_ | refine ER.eqV rfl rfl rfl rfl rfl ?_ | refine ER.pickF rfl rfl rfl rfl ?_ | refine EK.condF rfl ?_ | refine ER.load1 rfl rfl rfl (by assumption) ?_ | refine EK.scope ?_ | refine EK.label ?_))
  refine ER.callR rfl rfl rfl rfl rfl (cload_f (F := fun v y => ∃ x, v = .int .i64 x /\ cL.pairs y <= cL.pairs δ.g.y /\ ((c.adds.getD k 0 <= x /\ Own i c fa (u1 fr k true) hd rs bd ha ra y) \/ (x < c.adds.getD k 0 /\ Own i c fa fr hd rs bd ha ra y /\ cL.val y c.pb = x))) cL_ok hA (b := c.pb) (by show c.pb ∈ (δ.g.y).c.sl ++ [(δ.g.y).c.lb, (δ.g.y).c.pb]; rw [ho.cc]; simp) fun y₁ q1 j1 => ?_) ?_
  · have o1 := ho.rel hA.i0 q1
    have ec := o1.cc
    have hv : cL.val y₁ c.pb = y₁.tp := by rw [<- ec]; exact val_pb j1
    have had : y₁.ad k = c.adds.getD k 0 := by unfold Cy.ad; rw [ec]
    rcases Int.lt_or_le y₁.tp (c.adds.getD k 0) with hlt | hge
    · exact ⟨y₁, LMove.none cL_ok j1, _, rfl, q1.pairs, .inr ⟨by rw [hv]; exact hlt, o1, rfl⟩⟩
    · exact ⟨_, pass_move j1 hA.i0 (by rw [ec]; exact hki) (by rw [had]; exact hge), _, rfl, q1.pairs, .inl ⟨by rw [hv]; exact hge, o1.pass k⟩⟩
  rintro v h' ⟨d1, γ1⟩ ⟨rfl, e1, w1, a1, x, rfl, _, o1⟩
  simp only at e1 w1 a1 o1
  (repeat (first | refine ER.done ?_ | refine EK.block ?_ | refine ER.assign rfl rfl rfl ?_))
  refine EK.loopInv (fun s : Int × Cy => [(8, .int .i64 s.1), (7, .bool false), (6, .bool false), (2, .int .i64 (c.adds.getD k 0)), (1, .pointer none), (0, .pointer (some ⟨pk, 0, none⟩))]) (fun s h2 δ2 => h2 = h' /\ δ2.d = δ.d /\ δ2.g.wg = δ.g.wg /\ Idle cL i δ2.g /\ ((c.adds.getD k 0 <= s.1 /\ Own i c fa (u1 fr k true) hd rs bd ha ra δ2.g.y) \/ (s.1 < c.adds.getD k 0 /\ Own i c fa fr hd rs bd ha ra δ2.g.y /\ LRel cL i s.2 δ2.g.y /\ cL.val s.2 c.pb = s.1))) (fun s => cL.pairs s.2) (x, γ1.y) ⟨rfl, rfl, rfl, rfl, rfl, rfl, trivial⟩ ⟨rfl, e1, w1, a1, o1.imp id fun ⟨z1, z2, z3⟩ => ⟨z1, z2, LRel.refl cL_ok _ _, z3⟩⟩ ?_
  clear o1 a1 w1 e1
  rintro ⟨x, yl⟩ h2 ⟨d2, γ2⟩ ⟨rfl, e2, w2, a2, ⟨hge, o2⟩ | ⟨hlt, o2, r2, lx⟩⟩ again
  · simp only at e2 w2 a2 o2 hge
    (repeat (first | refine EK.seq ?_ | refine EK.region ?_ | refine ER.done ?_ | refine ER.move rfl rfl rfl ?_ | refine ER.assign rfl rfl rfl ?_ | refine ER.cmpF rfl rfl rfl rfl rfl (by first | (dsimp only [cmpP]; omega) | exact rfl | exact Int.le_refl _) ?_ | refine EK.condF rfl ?_ | refine EK.ret ?_ | refine EK.exit rfl ?_))
    exact EU.ret1 rfl rfl ⟨rfl, e2, w2, a2, false, rfl, by rw [Bool.or_false]; exact o2.less (Nat.sub_le _ _)⟩
  · simp only at e2 w2 a2 o2 hlt r2 lx
    (repeat (first | refine EK.seq ?_ | refine EK.region ?_ | refine ER.done ?_ | refine EK.skip ?_ | refine EK.block ?_ | refine ER.move rfl rfl rfl ?_ | refine ER.nilCheck rfl rfl rfl ?_ | refine ER.fieldAddr rfl rfl rfl ?_ | refine ER.cmpT rfl rfl rfl rfl rfl (by first | (dsimp only [cmpP]; omega) | exact rfl | exact Int.le_refl _) ?_ | refine EK.condT rfl ?_ | refine ER.load1 rfl rfl rfl (by assumption) ?_))
    refine ER.callR rfl rfl rfl rfl rfl (ccas_f (F := fun v y => (v = .bool true /\ Own i c fa (u1 fr k true) hd true (bd - 1) ha ra y) \/ (v = .bool false /\ Own i c fa fr hd rs bd ha ra y /\ cL.pairs y < cL.pairs yl)) cL_ok a2 (b := c.pb) (by show c.pb ∈ γ2.y.c.sl ++ [γ2.y.c.lb, γ2.y.c.pb]; rw [o2.cc]; simp) fun y₁ q1 j1 => ?_) ?_
    · have o3 := o2.rel hA.i0 q1
      have ec := o3.cc
      have hv : cL.val y₁ c.pb = y₁.tp := by rw [<- ec]; exact val_pb j1
      have had : y₁.ad k = c.adds.getD k 0 := by unfold Cy.ad; rw [ec]
      refine ⟨fun e => ?_, fun e => ?_⟩
      · obtain ⟨p1, p2⟩ := raise_step j1 hA.i0 (by rw [ec]; exact hi) (k := k) (by rw [ec]; exact hk) (by rw [ec]; exact hki) (by rw [had, <- hv, e]; exact hlt) (Nat.lt_of_lt_of_le hbd o3.bd)
        rw [ec] at p1 p2
        exact ⟨_, p1, by rw [p2, had], fun y₂ q2 => .inl ⟨rfl, (o3.raise k).rel hA.i0 q2⟩⟩
      · exact ⟨y₁, LMove.none cL_ok j1, .inr ⟨rfl, o3, pairs_lt (r2.trans cL_ok q1) (b := c.pb) (by rw [lx]; exact e)⟩⟩
    · rintro v h3 ⟨d3, γ3⟩ ⟨rfl, e3, w3, a3, ⟨rfl, o3⟩ | ⟨rfl, o3, p3⟩⟩
      · simp only at e3 w3 a3 o3
        (repeat (first | refine EK.seq ?_ | refine EK.region ?_ | refine ER.done ?_ | refine ER.move rfl rfl rfl ?_ | refine ER.assign rfl rfl rfl ?_ | refine EK.condT rfl ?_ | refine EK.ret ?_ | refine EK.exit rfl ?_))
        exact EU.ret1 rfl rfl ⟨rfl, e3.trans e2, w3.trans w2, a3, true, rfl, by rw [Bool.or_true]; exact o3⟩
      · simp only at e3 w3 a3 o3 p3
        (repeat (first | refine EK.seq ?_ | refine EK.region ?_ | refine ER.done ?_ | refine EK.skip ?_ | refine EK.inBlock ?_ | refine ER.move rfl rfl rfl ?_ | refine ER.assign rfl rfl rfl ?_ | refine ER.nilCheck rfl rfl rfl ?_ | refine ER.fieldAddr rfl rfl rfl ?_ | refine EK.condF rfl ?_ | refine ER.load1 rfl rfl rfl (by assumption) ?_))
        refine ER.callR rfl rfl rfl rfl rfl (cload_f (F := fun v y => ∃ x, v = .int .i64 x /\ cL.pairs y <= cL.pairs γ3.y /\ ((c.adds.getD k 0 <= x /\ Own i c fa (u1 fr k true) hd rs bd ha ra y) \/ (x < c.adds.getD k 0 /\ Own i c fa fr hd rs bd ha ra y /\ cL.val y c.pb = x))) cL_ok a3 (b := c.pb) (by show c.pb ∈ (γ3.y).c.sl ++ [(γ3.y).c.lb, (γ3.y).c.pb]; rw [o3.cc]; simp) fun y₁ q1 j1 => ?_) ?_
        · have o1 := o3.rel hA.i0 q1
          have ec := o1.cc
          have hv : cL.val y₁ c.pb = y₁.tp := by rw [<- ec]; exact val_pb j1
          have had : y₁.ad k = c.adds.getD k 0 := by unfold Cy.ad; rw [ec]
          rcases Int.lt_or_le y₁.tp (c.adds.getD k 0) with hlt | hge
          · exact ⟨y₁, LMove.none cL_ok j1, _, rfl, q1.pairs, .inr ⟨by rw [hv]; exact hlt, o1, rfl⟩⟩
          · exact ⟨_, pass_move j1 hA.i0 (by rw [ec]; exact hki) (by rw [had]; exact hge), _, rfl, q1.pairs, .inl ⟨by rw [hv]; exact hge, o1.pass k⟩⟩
        rintro v h4 ⟨d4, γ4⟩ ⟨rfl, e4, w4, a4, x', rfl, p4, o4⟩
        simp only at e4 w4 a4 o4 p4
        (repeat (first | refine ER.done ?_ | refine ER.assign rfl rfl rfl ?_))
        refine EK.sub ?_ (again (x', γ4.y) _ _ (Nat.lt_of_le_of_lt p4 p3) ⟨rfl, (e4.trans e3).trans e2, (w4.trans w3).trans w2, a4, o4.imp id fun ⟨z1, z2, z3⟩ => ⟨z1, z2, LRel.refl cL_ok _ _, z3⟩⟩)
        exact ⟨rfl, rfl, rfl, rfl, rfl, rfl, trivial⟩
end
end
section
open Go Go.TJ Go.Proofs
variable [Dm]
structure Kq where
  vA : Nat
  vN : Nat
  vC : Nat
  vP : Nat
  vR : Nat
  vT : Nat
  vH : Nat
  cb : Nat
  sb : Nat
  S : Nat
  cap : Nat
  B : Nat -> Nat
  pk : Nat
  tb : Nat
  aS : Option Addr
  kA : Nat
structure Km (c : Cc) (q : Kq) (h : Hp) : Prop where
  A : hcell h ⟨q.vA, 0, none⟩ = some (.slice q.aS c.adds.length q.kA)
  Ai : ∀ k, k < c.adds.length -> ∃ b o, q.aS = some ⟨b, o, none⟩ /\ hcell h ⟨b, o + k * 1, none⟩ = some (.int .i64 (c.adds.getD k 0))
  N : hcell h ⟨q.vN, 0, none⟩ = some (.int .i64 c.n)
  C : hcell h ⟨q.vC, 0, none⟩ = some (.pointer (some ⟨q.cb, 0, none⟩))
  Cb : hcell h ⟨q.cb, 0, none⟩ = some (.slice (some ⟨q.sb, 0, none⟩) q.S q.cap)
  Cs : ∀ j, j < q.S -> hcell h ⟨q.sb, j, none⟩ = some (.pointer (some ⟨q.B j, 0, none⟩)) /\ q.B j ∈ c.sl
  S0 : 0 < q.S
  S1 : q.S <= 1000
  P : hcell h ⟨q.vP, 0, none⟩ = some (.pointer (some ⟨q.pk, 0, none⟩))
  Pk : hcell h ⟨q.pk, 0, none⟩ = some (.pointer (some ⟨c.pb, 0, none⟩))
  R : hcell h ⟨q.vR, 0, none⟩ = some (.slice (some ⟨c.rb, 0, none⟩) c.n c.n)
  T : hcell h ⟨q.vT, 0, none⟩ = some (.pointer (some ⟨q.tb, 0, none⟩))
  T0 : hcell h ⟨q.tb, 0, none⟩ = some (.int .i64 c.tk)
  T1 : hcell h ⟨q.tb, 1, none⟩ = some (.pointer (some ⟨c.lb, 0, none⟩))
  H : hcell h ⟨q.vH, 0, none⟩ = some (.slice (some ⟨c.hb, 0, none⟩) c.n c.n)
section
variable {i : Nat} {c : Cc} {fa fr fa' fr' : Nat -> Bool} {hd : Int} {rs : Bool} {bd : Nat} {ha : Int} {ra : Bool} {y : Cy}
theorem Own.congr (o : Own i c fa fr hd rs bd ha ra y) (h1 : ∀ k, k % c.n = i - 1 -> fa' k = fa k) (h2 : ∀ k, k % c.n = i - 1 -> fr' k = fr k) : Own i c fa' fr' hd rs bd ha ra y :=
  ⟨o.cc, fun k hk => (o.fa k hk).trans (h1 k hk).symm, fun k hk => (o.fr k hk).trans (h2 k hk).symm, o.hd, o.rs, o.bd, o.ha, o.ra⟩
theorem Own.setH (o : Own i c fa fr hd rs bd ha ra y) (v : Int) : Own i c fa fr hd rs bd v ra (haY y i v) := ⟨o.cc, o.fa, o.fr, o.hd, o.rs, o.bd, u1_same, o.ra⟩
theorem Own.setR (o : Own i c fa fr hd rs bd ha ra y) (v : Bool) : Own i c fa fr hd rs bd ha v (raY y i v) := ⟨o.cc, o.fa, o.fr, o.hd, o.rs, o.bd, o.ha, u1_same⟩
theorem arr_h {y : Cy} {w : Nat} (hw : w < y.c.n) : cL.arrT y y.c.hb = some y.c.tI /\ (cL.arr y y.c.hb)[w]? = some (.int .i64 (y.ha w)) := by
  refine ⟨by show (if y.c.hb = y.c.hb then some y.c.tI else _) = _; rw [if_pos rfl], ?_⟩
  show (if y.c.hb = y.c.hb then _ else _ : Array Value)[w]? = _
  rw [if_pos rfl]
  simp [hw]
theorem arr_r {y : Cy} (hJ : Cj y) {w : Nat} (hw : w < y.c.n) : cL.arrT y y.c.rb = some y.c.tB /\ (cL.arr y y.c.rb)[w]? = some (.bool (y.ra w)) := by
  have e : y.c.rb ≠ y.c.hb := fun z => hJ.ar.2.2.2.1 z.symm
  refine ⟨by show (if y.c.rb = y.c.hb then some y.c.tI else if y.c.rb = y.c.rb then some y.c.tB else _) = _; rw [if_neg e, if_pos rfl], ?_⟩
  show (if y.c.rb = y.c.hb then _ else if y.c.rb = y.c.rb then _ else _ : Array Value)[w]? = _
  rw [if_neg e, if_pos rfl]
  simp [hw]
theorem arr_f {y : Cy} (hJ : Cj y) {w : Nat} (hw : w < y.c.n) : cL.arrT y y.c.fb = some y.c.tB /\ cL.arr y y.c.fb = Array.replicate y.c.n (.bool false) /\ (cL.arr y y.c.fb)[w]? = some (.bool false) := by
  have e : y.c.fb ≠ y.c.hb := fun z => hJ.ar.2.2.2.2.1 z.symm
  have e2 : y.c.fb ≠ y.c.rb := fun z => hJ.ar.2.2.2.2.2 z.symm
  have e3 : cL.arr y y.c.fb = Array.replicate y.c.n (.bool false) := by
    show (if y.c.fb = y.c.hb then _ else if y.c.fb = y.c.rb then _ else _ : Array Value) = _
    rw [if_neg e, if_neg e2]
  refine ⟨by show (if y.c.fb = y.c.hb then some y.c.tI else if y.c.fb = y.c.rb then some y.c.tB else if y.c.fb = y.c.fb then some y.c.tB else none) = _; rw [if_neg e, if_neg e2, if_pos rfl], e3, by rw [e3, Array.getElem?_replicate, if_pos hw]⟩
theorem own_h (o : Own i c fa fr hd rs bd ha ra y) (i0 : 0 < i) (hi : i <= c.n) : cL.arrT y c.hb = some c.tI /\ (cL.arr y c.hb)[0 + ((i - 1 : Nat) : Int).toNat * 1]? = some (.int .i64 ha) /\ cL.may y i ⟨c.hb, 0 + ((i - 1 : Nat) : Int).toNat * 1, none⟩ true := by
  have e : 0 + ((i - 1 : Nat) : Int).toNat * 1 = i - 1 := by simp
  obtain ⟨h1, h2⟩ := arr_h (y := y) (w := i - 1) (by rw [o.cc]; omega)
  rw [o.cc, o.ha] at h2
  rw [o.cc] at h1
  rw [e]
  exact ⟨h1, h2, .inl (by rw [o.cc]), i0, rfl⟩
theorem own_r (o : Own i c fa fr hd rs bd ha ra y) (hJ : Cj y) (i0 : 0 < i) (hi : i <= c.n) : cL.arrT y c.rb = some c.tB /\ (cL.arr y c.rb)[0 + ((i - 1 : Nat) : Int).toNat * 1]? = some (.bool ra) /\ cL.may y i ⟨c.rb, 0 + ((i - 1 : Nat) : Int).toNat * 1, none⟩ true := by
  have e : 0 + ((i - 1 : Nat) : Int).toNat * 1 = i - 1 := by simp
  obtain ⟨h1, h2⟩ := arr_r (y := y) hJ (w := i - 1) (by rw [o.cc]; omega)
  rw [o.cc, o.ra] at h2
  rw [o.cc] at h1
  rw [e]
  exact ⟨h1, h2, .inr (.inl (by rw [o.cc])), i0, rfl⟩
theorem mv_h (o : Own i c fa fr hd rs bd ha ra y) (hJ : Cj y) (i0 : 0 < i) (v : Int) : AMove cL i c.hb (0 + ((i - 1 : Nat) : Int).toNat * 1) (.int .i64 v) y (haY y i v) := by
  have e : 0 + ((i - 1 : Nat) : Int).toNat * 1 = i - 1 := by simp
  have := ha_move (v := v) hJ i0
  rw [o.cc] at this
  rw [e]; exact this
theorem mv_r (o : Own i c fa fr hd rs bd ha ra y) (hJ : Cj y) (i0 : 0 < i) (v : Bool) : AMove cL i c.rb (0 + ((i - 1 : Nat) : Int).toNat * 1) (.bool v) y (raY y i v) := by
  have e : 0 + ((i - 1 : Nat) : Int).toNat * 1 = i - 1 := by simp
  have := ra_move (v := v) hJ i0
  rw [o.cc] at this
  rw [e]; exact this
theorem upto {k q n : Nat} (hn : 0 < n) (hk : k % n = q % n) : decide (q < k + n) = u1 (fun q => decide (q < k)) k true q := by
  by_cases e : q = k
  · subst e; rw [u1_same]; exact decide_eq_true (by omega)
  · rw [u1_ne e]
    refine decide_eq_decide.2 ⟨fun h => Classical.byContradiction fun h2 => ?_, fun h => by omega⟩
    have h3 : (q - k) % n = 0 := Nat.sub_mod_eq_zero_of_mod_eq hk.symm
    rw [Nat.mod_eq_of_lt (by omega)] at h3
    omega
theorem fall_move (hJ : Cj y) (hi0 : 0 < i) (hi : i <= y.c.n) : AMove cL i y.c.fb (i - 1) (.bool false) y y := by
  refine ⟨Stt.refl _ _, fun j _ => cL_ok.refl _ _, Nat.le_refl _, rfl, fun _ _ => rfl, ?_, hJ, fun _ _ _ h => h⟩
  rw [(arr_f hJ (w := i - 1) (by omega)).2.1]
  apply Array.ext_getElem?
  intro x
  rw [Array.getElem?_setIfInBounds]
  by_cases e : i - 1 = x
  · subst e; rw [if_pos rfl, Array.getElem?_replicate]; simp
  · rw [if_neg e]
end
section
variable {h : Hp} {δ : Ix (Gf Cy)} {i : Nat} {c : Cc} {q : Kq}
set_option maxHeartbeats 8000000 in
theorem worker_ok (hA : Idle cL i δ.g) (hi : i <= c.n) (hn : c.n <= 64) (hlen : c.adds.length <= 400) (htk : c.tk <= 1000) (m : Km c q h) (ho : Own i c (fun _ => false) (fun _ => false) 0 false (2 * c.adds.length + 4) 0 false δ.g.y) :
    CallW Try.prog false (SitW Try.prog (XF TT cL) i) 31 #[.int .i64 ((i - 1 : Nat) : Int), .pointer (some ⟨q.vA, 0, none⟩), .pointer (some ⟨q.vN, 0, none⟩), .pointer (some ⟨q.vC, 0, none⟩), .pointer (some ⟨q.vP, 0, none⟩), .pointer (some ⟨q.vR, 0, none⟩), .pointer (some ⟨q.vT, 0, none⟩), .pointer (some ⟨q.vH, 0, none⟩)] h δ
      (Ret (Cq cL i h δ.d δ.g.wg fun _ y => ∃ fa fr hd rs bd, (∀ k, k < c.adds.length -> k % c.n = i - 1 -> fa k = true /\ fr k = true) /\ Own i c fa fr hd rs bd hd rs y)) := by
  have i0 := hA.i0
  refine CallW.start (n := 66) rfl rfl ?_
  (repeat (first | refine EK.seq ?_ | refine EK.region ?_ | refine ER.done ?_ | refine EK.block ?_ | refine ER.move rfl rfl rfl ?_ | refine ER.assign rfl rfl rfl ?_))
  refine EK.loopInv (fun k : Nat => [(9, .int .i64 k), (0, .int .i64 ((i - 1 : Nat) : Int)), (1, .pointer (some ⟨q.vA, 0, none⟩)), (2, .pointer (some ⟨q.vN, 0, none⟩)), (3, .pointer (some ⟨q.vC, 0, none⟩)), (4, .pointer (some ⟨q.vP, 0, none⟩)), (5, .pointer (some ⟨q.vR, 0, none⟩)), (6, .pointer (some ⟨q.vT, 0, none⟩)), (7, .pointer (some ⟨q.vH, 0, none⟩))])
    (fun k h' δ' => h' = h /\ δ'.d = δ.d /\ δ'.g.wg = δ.g.wg /\ Idle cL i δ'.g /\ k % c.n = i - 1 /\ k <= 1000 /\ ∃ rs, Own i c (fun q => decide (q < k)) (fun q => decide (q < k)) 0 rs (2 * (c.adds.length - k) + 4) 0 rs δ'.g.y) (fun k => 1000 - k) (i - 1) ⟨rfl, rfl, rfl, rfl, rfl, rfl, rfl, rfl, rfl, trivial⟩ ⟨rfl, rfl, rfl, hA, ?_, by omega, false, ?_⟩ ?_
  · exact Nat.mod_eq_of_lt (by omega)
  · refine (ho.congr (fun k hk => ?_) (fun k hk => ?_)).less (by omega)
    all_goals
      have := Nat.mod_le k c.n
      rw [hk] at this
      exact decide_eq_false (by omega)
  rintro k h' ⟨d1, γ1⟩ ⟨rfl, e1, w1, a1, hkn, hk1, rs, o1⟩ again
  simp only at e1 w1 a1 o1
  rcases Nat.lt_or_ge k c.adds.length with hlt | hge
  · obtain ⟨bA, oA, eA, cA⟩ := m.Ai k hlt
    have mA := m.A
    rw [eA] at mA
    have mC := m.C
    have mP := m.P
    have mR := m.R
    have mN := m.N
    (repeat (first | refine EK.seq ?_ | refine EK.region ?_ | refine ER.done ?_ | refine EK.skip ?_ | refine EK.block ?_ | refine ER.move rfl rfl rfl ?_ | refine ER.cmpT rfl rfl rfl rfl rfl (by first | (dsimp only [cmpP]; omega) | exact rfl | exact Int.le_refl _) ?_ | refine ER.len1 rfl rfl rfl ?_ | refine EK.condT rfl ?_ | refine ER.load1 rfl rfl rfl (by assumption) ?_))
    have hn1 : 0 < c.n := by omega
    refine EK.regionAny (fun h2 => hcell h2 ⟨q.vC, 0, none⟩ = some (.pointer (some ⟨q.cb, 0, none⟩)) /\ hcell h2 ⟨q.vA, 0, none⟩ = some (.slice (some ⟨bA, oA, none⟩) c.adds.length q.kA) /\ hcell h2 ⟨bA, oA + ((k : Nat) : Int).toNat * 1, none⟩ = some (.int .i64 (c.adds.getD k 0))) ?_ (hDu := a1.at.nd)
    have hZ : hcell h' ⟨q.vC, 0, none⟩ = some (.pointer (some ⟨q.cb, 0, none⟩)) /\ hcell h' ⟨q.vA, 0, none⟩ = some (.slice (some ⟨bA, oA, none⟩) c.adds.length q.kA) /\ hcell h' ⟨bA, oA + ((k : Nat) : Int).toNat * 1, none⟩ = some (.int .i64 (c.adds.getD k 0)) := ⟨mC, mA, by rw [Int.toNat_natCast]; exact cA⟩
    refine EA.tLoad 0 rfl (by kernel_rfl) rfl rfl rfl rfl (fun _ hz => hz.1) hZ ?_
    refine EA.tMove 1 rfl (by kernel_rfl) rfl rfl rfl rfl hZ ?_
    refine EA.tSub (kd := .i64) 2 rfl (by kernel_rfl) rfl rfl rfl rfl rfl (i64_in (by omega) (by omega)) hZ ?_
    refine EA.tLoad 3 rfl (by kernel_rfl) rfl rfl rfl rfl (fun _ hz => hz.2.1) hZ ?_
    refine EA.tMove 4 rfl (by kernel_rfl) rfl rfl rfl rfl hZ ?_
    refine EA.tIdxS 5 rfl (by kernel_rfl) rfl rfl rfl rfl rfl (by omega) (by omega) hZ ?_
    refine EA.tLoad 6 rfl (by kernel_rfl) rfl rfl rfl rfl (fun _ hz => hz.2.2) hZ ?_
    refine EA.callR 7 rfl (by kernel_rfl) rfl rfl rfl rfl rfl rfl (add_w a1 hi o1 hlt hkn (decide_eq_false (by omega)) (by omega) m.Cb m.Cs m.S0 m.S1 (by omega) (by omega)) ?_
    rintro v h2 ⟨d2, γ2⟩ ⟨rfl, e2, w2, a2, rfl, o2⟩
    simp only at e2 w2 a2 o2
    refine ⟨hZ, EA.done (by kernel_rfl) ?_⟩
    clear hZ
    skip
    refine EK.regionAny (fun h3 => (hcell h3 ⟨q.vR, 0, none⟩ = some (.slice (some ⟨c.rb, 0, none⟩) c.n c.n) /\ hcell h3 ⟨q.vP, 0, none⟩ = some (.pointer (some ⟨q.pk, 0, none⟩))) /\ hcell h3 ⟨q.vA, 0, none⟩ = some (.slice (some ⟨bA, oA, none⟩) c.adds.length q.kA) /\ hcell h3 ⟨bA, oA + ((k : Nat) : Int).toNat * 1, none⟩ = some (.int .i64 (c.adds.getD k 0))) ?_ (hDu := a2.at.nd)
    have hZ : (hcell h2 ⟨q.vR, 0, none⟩ = some (.slice (some ⟨c.rb, 0, none⟩) c.n c.n) /\ hcell h2 ⟨q.vP, 0, none⟩ = some (.pointer (some ⟨q.pk, 0, none⟩))) /\ hcell h2 ⟨q.vA, 0, none⟩ = some (.slice (some ⟨bA, oA, none⟩) c.adds.length q.kA) /\ hcell h2 ⟨bA, oA + ((k : Nat) : Int).toNat * 1, none⟩ = some (.int .i64 (c.adds.getD k 0)) := ⟨⟨mR, mP⟩, mA, by rw [Int.toNat_natCast]; exact cA⟩
    refine EA.tLoad 0 rfl (by kernel_rfl) rfl rfl rfl rfl (fun _ hz => hz.1.1) hZ ?_
    refine EA.tMove 1 rfl (by kernel_rfl) rfl rfl rfl rfl hZ ?_
    refine EA.tLoad 2 rfl (by kernel_rfl) rfl rfl rfl rfl (fun _ hz => hz.1.2) hZ ?_
    refine EA.tLoad 3 rfl (by kernel_rfl) rfl rfl rfl rfl (fun _ hz => hz.2.1) hZ ?_
    refine EA.tMove 4 rfl (by kernel_rfl) rfl rfl rfl rfl hZ ?_
    refine EA.tIdxS 5 rfl (by kernel_rfl) rfl rfl rfl rfl rfl (by omega) (by omega) hZ ?_
    refine EA.tLoad 6 rfl (by kernel_rfl) rfl rfl rfl rfl (fun _ hz => hz.2.2) hZ ?_
    refine EA.callR 7 rfl (by kernel_rfl) rfl rfl rfl rfl rfl rfl (raise_w a2 hi o2 hlt hkn (by omega) m.Pk) ?_
    rintro v h3 ⟨d3, γ3⟩ ⟨rfl, e3, w3, a3, r, rfl, o3⟩
    simp only at e3 w3 a3 o3
    refine ⟨hZ, ?_⟩
    have next : ∀ γ4 : Gf Cy, Idle cL i γ4 -> γ4.wg = δ.g.wg -> Own i c (u1 (fun q => decide (q < k)) k true) (u1 (fun q => decide (q < k)) k true) 0 (rs || r) (2 * (c.adds.length - k) + 4 - 1 - 1) 0 (rs || r) γ4.y ->
        Own i c (fun q => decide (q < k + c.n)) (fun q => decide (q < k + c.n)) 0 (rs || r) (2 * (c.adds.length - (k + c.n)) + 4) 0 (rs || r) γ4.y := fun γ4 _ _ o => (o.congr (fun j hj => upto hn1 (hkn.trans hj.symm)) fun j hj => upto hn1 (hkn.trans hj.symm)).less (by omega)
    cases r
    · refine EA.tMove 8 rfl (by kernel_rfl) rfl rfl rfl rfl hZ ?_
      refine EA.tLoad 9 rfl (by kernel_rfl) rfl rfl rfl rfl (fun _ hz => hz.1.1) hZ ?_
      refine EA.tMove 10 rfl (by kernel_rfl) rfl rfl rfl rfl hZ ?_
      refine EA.tIdxS 11 rfl (by kernel_rfl) rfl rfl rfl rfl rfl (by omega) (by omega) hZ ?_
      refine EA.onlyH 12 rfl (by kernel_rfl) rfl rfl rfl (.inl ⟨_, rfl, rfl⟩) fun ρ hρ => ⟨fun v h4 δ4 => h4 = h3 /\ δ4.d = δ.d /\ δ4.g.wg = δ.g.wg /\ Idle cL i δ4.g /\ v = .bool rs /\ Own i c (u1 (fun q => decide (q < k)) k true) (u1 (fun q => decide (q < k)) k true) 0 (rs || false) (2 * (c.adds.length - k) + 4 - 1 - 1) 0 rs δ4.g.y, yields_loadA cL_ok (hρ _ _ rfl) a3 fun γ4 hR a4 j4 => ?_, ?_⟩
      · have o4 := o3.rel i0 hR.toRo.lrel
        obtain ⟨f1, f2, f3⟩ := own_r o4 j4 i0 hi
        exact ⟨_, _, _, f1, f2, f3, rfl, (e3.trans e2).trans e1, ((hR.wg.trans w3).trans w2).trans w1, a4, rfl, o4⟩
      rintro v h4 ⟨d4, γ4⟩ ⟨rfl, e4, w4, a4, rfl, o4⟩
      simp only at e4 w4 a4 o4
      refine ⟨.inr hZ, ?_⟩
      refine EA.tPickF 13 rfl (by kernel_rfl) rfl rfl rfl rfl rfl hZ ?_
      refine EA.tIdxS 14 rfl (by kernel_rfl) rfl rfl rfl rfl rfl (by omega) (by omega) hZ ?_
      refine EA.onlyH 15 rfl (by kernel_rfl) rfl rfl rfl (.inr rfl) fun ρ hρ => ⟨fun v h5 δ5 => h5 = h4 /\ δ5.d = δ.d /\ δ5.g.wg = δ.g.wg /\ Idle cL i δ5.g /\ Own i c (u1 (fun q => decide (q < k)) k true) (u1 (fun q => decide (q < k)) k true) 0 (rs || false) (2 * (c.adds.length - k) + 4 - 1 - 1) 0 rs δ5.g.y, yields_storeA cL_ok (hρ _ _ rfl) (hρ _ _ rfl) (by simp [OneCell]) a4 fun γ5 hR a5 j5 => ?_, ?_⟩
      · have o5 := o4.rel i0 hR.toRo.lrel
        obtain ⟨f1, f2, f3⟩ := own_r o5 j5 i0 hi
        exact ⟨_, _, _, f1, f2, f3, mv_r o5 j5 i0 _, fun γ6 y6 w6 a6 => ⟨rfl, e4, w6.trans w4, a6, by rw [y6]; exact o5.setR _⟩⟩
      rintro v h5 ⟨d5, γ5⟩ ⟨rfl, e5, w5, a5, o5⟩
      simp only at e5 w5 a5 o5
      refine ⟨.inr hZ, EA.done (by kernel_rfl) ?_⟩
      (repeat (first | refine EK.region ?_ | refine ER.done ?_ | refine EK.inBlock ?_ | refine ER.move rfl rfl rfl ?_ | refine ER.assign rfl rfl rfl ?_ | refine ER.add (kd := .i64) rfl rfl rfl rfl (i64_in (by omega) (by omega)) ?_ | refine ER.load1 rfl rfl rfl (by assumption) ?_))
      refine EK.sub ?_ (again (k + c.n) _ _ (by omega) ⟨rfl, e5, w5, a5, by rw [Nat.add_mod_right]; exact hkn, by omega, _, next _ a5 w5 (by rw [Bool.or_false] at o5 ⊢; exact o5)⟩)
      exact ⟨rfl, rfl, rfl, rfl, rfl, rfl, rfl, rfl, rfl, trivial⟩
    · refine EA.tMove 8 rfl (by kernel_rfl) rfl rfl rfl rfl hZ ?_
      refine EA.takeNo 9 rfl (by kernel_rfl) rfl rfl rfl hZ ?_
      refine EA.takeNo 10 rfl (by kernel_rfl) rfl rfl rfl hZ ?_
      refine EA.takeNo 11 rfl (by kernel_rfl) rfl rfl rfl hZ ?_
      refine EA.takeNo 12 rfl (by kernel_rfl) rfl rfl rfl hZ ?_
      refine EA.tPickT 13 rfl (by kernel_rfl) rfl rfl rfl rfl rfl hZ ?_
      refine EA.tIdxS 14 rfl (by kernel_rfl) rfl rfl rfl rfl rfl (by omega) (by omega) hZ ?_
      refine EA.onlyH 15 rfl (by kernel_rfl) rfl rfl rfl (.inr rfl) fun ρ hρ => ⟨fun v h5 δ5 => h5 = h3 /\ δ5.d = δ.d /\ δ5.g.wg = δ.g.wg /\ Idle cL i δ5.g /\ Own i c (u1 (fun q => decide (q < k)) k true) (u1 (fun q => decide (q < k)) k true) 0 (rs || true) (2 * (c.adds.length - k) + 4 - 1 - 1) 0 true δ5.g.y, yields_storeA cL_ok (hρ _ _ rfl) (hρ _ _ rfl) (by simp [OneCell]) a3 fun γ5 hR a5 j5 => ?_, ?_⟩
      · have o5 := o3.rel i0 hR.toRo.lrel
        obtain ⟨f1, f2, f3⟩ := own_r o5 j5 i0 hi
        exact ⟨_, _, _, f1, f2, f3, mv_r o5 j5 i0 _, fun γ6 y6 w6 a6 => ⟨rfl, (e3.trans e2).trans e1, ((w6.trans w3).trans w2).trans w1, a6, by rw [y6]; exact o5.setR _⟩⟩
      rintro v h5 ⟨d5, γ5⟩ ⟨rfl, e5, w5, a5, o5⟩
      simp only at e5 w5 a5 o5
      refine ⟨.inr hZ, EA.done (by kernel_rfl) ?_⟩
      (repeat (first | refine EK.region ?_ | refine ER.done ?_ | refine EK.inBlock ?_ | refine ER.move rfl rfl rfl ?_ | refine ER.assign rfl rfl rfl ?_ | refine ER.add (kd := .i64) rfl rfl rfl rfl (i64_in (by omega) (by omega)) ?_ | refine ER.load1 rfl rfl rfl (by assumption) ?_))
      refine EK.sub ?_ (again (k + c.n) _ _ (by omega) ⟨rfl, e5, w5, a5, by rw [Nat.add_mod_right]; exact hkn, by omega, _, next _ a5 w5 (by rw [Bool.or_true] at o5 ⊢; exact o5)⟩)
      exact ⟨rfl, rfl, rfl, rfl, rfl, rfl, rfl, rfl, rfl, trivial⟩
  · have mA := m.A
    (repeat (first | refine EK.seq ?_ | refine EK.region ?_ | refine ER.done ?_ | refine EK.block ?_ | refine ER.move rfl rfl rfl ?_ | refine ER.cmpF rfl rfl rfl rfl rfl (by first | (dsimp only [cmpP]; omega) | exact rfl | exact Int.le_refl _) ?_ | refine ER.len1 rfl rfl rfl ?_ | refine EK.condF rfl ?_ | refine EK.exit rfl ?_ | refine ER.load1 rfl rfl rfl (by assumption) ?_))
    have o1' := o1.less (b := 4) (by omega)
    refine EK.loopInv (δ := ⟨d1, γ1⟩) (fun _ : Nat => [(0, .int .i64 ((i - 1 : Nat) : Int)), (6, .pointer (some ⟨q.vT, 0, none⟩)), (7, .pointer (some ⟨q.vH, 0, none⟩))])
      (fun g h2 δ2 => h2 = h' /\ δ2.d = δ.d /\ δ2.g.wg = δ.g.wg /\ Idle cL i δ2.g /\ g <= 2 /\ Own i c (fun q => decide (q < k)) (fun q => decide (q < k)) g rs (4 - g) g rs δ2.g.y) (fun g => 3 - g) 0 ⟨rfl, rfl, rfl, trivial⟩ ⟨rfl, e1, w1, a1, Nat.zero_le _, o1'⟩ ?_
    clear o1 o1' a1 w1 e1 again
    have fin : ∀ q, q < c.adds.length -> q % c.n = i - 1 -> (fun q => decide (q < k)) q = true /\ (fun q => decide (q < k)) q = true := fun q hq _ => by
      have : decide (q < k) = true := decide_eq_true (Nat.lt_of_lt_of_le hq hge)
      exact ⟨this, this⟩
    have mT := m.T
    have mH := m.H
    rintro g h2 ⟨d2, γ2⟩ ⟨rfl, e2, w2, a2, hg, o2⟩ again
    simp only at e2 w2 a2 o2
    (repeat (first | refine EK.seq ?_ | refine EK.region ?_ | refine ER.load1 rfl rfl rfl (by assumption) ?_))
    refine ER.callR rfl rfl rfl rfl rfl (take_w a2 hi o2 (by omega) (by omega) htk m.T1) ?_
    rintro v h3 ⟨d3, γ3⟩ ⟨rfl, e3, w3, a3, ⟨rfl, o3⟩ | ⟨rfl, o3⟩⟩
    · simp only at e3 w3 a3 o3
      (repeat (first | refine EK.seq ?_ | refine EK.region ?_ | refine ER.done ?_ | refine EK.skip ?_ | refine EK.block ?_ | refine ER.move rfl rfl rfl ?_ | refine ER.indexSl rfl rfl rfl rfl (by omega) (by omega) ?_ | refine EK.condT rfl ?_ | refine ER.load1 rfl rfl rfl (by assumption) ?_))
      refine ER.loadA cL_ok rfl rfl rfl a3 fun γ4 r4 a4 j4 => ?_
      have o4 := o3.rel i0 r4.toRo.lrel
      obtain ⟨f1, f2, f3⟩ := own_h o4 i0 hi
      refine ⟨_, _, _, f1, f2, f3, ?_⟩
      clear f1 f2 f3
      (repeat (first | refine ER.add (kd := .i64) rfl rfl rfl rfl (i64_in (by omega) (by omega)) ?_ | refine ER.indexSl rfl rfl rfl rfl (by omega) (by omega) ?_))
      refine ER.storeA cL_ok rfl rfl rfl (by simp [OneCell]) a4 fun γ5 r5 a5 j5 => ?_
      have o5 := o4.rel i0 r5.toRo.lrel
      obtain ⟨f1, f2, f3⟩ := own_h o5 i0 hi
      refine ⟨_, _, _, f1, f2, f3, mv_h o5 j5 i0 _, fun γ6 y6 w6 a6 => ?_⟩
      have o6 := o5.setH ((g : Int) + 1)
      rw [<- y6] at o6
      clear f1 f2 f3
      (repeat (first | refine EK.seq ?_ | refine EK.region ?_ | refine ER.done ?_ | refine ER.move rfl rfl rfl ?_ | refine ER.indexSl rfl rfl rfl rfl (by omega) (by omega) ?_ | refine ER.load1 rfl rfl rfl (by assumption) ?_))
      refine ER.loadA cL_ok rfl rfl rfl a6 fun γ7 r7 a7 j7 => ?_
      have o7 := o6.rel i0 r7.toRo.lrel
      obtain ⟨f1, f2, f3⟩ := own_h o7 i0 hi
      refine ⟨_, _, _, f1, f2, f3, ?_⟩
      clear f1 f2 f3
      have w7 : γ7.wg = δ.g.wg := (((r7.wg.trans w6).trans r4.wg).trans w3).trans w2
      obtain rfl | rfl | rfl : g = 0 \/ g = 1 \/ g = 2 := by omega
      · (repeat refine ER.rem (kd := .i64) rfl rfl rfl rfl (by decide) rfl ?_)
        refine ER.cmpF rfl rfl rfl rfl rfl (by dsimp only [cmpP]; decide) ?_
        (repeat (first | refine ER.done ?_ | refine EK.skip ?_ | refine EK.inBlock ?_ | refine ER.move rfl rfl rfl ?_ | refine ER.no rfl rfl ?_ | refine ER.pickF rfl rfl rfl rfl ?_ | refine EK.condF rfl ?_))
        refine EK.sub ?_ (again 1 _ _ (by omega) ⟨rfl, e3.trans e2, w7, a7, by omega, o7⟩)
        exact ⟨rfl, rfl, rfl, trivial⟩
      · (repeat refine ER.rem (kd := .i64) rfl rfl rfl rfl (by decide) rfl ?_)
        refine ER.cmpF rfl rfl rfl rfl rfl (by dsimp only [cmpP]; decide) ?_
        (repeat (first | refine ER.done ?_ | refine EK.skip ?_ | refine EK.inBlock ?_ | refine ER.move rfl rfl rfl ?_ | refine ER.no rfl rfl ?_ | refine ER.pickF rfl rfl rfl rfl ?_ | refine EK.condF rfl ?_))
        refine EK.sub ?_ (again 2 _ _ (by omega) ⟨rfl, e3.trans e2, w7, a7, by omega, o7⟩)
        exact ⟨rfl, rfl, rfl, trivial⟩
      · (repeat (first | refine ER.move rfl rfl rfl ?_ | refine ER.cmpT rfl rfl rfl rfl rfl (by first | (dsimp only [cmpP]; omega) | exact rfl | exact Int.le_refl _) ?_ | refine ER.rem (kd := .i64) rfl rfl rfl rfl (by decide) rfl ?_ | refine ER.load1 rfl rfl rfl (by assumption) ?_))
        refine ER.callR rfl rfl rfl rfl rfl (back_w a7 hi o7 (by omega) (by omega) htk m.T1 m.T0) ?_
        rintro v h8 ⟨d8, γ8⟩ ⟨rfl, e8, w8, a8, rfl, o8⟩
        simp only at e8 w8 a8 o8
        (repeat (first | refine EK.seq ?_ | refine EK.region ?_ | refine ER.done ?_ | refine ER.move rfl rfl rfl ?_ | refine ER.pickT rfl rfl rfl rfl ?_ | refine ER.cmpT rfl rfl rfl rfl rfl (by first | (dsimp only [cmpP]; omega) | exact rfl | exact Int.le_refl _) ?_ | refine ER.indexSl rfl rfl rfl rfl (by omega) (by omega) ?_ | refine EK.condT rfl ?_ | refine ER.load1 rfl rfl rfl (by assumption) ?_))
        refine ER.loadA cL_ok rfl rfl rfl a8 fun γ9 r9 a9 j9 => ?_
        have o9 := o8.rel i0 r9.toRo.lrel
        obtain ⟨f1, f2, f3⟩ := own_h o9 i0 hi
        refine ⟨_, _, _, f1, f2, f3, ?_⟩
        clear f1 f2 f3
        (repeat (first | refine ER.sub' (kd := .i64) rfl rfl rfl rfl (i64_in (by omega) (by omega)) ?_ | refine ER.indexSl rfl rfl rfl rfl (by omega) (by omega) ?_))
        refine ER.storeA cL_ok rfl rfl rfl (by simp [OneCell]) a9 fun γx rx ax jx => ?_
        have ox := o9.rel i0 rx.toRo.lrel
        obtain ⟨f1, f2, f3⟩ := own_h ox i0 hi
        refine ⟨_, _, _, f1, f2, f3, mv_h ox jx i0 _, fun γz yz wz az => ?_⟩
        have oz := ox.setH (((2 : Nat) : Int) + 1 - 1)
        rw [<- yz] at oz
        clear f1 f2 f3
        (repeat (first | refine ER.done ?_ | refine EK.exit rfl ?_))
        exact EK.done (EU.ret0 rfl ⟨rfl, (e8.trans e3).trans e2, ((wz.trans r9.wg).trans w8).trans w7, az, _, _, _, _, _, fin, oz⟩)
    · simp only at e3 w3 a3 o3
      (repeat (first | refine ER.done ?_ | refine EK.condF rfl ?_ | refine EK.exit rfl ?_))
      exact EK.done (EU.ret0 rfl ⟨rfl, e3.trans e2, w3.trans w2, a3, _, _, _, _, _, fin, o3⟩)
end
end
section
open Go Go.TJ Go.Proofs
variable [Dm]
def Kq.caps (q : Kq) : Array Value := #[.pointer (some ⟨q.vA, 0, none⟩), .pointer (some ⟨q.vN, 0, none⟩), .pointer (some ⟨q.vC, 0, none⟩), .pointer (some ⟨q.vP, 0, none⟩), .pointer (some ⟨q.vR, 0, none⟩), .pointer (some ⟨q.vT, 0, none⟩), .pointer (some ⟨q.vH, 0, none⟩)]
structure Kro (c : Cc) (q : Kq) : Prop where
  A : c.ro q.vA
  Ai : 0 < c.adds.length -> ∀ a, q.aS = some a -> c.ro a.block
  N : c.ro q.vN
  C : c.ro q.vC
  Cb : c.ro q.cb
  Cs : c.ro q.sb
  P : c.ro q.vP
  Pk : c.ro q.pk
  R : c.ro q.vR
  T : c.ro q.vT
  Tb : c.ro q.tb
  H : c.ro q.vH
theorem Km.move {c : Cc} {q : Kq} {h h' : Hp} (m : Km c q h) (r : Kro c q) (hm : ∀ b o v, c.ro b -> hcell h ⟨b, o, none⟩ = some v -> hcell h' ⟨b, o, none⟩ = some v) : Km c q h' where
  A := hm _ _ _ r.A m.A
  Ai k hk := by
    obtain ⟨b, o, h1, h2⟩ := m.Ai k hk
    exact ⟨b, o, h1, hm _ _ _ (r.Ai (by omega) _ h1) h2⟩
  N := hm _ _ _ r.N m.N
  C := hm _ _ _ r.C m.C
  Cb := hm _ _ _ r.Cb m.Cb
  Cs j hj := ⟨hm _ _ _ r.Cs (m.Cs j hj).1, (m.Cs j hj).2⟩
  S0 := m.S0
  S1 := m.S1
  P := hm _ _ _ r.P m.P
  Pk := hm _ _ _ r.Pk m.Pk
  R := hm _ _ _ r.R m.R
  T := hm _ _ _ r.T m.T
  T0 := hm _ _ _ r.Tb m.T0
  T1 := hm _ _ _ r.Tb m.T1
  H := hm _ _ _ r.H m.H
set_option maxHeartbeats 4000000 in
theorem kbody_ok {h : Hp} {c : Cc} {q : Kq} {y₀ : Cy} {fB : Nat} {ib : Nat -> Nat} (hc : y₀.c = c) (hn : c.n <= 64) (hlen : c.adds.length <= 400) (htk : c.tk <= 1000) (m : Km c q h) (r : Kro c q) (hfb : c.fb = h.size) (hF : hcell h ⟨fB, 0, none⟩ = some (.func (.func 31) #[] q.caps)) (hFr : c.ro fB) (hI : ∀ k, k < c.n -> hcell h ⟨ib k, 0, none⟩ = some (.int .i64 k) /\ c.ro (ib k))
    (ho : ∀ k, k < c.n -> Own (k + 1) c (fun _ => false) (fun _ => false) 0 false (2 * c.adds.length + 4) 0 false y₀) :
    BodyOk cL y₀ h c.n (fun _ => 70) (fun k => #[.pointer (some ⟨fB, 0, none⟩), .pointer (some ⟨ib k, 0, none⟩)]) := by
  intro k hk h' γ₂ ti _ hti hro hrel hJ hA hwg
  have hm : ∀ b o v, c.ro b -> hcell h ⟨b, o, none⟩ = some v -> hcell h' ⟨b, o, none⟩ = some v := fun b o v hb hv => by
    obtain ⟨cs, e, f, h1, h3, h4⟩ := hcell_some hv
    exact hcell_of (hro b _ (by show y₀.c.ro b; rw [hc]; exact hb) (frH_old h1)) h4
  have m' := m.move r hm
  have oo := (ho k hk).rel (Nat.succ_pos k) hrel
  have kF := hm _ _ _ hFr hF
  have kI := hm _ _ _ (hI k hk).2 (hI k hk).1
  clear hro hm
  refine CallW.start (n := 7) rfl rfl ?_
  (repeat (first | refine EK.seq ?_ | refine EK.region ?_ | refine ER.done ?_ | refine EK.skip ?_ | refine EK.block ?_ | refine EK.inBlock ?_ | refine ER.move rfl rfl rfl ?_ | refine ER.assign rfl rfl rfl ?_ | refine ER.nilCheck rfl rfl rfl ?_ | refine ER.fieldAddr rfl rfl rfl ?_ | refine ER.load1 rfl rfl rfl (hcell_of (by assumption) rfl) ?_ | refine ER.no rfl rfl ?_ | refine ER.noU rfl ?_ | refine ER.eqV rfl rfl rfl rfl rfl ?_ | refine ER.neqV rfl rfl rfl rfl rfl ?_ | refine ER.eqA rfl rfl rfl rfl rfl ?_ | refine ER.neqA rfl rfl rfl rfl rfl ?_ | refine ER.notB rfl rfl rfl ?_ | refine ER.pickT rfl rfl rfl rfl ?_ | refine ER.pickF rfl rfl rfl rfl ?_ | refine ER.extract rfl rfl rfl rfl ?_ | refine ER.cmpT rfl rfl rfl rfl rfl (by first | (dsimp only [cmpP]; omega) | exact rfl | exact Int.le_refl _) ?_ | refine ER.cmpF rfl rfl rfl rfl rfl (by first | (dsimp only [cmpP]; omega) | exact rfl | exact Int.le_refl _) ?_ | refine ER.boxA rfl rfl rfl ?_ | refine ER.box rfl rfl rfl ?_ | refine ER.allocA rfl rfl ?_ | refine ER.alloc rfl rfl ?_ | refine ER.add (kd := .i64) rfl rfl rfl rfl (i64_in (by omega) (by omega)) ?_ | refine ER.sub' (kd := .i64) rfl rfl rfl rfl (i64_in (by omega) (by omega)) ?_ | refine ER.mul (kd := .i64) rfl rfl rfl rfl (i64_in (by omega) (by omega)) ?_ | refine ER.rem (kd := .i64) rfl rfl rfl rfl (by decide) rfl ?_ | refine ER.indexArr rfl rfl rfl rfl (by omega) (by omega) ?_ | refine ER.len1 rfl rfl rfl ?_ | refine ER.indexSl rfl rfl rfl rfl (by omega) (by omega) ?_ | refine EK.condT rfl ?_ | refine EK.condF rfl ?_ | refine EK.ret ?_ | refine EK.exit rfl ?_ | refine ER.load1 rfl rfl rfl (by assumption) ?_ | refine EK.scope ?_ | refine EK.inScope ?_ | refine EK.label ?_))
  refine ER.callR rfl rfl rfl rfl rfl (worker_ok (δ := ⟨0, γ₂⟩) (i := k + 1) hA hk hn hlen htk m' oo) ?_
  rintro v h2 ⟨d2, γ⟩ ⟨rfl, e2, w2, a2, fa, fr, hd, rs, bd, hall, o2⟩
  simp only at e2 w2 a2 o2
  refine ER.done (EK.done (EU.ret0 rfl ⟨e2, w2.trans hwg, a2, rfl, rfl, fun y₁ q1 j1 => ?_⟩))
  have o3 := o2.rel (Nat.succ_pos k) q1
  have e1 : k + 1 - 1 = k := rfl
  have f3 := arr_f j1 (w := k) (by rw [o3.cc]; exact hk)
  have f4 := fall_move (i := k + 1) j1 (Nat.succ_pos k) (by rw [o3.cc]; exact hk)
  rw [o3.cc, hfb] at f3 f4
  refine ⟨_, _, y₁, f3.1, f3.2.2, ⟨.inr (.inr (by rw [o3.cc, hfb])), Nat.succ_pos k, rfl⟩, f4, fun y₃ q3 j3 => ?_⟩
  have o4 := o3.rel (Nat.succ_pos k) q3
  refine fun _ => ⟨fun x hx hxk => ?_, o4.ha.trans o4.hd.symm, o4.ra.trans o4.rs.symm⟩
  rw [o4.cc] at hx hxk
  rw [o4.fa x hxk, o4.fr x hxk]
  exact hall x hx hxk
end
section
open Go Go.TJ Go.Proofs
variable [Dm]
abbrev ptr (b : Nat) : Value := .pointer (some ⟨b, 0, none⟩)
abbrev nilS : Value := .slice none 0 0
instance : Mixed Try.prog := ⟨by kernel_rfl⟩
end
section
open Go Go.TJ Go.Proofs
variable [Dm]
structure RowI (h0 : Hp) (E : Mem Nat) (T : Nat) (tT tE : TypeId) (c0 : Array Value) (q : Nat) (h : Hp) (M : Mem Nat) (i : Nat) (s : Value) : Prop where
  rep : Rep h M
  upd : Upd (fun _ => False) h0 h
  above : ∀ k, M.ok k -> h0.size <= M.B k
  top : M.ok 0 /\ M.O 0 = .cells (c0.setIfInBounds q s) tT (0, 0)
  topB : M.B 0 = T
  ext : ∀ k, k = 2 \/ k = 3 -> (M.ok k ↔ E.ok k) /\ M.B k = E.B k /\ M.O k = E.O k
  sl : M.Sl 1 s tE 1 i ((List.range i).map fun j => ptr (M.B (4 + j)))
  cells : ∀ j, j < i -> M.ok (4 + j) /\ M.O (4 + j) = cellO 0
  rest : ∀ j, i <= j -> ¬ M.ok (4 + j)
theorem RowI.step {h0 : Hp} {E : Mem Nat} {T : Nat} {tT tE : TypeId} {c0 : Array Value} {q : Nat} {h : Hp} {M : Mem Nat} {i : Nat} {s s' : Value} {lit : Obj} {h5 : Hp} (x : RowI h0 E T tT tE c0 q h M i s)
    (hs : SliceO h5 s' tE 1 (i + 1) (((List.range i).map fun j => ptr (M.B (4 + j))) ++ [ptr h.size])) (u : Upd (fun b => blk s = some b) ((h.push (cellO 0)).push lit) h5) (hb : ∀ b, blk s' = some b -> blk s = some b \/ b = ((h.push (cellO 0)).push lit).size) :
    (∀ b, blk s = some b -> b ≠ T) /\ h5[T]? = some (.cells (c0.setIfInBounds q s) tT (0, 0)) /\ ∃ M', RowI h0 E T tT tE c0 q (hset h5 ⟨T, q, none⟩ s') M' (i + 1) s' := by
  have r1 := x.rep.put (4 + i) (cellO 0)
  have r2 := r1.upd0 (Upd.push _ lit)
  have sl1 := (x.sl.put (j := 4 + i) (by omega) h.size (cellO 0))
  obtain ⟨b, o, r3, sl3, hb', hlt⟩ := r2.app sl1 hs u hb
  have hTs : ∀ b, blk s = some b -> b ≠ T := fun b hb e => by
    obtain ⟨hk, e'⟩ := x.sl.blk hb
    have := x.rep.inj 1 0 hk x.top.1 (by rw [x.topB, <- e', e])
    cases this
  have t5 : h5[T]? = some (.cells (c0.setIfInBounds q s) tT (0, 0)) := u.get (get_push _ (get_push _ (x.topB ▸ x.rep.get x.top.1 x.top.2))) (fun y => hTs _ y rfl)
  refine ⟨hTs, t5, ?_⟩
  have hsz : h.size <= ((h.push (cellO 0)).push lit).size := by simp; omega
  have hab : h0.size <= b := by
    rcases hb' with ⟨hk, e⟩ | y
    · have hk' : M.ok 1 := by
        rcases hk with y | y
        · omega
        · exact y
      have := x.above 1 hk'
      rw [e]
      show h0.size <= ut M.B (4 + i) h.size 1
      rw [ut_ne _ _ (by omega)]
      exact this
    · have := x.upd.size; omega
  have okT : ((M.put (4 + i) h.size (cellO 0)).put 1 b o).ok 0 := .inr (.inr x.top.1)
  have oT : ((M.put (4 + i) h.size (cellO 0)).put 1 b o).O 0 = .cells (c0.setIfInBounds q s) tT (0, 0) := by
    show ut (ut M.O (4 + i) (cellO 0)) 1 o 0 = _
    rw [ut_ne _ _ (by omega), ut_ne _ _ (by omega)]; exact x.top.2
  have bT : ((M.put (4 + i) h.size (cellO 0)).put 1 b o).B 0 = T := by
    show ut (ut M.B (4 + i) h.size) 1 b 0 = _
    rw [ut_ne _ _ (by omega), ut_ne _ _ (by omega)]; exact x.topB
  have r4 := r3.hset okT oT q s'
  rw [bT] at r4
  have hge : ∀ b, blk s = some b -> h0.size <= b := fun b hb => by
    obtain ⟨hk, e⟩ := x.sl.blk hb
    rw [e]; exact x.above _ hk
  have hT : h0.size <= T := x.topB ▸ x.above 0 x.top.1
  have e1 : (List.range (i + 1)).map (fun j => ptr (((M.put (4 + i) h.size (cellO 0)).put 1 b o).B (4 + j))) = ((List.range i).map fun j => ptr (M.B (4 + j))) ++ [ptr h.size] := by
    rw [List.range_succ, List.map_append]
    congr 1
    · refine List.map_congr_left fun j hj => ?_
      have hj := List.mem_range.mp hj
      show ptr (ut (ut M.B (4 + i) h.size) 1 b (4 + j)) = _
      rw [ut_ne _ _ (by omega), ut_ne _ _ (by omega)]
    · show [ptr (ut (ut M.B (4 + i) h.size) 1 b (4 + i))] = _
      rw [ut_ne _ _ (by omega), ut_same]
  refine ⟨_, r4, ((x.upd.trans ((Upd.push _ _).trans (Upd.push _ _))).over u hge).over (Upd.hset (T := fun b => b = T) _ _ _ rfl) (fun b hb => by omega), fun k hk => ?_, ⟨okT, ?_⟩, bT, fun k hk => ?_, ?_, fun j hj => ?_, fun j hj => ?_⟩
  · show h0.size <= ut (ut M.B (4 + i) h.size) 1 b k
    by_cases k1 : k = 1
    · subst k1; rw [ut_same]; exact hab
    · by_cases k2 : k = 4 + i
      · subst k2; rw [ut_ne _ _ k1, ut_same]; exact x.upd.size
      · rw [ut_ne _ _ k1, ut_ne _ _ k2]
        rcases hk with y | y | y
        · exact absurd y k1
        · exact absurd y k2
        · exact x.above k y
  · rw [Array.setIfInBounds_setIfInBounds]
    simp [Mem.set, ut]
  · have k0 : k ≠ 0 := by omega
    have k1 : k ≠ 1 := by omega
    have k2 : k ≠ 4 + i := by omega
    obtain ⟨a, b, c⟩ := x.ext k hk
    refine ⟨⟨fun y => a.1 ?_, fun y => .inr (.inr (a.2 y))⟩, ?_, ?_⟩
    · rcases y with y | y | y
      · exact absurd y k1
      · exact absurd y k2
      · exact y
    · show ut (ut M.B (4 + i) _) 1 _ k = _
      rw [ut_ne _ _ k1, ut_ne _ _ k2]; exact b
    · show ut (ut (ut M.O (4 + i) (cellO 0)) 1 o) 0 _ k = _
      rw [ut_ne _ _ k0, ut_ne _ _ k1, ut_ne _ _ k2]; exact c
  · show (Mem.set _ 0 _).Sl 1 s' tE 1 (i + 1) ((List.range (i + 1)).map (fun j => ptr (((M.put (4 + i) h.size (cellO 0)).put 1 b o).B (4 + j))))
    rw [e1]
    exact sl3.set (by omega) _
  · refine ⟨?_, ?_⟩
    · by_cases hji : j = i
      · subst hji; exact .inr (.inl rfl)
      · exact .inr (.inr (x.cells j (by omega)).1)
    · show ut (ut (ut M.O (4 + i) (cellO 0)) 1 o) 0 _ (4 + j) = _
      rw [ut_ne _ _ (by omega), ut_ne _ _ (by omega)]
      by_cases hji : j = i
      · subst hji; rw [ut_same]
      · rw [ut_ne _ _ (by omega)]; exact (x.cells j (by omega)).2
  · rintro (y | y | y)
    · omega
    · omega
    · exact x.rest j (by omega) y
theorem RowI.reads {h0 : Hp} {E : Mem Nat} {T : Nat} {tT tE : TypeId} {c0 : Array Value} {q : Nat} {h : Hp} {M : Mem Nat} {i : Nat} {s : Value} (x : RowI h0 E T tT tE c0 q h M i s) (hq : q < c0.size) : hcell h ⟨T, q, none⟩ = some s :=
  hcell_of (x.topB ▸ x.rep.get x.top.1 x.top.2) (by simp [hq])
end
section
open Go Go.TJ Go.Proofs
variable [Dm]
variable {Y : Type} {L : Law Y}
theorem freed_mu {γ : Gf Y} {H : Hp} (hI : InvF TT L γ H) (hd : AllDn γ) {b : Nat} (hb : b ∈ L.cls γ.y) : H[b]? = some (cellO (L.val γ.y b)) := by
  have hc : ∀ j, j < γ.num -> (γ.ph j).c = 0 := fun j hj => Classical.byContradiction fun h => by
    obtain ⟨j0, _, hw⟩ := hI.j.wh j hj h
    have := (hd j j0 hj).1
    omega
  have hz : ∀ x, x ≠ 0 -> ct γ.ph γ.num b x = 0 := fun x hx => ct_zero fun j hj _ e => hx (by rw [<- e, hc j hj])
  obtain ⟨i1, i2, i3, i4, i5, i6, i7⟩ := hI.j.mi b hb
  rw [hz 6 (by omega)] at i4
  rw [hz 9 (by omega), hz 5 (by omega), hz 3 (by omega), hz 8 (by omega), hz 2 (by omega), hz 4 (by omega)] at i5
  rw [hz 2 (by omega), hz 8 (by omega), hz 3 (by omega), hz 4 (by omega), hz 5 (by omega), hz 9 (by omega)] at i6
  have hc := hI.cell b hb
  generalize γ.mu b = m at i1 i2 i3 i4 i5 i6 i7 hc
  obtain ⟨mb, mk, ms, mn, mz⟩ := m
  simp only at i1 i2 i3 i4 i5 i6
  obtain ⟨rfl, rfl, rfl, rfl, rfl⟩ : mb = 0 /\ mk = 0 /\ ms = 0 /\ mn = 0 /\ mz = 0 := by omega
  exact hc
theorem freed_out {y₀ : Y} {h h' : Hp} {n : Nat} {γ' : Gf Y} (x : Freed L y₀ h n h' γ') (hW : h.size + 2 ∉ L.cls y₀ /\ L.arrT y₀ (h.size + 2) = none) {tF : TypeId} (hF : L.arrT y₀ h.size = some tF) :
    ∃ y₁, LRel L 0 y₀ y₁ /\ L.J y₁ /\ (∀ j, 0 < j -> j <= n -> ∃ hf, L.fin y₁ j hf) /\ (∀ b o, h[b]? = some o -> o ≠ dum -> b ∉ L.cls y₀ -> L.arrT y₀ b = none -> h'[b]? = some o) /\ (∀ b, b ∈ L.cls y₀ -> h'[b]? = some (cellO (L.val y₁ b))) /\ (∀ b t, L.arrT y₀ b = some t -> h'[b]? = some (.cells (L.arr y₁ b) t (0, 0))) /\ h.size < h'.size := by
  obtain ⟨γ₁, H, h1, h2, h3, h4, h5, h6, rfl⟩ := x.out
  have hlt : ∀ b o, h[b]? = some o -> b < h.size := fun b o hb => (Array.getElem?_eq_some_iff.1 hb).1
  have harr : ∀ b t, L.arrT y₀ b = some t -> (H.setIfInBounds (h.size + 2) dum)[b]? = some (.cells (L.arr γ₁.y b) t (0, 0)) := fun b t hb => by
    rw [Array.getElem?_setIfInBounds_ne (fun e => by rw [<- e, hW.2] at hb; cases hb)]
    rw [<- h1.stat.arrT] at hb
    exact h4.arr b t hb
  refine ⟨γ₁.y, h1, h4.j.law, fun j j0 hj => ?_, fun b o hb hd hc ha => ?_, fun b hb => ?_, harr, (Array.getElem?_eq_some_iff.1 (harr _ _ hF)).1⟩
  · obtain ⟨_, hs⟩ := h3 j j0 (by omega)
    obtain ⟨hf, hf'⟩ := Option.isSome_iff_exists.1 hs
    exact ⟨hf, h4.j.fin j hf j0 (by omega) hf'⟩
  · have := hlt b o hb
    rw [Array.getElem?_setIfInBounds_ne (by omega)]
    exact h5 b o (frH_old hb) hd hc ha (by omega)
  · rw [Array.getElem?_setIfInBounds_ne (fun e => by subst e; exact hW.1 hb)]
    have hb' : b ∈ L.cls γ₁.y := by rw [h1.stat.cls]; exact hb
    exact freed_mu h4 h3 hb'
theorem sl_ne {h : Hp} {s : Value} {e sz n : Nat} {cells : List Value} (x : SliceO h s e sz n cells) {R : Nat} {c : Array Value} {e' : TypeId} {f : Nat × Nat} (hR : h[R]? = some (.cells c e' f)) (hne : e ≠ e') : ¬ blk s = some R := by
  intro hb
  obtain ⟨_, ⟨rfl, _⟩ | ⟨b', cap, rest, rfl, h1, h2, h3⟩⟩ := x
  · cases hb
  · cases hb
    rw [h3] at hR
    injection hR with hR
    injection hR with _ hR _
    exact hne hR
set_option maxHeartbeats 8000000 in
theorem all_ok {n : Nat} {fb : FuncId} {caps : Array Value} {h : Hp} {γ₀ : Gf Y} {R : Value -> Hp -> Ix (Gf Y) -> Prop} (hst : γ₀.st = 0) (hnum : γ₀.num = 1) (hn0 : 0 < n) (hn : n <= 64)
    (hgo : ∀ (h' : Hp) (B cap fB : Nat) (ib : Nat -> Nat), Upd (fun _ => False) h h' -> h.size <= fB -> h'[fB]? = some (.cells #[.func (.func fb) #[] caps] 34 (0, 0)) -> (∀ k, k < n -> h.size <= ib k /\ h'[ib k]? = some (.cells #[.int .i64 k] 3 (0, 0))) -> h.size <= B -> (∀ k, k < n -> hcell h' ⟨B, k, none⟩ = some (.func (.func 70) #[] #[.pointer (some ⟨fB, 0, none⟩), .pointer (some ⟨ib k, 0, none⟩)])) ->
      CallW Try.prog true (SitM Try.prog (XF TT L)) 49 #[.slice (some ⟨B, 0, none⟩) n cap] h' ⟨0, γ₀⟩ (Ret R)) :
    CallW Try.prog true (SitM Try.prog (XF TT L)) 30 #[.int .i64 n, .func (.func fb) #[] caps] h ⟨0, γ₀⟩ (Ret fun _ h' δ' => ∃ v, R v h' δ') := by
  have hlo : (SitM Try.prog (XF TT L)).lone γ₀ := ⟨by omega, fun j j0 hj => by have hj' : j < γ₀.num := hj; omega⟩
  have hsl : ∀ a, ¬ (SitM Try.prog (XF TT L)).still γ₀ a := fun a z => by have : γ₀.st = 1 := z.1; omega
  refine CallW.start (n := 18) rfl rfl ?_
  (repeat (first | refine EK.seq ?_ | refine EK.region ?_ | refine ER.done ?_ | refine EK.skip ?_ | refine EK.block ?_ | refine EK.inBlock ?_ | refine ER.move rfl rfl rfl ?_ | refine ER.assign rfl rfl rfl ?_ | refine ER.nilCheck rfl rfl rfl ?_ | refine ER.fieldAddr rfl rfl rfl ?_ | refine ER.load1 rfl rfl rfl (hcell_of (by assumption) rfl) ?_ | refine ER.no rfl rfl ?_ | refine ER.noU rfl ?_ | refine ER.eqV rfl rfl rfl rfl rfl ?_ | refine ER.neqV rfl rfl rfl rfl rfl ?_ | refine ER.eqA rfl rfl rfl rfl rfl ?_ | refine ER.neqA rfl rfl rfl rfl rfl ?_ | refine ER.notB rfl rfl rfl ?_ | refine ER.pickT rfl rfl rfl rfl ?_ | refine ER.pickF rfl rfl rfl rfl ?_ | refine ER.extract rfl rfl rfl rfl ?_ | refine ER.cmpT rfl rfl rfl rfl rfl (by first | (dsimp only [cmpP]; omega) | exact rfl | exact Int.le_refl _) ?_ | refine ER.cmpF rfl rfl rfl rfl rfl (by first | (dsimp only [cmpP]; omega) | exact rfl | exact Int.le_refl _) ?_ | refine ER.boxA rfl rfl rfl ?_ | refine ER.box rfl rfl rfl ?_ | refine ER.allocA rfl rfl ?_ | refine ER.alloc rfl rfl ?_ | refine ER.add (kd := .i64) rfl rfl rfl rfl (i64_in (by omega) (by omega)) ?_ | refine ER.sub' (kd := .i64) rfl rfl rfl rfl (i64_in (by omega) (by omega)) ?_ | refine ER.mul (kd := .i64) rfl rfl rfl rfl (i64_in (by omega) (by omega)) ?_ | refine ER.rem (kd := .i64) rfl rfl rfl rfl (by decide) rfl ?_ | refine ER.indexArr rfl rfl rfl rfl (by omega) (by omega) ?_ | refine ER.len1 rfl rfl rfl ?_ | refine ER.indexSl rfl rfl rfl rfl (by omega) (by omega) ?_ | refine EK.condT rfl ?_ | refine EK.condF rfl ?_ | refine EK.ret ?_ | refine EK.exit rfl ?_))
  obtain ⟨u1, s1, k0, k1⟩ := push2 h (.cells #[.func (.func fb) #[] caps] 34 (0, 0)) (.cells #[.int .i64 0] 3 (0, 0))
  refine ER.storeNew rfl rfl rfl rfl (by simp [OneCell]) (hsl _) ?_
  (repeat (first | refine EK.seq ?_ | refine EK.region ?_ | refine ER.done ?_ | refine EK.skip ?_ | refine EK.block ?_ | refine EK.inBlock ?_ | refine ER.move rfl rfl rfl ?_ | refine ER.assign rfl rfl rfl ?_ | refine ER.nilCheck rfl rfl rfl ?_ | refine ER.fieldAddr rfl rfl rfl ?_ | refine ER.load1 rfl rfl rfl (hcell_of (by assumption) rfl) ?_ | refine ER.no rfl rfl ?_ | refine ER.noU rfl ?_ | refine ER.eqV rfl rfl rfl rfl rfl ?_ | refine ER.neqV rfl rfl rfl rfl rfl ?_ | refine ER.eqA rfl rfl rfl rfl rfl ?_ | refine ER.neqA rfl rfl rfl rfl rfl ?_ | refine ER.notB rfl rfl rfl ?_ | refine ER.pickT rfl rfl rfl rfl ?_ | refine ER.pickF rfl rfl rfl rfl ?_ | refine ER.extract rfl rfl rfl rfl ?_ | refine ER.cmpT rfl rfl rfl rfl rfl (by first | (dsimp only [cmpP]; omega) | exact rfl | exact Int.le_refl _) ?_ | refine ER.cmpF rfl rfl rfl rfl rfl (by first | (dsimp only [cmpP]; omega) | exact rfl | exact Int.le_refl _) ?_ | refine ER.boxA rfl rfl rfl ?_ | refine ER.box rfl rfl rfl ?_ | refine ER.allocA rfl rfl ?_ | refine ER.alloc rfl rfl ?_ | refine ER.add (kd := .i64) rfl rfl rfl rfl (i64_in (by omega) (by omega)) ?_ | refine ER.sub' (kd := .i64) rfl rfl rfl rfl (i64_in (by omega) (by omega)) ?_ | refine ER.mul (kd := .i64) rfl rfl rfl rfl (i64_in (by omega) (by omega)) ?_ | refine ER.rem (kd := .i64) rfl rfl rfl rfl (by decide) rfl ?_ | refine ER.indexArr rfl rfl rfl rfl (by omega) (by omega) ?_ | refine ER.len1 rfl rfl rfl ?_ | refine ER.indexSl rfl rfl rfl rfl (by omega) (by omega) ?_ | refine EK.condT rfl ?_ | refine EK.condF rfl ?_ | refine EK.ret ?_ | refine EK.exit rfl ?_))
  refine EK.gen (fun h2 => Upd (fun _ => False) h h2 /\ h2[h.size]? = some (.cells #[.func (.func fb) #[] caps] 34 (0, 0)) /\ h2[h.size + 1]? = some (.cells #[.int .i64 0] 3 (0, 0))) ⟨u1, k0, k1⟩ ?_
  rintro h2 ⟨u1, k0, k1⟩
  clear s1
  have hszp : (h.push (.cells #[.func (.func fb) #[] caps] 34 (0, 0))).size = h.size + 1 := by simp
  refine EK.loopInv (fun s : Nat × Value × Nat × (Nat -> Nat) => [(4, s.2.1), (5, .pointer (some ⟨s.2.2.1, 0, none⟩)), (3, .pointer (some ⟨h.size, 0, none⟩)), (0, .int .i64 n)])
    (fun s h' δ' => δ' = ⟨0, γ₀⟩ /\ s.1 <= n /\ Upd (fun _ => False) h h' /\ h'[h.size]? = some (.cells #[.func (.func fb) #[] caps] 34 (0, 0)) /\ h.size <= s.2.2.1 /\ h'[s.2.2.1]? = some (.cells #[.int .i64 s.1] 3 (0, 0)) /\
      SliceO h' s.2.1 76 1 s.1 ((List.range s.1).map fun k => .func (.func 70) #[] #[.pointer (some ⟨h.size, 0, none⟩), .pointer (some ⟨s.2.2.2 k, 0, none⟩)]) /\ (∀ b, blk s.2.1 = some b -> h.size <= b) /\
      ∀ k, k < s.1 -> h.size <= s.2.2.2 k /\ s.2.2.2 k ≠ s.2.2.1 /\ h'[s.2.2.2 k]? = some (.cells #[.int .i64 k] 3 (0, 0)))
    (fun s => n - s.1) (0, .slice none 0 0, h.size + 1, fun _ => 0) ⟨rfl, congrArg (fun z => some (Value.pointer (some ⟨z, 0, none⟩))) hszp, rfl, rfl, trivial⟩ ⟨rfl, Nat.zero_le _, u1, k0, by dsimp only; omega, k1, SliceO.nil, fun b hb => by (cases hb), fun k hk => absurd hk (Nat.not_lt_zero _)⟩ ?_
  clear u1 k0 k1 h2 hszp
  rintro ⟨k, s, cb, ib⟩ h2 δ2 ⟨rfl, hk, u2, kF, hcb, kc, sl, hab, hib⟩ again
  dsimp only at hk u2 kF hcb kc sl hab hib again ⊢
  rcases Nat.lt_or_ge k n with hlt | hge
  · (repeat (first | refine EK.seq ?_ | refine EK.region ?_ | refine ER.done ?_ | refine EK.skip ?_ | refine EK.block ?_ | refine EK.inBlock ?_ | refine ER.move rfl rfl rfl ?_ | refine ER.assign rfl rfl rfl ?_ | refine ER.nilCheck rfl rfl rfl ?_ | refine ER.fieldAddr rfl rfl rfl ?_ | refine ER.load1 rfl rfl rfl (hcell_of (by assumption) rfl) ?_ | refine ER.no rfl rfl ?_ | refine ER.noU rfl ?_ | refine ER.eqV rfl rfl rfl rfl rfl ?_ | refine ER.neqV rfl rfl rfl rfl rfl ?_ | refine ER.eqA rfl rfl rfl rfl rfl ?_ | refine ER.neqA rfl rfl rfl rfl rfl ?_ | refine ER.notB rfl rfl rfl ?_ | refine ER.pickT rfl rfl rfl rfl ?_ | refine ER.pickF rfl rfl rfl rfl ?_ | refine ER.extract rfl rfl rfl rfl ?_ | refine ER.cmpT rfl rfl rfl rfl rfl (by first | (dsimp only [cmpP]; omega) | exact rfl | exact Int.le_refl _) ?_ | refine ER.cmpF rfl rfl rfl rfl rfl (by first | (dsimp only [cmpP]; omega) | exact rfl | exact Int.le_refl _) ?_ | refine ER.boxA rfl rfl rfl ?_ | refine ER.box rfl rfl rfl ?_ | refine ER.allocA rfl rfl ?_ | refine ER.alloc rfl rfl ?_ | refine ER.add (kd := .i64) rfl rfl rfl rfl (i64_in (by omega) (by omega)) ?_ | refine ER.sub' (kd := .i64) rfl rfl rfl rfl (i64_in (by omega) (by omega)) ?_ | refine ER.mul (kd := .i64) rfl rfl rfl rfl (i64_in (by omega) (by omega)) ?_ | refine ER.rem (kd := .i64) rfl rfl rfl rfl (by decide) rfl ?_ | refine ER.indexArr rfl rfl rfl rfl (by omega) (by omega) ?_ | refine ER.len1 rfl rfl rfl ?_ | refine ER.indexSl rfl rfl rfl rfl (by omega) (by omega) ?_ | refine EK.condT rfl ?_ | refine EK.condF rfl ?_ | refine EK.ret ?_ | refine EK.exit rfl ?_))
    refine ER.makeF rfl rfl rfl rfl rfl rfl ?_
    refine ER.slice1 (sz := 1) (z := .nilFunc) (cells := #[.func (.func 70) #[] #[.pointer (some ⟨h.size, 0, none⟩), .pointer (some ⟨cb, 0, none⟩)]]) rfl rfl rfl (by omega) (by omega) rfl rfl ?_
    refine ER.append1 (new := [.func (.func 70) #[] #[.pointer (some ⟨h.size, 0, none⟩), .pointer (some ⟨cb, 0, none⟩)]]) rfl rfl rfl rfl (sl.upd (Upd.push (T := fun _ => False) h2 _) (fun _ _ x => x)) (get_push_new _ _) rfl (by simp [OneCell]) (by omega) (by omega) (by rfl) (fun b o hb => hsl _) ?_
    intro s' h5 sl5 u5 hb5
    have up := Upd.push (T := fun _ => False) h2 (.cells #[.func (.func 70) #[] #[.pointer (some ⟨h.size, 0, none⟩), .pointer (some ⟨cb, 0, none⟩)]] 76)
    have hs0 := u2.size
    have ha5 : ∀ b, blk s' = some b -> h.size <= b := fun b hb => by
      rcases hb5 b hb with z | z
      · exact hab b z
      · rw [z, Array.size_push]; omega
    have hsz5 : h2.size + 1 <= h5.size := by have := u5.size; rwa [Array.size_push] at this
    have uu : Upd (fun _ => False) h h5 := (u2.trans up).over u5 hab
    have mv : ∀ (x : Nat) (t : TypeId) (v : Value), h2[x]? = some (.cells #[v] t (0, 0)) -> 76 ≠ t -> h5[x]? = some (.cells #[v] t (0, 0)) := fun x t v hx ht => u5.get (up.get hx fun z => z) (sl_ne sl hx ht)
    have kF5 := mv _ _ _ kF (by decide)
    have kc5 := mv _ _ _ kc (by decide)
    have hib5 : ∀ j, j < k -> h.size <= ib j /\ ib j ≠ cb /\ ib j < h2.size /\ h5[ib j]? = some (.cells #[.int .i64 j] 3 (0, 0)) := fun j hj => ⟨(hib j hj).1, (hib j hj).2.1, (Array.getElem?_eq_some_iff.1 (hib j hj).2.2).1, mv _ _ _ (hib j hj).2.2 (by decide)⟩
    have hcb2 : cb < h2.size := (Array.getElem?_eq_some_iff.1 kc).1
    have hF2 : h.size < h2.size := (Array.getElem?_eq_some_iff.1 kF).1
    clear mv up u5 hb5 hib kF kc sl hab u2
    (repeat (first | refine EK.seq ?_ | refine EK.region ?_ | refine ER.done ?_ | refine EK.skip ?_ | refine EK.block ?_ | refine EK.inBlock ?_ | refine ER.move rfl rfl rfl ?_ | refine ER.assign rfl rfl rfl ?_ | refine ER.nilCheck rfl rfl rfl ?_ | refine ER.fieldAddr rfl rfl rfl ?_ | refine ER.load1 rfl rfl rfl (hcell_of (by assumption) rfl) ?_ | refine ER.no rfl rfl ?_ | refine ER.noU rfl ?_ | refine ER.eqV rfl rfl rfl rfl rfl ?_ | refine ER.neqV rfl rfl rfl rfl rfl ?_ | refine ER.eqA rfl rfl rfl rfl rfl ?_ | refine ER.neqA rfl rfl rfl rfl rfl ?_ | refine ER.notB rfl rfl rfl ?_ | refine ER.pickT rfl rfl rfl rfl ?_ | refine ER.pickF rfl rfl rfl rfl ?_ | refine ER.extract rfl rfl rfl rfl ?_ | refine ER.cmpT rfl rfl rfl rfl rfl (by first | (dsimp only [cmpP]; omega) | exact rfl | exact Int.le_refl _) ?_ | refine ER.cmpF rfl rfl rfl rfl rfl (by first | (dsimp only [cmpP]; omega) | exact rfl | exact Int.le_refl _) ?_ | refine ER.boxA rfl rfl rfl ?_ | refine ER.box rfl rfl rfl ?_ | refine ER.allocA rfl rfl ?_ | refine ER.alloc rfl rfl ?_ | refine ER.add (kd := .i64) rfl rfl rfl rfl (i64_in (by omega) (by omega)) ?_ | refine ER.sub' (kd := .i64) rfl rfl rfl rfl (i64_in (by omega) (by omega)) ?_ | refine ER.mul (kd := .i64) rfl rfl rfl rfl (i64_in (by omega) (by omega)) ?_ | refine ER.rem (kd := .i64) rfl rfl rfl rfl (by decide) rfl ?_ | refine ER.indexArr rfl rfl rfl rfl (by omega) (by omega) ?_ | refine ER.len1 rfl rfl rfl ?_ | refine ER.indexSl rfl rfl rfl rfl (by omega) (by omega) ?_ | refine EK.condT rfl ?_ | refine EK.condF rfl ?_ | refine EK.ret ?_ | refine EK.exit rfl ?_))
    refine ER.storeNew rfl rfl rfl rfl (by simp [OneCell]) (hsl _) ?_
    refine ER.gen (fun h6 => Upd (fun _ => False) h5 h6 /\ h6[h5.size]? = some (.cells #[.int .i64 k] 3 (0, 0))) ⟨Upd.push _ _, get_push_new _ _⟩ ?_
    rintro h6 ⟨u6, n6⟩
    (repeat (first | refine EK.seq ?_ | refine EK.region ?_ | refine ER.done ?_ | refine EK.skip ?_ | refine EK.block ?_ | refine EK.inBlock ?_ | refine ER.move rfl rfl rfl ?_ | refine ER.assign rfl rfl rfl ?_ | refine ER.nilCheck rfl rfl rfl ?_ | refine ER.fieldAddr rfl rfl rfl ?_ | refine ER.load1 rfl rfl rfl (hcell_of (by assumption) rfl) ?_ | refine ER.no rfl rfl ?_ | refine ER.noU rfl ?_ | refine ER.eqV rfl rfl rfl rfl rfl ?_ | refine ER.neqV rfl rfl rfl rfl rfl ?_ | refine ER.eqA rfl rfl rfl rfl rfl ?_ | refine ER.neqA rfl rfl rfl rfl rfl ?_ | refine ER.notB rfl rfl rfl ?_ | refine ER.pickT rfl rfl rfl rfl ?_ | refine ER.pickF rfl rfl rfl rfl ?_ | refine ER.extract rfl rfl rfl rfl ?_ | refine ER.cmpT rfl rfl rfl rfl rfl (by first | (dsimp only [cmpP]; omega) | exact rfl | exact Int.le_refl _) ?_ | refine ER.cmpF rfl rfl rfl rfl rfl (by first | (dsimp only [cmpP]; omega) | exact rfl | exact Int.le_refl _) ?_ | refine ER.boxA rfl rfl rfl ?_ | refine ER.box rfl rfl rfl ?_ | refine ER.allocA rfl rfl ?_ | refine ER.alloc rfl rfl ?_ | refine ER.add (kd := .i64) rfl rfl rfl rfl (i64_in (by omega) (by omega)) ?_ | refine ER.sub' (kd := .i64) rfl rfl rfl rfl (i64_in (by omega) (by omega)) ?_ | refine ER.mul (kd := .i64) rfl rfl rfl rfl (i64_in (by omega) (by omega)) ?_ | refine ER.rem (kd := .i64) rfl rfl rfl rfl (by decide) rfl ?_ | refine ER.indexArr rfl rfl rfl rfl (by omega) (by omega) ?_ | refine ER.len1 rfl rfl rfl ?_ | refine ER.indexSl rfl rfl rfl rfl (by omega) (by omega) ?_ | refine EK.condT rfl ?_ | refine EK.condF rfl ?_ | refine EK.ret ?_ | refine EK.exit rfl ?_))
    refine ER.store1 rfl rfl rfl (by simp [OneCell]) ⟨_, hcell_of n6 rfl⟩ (hfroz_of n6) (hsl _) ?_
    have n7 : (hset h6 ⟨h5.size, 0, none⟩ (.int .i64 ((k : Int) + 1)))[h5.size]? = some (.cells #[.int .i64 ((k : Int) + 1)] 3 (0, 0)) := by rw [hset_get, if_pos rfl, n6]; rfl
    have u7 : Upd (fun b => b = h5.size) h6 (hset h6 ⟨h5.size, 0, none⟩ (.int .i64 ((k : Int) + 1))) := Upd.hset _ _ _ rfl
    generalize hset h6 ⟨h5.size, 0, none⟩ (.int .i64 ((k : Int) + 1)) = h7 at n7 u7 ⊢
    have mv : ∀ (x : Nat) (o : Obj), x < h5.size -> h5[x]? = some o -> h7[x]? = some o := fun x o hx ho => u7.get (u6.get ho fun z => z) (by omega)
    (repeat (first | refine EK.seq ?_ | refine EK.region ?_ | refine ER.done ?_ | refine EK.skip ?_ | refine EK.block ?_ | refine EK.inBlock ?_ | refine ER.move rfl rfl rfl ?_ | refine ER.assign rfl rfl rfl ?_ | refine ER.nilCheck rfl rfl rfl ?_ | refine ER.fieldAddr rfl rfl rfl ?_ | refine ER.load1 rfl rfl rfl (hcell_of (by assumption) rfl) ?_ | refine ER.no rfl rfl ?_ | refine ER.noU rfl ?_ | refine ER.eqV rfl rfl rfl rfl rfl ?_ | refine ER.neqV rfl rfl rfl rfl rfl ?_ | refine ER.eqA rfl rfl rfl rfl rfl ?_ | refine ER.neqA rfl rfl rfl rfl rfl ?_ | refine ER.notB rfl rfl rfl ?_ | refine ER.pickT rfl rfl rfl rfl ?_ | refine ER.pickF rfl rfl rfl rfl ?_ | refine ER.extract rfl rfl rfl rfl ?_ | refine ER.cmpT rfl rfl rfl rfl rfl (by first | (dsimp only [cmpP]; omega) | exact rfl | exact Int.le_refl _) ?_ | refine ER.cmpF rfl rfl rfl rfl rfl (by first | (dsimp only [cmpP]; omega) | exact rfl | exact Int.le_refl _) ?_ | refine ER.boxA rfl rfl rfl ?_ | refine ER.box rfl rfl rfl ?_ | refine ER.allocA rfl rfl ?_ | refine ER.alloc rfl rfl ?_ | refine ER.add (kd := .i64) rfl rfl rfl rfl (i64_in (by omega) (by omega)) ?_ | refine ER.sub' (kd := .i64) rfl rfl rfl rfl (i64_in (by omega) (by omega)) ?_ | refine ER.mul (kd := .i64) rfl rfl rfl rfl (i64_in (by omega) (by omega)) ?_ | refine ER.rem (kd := .i64) rfl rfl rfl rfl (by decide) rfl ?_ | refine ER.indexArr rfl rfl rfl rfl (by omega) (by omega) ?_ | refine ER.len1 rfl rfl rfl ?_ | refine ER.indexSl rfl rfl rfl rfl (by omega) (by omega) ?_ | refine EK.condT rfl ?_ | refine EK.condF rfl ?_ | refine EK.ret ?_ | refine EK.exit rfl ?_))
    refine EK.back (again (k + 1, s', h5.size, fun j => if j = k then cb else ib j) _ _ (by dsimp only; omega) ⟨rfl, hlt, (uu.trans u6).over u7 (fun b hb => by omega), mv _ _ (by omega) kF5, by dsimp only; omega, n7, ?_, ha5, fun j hj => ?_⟩) ⟨rfl, rfl, rfl, rfl, trivial⟩
    · have := (sl5.upd u6 (fun _ _ z => z)).upd u7 fun b hb => by have := sl5.lt hb; omega
      dsimp only
      rw [List.range_succ, List.map_append, List.map_singleton, if_pos rfl]
      have e : ((List.range k).map fun j => Value.func (.func 70) #[] #[.pointer (some ⟨h.size, 0, none⟩), .pointer (some ⟨if j = k then cb else ib j, 0, none⟩)]) = ((List.range k).map fun j => Value.func (.func 70) #[] #[.pointer (some ⟨h.size, 0, none⟩), .pointer (some ⟨ib j, 0, none⟩)]) := List.map_congr_left fun j hj => by
        have := List.mem_range.1 hj
        rw [if_neg (by omega)]
      rw [e]
      exact this
    · dsimp only
      by_cases e : j = k
      · subst e
        rw [if_pos rfl]
        exact ⟨hcb, by omega, mv _ _ (by omega) kc5⟩
      · rw [if_neg e]
        obtain ⟨i1, i2, i3, i4⟩ := hib5 j (by dsimp only at hj; omega)
        exact ⟨i1, by omega, mv _ _ (by omega) i4⟩
  · obtain rfl : k = n := by omega
    clear again
    obtain ⟨hl, ⟨_, hz⟩ | ⟨B, cap, rest, rfl, c1, c2, c3⟩⟩ := sl
    · omega
    (repeat (first | refine EK.seq ?_ | refine EK.region ?_ | refine ER.done ?_ | refine EK.skip ?_ | refine EK.block ?_ | refine EK.inBlock ?_ | refine ER.move rfl rfl rfl ?_ | refine ER.assign rfl rfl rfl ?_ | refine ER.nilCheck rfl rfl rfl ?_ | refine ER.fieldAddr rfl rfl rfl ?_ | refine ER.load1 rfl rfl rfl (hcell_of (by assumption) rfl) ?_ | refine ER.no rfl rfl ?_ | refine ER.noU rfl ?_ | refine ER.eqV rfl rfl rfl rfl rfl ?_ | refine ER.neqV rfl rfl rfl rfl rfl ?_ | refine ER.eqA rfl rfl rfl rfl rfl ?_ | refine ER.neqA rfl rfl rfl rfl rfl ?_ | refine ER.notB rfl rfl rfl ?_ | refine ER.pickT rfl rfl rfl rfl ?_ | refine ER.pickF rfl rfl rfl rfl ?_ | refine ER.extract rfl rfl rfl rfl ?_ | refine ER.cmpT rfl rfl rfl rfl rfl (by first | (dsimp only [cmpP]; omega) | exact rfl | exact Int.le_refl _) ?_ | refine ER.cmpF rfl rfl rfl rfl rfl (by first | (dsimp only [cmpP]; omega) | exact rfl | exact Int.le_refl _) ?_ | refine ER.boxA rfl rfl rfl ?_ | refine ER.box rfl rfl rfl ?_ | refine ER.allocA rfl rfl ?_ | refine ER.alloc rfl rfl ?_ | refine ER.add (kd := .i64) rfl rfl rfl rfl (i64_in (by omega) (by omega)) ?_ | refine ER.sub' (kd := .i64) rfl rfl rfl rfl (i64_in (by omega) (by omega)) ?_ | refine ER.mul (kd := .i64) rfl rfl rfl rfl (i64_in (by omega) (by omega)) ?_ | refine ER.rem (kd := .i64) rfl rfl rfl rfl (by decide) rfl ?_ | refine ER.indexArr rfl rfl rfl rfl (by omega) (by omega) ?_ | refine ER.len1 rfl rfl rfl ?_ | refine ER.indexSl rfl rfl rfl rfl (by omega) (by omega) ?_ | refine EK.condT rfl ?_ | refine EK.condF rfl ?_ | refine EK.ret ?_ | refine EK.exit rfl ?_))
    refine ER.callR rfl rfl rfl rfl rfl (hgo h2 B cap h.size ib u2 (Nat.le_refl _) kF (fun j hj => ⟨(hib j hj).1, (hib j hj).2.2⟩) (hab B rfl) fun j hj => hcell_of c3 ?_) ?_
    · rw [List.getElem?_toArray, List.getElem?_append_left (by rw [hl]; omega), List.getElem?_map, List.getElem?_range hj]
      rfl
    · intro v h' δ' hr
      refine ER.done (EK.done (EU.ret0 rfl ⟨v, hr⟩))
end
section
open Go Go.TJ Go.Proofs
variable [Dm]
def cntM (n cap : Nat) (rest : List Value) (B : Nat -> Nat) (v : Nat -> Int) : Mem Nat := ⟨fun k => k = 0 \/ k = 1 \/ (4 <= k /\ k < 4 + n), B, fun k =>
  if k = 0 then .cells #[.slice (some ⟨B 1, 0, none⟩) n cap] 116 (0, 0)
  else if k = 1 then .cells (((List.range n).map fun j => ptr (B (4 + j))) ++ rest).toArray 40 (0, 0)
  else cellO (v (k - 4))⟩
section
variable {Γ : Type} {main : Bool} {h : Hp} {δ : Ix Γ}
structure RS where
  i : Nat
  M : Mem Nat
  s : Value
set_option maxRecDepth 8000 in
set_option maxHeartbeats 4000000 in
theorem cntnew_ok {n : Nat} (hn1 : 1 <= n) (hn : n <= 64) (hF : ∀ b o, h.size <= b -> ¬ NoS.still δ.g ⟨b, o, none⟩) :
    CallW Try.prog main NoS 27 #[.int .i64 n] h δ (Ret fun w h' δ' => δ' = δ /\ Upd (fun _ => False) h h' /\ ∃ cap rest B, w = .tuple #[ptr (B 0), .int .i64 0] /\ Rep h' (cntM n cap rest B fun _ => 0) /\ ∀ k, k = 0 \/ k = 1 \/ (4 <= k /\ k < 4 + n) -> h.size <= B k) := by
  refine CallW.start (n := 28) rfl rfl ?_
  (repeat (first | refine EK.seq ?_ | refine EK.region ?_ | refine ER.done ?_ | refine EK.skip ?_ | refine ER.move rfl rfl rfl ?_ | refine ER.assign rfl rfl rfl ?_ | refine ER.pickF rfl rfl rfl rfl ?_ | refine ER.cmpF rfl rfl rfl rfl rfl (by first | (dsimp only [cmpP]; omega) | exact rfl | exact Int.le_refl _) ?_ | refine EK.condF rfl ?_))
  refine ER.buildS (cells := #[nilS]) rfl rfl rfl rfl ?_
  (repeat (first | refine EK.seq ?_ | refine EK.region ?_ | refine ER.done ?_ | refine EK.block ?_ | refine ER.move rfl rfl rfl ?_ | refine ER.assign rfl rfl rfl ?_ | refine ER.boxA rfl rfl rfl ?_))
  have x0 : RowI h Mem.emp h.size 116 40 #[nilS] 0 (h.push (.cells #[nilS] 116)) (Mem.emp.put 0 h.size (.cells #[nilS] 116)) 0 nilS := by
    refine ⟨Rep.emp.put _ _, Upd.push _ _, fun k hk => ?_, ⟨.inl rfl, ?_⟩, ?_, fun k hk => ⟨⟨fun y => ?_, fun y => .inr y⟩, ?_, ?_⟩, Mem.Sl.nil ?_, fun q hq => by omega, fun q _ hk => ?_⟩
    · rcases hk with rfl | hk
      · simp [Mem.put, ut]
      · exact hk.elim
    · simp [Mem.put, ut]
    · simp [Mem.put, ut]
    · rcases y with y | y
      · omega
      · exact y
    · show ut _ _ _ _ = _
      exact ut_ne _ _ (by omega)
    · show ut _ _ _ _ = _
      exact ut_ne _ _ (by omega)
    · simp [Mem.put, Mem.emp]
    · simp [Mem.put, Mem.emp] at hk
  generalize hT : h.size = T at x0 ⊢
  change EK _ _ _ _ _ _ _ _ (h.push (.cells #[nilS] 116)) _ _
  generalize h.push (.cells #[nilS] 116) = h1 at x0 ⊢
  refine EK.loopInv (fun t : RS => [(14, .int .i64 t.i), (13, .int .i64 n), (4, ptr T), (0, .int .i64 n)]) (fun t h' δ' => δ' = δ /\ t.i <= n /\ RowI h Mem.emp T 116 40 #[nilS] 0 h' t.M t.i t.s) (fun t => n - t.i) ⟨0, _, nilS⟩ ⟨rfl, rfl, rfl, rfl, trivial⟩ ⟨rfl, Nat.zero_le _, x0⟩ ?_
  clear x0 h1
  rintro ⟨i, M, s⟩ h1 δ1 ⟨hδ1, hi, x⟩ again
  dsimp only at hi x again ⊢
  obtain rfl : δ = δ1 := hδ1.symm
  have hsz := x.upd.size
  by_cases hin : i < n
  · (repeat (first | refine EK.seq ?_ | refine EK.region ?_ | refine ER.done ?_ | refine EK.skip ?_ | refine EK.block ?_ | refine ER.cmpT rfl rfl rfl rfl rfl (by first | (dsimp only [cmpP]; omega) | exact rfl | exact Int.le_refl _) ?_ | refine EK.condT rfl ?_))
    have cS : hcell h1 ⟨T, 0, none⟩ = some s := x.reads (by simp)
    refine EK.regionAnyL (fun h' => hcell h' ⟨T, 0, none⟩ = some s) 10 ?_
    have hZ := cS
    refine EA.tMove 0 rfl (by kernel_rfl) rfl rfl rfl rfl hZ ?_
    refine EA.tMove 1 rfl (by kernel_rfl) rfl rfl rfl rfl hZ ?_
    refine EA.tNil 2 rfl (by kernel_rfl) rfl rfl rfl rfl hZ ?_
    refine EA.tField 3 rfl (by kernel_rfl) rfl rfl rfl rfl hZ ?_
    refine EA.tLoad 4 rfl (by kernel_rfl) rfl rfl rfl rfl (fun _ hz => hz) hZ ?_
    refine EA.callD 5 rfl (by kernel_rfl) rfl rfl rfl rfl rfl rfl (cnewS (hF _ _ hsz)) (hcell_push hZ) ?_
    refine EA.val (v := .slice (some ⟨(h1.push (cellO 0)).size, 0, none⟩) 1 1) (h' := (h1.push (cellO 0)).push (.cells #[ptr h1.size] 40)) 6 rfl (by kernel_rfl) rfl rfl rfl (fun ρ Q X hρ hq => sem_slice1 (sz := 1) hρ rfl (by omega) (by omega) rfl rfl hq) (hcell_push (hcell_push hZ)) ?_
    have r4 := (x.rep.put (4 + i) (cellO 0)).upd0 (Upd.push (h1.push (cellO 0)) (.cells #[ptr h1.size] 40))
    refine EA.append1 (new := [ptr h1.size]) 7 rfl (by kernel_rfl) rfl rfl rfl rfl rfl ((x.sl.put (j := 4 + i) (by omega) h1.size (cellO 0)).slice r4) (get_push_new _ _) rfl (by simp [OneCell]) (by omega) (by omega) rfl (fun b o hb => hF _ _ (by
      obtain ⟨hk, e⟩ := x.sl.blk hb
      rw [e]; exact x.above _ hk)) ?_
    intro s' h5 hs5 u5 hb5
    obtain ⟨hTs, t5, M', x'⟩ := x.step hs5 u5 hb5
    have c5 : hcell h5 ⟨T, 0, none⟩ = some s := hcell_of t5 rfl
    obtain ⟨a5, k5, es5⟩ := hs5.val
    refine ⟨c5, ?_⟩
    refine EA.val 8 rfl (by kernel_rfl) rfl rfl rfl (fun ρ Q X hρ hq => sem_nilCheck (hρ _ _ rfl) hq) c5 ?_
    have hZ := c5
    refine EA.tField 9 rfl (by kernel_rfl) rfl rfl rfl rfl hZ ?_
    refine EA.unitL (h' := hset h5 ⟨T, 0, none⟩ s') 10 rfl (by kernel_rfl) rfl rfl rfl (fun ρ Q X hρ hq => sem_store1 (hρ _ _ rfl) (hρ _ _ rfl) (by rw [es5]; exact ⟨nofun, nofun⟩) ⟨_, c5⟩ (hfroz_of t5) (hF _ _ (x.topB ▸ x.above 0 x.top.1)) hq) ?_
    refine EA.done (by kernel_rfl) ?_
    (repeat (first | refine EK.region ?_ | refine ER.done ?_ | refine EK.inBlock ?_ | refine ER.move rfl rfl rfl ?_ | refine ER.add (kd := .i64) rfl rfl rfl rfl (i64_in (by omega) (by omega)) ?_))
    exact EK.back (again ⟨i + 1, M', s'⟩ _ _ (by dsimp only; omega) ⟨rfl, by dsimp only; omega, x'⟩) ⟨rfl, rfl, rfl, rfl, trivial⟩
  · obtain rfl : i = n := by omega
    clear again
    (repeat (first | refine EK.seq ?_ | refine EK.region ?_ | refine ER.done ?_ | refine ER.move rfl rfl rfl ?_ | refine ER.assign rfl rfl rfl ?_ | refine ER.cmpF rfl rfl rfl rfl rfl (by first | (dsimp only [cmpP]; omega) | exact rfl | exact Int.le_refl _) ?_ | refine EK.condF rfl ?_ | refine EK.ret ?_ | refine EK.exit rfl ?_))
    have h1T := x.topB
    obtain ⟨hl, ⟨_, hz, _⟩ | ⟨k1, cap, rest, rfl, hc1, hc2, hc3⟩⟩ := x.sl
    · omega
    · refine EU.ret2 rfl rfl rfl ⟨rfl, x.upd, cap, rest, M.B, by rw [h1T], ?_, fun k hk => ?_⟩
      · refine x.rep.congr (fun k hk => ?_) (fun _ _ => rfl) (fun k hk => ?_)
        · rcases hk with rfl | rfl | hk
          · exact x.top.1
          · exact k1
          · have := (x.cells (k - 4) (by omega)).1
            rwa [show 4 + (k - 4) = k by omega] at this
        · unfold cntM
          dsimp only
          rcases hk with rfl | rfl | hk
          · rw [if_pos rfl, x.top.2]; rfl
          · rw [if_neg (by decide), if_pos rfl, hc3]
          · rw [if_neg (by omega), if_neg (by omega)]
            have := (x.cells (k - 4) (by omega)).2
            rw [show 4 + (k - 4) = k by omega] at this
            exact this.symm
      · rw [<- hT]
        refine x.above k ?_
        rcases hk with rfl | rfl | hk
        · exact x.top.1
        · exact k1
        · have := (x.cells (k - 4) (by omega)).1
          rwa [show 4 + (k - 4) = k by omega] at this
theorem ticknew_ok {n : Int} (hn : 0 <= n) (hF : ∀ b o, h.size <= b -> ¬ NoS.still δ.g ⟨b, o, none⟩) : CallW Try.prog main NoS 28 #[.int .i64 n] h δ (Ret (Det (.tuple #[ptr (h.size + 1), .int .i64 0]) ((h.push (cellO n)).push (.cells #[.int .i64 n, ptr h.size] 118)) δ)) := by
  refine CallW.start (n := 11) rfl rfl ?_
  (repeat (first | refine EK.seq ?_ | refine EK.region ?_ | refine ER.done ?_ | refine EK.skip ?_ | refine ER.move rfl rfl rfl ?_ | refine ER.assign rfl rfl rfl ?_ | refine ER.cmpF rfl rfl rfl rfl rfl (by first | (dsimp only [cmpP]; omega) | exact rfl | exact Int.le_refl _) ?_ | refine EK.condF rfl ?_))
  refine ER.callD rfl rfl rfl rfl rfl (cnewS (hF _ _ (Nat.le_refl _))) ?_
  refine ER.buildS (cells := #[.int .i64 n, ptr h.size]) rfl rfl rfl rfl ?_
  (repeat (first | refine ER.done ?_ | refine ER.assign rfl rfl rfl ?_ | refine ER.boxA rfl rfl rfl ?_ | refine EK.ret ?_))
  exact EU.ret2 rfl rfl rfl ⟨by simp, rfl, rfl⟩
theorem peaknew_ok {n : Int} (hF : ∀ b o, h.size <= b -> ¬ NoS.still δ.g ⟨b, o, none⟩) : CallW Try.prog main NoS 29 #[.int .i64 n] h δ (Ret (Det (ptr (h.size + 1)) ((h.push (cellO n)).push (.cells #[ptr h.size] 120)) δ)) := by
  refine CallW.start (n := 7) rfl rfl ?_
  (repeat (first | refine EK.seq ?_ | refine EK.region ?_ | refine ER.done ?_ | refine ER.move rfl rfl rfl ?_ | refine ER.assign rfl rfl rfl ?_))
  refine ER.callD rfl rfl rfl rfl rfl (cnewS (hF _ _ (Nat.le_refl _))) ?_
  refine ER.buildS (cells := #[ptr h.size]) rfl rfl rfl rfl ?_
  (repeat (first | refine ER.done ?_ | refine ER.assign rfl rfl rfl ?_ | refine ER.boxA rfl rfl rfl ?_ | refine EK.ret ?_))
  exact EU.ret1 rfl rfl ⟨by simp, rfl, rfl⟩
theorem tleft_ok {K c : Nat} {x : Int} (hc : hcell h ⟨K, 1, none⟩ = some (ptr c)) (hv : h[c]? = some (cellO x)) : CallW Try.prog main NoS 38 #[ptr K, .pointer none] h δ (Ret (Det (.int .i64 x) h δ)) := by
  refine CallW.start (n := 13) rfl rfl ?_
  (repeat (first | refine EK.seq ?_ | refine EK.region ?_ | refine ER.done ?_ | refine EK.skip ?_ | refine ER.move rfl rfl rfl ?_ | refine ER.assign rfl rfl rfl ?_ | refine ER.nilCheck rfl rfl rfl ?_ | refine ER.fieldAddr rfl rfl rfl ?_ | refine ER.eqV rfl rfl rfl rfl rfl ?_ | refine EK.condF rfl ?_ | refine ER.load1 rfl rfl rfl (by assumption) ?_))
  refine ER.callD rfl rfl rfl rfl rfl (cload hv) ?_
  (repeat (first | refine ER.done ?_ | refine ER.assign rfl rfl rfl ?_ | refine EK.ret ?_))
  exact EU.ret1 rfl rfl det
end
end
section
open Go Go.TJ Go.Proofs
variable [Dm]
theorem cnt_top {h : Hp} {n cap : Nat} {rest : List Value} {B : Nat -> Nat} {v : Nat -> Int} (r : Rep h (cntM n cap rest B v)) : hcell h ⟨B 0, 0, none⟩ = some (.slice (some ⟨B 1, 0, none⟩) n cap) := r.cell (k := 0) (.inl rfl) rfl rfl
theorem cnt_row {h : Hp} {n cap : Nat} {rest : List Value} {B : Nat -> Nat} {v : Nat -> Int} (r : Rep h (cntM n cap rest B v)) {j : Nat} (hj : j < n) : hcell h ⟨B 1, 0 + j * 1, none⟩ = some (ptr (B (4 + j))) := r.cell (k := 1) (.inr (.inl rfl)) rfl (by
  rw [show 0 + j * 1 = j by omega]
  simp only [List.getElem?_toArray]
  rw [List.getElem?_append_left (by simp; omega)]
  simp [hj])
theorem cnt_cell {h : Hp} {n cap : Nat} {rest : List Value} {B : Nat -> Nat} {v : Nat -> Int} (r : Rep h (cntM n cap rest B v)) {j : Nat} (hj : j < n) : h[B (4 + j)]? = some (cellO (v j)) := r.get (k := 4 + j) (.inr (.inr ⟨by omega, by omega⟩)) (by
  show (if 4 + j = 0 then _ else if 4 + j = 1 then _ else cellO (v (4 + j - 4))) = _
  rw [if_neg (by omega), if_neg (by omega), show 4 + j - 4 = j by omega])
theorem cnt_set {h : Hp} {n cap : Nat} {rest : List Value} {B : Nat -> Nat} {v : Nat -> Int} (r : Rep h (cntM n cap rest B v)) {j : Nat} (hj : j < n) (x : Int) : Rep (h.setIfInBounds (B (4 + j)) (cellO x)) (cntM n cap rest B (ut v j x)) := by
  refine (r.set (k := 4 + j) (.inr (.inr ⟨by omega, by omega⟩)) (cellO x)).congr (fun _ hk => hk) (fun _ _ => rfl) (fun k hk => ?_)
  show (cntM n cap rest B (ut v j x)).O k = ut (cntM n cap rest B v).O (4 + j) (cellO x) k
  by_cases e : k = 4 + j
  · subst e
    rw [ut_same]
    show (if 4 + j = 0 then _ else if 4 + j = 1 then _ else cellO (ut v j x (4 + j - 4))) = _
    rw [if_neg (by omega), if_neg (by omega), show 4 + j - 4 = j by omega, ut_same]
  · rw [ut_ne _ _ e]
    show (if k = 0 then _ else if k = 1 then _ else cellO (ut v j x (k - 4))) = (if k = 0 then _ else if k = 1 then _ else cellO (v (k - 4)))
    by_cases k0 : k = 0
    · rw [if_pos k0, if_pos k0]
    · by_cases k1 : k = 1
      · rw [if_neg k0, if_pos k1, if_neg k0, if_pos k1]
      · have hk' : 4 <= k /\ k < 4 + n := by
          rcases hk with y | y | y
          · exact absurd y k0
          · exact absurd y k1
          · exact y
        rw [if_neg k0, if_neg k1, if_neg k0, if_neg k1, ut_ne _ _ (by omega)]
section
variable {Γ : Type} {main : Bool} {h : Hp} {δ : Ix Γ}
set_option maxRecDepth 8000 in
set_option maxHeartbeats 4000000 in
theorem cntadd_ok {n cap j : Nat} {rest : List Value} {B : Nat -> Nat} {v : Nat -> Int} {who d x : Int} (r : Rep h (cntM n cap rest B v)) (hn : 1 <= n) (hn1 : n <= 64) (hj : j < n) (hw : (who.tmod n + n).tmod n = j) (hx : IntKind.i64.wrap (v j + d) = x) (hS : ∀ o, ¬ NoS.still δ.g ⟨B (4 + j), o, none⟩) :
    CallW Try.prog main NoS 32 #[ptr (B 0), .pointer none, .int .i64 who, .int .i64 d] h δ (Ret (Det (.int .i64 0) (h.setIfInBounds (B (4 + j)) (cellO x)) δ)) := by
  have c0 := cnt_top r
  have hb : -(n : Int) < who.tmod n /\ who.tmod n < n := by
    rcases Int.lt_or_le who 0 with y | y
    · have e : who = -(-who) := by omega
      rw [e, Int.neg_tmod, Int.tmod_eq_emod_of_nonneg (by omega)]
      have := Int.emod_nonneg (-who) (by omega : (n : Int) ≠ 0)
      have := Int.emod_lt_of_pos (-who) (by omega : 0 < (n : Int))
      omega
    · rw [Int.tmod_eq_emod_of_nonneg y]
      have := Int.emod_nonneg who (by omega : (n : Int) ≠ 0)
      have := Int.emod_lt_of_pos who (by omega : 0 < (n : Int))
      omega
  refine CallW.start (n := 41) rfl rfl ?_
  (repeat (first | refine EK.seq ?_ | refine EK.region ?_ | refine ER.done ?_ | refine EK.skip ?_ | refine ER.move rfl rfl rfl ?_ | refine ER.assign rfl rfl rfl ?_ | refine ER.nilCheck rfl rfl rfl ?_ | refine ER.fieldAddr rfl rfl rfl ?_ | refine ER.eqV rfl rfl rfl rfl rfl ?_ | refine ER.pickF rfl rfl rfl rfl ?_ | refine ER.cmpF rfl rfl rfl rfl rfl (by first | (dsimp only [cmpP]; omega) | exact rfl | exact Int.le_refl _) ?_ | refine ER.len1 rfl rfl rfl ?_ | refine EK.condF rfl ?_ | refine ER.load1 rfl rfl rfl (by assumption) ?_))
  have cj := cnt_row r hj
  refine EK.regionAny (fun h' => hcell h' ⟨B 0, 0, none⟩ = some (.slice (some ⟨B 1, 0, none⟩) n cap) /\ hcell h' ⟨B 1, 0 + j * 1, none⟩ = some (ptr (B (4 + j)))) ?_
  have hZ := And.intro c0 cj
  refine EA.tMove 0 rfl (by kernel_rfl) rfl rfl rfl rfl hZ ?_
  refine EA.tNil 1 rfl (by kernel_rfl) rfl rfl rfl rfl hZ ?_
  refine EA.tField 2 rfl (by kernel_rfl) rfl rfl rfl rfl hZ ?_
  refine EA.tLoad 3 rfl (by kernel_rfl) rfl rfl rfl rfl (fun _ hz => hz.1) hZ ?_
  refine EA.tMove 4 rfl (by kernel_rfl) rfl rfl rfl rfl hZ ?_
  refine EA.tMove 5 rfl (by kernel_rfl) rfl rfl rfl rfl hZ ?_
  refine EA.tBinI (kd := .i64) (v := .int .i64 (who.tmod n)) 6 rfl (by kernel_rfl) rfl rfl rfl rfl rfl (Go.TJ.binOp_rem (by omega)) hZ ?_
  refine EA.tMove 7 rfl (by kernel_rfl) rfl rfl rfl rfl hZ ?_
  refine EA.tAdd (kd := .i64) 8 rfl (by kernel_rfl) rfl rfl rfl rfl rfl (i64_in (by omega) (by omega)) hZ ?_
  refine EA.tMove 9 rfl (by kernel_rfl) rfl rfl rfl rfl hZ ?_
  refine EA.tBinI (kd := .i64) (v := .int .i64 (j : Int)) 10 rfl (by kernel_rfl) rfl rfl rfl rfl rfl ((Go.TJ.binOp_rem (by omega)).trans (by rw [hw])) hZ ?_
  refine EA.tIdxS 11 rfl (by kernel_rfl) rfl rfl rfl rfl rfl (by omega) (by omega) hZ ?_
  refine EA.tLoad 12 rfl (by kernel_rfl) rfl rfl rfl rfl (fun _ hz => hz.2) hZ ?_
  refine EA.tMove 13 rfl (by kernel_rfl) rfl rfl rfl rfl hZ ?_
  refine EA.tMove 14 rfl (by kernel_rfl) rfl rfl rfl rfl hZ ?_
  refine EA.callD 15 rfl (by kernel_rfl) rfl rfl rfl rfl rfl rfl (cadd hx (cnt_cell r hj) hS) ⟨cnt_top (cnt_set r hj x), cnt_row (cnt_set r hj x) hj⟩ ?_
  refine EA.done (by kernel_rfl) ?_
  (repeat (first | refine EK.seq ?_ | refine EK.region ?_ | refine ER.done ?_ | refine ER.assign rfl rfl rfl ?_ | refine EK.ret ?_))
  exact EU.ret1 rfl rfl det
set_option maxRecDepth 8000 in
theorem cntsum_two {cap : Nat} {rest : List Value} {B : Nat -> Nat} {v : Nat -> Int} {a b : Int} (r : Rep h (cntM 2 cap rest B v)) (ha : v 0 = a) (hb : v 1 = b) (ha1 : 0 <= a) (ha2 : a <= 1000000) (hb1 : 0 <= b) (hb2 : b <= 1000000) :
    CallW Try.prog main NoS 36 #[ptr (B 0), .pointer none] h δ (Ret (Det (.int .i64 (a + b)) h δ)) := by
  have c0 := cnt_top r
  have r0 := cnt_row r (j := 0) (by omega)
  have r1 := cnt_row r (j := 1) (by omega)
  refine CallW.start (n := 30) rfl rfl ?_
  (repeat (first | refine EK.seq ?_ | refine EK.region ?_ | refine ER.done ?_ | refine EK.skip ?_ | refine EK.block ?_ | refine ER.move rfl rfl rfl ?_ | refine ER.assign rfl rfl rfl ?_ | refine ER.nilCheck rfl rfl rfl ?_ | refine ER.fieldAddr rfl rfl rfl ?_ | refine ER.eqV rfl rfl rfl rfl rfl ?_ | refine ER.len1 rfl rfl rfl ?_ | refine EK.condF rfl ?_ | refine ER.load1 rfl rfl rfl (by assumption) ?_))
  refine EK.loop ?_
  (repeat (first | refine EK.seq ?_ | refine EK.region ?_ | refine ER.done ?_ | refine EK.skip ?_ | refine EK.block ?_ | refine ER.move rfl rfl rfl ?_ | refine ER.assign rfl rfl rfl ?_ | refine ER.nilCheck rfl rfl rfl ?_ | refine ER.fieldAddr rfl rfl rfl ?_ | refine ER.cmpT rfl rfl rfl rfl rfl (by first | (dsimp only [cmpP]; omega) | exact rfl | exact Int.le_refl _) ?_ | refine ER.indexSl rfl rfl rfl rfl (by omega) (by omega) ?_ | refine EK.condT rfl ?_ | refine ER.load1 rfl rfl rfl (by assumption) ?_))
  refine ER.callD rfl rfl rfl rfl rfl (cload (ha ▸ cnt_cell r (j := 0) (by omega))) ?_
  (repeat (first | refine EK.region ?_ | refine ER.done ?_ | refine EK.inBlock ?_ | refine ER.move rfl rfl rfl ?_ | refine ER.assign rfl rfl rfl ?_ | refine ER.add (kd := .i64) rfl rfl rfl rfl (i64_in (by omega) (by omega)) ?_))
  refine EK.inLoop ?_
  (repeat (first | refine EK.seq ?_ | refine EK.region ?_ | refine ER.done ?_ | refine EK.skip ?_ | refine EK.block ?_ | refine ER.move rfl rfl rfl ?_ | refine ER.assign rfl rfl rfl ?_ | refine ER.nilCheck rfl rfl rfl ?_ | refine ER.fieldAddr rfl rfl rfl ?_ | refine ER.cmpT rfl rfl rfl rfl rfl (by first | (dsimp only [cmpP]; omega) | exact rfl | exact Int.le_refl _) ?_ | refine ER.indexSl rfl rfl rfl rfl (by omega) (by omega) ?_ | refine EK.condT rfl ?_ | refine ER.load1 rfl rfl rfl (by assumption) ?_))
  refine ER.callD rfl rfl rfl rfl rfl (cload (hb ▸ cnt_cell r (j := 1) (by omega))) ?_
  (repeat (first | refine EK.region ?_ | refine ER.done ?_ | refine EK.inBlock ?_ | refine ER.move rfl rfl rfl ?_ | refine ER.assign rfl rfl rfl ?_ | refine ER.add (kd := .i64) rfl rfl rfl rfl (i64_in (by omega) (by omega)) ?_))
  refine EK.inLoop ?_
  (repeat (first | refine EK.seq ?_ | refine EK.region ?_ | refine ER.done ?_ | refine ER.move rfl rfl rfl ?_ | refine ER.assign rfl rfl rfl ?_ | refine ER.cmpF rfl rfl rfl rfl rfl (by first | (dsimp only [cmpP]; omega) | exact rfl | exact Int.le_refl _) ?_ | refine EK.condF rfl ?_ | refine EK.ret ?_ | refine EK.exit rfl ?_))
  refine EU.ret1 rfl rfl ⟨?_, rfl, rfl⟩
  simp
theorem raise_up {p c : Nat} {x y : Int} (hp : hcell h ⟨p, 0, none⟩ = some (ptr c)) (hc : h[c]? = some (cellO x)) (hxy : x < y) (hS : ∀ o, ¬ NoS.still δ.g ⟨c, o, none⟩) :
    CallW Try.prog main NoS 33 #[ptr p, .pointer none, .int .i64 y] h δ (Ret (Det (.bool true) (h.setIfInBounds c (cellO y)) δ)) := by
  refine CallW.start (n := 43) rfl rfl ?_
  (repeat (first | refine EK.seq ?_ | refine EK.region ?_ | refine ER.done ?_ | refine EK.skip ?_ | refine ER.move rfl rfl rfl ?_ | refine ER.assign rfl rfl rfl ?_ | refine ER.nilCheck rfl rfl rfl ?_ | refine ER.fieldAddr rfl rfl rfl ?_ | refine ER.eqV rfl rfl rfl rfl rfl ?_ | refine ER.pickF rfl rfl rfl rfl ?_ | refine EK.condF rfl ?_ | refine ER.load1 rfl rfl rfl (by assumption) ?_ | refine EK.scope ?_ | refine EK.label ?_))
  refine ER.callD rfl rfl rfl rfl rfl (cload hc) ?_
  (repeat (first | refine ER.done ?_ | refine EK.block ?_ | refine ER.assign rfl rfl rfl ?_))
  refine EK.loop ?_
  (repeat (first | refine EK.seq ?_ | refine EK.region ?_ | refine ER.done ?_ | refine EK.skip ?_ | refine EK.block ?_ | refine ER.move rfl rfl rfl ?_ | refine ER.nilCheck rfl rfl rfl ?_ | refine ER.fieldAddr rfl rfl rfl ?_ | refine ER.cmpT rfl rfl rfl rfl rfl (by first | (dsimp only [cmpP]; omega) | exact rfl | exact Int.le_refl _) ?_ | refine EK.condT rfl ?_ | refine ER.load1 rfl rfl rfl (by assumption) ?_))
  refine ER.callD rfl rfl rfl rfl rfl (ccas_yes hc hS) ?_
  (repeat (first | refine EK.seq ?_ | refine EK.region ?_ | refine ER.done ?_ | refine ER.move rfl rfl rfl ?_ | refine ER.assign rfl rfl rfl ?_ | refine EK.condT rfl ?_ | refine EK.ret ?_ | refine EK.exit rfl ?_))
  exact EU.ret1 rfl rfl det
theorem top_ok {p c : Nat} {x : Int} (hp : hcell h ⟨p, 0, none⟩ = some (ptr c)) (hc : h[c]? = some (cellO x)) : CallW Try.prog main NoS 37 #[ptr p, .pointer none] h δ (Ret (Det (.int .i64 x) h δ)) := by
  refine CallW.start (n := 13) rfl rfl ?_
  (repeat (first | refine EK.seq ?_ | refine EK.region ?_ | refine ER.done ?_ | refine EK.skip ?_ | refine ER.move rfl rfl rfl ?_ | refine ER.assign rfl rfl rfl ?_ | refine ER.nilCheck rfl rfl rfl ?_ | refine ER.fieldAddr rfl rfl rfl ?_ | refine ER.eqV rfl rfl rfl rfl rfl ?_ | refine EK.condF rfl ?_ | refine ER.load1 rfl rfl rfl (by assumption) ?_))
  refine ER.callD rfl rfl rfl rfl rfl (cload hc) ?_
  (repeat (first | refine ER.done ?_ | refine ER.assign rfl rfl rfl ?_ | refine EK.ret ?_))
  exact EU.ret1 rfl rfl det
theorem ttake_yes {k c : Nat} {x : Int} (hp : hcell h ⟨k, 1, none⟩ = some (ptr c)) (hc : h[c]? = some (cellO x)) (hx : 0 < x) (hx1 : x <= 1000000) (hS : ∀ o, ¬ NoS.still δ.g ⟨c, o, none⟩) :
    CallW Try.prog main NoS 34 #[ptr k, .pointer none] h δ (Ret (Det (.bool true) (h.setIfInBounds c (cellO (x - 1))) δ)) := by
  refine CallW.start (n := 38) rfl rfl ?_
  (repeat (first | refine EK.seq ?_ | refine EK.region ?_ | refine ER.done ?_ | refine EK.skip ?_ | refine ER.move rfl rfl rfl ?_ | refine ER.assign rfl rfl rfl ?_ | refine ER.nilCheck rfl rfl rfl ?_ | refine ER.fieldAddr rfl rfl rfl ?_ | refine ER.eqV rfl rfl rfl rfl rfl ?_ | refine ER.pickF rfl rfl rfl rfl ?_ | refine EK.condF rfl ?_ | refine ER.load1 rfl rfl rfl (by assumption) ?_))
  refine ER.callD rfl rfl rfl rfl rfl (cload hc) ?_
  (repeat (first | refine ER.done ?_ | refine EK.block ?_ | refine ER.assign rfl rfl rfl ?_))
  refine EK.loop ?_
  (repeat (first | refine EK.seq ?_ | refine EK.region ?_ | refine ER.done ?_ | refine EK.skip ?_ | refine EK.block ?_ | refine ER.move rfl rfl rfl ?_ | refine ER.nilCheck rfl rfl rfl ?_ | refine ER.fieldAddr rfl rfl rfl ?_ | refine ER.cmpT rfl rfl rfl rfl rfl (by first | (dsimp only [cmpP]; omega) | exact rfl | exact Int.le_refl _) ?_ | refine ER.sub' (kd := .i64) rfl rfl rfl rfl (i64_in (by omega) (by omega)) ?_ | refine EK.condT rfl ?_ | refine ER.load1 rfl rfl rfl (by assumption) ?_))
  refine ER.callD rfl rfl rfl rfl rfl (ccas_yes hc hS) ?_
  (repeat (first | refine EK.seq ?_ | refine EK.region ?_ | refine ER.done ?_ | refine ER.assign rfl rfl rfl ?_ | refine EK.condT rfl ?_ | refine EK.ret ?_))
  exact EU.ret1 rfl rfl det
theorem ttake_none {k c : Nat} (hp : hcell h ⟨k, 1, none⟩ = some (ptr c)) (hc : h[c]? = some (cellO 0)) : CallW Try.prog main NoS 34 #[ptr k, .pointer none] h δ (Ret (Det (.bool false) h δ)) := by
  refine CallW.start (n := 38) rfl rfl ?_
  (repeat (first | refine EK.seq ?_ | refine EK.region ?_ | refine ER.done ?_ | refine EK.skip ?_ | refine ER.move rfl rfl rfl ?_ | refine ER.assign rfl rfl rfl ?_ | refine ER.nilCheck rfl rfl rfl ?_ | refine ER.fieldAddr rfl rfl rfl ?_ | refine ER.eqV rfl rfl rfl rfl rfl ?_ | refine ER.pickF rfl rfl rfl rfl ?_ | refine EK.condF rfl ?_ | refine ER.load1 rfl rfl rfl (by assumption) ?_))
  refine ER.callD rfl rfl rfl rfl rfl (cload hc) ?_
  (repeat (first | refine ER.done ?_ | refine EK.block ?_ | refine ER.assign rfl rfl rfl ?_))
  refine EK.loop ?_
  (repeat (first | refine EK.seq ?_ | refine EK.region ?_ | refine ER.done ?_ | refine ER.move rfl rfl rfl ?_ | refine ER.assign rfl rfl rfl ?_ | refine ER.cmpF rfl rfl rfl rfl rfl (by first | (dsimp only [cmpP]; omega) | exact rfl | exact Int.le_refl _) ?_ | refine EK.condF rfl ?_ | refine EK.ret ?_ | refine EK.exit rfl ?_))
  exact EU.ret1 rfl rfl det
set_option maxRecDepth 8000 in
set_option maxHeartbeats 4000000 in
theorem cntworks_ok : CallW Try.prog main NoS 26 #[] h δ (Ret fun w h' δ' => w = .bool true /\ Upd (fun _ => False) h h' /\ δ' = δ) := by
  refine CallW.start (n := 73) rfl rfl ?_
  (repeat (first | refine EK.seq ?_ | refine EK.region ?_ | refine ER.done ?_ | refine ER.assign rfl rfl rfl ?_))
  refine ER.callR rfl rfl rfl rfl rfl (cntnew_ok (n := 2) (by omega) (by omega) (fun _ _ _ x => x)) ?_
  rintro _ h1 δ1 ⟨rfl, u1, cap, rest, B, rfl, r1, ab⟩
  (repeat (first | refine EK.seq ?_ | refine EK.region ?_ | refine ER.done ?_ | refine ER.move rfl rfl rfl ?_ | refine ER.assign rfl rfl rfl ?_ | refine ER.extract rfl rfl rfl rfl ?_))
  refine ER.callD rfl rfl rfl rfl rfl (ticknew_ok (n := 1) (by omega) (fun _ _ _ x => x)) ?_
  obtain ⟨u2, s2, k0, k1⟩ := push2 h1 (cellO 1) (.cells #[.int .i64 1, ptr h1.size] 118)
  have l0 := (r1.lt (k := 4) (.inr (.inr (by omega))))
  have l1 := (r1.lt (k := 5) (.inr (.inr (by omega))))
  have r2 := r1.upd0 u2
  generalize hK : h1.size = K at k0 k1 s2 u2 r2 ⊢
  generalize (h1.push (cellO 1)).push (.cells #[.int .i64 1, ptr K] 118) = h2 at k0 k1 s2 u2 r2 ⊢
  (repeat (first | refine EK.seq ?_ | refine EK.region ?_ | refine ER.done ?_ | refine ER.move rfl rfl rfl ?_ | refine ER.assign rfl rfl rfl ?_ | refine ER.extract rfl rfl rfl rfl ?_))
  refine ER.callD rfl rfl rfl rfl rfl (peaknew_ok (n := 3) (fun _ _ _ x => x)) ?_
  obtain ⟨u3, s3, p0, p1⟩ := push2 h2 (cellO 3) (.cells #[ptr h2.size] 120)
  have r3 := r2.upd0 u3
  replace k0 := u3.get k0 (fun x => x)
  replace k1 := u3.get k1 (fun x => x)
  generalize hP : h2.size = P at p0 p1 s3 s2 u3 r3 k0 k1 ⊢
  generalize (h2.push (cellO 3)).push (.cells #[ptr P] 120) = h3 at k0 k1 p0 p1 s3 u3 r3 ⊢
  have uu := (u1.trans u2).trans u3
  change B 4 < h1.size at l0
  change B 5 < h1.size at l1
  (repeat (first | refine EK.seq ?_ | refine EK.region ?_ | refine ER.done ?_ | refine EK.skip ?_ | refine ER.move rfl rfl rfl ?_ | refine ER.assign rfl rfl rfl ?_ | refine ER.eqV rfl rfl rfl rfl rfl ?_ | refine ER.pickF rfl rfl rfl rfl ?_ | refine ER.cmpF rfl rfl rfl rfl rfl (by first | (dsimp only [cmpP]; omega) | exact rfl | exact Int.le_refl _) ?_ | refine EK.condF rfl ?_))
  refine ER.callD rfl rfl rfl rfl rfl (cntadd_ok (j := 1) (x := 7) r3 (by omega) (by omega) (by omega) (by decide) (by decide) (fun _ x => x)) ?_
  (repeat (first | refine EK.seq ?_ | refine EK.region ?_ | refine ER.done ?_ | refine ER.move rfl rfl rfl ?_ | refine ER.assign rfl rfl rfl ?_))
  refine ER.callD rfl rfl rfl rfl rfl (cntadd_ok (j := 0) (x := 6) (cnt_set r3 (j := 1) (by omega) 7) (by omega) (by omega) (by omega) (by decide) (by decide) (fun _ x => x)) ?_
  have r5 := cnt_set (cnt_set r3 (j := 1) (by omega) 7) (j := 0) (by omega) 6
  refine ER.gen (fun h5 => Rep h5 (cntM 2 cap rest B (ut (ut (fun _ => 0) 1 7) 0 6)) /\ h5[K]? = some (cellO 1) /\ h5[K + 1]? = some (.cells #[.int .i64 1, ptr K] 118 (0, 0)) /\ h5[P]? = some (cellO 3) /\ h5[P + 1]? = some (.cells #[ptr P] 120 (0, 0)) /\ Upd (fun _ => False) h h5) ?_ ?_
  · have a4 := ab 4 (.inr (.inr (by omega)))
    have a5 := ab 5 (.inr (.inr (by omega)))
    have t : ∀ {x : Nat} {o : Obj}, x ≠ B 4 -> x ≠ B 5 -> h3[x]? = some o -> ((h3.setIfInBounds (B (4 + 1)) (cellO 7)).setIfInBounds (B (4 + 0)) (cellO 6))[x]? = some o := fun e4 e5 hx => by
      rw [get_set_ne _ (Ne.symm e4), get_set_ne _ (Ne.symm e5)]; exact hx
    refine ⟨r5, t (by omega) (by omega) k0, t (by omega) (by omega) k1, t (by omega) (by omega) p0, t (by omega) (by omega) p1, ?_⟩
    exact (uu.over (Upd.set (T := fun b => b = B 5) _ _ _ rfl) (fun b hb => by rw [hb]; exact a5)).over (Upd.set (T := fun b => b = B 4) _ _ _ rfl) (fun b hb => by rw [hb]; exact a4)
  clear r5 r3 r2 r1 k0 k1 p0 p1 uu u2 u3 s3
  rintro h5 ⟨r5, k0, k1, p0, p1, uu⟩
  have kc : hcell h5 ⟨K + 1, 1, none⟩ = some (ptr K) := hcell_of k1 rfl
  have pc : hcell h5 ⟨P + 1, 0, none⟩ = some (ptr P) := hcell_of p1 rfl
  (repeat (first | refine EK.seq ?_ | refine EK.region ?_ | refine ER.done ?_ | refine ER.move rfl rfl rfl ?_ | refine ER.assign rfl rfl rfl ?_ | refine ER.pickT rfl rfl rfl rfl ?_ | refine ER.cmpT rfl rfl rfl rfl rfl (by first | (dsimp only [cmpP]; omega) | exact rfl | exact Int.le_refl _) ?_))
  refine ER.callD rfl rfl rfl rfl rfl (cntsum_two (a := 6) (b := 7) r5 rfl rfl (by omega) (by omega) (by omega) (by omega)) ?_
  (repeat (first | refine ER.move rfl rfl rfl ?_ | refine ER.pickT rfl rfl rfl rfl ?_ | refine ER.cmpT rfl rfl rfl rfl rfl (by first | (dsimp only [cmpP]; omega) | exact rfl | exact Int.le_refl _) ?_))
  refine ER.callD rfl rfl rfl rfl rfl (raise_up pc p0 (by omega) (fun _ x => x)) ?_
  have u6 := Upd.set (T := fun b => b = P) h5 P (cellO 9) rfl
  have p0' := get_set_same p0 (o' := cellO 9)
  have pc' := u6.hcell pc (by show P + 1 ≠ P; omega)
  have k0' := u6.get k0 (by omega)
  have kc' := u6.hcell kc (by show K + 1 ≠ P; omega)
  replace uu := uu.over u6 (fun b hb => by have := u1.size; omega)
  generalize h5.setIfInBounds P (cellO 9) = h6 at uu p0' pc' k0' kc' ⊢
  (repeat (first | refine ER.move rfl rfl rfl ?_ | refine ER.pickT rfl rfl rfl rfl ?_))
  refine ER.callD rfl rfl rfl rfl rfl (top_ok pc' p0') ?_
  (repeat (first | refine ER.move rfl rfl rfl ?_ | refine ER.pickT rfl rfl rfl rfl ?_ | refine ER.cmpT rfl rfl rfl rfl rfl (by first | (dsimp only [cmpP]; omega) | exact rfl | exact Int.le_refl _) ?_))
  refine ER.callD rfl rfl rfl rfl rfl (ttake_yes kc' k0' (by omega) (by omega) (fun _ x => x)) ?_
  have u7 := Upd.set (T := fun b => b = K) h6 K (cellO (1 - 1)) rfl
  have k0'' := get_set_same k0' (o' := cellO (1 - 1))
  have kc'' := u7.hcell kc' (by show K + 1 ≠ K; omega)
  replace uu := uu.over u7 (fun b hb => by have := u1.size; omega)
  generalize h6.setIfInBounds K (cellO (1 - 1)) = h7 at uu k0'' kc'' ⊢
  (repeat (first | refine ER.move rfl rfl rfl ?_ | refine ER.pickT rfl rfl rfl rfl ?_))
  refine ER.callD rfl rfl rfl rfl rfl (ttake_none kc'' k0'') ?_
  (repeat (first | refine ER.move rfl rfl rfl ?_ | refine ER.notB rfl rfl rfl ?_ | refine ER.pickT rfl rfl rfl rfl ?_))
  refine ER.callD rfl rfl rfl rfl rfl (tleft_ok kc'' k0'') ?_
  (repeat (first | refine ER.done ?_ | refine ER.assign rfl rfl rfl ?_ | refine ER.pickT rfl rfl rfl rfl ?_ | refine ER.cmpT rfl rfl rfl rfl rfl (by first | (dsimp only [cmpP]; omega) | exact rfl | exact Int.le_refl _) ?_ | refine EK.ret ?_))
  exact EU.ret1 rfl rfl ⟨rfl, uu, rfl⟩
end
end
section
open Go Go.TJ Go.Proofs
variable [Dm]
theorem wrapE (x : Int) : IntKind.i64.wrap x = (x + 9223372036854775808) % 18446744073709551616 - 9223372036854775808 := by
  simp only [IntKind.wrap, IntKind.signed, IntKind.bits]
  simp
  omega
theorem wrap_add (a b : Int) : IntKind.i64.wrap (IntKind.i64.wrap a + b) = IntKind.i64.wrap (a + b) := by
  rw [wrapE, wrapE, wrapE]; omega
theorem wrap_mul (a q : Int) : IntKind.i64.wrap (a + q * M64) = IntKind.i64.wrap a := by
  unfold M64
  rw [wrapE, wrapE]; omega
section
variable {Γ : Type} {main : Bool} {h : Hp} {δ : Ix Γ}
theorem place_ok {x : Int} {n : Nat} (hn : 0 < n) (hn2 : n <= 1000) : CallW Try.prog main NoS 9 #[.int .i64 x, .int .i64 n] h δ (Ret (Det (.int .i64 (x % (n : Int))) h δ)) := by
  have h1 := Int.lt_tmod_of_pos x (b := (n : Int)) (by omega)
  have h2 := Int.tmod_lt_of_pos x (b := (n : Int)) (by omega)
  have e1 : x.tmod n < 0 -> x % (n : Int) = x.tmod n + n := fun hx => by
    have a := Int.mul_tdiv_add_tmod x n
    have b : x % (n : Int) = (x.tmod n + n) % n := by
      rw [Int.add_emod_right]
      conv => lhs; rw [<- a]
      rw [Int.add_comm, Int.add_mul_emod_self_left]
    rw [b, Int.emod_eq_of_lt (by omega) (by omega)]
  have e2 : 0 <= x.tmod n -> x % (n : Int) = x.tmod n := fun hx => by
    have a := Int.mul_tdiv_add_tmod x n
    have b : x % (n : Int) = (x.tmod n) % n := by
      conv => lhs; rw [<- a]
      rw [Int.add_comm, Int.add_mul_emod_self_left]
    rw [b, Int.emod_eq_of_lt (by omega) (by omega)]
  refine CallW.start (n := 15) rfl rfl ?_
  (repeat (first | refine EK.seq ?_ | refine EK.region ?_ | refine ER.done ?_ | refine EK.skip ?_ | refine EK.block ?_ | refine EK.inBlock ?_ | refine ER.move rfl rfl rfl ?_ | refine ER.assign rfl rfl rfl ?_ | refine ER.nilCheck rfl rfl rfl ?_ | refine ER.fieldAddr rfl rfl rfl ?_ | refine ER.load1 rfl rfl rfl (hcell_of (by assumption) rfl) ?_ | refine ER.no rfl rfl ?_ | refine ER.noU rfl ?_ | refine ER.eqV rfl rfl rfl rfl rfl ?_ | refine ER.neqV rfl rfl rfl rfl rfl ?_ | refine ER.eqA rfl rfl rfl rfl rfl ?_ | refine ER.neqA rfl rfl rfl rfl rfl ?_ | refine ER.notB rfl rfl rfl ?_ | refine ER.pickT rfl rfl rfl rfl ?_ | refine ER.pickF rfl rfl rfl rfl ?_ | refine ER.extract rfl rfl rfl rfl ?_ | refine ER.cmpT rfl rfl rfl rfl rfl (by first | (dsimp only [cmpP]; omega) | exact rfl | exact Int.le_refl _) ?_ | refine ER.cmpF rfl rfl rfl rfl rfl (by first | (dsimp only [cmpP]; omega) | exact rfl | exact Int.le_refl _) ?_ | refine ER.boxA rfl rfl rfl ?_ | refine ER.box rfl rfl rfl ?_ | refine ER.allocA rfl rfl ?_ | refine ER.alloc rfl rfl ?_ | refine ER.add (kd := .i64) rfl rfl rfl rfl (i64_in (by omega) (by omega)) ?_ | refine ER.sub' (kd := .i64) rfl rfl rfl rfl (i64_in (by omega) (by omega)) ?_ | refine ER.mul (kd := .i64) rfl rfl rfl rfl (i64_in (by omega) (by omega)) ?_ | refine ER.rem (kd := .i64) rfl rfl rfl rfl (by decide) rfl ?_ | refine ER.indexArr rfl rfl rfl rfl (by omega) (by omega) ?_ | refine ER.len1 rfl rfl rfl ?_ | refine ER.indexSl rfl rfl rfl rfl (by omega) (by omega) ?_ | refine EK.condT rfl ?_ | refine EK.condF rfl ?_ | refine EK.ret ?_ | refine EK.exit rfl ?_ | refine ER.load1 rfl rfl rfl (by assumption) ?_ | refine EK.scope ?_ | refine EK.inScope ?_ | refine EK.label ?_))
  refine ER.rem (kd := .i64) rfl rfl rfl rfl (by omega) rfl ?_
  generalize x.tmod (n : Int) = r at h1 h2 e1 e2 ⊢
  rcases Int.lt_or_le r 0 with y | y
  · (repeat (first | refine EK.seq ?_ | refine EK.region ?_ | refine ER.done ?_ | refine EK.skip ?_ | refine EK.block ?_ | refine EK.inBlock ?_ | refine ER.move rfl rfl rfl ?_ | refine ER.assign rfl rfl rfl ?_ | refine ER.nilCheck rfl rfl rfl ?_ | refine ER.fieldAddr rfl rfl rfl ?_ | refine ER.load1 rfl rfl rfl (hcell_of (by assumption) rfl) ?_ | refine ER.no rfl rfl ?_ | refine ER.noU rfl ?_ | refine ER.eqV rfl rfl rfl rfl rfl ?_ | refine ER.neqV rfl rfl rfl rfl rfl ?_ | refine ER.eqA rfl rfl rfl rfl rfl ?_ | refine ER.neqA rfl rfl rfl rfl rfl ?_ | refine ER.notB rfl rfl rfl ?_ | refine ER.pickT rfl rfl rfl rfl ?_ | refine ER.pickF rfl rfl rfl rfl ?_ | refine ER.extract rfl rfl rfl rfl ?_ | refine ER.cmpT rfl rfl rfl rfl rfl (by first | (dsimp only [cmpP]; omega) | exact rfl | exact Int.le_refl _) ?_ | refine ER.cmpF rfl rfl rfl rfl rfl (by first | (dsimp only [cmpP]; omega) | exact rfl | exact Int.le_refl _) ?_ | refine ER.boxA rfl rfl rfl ?_ | refine ER.box rfl rfl rfl ?_ | refine ER.allocA rfl rfl ?_ | refine ER.alloc rfl rfl ?_ | refine ER.add (kd := .i64) rfl rfl rfl rfl (i64_in (by omega) (by omega)) ?_ | refine ER.sub' (kd := .i64) rfl rfl rfl rfl (i64_in (by omega) (by omega)) ?_ | refine ER.mul (kd := .i64) rfl rfl rfl rfl (i64_in (by omega) (by omega)) ?_ | refine ER.rem (kd := .i64) rfl rfl rfl rfl (by decide) rfl ?_ | refine ER.indexArr rfl rfl rfl rfl (by omega) (by omega) ?_ | refine ER.len1 rfl rfl rfl ?_ | refine ER.indexSl rfl rfl rfl rfl (by omega) (by omega) ?_ | refine EK.condT rfl ?_ | refine EK.condF rfl ?_ | refine EK.ret ?_ | refine EK.exit rfl ?_ | refine ER.load1 rfl rfl rfl (by assumption) ?_ | refine EK.scope ?_ | refine EK.inScope ?_ | refine EK.label ?_))
    exact EU.ret1 rfl rfl ⟨by rw [e1 y], rfl, rfl⟩
  · (repeat (first | refine EK.seq ?_ | refine EK.region ?_ | refine ER.done ?_ | refine EK.skip ?_ | refine EK.block ?_ | refine EK.inBlock ?_ | refine ER.move rfl rfl rfl ?_ | refine ER.assign rfl rfl rfl ?_ | refine ER.nilCheck rfl rfl rfl ?_ | refine ER.fieldAddr rfl rfl rfl ?_ | refine ER.load1 rfl rfl rfl (hcell_of (by assumption) rfl) ?_ | refine ER.no rfl rfl ?_ | refine ER.noU rfl ?_ | refine ER.eqV rfl rfl rfl rfl rfl ?_ | refine ER.neqV rfl rfl rfl rfl rfl ?_ | refine ER.eqA rfl rfl rfl rfl rfl ?_ | refine ER.neqA rfl rfl rfl rfl rfl ?_ | refine ER.notB rfl rfl rfl ?_ | refine ER.pickT rfl rfl rfl rfl ?_ | refine ER.pickF rfl rfl rfl rfl ?_ | refine ER.extract rfl rfl rfl rfl ?_ | refine ER.cmpT rfl rfl rfl rfl rfl (by first | (dsimp only [cmpP]; omega) | exact rfl | exact Int.le_refl _) ?_ | refine ER.cmpF rfl rfl rfl rfl rfl (by first | (dsimp only [cmpP]; omega) | exact rfl | exact Int.le_refl _) ?_ | refine ER.boxA rfl rfl rfl ?_ | refine ER.box rfl rfl rfl ?_ | refine ER.allocA rfl rfl ?_ | refine ER.alloc rfl rfl ?_ | refine ER.add (kd := .i64) rfl rfl rfl rfl (i64_in (by omega) (by omega)) ?_ | refine ER.sub' (kd := .i64) rfl rfl rfl rfl (i64_in (by omega) (by omega)) ?_ | refine ER.mul (kd := .i64) rfl rfl rfl rfl (i64_in (by omega) (by omega)) ?_ | refine ER.rem (kd := .i64) rfl rfl rfl rfl (by decide) rfl ?_ | refine ER.indexArr rfl rfl rfl rfl (by omega) (by omega) ?_ | refine ER.len1 rfl rfl rfl ?_ | refine ER.indexSl rfl rfl rfl rfl (by omega) (by omega) ?_ | refine EK.condT rfl ?_ | refine EK.condF rfl ?_ | refine EK.ret ?_ | refine EK.exit rfl ?_ | refine ER.load1 rfl rfl rfl (by assumption) ?_ | refine EK.scope ?_ | refine EK.inScope ?_ | refine EK.label ?_))
    exact EU.ret1 rfl rfl ⟨by rw [e2 y], rfl, rfl⟩
set_option maxHeartbeats 4000000 in
theorem cntsum_all {cb sb S cap : Nat} {B : Nat -> Nat} {v : Nat -> Int} (hS : S <= 1000) (hC : hcell h ⟨cb, 0, none⟩ = some (.slice (some ⟨sb, 0, none⟩) S cap)) (hB : ∀ j, j < S -> hcell h ⟨sb, j, none⟩ = some (.pointer (some ⟨B j, 0, none⟩)) /\ h[B j]? = some (cellO (v j))) :
    CallW Try.prog main NoS 36 #[.pointer (some ⟨cb, 0, none⟩), .pointer none] h δ (Ret (Det (.int .i64 (IntKind.i64.wrap (zsum S v))) h δ)) := by
  refine CallW.start (n := 30) rfl rfl ?_
  (repeat (first | refine EK.seq ?_ | refine EK.region ?_ | refine ER.done ?_ | refine EK.skip ?_ | refine EK.block ?_ | refine EK.inBlock ?_ | refine ER.move rfl rfl rfl ?_ | refine ER.assign rfl rfl rfl ?_ | refine ER.nilCheck rfl rfl rfl ?_ | refine ER.fieldAddr rfl rfl rfl ?_ | refine ER.load1 rfl rfl rfl (hcell_of (by assumption) rfl) ?_ | refine ER.no rfl rfl ?_ | refine ER.noU rfl ?_ | refine ER.eqV rfl rfl rfl rfl rfl ?_ | refine ER.neqV rfl rfl rfl rfl rfl ?_ | refine ER.eqA rfl rfl rfl rfl rfl ?_ | refine ER.neqA rfl rfl rfl rfl rfl ?_ | refine ER.notB rfl rfl rfl ?_ | refine ER.pickT rfl rfl rfl rfl ?_ | refine ER.pickF rfl rfl rfl rfl ?_ | refine ER.extract rfl rfl rfl rfl ?_ | refine ER.cmpT rfl rfl rfl rfl rfl (by first | (dsimp only [cmpP]; omega) | exact rfl | exact Int.le_refl _) ?_ | refine ER.cmpF rfl rfl rfl rfl rfl (by first | (dsimp only [cmpP]; omega) | exact rfl | exact Int.le_refl _) ?_ | refine ER.boxA rfl rfl rfl ?_ | refine ER.box rfl rfl rfl ?_ | refine ER.allocA rfl rfl ?_ | refine ER.alloc rfl rfl ?_ | refine ER.add (kd := .i64) rfl rfl rfl rfl (i64_in (by omega) (by omega)) ?_ | refine ER.sub' (kd := .i64) rfl rfl rfl rfl (i64_in (by omega) (by omega)) ?_ | refine ER.mul (kd := .i64) rfl rfl rfl rfl (i64_in (by omega) (by omega)) ?_ | refine ER.rem (kd := .i64) rfl rfl rfl rfl (by decide) rfl ?_ | refine ER.indexArr rfl rfl rfl rfl (by omega) (by omega) ?_ | refine ER.len1 rfl rfl rfl ?_ | refine ER.indexSl rfl rfl rfl rfl (by omega) (by omega) ?_ | refine EK.condT rfl ?_ | refine EK.condF rfl ?_ | refine EK.ret ?_ | refine EK.exit rfl ?_ | refine ER.load1 rfl rfl rfl (by assumption) ?_ | refine EK.scope ?_ | refine EK.inScope ?_ | refine EK.label ?_))
  refine EK.loopInv (fun j : Nat => [(14, .int .i64 j), (13, .int .i64 S), (5, .int .i64 (IntKind.i64.wrap (zsum j v))), (0, .pointer (some ⟨cb, 0, none⟩)), (1, .pointer none)]) (fun j h' δ' => h' = h /\ δ' = δ /\ j <= S) (fun j => S - j) 0 ⟨rfl, rfl, rfl, rfl, rfl, trivial⟩ ⟨rfl, rfl, Nat.zero_le _⟩ ?_
  rintro j h' δ' ⟨rfl, rfl, hj⟩ again
  rcases Nat.lt_or_ge j S with hlt | hge
  · obtain ⟨b1, b2⟩ := hB j hlt
    have b1' : hcell h' ⟨sb, 0 + ((j : Nat) : Int).toNat * 1, none⟩ = some (.pointer (some ⟨B j, 0, none⟩)) := by rw [show 0 + ((j : Nat) : Int).toNat * 1 = j by simp]; exact b1
    (repeat (first | refine EK.seq ?_ | refine EK.region ?_ | refine ER.done ?_ | refine EK.skip ?_ | refine EK.block ?_ | refine EK.inBlock ?_ | refine ER.move rfl rfl rfl ?_ | refine ER.assign rfl rfl rfl ?_ | refine ER.nilCheck rfl rfl rfl ?_ | refine ER.fieldAddr rfl rfl rfl ?_ | refine ER.load1 rfl rfl rfl (hcell_of (by assumption) rfl) ?_ | refine ER.no rfl rfl ?_ | refine ER.noU rfl ?_ | refine ER.eqV rfl rfl rfl rfl rfl ?_ | refine ER.neqV rfl rfl rfl rfl rfl ?_ | refine ER.eqA rfl rfl rfl rfl rfl ?_ | refine ER.neqA rfl rfl rfl rfl rfl ?_ | refine ER.notB rfl rfl rfl ?_ | refine ER.pickT rfl rfl rfl rfl ?_ | refine ER.pickF rfl rfl rfl rfl ?_ | refine ER.extract rfl rfl rfl rfl ?_ | refine ER.cmpT rfl rfl rfl rfl rfl (by first | (dsimp only [cmpP]; omega) | exact rfl | exact Int.le_refl _) ?_ | refine ER.cmpF rfl rfl rfl rfl rfl (by first | (dsimp only [cmpP]; omega) | exact rfl | exact Int.le_refl _) ?_ | refine ER.boxA rfl rfl rfl ?_ | refine ER.box rfl rfl rfl ?_ | refine ER.allocA rfl rfl ?_ | refine ER.alloc rfl rfl ?_ | refine ER.add (kd := .i64) rfl rfl rfl rfl (i64_in (by omega) (by omega)) ?_ | refine ER.sub' (kd := .i64) rfl rfl rfl rfl (i64_in (by omega) (by omega)) ?_ | refine ER.mul (kd := .i64) rfl rfl rfl rfl (i64_in (by omega) (by omega)) ?_ | refine ER.rem (kd := .i64) rfl rfl rfl rfl (by decide) rfl ?_ | refine ER.indexArr rfl rfl rfl rfl (by omega) (by omega) ?_ | refine ER.len1 rfl rfl rfl ?_ | refine ER.indexSl rfl rfl rfl rfl (by omega) (by omega) ?_ | refine EK.condT rfl ?_ | refine EK.condF rfl ?_ | refine EK.ret ?_ | refine EK.exit rfl ?_ | refine ER.load1 rfl rfl rfl (by assumption) ?_ | refine EK.scope ?_ | refine EK.inScope ?_ | refine EK.label ?_))
    refine ER.callD rfl rfl rfl rfl rfl (cload b2) ?_
    refine ER.add (kd := .i64) (r := IntKind.i64.wrap (zsum (j + 1) v)) rfl rfl rfl rfl (by rw [wrap_add]; rfl) ?_
    (repeat (first | refine EK.seq ?_ | refine EK.region ?_ | refine ER.done ?_ | refine EK.skip ?_ | refine EK.block ?_ | refine EK.inBlock ?_ | refine ER.move rfl rfl rfl ?_ | refine ER.assign rfl rfl rfl ?_ | refine ER.nilCheck rfl rfl rfl ?_ | refine ER.fieldAddr rfl rfl rfl ?_ | refine ER.load1 rfl rfl rfl (hcell_of (by assumption) rfl) ?_ | refine ER.no rfl rfl ?_ | refine ER.noU rfl ?_ | refine ER.eqV rfl rfl rfl rfl rfl ?_ | refine ER.neqV rfl rfl rfl rfl rfl ?_ | refine ER.eqA rfl rfl rfl rfl rfl ?_ | refine ER.neqA rfl rfl rfl rfl rfl ?_ | refine ER.notB rfl rfl rfl ?_ | refine ER.pickT rfl rfl rfl rfl ?_ | refine ER.pickF rfl rfl rfl rfl ?_ | refine ER.extract rfl rfl rfl rfl ?_ | refine ER.cmpT rfl rfl rfl rfl rfl (by first | (dsimp only [cmpP]; omega) | exact rfl | exact Int.le_refl _) ?_ | refine ER.cmpF rfl rfl rfl rfl rfl (by first | (dsimp only [cmpP]; omega) | exact rfl | exact Int.le_refl _) ?_ | refine ER.boxA rfl rfl rfl ?_ | refine ER.box rfl rfl rfl ?_ | refine ER.allocA rfl rfl ?_ | refine ER.alloc rfl rfl ?_ | refine ER.add (kd := .i64) rfl rfl rfl rfl (i64_in (by omega) (by omega)) ?_ | refine ER.sub' (kd := .i64) rfl rfl rfl rfl (i64_in (by omega) (by omega)) ?_ | refine ER.mul (kd := .i64) rfl rfl rfl rfl (i64_in (by omega) (by omega)) ?_ | refine ER.rem (kd := .i64) rfl rfl rfl rfl (by decide) rfl ?_ | refine ER.indexArr rfl rfl rfl rfl (by omega) (by omega) ?_ | refine ER.len1 rfl rfl rfl ?_ | refine ER.indexSl rfl rfl rfl rfl (by omega) (by omega) ?_ | refine EK.condT rfl ?_ | refine EK.condF rfl ?_ | refine EK.ret ?_ | refine EK.exit rfl ?_ | refine ER.load1 rfl rfl rfl (by assumption) ?_ | refine EK.scope ?_ | refine EK.inScope ?_ | refine EK.label ?_))
    exact EK.back (again (j + 1) _ _ (by omega) ⟨rfl, rfl, hlt⟩) ⟨rfl, rfl, rfl, rfl, rfl, trivial⟩
  · obtain rfl : j = S := by omega
    (repeat (first | refine EK.seq ?_ | refine EK.region ?_ | refine ER.done ?_ | refine EK.skip ?_ | refine EK.block ?_ | refine EK.inBlock ?_ | refine ER.move rfl rfl rfl ?_ | refine ER.assign rfl rfl rfl ?_ | refine ER.nilCheck rfl rfl rfl ?_ | refine ER.fieldAddr rfl rfl rfl ?_ | refine ER.load1 rfl rfl rfl (hcell_of (by assumption) rfl) ?_ | refine ER.no rfl rfl ?_ | refine ER.noU rfl ?_ | refine ER.eqV rfl rfl rfl rfl rfl ?_ | refine ER.neqV rfl rfl rfl rfl rfl ?_ | refine ER.eqA rfl rfl rfl rfl rfl ?_ | refine ER.neqA rfl rfl rfl rfl rfl ?_ | refine ER.notB rfl rfl rfl ?_ | refine ER.pickT rfl rfl rfl rfl ?_ | refine ER.pickF rfl rfl rfl rfl ?_ | refine ER.extract rfl rfl rfl rfl ?_ | refine ER.cmpT rfl rfl rfl rfl rfl (by first | (dsimp only [cmpP]; omega) | exact rfl | exact Int.le_refl _) ?_ | refine ER.cmpF rfl rfl rfl rfl rfl (by first | (dsimp only [cmpP]; omega) | exact rfl | exact Int.le_refl _) ?_ | refine ER.boxA rfl rfl rfl ?_ | refine ER.box rfl rfl rfl ?_ | refine ER.allocA rfl rfl ?_ | refine ER.alloc rfl rfl ?_ | refine ER.add (kd := .i64) rfl rfl rfl rfl (i64_in (by omega) (by omega)) ?_ | refine ER.sub' (kd := .i64) rfl rfl rfl rfl (i64_in (by omega) (by omega)) ?_ | refine ER.mul (kd := .i64) rfl rfl rfl rfl (i64_in (by omega) (by omega)) ?_ | refine ER.rem (kd := .i64) rfl rfl rfl rfl (by decide) rfl ?_ | refine ER.indexArr rfl rfl rfl rfl (by omega) (by omega) ?_ | refine ER.len1 rfl rfl rfl ?_ | refine ER.indexSl rfl rfl rfl rfl (by omega) (by omega) ?_ | refine EK.condT rfl ?_ | refine EK.condF rfl ?_ | refine EK.ret ?_ | refine EK.exit rfl ?_ | refine ER.load1 rfl rfl rfl (by assumption) ?_ | refine EK.scope ?_ | refine EK.inScope ?_ | refine EK.label ?_))
    exact EU.ret1 rfl rfl det
end
end
section
open Go Go.TJ Go.Proofs
variable [Dm]
structure Kd where
  n : Nat
  adds : List Int
  t : Int
  S : Nat
  cap : Nat
  rest : List Value
  B : Nat -> Nat
  aS : Option Addr
  kA : Nat
  vN : Nat
  vC : Nat
  lb : Nat
  vT : Nat
  pb : Nat
  vP : Nat
  hb : Nat
  vH : Nat
  rb : Nat
  vR : Nat
structure Kst (h : Hp) (x : Kd) (h' : Hp) : Prop where
  u : Upd (fun _ => False) h h'
  ai : ∀ k, k < x.adds.length -> ∃ b o, x.aS = some ⟨b, o, none⟩ /\ hcell h ⟨b, o + k * 1, none⟩ = some (.int .i64 (x.adds.getD k 0))
  A : h'[h.size]? = some (.cells #[.slice x.aS x.adds.length x.kA] 31 (0, 0))
  N : h'[x.vN]? = some (.cells #[.int .i64 x.n] 3 (0, 0))
  r : Rep h' (cntM x.S x.cap x.rest x.B fun _ => 0)
  bl : ∀ k, k = 0 \/ k = 1 \/ (4 <= k /\ k < 4 + x.S) -> h.size <= x.B k /\ x.B k < x.lb
  C : h'[x.vC]? = some (.cells #[.pointer (some ⟨x.B 0, 0, none⟩)] 49 (0, 0))
  l0 : h'[x.lb]? = some (cellO x.t)
  l1 : h'[x.lb + 1]? = some (.cells #[.int .i64 x.t, .pointer (some ⟨x.lb, 0, none⟩)] 118 (0, 0))
  T : h'[x.vT]? = some (.cells #[.pointer (some ⟨x.lb + 1, 0, none⟩)] 52 (0, 0))
  lp : x.lb < x.pb
  p0 : h'[x.pb]? = some (cellO (-1))
  p1 : h'[x.pb + 1]? = some (.cells #[.pointer (some ⟨x.pb, 0, none⟩)] 120 (0, 0))
  P : h'[x.vP]? = some (.cells #[.pointer (some ⟨x.pb + 1, 0, none⟩)] 55 (0, 0))
  hl : h.size <= x.hb
  hb : h'[x.hb]? = some (.cells (List.replicate x.n (Value.int .i64 0)).toArray 2 (0, 0))
  H : h'[x.vH]? = some (.cells #[.slice (some ⟨x.hb, 0, none⟩) x.n x.n] 31 (0, 0))
  rl : h.size <= x.rb
  rb : h'[x.rb]? = some (.cells (List.replicate x.n (Value.bool false)).toArray 4 (0, 0))
  R : h'[x.vR]? = some (.cells #[.slice (some ⟨x.rb, 0, none⟩) x.n x.n] 47 (0, 0))
  n1 : 1 <= x.n
  n8 : x.n <= 8
  S1 : 1 <= x.S
  S2 : x.S <= 64
  t0 : 0 <= x.t
  t1 : x.t <= 255
  al : x.adds.length <= 400
theorem Kst.upd {h h1 h2 : Hp} {x : Kd} (k : Kst h x h1) (u : Upd (fun _ => False) h1 h2) : Kst h x h2 where
  u := k.u.trans u
  ai := k.ai
  A := u.get k.A fun z => z
  N := u.get k.N fun z => z
  r := k.r.upd0 u
  bl := k.bl
  C := u.get k.C fun z => z
  l0 := u.get k.l0 fun z => z
  l1 := u.get k.l1 fun z => z
  T := u.get k.T fun z => z
  lp := k.lp
  p0 := u.get k.p0 fun z => z
  p1 := u.get k.p1 fun z => z
  P := u.get k.P fun z => z
  hl := k.hl
  hb := u.get k.hb fun z => z
  H := u.get k.H fun z => z
  rl := k.rl
  rb := u.get k.rb fun z => z
  R := u.get k.R fun z => z
  n1 := k.n1
  n8 := k.n8
  S1 := k.S1
  S2 := k.S2
  t0 := k.t0
  t1 := k.t1
  al := k.al
def Kd.sl (x : Kd) : List Nat := (List.range x.S).map fun j => x.B (4 + j)
def kCc (x : Kd) (hF : Hp) : Cc where
  n := x.n
  adds := x.adds
  tk := x.t
  sl := x.sl
  lb := x.lb
  pb := x.pb
  hb := x.hb
  rb := x.rb
  fb := hF.size
  tI := 2
  tB := 4
  ro b := b < hF.size + 2 /\ b ∉ x.sl ++ [x.lb, x.pb] /\ b ≠ x.hb /\ b ≠ x.rb /\ b ≠ hF.size /\ ∃ c e f, (frH hF x.n)[b]? = some (.cells c e f) /\ Pres (frH hF x.n) b
def kY (c : Cc) : Cy := ⟨c, fun _ => 0, c.tk, -1, fun _ => false, fun _ => false, fun _ => 0, fun _ => false, fun _ => 2 * c.adds.length + 4, fun _ => 0, fun _ => false⟩
def Kd.q (x : Kd) (h : Hp) : Kq := ⟨h.size, x.vN, x.vC, x.vP, x.vR, x.vT, x.vH, x.B 0, x.B 1, x.S, x.cap, fun j => x.B (4 + j), x.pb + 1, x.lb + 1, x.aS, x.kA⟩
section
variable {h hF : Hp} {x : Kd}
theorem Kst.cls (k : Kst h x hF) {b : Nat} (hb : b ∈ x.sl ++ [x.lb, x.pb]) : h.size <= b /\ b < hF.size /\ ∃ v, hF[b]? = some (cellO v) := by
  have key : h.size <= b /\ ∃ v, hF[b]? = some (cellO v) := by
    rcases List.mem_append.1 hb with hb | hb
    · obtain ⟨j, hj, rfl⟩ := List.mem_map.1 hb
      have hj := List.mem_range.1 hj
      exact ⟨(k.bl (4 + j) (by omega)).1, _, cnt_cell k.r hj⟩
    · have h0 := (k.bl 0 (.inl rfl))
      have hlp := k.lp
      simp at hb
      rcases hb with rfl | rfl
      · exact ⟨by omega, _, k.l0⟩
      · exact ⟨by omega, _, k.p0⟩
  exact ⟨key.1, lt_of_get key.2.choose_spec, key.2⟩
theorem Kst.ncls (k : Kst h x hF) {b : Nat} {c : Array Value} {e : TypeId} (hb : hF[b]? = some (.cells c e (0, 0))) (he : e ≠ 109) : b ∉ x.sl ++ [x.lb, x.pb] := fun hm => by
  obtain ⟨_, _, v, hv⟩ := k.cls hm
  rw [hv] at hb
  injection hb with hb
  injection hb with _ hb _
  exact he hb.symm
theorem cells_ne {b b' : Nat} {c c' : Array Value} {e e' : TypeId} (h1 : hF[b]? = some (.cells c e (0, 0))) (h2 : hF[b']? = some (.cells c' e' (0, 0))) (he : e ≠ e') : b ≠ b' := by
  rintro rfl
  rw [h1] at h2
  injection h2 with h2
  injection h2 with _ h2 _
  exact he h2
theorem Kst.roOf (k : Kst h x hF) {b : Nat} {c : Array Value} {e : TypeId} (hb : hF[b]? = some (.cells c e (0, 0))) (hc : c ≠ #[]) (h1 : e ≠ 109) (h2 : e ≠ 2) (h3 : e ≠ 4) : (kCc x hF).ro b := by
  have hlt := lt_of_get hb
  exact ⟨by omega, k.ncls hb h1, cells_ne hb k.hb h2, cells_ne hb k.rb h3, by omega, _, _, _, frH_old hb, pres_of (frH_old hb) (by unfold dum; intro z; injection z with z; exact hc z)⟩
theorem Kst.km (k : Kst h x hF) : Km (kCc x hF) (x.q h) hF where
  A := hcell_of k.A rfl
  Ai j hj := by
    obtain ⟨b, o, e, hc⟩ := k.ai j hj
    exact ⟨b, o, e, k.u.hcell hc fun z => z⟩
  N := hcell_of k.N rfl
  C := hcell_of k.C rfl
  Cb := cnt_top k.r
  Cs j hj := by
    have := cnt_row k.r hj
    rw [show 0 + j * 1 = j by omega] at this
    exact ⟨this, List.mem_map.2 ⟨j, List.mem_range.2 hj, rfl⟩⟩
  S0 := k.S1
  S1 := Nat.le_trans k.S2 (by decide)
  P := hcell_of k.P rfl
  Pk := hcell_of k.p1 rfl
  R := hcell_of k.R rfl
  T := hcell_of k.T rfl
  T0 := hcell_of k.l1 rfl
  T1 := hcell_of k.l1 rfl
  H := hcell_of k.H rfl
theorem Kst.kro (k : Kst h x hF) : Kro (kCc x hF) (x.q h) where
  A := k.roOf k.A (by simp) (by decide) (by decide) (by decide)
  Ai h0 a ha := by
    obtain ⟨b, o, e, hc⟩ := k.ai 0 h0
    have ha : x.aS = some a := ha
    rw [e] at ha
    cases ha
    obtain ⟨c, t, f, h1, h3, h4⟩ := hcell_some hc
    have hlt := lt_of_get h1
    have h2 : hF[b]? = some (.cells c t f) := k.u.get h1 fun z => z
    have h5 := lt_of_get h2
    have e1 := k.hl
    have e2 := k.rl
    exact ⟨Nat.lt_of_lt_of_le h5 (by omega), fun hm => absurd (k.cls hm).1 (Nat.not_le_of_lt hlt), Nat.ne_of_lt (Nat.lt_of_lt_of_le hlt e1), Nat.ne_of_lt (Nat.lt_of_lt_of_le hlt e2), Nat.ne_of_lt h5, _, _, _, frH_old h2, pres_of (frH_old h2) (ne_dum h4)⟩
  N := k.roOf k.N (by simp) (by decide) (by decide) (by decide)
  C := k.roOf k.C (by simp) (by decide) (by decide) (by decide)
  Cb := k.roOf (k.r.get (k := 0) (.inl rfl) rfl) (by simp) (by decide) (by decide) (by decide)
  Cs := k.roOf (k.r.get (k := 1) (.inr (.inl rfl)) rfl) (by have := k.S1; simp; omega) (by decide) (by decide) (by decide)
  P := k.roOf k.P (by simp) (by decide) (by decide) (by decide)
  Pk := k.roOf k.p1 (by simp) (by decide) (by decide) (by decide)
  R := k.roOf k.R (by simp) (by decide) (by decide) (by decide)
  T := k.roOf k.T (by simp) (by decide) (by decide) (by decide)
  Tb := k.roOf k.l1 (by simp) (by decide) (by decide) (by decide)
  H := k.roOf k.H (by simp) (by decide) (by decide) (by decide)
end
end
section
open Go Go.TJ Go.Proofs
variable [Dm]
theorem zsum_zero : ∀ n : Nat, zsum n (fun _ => 0) = 0
  | 0 => rfl
  | n + 1 => by rw [zsum, zsum_zero n]; rfl
theorem lzsum_zero : ∀ l : List Nat, lzsum l (fun _ => 0) = 0
  | [] => rfl
  | b :: l => by rw [lzsum, lzsum_zero l]; rfl
theorem lzsum_map (f : Nat -> Int) (g : Nat -> Nat) : ∀ n : Nat, lzsum ((List.range n).map g) f = zsum n fun j => f (g j)
  | 0 => rfl
  | n + 1 => by
    have e : ∀ l : List Nat, ∀ b, lzsum (l ++ [b]) f = lzsum l f + f b := fun l b => by
      induction l with
      | nil => simp [lzsum]
      | cons c l ih => rw [List.cons_append, lzsum, lzsum, ih]; omega
    rw [List.range_succ, List.map_append, List.map_singleton, e, lzsum_map f g n, zsum]
section
variable {h hF hA : Hp} {x : Kd}
theorem Kst.slnd (k : Kst h x hF) : (x.sl ++ [x.lb, x.pb]).Nodup := by
  have hlt : ∀ b, b ∈ x.sl -> b < x.lb := fun b hb => by
    obtain ⟨j, hj, rfl⟩ := List.mem_map.1 hb
    have hj := List.mem_range.1 hj
    exact (k.bl (4 + j) (by omega)).2
  have hlp := k.lp
  refine List.nodup_append.2 ⟨?_, by simp; omega, fun a ha b hb e => ?_⟩
  · refine List.pairwise_map.2 (List.Pairwise.imp_of_mem (fun {a b} ha hb hne e => hne ?_) List.nodup_range)
    have h1 := List.mem_range.1 ha
    have h2 := List.mem_range.1 hb
    have := k.r.inj (4 + a) (4 + b) (.inr (.inr (by omega))) (.inr (.inr (by omega))) e
    omega
  · have := hlt a ha
    simp at hb
    omega
theorem Kst.kJ (k : Kst h x hF) : Cj (kY (kCc x hF)) where
  nd := k.slnd
  ar := ⟨k.ncls k.hb (by decide), k.ncls k.rb (by decide), fun hm => absurd (k.cls hm).2.1 (Nat.lt_irrefl _), cells_ne k.hb k.rb (by decide), Nat.ne_of_lt (lt_of_get k.hb), Nat.ne_of_lt (lt_of_get k.rb)⟩
  n1 := k.n1
  sum := ⟨0, by
    show lzsum x.sl (fun _ => 0) = zsum x.adds.length (fun k => if false = true then _ else 0) + 0 * M64
    simp [lzsum_zero, zsum_zero]⟩
  lf := by
    show x.t + zsum x.n (fun _ => 0) = x.t
    rw [zsum_zero]; omega
  lf0 := k.t0
  hd0 _ := Int.le_refl _
  tp0 := Int.le_refl _
  tpa := .inl rfl
  kr _ _ z := by cases z
  rs := ⟨fun ⟨_, _, _, z⟩ => by (cases z), fun z => absurd z (show ¬ ((-1 : Int) < -1) by decide)⟩
theorem cls_eq : cL.cls (kY (kCc x hF)) = x.sl ++ [x.lb, x.pb] := rfl
theorem arrT_eq {b : Nat} : cL.arrT (kY (kCc x hF)) b = if b = x.hb then some 2 else if b = x.rb then some 4 else if b = hF.size then some 4 else none := rfl
theorem Kst.arrN (_ : Kst h x hF) {b : Nat} (h1 : b ≠ x.hb) (h2 : b ≠ x.rb) (h3 : b ≠ hF.size) : cL.arrT (kY (kCc x hF)) b = none := by
  rw [arrT_eq, if_neg h1, if_neg h2, if_neg h3]
theorem Kst.arrF (k : Kst h x hF) : cL.arrT (kY (kCc x hF)) hF.size = some 4 := by
  rw [arrT_eq, if_neg (Nat.ne_of_lt (lt_of_get k.hb)).symm, if_neg (Nat.ne_of_lt (lt_of_get k.rb)).symm, if_pos rfl]
theorem Kst.arrH (k : Kst h x hF) : cL.arrT (kY (kCc x hF)) x.hb = some 2 := by rw [arrT_eq, if_pos rfl]
theorem Kst.arrR (k : Kst h x hF) : cL.arrT (kY (kCc x hF)) x.rb = some 4 := by
  rw [arrT_eq, if_neg (cells_ne k.rb k.hb (by decide)), if_pos rfl]
theorem Kst.starts (k : Kst h x hF) : Starts TT cL (kY (kCc x hF)) (hF.size + 2) (frH hF x.n) where
  cell b hb := by
    rw [cls_eq] at hb
    have hlp := k.lp
    rcases List.mem_append.1 hb with hb | hb
    · obtain ⟨j, hj, rfl⟩ := List.mem_map.1 hb
      have hj := List.mem_range.1 hj
      have h1 := (k.bl (4 + j) (by omega)).2
      have e : cL.val (kY (kCc x hF)) (x.B (4 + j)) = 0 := by
        show (if x.B (4 + j) = x.lb then _ else if x.B (4 + j) = x.pb then _ else 0) = (0 : Int)
        rw [if_neg (by omega), if_neg (by omega)]
      rw [e]
      exact frH_old (cnt_cell k.r hj)
    · simp at hb
      rcases hb with rfl | rfl
      · have e : cL.val (kY (kCc x hF)) x.lb = x.t := if_pos rfl
        rw [e]
        exact frH_old k.l0
      · have e : cL.val (kY (kCc x hF)) x.pb = -1 := by
          show (if x.pb = x.lb then _ else if x.pb = x.pb then (-1 : Int) else _) = -1
          rw [if_neg (by omega), if_pos rfl]
        rw [e]
        exact frH_old k.p0
  arr b t hb := by
    rw [arrT_eq] at hb
    show (frH hF x.n)[b]? = some (.cells (if b = x.hb then _ else if b = x.rb then _ else _) t (0, 0))
    by_cases h1 : b = x.hb
    · rw [if_pos h1] at hb
      cases hb
      subst h1
      rw [if_pos rfl, frH_old k.hb]
      congr 3
      show List.replicate x.n (Value.int .i64 0) = (List.range x.n).map fun _ => Value.int .i64 0
      rw [List.map_const', List.length_range]
    · rw [if_neg h1] at hb
      by_cases h2 : b = x.rb
      · rw [if_pos h2] at hb
        cases hb
        subst h2
        rw [if_neg h1, if_pos rfl, frH_old k.rb]
        congr 3
        show List.replicate x.n (Value.bool false) = (List.range x.n).map fun _ => Value.bool false
        rw [List.map_const', List.length_range]
      · rw [if_neg h2] at hb
        by_cases h3 : b = hF.size
        · rw [if_pos h3] at hb
          cases hb
          subst h3
          rw [if_neg h1, if_neg h2, (frH_at hF x.n).1]
          simp
          rfl
        · rw [if_neg h3] at hb; cases hb
  ne b t hb := by
    have n1 := k.n1
    show (if b = x.hb then _ else if b = x.rb then _ else Array.replicate x.n (Value.bool false)) ≠ #[]
    intro z
    have z := congrArg Array.size z
    split at z
    · simp [kY, kCc] at z; omega
    · split at z
      · simp [kY, kCc] at z; omega
      · simp at z; omega
  wg := (frH_at hF x.n).2.2
  wc := ⟨fun hm => absurd (k.cls hm).2.1 (by omega), k.arrN (by have := lt_of_get k.hb; omega) (by have := lt_of_get k.rb; omega) (by omega)⟩
  J := k.kJ
  ro b hb := hb.2.2.2.2.2
set_option maxHeartbeats 4000000 in
theorem Kst.free (k : Kst h x hA) (u : Upd (fun _ => False) hA hF) {γ₀ : Gf Cy} (hst : γ₀.st = 0) (hnum : γ₀.num = 1) {B cap fB : Nat} {ib : Nat -> Nat} (hfB : hF[fB]? = some (.cells #[.func (.func 31) #[] (x.q h).caps] 34 (0, 0)))
    (hib : ∀ j, j < x.n -> hF[ib j]? = some (.cells #[.int .i64 j] 3 (0, 0))) (hB1 : hA.size <= B) (hB : ∀ j, j < x.n -> hcell hF ⟨B, j, none⟩ = some (.func (.func 70) #[] #[.pointer (some ⟨fB, 0, none⟩), .pointer (some ⟨ib j, 0, none⟩)])) :
    CallW Try.prog true (SitM Try.prog (XF TT cL)) 49 #[.slice (some ⟨B, 0, none⟩) x.n cap] hF ⟨0, γ₀⟩ (Ret fun v h' δ' => v = .slice none 0 0 /\ δ'.d = 0 /\ Freed cL (kY (kCc x hF)) hF x.n h' δ'.g) := by
  have k' := k.upd u
  have hBlt : B < hF.size := by
    obtain ⟨_, _, _, h1, _⟩ := hcell_some (hB 0 k.n1)
    exact lt_of_get h1
  have b1 := lt_of_get k.hb
  have b2 := lt_of_get k.rb
  refine free_ok cL_ok (bf := fun _ => 70) (bcap := fun j => #[.pointer (some ⟨fB, 0, none⟩), .pointer (some ⟨ib j, 0, none⟩)]) (hbf := fun _ => inferInstance) hst hnum (Nat.le_trans k.n8 (by decide)) hB k'.starts ⟨fun hm => ?_, k'.arrN (by omega) (by omega) (by omega)⟩ k'.arrF (fun y hJ hr => ?_) ?_ (fun b hb => ⟨hb.2.1, k'.arrN hb.2.2.1 hb.2.2.2.1 hb.2.2.2.2.1, hb.1⟩) ?_
  · have := (k.cls hm).2.1
    omega
  · have e : y.c = kCc x hF := hr.law.c
    have := (arr_f hJ (w := 0) (by rw [e]; exact k.n1)).2.1
    rw [e] at this
    exact this
  · have hV := (frH_at hF x.n).2.1
    exact ⟨by omega, fun hm => absurd (k'.cls hm).2.1 (by omega), by have := lt_of_get k'.hb; omega, by have := lt_of_get k'.rb; omega, by omega, _, _, _, hV, pres_of hV (by unfold dum; simp)⟩
  · refine kbody_ok (c := kCc x hF) (q := x.q h) rfl (Nat.le_trans k.n8 (by decide)) k.al (Int.le_trans k.t1 (by decide)) k'.km k'.kro rfl (hcell_of hfB rfl) (k'.roOf hfB (by simp) (by decide) (by decide) (by decide)) (fun j hj => ⟨hcell_of (hib j hj) rfl, k'.roOf (hib j hj) (by simp) (by decide) (by decide) (by decide)⟩) fun j hj => ⟨rfl, fun _ _ => rfl, fun _ _ => rfl, rfl, rfl, Nat.le_refl _, rfl, rfl⟩
end
end
section
open Go Go.TJ Go.Proofs
variable [Dm]
structure Ken (h : Hp) (x : Kd) (v : Nat -> Int) (lf tp : Int) (ha : Nat -> Int) (ra : Nat -> Bool) (h' : Hp) : Prop where
  u : Upd (fun _ => False) h h'
  N : hcell h' ⟨x.vN, 0, none⟩ = some (.int .i64 x.n)
  C : hcell h' ⟨x.vC, 0, none⟩ = some (.pointer (some ⟨x.B 0, 0, none⟩))
  Cb : hcell h' ⟨x.B 0, 0, none⟩ = some (.slice (some ⟨x.B 1, 0, none⟩) x.S x.cap)
  Cs : ∀ j, j < x.S -> hcell h' ⟨x.B 1, j, none⟩ = some (.pointer (some ⟨x.B (4 + j), 0, none⟩)) /\ h'[x.B (4 + j)]? = some (cellO (v j))
  T : hcell h' ⟨x.vT, 0, none⟩ = some (.pointer (some ⟨x.lb + 1, 0, none⟩))
  T1 : hcell h' ⟨x.lb + 1, 1, none⟩ = some (.pointer (some ⟨x.lb, 0, none⟩))
  l0 : h'[x.lb]? = some (cellO lf)
  P : hcell h' ⟨x.vP, 0, none⟩ = some (.pointer (some ⟨x.pb + 1, 0, none⟩))
  P1 : hcell h' ⟨x.pb + 1, 0, none⟩ = some (.pointer (some ⟨x.pb, 0, none⟩))
  p0 : h'[x.pb]? = some (cellO tp)
  H : hcell h' ⟨x.vH, 0, none⟩ = some (.slice (some ⟨x.hb, 0, none⟩) x.n x.n)
  hb : ∀ w, w < x.n -> hcell h' ⟨x.hb, w, none⟩ = some (.int .i64 (ha w))
  R : hcell h' ⟨x.vR, 0, none⟩ = some (.slice (some ⟨x.rb, 0, none⟩) x.n x.n)
  rb : ∀ w, w < x.n -> hcell h' ⟨x.rb, w, none⟩ = some (.bool (ra w))
  sum : IntKind.i64.wrap (zsum x.S v) = IntKind.i64.wrap (zsum x.adds.length fun k => x.adds.getD k 0)
  tp0 : -1 <= tp
  tpa : tp = -1 \/ ∃ k, k < x.adds.length /\ tp = x.adds.getD k 0
  tpk : ∀ k, k < x.adds.length -> x.adds.getD k 0 <= tp
  ros : (∃ w, w < x.n /\ ra w = true) ↔ -1 < tp
  tot : lf + zsum x.n ha = x.t
  lf0 : 0 <= lf
  ha0 : ∀ w, w < x.n -> 0 <= ha w
section
variable {h hF h' : Hp} {x : Kd}
theorem Kst.fin (k : Kst h x hF) (hnd : ∀ (b : Nat) (o : Obj), h[b]? = some o -> o ≠ dum) {γ' : Gf Cy} (f : Freed cL (kY (kCc x hF)) hF x.n h' γ') : ∃ v lf tp ha ra, Ken h x v lf tp ha ra h' := by
  have b1 := lt_of_get k.hb
  have b2 := lt_of_get k.rb
  obtain ⟨y, hr, hJ, hfin, old, cel, ar, hsz⟩ := freed_out f ⟨fun hm => absurd (k.cls hm).2.1 (by omega), k.arrN (by omega) (by omega) (by omega)⟩ k.arrF
  have hc : y.c = kCc x hF := hr.law.c
  have lp := k.lp
  have key : ∀ (b : Nat) (c : Array Value) (e : TypeId), hF[b]? = some (.cells c e (0, 0)) -> c ≠ #[] -> e ≠ 109 -> e ≠ 2 -> e ≠ 4 -> h'[b]? = some (.cells c e (0, 0)) := fun b c e hb h0 h1 h2 h3 =>
    old b _ hb (by unfold dum; intro z; injection z with z; exact h0 z) (k.ncls hb h1) (k.arrN (cells_ne hb k.hb h2) (cells_ne hb k.rb h3) (Nat.ne_of_lt (lt_of_get hb)))
  have fin : ∀ w, w < x.n -> (∀ k, k < x.adds.length -> k % x.n = w -> y.ka k = true /\ y.kr k = true) /\ y.ha w = y.hd (w + 1) /\ y.ra w = y.rs (w + 1) := fun w hw => by
    obtain ⟨hf, q⟩ := hfin (w + 1) (by omega) (by omega)
    obtain ⟨q1, q2, q3⟩ := q (Nat.succ_pos w)
    rw [hc] at q1
    exact ⟨q1, q2, q3⟩
  have n1 := k.n1
  have hall : ∀ j, j < x.adds.length -> y.ka j = true /\ y.kr j = true := fun j hj => (fin (j % x.n) (Nat.mod_lt _ (by omega))).1 j hj rfl
  have ead : ∀ j, y.ad j = x.adds.getD j 0 := fun j => by unfold Cy.ad; rw [hc]; rfl
  have hcl : ∀ b, b ∈ x.sl ++ [x.lb, x.pb] -> h'[b]? = some (cellO (cL.val y b)) := fun b hb => cel b hb
  have nlb : y.c.lb = x.lb := by rw [hc]; rfl
  have npb : y.c.pb = x.pb := by rw [hc]; rfl
  have elb : cL.val y x.lb = y.lf := by rw [<- nlb]; exact val_lb
  have epb : cL.val y x.pb = y.tp := by rw [<- npb]; exact val_pb hJ
  have esv : ∀ j, j < x.S -> cL.val y (x.B (4 + j)) = y.sv (x.B (4 + j)) := fun j hj => by
    have := (k.bl (4 + j) (by omega)).2
    show (if x.B (4 + j) = y.c.lb then _ else if x.B (4 + j) = y.c.pb then _ else _) = _
    rw [nlb, npb, if_neg (by omega), if_neg (by omega)]
  refine ⟨fun j => y.sv (x.B (4 + j)), y.lf, y.tp, y.ha, y.ra, ?_⟩
  refine ⟨⟨Nat.le_trans k.u.size (Nat.le_of_lt hsz), fun b hb _ => ?_⟩, hcell_of (key _ _ _ k.N (by simp) (by decide) (by decide) (by decide)) rfl, hcell_of (key _ _ _ k.C (by simp) (by decide) (by decide) (by decide)) rfl,
    hcell_of (key _ _ _ (k.r.get (k := 0) (.inl rfl) rfl) (by simp) (by decide) (by decide) (by decide)) rfl, fun j hj => ⟨?_, ?_⟩, hcell_of (key _ _ _ k.T (by simp) (by decide) (by decide) (by decide)) rfl, hcell_of (key _ _ _ k.l1 (by simp) (by decide) (by decide) (by decide)) rfl, ?_,
    hcell_of (key _ _ _ k.P (by simp) (by decide) (by decide) (by decide)) rfl, hcell_of (key _ _ _ k.p1 (by simp) (by decide) (by decide) (by decide)) rfl, ?_, hcell_of (key _ _ _ k.H (by simp) (by decide) (by decide) (by decide)) rfl, fun w hw => ?_, hcell_of (key _ _ _ k.R (by simp) (by decide) (by decide) (by decide)) rfl, fun w hw => ?_, ?_, hJ.tp0, ?_, fun j hj => ?_, ?_, ?_, hJ.lf0, fun w hw => ?_⟩
  · obtain ⟨o, ho⟩ : ∃ o, h[b]? = some o := ⟨_, Array.getElem?_eq_getElem hb⟩
    have e1 := k.hl
    have e2 := k.rl
    have e3 := k.u.size
    rw [ho]
    exact old b o (k.u.get ho fun z => z) (hnd b o ho) (fun hm => absurd (k.cls hm).1 (by omega)) (k.arrN (by omega) (by omega) (by omega))
  · have := key _ _ _ (k.r.get (k := 1) (.inr (.inl rfl)) rfl) (by simp; omega) (by decide) (by decide) (by decide)
    refine hcell_of this ?_
    rw [List.getElem?_toArray, List.getElem?_append_left (by simp; omega), List.getElem?_map, List.getElem?_range hj]
    rfl
  · rw [hcl _ (List.mem_append_left _ (List.mem_map.2 ⟨j, List.mem_range.2 hj, rfl⟩)), esv j hj]
  · rw [hcl x.lb (by simp), elb]
  · rw [hcl x.pb (by simp), epb]
  · refine hcell_of (ar _ _ k.arrH) ?_
    have := (arr_h (y := y) (w := w) (by rw [hc]; exact hw)).2
    rw [hc] at this
    exact this
  · refine hcell_of (ar _ _ k.arrR) ?_
    have := (arr_r (y := y) hJ (w := w) (by rw [hc]; exact hw)).2
    rw [hc] at this
    exact this
  · obtain ⟨q, hq⟩ := hJ.sum
    have e1 : lzsum y.c.sl y.sv = zsum x.S fun j => y.sv (x.B (4 + j)) := by rw [hc]; exact lzsum_map y.sv (fun j => x.B (4 + j)) x.S
    have e2 : y.tot = zsum x.adds.length fun k => x.adds.getD k 0 := by
      unfold Cy.tot
      rw [show y.c.adds = x.adds by rw [hc]; rfl]
      exact zsum_congr _ _ _ fun j hj => by rw [(hall j hj).1, if_pos rfl, ead]
    rw [<- e1, hq, wrap_mul, e2]
  · rcases hJ.tpa with z | ⟨j, hj, z⟩
    · exact .inl z
    · exact .inr ⟨j, by rw [hc] at hj; exact hj, by rw [z, ead]⟩
  · rw [<- ead]
    exact hJ.kr j (by rw [hc]; exact hj) (hall j hj).2
  · rw [<- hJ.rs]
    constructor
    · rintro ⟨w, hw, hv⟩
      exact ⟨w + 1, by omega, by rw [hc]; exact hw, by rw [<- (fin w hw).2.2]; exact hv⟩
    · rintro ⟨w, h1, h2, hv⟩
      rw [hc] at h2
      have h2 : w <= x.n := h2
      refine ⟨w - 1, by omega, ?_⟩
      rw [(fin (w - 1) (by omega)).2.2, show w - 1 + 1 = w by omega]
      exact hv
  · have := hJ.lf
    rw [hc] at this
    rw [zsum_congr x.n y.ha (fun w => y.hd (w + 1)) fun w hw => (fin w hw).2.1]
    exact this
  · rw [(fin w hw).2.1]
    exact hJ.hd0 _
end
end
section
open Go Go.TJ Go.Proofs
variable [Dm]
theorem zsum_mono {f : Nat -> Int} {m : Nat} : ∀ n : Nat, m <= n -> (∀ j, j < n -> 0 <= f j) -> zsum m f <= zsum n f
  | 0, h, _ => by
    obtain rfl : m = 0 := by omega
    exact Int.le_refl _
  | n + 1, h, h0 => by
    by_cases e : m = n + 1
    · subst e; exact Int.le_refl _
    · have a := zsum_mono (f := f) (m := m) n (by omega) fun j hj => h0 j (by omega)
      have b := h0 n (by omega)
      show zsum m f <= zsum n f + f n
      omega
set_option maxRecDepth 8000 in
set_option maxHeartbeats 16000000 in
theorem claw_ok {w s t : Int} {adds : List Int} {aS : Option Addr} {kA : Nat} {h : Hp} {γ₀ : Gf Cy} (hst : γ₀.st = 0) (hnum : γ₀.num = 1) (hnd : ∀ (b : Nat) (o : Obj), h[b]? = some o -> o ≠ dum) (t0 : 0 <= t) (t1 : t <= 255) (hbig : adds.length <= 1000000000000000)
    (ai : ∀ k, k < adds.length -> ∃ b o, aS = some ⟨b, o, none⟩ /\ hcell h ⟨b, o + k * 1, none⟩ = some (.int .i64 (adds.getD k 0))) :
    CallW Try.prog true (SitM Try.prog (XF TT cL)) 5 #[.int .i64 w, .int .i64 s, .slice aS adds.length kA, .int .u8 t] h ⟨0, γ₀⟩ (Ret fun v h' δ' => v = .bool true /\ δ'.d = 0 /\ Upd (fun _ => False) h h' /\ ((XF TT cL).jn δ'.g \/ ((XF TT cL).lone δ'.g /\ δ'.g.num = 1))) := by
  have hlo : (SitM Try.prog (XF TT cL)).lone γ₀ := ⟨by omega, fun j j0 hj => by have hj' : j < γ₀.num := hj; omega⟩
  have hsl : ∀ a, ¬ (SitM Try.prog (XF TT cL)).still γ₀ a := fun a z => by have : γ₀.st = 1 := z.1; omega
  have lft : ∀ {f : FuncId} {args : Array Value} {hh : Hp} {R : Post (Gf Cy)}, CallW Try.prog true NoS f args hh ⟨0, γ₀⟩ R -> CallW Try.prog true (SitM Try.prog (XF TT cL)) f args hh ⟨0, γ₀⟩ R := fun hc => hc.noS hsl hlo (fun z => z)
  obtain ⟨n, hn, n1, n8⟩ : ∃ n : Nat, w % ((8 : Nat) : Int) + 1 = n /\ 1 <= n /\ n <= 8 := ⟨(w % 8 + 1).toNat, by omega, by omega, by omega⟩
  obtain ⟨S, hS, S1, S2⟩ : ∃ S : Nat, s % ((64 : Nat) : Int) + 1 = S /\ 1 <= S /\ S <= 64 := ⟨(s % 64 + 1).toNat, by omega, by omega, by omega⟩
  refine CallW.start (n := 141) rfl rfl ?_
  (repeat (first | refine EK.seq ?_ | refine EK.region ?_ | refine ER.done ?_ | refine ER.assign rfl rfl rfl ?_ | refine ER.box rfl rfl rfl ?_))
  refine ER.callR rfl rfl rfl rfl rfl (lft cntworks_ok) ?_
  rintro _ h1 δ1 ⟨rfl, u1, rfl⟩
  have A1 := u1.get (get_push_new h (.cells #[.slice aS adds.length kA] 31 (0, 0))) fun z => z
  have uu := (Upd.push (T := fun _ => False) h (.cells #[.slice aS adds.length kA] 31 (0, 0))).trans u1
  replace uu : Upd (fun _ => False) h h1 := uu
  clear u1
  by_cases hlen : 400 < adds.length
  · (repeat (first | refine EK.seq ?_ | refine EK.region ?_ | refine ER.done ?_ | refine ER.move rfl rfl rfl ?_ | refine ER.assign rfl rfl rfl ?_ | refine ER.load1 rfl rfl rfl (hcell_of (by assumption) rfl) ?_ | refine ER.notB rfl rfl rfl ?_ | refine ER.pickF rfl rfl rfl rfl ?_ | refine ER.cmpT rfl rfl rfl rfl rfl (by first | (dsimp only [cmpP]; omega) | exact rfl | exact Int.le_refl _) ?_ | refine ER.len1 rfl rfl rfl ?_ | refine EK.condT rfl ?_ | refine EK.ret ?_))
    exact EU.ret1 rfl rfl ⟨rfl, rfl, uu, .inr ⟨hlo, hnum⟩⟩
  (repeat (first | refine EK.seq ?_ | refine EK.region ?_ | refine ER.done ?_ | refine EK.skip ?_ | refine ER.move rfl rfl rfl ?_ | refine ER.assign rfl rfl rfl ?_ | refine ER.load1 rfl rfl rfl (hcell_of (by assumption) rfl) ?_ | refine ER.notB rfl rfl rfl ?_ | refine ER.pickF rfl rfl rfl rfl ?_ | refine ER.cmpF rfl rfl rfl rfl rfl (by first | (dsimp only [cmpP]; omega) | exact rfl | exact Int.le_refl _) ?_ | refine ER.len1 rfl rfl rfl ?_ | refine EK.condF rfl ?_))
  refine ER.callD rfl rfl rfl rfl rfl (lft (place_ok (n := 8) (by omega) (by omega))) ?_
  refine ER.add (kd := .i64) (r := (n : Int)) rfl rfl rfl rfl (by rw [<- hn]; exact i64_in (by omega) (by omega)) ?_
  (repeat refine ER.alloc rfl rfl ?_)
  refine ER.storeNew rfl rfl rfl rfl (by simp [OneCell]) (hsl _) ?_
  refine ER.gen (fun h' => Upd (fun _ => False) h h' /\ h'[h.size]? = some (.cells #[.slice aS adds.length kA] 31 (0, 0)) /\ h'[h1.size]? = some (.cells #[.int .i64 n] 3 (0, 0))) ⟨uu.trans (Upd.push _ _), get_push _ A1, get_push_new _ _⟩ ?_
  clear uu A1
  generalize h1.size = vN
  rintro h2 ⟨uu, A, N⟩
  (repeat (first | refine EK.seq ?_ | refine EK.region ?_ | refine ER.done ?_ | refine ER.move rfl rfl rfl ?_))
  refine ER.callD rfl rfl rfl rfl rfl (lft (place_ok (n := 64) (by omega) (by omega))) ?_
  refine ER.add (kd := .i64) (r := (S : Int)) rfl rfl rfl rfl (by rw [<- hS]; exact i64_in (by omega) (by omega)) ?_
  refine ER.callR rfl rfl rfl rfl rfl (lft (cntnew_ok (n := S) S1 S2 (fun _ _ _ z => z))) ?_
  rintro _ h3 δ3 ⟨rfl, u3, cap, rest, B, rfl, r, ab⟩
  (repeat (first | refine ER.move rfl rfl rfl ?_ | refine ER.extract rfl rfl rfl rfl ?_ | refine ER.alloc rfl rfl ?_))
  refine ER.storeNew rfl rfl rfl rfl (by simp [OneCell]) (hsl _) ?_
  have hs2 := uu.size
  refine ER.gen (fun h' => Upd (fun _ => False) h h' /\ h'[h.size]? = some (.cells #[.slice aS adds.length kA] 31 (0, 0)) /\ h'[vN]? = some (.cells #[.int .i64 n] 3 (0, 0)) /\ Rep h' (cntM S cap rest B fun _ => 0) /\ (∀ k, k = 0 \/ k = 1 \/ (4 <= k /\ k < 4 + S) -> h.size <= B k /\ B k < h'.size) /\ h'[h3.size]? = some (.cells #[.pointer (some ⟨B 0, 0, none⟩)] 49 (0, 0)))
    ⟨(uu.trans u3).trans (Upd.push _ _), get_push _ (u3.get A fun z => z), get_push _ (u3.get N fun z => z), r.upd0 (Upd.push _ _), fun k hk => ⟨Nat.le_trans hs2 (ab k hk), by have := r.lt hk; rw [Array.size_push]; exact Nat.lt_succ_of_lt this⟩, get_push_new _ _⟩ ?_
  clear uu A N u3 r ab hs2
  generalize h3.size = vC
  rintro h4 ⟨uu, A, N, r, bl, C⟩
  (repeat (first | refine EK.seq ?_ | refine EK.region ?_ | refine ER.done ?_ | refine ER.move rfl rfl rfl ?_ | refine ER.assign rfl rfl rfl ?_))
  refine ER.conv (kd := .u8) (r := t) rfl rfl rfl (i64_in (by omega) (by omega)) ?_
  refine ER.callD rfl rfl rfl rfl rfl (lft (ticknew_ok (n := t) t0 (fun _ _ _ z => z))) ?_
  obtain ⟨u5, s5, l0, l1⟩ := push2 h4 (cellO t) (.cells #[.int .i64 t, ptr h4.size] 118)
  replace A := u5.get A fun z => z
  replace N := u5.get N fun z => z
  replace C := u5.get C fun z => z
  replace r := r.upd0 u5
  replace uu := uu.trans u5
  clear u5
  generalize (h4.push (cellO t)).push (.cells #[.int .i64 t, ptr h4.size] 118) = h5 at l0 l1 A N C r uu s5 ⊢
  generalize h4.size = lb at l0 l1 bl s5 ⊢
  (repeat (first | refine ER.move rfl rfl rfl ?_ | refine ER.extract rfl rfl rfl rfl ?_ | refine ER.alloc rfl rfl ?_))
  refine ER.storeNew rfl rfl rfl rfl (by simp [OneCell]) (hsl _) ?_
  refine ER.gen (fun h' => Upd (fun _ => False) h h' /\ h'[h.size]? = some (.cells #[.slice aS adds.length kA] 31 (0, 0)) /\ h'[vN]? = some (.cells #[.int .i64 n] 3 (0, 0)) /\ Rep h' (cntM S cap rest B fun _ => 0) /\ h'[vC]? = some (.cells #[.pointer (some ⟨B 0, 0, none⟩)] 49 (0, 0)) /\
      h'[lb]? = some (cellO t) /\ h'[lb + 1]? = some (.cells #[.int .i64 t, .pointer (some ⟨lb, 0, none⟩)] 118 (0, 0)) /\ h'[h5.size]? = some (.cells #[.pointer (some ⟨lb + 1, 0, none⟩)] 52 (0, 0)))
    ⟨uu.trans (Upd.push _ _), get_push _ A, get_push _ N, r.upd0 (Upd.push _ _), get_push _ C, get_push _ l0, get_push _ l1, get_push_new _ _⟩ ?_
  clear uu A N r C l0 l1 s5
  generalize h5.size = vT
  rintro h6 ⟨uu, A, N, r, C, l0, l1, T⟩
  (repeat (first | refine EK.seq ?_ | refine EK.region ?_ | refine ER.done ?_ | refine ER.assign rfl rfl rfl ?_))
  refine ER.callD rfl rfl rfl rfl rfl (lft (peaknew_ok (n := -1) (fun _ _ _ z => z))) ?_
  obtain ⟨u7, s7, p0, p1⟩ := push2 h6 (cellO (-1)) (.cells #[ptr h6.size] 120)
  have lp : lb < h6.size := lt_of_get l0
  replace A := u7.get A fun z => z
  replace N := u7.get N fun z => z
  replace C := u7.get C fun z => z
  replace l0 := u7.get l0 fun z => z
  replace l1 := u7.get l1 fun z => z
  replace T := u7.get T fun z => z
  replace r := r.upd0 u7
  replace uu := uu.trans u7
  clear u7
  generalize (h6.push (cellO (-1))).push (.cells #[ptr h6.size] 120) = h7 at p0 p1 l0 l1 A N C T r uu s7 ⊢
  generalize h6.size = pb at p0 p1 lp s7 ⊢
  (repeat refine ER.alloc rfl rfl ?_)
  refine ER.storeNew rfl rfl rfl rfl (by simp [OneCell]) (hsl _) ?_
  refine ER.gen (fun h' => Upd (fun _ => False) h h' /\ h'[h.size]? = some (.cells #[.slice aS adds.length kA] 31 (0, 0)) /\ h'[vN]? = some (.cells #[.int .i64 n] 3 (0, 0)) /\ Rep h' (cntM S cap rest B fun _ => 0) /\ h'[vC]? = some (.cells #[.pointer (some ⟨B 0, 0, none⟩)] 49 (0, 0)) /\
      h'[lb]? = some (cellO t) /\ h'[lb + 1]? = some (.cells #[.int .i64 t, .pointer (some ⟨lb, 0, none⟩)] 118 (0, 0)) /\ h'[vT]? = some (.cells #[.pointer (some ⟨lb + 1, 0, none⟩)] 52 (0, 0)) /\
      h'[pb]? = some (cellO (-1)) /\ h'[pb + 1]? = some (.cells #[.pointer (some ⟨pb, 0, none⟩)] 120 (0, 0)) /\ h'[h7.size]? = some (.cells #[.pointer (some ⟨pb + 1, 0, none⟩)] 55 (0, 0)))
    ⟨uu.trans (Upd.push _ _), get_push _ A, get_push _ N, r.upd0 (Upd.push _ _), get_push _ C, get_push _ l0, get_push _ l1, get_push _ T, get_push _ p0, get_push _ p1, get_push_new _ _⟩ ?_
  clear uu A N r C l0 l1 T p0 p1 s7
  generalize h7.size = vP
  rintro h8 ⟨uu, A, N, r, C, l0, l1, T, p0, p1, P⟩
  (repeat (first | refine EK.seq ?_ | refine EK.region ?_ | refine ER.done ?_ | refine EK.skip ?_ | refine EK.block ?_ | refine ER.move rfl rfl rfl ?_ | refine ER.assign rfl rfl rfl ?_ | refine ER.load1 rfl rfl rfl (hcell_of (by assumption) rfl) ?_ | refine ER.eqV rfl rfl rfl rfl rfl ?_ | refine ER.pickF rfl rfl rfl rfl ?_ | refine ER.cmpF rfl rfl rfl rfl rfl (by first | (dsimp only [cmpP]; omega) | exact rfl | exact Int.le_refl _) ?_ | refine EK.condF rfl ?_))
  refine EK.loopInv (fun q : Nat × Int => [(18, .int .i64 q.1), (16, .int .i64 (IntKind.i64.wrap (zsum q.1 fun k => adds.getD k 0))), (17, .int .i64 q.2), (6, .pointer (some ⟨h.size, 0, none⟩)), (10, .pointer (some ⟨vN, 0, none⟩)), (11, .pointer (some ⟨vC, 0, none⟩)), (13, .pointer (some ⟨vT, 0, none⟩)), (15, .pointer (some ⟨vP, 0, none⟩)), (3, .int .u8 t)])
    (fun q h' δ' => h' = h8 /\ δ' = ⟨0, γ₀⟩ /\ q.1 <= adds.length /\ -1 <= q.2 /\ (q.2 = -1 \/ ∃ j, j < q.1 /\ q.2 = adds.getD j 0) /\ ∀ j, j < q.1 -> adds.getD j 0 <= q.2) (fun q => adds.length - q.1) (0, -1) ⟨rfl, rfl, rfl, rfl, rfl, rfl, rfl, rfl, rfl, trivial⟩ ⟨rfl, rfl, Nat.zero_le _, Int.le_refl _, .inl rfl, fun j hj => absurd hj (Nat.not_lt_zero _)⟩ ?_
  rintro ⟨k, m⟩ h' δ' ⟨rfl, rfl, hk, m0, m1, m2⟩ again
  dsimp only at hk m0 m1 m2 again ⊢
  rcases Nat.lt_or_ge k adds.length with hlt | hge
  · obtain ⟨b, o, e, hc⟩ := ai k hlt
    subst e
    have hc' : hcell h' ⟨b, o + ((k : Nat) : Int).toNat * 1, none⟩ = some (.int .i64 (adds.getD k 0)) := by rw [Int.toNat_natCast]; exact uu.hcell hc fun z => z
    (repeat (first | refine EK.seq ?_ | refine EK.region ?_ | refine ER.done ?_ | refine EK.skip ?_ | refine EK.block ?_ | refine ER.move rfl rfl rfl ?_ | refine ER.load1 rfl rfl rfl (hcell_of (by assumption) rfl) ?_ | refine ER.cmpT rfl rfl rfl rfl rfl (by first | (dsimp only [cmpP]; omega) | exact rfl | exact Int.le_refl _) ?_ | refine ER.len1 rfl rfl rfl ?_ | refine ER.indexSl rfl rfl rfl rfl (by omega) (by omega) ?_ | refine EK.condT rfl ?_ | refine ER.load1 rfl rfl rfl (by assumption) ?_))
    refine ER.add (kd := .i64) (r := IntKind.i64.wrap (zsum (k + 1) fun k => adds.getD k 0)) rfl rfl rfl rfl (by rw [wrap_add]; rfl) ?_
    (repeat (first | refine EK.region ?_ | refine ER.done ?_ | refine ER.move rfl rfl rfl ?_ | refine ER.assign rfl rfl rfl ?_ | refine ER.load1 rfl rfl rfl (hcell_of (by assumption) rfl) ?_ | refine ER.indexSl rfl rfl rfl rfl (by omega) (by omega) ?_ | refine ER.load1 rfl rfl rfl (by assumption) ?_))
    refine ER.max (kd := .i64) (r := if adds.getD k 0 > m then adds.getD k 0 else m) rfl rfl rfl rfl rfl ?_
    (repeat (first | refine EK.region ?_ | refine ER.done ?_ | refine EK.inBlock ?_ | refine ER.move rfl rfl rfl ?_ | refine ER.assign rfl rfl rfl ?_ | refine ER.add (kd := .i64) rfl rfl rfl rfl (i64_in (by omega) (by omega)) ?_))
    refine EK.back (again (k + 1, if adds.getD k 0 > m then adds.getD k 0 else m) _ _ (by dsimp only; omega) ⟨rfl, rfl, hlt, ?_, ?_, fun j hj => ?_⟩) ⟨rfl, rfl, rfl, rfl, rfl, rfl, rfl, rfl, rfl, trivial⟩
    · dsimp only; split <;> omega
    · dsimp only
      split
      · exact .inr ⟨k, Nat.lt_succ_self k, rfl⟩
      · exact m1.imp id fun ⟨j, h1, h2⟩ => ⟨j, by omega, h2⟩
    · dsimp only at hj ⊢
      by_cases e : j = k
      · subst e; split <;> omega
      · have := m2 j (by omega)
        split <;> omega
  obtain rfl : k = adds.length := by omega
  clear again
  (repeat (first | refine EK.seq ?_ | refine EK.region ?_ | refine ER.done ?_ | refine ER.move rfl rfl rfl ?_ | refine ER.load1 rfl rfl rfl (hcell_of (by assumption) rfl) ?_ | refine ER.cmpF rfl rfl rfl rfl rfl (by first | (dsimp only [cmpP]; omega) | exact rfl | exact Int.le_refl _) ?_ | refine ER.len1 rfl rfl rfl ?_ | refine EK.condF rfl ?_ | refine EK.exit rfl ?_))
  refine ER.makeSliceD rfl rfl rfl rfl (by omega) (by omega) rfl ?_
  (repeat refine ER.alloc rfl rfl ?_)
  refine ER.storeNew rfl rfl rfl rfl (by simp [OneCell]) (hsl _) ?_
  refine ER.gen (fun h9 => Upd (fun _ => False) h' h9 /\ h9[h'.size]? = some (.cells (List.replicate n (Value.int .i64 0)).toArray 2 (0, 0)) /\ h9[(Array.push h' (Obj.cells (List.replicate n (Value.int .i64 0)).toArray 2 (0, 0))).size]? = some (.cells #[.slice (some ⟨h'.size, 0, none⟩) n n] 31 (0, 0)))
    ⟨(Upd.push _ _).trans (Upd.push _ _), get_push _ (get_push_new _ _), get_push_new _ _⟩ ?_
  have hl : h.size <= h'.size := uu.size
  generalize (Array.push h' (Obj.cells (List.replicate n (Value.int .i64 0)).toArray 2 (0, 0))).size = vH
  generalize hhb : h'.size = hb at hl ⊢
  rintro h9 ⟨u9, Hb, Hv⟩
  replace hl : h.size <= hb := hl
  have N9 := u9.get N fun z => z
  (repeat (first | refine EK.seq ?_ | refine EK.region ?_ | refine ER.done ?_ | refine ER.load1 rfl rfl rfl (hcell_of (by assumption) rfl) ?_))
  refine ER.makeSliceD rfl rfl rfl rfl (by omega) (by omega) rfl ?_
  (repeat refine ER.alloc rfl rfl ?_)
  refine ER.storeNew rfl rfl rfl rfl (by simp [OneCell]) (hsl _) ?_
  refine ER.gen (fun hx => Upd (fun _ => False) h9 hx /\ hx[h9.size]? = some (.cells (List.replicate n (Value.bool false)).toArray 4 (0, 0)) /\ hx[(Array.push h9 (Obj.cells (List.replicate n (Value.bool false)).toArray 4 (0, 0))).size]? = some (.cells #[.slice (some ⟨h9.size, 0, none⟩) n n] 47 (0, 0)))
    ⟨(Upd.push _ _).trans (Upd.push _ _), get_push _ (get_push_new _ _), get_push_new _ _⟩ ?_
  have rl : h.size <= h9.size := Nat.le_trans uu.size u9.size
  generalize (Array.push h9 (Obj.cells (List.replicate n (Value.bool false)).toArray 4 (0, 0))).size = vR
  generalize hrb : h9.size = rb at rl ⊢
  rintro hx ⟨ux, Rb, Rv⟩
  have ua := u9.trans ux
  have Nx := ux.get N9 fun z => z
  have K : Kst h ⟨n, adds, t, S, cap, rest, B, aS, kA, vN, vC, lb, vT, pb, vP, hb, vH, rb, vR⟩ hx := ⟨uu.trans ua, ai, ua.get A fun z => z, Nx, r.upd0 ua, bl, ua.get C fun z => z, ua.get l0 fun z => z, ua.get l1 fun z => z, ua.get T fun z => z, lp, ua.get p0 fun z => z, ua.get p1 fun z => z, ua.get P fun z => z, hl, ux.get Hb fun z => z, ux.get Hv fun z => z, rl, Rb, Rv, n1, n8, S1, S2, t0, t1, Nat.le_of_not_lt hlen⟩
  clear ua Rb Rv ux u9 N9 Hb Hv r C l0 l1 T p0 p1 P uu A N bl
  (repeat (first | refine EK.seq ?_ | refine EK.region ?_ | refine ER.done ?_ | refine ER.load1 rfl rfl rfl (hcell_of (by assumption) rfl) ?_))
  refine ER.makeF rfl rfl rfl rfl rfl rfl ?_
  refine ER.callR rfl rfl rfl rfl rfl (all_ok (L := cL) (n := n) (fb := 31) (R := fun _ h' δ' => δ'.d = 0 /\ ∃ hF, Kst h ⟨n, adds, t, S, cap, rest, B, aS, kA, vN, vC, lb, vT, pb, vP, hb, vH, rb, vR⟩ hF /\ Freed cL (kY (kCc ⟨n, adds, t, S, cap, rest, B, aS, kA, vN, vC, lb, vT, pb, vP, hb, vH, rb, vR⟩ hF)) hF n h' δ'.g) hst hnum (by omega) (by omega) fun hF B' cap' fB ib uF _ hfB hib hB1 hBk => ?_) ?_
  · refine (K.free uF hst hnum hfB (fun j hj => (hib j hj).2) hB1 hBk).mono ?_
    rintro (v | v) h' δ' z
    · exact ⟨z.2.1, hF, K.upd uF, z.2.2⟩
    · exact z.elim
  rintro _ hz ⟨dz, γz⟩ ⟨_, e, hF, kF, fr⟩
  simp only at e fr
  subst e
  obtain ⟨v, lf, tp, ha, ra, E⟩ := kF.fin hnd fr
  have hst2 := fr.st
  have hjn := fr.jn
  clear fr kF K hF lft hlo hsl hst hnum lp hl rl Nx
  have hlo : (SitM Try.prog (XF TT cL)).lone γz := (xf_ok TT cL cL_ok).jl _ hjn
  have hsl : ∀ a, ¬ (SitM Try.prog (XF TT cL)).still γz a := fun a z => by have : γz.st = 1 := z.1; omega
  have lft : ∀ {f : FuncId} {args : Array Value} {hh : Hp} {R : Post (Gf Cy)}, CallW Try.prog true NoS f args hh ⟨0, γz⟩ R -> CallW Try.prog true (SitM Try.prog (XF TT cL)) f args hh ⟨0, γz⟩ R := fun hc => hc.noS hsl hlo (fun z => z)
  obtain ⟨uu, N, C, Cb, Cs, T, T1, l0, P, P1, p0, H, Hb, R, Rb, sum, tp0, tpa, tpk, ros, tot, lf0, ha0⟩ := E
  dsimp only at N C Cb Cs T T1 l0 P P1 p0 H Hb R Rb sum tpa tpk ros tot ha0
  obtain rfl : m = tp := by
    have h1 : m <= tp := by
      rcases m1 with e | ⟨j, hj, e⟩
      · omega
      · rw [e]; exact tpk j hj
    have h2 : tp <= m := by
      rcases tpa with e | ⟨j, hj, e⟩
      · omega
      · rw [e]; exact m2 j hj
    omega
  clear tpa tpk m1 m2
  (repeat (first | refine EK.seq ?_ | refine EK.region ?_ | refine ER.done ?_ | refine EK.block ?_ | refine ER.assign rfl rfl rfl ?_))
  refine EK.loopInv (fun q : Nat × Bool => [(23, .int .i64 q.1), (21, .int .i64 (zsum q.1 ha)), (22, .bool q.2), (16, .int .i64 (IntKind.i64.wrap (zsum adds.length fun k => adds.getD k 0))), (17, .int .i64 m), (10, .pointer (some ⟨vN, 0, none⟩)), (11, .pointer (some ⟨vC, 0, none⟩)), (13, .pointer (some ⟨vT, 0, none⟩)), (15, .pointer (some ⟨vP, 0, none⟩)), (19, .pointer (some ⟨vH, 0, none⟩)), (20, .pointer (some ⟨vR, 0, none⟩)), (3, .int .u8 t)])
    (fun q h' δ' => h' = hz /\ δ' = ⟨0, γz⟩ /\ q.1 <= n /\ (q.2 = true ↔ ∃ w, w < q.1 /\ ra w = true)) (fun q => n - q.1) (0, false) ⟨rfl, rfl, rfl, rfl, rfl, rfl, rfl, rfl, rfl, rfl, rfl, rfl, trivial⟩ ⟨rfl, rfl, Nat.zero_le _, ⟨fun z => (by cases z), fun ⟨w, hw, _⟩ => absurd hw (Nat.not_lt_zero _)⟩⟩ ?_
  rintro ⟨k, rr⟩ h' δ' ⟨rfl, rfl, hk, hr⟩ again
  dsimp only at hk hr again ⊢
  have z1 := zsum_nonneg k ha fun j hj => ha0 j (by omega)
  rcases Nat.lt_or_ge k n with hlt | hge
  · have z2 := zsum_mono (f := ha) (m := k + 1) n hlt ha0
    have z3 : zsum (k + 1) ha = zsum k ha + ha k := rfl
    have z4 := ha0 k hlt
    have hc1 : hcell h' ⟨hb, 0 + ((k : Nat) : Int).toNat * 1, none⟩ = some (.int .i64 (ha k)) := by rw [show 0 + ((k : Nat) : Int).toNat * 1 = k by simp]; exact Hb k hlt
    have hc2 : hcell h' ⟨rb, 0 + ((k : Nat) : Int).toNat * 1, none⟩ = some (.bool (ra k)) := by rw [show 0 + ((k : Nat) : Int).toNat * 1 = k by simp]; exact Rb k hlt
    cases rr
    · (repeat (first | refine EK.seq ?_ | refine EK.region ?_ | refine ER.done ?_ | refine EK.skip ?_ | refine EK.block ?_ | refine EK.inBlock ?_ | refine ER.move rfl rfl rfl ?_ | refine ER.assign rfl rfl rfl ?_ | refine ER.pickF rfl rfl rfl rfl ?_ | refine ER.cmpT rfl rfl rfl rfl rfl (by first | (dsimp only [cmpP]; omega) | exact rfl | exact Int.le_refl _) ?_ | refine ER.add (kd := .i64) rfl rfl rfl rfl (i64_in (by omega) (by omega)) ?_ | refine ER.indexSl rfl rfl rfl rfl (by omega) (by omega) ?_ | refine EK.condT rfl ?_ | refine ER.load1 rfl rfl rfl (by assumption) ?_))
      refine EK.back (again (k + 1, ra k) _ _ (by dsimp only; omega) ⟨rfl, rfl, hlt, ?_⟩) ⟨rfl, rfl, rfl, rfl, rfl, rfl, rfl, rfl, rfl, rfl, rfl, rfl, trivial⟩
      dsimp only
      constructor
      · exact fun z => ⟨k, Nat.lt_succ_self k, z⟩
      · rintro ⟨w, hw, hv⟩
        by_cases e : w = k
        · rw [<- e]; exact hv
        · have := hr.2 ⟨w, by omega, hv⟩
          cases this
    · (repeat (first | refine EK.seq ?_ | refine EK.region ?_ | refine ER.done ?_ | refine EK.skip ?_ | refine EK.block ?_ | refine EK.inBlock ?_ | refine ER.move rfl rfl rfl ?_ | refine ER.assign rfl rfl rfl ?_ | refine ER.no rfl rfl ?_ | refine ER.pickT rfl rfl rfl rfl ?_ | refine ER.cmpT rfl rfl rfl rfl rfl (by first | (dsimp only [cmpP]; omega) | exact rfl | exact Int.le_refl _) ?_ | refine ER.add (kd := .i64) rfl rfl rfl rfl (i64_in (by omega) (by omega)) ?_ | refine ER.indexSl rfl rfl rfl rfl (by omega) (by omega) ?_ | refine EK.condT rfl ?_ | refine ER.load1 rfl rfl rfl (by assumption) ?_))
      refine EK.back (again (k + 1, true) _ _ (by dsimp only; omega) ⟨rfl, rfl, hlt, ?_⟩) ⟨rfl, rfl, rfl, rfl, rfl, rfl, rfl, rfl, rfl, rfl, rfl, rfl, trivial⟩
      dsimp only
      obtain ⟨w, hw, hv⟩ := hr.1 rfl
      exact ⟨fun _ => ⟨w, by omega, hv⟩, fun _ => rfl⟩
  obtain rfl : k = n := by omega
  clear again
  rw [ros] at hr
  have hsum := cntsum_all (main := true) (δ := (⟨0, γz⟩ : Ix (Gf Cy))) (v := v) (B := fun j => B (4 + j)) (by omega) Cb Cs
  rw [sum] at hsum
  (repeat (first | refine EK.seq ?_ | refine EK.region ?_ | refine ER.done ?_ | refine ER.move rfl rfl rfl ?_ | refine ER.cmpF rfl rfl rfl rfl rfl (by first | (dsimp only [cmpP]; omega) | exact rfl | exact Int.le_refl _) ?_ | refine EK.condF rfl ?_ | refine EK.exit rfl ?_ | refine ER.load1 rfl rfl rfl (by assumption) ?_))
  refine ER.callD rfl rfl rfl rfl rfl (lft hsum) ?_
  (repeat (first | refine ER.move rfl rfl rfl ?_ | refine ER.cmpT rfl rfl rfl rfl rfl (by first | (dsimp only [cmpP]; omega) | exact rfl | exact Int.le_refl _) ?_ | refine ER.load1 rfl rfl rfl (by assumption) ?_))
  refine ER.callD rfl rfl rfl rfl rfl (lft (top_ok P1 p0)) ?_
  have z1 := zsum_nonneg k ha ha0
  have tot' : zsum k ha + lf = t := by omega
  cases rr
  · have hm : ¬ (-1 < m) := fun z => by have := hr.2 z; cases this
    (repeat (first | refine ER.move rfl rfl rfl ?_ | refine ER.eqV rfl rfl rfl rfl rfl ?_ | refine ER.pickT rfl rfl rfl rfl ?_ | refine ER.cmpT rfl rfl rfl rfl rfl (by first | (dsimp only [cmpP]; omega) | exact rfl | exact Int.le_refl _) ?_ | refine ER.cmpF rfl rfl rfl rfl rfl (by first | (dsimp only [cmpP]; omega) | exact rfl | exact Int.le_refl _) ?_ | refine ER.load1 rfl rfl rfl (by assumption) ?_))
    refine ER.callD rfl rfl rfl rfl rfl (lft (tleft_ok T1 l0)) ?_
    (repeat (first | refine ER.move rfl rfl rfl ?_ | refine ER.add (kd := .i64) rfl rfl rfl rfl (i64_in (by omega) (by omega)) ?_))
    refine ER.conv (kd := .u8) (r := t) rfl rfl rfl (i64_in (by omega) (by omega)) ?_
    (repeat (first | refine ER.move rfl rfl rfl ?_ | refine ER.pickT rfl rfl rfl rfl ?_ | refine ER.cmpT rfl rfl rfl rfl rfl (by first | (dsimp only [cmpP]; omega) | exact rfl | exact Int.le_refl _) ?_ | refine ER.load1 rfl rfl rfl (by assumption) ?_))
    refine ER.callD rfl rfl rfl rfl rfl (lft (tleft_ok T1 l0)) ?_
    (repeat (first | refine ER.done ?_ | refine ER.assign rfl rfl rfl ?_ | refine ER.pickT rfl rfl rfl rfl ?_ | refine ER.cmpT rfl rfl rfl rfl rfl (by first | (dsimp only [cmpP]; omega) | exact rfl | exact Int.le_refl _) ?_ | refine EK.ret ?_))
    exact EU.ret1 rfl rfl ⟨rfl, rfl, uu, .inl hjn⟩
  · have hm : -1 < m := hr.1 rfl
    (repeat (first | refine ER.move rfl rfl rfl ?_ | refine ER.eqV rfl rfl rfl rfl rfl ?_ | refine ER.pickT rfl rfl rfl rfl ?_ | refine ER.cmpT rfl rfl rfl rfl rfl (by first | (dsimp only [cmpP]; omega) | exact rfl | exact Int.le_refl _) ?_ | refine ER.load1 rfl rfl rfl (by assumption) ?_))
    refine ER.callD rfl rfl rfl rfl rfl (lft (tleft_ok T1 l0)) ?_
    (repeat (first | refine ER.move rfl rfl rfl ?_ | refine ER.add (kd := .i64) rfl rfl rfl rfl (i64_in (by omega) (by omega)) ?_))
    refine ER.conv (kd := .u8) (r := t) rfl rfl rfl (i64_in (by omega) (by omega)) ?_
    (repeat (first | refine ER.move rfl rfl rfl ?_ | refine ER.pickT rfl rfl rfl rfl ?_ | refine ER.cmpT rfl rfl rfl rfl rfl (by first | (dsimp only [cmpP]; omega) | exact rfl | exact Int.le_refl _) ?_ | refine ER.load1 rfl rfl rfl (by assumption) ?_))
    refine ER.callD rfl rfl rfl rfl rfl (lft (tleft_ok T1 l0)) ?_
    (repeat (first | refine ER.done ?_ | refine ER.assign rfl rfl rfl ?_ | refine ER.pickT rfl rfl rfl rfl ?_ | refine ER.cmpT rfl rfl rfl rfl rfl (by first | (dsimp only [cmpP]; omega) | exact rfl | exact Int.le_refl _) ?_ | refine EK.ret ?_))
    exact EU.ret1 rfl rfl ⟨rfl, rfl, uu, .inl hjn⟩
end
end Go.Proofs.Ytakioblpgmjdaaa
