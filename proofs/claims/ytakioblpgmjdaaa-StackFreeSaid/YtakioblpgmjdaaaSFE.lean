/- Steps of the walk and of the plain law (FMv to SfH). Conditions: as each lemma says. -/
import Derived.Laws.BitsAllLaws
import Derived.Test.YtakioblpgmjdaaaSFD
set_option linter.unusedSectionVars false
set_option linter.unusedVariables false
set_option linter.unusedSimpArgs false
namespace Go.Proofs.Ytakioblpgmjdaaa
section
open Go Go.TJ Go.Proofs
variable [Dm]
section
variable {Y : Type} {T : Tids} {L : Law Y} {h : Hp} {δ : Ix (Gf Y)} {i b : Nat}
theorem ilock_ok (hL : L.Ok) (hA : At L i ⟨b, 1, 0⟩ δ.g) : CallW Try.prog false (SitW Try.prog (XF T L) i) 112 #[.pointer (some ⟨b, 2, none⟩)] h δ (Ret (MuQ L i h δ.d δ.g ⟨b, 6, 0⟩)) := by
  refine CallW.start (n := 13) rfl rfl ?_
  (repeat (first | refine EK.seq ?_ | refine EK.region ?_))
  refine ER.ext rfl rfl rfl rfl (fun Q X hq => semW_mark0 (vs := #[]) (by simp) (by simp) hq) ?_
  (repeat (first | refine EK.seq ?_ | refine EK.region ?_ | refine ER.done ?_ | refine ER.move rfl rfl rfl ?_ | refine ER.nilCheck rfl rfl rfl ?_ | refine ER.fieldAddr rfl rfl rfl ?_))
  refine ER.casM (c := 1) hL rfl rfl rfl rfl hA (by decide) fun γ₁ q1 a1 m1 c1 l1 => ⟨fun e => ?_, fun ne => ?_⟩
  · obtain ⟨eb, ek, es, en⟩ := mu_word (x1 := 0) (x2 := 0) (x3 := 0) (x4 := 0) m1 (by decide) (by decide) (by decide) e
    refine ⟨{ γ₁.mu b with b := 1 }, 6, 0, by simp only [Mu.word, ek, es, en]; rfl, rfl, .take0 eb es, fun γ₂ q2 a2 e2 => ?_⟩
    (repeat (first | refine EK.seq ?_ | refine EK.region ?_ | refine ER.done ?_ | refine EK.condT rfl ?_))
    refine ER.ext rfl rfl rfl rfl (fun Q X hq => semW_mark0 (vs := #[]) (by simp) (by simp) hq) ?_
    (repeat (first | refine EK.region ?_ | refine ER.done ?_ | refine ER.move rfl rfl rfl ?_))
    refine ER.unsafeM hL rfl rfl rfl (by decide) a2 (by decide) fun γ₃ q3 a3 => ?_
    refine ER.ext rfl rfl rfl rfl (fun Q X hq => semW_marked (by simp) (by simp) hq (hDu := a3.nd)) ?_
    (repeat (first | refine ER.done ?_ | refine EK.ret ?_))
    exact EU.ret0 rfl ⟨rfl, rfl, rfl, q2.trans hL q3, a3⟩
  · (repeat (first | refine EK.region ?_ | refine ER.done ?_ | refine EK.skip ?_ | refine ER.move rfl rfl rfl ?_ | refine EK.condF rfl ?_))
    refine ER.callR rfl rfl rfl rfl rfl (lockSlow_ok hL a1) ?_
    rintro v h' ⟨d', γ'⟩ ⟨rfl, rfl, e1, r1, a1'⟩
    simp only at e1 r1 a1'
    subst e1
    (repeat refine ER.done ?_)
    refine EK.done ?_
    exact EU.ret0 rfl ⟨rfl, rfl, rfl, q1.trans hL r1, a1'⟩
structure Uk (Y : Type) where
  m : Mu
  γ : Gf Y
  lv : Bool
def Uk.E (b : Nat) (s : Uk Y) : Env := [(4, .int .i32 (W s.m.b s.m.k s.m.s s.m.n)), (0, .pointer (some ⟨b, 2, none⟩))]
structure Uk.Ok (L : Law Y) (i b d : Nat) (γ₀ : Gf Y) (h : Hp) (s : Uk Y) (h' : Hp) (δ' : Ix (Gf Y)) : Prop where
  hp : h' = h
  d : δ'.d = d
  r0 : Ro L i γ₀ s.γ
  r1 : Ro L i s.γ δ'.g
  mu : s.lv = false -> (s.γ.mu b).word = W 0 0 0 s.m.n
  a : At L i ⟨b, if s.lv then 0 else 7, 0⟩ δ'.g
  b1 : s.m.b <= 1
  k1 : s.m.k <= 1
  s1 : s.m.s <= 1
  n1 : s.m.n <= 200
  go : s.lv = true -> s.m.n = 0 \/ s.m.b = 1 \/ s.m.k = 1 \/ s.m.s = 1
  st : s.lv = false -> s.m.b = 0 /\ s.m.k = 0 /\ s.m.s = 0 /\ s.m.n ≠ 0
theorem W_add1 {k s n : Nat} (hk : k <= 1) (hs : s <= 1) (hn : n <= 1000) : IntKind.i32.wrap (W 0 k s n + 1) = W 1 k s n := by
  unfold W
  rw [show ((0 + 2 * k + 4 * s + 8 * n : Nat) : Int) + 1 = ((1 + 2 * k + 4 * s + 8 * n : Nat) : Int) by omega]
  exact i32_nat (by omega)
set_option maxHeartbeats 4000000 in
theorem unlockSlow_ok (hL : L.Ok) {k s n c : Nat} (hk : k <= 1) (hs : s <= 1) (hn0 : n <= 200) (hA : At L i ⟨b, c, 0⟩ δ.g) (hc : (c = 0 /\ s = 0 /\ (n = 0 \/ k = 1)) \/ (c = 7 /\ s = 0 /\ n ≠ 0 /\ k = 0 /\ (δ.g.mu b).word = W 0 0 0 n) \/ (c = 9 /\ s = 1)) :
    CallW Try.prog false (SitW Try.prog (XF T L) i) 122 #[.pointer (some ⟨b, 2, none⟩), .int .i32 (W 0 k s n)] h δ (Ret (MuQ L i h δ.d δ.g ⟨b, 0, 0⟩)) := by
  refine CallW.start (n := 43) rfl rfl ?_
  have hn : n <= 1000 := by omega
  (repeat (first | refine EK.seq ?_ | refine EK.region ?_ | refine ER.move rfl rfl rfl ?_))
  refine ER.add (kd := .i32) (r := W 1 k s n) rfl rfl rfl rfl (W_add1 hk hs hn) ?_
  refine ER.andI (b := 1) rfl rfl rfl rfl (W_and (by decide) hk hs hn).2.1 ?_
  (repeat (first | refine EK.seq ?_ | refine EK.region ?_ | refine ER.done ?_ | refine EK.skip ?_ | refine ER.move rfl rfl rfl ?_ | refine ER.cmpF rfl rfl rfl rfl rfl (by first | (dsimp only [cmpP]; omega) | exact rfl | exact Int.le_refl _) ?_ | refine EK.condF rfl ?_))
  refine ER.andI (b := 4) rfl rfl rfl rfl (W_and (by decide) hk hs hn).2.2.2.1 ?_
  have hs' : s = 0 \/ s = 1 := by omega
  rcases hs' with rfl | rfl
  · (repeat (first | refine EK.seq ?_ | refine EK.region ?_ | refine ER.done ?_ | refine EK.block ?_ | refine ER.move rfl rfl rfl ?_ | refine ER.assign rfl rfl rfl ?_ | refine ER.cmpT rfl rfl rfl rfl rfl (by first | (dsimp only [cmpP]; omega) | exact rfl | exact Int.le_refl _) ?_ | refine EK.condT rfl ?_))
    refine EK.loopInv (Uk.E b) (Uk.Ok L i b δ.d δ.g h) (fun s => pot L s.γ) ⟨⟨0, k, 0, n, 0⟩, δ.g, decide (c = 0)⟩ ⟨rfl, rfl, trivial⟩ ⟨rfl, rfl, Ro.refl hL _ _, Ro.refl hL _ _, ?_, ?_, Nat.zero_le _, hk, Nat.zero_le _, hn0, ?_, ?_⟩ ?_
    · intro e
      rcases hc with ⟨rfl, _⟩ | ⟨_, _, _, _, h5⟩ | ⟨_, h⟩
      · simp at e
      · exact h5
      · cases h
    · rcases hc with ⟨rfl, _⟩ | ⟨rfl, _⟩ | ⟨_, h⟩
      · exact hA
      · exact hA
      · cases h
    · intro e
      rcases hc with ⟨rfl, _, h⟩ | ⟨rfl, _⟩ | ⟨_, h⟩
      · rcases h with h | h
        · exact .inl h
        · exact .inr (.inr (.inl h))
      · simp at e
      · cases h
    · intro e
      rcases hc with ⟨rfl, _⟩ | ⟨_, _, h3, h4, _⟩ | ⟨_, h⟩
      · simp at e
      · exact ⟨rfl, h4, rfl, h3⟩
      · cases h
    intro s h' δ' hI hback
    obtain ⟨rfl, hd, r0, r1, hmu, ha, hb1, hk1, hs1, hn1, hgo, hst⟩ := hI
    obtain ⟨⟨mb, mk, ms, mn, mz⟩, γs, lv⟩ := s
    simp only at hmu r0 r1 ha hb1 hk1 hs1 hn1 hgo hst
    have hn1' : mn <= 1000 := by omega
    refine EK.sub (show subE [(4, .int .i32 (W mb mk ms mn)), (0, .pointer (some ⟨b, 2, none⟩))] _ from ⟨rfl, rfl, trivial⟩) ?_
    cases lv
    · obtain ⟨rfl, rfl, rfl, h0⟩ := hst rfl
      replace ha : At L i ⟨b, 7, 0⟩ δ'.g := ha
      (repeat (first | refine EK.seq ?_ | refine EK.region ?_ | refine ER.done ?_ | refine EK.skip ?_ | refine EK.block ?_ | refine EK.inBlock ?_ | refine ER.move rfl rfl rfl ?_ | refine ER.assign rfl rfl rfl ?_ | refine ER.nilCheck rfl rfl rfl ?_ | refine ER.fieldAddr rfl rfl rfl ?_ | refine ER.load1 rfl rfl rfl (hcell_of (by assumption) rfl) ?_ | refine ER.no rfl rfl ?_ | refine ER.noU rfl ?_ | refine ER.eqV rfl rfl rfl rfl rfl ?_ | refine ER.neqV rfl rfl rfl rfl rfl ?_ | refine ER.eqA rfl rfl rfl rfl rfl ?_ | refine ER.neqA rfl rfl rfl rfl rfl ?_ | refine ER.notB rfl rfl rfl ?_ | refine ER.pickT rfl rfl rfl rfl ?_ | refine ER.pickF rfl rfl rfl rfl ?_ | refine ER.extract rfl rfl rfl rfl ?_ | refine ER.cmpT rfl rfl rfl rfl rfl (by first | (dsimp only [cmpP]; omega) | exact rfl | exact Int.le_refl _) ?_ | refine ER.cmpF rfl rfl rfl rfl rfl (by first | (dsimp only [cmpP]; omega) | exact rfl | exact Int.le_refl _) ?_ | refine ER.boxA rfl rfl rfl ?_ | refine ER.box rfl rfl rfl ?_ | refine ER.allocA rfl rfl ?_ | refine ER.alloc rfl rfl ?_ | refine ER.add (kd := .i64) rfl rfl rfl rfl (i64_in (by omega) (by omega)) ?_ | refine ER.sub' (kd := .i64) rfl rfl rfl rfl (i64_in (by omega) (by omega)) ?_ | refine ER.mul (kd := .i64) rfl rfl rfl rfl (i64_in (by omega) (by omega)) ?_ | refine ER.rem (kd := .i64) rfl rfl rfl rfl (by decide) rfl ?_ | refine ER.indexArr rfl rfl rfl rfl (by omega) (by omega) ?_ | refine ER.len1 rfl rfl rfl ?_ | refine ER.indexSl rfl rfl rfl rfl (by omega) (by omega) ?_ | refine EK.condT rfl ?_ | refine EK.condF rfl ?_ | refine ER.andI (b := 5) rfl rfl rfl rfl (W_and (by decide) (by decide) (by decide) (by omega)).1 ?_ | refine ER.andI (b := 1) rfl rfl rfl rfl (W_and (by decide) (by decide) (by decide) (by omega)).2.1 ?_ | refine ER.andI (b := 2) rfl rfl rfl rfl (W_and (by decide) (by decide) (by decide) (by omega)).2.2.1 ?_ | refine ER.andI (b := 4) rfl rfl rfl rfl (W_and (by decide) (by decide) (by decide) (by omega)).2.2.2.1 ?_ | refine ER.andI (b := 3) rfl rfl rfl rfl (W_and (by decide) (by decide) (by decide) (by omega)).2.2.2.2.1 ?_ | refine ER.andI (b := 7) rfl rfl rfl rfl (W_and (by decide) (by decide) (by decide) (by omega)).2.2.2.2.2 ?_ | refine ER.binI (op := .or) (b := 1) rfl rfl rfl rfl (by rw [binOp_bits (.inr rfl), (W_or (by decide) (by decide) (by decide) (by omega)).1]) ?_ | refine ER.binI (op := .or) (b := 2) rfl rfl rfl rfl (by rw [binOp_bits (.inr rfl), (W_or (by decide) (by decide) (by decide) (by omega)).2.1]) ?_ | refine ER.binI (op := .or) (b := 4) rfl rfl rfl rfl (by rw [binOp_bits (.inr rfl), (W_or (by decide) (by decide) (by decide) (by omega)).2.2]) ?_ | refine ER.binI2 (op := .shr) rfl rfl rfl rfl (W_shr (by decide) (by decide) (by decide)) ?_ | refine ER.binI (op := .andNot) rfl rfl rfl rfl (by rw [binOp_andN, W_andNot (by decide) (by decide) (by omega)]) ?_ | refine ER.add (kd := .i32) (b := 8) rfl rfl rfl rfl (W_add8 (by decide) (by decide) (by decide) (by omega)) ?_ | refine ER.sub' (kd := .i32) (b := 8) rfl rfl rfl rfl (W_sub8 (by decide) (by decide) (by decide) (by omega) (by omega)) ?_))
      refine ER.casM (c := 7) hL rfl rfl rfl rfl ha (by decide) fun γ₁ q1 a1 m1 c1 l1 => ⟨fun e => ?_, fun ne => ?_⟩
      · obtain ⟨eb, ek, es, en⟩ := mu_word m1 (by decide) (by decide) (by decide) e
        refine ⟨{ γ₁.mu b with n := (γ₁.mu b).n - 1, k := 1 }, 8, 0, by simp only [Mu.word, W, eb, es, en], rfl, .wake eb ek es (by omega), fun γ₂ q2 a2 e2 => ?_⟩
        (repeat (first | refine EK.seq ?_ | refine EK.region ?_ | refine ER.done ?_ | refine EK.skip ?_ | refine EK.block ?_ | refine EK.inBlock ?_ | refine ER.move rfl rfl rfl ?_ | refine ER.assign rfl rfl rfl ?_ | refine ER.nilCheck rfl rfl rfl ?_ | refine ER.fieldAddr rfl rfl rfl ?_ | refine ER.load1 rfl rfl rfl (hcell_of (by assumption) rfl) ?_ | refine ER.no rfl rfl ?_ | refine ER.noU rfl ?_ | refine ER.eqV rfl rfl rfl rfl rfl ?_ | refine ER.neqV rfl rfl rfl rfl rfl ?_ | refine ER.eqA rfl rfl rfl rfl rfl ?_ | refine ER.neqA rfl rfl rfl rfl rfl ?_ | refine ER.notB rfl rfl rfl ?_ | refine ER.pickT rfl rfl rfl rfl ?_ | refine ER.pickF rfl rfl rfl rfl ?_ | refine ER.extract rfl rfl rfl rfl ?_ | refine ER.cmpT rfl rfl rfl rfl rfl (by first | (dsimp only [cmpP]; omega) | exact rfl | exact Int.le_refl _) ?_ | refine ER.cmpF rfl rfl rfl rfl rfl (by first | (dsimp only [cmpP]; omega) | exact rfl | exact Int.le_refl _) ?_ | refine ER.boxA rfl rfl rfl ?_ | refine ER.box rfl rfl rfl ?_ | refine ER.allocA rfl rfl ?_ | refine ER.alloc rfl rfl ?_ | refine ER.add (kd := .i64) rfl rfl rfl rfl (i64_in (by omega) (by omega)) ?_ | refine ER.sub' (kd := .i64) rfl rfl rfl rfl (i64_in (by omega) (by omega)) ?_ | refine ER.mul (kd := .i64) rfl rfl rfl rfl (i64_in (by omega) (by omega)) ?_ | refine ER.rem (kd := .i64) rfl rfl rfl rfl (by decide) rfl ?_ | refine ER.indexArr rfl rfl rfl rfl (by omega) (by omega) ?_ | refine ER.len1 rfl rfl rfl ?_ | refine ER.indexSl rfl rfl rfl rfl (by omega) (by omega) ?_ | refine EK.condT rfl ?_ | refine EK.condF rfl ?_ | refine ER.andI (b := 5) rfl rfl rfl rfl (W_and (by decide) (by decide) (by decide) (by omega)).1 ?_ | refine ER.andI (b := 1) rfl rfl rfl rfl (W_and (by decide) (by decide) (by decide) (by omega)).2.1 ?_ | refine ER.andI (b := 2) rfl rfl rfl rfl (W_and (by decide) (by decide) (by decide) (by omega)).2.2.1 ?_ | refine ER.andI (b := 4) rfl rfl rfl rfl (W_and (by decide) (by decide) (by decide) (by omega)).2.2.2.1 ?_ | refine ER.andI (b := 3) rfl rfl rfl rfl (W_and (by decide) (by decide) (by decide) (by omega)).2.2.2.2.1 ?_ | refine ER.andI (b := 7) rfl rfl rfl rfl (W_and (by decide) (by decide) (by decide) (by omega)).2.2.2.2.2 ?_ | refine ER.binI (op := .or) (b := 1) rfl rfl rfl rfl (by rw [binOp_bits (.inr rfl), (W_or (by decide) (by decide) (by decide) (by omega)).1]) ?_ | refine ER.binI (op := .or) (b := 2) rfl rfl rfl rfl (by rw [binOp_bits (.inr rfl), (W_or (by decide) (by decide) (by decide) (by omega)).2.1]) ?_ | refine ER.binI (op := .or) (b := 4) rfl rfl rfl rfl (by rw [binOp_bits (.inr rfl), (W_or (by decide) (by decide) (by decide) (by omega)).2.2]) ?_ | refine ER.binI2 (op := .shr) rfl rfl rfl rfl (W_shr (by decide) (by decide) (by decide)) ?_ | refine ER.binI (op := .andNot) rfl rfl rfl rfl (by rw [binOp_andN, W_andNot (by decide) (by decide) (by omega)]) ?_ | refine ER.add (kd := .i32) (b := 8) rfl rfl rfl rfl (W_add8 (by decide) (by decide) (by decide) (by omega)) ?_ | refine ER.sub' (kd := .i32) (b := 8) rfl rfl rfl rfl (W_sub8 (by decide) (by decide) (by decide) (by omega) (by omega)) ?_))
        refine ER.semrelM hL rfl rfl rfl rfl a2 (.inl rfl) fun γ₃ q3 a3 => ?_
        (repeat (first | refine EK.seq ?_ | refine EK.region ?_ | refine ER.done ?_ | refine EK.skip ?_ | refine EK.block ?_ | refine EK.inBlock ?_ | refine ER.move rfl rfl rfl ?_ | refine ER.assign rfl rfl rfl ?_ | refine ER.nilCheck rfl rfl rfl ?_ | refine ER.fieldAddr rfl rfl rfl ?_ | refine ER.load1 rfl rfl rfl (hcell_of (by assumption) rfl) ?_ | refine ER.no rfl rfl ?_ | refine ER.noU rfl ?_ | refine ER.eqV rfl rfl rfl rfl rfl ?_ | refine ER.neqV rfl rfl rfl rfl rfl ?_ | refine ER.eqA rfl rfl rfl rfl rfl ?_ | refine ER.neqA rfl rfl rfl rfl rfl ?_ | refine ER.notB rfl rfl rfl ?_ | refine ER.pickT rfl rfl rfl rfl ?_ | refine ER.pickF rfl rfl rfl rfl ?_ | refine ER.extract rfl rfl rfl rfl ?_ | refine ER.cmpT rfl rfl rfl rfl rfl (by first | (dsimp only [cmpP]; omega) | exact rfl | exact Int.le_refl _) ?_ | refine ER.cmpF rfl rfl rfl rfl rfl (by first | (dsimp only [cmpP]; omega) | exact rfl | exact Int.le_refl _) ?_ | refine ER.boxA rfl rfl rfl ?_ | refine ER.box rfl rfl rfl ?_ | refine ER.allocA rfl rfl ?_ | refine ER.alloc rfl rfl ?_ | refine ER.add (kd := .i64) rfl rfl rfl rfl (i64_in (by omega) (by omega)) ?_ | refine ER.sub' (kd := .i64) rfl rfl rfl rfl (i64_in (by omega) (by omega)) ?_ | refine ER.mul (kd := .i64) rfl rfl rfl rfl (i64_in (by omega) (by omega)) ?_ | refine ER.rem (kd := .i64) rfl rfl rfl rfl (by decide) rfl ?_ | refine ER.indexArr rfl rfl rfl rfl (by omega) (by omega) ?_ | refine ER.len1 rfl rfl rfl ?_ | refine ER.indexSl rfl rfl rfl rfl (by omega) (by omega) ?_ | refine EK.condT rfl ?_ | refine EK.condF rfl ?_ | refine ER.andI (b := 5) rfl rfl rfl rfl (W_and (by decide) (by decide) (by decide) (by omega)).1 ?_ | refine ER.andI (b := 1) rfl rfl rfl rfl (W_and (by decide) (by decide) (by decide) (by omega)).2.1 ?_ | refine ER.andI (b := 2) rfl rfl rfl rfl (W_and (by decide) (by decide) (by decide) (by omega)).2.2.1 ?_ | refine ER.andI (b := 4) rfl rfl rfl rfl (W_and (by decide) (by decide) (by decide) (by omega)).2.2.2.1 ?_ | refine ER.andI (b := 3) rfl rfl rfl rfl (W_and (by decide) (by decide) (by decide) (by omega)).2.2.2.2.1 ?_ | refine ER.andI (b := 7) rfl rfl rfl rfl (W_and (by decide) (by decide) (by decide) (by omega)).2.2.2.2.2 ?_ | refine ER.binI (op := .or) (b := 1) rfl rfl rfl rfl (by rw [binOp_bits (.inr rfl), (W_or (by decide) (by decide) (by decide) (by omega)).1]) ?_ | refine ER.binI (op := .or) (b := 2) rfl rfl rfl rfl (by rw [binOp_bits (.inr rfl), (W_or (by decide) (by decide) (by decide) (by omega)).2.1]) ?_ | refine ER.binI (op := .or) (b := 4) rfl rfl rfl rfl (by rw [binOp_bits (.inr rfl), (W_or (by decide) (by decide) (by decide) (by omega)).2.2]) ?_ | refine ER.binI2 (op := .shr) rfl rfl rfl rfl (W_shr (by decide) (by decide) (by decide)) ?_ | refine ER.binI (op := .andNot) rfl rfl rfl rfl (by rw [binOp_andN, W_andNot (by decide) (by decide) (by omega)]) ?_ | refine ER.add (kd := .i32) (b := 8) rfl rfl rfl rfl (W_add8 (by decide) (by decide) (by decide) (by omega)) ?_ | refine ER.sub' (kd := .i32) (b := 8) rfl rfl rfl rfl (W_sub8 (by decide) (by decide) (by decide) (by omega) (by omega)) ?_))
        refine EK.ret ?_
        exact EU.ret0 rfl ⟨rfl, rfl, hd, ((r0.trans hL r1).trans hL q2).trans hL q3, a3⟩
      · (repeat (first | refine EK.seq ?_ | refine EK.region ?_ | refine ER.done ?_ | refine EK.skip ?_ | refine EK.block ?_ | refine EK.inBlock ?_ | refine ER.move rfl rfl rfl ?_ | refine ER.assign rfl rfl rfl ?_ | refine ER.nilCheck rfl rfl rfl ?_ | refine ER.fieldAddr rfl rfl rfl ?_ | refine ER.load1 rfl rfl rfl (hcell_of (by assumption) rfl) ?_ | refine ER.no rfl rfl ?_ | refine ER.noU rfl ?_ | refine ER.eqV rfl rfl rfl rfl rfl ?_ | refine ER.neqV rfl rfl rfl rfl rfl ?_ | refine ER.eqA rfl rfl rfl rfl rfl ?_ | refine ER.neqA rfl rfl rfl rfl rfl ?_ | refine ER.notB rfl rfl rfl ?_ | refine ER.pickT rfl rfl rfl rfl ?_ | refine ER.pickF rfl rfl rfl rfl ?_ | refine ER.extract rfl rfl rfl rfl ?_ | refine ER.cmpT rfl rfl rfl rfl rfl (by first | (dsimp only [cmpP]; omega) | exact rfl | exact Int.le_refl _) ?_ | refine ER.cmpF rfl rfl rfl rfl rfl (by first | (dsimp only [cmpP]; omega) | exact rfl | exact Int.le_refl _) ?_ | refine ER.boxA rfl rfl rfl ?_ | refine ER.box rfl rfl rfl ?_ | refine ER.allocA rfl rfl ?_ | refine ER.alloc rfl rfl ?_ | refine ER.add (kd := .i64) rfl rfl rfl rfl (i64_in (by omega) (by omega)) ?_ | refine ER.sub' (kd := .i64) rfl rfl rfl rfl (i64_in (by omega) (by omega)) ?_ | refine ER.mul (kd := .i64) rfl rfl rfl rfl (i64_in (by omega) (by omega)) ?_ | refine ER.rem (kd := .i64) rfl rfl rfl rfl (by decide) rfl ?_ | refine ER.indexArr rfl rfl rfl rfl (by omega) (by omega) ?_ | refine ER.len1 rfl rfl rfl ?_ | refine ER.indexSl rfl rfl rfl rfl (by omega) (by omega) ?_ | refine EK.condT rfl ?_ | refine EK.condF rfl ?_ | refine ER.andI (b := 5) rfl rfl rfl rfl (W_and (by decide) (by decide) (by decide) (by omega)).1 ?_ | refine ER.andI (b := 1) rfl rfl rfl rfl (W_and (by decide) (by decide) (by decide) (by omega)).2.1 ?_ | refine ER.andI (b := 2) rfl rfl rfl rfl (W_and (by decide) (by decide) (by decide) (by omega)).2.2.1 ?_ | refine ER.andI (b := 4) rfl rfl rfl rfl (W_and (by decide) (by decide) (by decide) (by omega)).2.2.2.1 ?_ | refine ER.andI (b := 3) rfl rfl rfl rfl (W_and (by decide) (by decide) (by decide) (by omega)).2.2.2.2.1 ?_ | refine ER.andI (b := 7) rfl rfl rfl rfl (W_and (by decide) (by decide) (by decide) (by omega)).2.2.2.2.2 ?_ | refine ER.binI (op := .or) (b := 1) rfl rfl rfl rfl (by rw [binOp_bits (.inr rfl), (W_or (by decide) (by decide) (by decide) (by omega)).1]) ?_ | refine ER.binI (op := .or) (b := 2) rfl rfl rfl rfl (by rw [binOp_bits (.inr rfl), (W_or (by decide) (by decide) (by decide) (by omega)).2.1]) ?_ | refine ER.binI (op := .or) (b := 4) rfl rfl rfl rfl (by rw [binOp_bits (.inr rfl), (W_or (by decide) (by decide) (by decide) (by omega)).2.2]) ?_ | refine ER.binI2 (op := .shr) rfl rfl rfl rfl (W_shr (by decide) (by decide) (by decide)) ?_ | refine ER.binI (op := .andNot) rfl rfl rfl rfl (by rw [binOp_andN, W_andNot (by decide) (by decide) (by omega)]) ?_ | refine ER.add (kd := .i32) (b := 8) rfl rfl rfl rfl (W_add8 (by decide) (by decide) (by decide) (by omega)) ?_ | refine ER.sub' (kd := .i32) (b := 8) rfl rfl rfl rfl (W_sub8 (by decide) (by decide) (by decide) (by omega) (by omega)) ?_))
        refine ER.loadM (c := 7) hL norace_unlockSlow rfl rfl rfl a1 (by decide) fun γ₃ q3 a3 m3 c3 l3 => ?_
        have hlt : pot L γ₃ < pot L γs := Nat.lt_of_le_of_lt q3.pot (Nat.lt_of_le_of_ne (r1.trans hL q1).pot fun z => ne (by rw [((r1.trans hL q1).same z).1]; exact hmu rfl))
        by_cases hg : (γ₃.mu b).n = 0 \/ (γ₃.mu b).b = 1 \/ (γ₃.mu b).k = 1 \/ (γ₃.mu b).s = 1
        · refine .inl ⟨0, 0, .off hg, fun γ₄ q4 a4 e4 p4 _ => ?_⟩
          (repeat (first | refine EK.seq ?_ | refine EK.region ?_ | refine ER.done ?_ | refine EK.skip ?_ | refine EK.block ?_ | refine EK.inBlock ?_ | refine ER.move rfl rfl rfl ?_ | refine ER.assign rfl rfl rfl ?_ | refine ER.nilCheck rfl rfl rfl ?_ | refine ER.fieldAddr rfl rfl rfl ?_ | refine ER.load1 rfl rfl rfl (hcell_of (by assumption) rfl) ?_ | refine ER.no rfl rfl ?_ | refine ER.noU rfl ?_ | refine ER.eqV rfl rfl rfl rfl rfl ?_ | refine ER.neqV rfl rfl rfl rfl rfl ?_ | refine ER.eqA rfl rfl rfl rfl rfl ?_ | refine ER.neqA rfl rfl rfl rfl rfl ?_ | refine ER.notB rfl rfl rfl ?_ | refine ER.pickT rfl rfl rfl rfl ?_ | refine ER.pickF rfl rfl rfl rfl ?_ | refine ER.extract rfl rfl rfl rfl ?_ | refine ER.cmpT rfl rfl rfl rfl rfl (by first | (dsimp only [cmpP]; omega) | exact rfl | exact Int.le_refl _) ?_ | refine ER.cmpF rfl rfl rfl rfl rfl (by first | (dsimp only [cmpP]; omega) | exact rfl | exact Int.le_refl _) ?_ | refine ER.boxA rfl rfl rfl ?_ | refine ER.box rfl rfl rfl ?_ | refine ER.allocA rfl rfl ?_ | refine ER.alloc rfl rfl ?_ | refine ER.add (kd := .i64) rfl rfl rfl rfl (i64_in (by omega) (by omega)) ?_ | refine ER.sub' (kd := .i64) rfl rfl rfl rfl (i64_in (by omega) (by omega)) ?_ | refine ER.mul (kd := .i64) rfl rfl rfl rfl (i64_in (by omega) (by omega)) ?_ | refine ER.rem (kd := .i64) rfl rfl rfl rfl (by decide) rfl ?_ | refine ER.indexArr rfl rfl rfl rfl (by omega) (by omega) ?_ | refine ER.len1 rfl rfl rfl ?_ | refine ER.indexSl rfl rfl rfl rfl (by omega) (by omega) ?_ | refine EK.condT rfl ?_ | refine EK.condF rfl ?_ | refine ER.andI (b := 5) rfl rfl rfl rfl (W_and (by decide) (by decide) (by decide) (by omega)).1 ?_ | refine ER.andI (b := 1) rfl rfl rfl rfl (W_and (by decide) (by decide) (by decide) (by omega)).2.1 ?_ | refine ER.andI (b := 2) rfl rfl rfl rfl (W_and (by decide) (by decide) (by decide) (by omega)).2.2.1 ?_ | refine ER.andI (b := 4) rfl rfl rfl rfl (W_and (by decide) (by decide) (by decide) (by omega)).2.2.2.1 ?_ | refine ER.andI (b := 3) rfl rfl rfl rfl (W_and (by decide) (by decide) (by decide) (by omega)).2.2.2.2.1 ?_ | refine ER.andI (b := 7) rfl rfl rfl rfl (W_and (by decide) (by decide) (by decide) (by omega)).2.2.2.2.2 ?_ | refine ER.binI (op := .or) (b := 1) rfl rfl rfl rfl (by rw [binOp_bits (.inr rfl), (W_or (by decide) (by decide) (by decide) (by omega)).1]) ?_ | refine ER.binI (op := .or) (b := 2) rfl rfl rfl rfl (by rw [binOp_bits (.inr rfl), (W_or (by decide) (by decide) (by decide) (by omega)).2.1]) ?_ | refine ER.binI (op := .or) (b := 4) rfl rfl rfl rfl (by rw [binOp_bits (.inr rfl), (W_or (by decide) (by decide) (by decide) (by omega)).2.2]) ?_ | refine ER.binI2 (op := .shr) rfl rfl rfl rfl (W_shr (by decide) (by decide) (by decide)) ?_ | refine ER.binI (op := .andNot) rfl rfl rfl rfl (by rw [binOp_andN, W_andNot (by decide) (by decide) (by omega)]) ?_ | refine ER.add (kd := .i32) (b := 8) rfl rfl rfl rfl (W_add8 (by decide) (by decide) (by decide) (by omega)) ?_ | refine ER.sub' (kd := .i32) (b := 8) rfl rfl rfl rfl (W_sub8 (by decide) (by decide) (by decide) (by omega) (by omega)) ?_))
          refine EK.sub ?_ (hback ⟨γ₃.mu b, γ₄, true⟩ _ _ (Nat.lt_of_le_of_lt p4 hlt) ⟨rfl, hd, (r0.trans hL r1).trans hL (q1.trans hL q4), Ro.refl hL _ _, nofun, a4, m3.b1, m3.k1, m3.s1, mi_n m3 (fun x => ct_le x) l3, fun _ => hg, nofun⟩)
          exact ⟨rfl, rfl, trivial⟩
        · refine .inr ?_
          (repeat (first | refine EK.seq ?_ | refine EK.region ?_ | refine ER.done ?_ | refine EK.skip ?_ | refine EK.block ?_ | refine EK.inBlock ?_ | refine ER.move rfl rfl rfl ?_ | refine ER.assign rfl rfl rfl ?_ | refine ER.nilCheck rfl rfl rfl ?_ | refine ER.fieldAddr rfl rfl rfl ?_ | refine ER.load1 rfl rfl rfl (hcell_of (by assumption) rfl) ?_ | refine ER.no rfl rfl ?_ | refine ER.noU rfl ?_ | refine ER.eqV rfl rfl rfl rfl rfl ?_ | refine ER.neqV rfl rfl rfl rfl rfl ?_ | refine ER.eqA rfl rfl rfl rfl rfl ?_ | refine ER.neqA rfl rfl rfl rfl rfl ?_ | refine ER.notB rfl rfl rfl ?_ | refine ER.pickT rfl rfl rfl rfl ?_ | refine ER.pickF rfl rfl rfl rfl ?_ | refine ER.extract rfl rfl rfl rfl ?_ | refine ER.cmpT rfl rfl rfl rfl rfl (by first | (dsimp only [cmpP]; omega) | exact rfl | exact Int.le_refl _) ?_ | refine ER.cmpF rfl rfl rfl rfl rfl (by first | (dsimp only [cmpP]; omega) | exact rfl | exact Int.le_refl _) ?_ | refine ER.boxA rfl rfl rfl ?_ | refine ER.box rfl rfl rfl ?_ | refine ER.allocA rfl rfl ?_ | refine ER.alloc rfl rfl ?_ | refine ER.add (kd := .i64) rfl rfl rfl rfl (i64_in (by omega) (by omega)) ?_ | refine ER.sub' (kd := .i64) rfl rfl rfl rfl (i64_in (by omega) (by omega)) ?_ | refine ER.mul (kd := .i64) rfl rfl rfl rfl (i64_in (by omega) (by omega)) ?_ | refine ER.rem (kd := .i64) rfl rfl rfl rfl (by decide) rfl ?_ | refine ER.indexArr rfl rfl rfl rfl (by omega) (by omega) ?_ | refine ER.len1 rfl rfl rfl ?_ | refine ER.indexSl rfl rfl rfl rfl (by omega) (by omega) ?_ | refine EK.condT rfl ?_ | refine EK.condF rfl ?_ | refine ER.andI (b := 5) rfl rfl rfl rfl (W_and (by decide) (by decide) (by decide) (by omega)).1 ?_ | refine ER.andI (b := 1) rfl rfl rfl rfl (W_and (by decide) (by decide) (by decide) (by omega)).2.1 ?_ | refine ER.andI (b := 2) rfl rfl rfl rfl (W_and (by decide) (by decide) (by decide) (by omega)).2.2.1 ?_ | refine ER.andI (b := 4) rfl rfl rfl rfl (W_and (by decide) (by decide) (by decide) (by omega)).2.2.2.1 ?_ | refine ER.andI (b := 3) rfl rfl rfl rfl (W_and (by decide) (by decide) (by decide) (by omega)).2.2.2.2.1 ?_ | refine ER.andI (b := 7) rfl rfl rfl rfl (W_and (by decide) (by decide) (by decide) (by omega)).2.2.2.2.2 ?_ | refine ER.binI (op := .or) (b := 1) rfl rfl rfl rfl (by rw [binOp_bits (.inr rfl), (W_or (by decide) (by decide) (by decide) (by omega)).1]) ?_ | refine ER.binI (op := .or) (b := 2) rfl rfl rfl rfl (by rw [binOp_bits (.inr rfl), (W_or (by decide) (by decide) (by decide) (by omega)).2.1]) ?_ | refine ER.binI (op := .or) (b := 4) rfl rfl rfl rfl (by rw [binOp_bits (.inr rfl), (W_or (by decide) (by decide) (by decide) (by omega)).2.2]) ?_ | refine ER.binI2 (op := .shr) rfl rfl rfl rfl (W_shr (by decide) (by decide) (by decide)) ?_ | refine ER.binI (op := .andNot) rfl rfl rfl rfl (by rw [binOp_andN, W_andNot (by decide) (by decide) (by omega)]) ?_ | refine ER.add (kd := .i32) (b := 8) rfl rfl rfl rfl (W_add8 (by decide) (by decide) (by decide) (by omega)) ?_ | refine ER.sub' (kd := .i32) (b := 8) rfl rfl rfl rfl (W_sub8 (by decide) (by decide) (by decide) (by omega) (by omega)) ?_))
          have hb3 := m3.b1
          have hk3 := m3.k1
          have hs3 := m3.s1
          have z1 : (γ₃.mu b).b = 0 := by omega
          have z2 : (γ₃.mu b).k = 0 := by omega
          have z3 : (γ₃.mu b).s = 0 := by omega
          refine EK.sub ?_ (hback ⟨γ₃.mu b, γ₃, false⟩ _ _ hlt ⟨rfl, hd, (r0.trans hL r1).trans hL (q1.trans hL q3), Ro.refl hL _ _, fun _ => by rw [Mu.word_eq, z1, z2, z3], a3, m3.b1, m3.k1, m3.s1, mi_n m3 (fun x => ct_le x) l3, nofun, fun _ => ⟨z1, z2, z3, fun z => hg (.inl z)⟩⟩)
          exact ⟨rfl, rfl, trivial⟩
    · replace ha : At L i ⟨b, 0, 0⟩ δ'.g := ha
      have hgo := hgo rfl
      (repeat (first | refine EK.seq ?_ | refine EK.region ?_ | refine ER.done ?_ | refine EK.skip ?_ | refine EK.block ?_ | refine EK.inBlock ?_ | refine ER.move rfl rfl rfl ?_ | refine ER.assign rfl rfl rfl ?_ | refine ER.nilCheck rfl rfl rfl ?_ | refine ER.fieldAddr rfl rfl rfl ?_ | refine ER.load1 rfl rfl rfl (hcell_of (by assumption) rfl) ?_ | refine ER.no rfl rfl ?_ | refine ER.noU rfl ?_ | refine ER.eqV rfl rfl rfl rfl rfl ?_ | refine ER.neqV rfl rfl rfl rfl rfl ?_ | refine ER.eqA rfl rfl rfl rfl rfl ?_ | refine ER.neqA rfl rfl rfl rfl rfl ?_ | refine ER.notB rfl rfl rfl ?_ | refine ER.pickT rfl rfl rfl rfl ?_ | refine ER.pickF rfl rfl rfl rfl ?_ | refine ER.extract rfl rfl rfl rfl ?_ | refine ER.cmpT rfl rfl rfl rfl rfl (by first | (dsimp only [cmpP]; omega) | exact rfl | exact Int.le_refl _) ?_ | refine ER.cmpF rfl rfl rfl rfl rfl (by first | (dsimp only [cmpP]; omega) | exact rfl | exact Int.le_refl _) ?_ | refine ER.boxA rfl rfl rfl ?_ | refine ER.box rfl rfl rfl ?_ | refine ER.allocA rfl rfl ?_ | refine ER.alloc rfl rfl ?_ | refine ER.add (kd := .i64) rfl rfl rfl rfl (i64_in (by omega) (by omega)) ?_ | refine ER.sub' (kd := .i64) rfl rfl rfl rfl (i64_in (by omega) (by omega)) ?_ | refine ER.mul (kd := .i64) rfl rfl rfl rfl (i64_in (by omega) (by omega)) ?_ | refine ER.rem (kd := .i64) rfl rfl rfl rfl (by decide) rfl ?_ | refine ER.indexArr rfl rfl rfl rfl (by omega) (by omega) ?_ | refine ER.len1 rfl rfl rfl ?_ | refine ER.indexSl rfl rfl rfl rfl (by omega) (by omega) ?_ | refine EK.condT rfl ?_ | refine EK.condF rfl ?_ | refine ER.andI (b := 5) rfl rfl rfl rfl (W_and (by decide) (by decide) (by decide) (by omega)).1 ?_ | refine ER.andI (b := 1) rfl rfl rfl rfl (W_and (by decide) (by decide) (by decide) (by omega)).2.1 ?_ | refine ER.andI (b := 2) rfl rfl rfl rfl (W_and (by decide) (by decide) (by decide) (by omega)).2.2.1 ?_ | refine ER.andI (b := 4) rfl rfl rfl rfl (W_and (by decide) (by decide) (by decide) (by omega)).2.2.2.1 ?_ | refine ER.andI (b := 3) rfl rfl rfl rfl (W_and (by decide) (by decide) (by decide) (by omega)).2.2.2.2.1 ?_ | refine ER.andI (b := 7) rfl rfl rfl rfl (W_and (by decide) (by decide) (by decide) (by omega)).2.2.2.2.2 ?_ | refine ER.binI (op := .or) (b := 1) rfl rfl rfl rfl (by rw [binOp_bits (.inr rfl), (W_or (by decide) (by decide) (by decide) (by omega)).1]) ?_ | refine ER.binI (op := .or) (b := 2) rfl rfl rfl rfl (by rw [binOp_bits (.inr rfl), (W_or (by decide) (by decide) (by decide) (by omega)).2.1]) ?_ | refine ER.binI (op := .or) (b := 4) rfl rfl rfl rfl (by rw [binOp_bits (.inr rfl), (W_or (by decide) (by decide) (by decide) (by omega)).2.2]) ?_ | refine ER.binI2 (op := .shr) rfl rfl rfl rfl (W_shr (by decide) (by decide) (by decide)) ?_ | refine ER.binI (op := .andNot) rfl rfl rfl rfl (by rw [binOp_andN, W_andNot (by decide) (by decide) (by omega)]) ?_ | refine ER.add (kd := .i32) (b := 8) rfl rfl rfl rfl (W_add8 (by decide) (by decide) (by decide) (by omega)) ?_ | refine ER.sub' (kd := .i32) (b := 8) rfl rfl rfl rfl (W_sub8 (by decide) (by decide) (by decide) (by omega) (by omega)) ?_))
      refine ER.binI2 (op := .shr) rfl rfl rfl rfl (W_shr hb1 hk1 hs1) ?_
      by_cases hz : mn = 0
      · subst hz
        (repeat (first | refine EK.seq ?_ | refine EK.region ?_ | refine ER.done ?_ | refine EK.skip ?_ | refine EK.block ?_ | refine EK.inBlock ?_ | refine ER.move rfl rfl rfl ?_ | refine ER.assign rfl rfl rfl ?_ | refine ER.nilCheck rfl rfl rfl ?_ | refine ER.fieldAddr rfl rfl rfl ?_ | refine ER.load1 rfl rfl rfl (hcell_of (by assumption) rfl) ?_ | refine ER.no rfl rfl ?_ | refine ER.noU rfl ?_ | refine ER.eqV rfl rfl rfl rfl rfl ?_ | refine ER.neqV rfl rfl rfl rfl rfl ?_ | refine ER.eqA rfl rfl rfl rfl rfl ?_ | refine ER.neqA rfl rfl rfl rfl rfl ?_ | refine ER.notB rfl rfl rfl ?_ | refine ER.pickT rfl rfl rfl rfl ?_ | refine ER.pickF rfl rfl rfl rfl ?_ | refine ER.extract rfl rfl rfl rfl ?_ | refine ER.cmpT rfl rfl rfl rfl rfl (by first | (dsimp only [cmpP]; omega) | exact rfl | exact Int.le_refl _) ?_ | refine ER.cmpF rfl rfl rfl rfl rfl (by first | (dsimp only [cmpP]; omega) | exact rfl | exact Int.le_refl _) ?_ | refine ER.boxA rfl rfl rfl ?_ | refine ER.box rfl rfl rfl ?_ | refine ER.allocA rfl rfl ?_ | refine ER.alloc rfl rfl ?_ | refine ER.add (kd := .i64) rfl rfl rfl rfl (i64_in (by omega) (by omega)) ?_ | refine ER.sub' (kd := .i64) rfl rfl rfl rfl (i64_in (by omega) (by omega)) ?_ | refine ER.mul (kd := .i64) rfl rfl rfl rfl (i64_in (by omega) (by omega)) ?_ | refine ER.rem (kd := .i64) rfl rfl rfl rfl (by decide) rfl ?_ | refine ER.indexArr rfl rfl rfl rfl (by omega) (by omega) ?_ | refine ER.len1 rfl rfl rfl ?_ | refine ER.indexSl rfl rfl rfl rfl (by omega) (by omega) ?_ | refine EK.condT rfl ?_ | refine EK.condF rfl ?_ | refine ER.andI (b := 5) rfl rfl rfl rfl (W_and (by decide) (by decide) (by decide) (by omega)).1 ?_ | refine ER.andI (b := 1) rfl rfl rfl rfl (W_and (by decide) (by decide) (by decide) (by omega)).2.1 ?_ | refine ER.andI (b := 2) rfl rfl rfl rfl (W_and (by decide) (by decide) (by decide) (by omega)).2.2.1 ?_ | refine ER.andI (b := 4) rfl rfl rfl rfl (W_and (by decide) (by decide) (by decide) (by omega)).2.2.2.1 ?_ | refine ER.andI (b := 3) rfl rfl rfl rfl (W_and (by decide) (by decide) (by decide) (by omega)).2.2.2.2.1 ?_ | refine ER.andI (b := 7) rfl rfl rfl rfl (W_and (by decide) (by decide) (by decide) (by omega)).2.2.2.2.2 ?_ | refine ER.binI (op := .or) (b := 1) rfl rfl rfl rfl (by rw [binOp_bits (.inr rfl), (W_or (by decide) (by decide) (by decide) (by omega)).1]) ?_ | refine ER.binI (op := .or) (b := 2) rfl rfl rfl rfl (by rw [binOp_bits (.inr rfl), (W_or (by decide) (by decide) (by decide) (by omega)).2.1]) ?_ | refine ER.binI (op := .or) (b := 4) rfl rfl rfl rfl (by rw [binOp_bits (.inr rfl), (W_or (by decide) (by decide) (by decide) (by omega)).2.2]) ?_ | refine ER.binI2 (op := .shr) rfl rfl rfl rfl (W_shr (by decide) (by decide) (by decide)) ?_ | refine ER.binI (op := .andNot) rfl rfl rfl rfl (by rw [binOp_andN, W_andNot (by decide) (by decide) (by omega)]) ?_ | refine ER.add (kd := .i32) (b := 8) rfl rfl rfl rfl (W_add8 (by decide) (by decide) (by decide) (by omega)) ?_ | refine ER.sub' (kd := .i32) (b := 8) rfl rfl rfl rfl (W_sub8 (by decide) (by decide) (by decide) (by omega) (by omega)) ?_))
        refine EK.ret ?_
        exact EU.ret0 rfl ⟨rfl, rfl, hd, r0.trans hL r1, ha⟩
      · (repeat (first | refine EK.seq ?_ | refine EK.region ?_ | refine ER.done ?_ | refine EK.skip ?_ | refine EK.block ?_ | refine EK.inBlock ?_ | refine ER.move rfl rfl rfl ?_ | refine ER.assign rfl rfl rfl ?_ | refine ER.nilCheck rfl rfl rfl ?_ | refine ER.fieldAddr rfl rfl rfl ?_ | refine ER.load1 rfl rfl rfl (hcell_of (by assumption) rfl) ?_ | refine ER.no rfl rfl ?_ | refine ER.noU rfl ?_ | refine ER.eqV rfl rfl rfl rfl rfl ?_ | refine ER.neqV rfl rfl rfl rfl rfl ?_ | refine ER.eqA rfl rfl rfl rfl rfl ?_ | refine ER.neqA rfl rfl rfl rfl rfl ?_ | refine ER.notB rfl rfl rfl ?_ | refine ER.pickT rfl rfl rfl rfl ?_ | refine ER.pickF rfl rfl rfl rfl ?_ | refine ER.extract rfl rfl rfl rfl ?_ | refine ER.cmpT rfl rfl rfl rfl rfl (by first | (dsimp only [cmpP]; omega) | exact rfl | exact Int.le_refl _) ?_ | refine ER.cmpF rfl rfl rfl rfl rfl (by first | (dsimp only [cmpP]; omega) | exact rfl | exact Int.le_refl _) ?_ | refine ER.boxA rfl rfl rfl ?_ | refine ER.box rfl rfl rfl ?_ | refine ER.allocA rfl rfl ?_ | refine ER.alloc rfl rfl ?_ | refine ER.add (kd := .i64) rfl rfl rfl rfl (i64_in (by omega) (by omega)) ?_ | refine ER.sub' (kd := .i64) rfl rfl rfl rfl (i64_in (by omega) (by omega)) ?_ | refine ER.mul (kd := .i64) rfl rfl rfl rfl (i64_in (by omega) (by omega)) ?_ | refine ER.rem (kd := .i64) rfl rfl rfl rfl (by decide) rfl ?_ | refine ER.indexArr rfl rfl rfl rfl (by omega) (by omega) ?_ | refine ER.len1 rfl rfl rfl ?_ | refine ER.indexSl rfl rfl rfl rfl (by omega) (by omega) ?_ | refine EK.condT rfl ?_ | refine EK.condF rfl ?_ | refine ER.andI (b := 5) rfl rfl rfl rfl (W_and (by decide) (by decide) (by decide) (by omega)).1 ?_ | refine ER.andI (b := 1) rfl rfl rfl rfl (W_and (by decide) (by decide) (by decide) (by omega)).2.1 ?_ | refine ER.andI (b := 2) rfl rfl rfl rfl (W_and (by decide) (by decide) (by decide) (by omega)).2.2.1 ?_ | refine ER.andI (b := 4) rfl rfl rfl rfl (W_and (by decide) (by decide) (by decide) (by omega)).2.2.2.1 ?_ | refine ER.andI (b := 3) rfl rfl rfl rfl (W_and (by decide) (by decide) (by decide) (by omega)).2.2.2.2.1 ?_ | refine ER.andI (b := 7) rfl rfl rfl rfl (W_and (by decide) (by decide) (by decide) (by omega)).2.2.2.2.2 ?_ | refine ER.binI (op := .or) (b := 1) rfl rfl rfl rfl (by rw [binOp_bits (.inr rfl), (W_or (by decide) (by decide) (by decide) (by omega)).1]) ?_ | refine ER.binI (op := .or) (b := 2) rfl rfl rfl rfl (by rw [binOp_bits (.inr rfl), (W_or (by decide) (by decide) (by decide) (by omega)).2.1]) ?_ | refine ER.binI (op := .or) (b := 4) rfl rfl rfl rfl (by rw [binOp_bits (.inr rfl), (W_or (by decide) (by decide) (by decide) (by omega)).2.2]) ?_ | refine ER.binI2 (op := .shr) rfl rfl rfl rfl (W_shr (by decide) (by decide) (by decide)) ?_ | refine ER.binI (op := .andNot) rfl rfl rfl rfl (by rw [binOp_andN, W_andNot (by decide) (by decide) (by omega)]) ?_ | refine ER.add (kd := .i32) (b := 8) rfl rfl rfl rfl (W_add8 (by decide) (by decide) (by decide) (by omega)) ?_ | refine ER.sub' (kd := .i32) (b := 8) rfl rfl rfl rfl (W_sub8 (by decide) (by decide) (by decide) (by omega) (by omega)) ?_))
        refine ER.andI (b := 7) rfl rfl rfl rfl (W_and hb1 hk1 hs1 hn1').2.2.2.2.2 ?_
        (repeat (first | refine EK.seq ?_ | refine EK.region ?_ | refine ER.done ?_ | refine EK.skip ?_ | refine EK.block ?_ | refine EK.inBlock ?_ | refine ER.move rfl rfl rfl ?_ | refine ER.assign rfl rfl rfl ?_ | refine ER.nilCheck rfl rfl rfl ?_ | refine ER.fieldAddr rfl rfl rfl ?_ | refine ER.load1 rfl rfl rfl (hcell_of (by assumption) rfl) ?_ | refine ER.no rfl rfl ?_ | refine ER.noU rfl ?_ | refine ER.eqV rfl rfl rfl rfl rfl ?_ | refine ER.neqV rfl rfl rfl rfl rfl ?_ | refine ER.eqA rfl rfl rfl rfl rfl ?_ | refine ER.neqA rfl rfl rfl rfl rfl ?_ | refine ER.notB rfl rfl rfl ?_ | refine ER.pickT rfl rfl rfl rfl ?_ | refine ER.pickF rfl rfl rfl rfl ?_ | refine ER.extract rfl rfl rfl rfl ?_ | refine ER.cmpT rfl rfl rfl rfl rfl (by first | (dsimp only [cmpP]; omega) | exact rfl | exact Int.le_refl _) ?_ | refine ER.cmpF rfl rfl rfl rfl rfl (by first | (dsimp only [cmpP]; omega) | exact rfl | exact Int.le_refl _) ?_ | refine ER.boxA rfl rfl rfl ?_ | refine ER.box rfl rfl rfl ?_ | refine ER.allocA rfl rfl ?_ | refine ER.alloc rfl rfl ?_ | refine ER.add (kd := .i64) rfl rfl rfl rfl (i64_in (by omega) (by omega)) ?_ | refine ER.sub' (kd := .i64) rfl rfl rfl rfl (i64_in (by omega) (by omega)) ?_ | refine ER.mul (kd := .i64) rfl rfl rfl rfl (i64_in (by omega) (by omega)) ?_ | refine ER.rem (kd := .i64) rfl rfl rfl rfl (by decide) rfl ?_ | refine ER.indexArr rfl rfl rfl rfl (by omega) (by omega) ?_ | refine ER.len1 rfl rfl rfl ?_ | refine ER.indexSl rfl rfl rfl rfl (by omega) (by omega) ?_ | refine EK.condT rfl ?_ | refine EK.condF rfl ?_ | refine ER.andI (b := 5) rfl rfl rfl rfl (W_and (by decide) (by decide) (by decide) (by omega)).1 ?_ | refine ER.andI (b := 1) rfl rfl rfl rfl (W_and (by decide) (by decide) (by decide) (by omega)).2.1 ?_ | refine ER.andI (b := 2) rfl rfl rfl rfl (W_and (by decide) (by decide) (by decide) (by omega)).2.2.1 ?_ | refine ER.andI (b := 4) rfl rfl rfl rfl (W_and (by decide) (by decide) (by decide) (by omega)).2.2.2.1 ?_ | refine ER.andI (b := 3) rfl rfl rfl rfl (W_and (by decide) (by decide) (by decide) (by omega)).2.2.2.2.1 ?_ | refine ER.andI (b := 7) rfl rfl rfl rfl (W_and (by decide) (by decide) (by decide) (by omega)).2.2.2.2.2 ?_ | refine ER.binI (op := .or) (b := 1) rfl rfl rfl rfl (by rw [binOp_bits (.inr rfl), (W_or (by decide) (by decide) (by decide) (by omega)).1]) ?_ | refine ER.binI (op := .or) (b := 2) rfl rfl rfl rfl (by rw [binOp_bits (.inr rfl), (W_or (by decide) (by decide) (by decide) (by omega)).2.1]) ?_ | refine ER.binI (op := .or) (b := 4) rfl rfl rfl rfl (by rw [binOp_bits (.inr rfl), (W_or (by decide) (by decide) (by decide) (by omega)).2.2]) ?_ | refine ER.binI2 (op := .shr) rfl rfl rfl rfl (W_shr (by decide) (by decide) (by decide)) ?_ | refine ER.binI (op := .andNot) rfl rfl rfl rfl (by rw [binOp_andN, W_andNot (by decide) (by decide) (by omega)]) ?_ | refine ER.add (kd := .i32) (b := 8) rfl rfl rfl rfl (W_add8 (by decide) (by decide) (by decide) (by omega)) ?_ | refine ER.sub' (kd := .i32) (b := 8) rfl rfl rfl rfl (W_sub8 (by decide) (by decide) (by decide) (by omega) (by omega)) ?_))
        refine EK.ret ?_
        exact EU.ret0 rfl ⟨rfl, rfl, hd, r0.trans hL r1, ha⟩
  · obtain rfl : c = 9 := by omega
    (repeat (first | refine EK.region ?_ | refine ER.done ?_ | refine ER.move rfl rfl rfl ?_ | refine ER.nilCheck rfl rfl rfl ?_ | refine ER.fieldAddr rfl rfl rfl ?_ | refine ER.cmpF rfl rfl rfl rfl rfl (by first | (dsimp only [cmpP]; omega) | exact rfl | exact Int.le_refl _) ?_ | refine EK.condF rfl ?_))
    refine ER.semrelM hL rfl rfl rfl rfl hA (.inr rfl) fun γ₃ q3 a3 => ?_
    (repeat refine ER.done ?_)
    refine EK.done ?_
    exact EU.ret0 rfl ⟨rfl, rfl, rfl, q3, a3⟩
set_option maxHeartbeats 4000000 in
theorem iunlock_ok (hL : L.Ok) (hA : At L i ⟨b, 6, 0⟩ δ.g) : CallW Try.prog false (SitW Try.prog (XF T L) i) 113 #[.pointer (some ⟨b, 2, none⟩)] h δ (Ret (MuQ L i h δ.d δ.g ⟨b, 0, 0⟩)) := by
  refine CallW.start (n := 21) rfl rfl ?_
  (repeat (first | refine EK.seq ?_ | refine EK.region ?_ | refine ER.move rfl rfl rfl ?_ | refine ER.nilCheck rfl rfl rfl ?_ | refine ER.fieldAddr rfl rfl rfl ?_ | refine EK.condT rfl ?_))
  refine ER.loadM (c := 6) hL norace_unlock rfl rfl rfl hA (by decide) fun γ₁ q1 a1 m1 c1 l1 => .inr ?_
  (repeat (first | refine EK.seq ?_ | refine EK.region ?_ | refine ER.done ?_ | refine ER.move rfl rfl rfl ?_))
  refine ER.unsafeM hL rfl rfl rfl (by decide) a1 (by decide) fun γ₂ q2 a2 => ?_
  refine ER.ext rfl rfl rfl rfl (fun Q X hq => semW_marked (by simp) (by simp) hq (hDu := a2.nd)) ?_
  (repeat (first | refine EK.region ?_ | refine ER.done ?_))
  refine ER.ext rfl rfl rfl rfl (fun Q X hq => semW_mark0 (vs := #[]) (by simp) (by simp) hq) ?_
  (repeat (first | refine EK.seq ?_ | refine EK.region ?_ | refine ER.done ?_ | refine ER.move rfl rfl rfl ?_ | refine ER.nilCheck rfl rfl rfl ?_ | refine ER.fieldAddr rfl rfl rfl ?_))
  refine ER.addM (c := 6) hL rfl rfl rfl rfl a2 (by decide) fun γ₃ q3 a3 m3 c3 l3 _ => ?_
  have hb : (γ₃.mu b).b = 1 := by have := m3.hold; have := m3.b1; omega
  have hn := mi_n m3 (fun x => ct_le x) l3
  have hk := m3.k1
  have hs := m3.s1
  have hw : IntKind.i32.wrap ((γ₃.mu b).word + -1) = ({ γ₃.mu b with b := 0 } : Mu).word := by
    rw [i32_in (by rw [Mu.word]; omega) (by rw [Mu.word]; omega)]
    simp only [Mu.word, hb]
    omega
  have key : ∀ c γ₄, Ro L i γ₂ γ₄ -> At L i ⟨b, c, 0⟩ γ₄ -> γ₄.mu b = { γ₃.mu b with b := 0 } -> ((c = 0 /\ (γ₃.mu b).s = 0 /\ ((γ₃.mu b).n = 0 \/ (γ₃.mu b).k = 1)) \/ (c = 7 /\ (γ₃.mu b).s = 0 /\ (γ₃.mu b).n ≠ 0 /\ (γ₃.mu b).k = 0) \/ (c = 9 /\ (γ₃.mu b).s = 1)) ->
      CallW Try.prog false (SitW Try.prog (XF T L) i) 122 #[.pointer (some ⟨b, 2, none⟩), .int .i32 (({ γ₃.mu b with b := 0 } : Mu).word)] h ⟨δ.d + 1, γ₄⟩ (Ret (MuQ L i h (δ.d + 1) γ₄ ⟨b, 0, 0⟩)) := by
    intro c γ₄ q4 a4 e4 hc
    refine unlockSlow_ok (δ := ⟨δ.d + 1, γ₄⟩) (k := (γ₃.mu b).k) (s := (γ₃.mu b).s) (n := (γ₃.mu b).n) hL hk hs hn a4 (hc.imp id fun z => z.imp (fun ⟨z1, z2, z3, z4⟩ => ⟨z1, z2, z3, z4, ?_⟩) id)
    simp only
    rw [e4, Mu.word_eq]
    simp only
    rw [z2, z4]
  obtain ⟨c', hT, hc⟩ : ∃ c', Tr (γ₃.mu b) 6 0 { γ₃.mu b with b := 0 } c' 0 /\ ((c' = 0 /\ (γ₃.mu b).s = 0 /\ ((γ₃.mu b).n = 0 \/ (γ₃.mu b).k = 1)) \/ (c' = 7 /\ (γ₃.mu b).s = 0 /\ (γ₃.mu b).n ≠ 0 /\ (γ₃.mu b).k = 0) \/ (c' = 9 /\ (γ₃.mu b).s = 1)) := by
    by_cases z : (γ₃.mu b).s = 1
    · exact ⟨9, .leaveS z, .inr (.inr ⟨rfl, z⟩)⟩
    · have z0 : (γ₃.mu b).s = 0 := by omega
      by_cases y : (γ₃.mu b).n = 0 \/ (γ₃.mu b).k = 1
      · exact ⟨0, .leave z0 y, .inl ⟨rfl, z0, y⟩⟩
      · exact ⟨7, .leaveU z0 (by omega) (by omega), .inr (.inl ⟨rfl, z0, by omega, by omega⟩)⟩
  refine ⟨{ γ₃.mu b with b := 0 }, c', 0, hw, rfl, hT, fun γ₄ q4 a4 e4 => ?_⟩
  (repeat (first | refine EK.seq ?_ | refine EK.region ?_ | refine ER.done ?_ | refine ER.move rfl rfl rfl ?_ | refine ER.assign rfl rfl rfl ?_))
  refine ER.cmpS rfl rfl rfl rfl rfl (fun hp => ?_) (fun hp => ?_)
  · (repeat (first | refine EK.region ?_ | refine ER.done ?_ | refine ER.move rfl rfl rfl ?_ | refine EK.condT rfl ?_))
    refine ER.callR rfl rfl rfl rfl rfl (key c' γ₄ q4 a4 e4 hc) ?_
    rintro v h' ⟨d', γ'⟩ ⟨rfl, rfl, e1, r1, a1'⟩
    simp only at e1 r1 a1'
    subst e1
    (repeat (first | refine EK.region ?_ | refine ER.done ?_))
    refine ER.ext rfl rfl rfl rfl (fun Q X hq => semW_mark0 (vs := #[]) (by simp) (by simp) hq) ?_
    (repeat refine ER.done ?_)
    refine EK.done ?_
    exact EU.ret0 rfl ⟨rfl, rfl, rfl, ((q1.trans hL q2).trans hL q4).trans hL r1, a1'⟩
  · have hz : ({ γ₃.mu b with b := 0 } : Mu).word = 0 := Classical.not_not.1 hp
    have hc0 : c' = 0 := by
      rw [Mu.word] at hz
      simp only at hz
      omega
    subst hc0
    (repeat (first | refine EK.region ?_ | refine ER.done ?_ | refine EK.skip ?_ | refine EK.condF rfl ?_))
    refine ER.ext rfl rfl rfl rfl (fun Q X hq => semW_mark0 (vs := #[]) (by simp) (by simp) hq) ?_
    (repeat refine ER.done ?_)
    refine EK.done ?_
    exact EU.ret0 rfl ⟨rfl, rfl, rfl, (q1.trans hL q2).trans hL q4, a4⟩
theorem lock_ok (hL : L.Ok) (hA : At L i ⟨b, 1, 0⟩ δ.g) : CallW Try.prog false (SitW Try.prog (XF T L) i) 91 #[.pointer (some ⟨b, 2, none⟩)] h δ (Ret (MuQ L i h δ.d δ.g ⟨b, 6, 0⟩)) := by
  refine CallW.start (n := 6) rfl rfl ?_
  (repeat (first | refine EK.region ?_ | refine ER.move rfl rfl rfl ?_ | refine ER.nilCheck rfl rfl rfl ?_ | refine ER.fieldAddr rfl rfl rfl ?_))
  refine ER.callR rfl rfl rfl rfl rfl (ilock_ok hL hA) ?_
  rintro v h' δ' ⟨rfl, rfl, e1, r1, a1⟩
  (repeat refine ER.done ?_)
  refine EK.done ?_
  exact EU.ret0 rfl ⟨rfl, rfl, e1, r1, a1⟩
theorem unlock_ok (hL : L.Ok) (hA : At L i ⟨b, 6, 0⟩ δ.g) : CallW Try.prog false (SitW Try.prog (XF T L) i) 92 #[.pointer (some ⟨b, 2, none⟩)] h δ (Ret (MuQ L i h δ.d δ.g ⟨b, 0, 0⟩)) := by
  refine CallW.start (n := 6) rfl rfl ?_
  (repeat (first | refine EK.region ?_ | refine ER.move rfl rfl rfl ?_ | refine ER.nilCheck rfl rfl rfl ?_ | refine ER.fieldAddr rfl rfl rfl ?_))
  refine ER.callR rfl rfl rfl rfl rfl (iunlock_ok hL hA) ?_
  rintro v h' δ' ⟨rfl, rfl, e1, r1, a1⟩
  (repeat refine ER.done ?_)
  refine EK.done ?_
  exact EU.ret0 rfl ⟨rfl, rfl, e1, r1, a1⟩
end
end
section
open Go Go.TJ Go.Proofs
variable [Dm]
section
variable {Y : Type} {T : Tids} {L : Law Y} {h : Hp} {δ : Ix (Gf Y)} {i b : Nat}
def Cq (L : Law Y) (i : Nat) (h : Hp) (d wg : Nat) (F : Value -> Y -> Prop) : Value -> Hp -> Ix (Gf Y) -> Prop := fun v h' δ' => h' = h /\ δ'.d = d /\ δ'.g.wg = wg /\ Idle L i δ'.g /\ F v δ'.g.y
theorem none_f (hL : L.Ok) {p : Pc} (hA : At L i p δ.g) (hb : b ∈ L.cls δ.g.y) : CallW Try.prog false (SitW Try.prog (XF T L) i) 66 #[.pointer (some ⟨b, 0, none⟩)] h δ (Ret fun v h' δ' => v = .bool false /\ h' = h /\ δ'.d = δ.d /\ Rr L i δ.g δ'.g) := by
  refine CallW.start (n := 12) rfl rfl ?_
  (repeat (first | refine EK.seq ?_ | refine EK.region ?_ | refine ER.done ?_ | refine ER.move rfl rfl rfl ?_ | refine ER.assign rfl rfl rfl ?_ | refine ER.nilCheck rfl rfl rfl ?_ | refine ER.fieldAddr rfl rfl rfl ?_ | refine ER.eqV rfl rfl rfl rfl rfl ?_))
  refine ER.loadC (v := .bool true) hL (.inl ⟨rfl, rfl⟩) rfl rfl rfl hA hb fun γ₁ r1 => ?_
  (repeat (first | refine ER.done ?_ | refine ER.assign rfl rfl rfl ?_ | refine ER.notB rfl rfl rfl ?_ | refine ER.pickF rfl rfl rfl rfl ?_ | refine EK.ret ?_))
  exact EU.ret1 rfl rfl ⟨rfl, rfl, rfl, r1⟩
theorem wakes_f (hL : L.Ok) (hA : At L i ⟨b, 1, 0⟩ δ.g) (hb : b ∈ L.cls δ.g.y) : CallW Try.prog false (SitW Try.prog (XF T L) i) 69 #[.pointer (some ⟨b, 0, none⟩)] h δ (Ret fun v h' δ' => v = .tuple #[] /\ h' = h /\ δ'.d = δ.d /\ Ro L i δ.g δ'.g /\ Idle L i δ'.g) := by
  refine CallW.start (n := 21) rfl rfl ?_
  (repeat (first | refine EK.seq ?_ | refine EK.region ?_ | refine ER.move rfl rfl rfl ?_ | refine ER.nilCheck rfl rfl rfl ?_ | refine ER.fieldAddr rfl rfl rfl ?_))
  refine ER.callR rfl rfl rfl rfl rfl (lock_ok hL hA) ?_
  rintro v h' δ' ⟨rfl, rfl, e1, r1, a1⟩
  (repeat (first | refine EK.seq ?_ | refine EK.region ?_ | refine ER.done ?_ | refine ER.move rfl rfl rfl ?_ | refine ER.nilCheck rfl rfl rfl ?_ | refine ER.fieldAddr rfl rfl rfl ?_))
  refine ER.defer rfl rfl rfl ?_
  (repeat (first | refine EK.seq ?_ | refine EK.region ?_ | refine ER.done ?_ | refine ER.move rfl rfl rfl ?_ | refine ER.nilCheck rfl rfl rfl ?_ | refine ER.fieldAddr rfl rfl rfl ?_))
  refine ER.loadC (v := .chan none) hL (.inr ⟨rfl, rfl⟩) rfl rfl rfl a1 (by rw [r1.stat.cls]; exact hb) fun γ₁ r2 => ?_
  (repeat (first | refine ER.done ?_ | refine EK.skip ?_ | refine ER.neqV rfl rfl rfl rfl rfl ?_ | refine EK.condF rfl ?_))
  refine EK.done ?_
  refine EU.deferR rfl (unlock_ok hL (δ := ⟨δ'.d, γ₁⟩) (a1.rr r2)) ?_
  rintro v h' δ' ⟨rfl, rfl, e2, r3, a3⟩
  exact EU.ret0 rfl ⟨rfl, rfl, e2.trans e1, (r1.trans hL r2.toRo).trans hL r3, a3.idle⟩
theorem aload_f (hL : L.Ok) (hA : Idle L i δ.g) (hb : b ∈ L.cls δ.g.y) {Q : Value -> Hp -> Ix (Gf Y) -> Prop}
    (hop : ∀ γ₁, Rr L i δ.g γ₁ -> Idle L i γ₁ -> L.J γ₁.y -> ∃ y', LMove L i γ₁.y y' /\ ∀ γ₂, γ₂.y = y' -> γ₂.wg = δ.g.wg -> Idle L i γ₂ -> Q (.int .i64 (L.val γ₁.y b)) h ⟨δ.d, γ₂⟩) :
    CallW Try.prog false (SitW Try.prog (XF T L) i) 50 #[.pointer (some ⟨b, 0, none⟩)] h δ (Ret Q) := by
  refine CallW.start (n := 7) rfl rfl ?_
  (repeat (first | refine EK.seq ?_ | refine EK.region ?_ | refine ER.done ?_ | refine ER.move rfl rfl rfl ?_ | refine ER.assign rfl rfl rfl ?_ | refine ER.nilCheck rfl rfl rfl ?_ | refine ER.fieldAddr rfl rfl rfl ?_))
  refine ER.loadV hL rfl rfl rfl rfl hA hb fun γ₁ r1 a1 j1 => ?_
  obtain ⟨y', m, hn⟩ := hop γ₁ r1 a1 j1
  refine ⟨y', m, fun γ₂ e2 w2 a2 => ?_⟩
  (repeat (first | refine ER.done ?_ | refine ER.assign rfl rfl rfl ?_ | refine EK.ret ?_))
  exact EU.ret1 rfl rfl (hn γ₂ e2 w2 a2)
theorem astore_f (hL : L.Ok) {z : Int} (hA : Idle L i δ.g) (hb : b ∈ L.cls δ.g.y) {Q : Value -> Hp -> Ix (Gf Y) -> Prop}
    (hop : ∀ γ₁, Rr L i δ.g γ₁ -> Idle L i γ₁ -> L.J γ₁.y -> ∃ y', LStep L i b γ₁.y y' /\ L.val y' b = z /\ ∀ γ₂, γ₂.y = y' -> γ₂.wg = δ.g.wg -> At L i ⟨b, 1, 0⟩ γ₂ -> Q (.tuple #[]) h ⟨δ.d, γ₂⟩) :
    CallW Try.prog false (SitW Try.prog (XF T L) i) 61 #[.pointer (some ⟨b, 0, none⟩), .int .i64 z] h δ (Ret Q) := by
  refine CallW.start (n := 9) rfl rfl ?_
  (repeat (first | refine EK.region ?_ | refine ER.move rfl rfl rfl ?_ | refine ER.nilCheck rfl rfl rfl ?_ | refine ER.fieldAddr rfl rfl rfl ?_))
  refine ER.storeV hL rfl rfl rfl rfl hA hb fun γ₁ r1 a1 j1 => ?_
  obtain ⟨y', m, hv, hn⟩ := hop γ₁ r1 a1 j1
  refine ⟨y', m, hv, fun γ₂ e2 w2 a2 => ?_⟩
  (repeat refine ER.done ?_)
  refine EK.done ?_
  exact EU.ret0 rfl (hn γ₂ e2 w2 a2)
theorem acas_f (hL : L.Ok) {u z : Int} (hA : Idle L i δ.g) (hb : b ∈ L.cls δ.g.y) {Q : Value -> Hp -> Ix (Gf Y) -> Prop}
    (hop : ∀ γ₁, Rr L i δ.g γ₁ -> Idle L i γ₁ -> L.J γ₁.y -> (L.val γ₁.y b = u -> ∃ y', LStep L i b γ₁.y y' /\ L.val y' b = z /\ ∀ γ₂, γ₂.y = y' -> γ₂.wg = δ.g.wg -> At L i ⟨b, 1, 0⟩ γ₂ -> Q (.bool true) h ⟨δ.d, γ₂⟩) /\
      (L.val γ₁.y b ≠ u -> ∃ y', LMove L i γ₁.y y' /\ ∀ γ₂, γ₂.y = y' -> γ₂.wg = δ.g.wg -> Idle L i γ₂ -> Q (.bool false) h ⟨δ.d, γ₂⟩)) :
    CallW Try.prog false (SitW Try.prog (XF T L) i) 89 #[.pointer (some ⟨b, 0, none⟩), .int .i64 u, .int .i64 z] h δ (Ret Q) := by
  refine CallW.start (n := 13) rfl rfl ?_
  (repeat (first | refine EK.seq ?_ | refine EK.region ?_ | refine ER.done ?_ | refine ER.move rfl rfl rfl ?_ | refine ER.assign rfl rfl rfl ?_ | refine ER.nilCheck rfl rfl rfl ?_ | refine ER.fieldAddr rfl rfl rfl ?_))
  refine ER.casV hL rfl rfl rfl rfl hA hb fun γ₁ r1 a1 j1 => ?_
  obtain ⟨k1, k2⟩ := hop γ₁ r1 a1 j1
  refine ⟨fun e => ?_, fun e => ?_⟩
  · obtain ⟨y', m, hv, hn⟩ := k1 e
    refine ⟨y', m, hv, fun γ₂ e2 w2 a2 => ?_⟩
    (repeat (first | refine ER.done ?_ | refine ER.assign rfl rfl rfl ?_ | refine EK.ret ?_))
    exact EU.ret1 rfl rfl (hn γ₂ e2 w2 a2)
  · obtain ⟨y', m, hn⟩ := k2 e
    refine ⟨y', m, fun γ₂ e2 w2 a2 => ?_⟩
    (repeat (first | refine ER.done ?_ | refine ER.assign rfl rfl rfl ?_ | refine EK.ret ?_))
    exact EU.ret1 rfl rfl (hn γ₂ e2 w2 a2)
theorem cload_f (hL : L.Ok) (hA : Idle L i δ.g) (hb : b ∈ L.cls δ.g.y) {F : Value -> Y -> Prop}
    (hop : ∀ y₁, LRel L i δ.g.y y₁ -> L.J y₁ -> ∃ y', LMove L i y₁ y' /\ F (.int .i64 (L.val y₁ b)) y') :
    CallW Try.prog false (SitW Try.prog (XF T L) i) 23 #[.pointer (some ⟨b, 0, none⟩), .pointer none] h δ (Ret (Cq L i h δ.d δ.g.wg F)) := by
  refine CallW.start (n := 26) rfl rfl ?_
  (repeat (first | refine EK.seq ?_ | refine EK.region ?_ | refine ER.done ?_ | refine ER.move rfl rfl rfl ?_ | refine ER.assign rfl rfl rfl ?_))
  refine ER.callR rfl rfl rfl rfl rfl (none_f hL hA.at hb) ?_
  rintro v0 h' δ0 ⟨rfl, rfl, e0, r0⟩
  (repeat (first | refine EK.seq ?_ | refine EK.region ?_ | refine ER.done ?_ | refine EK.skip ?_ | refine ER.move rfl rfl rfl ?_ | refine EK.condF rfl ?_))
  refine ER.callD rfl rfl rfl rfl rfl live_nil ?_
  (repeat (first | refine EK.seq ?_ | refine EK.region ?_ | refine ER.done ?_ | refine EK.skip ?_ | refine ER.move rfl rfl rfl ?_ | refine ER.nilCheck rfl rfl rfl ?_ | refine ER.fieldAddr rfl rfl rfl ?_ | refine EK.condF rfl ?_))
  refine ER.callR rfl rfl rfl rfl rfl (aload_f (Q := fun v h1 δ1 => h1 = h' /\ δ1.d = δ0.d /\ δ1.g.wg = δ.g.wg /\ Idle L i δ1.g /\ F v δ1.g.y) hL (hA.rr r0) (by rw [r0.stat.cls]; exact hb) fun γ₁ r1 a1 j1 => ?_) ?_
  · obtain ⟨y', m, hF⟩ := hop γ₁.y (r0.lrel.trans hL r1.lrel) j1
    exact ⟨y', m, fun γ₂ e2 w2 a2 => ⟨rfl, rfl, w2.trans r0.wg, a2, by rw [e2]; exact hF⟩⟩
  rintro v h2 δ2 ⟨rfl, e2, w2, a2, hF⟩
  (repeat (first | refine ER.done ?_ | refine ER.assign rfl rfl rfl ?_ | refine EK.ret ?_))
  exact EU.ret1 rfl rfl ⟨rfl, e2.trans e0, w2, a2, hF⟩
theorem cstore_f (hL : L.Ok) {z : Int} (hA : Idle L i δ.g) (hb : b ∈ L.cls δ.g.y) {F : Value -> Y -> Prop}
    (hop : ∀ y₁, LRel L i δ.g.y y₁ -> L.J y₁ -> ∃ y', LStep L i b y₁ y' /\ L.val y' b = z /\ ∀ y₂, LRel L i y' y₂ -> F (.tuple #[]) y₂) :
    CallW Try.prog false (SitW Try.prog (XF T L) i) 22 #[.pointer (some ⟨b, 0, none⟩), .pointer none, .int .i64 z] h δ (Ret (Cq L i h δ.d δ.g.wg F)) := by
  refine CallW.start (n := 23) rfl rfl ?_
  (repeat (first | refine EK.seq ?_ | refine EK.region ?_ | refine ER.move rfl rfl rfl ?_))
  refine ER.callR rfl rfl rfl rfl rfl (none_f hL hA.at hb) ?_
  rintro v0 h' δ0 ⟨rfl, rfl, e0, r0⟩
  (repeat (first | refine EK.seq ?_ | refine EK.region ?_ | refine ER.done ?_ | refine EK.skip ?_ | refine ER.move rfl rfl rfl ?_ | refine EK.condF rfl ?_))
  refine ER.callD rfl rfl rfl rfl rfl live_nil ?_
  (repeat (first | refine EK.seq ?_ | refine EK.region ?_ | refine ER.done ?_ | refine EK.skip ?_ | refine ER.move rfl rfl rfl ?_ | refine ER.nilCheck rfl rfl rfl ?_ | refine ER.fieldAddr rfl rfl rfl ?_ | refine EK.condF rfl ?_))
  refine ER.callR rfl rfl rfl rfl rfl (astore_f (Q := fun v h1 δ1 => v = .tuple #[] /\ h1 = h' /\ δ1.d = δ0.d /\ δ1.g.wg = δ.g.wg /\ At L i ⟨b, 1, 0⟩ δ1.g /\ b ∈ L.cls δ1.g.y /\ ∀ y₂, LRel L i δ1.g.y y₂ -> F (.tuple #[]) y₂) hL (hA.rr r0) (by rw [r0.stat.cls]; exact hb) fun γ₁ r1 a1 j1 => ?_) ?_
  · obtain ⟨y', m, hv, hF⟩ := hop γ₁.y (r0.lrel.trans hL r1.lrel) j1
    exact ⟨y', m, hv, fun γ₂ e2 w2 a2 => ⟨rfl, rfl, rfl, w2.trans r0.wg, a2, by rw [e2, m.stat.cls, r1.stat.cls, r0.stat.cls]; exact hb, by rw [e2]; exact hF⟩⟩
  rintro v h2 δ2 ⟨rfl, rfl, e2, w2, a2, b2, hF⟩
  (repeat (first | refine EK.region ?_ | refine ER.done ?_ | refine ER.move rfl rfl rfl ?_))
  refine ER.callR rfl rfl rfl rfl rfl (wakes_f hL a2 b2) ?_
  rintro v h3 δ3 ⟨rfl, rfl, e3, r3, a3⟩
  (repeat refine ER.done ?_)
  refine EK.done ?_
  exact EU.ret0 rfl ⟨rfl, (e3.trans e2).trans e0, r3.wg.trans w2, a3, hF _ r3.lrel⟩
theorem ccas_f (hL : L.Ok) {u z : Int} (hA : Idle L i δ.g) (hb : b ∈ L.cls δ.g.y) {F : Value -> Y -> Prop}
    (hop : ∀ y₁, LRel L i δ.g.y y₁ -> L.J y₁ -> (L.val y₁ b = u -> ∃ y', LStep L i b y₁ y' /\ L.val y' b = z /\ ∀ y₂, LRel L i y' y₂ -> F (.bool true) y₂) /\ (L.val y₁ b ≠ u -> ∃ y', LMove L i y₁ y' /\ F (.bool false) y')) :
    CallW Try.prog false (SitW Try.prog (XF T L) i) 65 #[.pointer (some ⟨b, 0, none⟩), .pointer none, .int .i64 u, .int .i64 z] h δ (Ret (Cq L i h δ.d δ.g.wg F)) := by
  refine CallW.start (n := 39) rfl rfl ?_
  (repeat (first | refine EK.seq ?_ | refine EK.region ?_ | refine ER.done ?_ | refine ER.move rfl rfl rfl ?_ | refine ER.assign rfl rfl rfl ?_))
  refine ER.callR rfl rfl rfl rfl rfl (none_f hL hA.at hb) ?_
  rintro v0 h' δ0 ⟨rfl, rfl, e0, r0⟩
  (repeat (first | refine EK.seq ?_ | refine EK.region ?_ | refine ER.done ?_ | refine EK.skip ?_ | refine ER.move rfl rfl rfl ?_ | refine EK.condF rfl ?_))
  refine ER.callD rfl rfl rfl rfl rfl live_nil ?_
  (repeat (first | refine EK.seq ?_ | refine EK.region ?_ | refine ER.done ?_ | refine EK.skip ?_ | refine ER.move rfl rfl rfl ?_ | refine ER.nilCheck rfl rfl rfl ?_ | refine ER.fieldAddr rfl rfl rfl ?_ | refine EK.condF rfl ?_))
  refine ER.callR rfl rfl rfl rfl rfl (acas_f (Q := fun v h1 δ1 => h1 = h' /\ δ1.d = δ0.d /\ δ1.g.wg = δ.g.wg /\ b ∈ L.cls δ1.g.y /\ ((v = .bool true /\ At L i ⟨b, 1, 0⟩ δ1.g /\ ∀ y₂, LRel L i δ1.g.y y₂ -> F (.bool true) y₂) \/ (v = .bool false /\ Idle L i δ1.g /\ F (.bool false) δ1.g.y))) hL (hA.rr r0) (by rw [r0.stat.cls]; exact hb) fun γ₁ r1 a1 j1 => ?_) ?_
  · obtain ⟨k1, k2⟩ := hop γ₁.y (r0.lrel.trans hL r1.lrel) j1
    refine ⟨fun e => ?_, fun e => ?_⟩
    · obtain ⟨y', m, hv, hF⟩ := k1 e
      exact ⟨y', m, hv, fun γ₂ e2 w2 a2 => ⟨rfl, rfl, w2.trans r0.wg, by rw [e2, m.stat.cls, r1.stat.cls, r0.stat.cls]; exact hb, .inl ⟨rfl, a2, by rw [e2]; exact hF⟩⟩⟩
    · obtain ⟨y', m, hF⟩ := k2 e
      exact ⟨y', m, fun γ₂ e2 w2 a2 => ⟨rfl, rfl, w2.trans r0.wg, by rw [e2, m.stat.cls, r1.stat.cls, r0.stat.cls]; exact hb, .inr ⟨rfl, a2, by rw [e2]; exact hF⟩⟩⟩
  rintro v h2 δ2 ⟨rfl, e2, w2, b2, ⟨rfl, a2, hF⟩ | ⟨rfl, a2, hF⟩⟩
  · (repeat (first | refine EK.seq ?_ | refine EK.region ?_ | refine ER.done ?_ | refine ER.move rfl rfl rfl ?_ | refine ER.assign rfl rfl rfl ?_ | refine EK.condT rfl ?_))
    refine ER.callR rfl rfl rfl rfl rfl (wakes_f hL a2 b2) ?_
    rintro v h3 δ3 ⟨rfl, rfl, e3, r3, a3⟩
    (repeat (first | refine EK.seq ?_ | refine EK.region ?_ | refine ER.done ?_ | refine ER.move rfl rfl rfl ?_ | refine ER.assign rfl rfl rfl ?_ | refine EK.ret ?_))
    exact EU.ret1 rfl rfl ⟨rfl, (e3.trans e2).trans e0, r3.wg.trans w2, a3, hF _ r3.lrel⟩
  · (repeat (first | refine EK.seq ?_ | refine EK.region ?_ | refine ER.done ?_ | refine EK.skip ?_ | refine ER.move rfl rfl rfl ?_ | refine ER.assign rfl rfl rfl ?_ | refine EK.condF rfl ?_ | refine EK.ret ?_))
    exact EU.ret1 rfl rfl ⟨rfl, e2.trans e0, w2, a2, hF⟩
end
end
section
open Go Go.TJ Go.Proofs
variable [Dm]
structure Own (i : Nat) (c : Cc) (fa fr : Nat -> Bool) (hd : Int) (rs : Bool) (bd : Nat) (ha : Int) (ra : Bool) (y : Cy) : Prop where
  cc : y.c = c
  fa : ∀ k, k % c.n = i - 1 -> y.ka k = fa k
  fr : ∀ k, k % c.n = i - 1 -> y.kr k = fr k
  hd : y.hd i = hd
  rs : y.rs i = rs
  bd : bd <= y.bd i
  ha : y.ha (i - 1) = ha
  ra : y.ra (i - 1) = ra
section
variable {i : Nat} {c : Cc} {fa fr : Nat -> Bool} {hd : Int} {rs : Bool} {bd : Nat} {ha : Int} {ra : Bool} {y y' : Cy}
theorem Own.rel (o : Own i c fa fr hd rs bd ha ra y) (h0 : 0 < i) (r : LRel cL i y y') : Own i c fa fr hd rs bd ha ra y' := by
  have q : Cr i y y' := r.law
  have hc := o.cc
  exact ⟨q.c.trans hc, fun k hk => (q.ka h0 k (by rw [hc]; exact hk)).trans (o.fa k hk), fun k hk => (q.kr h0 k (by rw [hc]; exact hk)).trans (o.fr k hk), (q.hd h0).trans o.hd, (q.rs h0).trans o.rs, by rw [q.bd h0]; exact o.bd, (q.ha h0).trans o.ha, (q.ra h0).trans o.ra⟩
theorem Own.add (o : Own i c fa fr hd rs bd ha ra y) (k b : Nat) : Own i c (u1 fa k true) fr hd rs (bd - 1) ha ra (addY y i k b) :=
  ⟨o.cc, fun q hq => by
    show u1 y.ka k true q = u1 fa k true q
    by_cases e : q = k
    · subst e; rw [u1_same, u1_same]
    · rw [u1_ne e, u1_ne e]; exact o.fa q hq, o.fr, o.hd, o.rs, by show bd - 1 <= u1 y.bd i _ i; rw [u1_same]; have := o.bd; omega, o.ha, o.ra⟩
theorem Own.raise (o : Own i c fa fr hd rs bd ha ra y) (k : Nat) : Own i c fa (u1 fr k true) hd true (bd - 1) ha ra (raiseY y i k) :=
  ⟨o.cc, o.fa, fun q hq => by
    show u1 y.kr k true q = u1 fr k true q
    by_cases e : q = k
    · subst e; rw [u1_same, u1_same]
    · rw [u1_ne e, u1_ne e]; exact o.fr q hq, o.hd, u1_same, by show bd - 1 <= u1 y.bd i _ i; rw [u1_same]; have := o.bd; omega, o.ha, o.ra⟩
theorem Own.tick (o : Own i c fa fr hd rs bd ha ra y) (d : Int) : Own i c fa fr (hd + d) rs (bd - 1) ha ra (tickY y i d) :=
  ⟨o.cc, o.fa, o.fr, by show u1 y.hd i _ i = _; rw [u1_same, o.hd], o.rs, by show bd - 1 <= u1 y.bd i _ i; rw [u1_same]; have := o.bd; omega, o.ha, o.ra⟩
theorem Own.less (o : Own i c fa fr hd rs bd ha ra y) {b : Nat} (h : b <= bd) : Own i c fa fr hd rs b ha ra y := ⟨o.cc, o.fa, o.fr, o.hd, o.rs, Nat.le_trans h o.bd, o.ha, o.ra⟩
end
section
variable {h : Hp} {δ : Ix (Gf Cy)} {i : Nat} {c : Cc} {fa fr : Nat -> Bool} {hd : Int} {rs : Bool} {bd : Nat} {ha : Int} {ra : Bool} {k : Nat}
end
end
section
open Go Go.TJ Go.Proofs
variable [Dm]
abbrev ptr (b : Nat) : Value := .pointer (some ⟨b, 0, none⟩)
instance : Mixed Try.prog := ⟨by kernel_rfl⟩
end
section
open Go Go.TJ Go.Proofs
variable [Dm]
def itemsL (i : Nat) (B : Nat -> Nat) : List Value := (List.range i).flatMap fun j => [ptr (B (4 + 2 * j)), ptr (B (5 + 2 * j))]
theorem itemsL_len (B : Nat -> Nat) : ∀ i, (itemsL i B).length = i * 2
  | 0 => rfl
  | i + 1 => by
    have := itemsL_len B i
    unfold itemsL at *
    rw [List.range_succ, List.flatMap_append, List.length_append, this]
    simp; omega
theorem itemsL_succ (i : Nat) (B : Nat -> Nat) : itemsL (i + 1) B = itemsL i B ++ [ptr (B (4 + 2 * i)), ptr (B (5 + 2 * i))] := by
  unfold itemsL
  rw [List.range_succ, List.flatMap_append]
  simp
theorem itemsL_congr {i : Nat} {B B' : Nat -> Nat} (h : ∀ k, 4 <= k -> k < 4 + 2 * i -> B k = B' k) : itemsL i B = itemsL i B' := by
  unfold itemsL
  rw [List.flatMap_def, List.flatMap_def]
  congr 1
  refine List.map_congr_left fun j hj => ?_
  have := List.mem_range.mp hj
  rw [h _ (by omega) (by omega), h _ (by omega) (by omega)]
theorem itemsL_get {n : Nat} (B : Nat -> Nat) : ∀ {i : Nat}, i < n -> (itemsL n B)[2 * i]? = some (ptr (B (4 + 2 * i))) /\ (itemsL n B)[2 * i + 1]? = some (ptr (B (5 + 2 * i))) := by
  induction n with
  | zero => intro i hi; omega
  | succ n ih =>
    intro i hi
    rw [itemsL_succ]
    by_cases h : i < n
    · have h1 := itemsL_len B n
      rw [List.getElem?_append_left (by omega), List.getElem?_append_left (by omega)]
      exact ih h
    · obtain rfl : i = n := by omega
      have h1 := itemsL_len B i
      rw [List.getElem?_append_right (by omega), List.getElem?_append_right (by omega), h1, show 2 * i - i * 2 = 0 by omega, show 2 * i + 1 - i * 2 = 1 by omega]
      exact ⟨rfl, rfl⟩
def stkM (n : Nat) (B : Nat -> Nat) (v : Nat -> Int) : Mem Nat := ⟨fun k => k < 6 + 2 * n, B, fun k =>
  if k = 0 then .cells #[ptr (B 2), ptr (B 3), .slice (some ⟨B 1, 0, none⟩) (n + 1) (n + 1)] 91 (0, 0)
  else if k = 1 then .cells (itemsL (n + 1) B).toArray 95 (0, 0)
  else cellO (v k)⟩
structure NewS (h0 : Hp) (n : Nat) (M : Mem Nat) (h' : Hp) : Prop where
  upd : Upd (fun _ => False) h0 h'
  rep : Rep h' M
  ok : ∀ k, M.ok k ↔ k < 4
  o0 : M.O 0 = .cells #[ptr (M.B 2), ptr (M.B 3), .slice (some ⟨M.B 1, 0, none⟩) (n + 1) (n + 1)] 91 (0, 0)
  o1 : M.O 1 = .cells (List.replicate ((n + 1) * 2) (Value.pointer none)).toArray 95 (0, 0)
  o2 : M.O 2 = cellO 0
  o3 : M.O 3 = cellO 1
  above : ∀ k, M.ok k -> h0.size <= M.B k
structure NewSI (h0 : Hp) (n : Nat) (T B2 B3 B1 : Nat) (M : Mem Nat) (i : Nat) (h' : Hp) : Prop where
  upd : Upd (fun _ => False) h0 h'
  rep : Rep h' M
  ok : ∀ k, M.ok k ↔ k < 4 + 2 * i
  b : M.B 0 = T /\ M.B 1 = B1 /\ M.B 2 = B2 /\ M.B 3 = B3
  o0 : M.O 0 = .cells #[ptr B2, ptr B3, .slice (some ⟨B1, 0, none⟩) (n + 1) (n + 1)] 91 (0, 0)
  o1 : M.O 1 = .cells (itemsL i M.B ++ List.replicate ((n + 1 - i) * 2) (Value.pointer none)).toArray 95 (0, 0)
  o2 : M.O 2 = cellO 0
  o3 : M.O 3 = cellO 1
  on : ∀ j, j < i -> M.O (4 + 2 * j) = cellO (((j + 1) % (n + 1) : Nat) : Int) /\ M.O (5 + 2 * j) = cellO 0
  above : ∀ k, M.ok k -> h0.size <= M.B k
theorem NewSI.step {h0 : Hp} {n T B2 B3 B1 : Nat} {M : Mem Nat} {i : Nat} {h : Hp} {c : Int} (x : NewSI h0 n T B2 B3 B1 M i h) (hi : i < n + 1) (hc : c = (((i + 1) % (n + 1) : Nat) : Int)) :
    ∃ M', NewSI h0 n T B2 B3 B1 M' (i + 1) (hsetRow ((h.push (cellO c)).push (cellO 0)) B1 (0 + i * 2) [ptr h.size, ptr (h.size + 1)]) := by
  have r1 := ((x.rep.put (4 + 2 * i) (cellO c)).put (5 + 2 * i) (cellO 0))
  rw [Array.size_push] at r1
  obtain ⟨M1, hM1⟩ : ∃ M1 : Mem Nat, M1 = (M.put (4 + 2 * i) h.size (cellO c)).put (5 + 2 * i) (h.size + 1) (cellO 0) := ⟨_, rfl⟩
  rw [<- hM1] at r1
  have bOld : ∀ k, k < 4 + 2 * i -> M1.B k = M.B k /\ M1.O k = M.O k := fun k hk => by
    rw [hM1]
    show ut (ut M.B _ _) _ _ k = _ /\ ut (ut M.O _ _) _ _ k = _
    rw [ut_ne _ _ (by omega), ut_ne _ _ (by omega), ut_ne _ _ (by omega), ut_ne _ _ (by omega)]
    exact ⟨rfl, rfl⟩
  have bN : M1.B (4 + 2 * i) = h.size /\ M1.O (4 + 2 * i) = cellO c := by
    rw [hM1]
    show ut (ut M.B _ _) _ _ _ = _ /\ ut (ut M.O _ _) _ _ _ = _
    rw [ut_ne _ _ (by omega), ut_same, ut_ne _ _ (by omega), ut_same]
    exact ⟨rfl, rfl⟩
  have bV : M1.B (5 + 2 * i) = h.size + 1 /\ M1.O (5 + 2 * i) = cellO 0 := by
    rw [hM1]
    exact ⟨ut_same _ _ _, ut_same _ _ _⟩
  have ok1 : ∀ k, M1.ok k ↔ k < 4 + 2 * (i + 1) := fun k => by
    rw [hM1]
    show (k = _ \/ k = _ \/ M.ok k) ↔ _
    rw [x.ok]; omega
  have hlen : (itemsL i M.B).length = i * 2 := itemsL_len _ _
  have o1' : M1.O 1 = .cells (itemsL i M.B ++ List.replicate ((n + 1 - i) * 2) (Value.pointer none)).toArray 95 (0, 0) := (bOld 1 (by omega)).2.trans x.o1
  have hb1 : M1.B 1 = B1 := (bOld 1 (by omega)).1.trans x.b.2.1
  have hB1 : ((h.push (cellO c)).push (cellO 0))[B1]? = some (.cells (itemsL i M.B ++ List.replicate ((n + 1 - i) * 2) (Value.pointer none)).toArray 95 (0, 0)) := hb1 ▸ r1.get ((ok1 1).2 (by omega)) o1'
  have hsz := x.upd.size
  have hge : h0.size <= B1 := x.b.2.1 ▸ x.above 1 ((x.ok 1).2 (by omega))
  rw [hsetRow_block [ptr h.size, ptr (h.size + 1)] (0 + i * 2) _ _ hB1 (by simp [hlen]; omega)]
  obtain ⟨on, hon⟩ : ∃ on : Obj, on = .cells (List.take (0 + i * 2) (itemsL i M.B ++ List.replicate ((n + 1 - i) * 2) (Value.pointer none)) ++ [ptr h.size, ptr (h.size + 1)] ++ List.drop (0 + i * 2 + [ptr h.size, ptr (h.size + 1)].length) (itemsL i M.B ++ List.replicate ((n + 1 - i) * 2) (Value.pointer none))).toArray 95 (0, 0) := ⟨_, rfl⟩
  rw [<- hon]
  have r2 := r1.set ((ok1 1).2 (by omega)) on
  rw [hb1] at r2
  refine ⟨_, ((x.upd.trans ((Upd.push _ _).trans (Upd.push _ _))).over (Upd.set (T := fun b => b = B1) _ _ _ rfl) (fun b hb => by omega)), r2, ok1, ⟨(bOld 0 (by omega)).1.trans x.b.1, hb1, (bOld 2 (by omega)).1.trans x.b.2.2.1, (bOld 3 (by omega)).1.trans x.b.2.2.2⟩, ?_, ?_, ?_, ?_, fun j hj => ?_, fun k hk => ?_⟩
  · show ut M1.O 1 on 0 = _
    rw [ut_ne _ _ (by omega), (bOld 0 (by omega)).2]; exact x.o0
  · show ut M1.O 1 on 1 = Obj.cells (itemsL (i + 1) M1.B ++ List.replicate ((n + 1 - (i + 1)) * 2) (Value.pointer none)).toArray 95 (0, 0)
    rw [ut_same, hon, itemsL_succ, bN.1, bV.1, itemsL_congr (B := M1.B) (B' := M.B) (i := i) (fun k _ hk => (bOld k hk).1)]
    have hd : ∀ q, List.drop ((itemsL i M.B).length + 2) (itemsL i M.B ++ List.replicate q (Value.pointer none)) = List.replicate (q - 2) (Value.pointer none) := fun q => by
      rw [List.drop_append, List.drop_eq_nil_of_le (by omega), List.nil_append, Nat.add_sub_cancel_left, List.drop_replicate]
    rw [show 0 + i * 2 = (itemsL i M.B).length by omega, List.take_left' rfl]
    show Obj.cells (itemsL i M.B ++ [ptr h.size, ptr (h.size + 1)] ++ List.drop ((itemsL i M.B).length + 2) _).toArray _ _ = _
    rw [hd, show (n + 1 - i) * 2 - 2 = (n + 1 - (i + 1)) * 2 by omega]
  · show ut M1.O 1 on 2 = _
    rw [ut_ne _ _ (by omega), (bOld 2 (by omega)).2]; exact x.o2
  · show ut M1.O 1 on 3 = _
    rw [ut_ne _ _ (by omega), (bOld 3 (by omega)).2]; exact x.o3
  · show ut M1.O 1 on (4 + 2 * j) = _ /\ ut M1.O 1 on (5 + 2 * j) = _
    rw [ut_ne _ _ (by omega), ut_ne _ _ (by omega)]
    by_cases e : j = i
    · subst e; rw [bN.2, bV.2, hc]; exact ⟨rfl, rfl⟩
    · rw [(bOld (4 + 2 * j) (by omega)).2, (bOld (5 + 2 * j) (by omega)).2]; exact x.on j (by omega)
  · have hk' := (ok1 k).1 hk
    show h0.size <= M1.B k
    rcases (show k < 4 + 2 * i \/ k = 4 + 2 * i \/ k = 5 + 2 * i by omega) with h1 | h1 | h1
    · rw [(bOld k h1).1]; exact x.above k ((x.ok k).2 h1)
    · subst h1; rw [bN.1]; exact hsz
    · subst h1; rw [bV.1]; omega
structure RSS where
  i : Nat
  M : Mem Nat
theorem EA.gen {Γ : Type} {P : Program} {main : Bool} {S : Sit Γ} {f : FuncId} {n : Nat} {ops : Array Oper} {Z : Hp -> Prop} {z m : Nat} {listed : Array Bool} {k : List Item} {env : Env} {ds : List Deferred} {h : Hp} {δ : Ix Γ} {R : Post Γ} (F : Hp -> Prop) (hF : F h) (hn : ∀ h', F h' -> EA P main S f n ops Z z m listed k env ds h' δ R) : EA P main S f n ops Z z m listed k env ds h δ R := hn h hF
theorem news_of {h hh : Hp} {n b1 b2 b3 : Nat} (u : Upd (fun _ => False) h hh) (g1 : hh[b1]? = some (.cells (List.replicate ((n + 1) * 2) (Value.pointer none)).toArray 95 (0, 0))) (g2 : hh[b2]? = some (cellO 0)) (g3 : hh[b3]? = some (cellO 1)) (d : b1 ≠ b2 /\ b1 ≠ b3 /\ b2 ≠ b3) (l : h.size <= b1 /\ h.size <= b2 /\ h.size <= b3) :
    NewS h n ⟨fun k => k < 4, fun k => if k = 0 then hh.size else if k = 1 then b1 else if k = 2 then b2 else b3, fun k => if k = 0 then .cells #[ptr b2, ptr b3, .slice (some ⟨b1, 0, none⟩) (n + 1) (n + 1)] 91 (0, 0) else if k = 1 then .cells (List.replicate ((n + 1) * 2) (Value.pointer none)).toArray 95 (0, 0) else if k = 2 then cellO 0 else cellO 1⟩
      (hh.push (.cells #[ptr b2, ptr b3, .slice (some ⟨b1, 0, none⟩) (n + 1) (n + 1)] 91)) := by
  have l1 := lt_of_get g1
  have l2 := lt_of_get g2
  have l3 := lt_of_get g3
  have hs := u.size
  refine ⟨u.trans (Upd.push _ _), ⟨fun k hk => ?_, fun i j hi hj e => ?_⟩, fun k => Iff.rfl, rfl, rfl, rfl, rfl, fun k hk => ?_⟩
  · have hk' : k < 4 := hk
    rcases (show k = 0 \/ k = 1 \/ k = 2 \/ k = 3 by omega) with rfl | rfl | rfl | rfl
    · exact get_push_new _ _
    · exact get_push _ g1
    · exact get_push _ g2
    · exact get_push _ g3
  · have hi' : i < 4 := hi
    have hj' : j < 4 := hj
    dsimp only at e
    (repeat' split at e) <;> omega
  · have hk' : k < 4 := hk
    dsimp only
    (repeat' split) <;> omega
section
variable {Γ : Type} {main : Bool} {h : Hp} {δ : Ix Γ}
set_option maxRecDepth 8000 in
set_option maxHeartbeats 4000000 in
theorem stknew_ok {n : Nat} (hn1 : 1 <= n) (hn : n <= 4096) (hF : ∀ b o, h.size <= b -> ¬ NoS.still δ.g ⟨b, o, none⟩) :
    CallW Try.prog main NoS 10 #[.int .i64 n] h δ (Ret fun w h' δ' => δ' = δ /\ Upd (fun _ => False) h h' /\ ∃ B, w = .tuple #[ptr (B 0), .int .i64 0] /\ Rep h' (stkM n B fun k => if k = 2 then 0 else if k = 3 then 1 else if k % 2 = 0 then (((k - 4) / 2 + 1) % (n + 1) : Nat) else 0) /\ ∀ k, k < 6 + 2 * n -> h.size <= B k) := by
  refine CallW.start (n := 44) rfl rfl ?_
  (repeat (first | refine EK.seq ?_ | refine EK.region ?_ | refine ER.done ?_ | refine EK.skip ?_ | refine ER.move rfl rfl rfl ?_ | refine ER.assign rfl rfl rfl ?_ | refine ER.pickF rfl rfl rfl rfl ?_ | refine ER.cmpF rfl rfl rfl rfl rfl (by first | (dsimp only [cmpP]; omega) | exact rfl | exact Int.le_refl _) ?_ | refine EK.condF rfl ?_))
  refine EK.regionAnyM (fun M : Mem Nat => [(4, ptr (M.B 0)), (0, .int .i64 n)]) (fun M h' δ' => δ' = δ /\ NewS h n M h') (fun _ => True) 1000000 (fun fin => ?_) ?_
  · have hZ := trivial
    refine EA.tMove 2 rfl (by kernel_rfl) rfl rfl rfl rfl hZ ?_
    refine EA.tAdd (kd := .i64) 3 rfl (by kernel_rfl) rfl rfl rfl rfl rfl (i64_in (by omega) (by omega)) hZ ?_
    refine EA.alt2 0 4 (by kernel_rfl) ?_ ?_
    · refine EAi.callD rfl rfl rfl rfl rfl rfl rfl (cnewS (hF _ _ (Nat.le_refl _))) trivial ?_
      refine EA.alt2 1 4 (by kernel_rfl) ?_ ?_
      · refine EAi.callD rfl rfl rfl rfl rfl rfl rfl (cnewS (hF _ _ (by simp))) trivial ?_
        have p3 := push3 h (cellO 0) (cellO 1) (.cells (List.replicate ((n + 1) * 2) (Value.pointer none)).toArray 95)
        refine EA.val (v := .slice (some ⟨((h.push (cellO 0)).push (cellO 1)).size, 0, none⟩) (n + 1) (n + 1)) (h' := ((h.push (cellO 0)).push (cellO 1)).push (.cells (List.replicate ((n + 1) * 2) (Value.pointer none)).toArray 95)) 4 rfl (by kernel_rfl) rfl rfl rfl (fun ρ Q X hρ hq => sem_makeSlice2 (m := n + 1) (u := Value.pointer none) (hρ _ _ rfl) (hρ _ _ rfl) (by omega) (by omega) (by omega) rfl hq) trivial ?_
        simp only [Array.size_push]
        refine EA.gen (fun hh => Upd (fun _ => False) h hh /\ hh[h.size + 2]? = some (.cells (List.replicate ((n + 1) * 2) (Value.pointer none)).toArray 95 (0, 0)) /\ hh[h.size]? = some (cellO 0) /\ hh[h.size + 1]? = some (cellO 1)) ⟨p3.1, p3.2.2.2.2, p3.2.2.1, p3.2.2.2.1⟩ ?_
        rintro hh ⟨u, g1, g2, g3⟩
        refine EA.val (v := .agg #[ptr (h.size), ptr (h.size + 1), .slice (some ⟨h.size + 2, 0, none⟩) (n + 1) (n + 1)]) (h' := hh) 5 rfl (by kernel_rfl) rfl rfl rfl (fun ρ Q X hρ hq => sem_buildS hρ rfl rfl hq) trivial ?_
        refine EA.val (v := ptr hh.size) (h' := hh.push (.cells #[ptr (h.size), ptr (h.size + 1), .slice (some ⟨h.size + 2, 0, none⟩) (n + 1) (n + 1)] 91)) 6 rfl (by kernel_rfl) rfl rfl rfl (fun ρ Q X hρ hq => by
          show SemW _ _ (Instr.box _ (ρ _) >>= fun v => pure (.value v)) _ _ Q X
          rw [hρ _ (.agg #[ptr (h.size), ptr (h.size + 1), .slice (some ⟨h.size + 2, 0, none⟩) (n + 1) (n + 1)]) rfl]
          exact ⟨⟨True.intro, thawed⟩, hq⟩) trivial ?_
        refine EA.tAssign 7 rfl (by kernel_rfl) rfl rfl rfl rfl hZ ?_
        refine EA.done (by kernel_rfl) ?_
        exact EK.sub (e := [(4, ptr hh.size), (0, .int .i64 n)]) ⟨rfl, rfl, trivial⟩ (fin _ _ _ ⟨rfl, news_of u g1 g2 g3 ⟨by omega, by omega, by omega⟩ ⟨by omega, by omega, by omega⟩⟩)
      · refine EAi.val (v := .slice (some ⟨(h.push (cellO 0)).size, 0, none⟩) (n + 1) (n + 1)) (h' := (h.push (cellO 0)).push (.cells (List.replicate ((n + 1) * 2) (Value.pointer none)).toArray 95)) rfl rfl rfl rfl (fun ρ Q X hρ hq => sem_makeSlice2 (m := n + 1) (u := Value.pointer none) (hρ _ _ rfl) (hρ _ _ rfl) (by omega) (by omega) (by omega) rfl hq) trivial ?_
        have p3 := push3 h (cellO 0) (.cells (List.replicate ((n + 1) * 2) (Value.pointer none)).toArray 95) (cellO 1)
        refine EA.callD 1 rfl (by kernel_rfl) rfl rfl rfl rfl rfl rfl (cnewS (hF _ _ (by simp; omega))) trivial ?_
        simp only [Array.size_push]
        refine EA.gen (fun hh => Upd (fun _ => False) h hh /\ hh[h.size + 1]? = some (.cells (List.replicate ((n + 1) * 2) (Value.pointer none)).toArray 95 (0, 0)) /\ hh[h.size]? = some (cellO 0) /\ hh[h.size + 2]? = some (cellO 1)) ⟨p3.1, p3.2.2.2.1, p3.2.2.1, p3.2.2.2.2⟩ ?_
        rintro hh ⟨u, g1, g2, g3⟩
        refine EA.val (v := .agg #[ptr (h.size), ptr (h.size + 2), .slice (some ⟨h.size + 1, 0, none⟩) (n + 1) (n + 1)]) (h' := hh) 5 rfl (by kernel_rfl) rfl rfl rfl (fun ρ Q X hρ hq => sem_buildS hρ rfl rfl hq) trivial ?_
        refine EA.val (v := ptr hh.size) (h' := hh.push (.cells #[ptr (h.size), ptr (h.size + 2), .slice (some ⟨h.size + 1, 0, none⟩) (n + 1) (n + 1)] 91)) 6 rfl (by kernel_rfl) rfl rfl rfl (fun ρ Q X hρ hq => by
          show SemW _ _ (Instr.box _ (ρ _) >>= fun v => pure (.value v)) _ _ Q X
          rw [hρ _ (.agg #[ptr (h.size), ptr (h.size + 2), .slice (some ⟨h.size + 1, 0, none⟩) (n + 1) (n + 1)]) rfl]
          exact ⟨⟨True.intro, thawed⟩, hq⟩) trivial ?_
        refine EA.tAssign 7 rfl (by kernel_rfl) rfl rfl rfl rfl hZ ?_
        refine EA.done (by kernel_rfl) ?_
        exact EK.sub (e := [(4, ptr hh.size), (0, .int .i64 n)]) ⟨rfl, rfl, trivial⟩ (fin _ _ _ ⟨rfl, news_of u g1 g2 g3 ⟨by omega, by omega, by omega⟩ ⟨by omega, by omega, by omega⟩⟩)
    · refine EAi.val (v := .slice (some ⟨(h).size, 0, none⟩) (n + 1) (n + 1)) (h' := (h).push (.cells (List.replicate ((n + 1) * 2) (Value.pointer none)).toArray 95)) rfl rfl rfl rfl (fun ρ Q X hρ hq => sem_makeSlice2 (m := n + 1) (u := Value.pointer none) (hρ _ _ rfl) (hρ _ _ rfl) (by omega) (by omega) (by omega) rfl hq) trivial ?_
      have p3 := push3 h (.cells (List.replicate ((n + 1) * 2) (Value.pointer none)).toArray 95) (cellO 0) (cellO 1)
      refine EA.callD 0 rfl (by kernel_rfl) rfl rfl rfl rfl rfl rfl (cnewS (hF _ _ (by simp))) trivial ?_
      refine EA.callD 1 rfl (by kernel_rfl) rfl rfl rfl rfl rfl rfl (cnewS (hF _ _ (by simp; omega))) trivial ?_
      simp only [Array.size_push]
      refine EA.gen (fun hh => Upd (fun _ => False) h hh /\ hh[h.size]? = some (.cells (List.replicate ((n + 1) * 2) (Value.pointer none)).toArray 95 (0, 0)) /\ hh[h.size + 1]? = some (cellO 0) /\ hh[h.size + 2]? = some (cellO 1)) ⟨p3.1, p3.2.2.1, p3.2.2.2.1, p3.2.2.2.2⟩ ?_
      rintro hh ⟨u, g1, g2, g3⟩
      refine EA.val (v := .agg #[ptr (h.size + 1), ptr (h.size + 2), .slice (some ⟨h.size, 0, none⟩) (n + 1) (n + 1)]) (h' := hh) 5 rfl (by kernel_rfl) rfl rfl rfl (fun ρ Q X hρ hq => sem_buildS hρ rfl rfl hq) trivial ?_
      refine EA.val (v := ptr hh.size) (h' := hh.push (.cells #[ptr (h.size + 1), ptr (h.size + 2), .slice (some ⟨h.size, 0, none⟩) (n + 1) (n + 1)] 91)) 6 rfl (by kernel_rfl) rfl rfl rfl (fun ρ Q X hρ hq => by
        show SemW _ _ (Instr.box _ (ρ _) >>= fun v => pure (.value v)) _ _ Q X
        rw [hρ _ (.agg #[ptr (h.size + 1), ptr (h.size + 2), .slice (some ⟨h.size, 0, none⟩) (n + 1) (n + 1)]) rfl]
        exact ⟨⟨True.intro, thawed⟩, hq⟩) trivial ?_
      refine EA.tAssign 7 rfl (by kernel_rfl) rfl rfl rfl rfl hZ ?_
      refine EA.done (by kernel_rfl) ?_
      exact EK.sub (e := [(4, ptr hh.size), (0, .int .i64 n)]) ⟨rfl, rfl, trivial⟩ (fin _ _ _ ⟨rfl, news_of u g1 g2 g3 ⟨by omega, by omega, by omega⟩ ⟨by omega, by omega, by omega⟩⟩)
  · rintro M h1 δ1 ⟨rfl, N⟩
    have okM : ∀ k, k < 4 -> M.ok k := fun k hk => (N.ok k).2 hk
    have x0 : NewSI h n (M.B 0) (M.B 2) (M.B 3) (M.B 1) M 0 h1 := ⟨N.upd, N.rep, fun k => by rw [N.ok], ⟨rfl, rfl, rfl, rfl⟩, N.o0, by rw [N.o1]; rfl, N.o2, N.o3, fun j hj => by omega, N.above⟩
    have cT : hcell h1 ⟨M.B 0, 2, none⟩ = some (.slice (some ⟨M.B 1, 0, none⟩) (n + 1) (n + 1)) := N.rep.cell (okM 0 (by omega)) N.o0 rfl
    clear okM N
    generalize M.B 0 = T at x0 cT ⊢
    generalize M.B 1 = B1 at x0 cT
    generalize M.B 2 = B2 at x0
    generalize M.B 3 = B3 at x0
    (repeat (first | refine EK.seq ?_ | refine EK.region ?_ | refine ER.done ?_ | refine EK.block ?_ | refine ER.move rfl rfl rfl ?_ | refine ER.nilCheck rfl rfl rfl ?_ | refine ER.fieldAddr rfl rfl rfl ?_ | refine ER.len1 rfl rfl rfl ?_ | refine ER.load1 rfl rfl rfl (by assumption) ?_))
    refine EK.loopInv (fun t : RSS => [(24, .int .i64 t.i), (23, .int .i64 ((n + 1 : Nat) : Int)), (4, ptr T), (0, .int .i64 n)]) (fun t h' δ' => δ' = δ1 /\ t.i <= n + 1 /\ NewSI h n T B2 B3 B1 t.M t.i h') (fun t => n + 1 - t.i) ⟨0, _⟩ ⟨rfl, rfl, rfl, rfl, trivial⟩ ⟨rfl, Nat.zero_le _, x0⟩ ?_
    clear x0 cT h1 M
    rintro ⟨i, M⟩ h1 δ ⟨hδ1, hi, x⟩ again
    dsimp only at hi x again ⊢
    subst hδ1
    have hsz := x.upd.size
    have cT : hcell h1 ⟨T, 2, none⟩ = some (.slice (some ⟨B1, 0, none⟩) (n + 1) (n + 1)) := x.b.1 ▸ x.rep.cell ((x.ok 0).2 (by omega)) x.o0 rfl
    by_cases hin : i < n + 1
    · (repeat (first | refine EK.seq ?_ | refine EK.region ?_ | refine ER.done ?_ | refine EK.skip ?_ | refine EK.block ?_ | refine ER.move rfl rfl rfl ?_ | refine ER.assign rfl rfl rfl ?_ | refine ER.cmpT rfl rfl rfl rfl rfl (by first | (dsimp only [cmpP]; omega) | exact rfl | exact Int.le_refl _) ?_ | refine EK.condT rfl ?_))
      have hrem : ((i : Int) + 1).tmod ((n : Int) + 1) = (((i + 1) % (n + 1) : Nat) : Int) := by
        rw [Int.tmod_eq_emod_of_nonneg (by omega)]; simp
      refine EK.regionAnyL (fun h' => hcell h' ⟨T, 2, none⟩ = some (.slice (some ⟨B1, 0, none⟩) (n + 1) (n + 1))) 15 ?_
      have hZ := cT
      refine EA.tMove 0 rfl (by kernel_rfl) rfl rfl rfl rfl hZ ?_
      refine EA.tNil 1 rfl (by kernel_rfl) rfl rfl rfl rfl hZ ?_
      refine EA.tField 2 rfl (by kernel_rfl) rfl rfl rfl rfl hZ ?_
      refine EA.tLoad 3 rfl (by kernel_rfl) rfl rfl rfl rfl (fun _ hz => hz) hZ ?_
      refine EA.tMove 4 rfl (by kernel_rfl) rfl rfl rfl rfl hZ ?_
      refine EA.tMove 5 rfl (by kernel_rfl) rfl rfl rfl rfl hZ ?_
      refine EA.tAdd (kd := .i64) 6 rfl (by kernel_rfl) rfl rfl rfl rfl rfl (i64_in (by omega) (by omega)) hZ ?_
      refine EA.tMove 7 rfl (by kernel_rfl) rfl rfl rfl rfl hZ ?_
      refine EA.tAdd (kd := .i64) 8 rfl (by kernel_rfl) rfl rfl rfl rfl rfl (i64_in (by omega) (by omega)) hZ ?_
      refine EA.tBinI (kd := .i64) (v := .int .i64 (((i + 1) % (n + 1) : Nat) : Int)) 9 rfl (by kernel_rfl) rfl rfl rfl rfl rfl ((Go.TJ.binOp_rem (by omega)).trans (by rw [hrem])) hZ ?_
      refine EA.callD 10 rfl (by kernel_rfl) rfl rfl rfl rfl rfl rfl (cnewS (hF _ _ hsz)) (hcell_push hZ) ?_
      refine EA.callD 11 rfl (by kernel_rfl) rfl rfl rfl rfl rfl rfl (cnewS (hF _ _ (by simp; omega))) (hcell_push (hcell_push hZ)) ?_
      have hZ := hcell_push (o := cellO 0) (hcell_push (o := cellO (((i + 1) % (n + 1) : Nat) : Int)) hZ)
      obtain ⟨M', x'⟩ := x.step hin rfl
      simp only [Array.size_push]
      refine EA.val (v := .agg #[ptr (h1.size + 1)]) 12 rfl (by kernel_rfl) rfl rfl rfl (fun ρ Q X hρ hq => sem_buildS hρ rfl rfl hq) hZ ?_
      refine EA.val (v := .agg #[ptr h1.size, ptr (h1.size + 1)]) 13 rfl (by kernel_rfl) rfl rfl rfl (fun ρ Q X hρ hq => sem_buildS hρ rfl rfl hq) hZ ?_
      have hB1 : h1[B1]? = some (.cells (itemsL i M.B ++ List.replicate ((n + 1 - i) * 2) (Value.pointer none)).toArray 95 (0, 0)) := x.b.2.1 ▸ x.rep.get ((x.ok 1).2 (by omega)) x.o1
      have hB2 := get_push (cellO 0) (get_push (cellO (((i + 1) % (n + 1) : Nat) : Int)) hB1)
      refine EA.val (v := .pointer (some ⟨B1, 0 + i * 2, none⟩)) 14 rfl (by kernel_rfl) rfl rfl rfl (fun ρ Q X hρ hq => sem_indexSl (hρ _ _ rfl) (hρ _ _ rfl) (by omega) (by omega) hq) hZ ?_
      have hcs : ∀ j, j < 2 -> (∃ u, hcell ((h1.push (cellO (((i + 1) % (n + 1) : Nat) : Int))).push (cellO 0)) ⟨B1, 0 + i * 2 + j, none⟩ = some u) /\ hfroz ((h1.push (cellO (((i + 1) % (n + 1) : Nat) : Int))).push (cellO 0)) ⟨B1, 0 + i * 2 + j, none⟩ = false /\ ¬ NoS.still δ.g ⟨B1, 0 + i * 2 + j, none⟩ := fun j hj => by
        refine ⟨?_, hfroz_of hB2, hF _ _ (x.b.2.1 ▸ x.above 1 ((x.ok 1).2 (by omega)))⟩
        have hl := itemsL_len M.B i
        exact ⟨(itemsL i M.B ++ List.replicate ((n + 1 - i) * 2) (Value.pointer none))[0 + i * 2 + j]'(by simp [hl]; omega), hcell_of hB2 (by simp)⟩
      refine EA.unitL (h' := hsetRow ((h1.push (cellO (((i + 1) % (n + 1) : Nat) : Int))).push (cellO 0)) B1 (0 + i * 2) [ptr h1.size, ptr (h1.size + 1)]) 15 rfl (by kernel_rfl) rfl rfl rfl (fun ρ Q X hρ hq => sem_storeN (vs := [ptr h1.size, ptr (h1.size + 1)]) (hρ _ _ rfl) (hρ _ _ rfl) rfl (by simp [OneCell]) hcs hq) ?_
      refine EA.done (by kernel_rfl) ?_
      (repeat (first | refine EK.region ?_ | refine ER.done ?_ | refine EK.inBlock ?_ | refine ER.move rfl rfl rfl ?_ | refine ER.add (kd := .i64) rfl rfl rfl rfl (i64_in (by omega) (by omega)) ?_))
      exact EK.back (again ⟨i + 1, M'⟩ _ _ (by dsimp only; omega) ⟨rfl, by dsimp only; omega, x'⟩) ⟨rfl, rfl, rfl, rfl, trivial⟩
    · obtain rfl : i = n + 1 := by omega
      clear again
      (repeat (first | refine EK.seq ?_ | refine EK.region ?_ | refine ER.done ?_ | refine ER.move rfl rfl rfl ?_ | refine ER.assign rfl rfl rfl ?_ | refine ER.cmpF rfl rfl rfl rfl rfl (by first | (dsimp only [cmpP]; omega) | exact rfl | exact Int.le_refl _) ?_ | refine EK.condF rfl ?_ | refine EK.ret ?_ | refine EK.exit rfl ?_))
      have okM : ∀ k, k < 6 + 2 * n -> M.ok k := fun k hk => (x.ok k).2 (by omega)
      refine EU.ret2 rfl rfl rfl ⟨rfl, x.upd, M.B, by rw [x.b.1], x.rep.congr (fun k hk => okM k hk) (fun _ _ => rfl) (fun k hk => ?_), fun k hk => x.above k (okM k hk)⟩
      have hk' : k < 6 + 2 * n := hk
      unfold stkM
      dsimp only
      obtain ⟨e0, e1, e2, e3⟩ := x.b
      rcases (show k = 0 \/ k = 1 \/ k = 2 \/ k = 3 \/ 4 <= k by omega) with rfl | rfl | rfl | rfl | h4
      · rw [if_pos rfl, x.o0, e1, e2, e3]
      · rw [if_neg (by decide), if_pos rfl, x.o1]; simp
      · rw [if_neg (by decide), if_neg (by decide), if_pos rfl, x.o2]
      · rw [if_neg (by decide), if_neg (by decide), if_neg (by decide), if_pos rfl, x.o3]
      · rw [if_neg (by omega), if_neg (by omega), if_neg (by omega), if_neg (by omega)]
        have hj := x.on ((k - 4) / 2) (by omega)
        by_cases hev : k % 2 = 0
        · rw [if_pos hev]
          have := hj.1
          rw [show 4 + 2 * ((k - 4) / 2) = k by omega] at this
          exact this.symm
        · rw [if_neg hev]
          have := hj.2
          rw [show 5 + 2 * ((k - 4) / 2) = k by omega] at this
          exact this.symm
end
end
section
open Go Go.TJ Go.Proofs
variable [Dm]
section
variable {h : Hp} {n : Nat} {B : Nat -> Nat} {v : Nat -> Int}
theorem stk_list (r : Rep h (stkM n B v)) : hcell h ⟨B 0, 0, none⟩ = some (ptr (B 2)) := r.cell (k := 0) (by show 0 < 6 + 2 * n; omega) rfl rfl
theorem stk_free (r : Rep h (stkM n B v)) : hcell h ⟨B 0, 1, none⟩ = some (ptr (B 3)) := r.cell (k := 0) (by show 0 < 6 + 2 * n; omega) rfl rfl
theorem stk_items (r : Rep h (stkM n B v)) : hcell h ⟨B 0, 2, none⟩ = some (.slice (some ⟨B 1, 0, none⟩) (n + 1) (n + 1)) := r.cell (k := 0) (by show 0 < 6 + 2 * n; omega) rfl rfl
theorem stk_next (r : Rep h (stkM n B v)) {k : Nat} (hk : k <= n) : hcell h ⟨B 1, 0 + k * 2, none⟩ = some (ptr (B (4 + 2 * k))) := r.cell (k := 1) (by show 1 < 6 + 2 * n; omega) rfl (by
  simp only [List.getElem?_toArray]
  rw [show 0 + k * 2 = 2 * k by omega]; exact (itemsL_get B (by omega)).1)
theorem stk_val (r : Rep h (stkM n B v)) {k : Nat} (hk : k <= n) : hcell h ⟨B 1, 0 + k * 2 + 1, none⟩ = some (ptr (B (5 + 2 * k))) := r.cell (k := 1) (by show 1 < 6 + 2 * n; omega) rfl (by
  simp only [List.getElem?_toArray]
  rw [show 0 + k * 2 + 1 = 2 * k + 1 by omega]; exact (itemsL_get B (by omega)).2)
theorem stk_cell (r : Rep h (stkM n B v)) {k : Nat} (h2 : 2 <= k) (hk : k < 6 + 2 * n) {x : Int} (hx : v k = x) : h[B k]? = some (cellO x) := r.get (k := k) hk (by
  show (if k = 0 then _ else if k = 1 then _ else cellO (v k)) = _
  rw [if_neg (by omega), if_neg (by omega), hx])
theorem stk_set (r : Rep h (stkM n B v)) {k : Nat} (h2 : 2 <= k) (hk : k < 6 + 2 * n) (x : Int) : Rep (h.setIfInBounds (B k) (cellO x)) (stkM n B (ut v k x)) := by
  refine (r.set (k := k) hk (cellO x)).congr (fun _ hk => hk) (fun _ _ => rfl) (fun j hj => ?_)
  show (stkM n B (ut v k x)).O j = ut (stkM n B v).O k (cellO x) j
  by_cases e : j = k
  · subst e
    rw [ut_same]
    show (if j = 0 then _ else if j = 1 then _ else cellO (ut v j x j)) = _
    rw [if_neg (by omega), if_neg (by omega), ut_same]
  · rw [ut_ne _ _ e]
    show (if j = 0 then _ else if j = 1 then _ else cellO (ut v k x j)) = (if j = 0 then _ else if j = 1 then _ else cellO (v j))
    by_cases k0 : j = 0
    · rw [if_pos k0, if_pos k0]
    · by_cases k1 : j = 1
      · rw [if_neg k0, if_pos k1, if_neg k0, if_pos k1]
      · rw [if_neg k0, if_neg k1, if_neg k0, if_neg k1, ut_ne _ _ e]
end
def laidZ (h k : Int) : Int := IntKind.i64.wrap (IntKind.i64.wrap (IntKind.i64.wrap (h - h % 65536) + k) + 65536)
theorem laidZ_mod {h k : Int} (h0 : 0 <= k) (h1 : k < 65536) : laidZ h k % 65536 = k := by
  unfold laidZ
  simp only [IntKind.wrap_i64]
  omega
section
variable {Γ : Type} {main : Bool} {h : Hp} {δ : Ix Γ} {n : Nat} {B : Nat -> Nat} {v : Nat -> Int}
theorem node_ok {S : Sit Γ} {x : Int} : CallW Try.prog main S 86 #[.int .i64 x] h δ (Ret (Det (.int .i64 (x % 65536)) h δ)) := by
  refine CallW.start (n := 6) rfl rfl ?_
  (repeat (first | refine EK.seq ?_ | refine EK.region ?_ | refine ER.done ?_ | refine ER.move rfl rfl rfl ?_ | refine ER.assign rfl rfl rfl ?_))
  refine ER.conv (r := x % 65536) rfl rfl rfl (by rw [IntKind.wrap_u16]) ?_
  refine ER.conv (r := x % 65536) rfl rfl rfl (i64_in (by omega) (by omega)) ?_
  (repeat (first | refine ER.done ?_ | refine ER.assign rfl rfl rfl ?_ | refine EK.ret ?_))
  exact EU.ret1 rfl rfl det
theorem laid_ok {S : Sit Γ} {x k : Int} : CallW Try.prog main S 87 #[.int .i64 x, .int .i64 k] h δ (Ret (Det (.int .i64 (laidZ x k)) h δ)) := by
  refine CallW.start (n := 12) rfl rfl ?_
  (repeat (first | refine EK.seq ?_ | refine EK.region ?_ | refine ER.done ?_ | refine ER.move rfl rfl rfl ?_ | refine ER.assign rfl rfl rfl ?_))
  refine ER.callD rfl rfl rfl rfl rfl node_ok ?_
  refine ER.sub' rfl rfl rfl rfl rfl ?_
  refine ER.move rfl rfl rfl ?_
  refine ER.add rfl rfl rfl rfl rfl ?_
  refine ER.add rfl rfl rfl rfl rfl ?_
  (repeat (first | refine ER.done ?_ | refine ER.assign rfl rfl rfl ?_ | refine EK.ret ?_))
  exact EU.ret1 rfl rfl ⟨rfl, rfl, rfl⟩
abbrev KFree (S : Sit Γ) (γ : Γ) (n : Nat) (B : Nat -> Nat) : Prop := ∀ k o, k < 6 + 2 * n -> ¬ S.still γ ⟨B k, o, none⟩
abbrev KOwn (n : Nat) (B : Nat -> Nat) : Nat -> Prop := fun b => ∃ k, k < 6 + 2 * n /\ b = B k
theorem get_none {c : Nat} (r : Rep h (stkM n B v)) (hc : c = 2 \/ c = 3) (hk : v c % 65536 = 0) : CallW Try.prog main NoS 59 #[ptr (B 0), .pointer none, ptr (B c)] h δ (Ret (Det (.int .i64 0) h δ)) := by
  refine CallW.start (n := 35) rfl rfl ?_
  (repeat (first | refine EK.seq ?_ | refine EK.region ?_ | refine ER.done ?_ | refine EK.block ?_ | refine ER.assign rfl rfl rfl ?_))
  refine EK.loop ?_
  (repeat (first | refine EK.seq ?_ | refine EK.region ?_ | refine EK.block ?_ | refine ER.move rfl rfl rfl ?_))
  refine ER.callD rfl rfl rfl rfl rfl (cload (stk_cell r (k := c) (by omega) (by omega) rfl)) ?_
  (repeat (first | refine EK.seq ?_ | refine EK.region ?_ | refine ER.done ?_ | refine ER.move rfl rfl rfl ?_ | refine ER.assign rfl rfl rfl ?_))
  refine ER.callD rfl rfl rfl rfl rfl node_ok ?_
  rw [hk]
  (repeat (first | refine EK.seq ?_ | refine EK.region ?_ | refine ER.done ?_ | refine ER.move rfl rfl rfl ?_ | refine ER.assign rfl rfl rfl ?_ | refine ER.no rfl rfl ?_ | refine ER.pickT rfl rfl rfl rfl ?_ | refine ER.cmpT rfl rfl rfl rfl rfl (by first | (dsimp only [cmpP]; omega) | exact rfl | exact Int.le_refl _) ?_ | refine EK.condT rfl ?_ | refine EK.ret ?_))
  exact EU.ret1 rfl rfl det
set_option maxRecDepth 8000 in
set_option maxHeartbeats 1000000 in
theorem get_some {c k : Nat} (r : Rep h (stkM n B v)) (hn : n <= 4096) (hc : c = 2 \/ c = 3) (hk : v c % 65536 = k) (hk1 : 1 <= k) (hkn : k <= n) (hS : KFree NoS δ.g n B) :
    CallW Try.prog main NoS 59 #[ptr (B 0), .pointer none, ptr (B c)] h δ (Ret fun w h' δ' => w = .int .i64 k /\ δ' = δ /\ Rep h' (stkM n B (ut v c (laidZ (v c) (v (4 + 2 * k))))) /\ Upd (KOwn n B) h h') := by
  have ci := stk_items r
  refine CallW.start (n := 35) rfl rfl ?_
  (repeat (first | refine EK.seq ?_ | refine EK.region ?_ | refine ER.done ?_ | refine EK.block ?_ | refine ER.assign rfl rfl rfl ?_))
  refine EK.loop ?_
  (repeat (first | refine EK.seq ?_ | refine EK.region ?_ | refine EK.block ?_ | refine ER.move rfl rfl rfl ?_))
  refine ER.callD rfl rfl rfl rfl rfl (cload (stk_cell r (k := c) (by omega) (by omega) rfl)) ?_
  (repeat (first | refine EK.seq ?_ | refine EK.region ?_ | refine ER.done ?_ | refine ER.move rfl rfl rfl ?_ | refine ER.assign rfl rfl rfl ?_))
  refine ER.callD rfl rfl rfl rfl rfl node_ok ?_
  rw [hk]
  (repeat (first | refine EK.seq ?_ | refine EK.region ?_ | refine ER.done ?_ | refine ER.move rfl rfl rfl ?_ | refine ER.assign rfl rfl rfl ?_ | refine ER.nilCheck rfl rfl rfl ?_ | refine ER.fieldAddr rfl rfl rfl ?_ | refine ER.cmpF rfl rfl rfl rfl rfl (by first | (dsimp only [cmpP]; omega) | exact rfl | exact Int.le_refl _) ?_ | refine ER.indexSl rfl rfl rfl rfl (by omega) (by omega) ?_ | refine ER.load1 rfl rfl rfl (by assumption) ?_))
  refine ER.load1 rfl rfl rfl (stk_next r hkn) ?_
  (repeat refine ER.move rfl rfl rfl ?_)
  refine ER.callD rfl rfl rfl rfl rfl (cload (stk_cell r (k := 4 + 2 * k) (by omega) (by omega) rfl)) ?_
  refine ER.callD rfl rfl rfl rfl rfl laid_ok ?_
  refine ER.callD rfl rfl rfl rfl rfl (ccas_yes (stk_cell r (k := c) (by omega) (by omega) rfl) (fun o => hS _ o (by omega))) ?_
  (repeat (first | refine EK.seq ?_ | refine EK.region ?_ | refine ER.done ?_ | refine ER.move rfl rfl rfl ?_ | refine ER.assign rfl rfl rfl ?_ | refine ER.pickF rfl rfl rfl rfl ?_ | refine EK.condT rfl ?_ | refine EK.ret ?_))
  exact EU.ret1 rfl rfl ⟨rfl, rfl, stk_set r (by omega) (by omega) _, Upd.set _ _ _ ⟨_, by omega, rfl⟩⟩
set_option maxRecDepth 8000 in
set_option maxHeartbeats 1000000 in
theorem lay_ok {c k : Nat} (r : Rep h (stkM n B v)) (_hn : n <= 4096) (hc : c = 2 \/ c = 3) (hk1 : 1 <= k) (hkn : k <= n) (hS : KFree NoS δ.g n B) :
    CallW Try.prog main NoS 60 #[ptr (B 0), .pointer none, ptr (B c), .int .i64 k] h δ (Ret fun _ h' δ' => δ' = δ /\ Rep h' (stkM n B (ut (ut v (4 + 2 * k) (v c % 65536)) c (laidZ (v c) k))) /\ Upd (KOwn n B) h h') := by
  have ci := stk_items r
  have cn := stk_next r hkn
  refine CallW.start (n := 31) rfl rfl ?_
  (repeat refine EK.block ?_)
  refine EK.loop ?_
  (repeat (first | refine EK.seq ?_ | refine EK.region ?_ | refine EK.block ?_ | refine ER.move rfl rfl rfl ?_))
  refine ER.callD rfl rfl rfl rfl rfl (cload (stk_cell r (k := c) (by omega) (by omega) rfl)) ?_
  (repeat (first | refine EK.seq ?_ | refine ER.done ?_ | refine ER.assign rfl rfl rfl ?_))
  refine EK.regionAny (fun h' => hcell h' ⟨B 0, 2, none⟩ = some (.slice (some ⟨B 1, 0, none⟩) (n + 1) (n + 1)) /\ hcell h' ⟨B 1, 0 + k * 2, none⟩ = some (ptr (B (4 + 2 * k)))) ?_
  have hZ := And.intro ci cn
  refine EA.tMove 0 rfl (by kernel_rfl) rfl rfl rfl rfl hZ ?_
  refine EA.tNil 1 rfl (by kernel_rfl) rfl rfl rfl rfl hZ ?_
  refine EA.tField 2 rfl (by kernel_rfl) rfl rfl rfl rfl hZ ?_
  refine EA.tLoad 3 rfl (by kernel_rfl) rfl rfl rfl rfl (fun _ hz => hz.1) hZ ?_
  refine EA.tMove 4 rfl (by kernel_rfl) rfl rfl rfl rfl hZ ?_
  refine EA.tIdxS 5 rfl (by kernel_rfl) rfl rfl rfl rfl rfl (by omega) (by omega) hZ ?_
  refine EA.tField 6 rfl (by kernel_rfl) rfl rfl rfl rfl hZ ?_
  refine EA.tLoad 7 rfl (by kernel_rfl) rfl rfl rfl rfl (fun _ hz => hz.2) hZ ?_
  refine EA.tMove 8 rfl (by kernel_rfl) rfl rfl rfl rfl hZ ?_
  refine EA.tMove 9 rfl (by kernel_rfl) rfl rfl rfl rfl hZ ?_
  refine EA.callD 10 rfl (by kernel_rfl) rfl rfl rfl rfl rfl rfl node_ok hZ ?_
  have r1 := stk_set r (k := 4 + 2 * k) (by omega) (by omega) (v c % 65536)
  refine EA.callD 11 rfl (by kernel_rfl) rfl rfl rfl rfl rfl rfl (cstore (stk_cell r (k := 4 + 2 * k) (by omega) (by omega) rfl) (fun o => hS _ o (by omega))) ⟨stk_items r1, stk_next r1 hkn⟩ ?_
  refine EA.done (by kernel_rfl) ?_
  have u1 := Upd.set (T := KOwn n B) h (B (4 + 2 * k)) (cellO (v c % 65536)) ⟨_, by omega, rfl⟩
  have e1 : ut v (4 + 2 * k) (v c % 65536) c = v c := ut_ne _ _ (by omega)
  generalize h.setIfInBounds (B (4 + 2 * k)) (cellO (v c % 65536)) = h1 at r1 u1 ⊢
  (repeat (first | refine EK.seq ?_ | refine EK.region ?_ | refine ER.move rfl rfl rfl ?_))
  refine ER.callD rfl rfl rfl rfl rfl laid_ok ?_
  refine ER.callD rfl rfl rfl rfl rfl (ccas_yes (stk_cell r1 (k := c) (by omega) (by omega) e1) (fun o => hS _ o (by omega))) ?_
  have r2 := stk_set r1 (k := c) (by omega) (by omega) (laidZ (v c) k)
  have u2 := Upd.set (T := KOwn n B) h1 (B c) (cellO (laidZ (v c) k)) ⟨_, by omega, rfl⟩
  (repeat (first | refine ER.done ?_ | refine EK.condT rfl ?_ | refine EK.ret ?_))
  exact EU.ret0 rfl ⟨rfl, r2, u1.trans u2⟩
structure SI (n : Nat) (v : Nat -> Int) (j : Nat) : Prop where
  top : v 2 % 65536 = j
  down : ∀ k, 1 <= k -> k <= j -> v (4 + 2 * k) = (k : Int) - 1
  fr : v 3 % 65536 = if j < n then (j : Int) + 1 else 0
  up : ∀ k, j < k -> k <= n -> v (4 + 2 * k) = if k < n then (k : Int) + 1 else 0
set_option maxRecDepth 8000 in
set_option maxHeartbeats 1000000 in
theorem kpush_ok {j : Nat} {x : Int} (r : Rep h (stkM n B v)) (hn : n <= 4096) (hj : j < n) (s : SI n v j) (hS : KFree NoS δ.g n B) :
    CallW Try.prog main NoS 13 #[ptr (B 0), .pointer none, .int .i64 x] h δ (Ret fun w h' δ' => w = .int .i64 0 /\ δ' = δ /\ (∃ v', Rep h' (stkM n B v') /\ SI n v' (j + 1) /\ v' (5 + 2 * (j + 1)) = x /\ ∀ k, k ≠ j + 1 -> v' (5 + 2 * k) = v (5 + 2 * k)) /\ Upd (KOwn n B) h h') := by
  have ci := stk_items r
  have cf := stk_free r
  have f1 := s.fr
  rw [if_pos hj] at f1
  refine CallW.start (n := 47) rfl rfl ?_
  (repeat (first | refine EK.seq ?_ | refine EK.region ?_ | refine ER.done ?_ | refine EK.skip ?_ | refine ER.move rfl rfl rfl ?_ | refine ER.assign rfl rfl rfl ?_ | refine ER.nilCheck rfl rfl rfl ?_ | refine ER.fieldAddr rfl rfl rfl ?_ | refine ER.eqV rfl rfl rfl rfl rfl ?_ | refine ER.pickF rfl rfl rfl rfl ?_ | refine ER.cmpF rfl rfl rfl rfl rfl (by first | (dsimp only [cmpP]; omega) | exact rfl | exact Int.le_refl _) ?_ | refine ER.len1 rfl rfl rfl ?_ | refine EK.condF rfl ?_ | refine ER.load1 rfl rfl rfl (by assumption) ?_))
  refine ER.callR rfl rfl rfl rfl rfl (get_some (c := 3) (k := j + 1) r hn (.inr rfl) (by rw [f1]; rfl) (by omega) (by omega) hS) ?_
  rintro _ h1 δ1 ⟨rfl, rfl, r1, u1⟩
  have hm := s.up (j + 1) (by omega) (by omega)
  generalize hf3 : laidZ (v 3) (v (4 + 2 * (j + 1))) = f3 at r1
  have f3m : f3 % 65536 = if j + 1 < n then ((j + 1 : Nat) : Int) + 1 else 0 := by
    rw [<- hf3, hm]
    split
    · rw [laidZ_mod (by omega) (by omega)]
    · rw [laidZ_mod (by omega) (by omega)]
  clear ci cf hf3
  have ci := stk_items r1
  have cv := stk_val r1 (k := j + 1) (by omega)
  (repeat (first | refine EK.seq ?_ | refine EK.region ?_ | refine ER.done ?_ | refine EK.skip ?_ | refine ER.move rfl rfl rfl ?_ | refine ER.assign rfl rfl rfl ?_ | refine ER.nilCheck rfl rfl rfl ?_ | refine ER.fieldAddr rfl rfl rfl ?_ | refine ER.cmpF rfl rfl rfl rfl rfl (by first | (dsimp only [cmpP]; omega) | exact rfl | exact Int.le_refl _) ?_ | refine ER.indexSl rfl rfl rfl rfl (by omega) (by omega) ?_ | refine EK.condF rfl ?_ | refine ER.load1 rfl rfl rfl (by assumption) ?_))
  refine ER.callD rfl rfl rfl rfl rfl (cstore (stk_cell r1 (k := 5 + 2 * (j + 1)) (by omega) (by omega) rfl) (fun o => hS _ o (by omega))) ?_
  have r2 := stk_set r1 (k := 5 + 2 * (j + 1)) (by omega) (by omega) x
  have u2 := Upd.set (T := KOwn n B) h1 (B (5 + 2 * (j + 1))) (cellO x) ⟨_, by omega, rfl⟩
  clear ci cv
  generalize h1.setIfInBounds (B (5 + 2 * (j + 1))) (cellO x) = h2 at r2 u2 ⊢
  have cl := stk_list r2
  (repeat (first | refine EK.seq ?_ | refine EK.region ?_ | refine ER.done ?_ | refine ER.move rfl rfl rfl ?_ | refine ER.nilCheck rfl rfl rfl ?_ | refine ER.fieldAddr rfl rfl rfl ?_ | refine ER.load1 rfl rfl rfl (by assumption) ?_))
  refine ER.callR rfl rfl rfl rfl rfl (lay_ok (c := 2) (k := j + 1) r2 hn (.inl rfl) (by omega) (by omega) hS) ?_
  rintro _ h3 δ3 ⟨rfl, r3, u3⟩
  (repeat (first | refine EK.seq ?_ | refine EK.region ?_ | refine ER.done ?_ | refine ER.assign rfl rfl rfl ?_ | refine EK.ret ?_))
  have e2 : ut (ut v 3 f3) (5 + 2 * (j + 1)) x 2 = v 2 := by rw [ut_ne _ _ (by omega), ut_ne _ _ (by omega)]
  rw [e2] at r3
  refine EU.ret1 rfl rfl ⟨rfl, rfl, ⟨_, r3, ⟨?_, fun k h1 h2 => ?_, ?_, fun k h1 h2 => ?_⟩, ?_, fun k hk => ?_⟩, (u1.trans u2).trans u3⟩
  · rw [ut_same, laidZ_mod (by omega) (by omega)]
  · rw [ut_ne _ _ (by omega)]
    by_cases e : k = j + 1
    · subst e; rw [ut_same, s.top]; omega
    · rw [ut_ne _ _ (by omega), ut_ne _ _ (by omega), ut_ne _ _ (by omega)]; exact s.down k h1 (by omega)
  · rw [ut_ne _ _ (by omega), ut_ne _ _ (by omega), ut_ne _ _ (by omega), ut_same]; exact f3m
  · rw [ut_ne _ _ (by omega), ut_ne _ _ (by omega), ut_ne _ _ (by omega), ut_ne _ _ (by omega)]; exact s.up k (by omega) h2
  · rw [ut_ne _ _ (by omega), ut_ne _ _ (by omega), ut_same]
  · rw [ut_ne _ _ (by omega), ut_ne _ _ (by omega), ut_ne _ _ (by omega), ut_ne _ _ (by omega)]
theorem kpush_full {x : Int} (r : Rep h (stkM n B v)) (hn1 : 1 <= n) (s : SI n v n) : CallW Try.prog main NoS 13 #[ptr (B 0), .pointer none, .int .i64 x] h δ (Ret (Det (.int .i64 12) h δ)) := by
  have ci := stk_items r
  have cf := stk_free r
  have f1 := s.fr
  rw [if_neg (by omega)] at f1
  refine CallW.start (n := 47) rfl rfl ?_
  (repeat (first | refine EK.seq ?_ | refine EK.region ?_ | refine ER.done ?_ | refine EK.skip ?_ | refine ER.move rfl rfl rfl ?_ | refine ER.assign rfl rfl rfl ?_ | refine ER.nilCheck rfl rfl rfl ?_ | refine ER.fieldAddr rfl rfl rfl ?_ | refine ER.eqV rfl rfl rfl rfl rfl ?_ | refine ER.pickF rfl rfl rfl rfl ?_ | refine ER.cmpF rfl rfl rfl rfl rfl (by first | (dsimp only [cmpP]; omega) | exact rfl | exact Int.le_refl _) ?_ | refine ER.len1 rfl rfl rfl ?_ | refine EK.condF rfl ?_ | refine ER.load1 rfl rfl rfl (by assumption) ?_))
  refine ER.callD rfl rfl rfl rfl rfl (get_none (c := 3) r (.inr rfl) f1) ?_
  (repeat (first | refine EK.seq ?_ | refine EK.region ?_ | refine ER.done ?_ | refine ER.move rfl rfl rfl ?_ | refine ER.assign rfl rfl rfl ?_ | refine ER.cmpT rfl rfl rfl rfl rfl (by first | (dsimp only [cmpP]; omega) | exact rfl | exact Int.le_refl _) ?_ | refine EK.condT rfl ?_ | refine EK.ret ?_))
  exact EU.ret1 rfl rfl det
set_option maxRecDepth 8000 in
set_option maxHeartbeats 1000000 in
theorem kpop_ok {j : Nat} {x : Int} (r : Rep h (stkM n B v)) (hn : n <= 4096) (hj1 : 1 <= j) (hj : j <= n) (s : SI n v j) (hx : v (5 + 2 * j) = x) (hS : KFree NoS δ.g n B) :
    CallW Try.prog main NoS 14 #[ptr (B 0), .pointer none] h δ (Ret fun w h' δ' => w = .tuple #[.int .i64 x, .bool true] /\ δ' = δ /\ (∃ v', Rep h' (stkM n B v') /\ SI n v' (j - 1) /\ ∀ k, v' (5 + 2 * k) = v (5 + 2 * k)) /\ Upd (KOwn n B) h h') := by
  have ci := stk_items r
  have cl := stk_list r
  refine CallW.start (n := 47) rfl rfl ?_
  (repeat (first | refine EK.seq ?_ | refine EK.region ?_ | refine ER.done ?_ | refine EK.skip ?_ | refine ER.move rfl rfl rfl ?_ | refine ER.assign rfl rfl rfl ?_ | refine ER.nilCheck rfl rfl rfl ?_ | refine ER.fieldAddr rfl rfl rfl ?_ | refine ER.eqV rfl rfl rfl rfl rfl ?_ | refine ER.pickF rfl rfl rfl rfl ?_ | refine ER.cmpF rfl rfl rfl rfl rfl (by first | (dsimp only [cmpP]; omega) | exact rfl | exact Int.le_refl _) ?_ | refine ER.len1 rfl rfl rfl ?_ | refine EK.condF rfl ?_ | refine ER.load1 rfl rfl rfl (by assumption) ?_))
  refine ER.callR rfl rfl rfl rfl rfl (get_some (c := 2) (k := j) r hn (.inl rfl) s.top (by omega) (by omega) hS) ?_
  rintro _ h1 δ1 ⟨rfl, rfl, r1, u1⟩
  have hm := s.down j (by omega) (by omega)
  generalize hf2 : laidZ (v 2) (v (4 + 2 * j)) = f2 at r1
  have f2m : f2 % 65536 = ((j - 1 : Nat) : Int) := by
    rw [<- hf2, hm, laidZ_mod (by omega) (by omega)]; omega
  clear ci cl hf2
  have ci := stk_items r1
  have cv := stk_val r1 (k := j) (by omega)
  have hx1 : ut v 2 f2 (5 + 2 * j) = x := by rw [ut_ne _ _ (by omega), hx]
  (repeat (first | refine EK.seq ?_ | refine EK.region ?_ | refine ER.done ?_ | refine EK.skip ?_ | refine ER.move rfl rfl rfl ?_ | refine ER.assign rfl rfl rfl ?_ | refine ER.nilCheck rfl rfl rfl ?_ | refine ER.fieldAddr rfl rfl rfl ?_ | refine ER.cmpF rfl rfl rfl rfl rfl (by first | (dsimp only [cmpP]; omega) | exact rfl | exact Int.le_refl _) ?_ | refine ER.indexSl rfl rfl rfl rfl (by omega) (by omega) ?_ | refine EK.condF rfl ?_ | refine ER.load1 rfl rfl rfl (by assumption) ?_))
  refine ER.callD rfl rfl rfl rfl rfl (cload (stk_cell r1 (k := 5 + 2 * j) (by omega) (by omega) hx1)) ?_
  have cf := stk_free r1
  (repeat (first | refine EK.seq ?_ | refine EK.region ?_ | refine ER.done ?_ | refine ER.move rfl rfl rfl ?_ | refine ER.assign rfl rfl rfl ?_ | refine ER.nilCheck rfl rfl rfl ?_ | refine ER.fieldAddr rfl rfl rfl ?_ | refine ER.load1 rfl rfl rfl (by assumption) ?_))
  refine ER.callR rfl rfl rfl rfl rfl (lay_ok (c := 3) (k := j) r1 hn (.inr rfl) (by omega) (by omega) hS) ?_
  rintro _ h3 δ3 ⟨rfl, r3, u3⟩
  (repeat (first | refine EK.seq ?_ | refine EK.region ?_ | refine ER.done ?_ | refine ER.move rfl rfl rfl ?_ | refine ER.assign rfl rfl rfl ?_ | refine EK.ret ?_))
  have e2 : ut v 2 f2 3 = v 3 := ut_ne _ _ (by omega)
  rw [e2] at r3
  refine EU.ret2 rfl rfl rfl ⟨rfl, rfl, ⟨_, r3, ⟨?_, fun k h1 h2 => ?_, ?_, fun k h1 h2 => ?_⟩, fun k => ?_⟩, u1.trans u3⟩
  · rw [ut_ne _ _ (by omega), ut_ne _ _ (by omega), ut_same]; exact f2m
  · rw [ut_ne _ _ (by omega), ut_ne _ _ (by omega), ut_ne _ _ (by omega)]; exact s.down k h1 (by omega)
  · rw [ut_same, laidZ_mod (by omega) (by omega), if_pos (by omega)]; omega
  · rw [ut_ne _ _ (by omega)]
    by_cases e : k = j
    · subst e; rw [ut_same, s.fr]
    · rw [ut_ne _ _ (by omega), ut_ne _ _ (by omega)]; exact s.up k (by omega) h2
  · rw [ut_ne _ _ (by omega), ut_ne _ _ (by omega), ut_ne _ _ (by omega)]
theorem kpop_empty (r : Rep h (stkM n B v)) (s : SI n v 0) : CallW Try.prog main NoS 14 #[ptr (B 0), .pointer none] h δ (Ret (Det (.tuple #[.int .i64 0, .bool false]) h δ)) := by
  have ci := stk_items r
  have cl := stk_list r
  refine CallW.start (n := 47) rfl rfl ?_
  (repeat (first | refine EK.seq ?_ | refine EK.region ?_ | refine ER.done ?_ | refine EK.skip ?_ | refine ER.move rfl rfl rfl ?_ | refine ER.assign rfl rfl rfl ?_ | refine ER.nilCheck rfl rfl rfl ?_ | refine ER.fieldAddr rfl rfl rfl ?_ | refine ER.eqV rfl rfl rfl rfl rfl ?_ | refine ER.pickF rfl rfl rfl rfl ?_ | refine ER.cmpF rfl rfl rfl rfl rfl (by first | (dsimp only [cmpP]; omega) | exact rfl | exact Int.le_refl _) ?_ | refine ER.len1 rfl rfl rfl ?_ | refine EK.condF rfl ?_ | refine ER.load1 rfl rfl rfl (by assumption) ?_))
  refine ER.callD rfl rfl rfl rfl rfl (get_none (c := 2) r (.inl rfl) s.top) ?_
  (repeat (first | refine EK.seq ?_ | refine EK.region ?_ | refine ER.done ?_ | refine ER.move rfl rfl rfl ?_ | refine ER.assign rfl rfl rfl ?_ | refine ER.cmpT rfl rfl rfl rfl rfl (by first | (dsimp only [cmpP]; omega) | exact rfl | exact Int.le_refl _) ?_ | refine EK.condT rfl ?_ | refine EK.ret ?_))
  exact EU.ret2 rfl rfl rfl det
theorem si_new {n : Nat} (hn1 : 1 <= n) (hn : n <= 4096) : SI n (fun k => if k = 2 then 0 else if k = 3 then 1 else if k % 2 = 0 then (((k - 4) / 2 + 1) % (n + 1) : Nat) else 0) 0 := by
  refine ⟨rfl, fun k h1 h2 => by omega, ?_, fun k h1 h2 => ?_⟩
  · have : 0 < n := by omega
    simp [this]
  · rw [if_neg (by omega), if_neg (by omega), if_pos (by omega), show (4 + 2 * k - 4) / 2 + 1 = k + 1 by omega]
    by_cases e : k < n
    · rw [if_pos e, Nat.mod_eq_of_lt (by omega)]; rfl
    · rw [if_neg e, show k + 1 = n + 1 by omega, Nat.mod_self]; rfl
set_option maxRecDepth 8000 in
set_option maxHeartbeats 4000000 in
theorem stkworks_ok {h : Hp} : CallW Try.prog main NoS 8 #[] h δ (Ret fun w h' δ' => w = .bool true /\ Upd (fun _ => False) h h' /\ δ' = δ) := by
  refine CallW.start (n := 65) rfl rfl ?_
  (repeat (first | refine EK.seq ?_ | refine EK.region ?_ | refine ER.done ?_ | refine ER.assign rfl rfl rfl ?_))
  refine ER.callR rfl rfl rfl rfl rfl (stknew_ok (n := 2) (by omega) (by omega) (fun _ _ _ x => x)) ?_
  rintro _ h1 δ1 ⟨rfl, u1, B, rfl, r1, ab⟩
  have own : ∀ b, KOwn 2 B b -> h.size <= b := fun b ⟨k, hk, e⟩ => e ▸ ab k hk
  have kf : KFree NoS δ1.g 2 B := fun _ _ _ x => x
  have s1 := si_new (n := 2) (by omega) (by omega)
  revert r1 s1
  generalize (fun k => if k = 2 then (0 : Int) else if k = 3 then 1 else if k % 2 = 0 then (((k - 4) / 2 + 1) % (2 + 1) : Nat) else 0) = v1
  intro r1 s1
  (repeat (first | refine EK.seq ?_ | refine EK.region ?_ | refine ER.done ?_ | refine ER.move rfl rfl rfl ?_ | refine ER.assign rfl rfl rfl ?_ | refine ER.eqV rfl rfl rfl rfl rfl ?_ | refine ER.pickF rfl rfl rfl rfl ?_ | refine ER.extract rfl rfl rfl rfl ?_ | refine ER.cmpF rfl rfl rfl rfl rfl (by first | (dsimp only [cmpP]; omega) | exact rfl | exact Int.le_refl _) ?_))
  refine ER.callR rfl rfl rfl rfl rfl (kpush_ok (j := 0) (x := 7) r1 (by omega) (by omega) s1 kf) ?_
  rintro _ h2 δ2 ⟨rfl, rfl, ⟨v2, r2, s2, x2, y2⟩, u2⟩
  replace u1 := u1.over u2 own
  (repeat (first | refine ER.move rfl rfl rfl ?_ | refine ER.pickF rfl rfl rfl rfl ?_ | refine ER.cmpF rfl rfl rfl rfl rfl (by first | (dsimp only [cmpP]; omega) | exact rfl | exact Int.le_refl _) ?_))
  refine ER.callR rfl rfl rfl rfl rfl (kpush_ok (j := 1) (x := 8) r2 (by omega) (by omega) s2 kf) ?_
  rintro _ h3 δ3 ⟨rfl, rfl, ⟨v3, r3, s3, x3, y3⟩, u3⟩
  replace u1 := u1.over u3 own
  (repeat (first | refine ER.move rfl rfl rfl ?_ | refine ER.pickF rfl rfl rfl rfl ?_ | refine ER.cmpF rfl rfl rfl rfl rfl (by first | (dsimp only [cmpP]; omega) | exact rfl | exact Int.le_refl _) ?_))
  refine ER.callD rfl rfl rfl rfl rfl (kpush_full r3 (by omega) s3) ?_
  (repeat (first | refine EK.seq ?_ | refine EK.region ?_ | refine ER.done ?_ | refine EK.skip ?_ | refine ER.move rfl rfl rfl ?_ | refine ER.pickF rfl rfl rfl rfl ?_ | refine ER.cmpF rfl rfl rfl rfl rfl (by first | (dsimp only [cmpP]; omega) | exact rfl | exact Int.le_refl _) ?_ | refine EK.condF rfl ?_))
  refine ER.callR rfl rfl rfl rfl rfl (kpop_ok (j := 2) (x := 8) r3 (by omega) (by omega) (by omega) s3 x3 kf) ?_
  rintro _ h4 δ4 ⟨rfl, rfl, ⟨v4, r4, s4, y4⟩, u4⟩
  replace u1 := u1.over u4 own
  (repeat (first | refine EK.seq ?_ | refine EK.region ?_ | refine ER.done ?_ | refine ER.move rfl rfl rfl ?_ | refine ER.assign rfl rfl rfl ?_ | refine ER.extract rfl rfl rfl rfl ?_))
  refine ER.callR rfl rfl rfl rfl rfl (kpop_ok (j := 1) (x := 7) r4 (by omega) (by omega) (by omega) s4 (by rw [y4, y3 1 (by omega)]; exact x2) kf) ?_
  rintro _ h5 δ5 ⟨rfl, rfl, ⟨v5, r5, s5, y5⟩, u5⟩
  replace u1 := u1.over u5 own
  (repeat (first | refine EK.seq ?_ | refine EK.region ?_ | refine ER.done ?_ | refine ER.move rfl rfl rfl ?_ | refine ER.assign rfl rfl rfl ?_ | refine ER.extract rfl rfl rfl rfl ?_))
  refine ER.callD rfl rfl rfl rfl rfl (kpop_empty r5 s5) ?_
  (repeat (first | refine EK.seq ?_ | refine EK.region ?_ | refine ER.done ?_ | refine ER.move rfl rfl rfl ?_ | refine ER.assign rfl rfl rfl ?_ | refine ER.notB rfl rfl rfl ?_ | refine ER.pickT rfl rfl rfl rfl ?_ | refine ER.extract rfl rfl rfl rfl ?_ | refine ER.cmpT rfl rfl rfl rfl rfl (by first | (dsimp only [cmpP]; omega) | exact rfl | exact Int.le_refl _) ?_ | refine EK.ret ?_))
  exact EU.ret1 rfl rfl ⟨rfl, u1, rfl⟩
end
end
section
open Go Go.TJ Go.Proofs
variable [Dm]
structure OwnS (i : Nat) (c : Sc) (hn : Option Nat) (s : Option (Nat × Int)) (w : Int) (pu po : List Int) (bd : Nat) (sp sq : Value) (y : Sy) : Prop where
  cc : y.c = c
  hv : ∀ x, hn = some x -> y.v (c.B (5 + 2 * x)) = w
  hn : y.hn i = hn
  sn : y.sn i = s
  pu : y.pu i = pu
  po : y.po i = po
  bd : bd <= y.bd i
  sp : y.sp (i - 1) = sp
  sq : y.sq (i - 1) = sq
structure TH (X : Nat) (h : Int) (y : Sy) : Prop where
  p : 0 <= h
  n : h % 65536 <= y.c.N
  l : h / 65536 <= y.tg X
  o : h / 65536 = y.tg X -> y.v (y.c.B X) = h
def TN (X : Nat) (h m : Int) (y : Sy) : Prop := 0 <= m /\ m <= 65535 /\ (h / 65536 = y.tg X -> ∀ x r, y.ch X = x :: r -> m = hdN r)
section
variable {i : Nat} {c : Sc} {hn : Option Nat} {s : Option (Nat × Int)} {w : Int} {pu po : List Int} {bd : Nat} {sp sq : Value} {y y' : Sy} {X : Nat} {h m : Int}
theorem OwnS.rel (o : OwnS i c hn s w pu po bd sp sq y) (h0 : 0 < i) (r : LRel sL i y y') : OwnS i c hn s w pu po bd sp sq y' := by
  have q : Sr i y y' := r.law
  have hc := o.cc
  exact ⟨q.c.trans hc, fun x hx => by
    have := (q.own h0 x (by rw [o.hn]; exact hx)).2
    rw [hc] at this
    exact this.trans (o.hv x hx), (q.hn h0).trans o.hn, (q.sn h0).trans o.sn, (q.pu h0).trans o.pu, (q.po h0).trans o.po, by rw [q.bd h0]; exact o.bd, (q.sp h0).trans o.sp, (q.sq h0).trans o.sq⟩
theorem OwnS.less (o : OwnS i c hn s w pu po bd sp sq y) {b : Nat} (h : b <= bd) : OwnS i c hn s w pu po b sp sq y := ⟨o.cc, o.hv, o.hn, o.sn, o.pu, o.po, Nat.le_trans h o.bd, o.sp, o.sq⟩
theorem TH.rel (t : TH X h y) (hX : X = 2 \/ X = 3) (r : LRel sL i y y') : TH X h y' := by
  have q : Sr i y y' := r.law
  have hc := q.c
  refine ⟨t.p, by rw [hc]; exact t.n, ?_, fun e => ?_⟩
  · have := t.l
    rcases q.tg X hX with ⟨_, g2, _⟩ | g
    · rw [g2]; exact t.l
    · omega
  · have := t.l
    rcases q.tg X hX with ⟨g1, g2, _⟩ | g
    · rw [hc, g1]; exact t.o (e.trans g2)
    · omega
theorem TN.rel (t : TN X h m y) (u : TH X h y) (hX : X = 2 \/ X = 3) (r : LRel sL i y y') : TN X h m y' := by
  have q : Sr i y y' := r.law
  refine ⟨t.1, t.2.1, fun e x r' hr => ?_⟩
  have := u.l
  rcases q.tg X hX with ⟨_, g2, g3⟩ | g
  · exact t.2.2 (e.trans g2) x r' (by rw [<- g3]; exact hr)
  · omega
theorem TH.now (hJ : Sj y) (hX : X = 2 \/ X = 3) : TH X (y.v (y.c.B X)) y := by
  obtain ⟨t1, t2, t3, _⟩ := hJ.tag hX
  obtain ⟨g1, g2, _⟩ := hJ.hd hX
  exact ⟨t1, by rw [t2]; exact g2, by rw [t3]; exact Int.le_refl _, fun _ => rfl⟩
theorem s_pairs (r : LRel sL i y y') {b : Nat} (h : y'.v b ≠ y.v b) : sL.pairs y' < sL.pairs y :=
  Nat.lt_of_le_of_ne r.pairs fun e => h (congrFun (r.vals e) b)
theorem laid_val {t a : Int} (t0 : 0 <= t) (t1 : t <= 1000000000) {x : Int} (x0 : 0 <= x) (x1 : x < 65536) (a0 : 0 <= a) (a1 : a < 65536) : laidZ (65536 * t + x) a = 65536 * (t + 1) + a := by
  unfold laidZ
  simp only [IntKind.wrap_i64]
  omega
end
structure KS (c : Sc) (sb ib : Nat) (h : Hp) : Prop where
  l : hcell h ⟨sb, 0, none⟩ = some (ptr (c.B 2))
  f : hcell h ⟨sb, 1, none⟩ = some (ptr (c.B 3))
  s : hcell h ⟨sb, 2, none⟩ = some (.slice (some ⟨ib, 0, none⟩) (c.N + 1) (c.N + 1))
  n : ∀ k, k <= c.N -> hcell h ⟨ib, 0 + k * 2, none⟩ = some (ptr (c.B (4 + 2 * k))) /\ hcell h ⟨ib, 0 + k * 2 + 1, none⟩ = some (ptr (c.B (5 + 2 * k)))
section
variable {h : Hp} {δ : Ix (Gf Sy)} {i : Nat} {c : Sc} {w : Int} {pu po : List Int} {bd : Nat} {sp sq : Value} {X x sb ib : Nat}
set_option maxRecDepth 8000 in
set_option maxHeartbeats 4000000 in
theorem get_w (hX : X = 2 \/ X = 3) (hA : Idle sL i δ.g) (hi : i <= c.n) (ho : OwnS i c none none w pu po bd sp sq δ.g.y) (hbd : 10 <= bd) (hN : c.N <= 60000) (m : KS c sb ib h) :
    CallW Try.prog false (SitW Try.prog (XF TT sL) i) 59 #[ptr sb, .pointer none, ptr (c.B X)] h δ (Ret (Cq sL i h δ.d δ.g.wg fun v y => (v = .int .i64 0 /\ OwnS i c none none w pu po bd sp sq y) \/ ∃ (x : Nat) (u : Int), v = .int .i64 x /\ 1 <= x /\ x <= c.N /\ OwnS i c (some x) none u pu (if X = 2 then po ++ [u] else po) (bd - 10) sp sq y)) := by
  have i0 := hA.i0
  have ms := m.s
  refine CallW.start (n := 35) rfl rfl ?_
  (repeat (first | refine EK.seq ?_ | refine EK.region ?_ | refine ER.done ?_ | refine EK.block ?_ | refine ER.assign rfl rfl rfl ?_))
  refine EK.loopInv (fun _ : Nat => [(2, ptr (c.B X)), (1, .pointer none), (0, ptr sb)]) (fun s h2 δ2 => h2 = h /\ δ2.d = δ.d /\ δ2.g.wg = δ.g.wg /\ Idle sL i δ2.g /\ OwnS i c none none w pu po bd sp sq δ2.g.y /\ sL.pairs δ2.g.y <= s) (fun s => s) (sL.pairs δ.g.y) ⟨rfl, rfl, rfl, trivial⟩ ⟨rfl, rfl, rfl, hA, ho, Nat.le_refl _⟩ ?_
  rintro s h2 ⟨d2, γ2⟩ ⟨rfl, e2, w2, a2, o2, p2⟩ again
  simp only at e2 w2 a2 o2 p2
  (repeat (first | refine EK.seq ?_ | refine EK.region ?_ | refine EK.block ?_ | refine ER.move rfl rfl rfl ?_))
  refine ER.callR rfl rfl rfl rfl rfl (cload_f (F := fun v y => ∃ z, v = .int .i64 z /\ OwnS i c none none w pu po bd sp sq y /\ y.v (c.B X) = z /\ TH X z y /\ sL.pairs y <= s) sL_ok a2 (b := c.B X) (by rw [<- o2.cc]; exact s_cls (by omega) (by omega)) fun y₁ q1 j1 => ?_) ?_
  · have o1 := o2.rel i0 q1
    have := TH.now (X := X) j1 hX
    rw [o1.cc] at this
    exact ⟨y₁, LMove.none sL_ok j1, _, rfl, o1, rfl, this, Nat.le_trans q1.pairs p2⟩
  rintro v h3 ⟨d3, γ3⟩ ⟨rfl, e3, w3, a3, z, rfl, o3, v3, t3, p3⟩
  simp only at e3 w3 a3 o3 v3 t3 p3
  (repeat (first | refine EK.seq ?_ | refine EK.region ?_ | refine ER.done ?_ | refine ER.move rfl rfl rfl ?_ | refine ER.assign rfl rfl rfl ?_))
  refine ER.callD rfl rfl rfl rfl rfl node_ok ?_
  obtain ⟨k, hk⟩ : ∃ k : Nat, z % 65536 = k := ⟨(z % 65536).toNat, by omega⟩
  rw [hk]
  have kN : k <= c.N := by have := t3.n; rw [o3.cc, hk] at this; omega
  rcases Nat.eq_zero_or_pos k with k0 | k0
  · subst k0
    (repeat (first | refine EK.seq ?_ | refine EK.region ?_ | refine ER.done ?_ | refine ER.move rfl rfl rfl ?_ | refine ER.assign rfl rfl rfl ?_ | refine ER.no rfl rfl ?_ | refine ER.pickT rfl rfl rfl rfl ?_ | refine ER.cmpT rfl rfl rfl rfl rfl (by first | (dsimp only [cmpP]; omega) | exact rfl | exact Int.le_refl _) ?_ | refine EK.condT rfl ?_ | refine EK.ret ?_))
    exact EU.ret1 rfl rfl ⟨rfl, e3.trans e2, w3.trans w2, a3, .inl ⟨rfl, o3⟩⟩
  · have mn := (m.n k kN).1
    (repeat (first | refine EK.seq ?_ | refine EK.region ?_ | refine ER.done ?_ | refine ER.move rfl rfl rfl ?_ | refine ER.assign rfl rfl rfl ?_ | refine ER.nilCheck rfl rfl rfl ?_ | refine ER.fieldAddr rfl rfl rfl ?_ | refine ER.cmpF rfl rfl rfl rfl rfl (by first | (dsimp only [cmpP]; omega) | exact rfl | exact Int.le_refl _) ?_ | refine ER.indexSl rfl rfl rfl rfl (by omega) (by omega) ?_ | refine ER.load1 rfl rfl rfl (by assumption) ?_))
    refine ER.callR rfl rfl rfl rfl rfl (cload_f (F := fun v y => ∃ u, v = .int .i64 u /\ OwnS i c none none w pu po bd sp sq y /\ TH X z y /\ (0 <= u -> u <= 65535 -> TN X z u y) /\ (z / 65536 = y.tg X -> 0 <= u /\ u <= 65535) /\ LRel sL i γ3.y y) sL_ok a3 (b := c.B (4 + 2 * k)) (by have := s_cls (y := γ3.y) (j := 4 + 2 * k) (by omega) (by rw [o3.cc]; omega); rw [o3.cc] at this; exact this) fun y₁ q1 j1 => ?_) ?_
    · have o1 := o3.rel i0 q1
      have t1 := t3.rel hX q1
      have key : z / 65536 = y₁.tg X -> ∃ r, y₁.ch X = k :: r /\ y₁.v (c.B (4 + 2 * k)) = hdN r /\ 0 <= hdN r /\ hdN r <= 65535 := fun e => by
        have e1 := t1.o e
        obtain ⟨c1, c2, c3⟩ := j1.cel X hX
        obtain ⟨g0, g1, g2, _⟩ := j1.tag hX
        rw [e1, hk] at g1
        rcases hch : y₁.ch X with _ | ⟨x', r⟩
        · rw [hch] at g1
          have : ((k : Nat) : Int) = 0 := g1
          omega
        · rw [hch] at g1 c3
          have e' : ((k : Nat) : Int) = (x' : Int) := g1
          obtain rfl : k = x' := by omega
          refine ⟨r, rfl, by rw [<- o1.cc]; exact c3.1, ?_⟩
          rcases r with _ | ⟨q, r⟩
          · exact ⟨Int.le_refl _, by decide⟩
          · have hq : q ∈ y₁.ch X := by rw [hch]; simp
            have := j1.mem (x := q).1 (by rcases hX with rfl | rfl; exact .inl hq; exact .inr (.inl hq))
            have hN' := j1.N1
            exact ⟨by show (0 : Int) <= q; omega, by show (q : Int) <= 65535; omega⟩
      refine ⟨y₁, LMove.none sL_ok j1, _, rfl, o1, t1, fun u0 u1 => ⟨u0, u1, fun e x r hr => ?_⟩, fun e => ?_, q1⟩
      · obtain ⟨r', h1, h2, _⟩ := key e
        rw [h1] at hr
        injection hr with _ hr
        rw [<- hr]; exact h2
      · obtain ⟨r', h1, h2, h3, h4⟩ := key e
        show 0 <= y₁.v (c.B (4 + 2 * k)) /\ y₁.v (c.B (4 + 2 * k)) <= 65535
        rw [h2]; exact ⟨h3, h4⟩
    rintro v h4 ⟨d4, γ4⟩ ⟨rfl, e4, w4, a4, u, rfl, o4, t4, n4, b4, r4⟩
    simp only at e4 w4 a4 o4 t4 n4 b4 r4
    refine ER.callD rfl rfl rfl rfl rfl laid_ok ?_
    refine ER.callR rfl rfl rfl rfl rfl (ccas_f (F := fun v y => (v = .bool true /\ ∃ u, OwnS i c (some k) none u pu (if X = 2 then po ++ [u] else po) (bd - 10) sp sq y) \/ (v = .bool false /\ OwnS i c none none w pu po bd sp sq y /\ sL.pairs y < s)) sL_ok a4 (b := c.B X) (by rw [<- o4.cc]; exact s_cls (by omega) (by omega)) fun y₁ q1 j1 => ?_) ?_
    · have o1 := o4.rel i0 q1
      have ec := o1.cc
      have t1 := t4.rel hX q1
      refine ⟨fun e => ?_, fun e => ?_⟩
      · have e' : y₁.v (c.B X) = z := e
        obtain ⟨g0, g1, g2, g3, _⟩ := j1.tag hX
        rw [ec, e'] at g1 g2
        obtain ⟨c1, c2, c3⟩ := j1.cel X hX
        have htg : z / 65536 = γ4.y.tg X := by
          have l4 := t4.l
          rcases (show Sr i γ4.y y₁ from q1.law).tg X hX with ⟨_, x2, _⟩ | x
          · rw [<- x2]; exact g2
          · omega
        obtain ⟨uu0, uu1⟩ := b4 htg
        have tn := (n4 uu0 uu1).rel t4 hX q1
        rcases hch : y₁.ch X with _ | ⟨x', r⟩
        · rw [hch, hk] at g1
          have : ((k : Nat) : Int) = 0 := g1
          omega
        · rw [hch, hk] at g1
          have ex : ((k : Nat) : Int) = (x' : Int) := g1
          obtain rfl : k = x' := by omega
          have hm := tn.2.2 g2 k r hch
          have hbd1 := o1.bd
          have st := get_step (r := r) j1 i0 (by rw [ec]; exact hi) hX o1.hn (by omega) hch
          rw [ec] at st
          refine ⟨_, st, ?_, fun y₂ q2 => .inl ⟨rfl, y₁.v (c.B (5 + 2 * k)), (OwnS.rel (y := getY y₁ i X k r) ?_ i0 q2)⟩⟩
          · show u1 y₁.v (y₁.c.B X) _ (c.B X) = _
            rw [ec, u1_same]
            have hcK := j1.cK
            rw [<- hm, show z = 65536 * y₁.tg X + (k : Int) by omega, laid_val c2 (by omega) (by omega) (by omega) uu0 (by omega)]
          · refine ⟨ec, fun x' hx' => ?_, u1_same, u1_same, o1.pu, ?_, ?_, o1.sp, o1.sq⟩
            · injection hx' with hx'
              subst hx'
              refine u1_ne fun e => ?_
              have := j1.inj (5 + 2 * k) X (by rw [ec] at e ⊢; exact e)
              omega
            · show (if X = 2 then u1 y₁.po i _ else y₁.po) i = _
              split
              · rw [u1_same, o1.po, ec]
              · exact o1.po
            · show bd - 10 <= u1 y₁.bd i _ i
              rw [u1_same]; omega
      · refine ⟨y₁, LMove.none sL_ok j1, .inr ⟨rfl, o1, ?_⟩⟩
        have e' : y₁.v (c.B X) ≠ γ3.y.v (c.B X) := by rw [v3]; exact e
        have := s_pairs (r4.trans sL_ok q1) e'
        omega
    rintro v h5 ⟨d5, γ5⟩ ⟨rfl, e5, w5, a5, ⟨rfl, u5, o5⟩ | ⟨rfl, o5, p5⟩⟩
    · simp only at e5 w5 a5 o5
      (repeat (first | refine EK.seq ?_ | refine EK.region ?_ | refine ER.done ?_ | refine ER.move rfl rfl rfl ?_ | refine ER.assign rfl rfl rfl ?_ | refine ER.pickF rfl rfl rfl rfl ?_ | refine EK.condT rfl ?_ | refine EK.ret ?_))
      exact EU.ret1 rfl rfl ⟨rfl, ((e5.trans e4).trans e3).trans e2, ((w5.trans w4).trans w3).trans w2, a5, .inr ⟨k, u5, rfl, k0, kN, o5⟩⟩
    · simp only at e5 w5 a5 o5 p5
      (repeat (first | refine ER.done ?_ | refine EK.skip ?_ | refine EK.inBlock ?_ | refine ER.pickF rfl rfl rfl rfl ?_ | refine EK.condF rfl ?_))
      refine EK.sub ?_ (again (sL.pairs γ5.y) _ _ p5 ⟨rfl, ((e5.trans e4).trans e3).trans e2, ((w5.trans w4).trans w3).trans w2, a5, o5, Nat.le_refl _⟩)
      exact ⟨rfl, rfl, rfl, trivial⟩
end
end
section
open Go Go.TJ Go.Proofs
variable [Dm]
section
variable {h : Hp} {δ : Ix (Gf Sy)} {i : Nat} {c : Sc} {w : Int} {pu po : List Int} {bd : Nat} {sp sq : Value} {X x sb ib : Nat}
theorem OwnS.set {y : Sy} {s : Option (Nat × Int)} {j : Nat} {u : Int} (o : OwnS i c (some x) s w pu po bd sp sq y) (hJ : Sj y) (hj : j = 4 + 2 * x) : OwnS i c (some x) s w pu po (bd - 1) sp sq (setY y i j u) :=
  ⟨o.cc, fun z hz => by
    injection hz with hz
    subst hz
    refine Eq.trans (u1_ne fun e => ?_) (o.hv x rfl)
    have := hJ.inj (5 + 2 * x) j (by rw [<- o.cc] at e; exact e)
    omega, o.hn, o.sn, o.pu, o.po, by show bd - 1 <= u1 y.bd i _ i; rw [u1_same]; have := o.bd; omega, o.sp, o.sq⟩
set_option maxRecDepth 8000 in
set_option maxHeartbeats 4000000 in
theorem lay_w (hX : X = 2 \/ X = 3) (hA : Idle sL i δ.g) (hi : i <= c.n) (ho : OwnS i c (some x) none w pu po bd sp sq δ.g.y) (hbd : 11 <= bd) (hx1 : 1 <= x) (hxN : x <= c.N) (hN : c.N <= 60000) (m : KS c sb ib h) :
    CallW Try.prog false (SitW Try.prog (XF TT sL) i) 60 #[ptr sb, .pointer none, ptr (c.B X), .int .i64 x] h δ (Ret (Cq sL i h δ.d δ.g.wg fun _ y => OwnS i c none none w (if X = 2 then pu ++ [w] else pu) po (bd - 11) sp sq y)) := by
  have i0 := hA.i0
  have ms := m.s
  have mn := (m.n x hxN).1
  refine CallW.start (n := 31) rfl rfl ?_
  (repeat refine EK.block ?_)
  refine EK.loopInv (fun _ : Nat => [(2, ptr (c.B X)), (1, .pointer none), (0, ptr sb), (3, .int .i64 x)]) (fun s h2 δ2 => h2 = h /\ δ2.d = δ.d /\ δ2.g.wg = δ.g.wg /\ Idle sL i δ2.g /\ OwnS i c (some x) none w pu po bd sp sq δ2.g.y /\ sL.pairs δ2.g.y <= s) (fun s => s) (sL.pairs δ.g.y) ⟨rfl, rfl, rfl, rfl, trivial⟩ ⟨rfl, rfl, rfl, hA, ho, Nat.le_refl _⟩ ?_
  rintro s h2 ⟨d2, γ2⟩ ⟨rfl, e2, w2, a2, o2, p2⟩ again
  simp only at e2 w2 a2 o2 p2
  (repeat (first | refine EK.seq ?_ | refine EK.region ?_ | refine EK.block ?_ | refine ER.move rfl rfl rfl ?_))
  refine ER.callR rfl rfl rfl rfl rfl (cload_f (F := fun v y => ∃ z, v = .int .i64 z /\ OwnS i c (some x) (some (X, z)) w pu po bd sp sq y /\ TH X z y /\ sL.pairs y <= s) sL_ok a2 (b := c.B X) (by rw [<- o2.cc]; exact s_cls (by omega) (by omega)) fun y₁ q1 j1 => ?_) ?_
  · have o1 := o2.rel i0 q1
    have ec := o1.cc
    have := TH.now (X := X) j1 hX
    rw [ec] at this
    have lm := look_move (X := X) j1 i0 (by rw [ec]; exact hi) hX o1.sn
    refine ⟨_, lm, _, rfl, ⟨ec, o1.hv, o1.hn, ?_, o1.pu, o1.po, o1.bd, o1.sp, o1.sq⟩, ⟨this.p, this.n, this.l, this.o⟩, Nat.le_trans lm.pairs (Nat.le_trans q1.pairs p2)⟩
    show u1 y₁.sn i _ i = _
    rw [u1_same, ec]
    rfl
  rintro v h3 ⟨d3, γ3⟩ ⟨rfl, e3, w3, a3, z, rfl, o3, t3, p3⟩
  simp only at e3 w3 a3 o3 t3 p3
  (repeat (first | refine EK.seq ?_ | refine ER.done ?_ | refine ER.assign rfl rfl rfl ?_))
  refine EK.regionAny (fun h' => hcell h' ⟨sb, 2, none⟩ = some (.slice (some ⟨ib, 0, none⟩) (c.N + 1) (c.N + 1)) /\ hcell h' ⟨ib, 0 + ((x : Nat) : Int).toNat * 2, none⟩ = some (ptr (c.B (4 + 2 * x)))) ?_ (hDu := a3.at.nd)
  have hZ : hcell h3 ⟨sb, 2, none⟩ = some (.slice (some ⟨ib, 0, none⟩) (c.N + 1) (c.N + 1)) /\ hcell h3 ⟨ib, 0 + ((x : Nat) : Int).toNat * 2, none⟩ = some (ptr (c.B (4 + 2 * x))) := ⟨ms, by rw [Int.toNat_natCast]; exact mn⟩
  refine EA.tMove 0 rfl (by kernel_rfl) rfl rfl rfl rfl hZ ?_
  refine EA.tNil 1 rfl (by kernel_rfl) rfl rfl rfl rfl hZ ?_
  refine EA.tField 2 rfl (by kernel_rfl) rfl rfl rfl rfl hZ ?_
  refine EA.tLoad 3 rfl (by kernel_rfl) rfl rfl rfl rfl (fun _ hz => hz.1) hZ ?_
  refine EA.tMove 4 rfl (by kernel_rfl) rfl rfl rfl rfl hZ ?_
  refine EA.tIdxS 5 rfl (by kernel_rfl) rfl rfl rfl rfl rfl (by omega) (by omega) hZ ?_
  refine EA.tField 6 rfl (by kernel_rfl) rfl rfl rfl rfl hZ ?_
  refine EA.tLoad 7 rfl (by kernel_rfl) rfl rfl rfl rfl (fun _ hz => hz.2) hZ ?_
  refine EA.tMove 8 rfl (by kernel_rfl) rfl rfl rfl rfl hZ ?_
  refine EA.tMove 9 rfl (by kernel_rfl) rfl rfl rfl rfl hZ ?_
  refine EA.callD 10 rfl (by kernel_rfl) rfl rfl rfl rfl rfl rfl node_ok hZ ?_
  refine EA.callR 11 rfl (by kernel_rfl) rfl rfl rfl rfl rfl rfl (cstore_f (F := fun _ y => OwnS i c (some x) (some (X, z)) w pu po (bd - 1) sp sq y /\ TH X z y /\ y.v (c.B (4 + 2 * x)) = z % 65536 /\ sL.pairs y < s) sL_ok a3 (b := c.B (4 + 2 * x)) (by have := s_cls (y := γ3.y) (j := 4 + 2 * x) (by omega) (by rw [o3.cc]; omega); rw [o3.cc] at this; exact this) fun y₁ q1 j1 => ?_) ?_
  · have o1 := o3.rel i0 q1
    have ec := o1.cc
    have t1 := t3.rel hX q1
    have hbd1 := o1.bd
    have st := set_step (j := 4 + 2 * x) (w := z % 65536) j1 i0 (by rw [ec]; exact hi) o1.hn (.inl rfl) (by omega)
    have o2' := o1.set (u := z % 65536) j1 rfl
    have tg1 : TH X z (setY y₁ i (4 + 2 * x) (z % 65536)) := ⟨t1.p, t1.n, t1.l, fun e => by
      refine Eq.trans (u1_ne fun e' => ?_) (t1.o e)
      have := j1.inj X (4 + 2 * x) e'
      omega⟩
    refine ⟨setY y₁ i (4 + 2 * x) (z % 65536), by rw [<- ec]; exact st, ?_, fun y₂ q2 => ⟨o2'.rel i0 q2, tg1.rel hX q2, ?_, ?_⟩⟩
    · show u1 y₁.v (y₁.c.B (4 + 2 * x)) _ (c.B (4 + 2 * x)) = _
      rw [ec, u1_same]
    · have := ((show Sr i _ y₂ from q2.law).own i0 x o2'.hn).1
      rw [o2'.cc] at this
      rw [this]
      show u1 y₁.v (y₁.c.B (4 + 2 * x)) _ (c.B (4 + 2 * x)) = _
      rw [ec, u1_same]
    · have h1 := st.pairs
      have h2 := q2.pairs
      have h3 : sL.pairs y₁ <= sL.pairs γ3.y := q1.pairs
      omega
  rintro v h4 ⟨d4, γ4⟩ ⟨rfl, e4, w4, a4, o4, t4, n4, p4⟩
  simp only at e4 w4 a4 o4 t4 n4 p4
  refine ⟨hZ, EA.done (by kernel_rfl) ?_⟩
  clear hZ
  (repeat (first | refine EK.seq ?_ | refine EK.region ?_ | refine ER.move rfl rfl rfl ?_))
  refine ER.callD rfl rfl rfl rfl rfl laid_ok ?_
  refine ER.callR rfl rfl rfl rfl rfl (ccas_f (F := fun v y => (v = .bool true /\ OwnS i c none none w (if X = 2 then pu ++ [w] else pu) po (bd - 11) sp sq y) \/ (v = .bool false /\ OwnS i c (some x) none w pu po bd sp sq y /\ sL.pairs y < s)) sL_ok a4 (b := c.B X) (by rw [<- o4.cc]; exact s_cls (by omega) (by omega)) fun y₁ q1 j1 => ?_) ?_
  · have o1 := o4.rel i0 q1
    have ec := o1.cc
    have hbd1 := o1.bd
    refine ⟨fun e => ?_, fun e => ?_⟩
    · have e' : y₁.v (c.B X) = z := e
      obtain ⟨g0, g1, g2, g3, _⟩ := j1.tag hX
      rw [ec, e'] at g1 g2
      obtain ⟨c1, c2, c3⟩ := j1.cel X hX
      obtain ⟨d1, d2', _⟩ := j1.hd hX
      have hN' := j1.N1
      have hcK := j1.cK
      have hn1 : y₁.v (c.B (4 + 2 * x)) = hdN (y₁.ch X) := by
        have := ((show Sr i _ y₁ from q1.law).own i0 x o4.hn).1
        rw [o4.cc] at this
        rw [this, n4, g1]
      have st := lay_step (X := X) j1 i0 (by rw [ec]; exact hi) hX o1.hn (by omega) (by rw [ec]; exact hn1)
      rw [ec] at st
      refine ⟨_, st, ?_, fun y₂ q2 => .inl ⟨rfl, (OwnS.rel (y := layY y₁ i X x) ?_ i0 q2)⟩⟩
      · show u1 y₁.v (y₁.c.B X) _ (c.B X) = _
        rw [ec, u1_same]
        show 65536 * (y₁.tg X + 1) + (x : Int) = _
        rw [show z = 65536 * y₁.tg X + hdN (y₁.ch X) by omega, laid_val c2 (by omega) (by omega) (by omega) (by omega) (by omega)]
      · refine ⟨ec, fun _ hx' => (by cases hx'), u1_same, u1_same, ?_, o1.po, ?_, o1.sp, o1.sq⟩
        · show (if X = 2 then u1 y₁.pu i _ else y₁.pu) i = _
          split
          · rw [u1_same, o1.pu, ec, o1.hv x rfl]
          · exact o1.pu
        · show bd - 11 <= u1 y₁.bd i _ i
          rw [u1_same]; omega
    · have e' : y₁.v (y₁.c.B X) ≠ z := by rw [ec]; exact e
      have lm := fail_move j1 i0 (by rw [ec]; exact hi) o1.sn e'
      refine ⟨_, lm, .inr ⟨rfl, ⟨ec, o1.hv, o1.hn, u1_same, o1.pu, o1.po, ?_, o1.sp, o1.sq⟩, ?_⟩⟩
      · show bd <= u1 y₁.bd i _ i
        rw [u1_same]; omega
      · have h1 := lm.pairs
        have h2 : sL.pairs y₁ <= sL.pairs γ4.y := q1.pairs
        omega
  rintro v h5 ⟨d5, γ5⟩ ⟨rfl, e5, w5, a5, ⟨rfl, o5⟩ | ⟨rfl, o5, p5⟩⟩
  · simp only at e5 w5 a5 o5
    (repeat (first | refine ER.done ?_ | refine EK.condT rfl ?_ | refine EK.ret ?_))
    exact EU.ret0 rfl ⟨rfl, ((e5.trans e4).trans e3).trans e2, ((w5.trans w4).trans w3).trans w2, a5, o5⟩
  · simp only at e5 w5 a5 o5 p5
    (repeat (first | refine ER.done ?_ | refine EK.skip ?_ | refine EK.inBlock ?_ | refine EK.condF rfl ?_))
    refine EK.sub ?_ (again (sL.pairs γ5.y) _ _ p5 ⟨rfl, ((e5.trans e4).trans e3).trans e2, ((w5.trans w4).trans w3).trans w2, a5, o5, Nat.le_refl _⟩)
    exact ⟨rfl, rfl, rfl, rfl, trivial⟩
set_option maxRecDepth 8000 in
set_option maxHeartbeats 4000000 in
theorem push_w {u : Int} (hA : Idle sL i δ.g) (hi : i <= c.n) (ho : OwnS i c none none w pu po bd sp sq δ.g.y) (hbd : 22 <= bd) (hN : c.N <= 60000) (m : KS c sb ib h) :
    CallW Try.prog false (SitW Try.prog (XF TT sL) i) 13 #[ptr sb, .pointer none, .int .i64 u] h δ (Ret (Cq sL i h δ.d δ.g.wg fun v y => (v = .int .i64 12 /\ OwnS i c none none w pu po bd sp sq y) \/ (v = .int .i64 0 /\ ∃ w', OwnS i c none none w' (pu ++ [u]) po (bd - 22) sp sq y))) := by
  have i0 := hA.i0
  have ml := m.l
  have mf := m.f
  have ms := m.s
  refine CallW.start (n := 47) rfl rfl ?_
  (repeat (first | refine EK.seq ?_ | refine EK.region ?_ | refine ER.done ?_ | refine EK.skip ?_ | refine ER.move rfl rfl rfl ?_ | refine ER.assign rfl rfl rfl ?_ | refine ER.nilCheck rfl rfl rfl ?_ | refine ER.fieldAddr rfl rfl rfl ?_ | refine ER.eqV rfl rfl rfl rfl rfl ?_ | refine ER.pickF rfl rfl rfl rfl ?_ | refine ER.cmpF rfl rfl rfl rfl rfl (by first | (dsimp only [cmpP]; omega) | exact rfl | exact Int.le_refl _) ?_ | refine ER.len1 rfl rfl rfl ?_ | refine EK.condF rfl ?_ | refine ER.load1 rfl rfl rfl (by assumption) ?_))
  refine ER.callR rfl rfl rfl rfl rfl (get_w (X := 3) (.inr rfl) hA hi ho (by omega) hN m) ?_
  rintro v h2 ⟨d2, γ2⟩ ⟨rfl, e2, w2, a2, ⟨rfl, o2⟩ | ⟨x, u2, rfl, x1, xN, o2⟩⟩
  · simp only at e2 w2 a2 o2
    (repeat (first | refine EK.seq ?_ | refine EK.region ?_ | refine ER.done ?_ | refine ER.move rfl rfl rfl ?_ | refine ER.assign rfl rfl rfl ?_ | refine ER.cmpT rfl rfl rfl rfl rfl (by first | (dsimp only [cmpP]; omega) | exact rfl | exact Int.le_refl _) ?_ | refine EK.condT rfl ?_ | refine EK.ret ?_))
    exact EU.ret1 rfl rfl ⟨rfl, e2, w2, a2, .inl ⟨rfl, o2⟩⟩
  · simp only at e2 w2 a2 o2
    rw [if_neg (by decide)] at o2
    have mv := (m.n x xN).2
    (repeat (first | refine EK.seq ?_ | refine EK.region ?_ | refine ER.done ?_ | refine EK.skip ?_ | refine ER.move rfl rfl rfl ?_ | refine ER.assign rfl rfl rfl ?_ | refine ER.nilCheck rfl rfl rfl ?_ | refine ER.fieldAddr rfl rfl rfl ?_ | refine ER.cmpF rfl rfl rfl rfl rfl (by first | (dsimp only [cmpP]; omega) | exact rfl | exact Int.le_refl _) ?_ | refine ER.indexSl rfl rfl rfl rfl (by omega) (by omega) ?_ | refine EK.condF rfl ?_ | refine ER.load1 rfl rfl rfl (by assumption) ?_))
    refine ER.callR rfl rfl rfl rfl rfl (cstore_f (F := fun _ y => OwnS i c (some x) none u pu po (bd - 11) sp sq y) sL_ok a2 (b := c.B (5 + 2 * x)) (by have := s_cls (y := γ2.y) (j := 5 + 2 * x) (by omega) (by rw [o2.cc]; omega); rw [o2.cc] at this; exact this) fun y₁ q1 j1 => ?_) ?_
    · have o1 := o2.rel i0 q1
      have ec := o1.cc
      have hbd1 := o1.bd
      have st := set_step (j := 5 + 2 * x) (w := u) j1 i0 (by rw [ec]; exact hi) o1.hn (.inr rfl) (by omega)
      refine ⟨setY y₁ i (5 + 2 * x) u, by rw [<- ec]; exact st, ?_, fun y₂ q2 => OwnS.rel (y := setY y₁ i (5 + 2 * x) u) ⟨ec, fun z hz => ?_, o1.hn, o1.sn, o1.pu, o1.po, ?_, o1.sp, o1.sq⟩ i0 q2⟩
      · show u1 y₁.v (y₁.c.B (5 + 2 * x)) _ (c.B (5 + 2 * x)) = _
        rw [ec, u1_same]
      · injection hz with hz
        subst hz
        show u1 y₁.v (y₁.c.B (5 + 2 * x)) _ (c.B (5 + 2 * x)) = _
        rw [ec, u1_same]
      · show bd - 11 <= u1 y₁.bd i _ i
        rw [u1_same]; omega
    rintro v h3 ⟨d3, γ3⟩ ⟨rfl, e3, w3, a3, o3⟩
    simp only at e3 w3 a3 o3
    (repeat (first | refine EK.seq ?_ | refine EK.region ?_ | refine ER.done ?_ | refine ER.move rfl rfl rfl ?_ | refine ER.nilCheck rfl rfl rfl ?_ | refine ER.fieldAddr rfl rfl rfl ?_ | refine ER.load1 rfl rfl rfl (by assumption) ?_))
    refine ER.callR rfl rfl rfl rfl rfl (lay_w (X := 2) (.inl rfl) a3 hi o3 (by omega) x1 xN hN m) ?_
    rintro v h4 ⟨d4, γ4⟩ ⟨rfl, e4, w4, a4, o4⟩
    simp only at e4 w4 a4 o4
    rw [if_pos trivial] at o4
    (repeat (first | refine EK.seq ?_ | refine EK.region ?_ | refine ER.done ?_ | refine ER.assign rfl rfl rfl ?_ | refine EK.ret ?_))
    exact EU.ret1 rfl rfl ⟨rfl, (e4.trans e3).trans e2, (w4.trans w3).trans w2, a4, .inr ⟨rfl, _, o4.less (by omega)⟩⟩
set_option maxRecDepth 8000 in
set_option maxHeartbeats 4000000 in
theorem pop_w (hA : Idle sL i δ.g) (hi : i <= c.n) (ho : OwnS i c none none w pu po bd sp sq δ.g.y) (hbd : 21 <= bd) (hN : c.N <= 60000) (m : KS c sb ib h) :
    CallW Try.prog false (SitW Try.prog (XF TT sL) i) 14 #[ptr sb, .pointer none] h δ (Ret (Cq sL i h δ.d δ.g.wg fun v y => (v = .tuple #[.int .i64 0, .bool false] /\ OwnS i c none none w pu po bd sp sq y) \/ ∃ u, v = .tuple #[.int .i64 u, .bool true] /\ ∃ w', OwnS i c none none w' pu (po ++ [u]) (bd - 21) sp sq y)) := by
  have i0 := hA.i0
  have ml := m.l
  have mf := m.f
  have ms := m.s
  refine CallW.start (n := 47) rfl rfl ?_
  (repeat (first | refine EK.seq ?_ | refine EK.region ?_ | refine ER.done ?_ | refine EK.skip ?_ | refine ER.move rfl rfl rfl ?_ | refine ER.assign rfl rfl rfl ?_ | refine ER.nilCheck rfl rfl rfl ?_ | refine ER.fieldAddr rfl rfl rfl ?_ | refine ER.eqV rfl rfl rfl rfl rfl ?_ | refine ER.pickF rfl rfl rfl rfl ?_ | refine ER.cmpF rfl rfl rfl rfl rfl (by first | (dsimp only [cmpP]; omega) | exact rfl | exact Int.le_refl _) ?_ | refine ER.len1 rfl rfl rfl ?_ | refine EK.condF rfl ?_ | refine ER.load1 rfl rfl rfl (by assumption) ?_))
  refine ER.callR rfl rfl rfl rfl rfl (get_w (X := 2) (.inl rfl) hA hi ho (by omega) hN m) ?_
  rintro v h2 ⟨d2, γ2⟩ ⟨rfl, e2, w2, a2, ⟨rfl, o2⟩ | ⟨x, u2, rfl, x1, xN, o2⟩⟩
  · simp only at e2 w2 a2 o2
    (repeat (first | refine EK.seq ?_ | refine EK.region ?_ | refine ER.done ?_ | refine ER.move rfl rfl rfl ?_ | refine ER.assign rfl rfl rfl ?_ | refine ER.cmpT rfl rfl rfl rfl rfl (by first | (dsimp only [cmpP]; omega) | exact rfl | exact Int.le_refl _) ?_ | refine EK.condT rfl ?_ | refine EK.ret ?_))
    exact EU.ret2 rfl rfl rfl ⟨rfl, e2, w2, a2, .inl ⟨rfl, o2⟩⟩
  · simp only at e2 w2 a2 o2
    rw [if_pos trivial] at o2
    have mv := (m.n x xN).2
    (repeat (first | refine EK.seq ?_ | refine EK.region ?_ | refine ER.done ?_ | refine EK.skip ?_ | refine ER.move rfl rfl rfl ?_ | refine ER.assign rfl rfl rfl ?_ | refine ER.nilCheck rfl rfl rfl ?_ | refine ER.fieldAddr rfl rfl rfl ?_ | refine ER.cmpF rfl rfl rfl rfl rfl (by first | (dsimp only [cmpP]; omega) | exact rfl | exact Int.le_refl _) ?_ | refine ER.indexSl rfl rfl rfl rfl (by omega) (by omega) ?_ | refine EK.condF rfl ?_ | refine ER.load1 rfl rfl rfl (by assumption) ?_))
    refine ER.callR rfl rfl rfl rfl rfl (cload_f (F := fun v y => v = .int .i64 u2 /\ OwnS i c (some x) none u2 pu (po ++ [u2]) (bd - 10) sp sq y) sL_ok a2 (b := c.B (5 + 2 * x)) (by have := s_cls (y := γ2.y) (j := 5 + 2 * x) (by omega) (by rw [o2.cc]; omega); rw [o2.cc] at this; exact this) fun y₁ q1 j1 => ?_) ?_
    · have o1 := o2.rel i0 q1
      exact ⟨y₁, LMove.none sL_ok j1, congrArg (Value.int .i64) (o1.hv x rfl), o1⟩
    rintro v h3 ⟨d3, γ3⟩ ⟨rfl, e3, w3, a3, rfl, o3⟩
    simp only at e3 w3 a3 o3
    (repeat (first | refine EK.seq ?_ | refine EK.region ?_ | refine ER.done ?_ | refine ER.move rfl rfl rfl ?_ | refine ER.assign rfl rfl rfl ?_ | refine ER.nilCheck rfl rfl rfl ?_ | refine ER.fieldAddr rfl rfl rfl ?_ | refine ER.load1 rfl rfl rfl (by assumption) ?_))
    refine ER.callR rfl rfl rfl rfl rfl (lay_w (X := 3) (.inr rfl) a3 hi o3 (by omega) x1 xN hN m) ?_
    rintro v h4 ⟨d4, γ4⟩ ⟨rfl, e4, w4, a4, o4⟩
    simp only at e4 w4 a4 o4
    rw [if_neg (by decide)] at o4
    (repeat (first | refine EK.seq ?_ | refine EK.region ?_ | refine ER.done ?_ | refine ER.move rfl rfl rfl ?_ | refine ER.assign rfl rfl rfl ?_ | refine EK.ret ?_))
    exact EU.ret2 rfl rfl rfl ⟨rfl, (e4.trans e3).trans e2, (w4.trans w3).trans w2, a4, .inr ⟨_, rfl, _, o4.less (by omega)⟩⟩
end
end
end Go.Proofs.Ytakioblpgmjdaaa
namespace Go.TJ
section
variable [Dm]
open Go Go.Conc
section
variable {Γ : Type} {P : Program} {main : Bool} {S : Sit Γ} {f : FuncId} {n : Nat} {ops : Array Oper} {Z : Hp -> Prop} {z m : Nat} {listed li lj l' : Array Bool} {k : List Item} {env : Env} {ds : List Deferred} {h : Hp} {δ : Ix Γ} {R : Post Γ}
theorem EA.swap {a b : Nat} {u v : Value} (hne : a ≠ b) (hk : EA P main S f n ops Z z m listed k ((a, u) :: (b, v) :: env) ds h δ R) : EA P main S f n ops Z z m listed k ((b, v) :: (a, u) :: env) ds h δ R := fun x kx => hk x ⟨kx.size, kx.defers, fun i w hl => kx.knows i w (by
  rw [look_cons, look_cons] at hl ⊢
  by_cases ea : a = i
  · rw [if_pos ea] at hl
    rw [if_neg (fun z => hne (ea.trans z.symm)), if_pos ea]; exact hl
  · rw [if_neg ea] at hl
    rw [if_neg ea]; exact hl)⟩
theorem EA.both (i j : Nat) {oi oj : Oper} {di dj : Nat} (I : Value -> Value -> Hp -> Ix Γ -> Prop) (hi : ops[i]? = some oi) (hj : ops[j]? = some oj) (hr : Region.ready .any ops listed = [i, j]) (hli : listed.setIfInBounds i true = li) (hlj : listed.setIfInBounds j true = lj)
    (hri : Region.ready .any ops li = [j]) (hrj : Region.ready .any ops lj = [i]) (hij : li.setIfInBounds j true = l') (hji : lj.setIfInBounds i true = l') (gi : oi.guard = none) (gj : oj.guard = none) (ti : oi.dst = some di) (tj : oj.dst = some dj) (bi : Nat.blt di n = true) (bj : Nat.blt dj n = true) (hne : di ≠ dj)
    (h1 : ∀ (ρ : Operand -> Value), (∀ x v, ev env x = some v -> ρ x = v) -> ∃ Y1 : Value -> Hp -> Ix Γ -> Prop, Yields P main S f (execOp ρ oi) h δ Y1 /\ ∀ v h' δ', Y1 v h' δ' -> Z h' /\ ∀ (ρ' : Operand -> Value), (∀ x u, ev ((di, v) :: env) x = some u -> ρ' x = u) -> ∃ Y2 : Value -> Hp -> Ix Γ -> Prop, Yields P main S f (execOp ρ' oj) h' δ' Y2 /\ ∀ v2 h2 δ2, Y2 v2 h2 δ2 -> Z h2 /\ I v v2 h2 δ2)
    (h2 : ∀ (ρ : Operand -> Value), (∀ x v, ev env x = some v -> ρ x = v) -> ∃ Y1 : Value -> Hp -> Ix Γ -> Prop, Yields P main S f (execOp ρ oj) h δ Y1 /\ ∀ v h' δ', Y1 v h' δ' -> Z h' /\ ∀ (ρ' : Operand -> Value), (∀ x u, ev ((dj, v) :: env) x = some u -> ρ' x = u) -> ∃ Y2 : Value -> Hp -> Ix Γ -> Prop, Yields P main S f (execOp ρ' oi) h' δ' Y2 /\ ∀ v2 h2 δ2, Y2 v2 h2 δ2 -> Z h2 /\ I v2 v h2 δ2)
    (hn : ∀ vi vj h2 δ2, I vi vj h2 δ2 -> Z h2 -> EA P main S f n ops Z z m l' k ((dj, vj) :: (di, vi) :: env) ds h2 δ2 R) : EA P main S f n ops Z z (m + 2) listed k env ds h δ R := by
  have wn : ∀ (e : Env) (o : Oper), o.guard = none -> wantE ops e o.guard = some true := fun e o ho => by rw [ho]; rfl
  refine EA.alt2 i j hr ?_ ?_
  · refine EAi.hands hi hli (wn _ _ gi) ti (.inl ⟨_, rfl, bi⟩) fun ρ hρ => ?_
    obtain ⟨Y1, y1, y2⟩ := h1 ρ hρ
    refine ⟨Y1, y1, fun v h' δ' hy => ?_⟩
    obtain ⟨z1, hs⟩ := y2 v h' δ' hy
    refine ⟨.inr z1, EA.onlyH j hj hri hij (wn _ _ gj) tj (.inl ⟨_, rfl, bj⟩) fun ρ' hρ' => ?_⟩
    obtain ⟨Y2, w1, w2⟩ := hs ρ' hρ'
    refine ⟨Y2, w1, fun v2 h2 δ2 hy2 => ?_⟩
    obtain ⟨z2, hI⟩ := w2 v2 h2 δ2 hy2
    exact ⟨.inr z2, hn _ _ _ _ hI z2⟩
  · refine EAi.hands hj hlj (wn _ _ gj) tj (.inl ⟨_, rfl, bj⟩) fun ρ hρ => ?_
    obtain ⟨Y1, y1, y2⟩ := h2 ρ hρ
    refine ⟨Y1, y1, fun v h' δ' hy => ?_⟩
    obtain ⟨z1, hs⟩ := y2 v h' δ' hy
    refine ⟨.inr z1, EA.onlyH i hi hrj hji (wn _ _ gi) ti (.inl ⟨_, rfl, bi⟩) fun ρ' hρ' => ?_⟩
    obtain ⟨Y2, w1, w2⟩ := hs ρ' hρ'
    refine ⟨Y2, w1, fun v2 h2 δ2 hy2 => ?_⟩
    obtain ⟨z2, hI⟩ := w2 v2 h2 δ2 hy2
    exact ⟨.inr z2, EA.swap (fun e => hne e.symm) (hn _ _ _ _ hI z2)⟩
end
section
variable {Γ : Type} {P : Program} {f : FuncId} {h : Hp} {δ : Ix Γ} {ty : TypeId} {pos : String} {af : Array Edge} {g : Option (Nat × Bool)}
theorem sem_build1 {S : Sit Γ} {t e sz by_ : Nat} {z : Value} {ps : Array (Nat × Operand)} {parts : List (Nat × Value)} {cells : Array Value} [hinf : Inf P e sz by_ z] [hu : Und P t (.slice e)] {env : Env} {ρ : Operand -> Value} {dst : Option Nat} {Q : Next -> Hp -> Ix Γ -> Prop} {X : Value -> Hp -> Ix Γ -> Prop}
    (hρ : ∀ x v, ev env x = some v -> ρ x = v) (hp : evP env ps.toList = some parts) (hsz : 0 < sz) (hsz2 : sz <= 1000000) (hz : z.cells.size = sz) (hf : Instr.fill (fun i => some (i * sz, sz)) z.cells parts = some cells) (hLo : S.lone δ.g)
    (hq : Q (.value (.slice (some ⟨h.size, 0, none⟩) 1 1)) (h.push (.cells cells e)) δ) : SemW P S (execOp ρ ⟨dst, .buildSlice t 1 ps, ty, pos, af, g⟩) h δ Q X := by
  have e1 : (ps.map fun (i, x) => (i, ρ x)) = parts.toArray := by
    obtain ⟨ps⟩ := ps
    simp only [List.map_toArray]
    rw [<- evP_ok hρ ps parts hp]
  unfold execOp
  dsimp only
  rw [e1]
  refine semW_bind _ _ _ _ _ _ ?_
  obtain ⟨inf, hi1, hi2, hi3, hi4⟩ := hinf.get
  unfold Instr.buildSlice
  refine semW_underlying hu.out ?_
  refine semW_sizeOf hi1 ?_
  rw [hi2, if_neg (by omega), if_neg (by omega)]
  refine semW_zeroValue hi1 hi4 ?_
  refine semW_pureBind ?_
  have hf' : Instr.fill (fun i => some (i * sz, sz)) ((Array.range (1 * sz)).map (z.cells[· % z.cells.size]!)) parts.toArray.toList = some cells := by rw [zeros1 hz]; exact hf
  dsimp only
  rw [hf']
  exact ⟨⟨hLo, thawed⟩, hq⟩
theorem Upd.pad (T : Nat -> Prop) {N : Nat} (hN : h.size <= N) : Upd T h (padTo h N) := ⟨by rw [padTo_size hN]; exact hN, fun b hb _ => by unfold padTo; exact Array.getElem?_append_left hb⟩
variable {X : Fp Γ} {i : Nat}
theorem make_w : ∀ g h δ Y, Make P false X i g h δ Y -> (SitW P X i).yld g h δ Y := fun _ _ _ _ z => .inl z
theorem yields_build {t e sz by_ : Nat} {z : Value} {ps : Array (Nat × Operand)} {parts : List (Nat × Value)} {cells : Array Value} [hinf : Inf P e sz by_ z] [hu : Und P t (.slice e)] {env : Env} {ρ : Operand -> Value} {dst : Option Nat}
    (hnd : 0 < i -> ¬ X.done i δ.g /\ X.fin δ.g i = none) (hρ : ∀ x v, ev env x = some v -> ρ x = v) (hp : evP env ps.toList = some parts) (hsz : 0 < sz) (hsz2 : sz <= 1000000) (hz : z.cells.size = sz) (hf : Instr.fill (fun i => some (i * sz, sz)) z.cells parts = some cells) :
    Yields P false (SitW P X i) f (execOp ρ ⟨dst, .buildSlice t 1 ps, ty, pos, af, g⟩) h δ (fun v h' δ' => δ' = δ /\ ∃ N, h.size <= N /\ v = .slice (some ⟨N, 0, none⟩) 1 1 /\ h' = (padTo h N).push (.cells cells e)) :=
  yields_make (X := X) (i := i) make_w hnd fun N hN => sem_build1 hρ hp hsz hsz2 hz hf True.intro ⟨_, .inl rfl, rfl, rfl, N, hN, by rw [padTo_size hN], rfl⟩
theorem yields_append {t e sz by_ : Nat} {z : Value} [hinf : Inf P e sz by_ z] [hu : Und P t (.slice e)] {s x : Value} {a b : Operand} {m c' b' e' : Nat} {fz : Nat × Nat} {cells new : List Value} {ρ : Operand -> Value} {dst : Option Nat}
    (hnd : 0 < i -> ¬ X.done i δ.g /\ X.fin δ.g i = none) (ha : ρ a = s) (hb : ρ b = x)
    (hs : SliceO h s e sz m cells) (hx : x = .slice (some ⟨b', 0, none⟩) 1 c') (hb' : h[b']? = some (.cells new.toArray e' fz)) (hnew : new.length = sz) (hone : ∀ v ∈ new, OneCell v) (hfit : (m + 1) * by_ <= 140737488355328) (hm : m < 1000000000000) (hz : z.cells.size = sz) (hS : ∀ b, blk s = some b -> ¬ (X.cf δ.g).ro b) :
    Yields P false (SitW P X i) f (execOp ρ ⟨dst, .call { callee := .builtin .append, args := #[a, b], argTypes := #[t, t] }, ty, pos, af, g⟩) h δ (fun v h' δ' => δ' = δ /\ SliceO h' v e sz (m + 1) (cells ++ new) /\ Upd (fun b => blk s = some b) h h' /\ ∀ b, blk v = some b -> blk s = some b \/ h.size <= b) := by
  refine yields_make (X := X) (i := i) make_w hnd fun N hN => ?_
  have up := Upd.pad (h := h) (fun _ => False) hN
  refine sem_builtin (vs := #[s, x]) (by simp [ha, hb]) fun cs => ?_
  show SemW P (MakeS X) (Builtin.append_ #[t, t] ty #[s, x] >>= fun v => pure (Next.value v)) (padTo h N) δ _ _
  refine semW_bind _ _ _ _ _ _ (sem_append1 (hs.upd up fun _ _ z => z) hx (up.get hb' fun z => z) hnew hone hfit hm hz (fun b o hb => hS b hb) (fun s' h' h1 h2 h3 => ?_) True.intro (fun z => z))
  refine ⟨s', .inl rfl, rfl, rfl, h1, ?_, fun b hb => ?_⟩
  · exact (Upd.pad _ hN).trans h2
  · rcases h3 b hb with h4 | h4
    · exact .inl h4
    · rw [padTo_size hN] at h4; exact .inr (by omega)
end
end
end Go.TJ
namespace Go.Proofs.Ytakioblpgmjdaaa
section
open Go Go.TJ Go.Proofs
variable [Dm]
structure Kw where
  vM : Nat
  vS : Nat
  vP : Nat
  vQ : Nat
  sb : Nat
  ib : Nat
structure KW (c : Sc) (q : Kw) (h : Hp) : Prop where
  M : hcell h ⟨q.vM, 0, none⟩ = some (.int .i64 c.m)
  S : hcell h ⟨q.vS, 0, none⟩ = some (.pointer (some ⟨q.sb, 0, none⟩))
  P : hcell h ⟨q.vP, 0, none⟩ = some (.slice (some ⟨c.pb, 0, none⟩) c.n c.n)
  Q : hcell h ⟨q.vQ, 0, none⟩ = some (.slice (some ⟨c.qb, 0, none⟩) (c.n + 1) (c.n + 1))
  K : KS c q.sb q.ib h
theorem KW.upd {c : Sc} {q : Kw} {h h' : Hp} (m : KW c q h) (u : Upd (fun _ => False) h h') : KW c q h' where
  M := u.hcell m.M fun z => z
  S := u.hcell m.S fun z => z
  P := u.hcell m.P fun z => z
  Q := u.hcell m.Q fun z => z
  K := ⟨u.hcell m.K.l fun z => z, u.hcell m.K.f fun z => z, u.hcell m.K.s fun z => z, fun k hk => ⟨u.hcell (m.K.n k hk).1 fun z => z, u.hcell (m.K.n k hk).2 fun z => z⟩⟩
def intv (x : Int) : Value := .int .i64 x
section
variable {h : Hp} {δ : Ix (Gf Sy)} {i : Nat} {c : Sc} {hn : Option Nat} {s : Option (Nat × Int)} {w : Int} {pu po : List Int} {bd : Nat} {sp sq : Value} {y : Sy}
theorem range_get {n j : Nat} {g : Nat -> Value} (h : j < n) : (((List.range n).map g).toArray)[j]? = some (g j) := by simp [h]
theorem own_p (o : OwnS i c hn s w pu po bd sp sq y) (i0 : 0 < i) (hi : i <= c.n) : sL.arrT y c.pb = some c.tS /\ (sL.arr y c.pb)[0 + ((i - 1 : Nat) : Int).toNat * 1]? = some sp /\ sL.may y i ⟨c.pb, 0 + ((i - 1 : Nat) : Int).toNat * 1, none⟩ true := by
  have e : 0 + ((i - 1 : Nat) : Int).toNat * 1 = i - 1 := by simp
  have ec := o.cc
  rw [e]
  refine ⟨?_, ?_, .inl (by rw [ec]), i0, rfl⟩
  · show (if c.pb = y.c.pb then some y.c.tS else _) = _
    rw [ec, if_pos rfl]
  · show (if c.pb = y.c.pb then _ else _ : Array Value)[i - 1]? = _
    rw [ec, if_pos rfl, range_get (by omega), o.sp]
theorem own_q (o : OwnS i c hn s w pu po bd sp sq y) (hJ : Sj y) (i0 : 0 < i) (hi : i <= c.n) : sL.arrT y c.qb = some c.tS /\ (sL.arr y c.qb)[0 + ((i - 1 : Nat) : Int).toNat * 1]? = some sq /\ sL.may y i ⟨c.qb, 0 + ((i - 1 : Nat) : Int).toNat * 1, none⟩ true := by
  have e : 0 + ((i - 1 : Nat) : Int).toNat * 1 = i - 1 := by simp
  have ec := o.cc
  have hd := hJ.ad.1
  rw [ec] at hd
  rw [e]
  refine ⟨?_, ?_, .inr (.inl (by rw [ec])), i0, rfl⟩
  · show (if c.qb = y.c.pb then some y.c.tS else if c.qb = y.c.qb then some y.c.tS else _) = _
    rw [ec, if_neg (fun z => hd z.symm), if_pos rfl]
  · show (if c.qb = y.c.pb then _ else if c.qb = y.c.qb then _ else _ : Array Value)[i - 1]? = _
    rw [ec, if_neg (fun z => hd z.symm), if_pos rfl, range_get (by omega), o.sq]
theorem mv_p (o : OwnS i c hn s w pu po bd sp sq y) (hJ : Sj y) (i0 : 0 < i) (v : Value) : AMove sL i c.pb (0 + ((i - 1 : Nat) : Int).toNat * 1) v y (spY y i v) := by
  have e : 0 + ((i - 1 : Nat) : Int).toNat * 1 = i - 1 := by simp
  have := sp_move (v := v) hJ i0
  rw [o.cc] at this
  rw [e]; exact this
theorem mv_q (o : OwnS i c hn s w pu po bd sp sq y) (hJ : Sj y) (i0 : 0 < i) (hi : i <= c.n) (v : Value) : AMove sL i c.qb (0 + ((i - 1 : Nat) : Int).toNat * 1) v y (sqY y i v) := by
  have e : 0 + ((i - 1 : Nat) : Int).toNat * 1 = i - 1 := by simp
  have := sq_move (v := v) hJ i0 (by rw [o.cc]; exact hi)
  rw [o.cc] at this
  rw [e]; exact this
theorem OwnS.setP (o : OwnS i c hn s w pu po bd sp sq y) (v : Value) : OwnS i c hn s w pu po bd v sq (spY y i v) := ⟨o.cc, o.hv, o.hn, o.sn, o.pu, o.po, o.bd, u1_same, o.sq⟩
theorem OwnS.setQ (o : OwnS i c hn s w pu po bd sp sq y) (v : Value) : OwnS i c hn s w pu po bd sp v (sqY y i v) := ⟨o.cc, o.hv, o.hn, o.sn, o.pu, o.po, o.bd, o.sp, u1_same⟩
theorem app_ok {h' h5 h6 : Hp} {s1 s2 v : Value} {l1 l2 : List Int} {N : Nat} {o : Obj} {z : Int} (u : Upd (fun _ => False) h h') (x1 : SliceO h' s1 2 1 l1.length (l1.map intv)) (x2 : SliceO h' s2 2 1 l2.length (l2.map intv)) (b1 : ∀ b, blk s1 = some b -> h.size <= b) (ne : ∀ b, blk s1 = some b -> blk s2 ≠ some b) (hN : h'.size <= N) (e5 : h5 = (padTo h' N).push o)
    (x6 : SliceO h6 v 2 1 (l1.length + 1) (l1.map intv ++ [intv z])) (u6 : Upd (fun b => blk s1 = some b) h5 h6) (b6 : ∀ b, blk v = some b -> blk s1 = some b \/ h5.size <= b) :
    Upd (fun _ => False) h h6 /\ SliceO h6 v 2 1 (l1 ++ [z]).length ((l1 ++ [z]).map intv) /\ SliceO h6 s2 2 1 l2.length (l2.map intv) /\ (∀ b, blk v = some b -> h.size <= b) /\ (∀ b, blk v = some b -> blk s2 ≠ some b) := by
  have u5 : Upd (fun _ => False) h' h5 := by rw [e5]; exact (Upd.pad _ hN).trans (Upd.push _ _)
  have z5 := u5.size
  have z0 := u.size
  refine ⟨(u.trans u5).over u6 b1, ?_, (x2.upd u5 fun _ _ z => z).upd u6 fun b hb hb' => ne b hb' hb, fun b hb => ?_, fun b hb hb' => ?_⟩
  · rw [List.length_append, List.map_append]
    exact x6
  · rcases b6 b hb with h4 | h4
    · exact b1 b h4
    · omega
  · rcases b6 b hb with h4 | h4
    · exact ne b h4 hb'
    · have := x2.lt hb'
      omega
structure WI (i : Nat) (c : Sc) (h : Hp) (d wg : Nat) (kp kq bd : Nat) (w : Int) (pu po : List Int) (sp sq : Value) (h' : Hp) (δ' : Ix (Gf Sy)) : Prop where
  d : δ'.d = d
  wg : δ'.g.wg = wg
  a : Idle sL i δ'.g
  o : OwnS i c none none w pu po bd sp sq δ'.g.y
  u : Upd (fun _ => False) h h'
  nd : pu.Nodup
  rg : ∀ z, z ∈ pu -> 1000 * ((i : Int) - 1) <= z /\ z < 1000 * ((i : Int) - 1) + kp
  lp : pu.length <= kp
  lq : po.length <= kq
  s1 : SliceO h' sp 2 1 pu.length (pu.map intv)
  s2 : SliceO h' sq 2 1 po.length (po.map intv)
  b1 : ∀ b, blk sp = some b -> h.size <= b
  b2 : ∀ b, blk sq = some b -> h.size <= b
  ne : ∀ b, blk sp = some b -> blk sq ≠ some b
theorem WI.step {d wg kp kq : Nat} {h' : Hp} {δ' δ2 : Ix (Gf Sy)} (W : WI i c h d wg kp kq bd w pu po sp sq h' δ') {kp' kq' bd' : Nat} {w' : Int} (e : δ2.d = d) (g : δ2.g.wg = wg) (a : Idle sL i δ2.g) (o : OwnS i c none none w' pu po bd' sp sq δ2.g.y) (h1 : kp <= kp') (h2 : kq <= kq') : WI i c h d wg kp' kq' bd' w' pu po sp sq h' δ2 :=
  ⟨e, g, a, o, W.u, W.nd, fun z hz => (by have := W.rg z hz; omega), Nat.le_trans W.lp h1, Nat.le_trans W.lq h2, W.s1, W.s2, W.b1, W.b2, W.ne⟩
def WQ (i : Nat) (c : Sc) (h : Hp) (d wg : Nat) : Value -> Hp -> Ix (Gf Sy) -> Prop := fun _ h' δ' => ∃ w pu po bd sp sq, WI i c h d wg c.m c.m bd w pu po sp sq h' δ'
structure LS where
  k : Nat
  w : Int
  pu : List Int
  po : List Int
  sp : Value
  sq : Value
def LS.env (i : Nat) (q : Kw) (s : LS) : Env := [(6, .int .i64 s.k), (0, .int .i64 ((i - 1 : Nat) : Int)), (1, .pointer (some ⟨q.vM, 0, none⟩)), (2, .pointer (some ⟨q.vS, 0, none⟩)), (3, .pointer (some ⟨q.vP, 0, none⟩)), (4, .pointer (some ⟨q.vQ, 0, none⟩))]
theorem EK.fork {Γ : Type} {P : Program} {main : Bool} {S : Sit Γ} {f : FuncId} {n : Nat} {c : Item} {k : List Item} {env : Env} {ds : List Deferred} {h : Hp} {δ : Ix Γ} {R : Post Γ} {σ : Type} (E : σ -> Env) (I : σ -> Hp -> Ix Γ -> Prop) (h1 : ∀ k, (∀ s h' δ', I s h' δ' -> EK P main S f n k (E s) ds h' δ' R) -> EK P main S f n (c :: k) env ds h δ R) (h2 : ∀ s h' δ', I s h' δ' -> EK P main S f n k (E s) ds h' δ' R) : EK P main S f n (c :: k) env ds h δ R := h1 k h2
set_option maxRecDepth 8000 in
set_option maxHeartbeats 16000000 in
theorem sworker_ok {q : Kw} (hA : Idle sL i δ.g) (hi : i <= c.n) (hn8 : c.n <= 8) (hm : c.m <= 100) (hN : c.N <= 60000) (mem : KW c q h) (htop : c.top <= h.size) (hro : ∀ b, c.ro b -> b < c.top) (ho : OwnS i c none none 0 [] [] (43 * c.m) (.slice none 0 0) (.slice none 0 0) δ.g.y) :
    CallW Try.prog false (SitW Try.prog (XF TT sL) i) 12 #[.int .i64 ((i - 1 : Nat) : Int), .pointer (some ⟨q.vM, 0, none⟩), .pointer (some ⟨q.vS, 0, none⟩), .pointer (some ⟨q.vP, 0, none⟩), .pointer (some ⟨q.vQ, 0, none⟩)] h δ (Ret (WQ i c h δ.d δ.g.wg)) := by
  have i0 := hA.i0
  refine CallW.start (n := 52) rfl rfl ?_
  (repeat (first | refine EK.seq ?_ | refine EK.region ?_ | refine ER.done ?_ | refine EK.block ?_ | refine ER.assign rfl rfl rfl ?_))
  refine EK.loopInv (fun s : LS => s.env i q) (fun s h' δ' => s.k <= c.m /\ WI i c h δ.d δ.g.wg s.k s.k (43 * (c.m - s.k)) s.w s.pu s.po s.sp s.sq h' δ') (fun s => c.m - s.k) ⟨0, 0, [], [], .slice none 0 0, .slice none 0 0⟩ ⟨rfl, rfl, rfl, rfl, rfl, rfl, trivial⟩ ⟨Nat.zero_le _, rfl, rfl, hA, ho, Upd.refl _ _, List.nodup_nil, fun z hz => (by cases hz), Nat.le_refl _, Nat.le_refl _, SliceO.nil, SliceO.nil, fun b hb => (by cases hb), fun b hb => (by cases hb), fun b hb => (by cases hb)⟩ ?_
  rintro ⟨k, w, pu, po, sp, sq⟩ h1 ⟨d1, γ1⟩ ⟨hk, W⟩ again
  dsimp only [LS.env] at hk W again ⊢
  have e1 := W.d
  have w1 := W.wg
  have a1 := W.a
  have o1 := W.o
  simp only at e1 w1 a1 o1
  have m1 := mem.upd W.u
  have mM := m1.M
  have mS := m1.S
  have mP := m1.P
  have mQ := m1.Q
  rcases Nat.lt_or_ge k c.m with hlt | hge
  · (repeat (first | refine EK.seq ?_ | refine EK.region ?_ | refine ER.done ?_ | refine EK.skip ?_ | refine ER.move rfl rfl rfl ?_ | refine ER.cmpT rfl rfl rfl rfl rfl (by first | (dsimp only [cmpP]; omega) | exact rfl | exact Int.le_refl _) ?_ | refine EK.condT rfl ?_ | refine ER.load1 rfl rfl rfl (by assumption) ?_))
    refine EK.block ?_
    refine EK.seq ?_
    refine EK.region ?_
    (repeat (first | refine ER.move rfl rfl rfl ?_ | refine ER.assign rfl rfl rfl ?_ | refine ER.add (kd := .i64) rfl rfl rfl rfl (i64_in (by omega) (by omega)) ?_ | refine ER.mul (kd := .i64) rfl rfl rfl rfl (i64_in (by omega) (by omega)) ?_))
    refine ER.done ?_
    refine EK.seq ?_
    have zP : ¬ blk sp = some q.vP := fun z => by
      have hz : h.size <= q.vP := W.b1 _ z
      obtain ⟨_, _, _, hb, _⟩ := hcell_some mem.P
      have : q.vP < h.size := lt_of_get hb
      omega
    refine EK.fork (fun s : LS => s.env i q) (fun s h' δ' => s.k = k /\ WI i c h δ.d δ.g.wg (k + 1) k (43 * (c.m - k) - 22) s.w s.pu s.po s.sp s.sq h' δ') (fun kk key => ?_) ?_
    · (repeat (first | refine EK.seq ?_ | refine EK.region ?_ | refine ER.move rfl rfl rfl ?_ | refine ER.load1 rfl rfl rfl (by assumption) ?_))
      refine ER.callR rfl rfl rfl rfl rfl (push_w a1 hi o1 (by omega) hN m1.K) ?_
      rintro v h2 ⟨d2, γ2⟩ ⟨rfl, e2, w2, a2, ⟨rfl, o2⟩ | ⟨rfl, w', o2⟩⟩
      · simp only at e2 w2 a2 o2
        (repeat (first | refine ER.done ?_ | refine EK.skip ?_ | refine ER.cmpF rfl rfl rfl rfl rfl (by first | (dsimp only [cmpP]; omega) | exact rfl | exact Int.le_refl _) ?_ | refine EK.condF rfl ?_))
        refine EK.sub ?_ (key ⟨k, w, pu, po, sp, sq⟩ _ _ ⟨rfl, W.step (e2.trans e1) (w2.trans w1) a2 (o2.less (by omega)) (by omega) (Nat.le_refl _)⟩)
        exact ⟨rfl, rfl, rfl, rfl, rfl, rfl, trivial⟩
      · simp only at e2 w2 a2 o2
        have hlp := W.lp
        (repeat (first | refine ER.done ?_ | refine ER.cmpT rfl rfl rfl rfl rfl (by first | (dsimp only [cmpP]; omega) | exact rfl | exact Int.le_refl _) ?_ | refine EK.condT rfl ?_))
        refine EK.regionAny (fun h' => hcell h' ⟨q.vP, 0, none⟩ = some (.slice (some ⟨c.pb, 0, none⟩) (c.n) (c.n))) ?_ (hDu := a2.at.nd)
        have hZ : hcell h2 ⟨q.vP, 0, none⟩ = some (.slice (some ⟨c.pb, 0, none⟩) (c.n) (c.n)) := mP
        refine EA.tLoad 0 rfl (by kernel_rfl) rfl rfl rfl rfl (fun _ hz => hz) hZ ?_
        refine EA.tMove 1 rfl (by kernel_rfl) rfl rfl rfl rfl hZ ?_
        refine EA.tLoad 2 rfl (by kernel_rfl) rfl rfl rfl rfl (fun _ hz => hz) hZ ?_
        refine EA.tMove 3 rfl (by kernel_rfl) rfl rfl rfl rfl hZ ?_
        refine EA.tIdxS 4 rfl (by kernel_rfl) rfl rfl rfl rfl rfl (by omega) (by omega) hZ ?_
        refine EA.tMove 6 rfl (by kernel_rfl) rfl rfl rfl rfl hZ ?_
        have hZp : ∀ N, h2.size <= N -> hcell ((padTo h2 N).push (.cells #[.int .i64 (1000 * ((i - 1 : Nat) : Int) + (k : Int))] 2)) ⟨q.vP, 0, none⟩ = some (.slice (some ⟨c.pb, 0, none⟩) (c.n) (c.n)) := fun N hN => ((Upd.pad (fun _ => False) hN).trans (Upd.push _ _)).hcell hZ fun z => z
        refine EA.both 5 7 (fun vi vj h5 δ5 => vi = sp /\ (∃ N, h2.size <= N /\ vj = .slice (some ⟨N, 0, none⟩) 1 1 /\ h5 = (padTo h2 N).push (.cells #[.int .i64 (1000 * ((i - 1 : Nat) : Int) + (k : Int))] 2)) /\ δ5.d = δ.d /\ δ5.g.wg = δ.g.wg /\ Idle sL i δ5.g /\ OwnS i c none none w' (pu ++ [1000 * ((i - 1 : Nat) : Int) + (k : Int)]) po (43 * (c.m - k) - 22) sp sq δ5.g.y) rfl rfl (by kernel_rfl) rfl rfl (by kernel_rfl) (by kernel_rfl) rfl (by kernel_rfl) rfl rfl rfl rfl rfl rfl (by decide) (fun ρ hρ => ?_) (fun ρ hρ => ?_) ?_
        · refine ⟨fun v h4 δ4 => h4 = h2 /\ δ4.d = δ.d /\ δ4.g.wg = δ.g.wg /\ Idle sL i δ4.g /\ v = sp /\ OwnS i c none none w' (pu ++ [1000 * ((i - 1 : Nat) : Int) + (k : Int)]) po (43 * (c.m - k) - 22) sp sq δ4.g.y, yields_loadA sL_ok (hρ _ _ rfl) a2 fun γ4 hR a4 j4 => ?_, ?_⟩
          · have o4 := o2.rel i0 hR.toRo.lrel
            obtain ⟨f1, f2, f3⟩ := own_p o4 i0 hi
            exact ⟨_, _, _, f1, f2, f3, rfl, (e2.trans e1), hR.wg.trans (w2.trans w1), a4, rfl, o4⟩
          rintro v h4 ⟨d4, γ4⟩ ⟨rfl, e4, w4, a4, rfl, o4⟩
          simp only at e4 w4 a4 o4
          refine ⟨hZ, fun ρ' hρ' => ⟨_, yields_build (e := 2) (sz := 1) (z := .int .i64 0) (cells := #[.int .i64 (1000 * ((i - 1 : Nat) : Int) + (k : Int))]) (parts := [(0, .int .i64 (1000 * ((i - 1 : Nat) : Int) + (k : Int)))]) (fun _ => idle_fin a4) hρ' rfl (by omega) (by omega) rfl rfl, ?_⟩⟩
          rintro v h5 δ5 ⟨rfl, N, hN, rfl, rfl⟩
          exact ⟨hZp N hN, rfl, ⟨N, hN, rfl, rfl⟩, e4, w4, a4, o4⟩
        · refine ⟨_, yields_build (e := 2) (sz := 1) (z := .int .i64 0) (cells := #[.int .i64 (1000 * ((i - 1 : Nat) : Int) + (k : Int))]) (parts := [(0, .int .i64 (1000 * ((i - 1 : Nat) : Int) + (k : Int)))]) (fun _ => idle_fin a2) hρ rfl (by omega) (by omega) rfl rfl, ?_⟩
          rintro v h5 δ5 ⟨rfl, N, hN, rfl, rfl⟩
          refine ⟨hZp N hN, fun ρ' hρ' => ⟨fun v h4 δ4 => h4 = (padTo h2 N).push (.cells #[.int .i64 (1000 * ((i - 1 : Nat) : Int) + (k : Int))] 2) /\ δ4.d = δ.d /\ δ4.g.wg = δ.g.wg /\ Idle sL i δ4.g /\ v = sp /\ OwnS i c none none w' (pu ++ [1000 * ((i - 1 : Nat) : Int) + (k : Int)]) po (43 * (c.m - k) - 22) sp sq δ4.g.y, yields_loadA sL_ok (hρ' _ _ rfl) a2 fun γ4 hR a4 j4 => ?_, ?_⟩⟩
          · have o4 := o2.rel i0 hR.toRo.lrel
            obtain ⟨f1, f2, f3⟩ := own_p o4 i0 hi
            exact ⟨_, _, _, f1, f2, f3, rfl, (e2.trans e1), hR.wg.trans (w2.trans w1), a4, rfl, o4⟩
          rintro v h4 ⟨d4, γ4⟩ ⟨rfl, e4, w4, a4, rfl, o4⟩
          exact ⟨hZp N hN, rfl, ⟨N, hN, rfl, rfl⟩, e4, w4, a4, o4⟩
        rintro vi vj h5 ⟨d5, γ5⟩ ⟨evi, ⟨N, hN, rfl, e5h⟩, e5, w5, a5, o5⟩ hZ5
        replace evi := evi.symm
        subst evi
        simp only at e5 w5 a5 o5
        have u5 : Upd (fun _ => False) h2 h5 := by rw [e5h]; exact (Upd.pad _ hN).trans (Upd.push _ _)
        have hro5 : ∀ b, blk sp = some b -> ¬ ((XF TT sL).cf γ5).ro b := fun b hb z => by
          have z' : γ5.y.c.ro b := z.2.1
          rw [o5.cc] at z'
          have := hro b z'
          have := (fun b hb => Nat.le_trans htop (W.b1 b hb) : ∀ b, blk sp = some b -> c.top <= b) b hb
          omega
        refine EA.onlyH 8 rfl (by kernel_rfl) rfl rfl rfl (.inl ⟨_, rfl, rfl⟩) fun ρ hρ => ⟨_, yields_append (e := 2) (sz := 1) (new := [intv (1000 * ((i - 1 : Nat) : Int) + (k : Int))]) (fun _ => idle_fin a5) (hρ _ _ rfl) (hρ _ _ rfl) (W.s1.upd u5 fun _ _ z => z) rfl (by rw [e5h]; exact mk_new hN) rfl (by simp [OneCell, intv]) (by omega) (by omega) rfl hro5, ?_⟩
        rintro v h6 δ6 ⟨rfl, x6, u6, b6⟩
        obtain ⟨r1, r2, r3, r4, r5⟩ := app_ok W.u W.s1 W.s2 W.b1 W.ne hN e5h x6 u6 b6
        clear hZp hZ hro5
        have hZ := u6.hcell hZ5 zP
        refine ⟨.inr hZ, ?_⟩
        obtain ⟨va, vcap, rfl⟩ := x6.val
        refine EA.tIdxS 9 rfl (by kernel_rfl) rfl rfl rfl rfl rfl (by omega) (by omega) hZ ?_
        refine EA.onlyH 10 rfl (by kernel_rfl) rfl rfl rfl (.inr rfl) fun ρ hρ => ⟨fun _ h7 δ7 => h7 = h6 /\ δ7.d = δ.d /\ δ7.g.wg = δ.g.wg /\ Idle sL i δ7.g /\ OwnS i c none none w' (pu ++ [1000 * ((i - 1 : Nat) : Int) + (k : Int)]) po (43 * (c.m - k) - 22) (.slice va (pu.length + 1) vcap) sq δ7.g.y, yields_storeA sL_ok (hρ _ _ rfl) (hρ _ _ rfl) (by simp [OneCell]) a5 fun γ7 hR a7 j7 => ?_, ?_⟩
        · have o4 := o5.rel i0 hR.toRo.lrel
          have j4 := j7
          obtain ⟨f1, f2, f3⟩ := own_p o4 i0 hi
          exact ⟨_, _, _, f1, f2, f3, mv_p o4 j4 i0 _, fun γ8 y8 w8 a8 => ⟨rfl, e5, w8.trans w5, a8, by rw [y8]; exact o4.setP _⟩⟩
        rintro v h7 ⟨d7, γ7⟩ ⟨rfl, e7, w7, a7, o7⟩
        simp only at e7 w7 a7 o7
        refine ⟨.inr hZ, EA.done (by kernel_rfl) ?_⟩
        clear hZ
        skip
        refine EK.sub ?_ (key ⟨k, w', pu ++ [1000 * ((i - 1 : Nat) : Int) + (k : Int)], po, .slice va (pu.length + 1) vcap, sq⟩ _ _ ⟨rfl, ⟨e7, w7, a7, o7, r1, ?_, fun z hz => ?_, ?_, W.lq, r2, r3, r4, W.b2, r5⟩⟩)
        · exact ⟨rfl, rfl, rfl, rfl, rfl, rfl, trivial⟩
        · refine List.nodup_append.2 ⟨W.nd, by simp, fun x hx y hy => ?_⟩
          have := W.rg x hx
          obtain rfl : y = 1000 * ((i - 1 : Nat) : Int) + (k : Int) := by simpa using hy
          omega
        · rcases List.mem_append.1 hz with hz | hz
          · have := W.rg z hz
            omega
          · obtain rfl : z = 1000 * ((i - 1 : Nat) : Int) + (k : Int) := by simpa using hz
            omega
        · rw [List.length_append]
          show pu.length + 1 <= k + 1
          omega
    · clear W e1 w1 a1 o1 m1 mM mS mP mQ zP
      rintro ⟨k2, w, pu, po, sp, sq⟩ h2 ⟨d1, γ1⟩ ⟨hk2, W⟩
      dsimp only [LS.env] at hk2 W ⊢
      subst hk2
      have e1 := W.d
      have w1 := W.wg
      have a1 := W.a
      have o1 := W.o
      simp only at e1 w1 a1 o1
      have m1 := mem.upd W.u
      have mM := m1.M
      have mS := m1.S
      have mP := m1.P
      have mQ := m1.Q
      have zQ : ¬ blk sq = some q.vQ := fun z => by
        have hz : h.size <= q.vQ := W.b2 _ z
        obtain ⟨_, _, _, hb, _⟩ := hcell_some mem.Q
        have : q.vQ < h.size := lt_of_get hb
        omega
      by_cases h3 : ((k2 : Nat) : Int).tmod 3 = 0
      · (repeat (first | refine EK.seq ?_ | refine EK.region ?_ | refine ER.done ?_ | refine EK.skip ?_ | refine ER.move rfl rfl rfl ?_ | refine ER.cmpF rfl rfl rfl rfl rfl (by first | (dsimp only [cmpP]; omega) | exact rfl | exact Int.le_refl _) ?_ | refine ER.rem (kd := .i64) rfl rfl rfl rfl (by decide) rfl ?_ | refine EK.condF rfl ?_ | refine ER.load1 rfl rfl rfl (by assumption) ?_))
        refine ER.callR rfl rfl rfl rfl rfl (pop_w a1 hi o1 (by omega) hN m1.K) ?_
        rintro v h3' ⟨d2, γ2⟩ ⟨rfl, e2, w2, a2, ⟨rfl, o2⟩ | ⟨u, rfl, w', o2⟩⟩
        · simp only at e2 w2 a2 o2
          (repeat (first | refine EK.seq ?_ | refine EK.region ?_ | refine ER.done ?_ | refine EK.skip ?_ | refine EK.inBlock ?_ | refine ER.move rfl rfl rfl ?_ | refine ER.assign rfl rfl rfl ?_ | refine ER.extract rfl rfl rfl rfl ?_ | refine ER.add (kd := .i64) rfl rfl rfl rfl (i64_in (by omega) (by omega)) ?_ | refine EK.condF rfl ?_))
          refine EK.sub ?_ (again ⟨k2 + 1, w, pu, po, sp, sq⟩ _ _ (by dsimp only; omega) ⟨hlt, W.step (e2.trans e1) (w2.trans w1) a2 (o2.less (by dsimp only; omega)) (Nat.le_refl _) (Nat.le_succ _)⟩)
          exact ⟨rfl, rfl, rfl, rfl, rfl, rfl, trivial⟩
        · simp only at e2 w2 a2 o2
          have hlq := W.lq
          (repeat (first | refine EK.seq ?_ | refine EK.region ?_ | refine ER.done ?_ | refine ER.move rfl rfl rfl ?_ | refine ER.assign rfl rfl rfl ?_ | refine ER.extract rfl rfl rfl rfl ?_ | refine EK.condT rfl ?_))
          refine EK.regionAny (fun h' => hcell h' ⟨q.vQ, 0, none⟩ = some (.slice (some ⟨c.qb, 0, none⟩) (c.n + 1) (c.n + 1))) ?_ (hDu := a2.at.nd)
          have hZ : hcell h3' ⟨q.vQ, 0, none⟩ = some (.slice (some ⟨c.qb, 0, none⟩) (c.n + 1) (c.n + 1)) := mQ
          refine EA.tLoad 0 rfl (by kernel_rfl) rfl rfl rfl rfl (fun _ hz => hz) hZ ?_
          refine EA.tMove 1 rfl (by kernel_rfl) rfl rfl rfl rfl hZ ?_
          refine EA.tLoad 2 rfl (by kernel_rfl) rfl rfl rfl rfl (fun _ hz => hz) hZ ?_
          refine EA.tMove 3 rfl (by kernel_rfl) rfl rfl rfl rfl hZ ?_
          refine EA.tIdxS 4 rfl (by kernel_rfl) rfl rfl rfl rfl rfl (by omega) (by omega) hZ ?_
          refine EA.tMove 6 rfl (by kernel_rfl) rfl rfl rfl rfl hZ ?_
          have hZp : ∀ N, h3'.size <= N -> hcell ((padTo h3' N).push (.cells #[.int .i64 (u)] 2)) ⟨q.vQ, 0, none⟩ = some (.slice (some ⟨c.qb, 0, none⟩) (c.n + 1) (c.n + 1)) := fun N hN => ((Upd.pad (fun _ => False) hN).trans (Upd.push _ _)).hcell hZ fun z => z
          refine EA.both 5 7 (fun vi vj h5 δ5 => vi = sq /\ (∃ N, h3'.size <= N /\ vj = .slice (some ⟨N, 0, none⟩) 1 1 /\ h5 = (padTo h3' N).push (.cells #[.int .i64 (u)] 2)) /\ δ5.d = δ.d /\ δ5.g.wg = δ.g.wg /\ Idle sL i δ5.g /\ OwnS i c none none w' pu (po ++ [u]) (43 * (c.m - k2) - 22 - 21) sp sq δ5.g.y) rfl rfl (by kernel_rfl) rfl rfl (by kernel_rfl) (by kernel_rfl) rfl (by kernel_rfl) rfl rfl rfl rfl rfl rfl (by decide) (fun ρ hρ => ?_) (fun ρ hρ => ?_) ?_
          · refine ⟨fun v h4 δ4 => h4 = h3' /\ δ4.d = δ.d /\ δ4.g.wg = δ.g.wg /\ Idle sL i δ4.g /\ v = sq /\ OwnS i c none none w' pu (po ++ [u]) (43 * (c.m - k2) - 22 - 21) sp sq δ4.g.y, yields_loadA sL_ok (hρ _ _ rfl) a2 fun γ4 hR a4 j4 => ?_, ?_⟩
            · have o4 := o2.rel i0 hR.toRo.lrel
              obtain ⟨f1, f2, f3⟩ := own_q o4 j4 i0 hi
              exact ⟨_, _, _, f1, f2, f3, rfl, (e2.trans e1), hR.wg.trans (w2.trans w1), a4, rfl, o4⟩
            rintro v h4 ⟨d4, γ4⟩ ⟨rfl, e4, w4, a4, rfl, o4⟩
            simp only at e4 w4 a4 o4
            refine ⟨hZ, fun ρ' hρ' => ⟨_, yields_build (e := 2) (sz := 1) (z := .int .i64 0) (cells := #[.int .i64 (u)]) (parts := [(0, .int .i64 (u))]) (fun _ => idle_fin a4) hρ' rfl (by omega) (by omega) rfl rfl, ?_⟩⟩
            rintro v h5 δ5 ⟨rfl, N, hN, rfl, rfl⟩
            exact ⟨hZp N hN, rfl, ⟨N, hN, rfl, rfl⟩, e4, w4, a4, o4⟩
          · refine ⟨_, yields_build (e := 2) (sz := 1) (z := .int .i64 0) (cells := #[.int .i64 (u)]) (parts := [(0, .int .i64 (u))]) (fun _ => idle_fin a2) hρ rfl (by omega) (by omega) rfl rfl, ?_⟩
            rintro v h5 δ5 ⟨rfl, N, hN, rfl, rfl⟩
            refine ⟨hZp N hN, fun ρ' hρ' => ⟨fun v h4 δ4 => h4 = (padTo h3' N).push (.cells #[.int .i64 (u)] 2) /\ δ4.d = δ.d /\ δ4.g.wg = δ.g.wg /\ Idle sL i δ4.g /\ v = sq /\ OwnS i c none none w' pu (po ++ [u]) (43 * (c.m - k2) - 22 - 21) sp sq δ4.g.y, yields_loadA sL_ok (hρ' _ _ rfl) a2 fun γ4 hR a4 j4 => ?_, ?_⟩⟩
            · have o4 := o2.rel i0 hR.toRo.lrel
              obtain ⟨f1, f2, f3⟩ := own_q o4 j4 i0 hi
              exact ⟨_, _, _, f1, f2, f3, rfl, (e2.trans e1), hR.wg.trans (w2.trans w1), a4, rfl, o4⟩
            rintro v h4 ⟨d4, γ4⟩ ⟨rfl, e4, w4, a4, rfl, o4⟩
            exact ⟨hZp N hN, rfl, ⟨N, hN, rfl, rfl⟩, e4, w4, a4, o4⟩
          rintro vi vj h5 ⟨d5, γ5⟩ ⟨evi, ⟨N, hN, rfl, e5h⟩, e5, w5, a5, o5⟩ hZ5
          replace evi := evi.symm
          subst evi
          simp only at e5 w5 a5 o5
          have u5 : Upd (fun _ => False) h3' h5 := by rw [e5h]; exact (Upd.pad _ hN).trans (Upd.push _ _)
          have hro5 : ∀ b, blk sq = some b -> ¬ ((XF TT sL).cf γ5).ro b := fun b hb z => by
            have z' : γ5.y.c.ro b := z.2.1
            rw [o5.cc] at z'
            have := hro b z'
            have := (fun b hb => Nat.le_trans htop (W.b2 b hb) : ∀ b, blk sq = some b -> c.top <= b) b hb
            omega
          refine EA.onlyH 8 rfl (by kernel_rfl) rfl rfl rfl (.inl ⟨_, rfl, rfl⟩) fun ρ hρ => ⟨_, yields_append (e := 2) (sz := 1) (new := [intv (u)]) (fun _ => idle_fin a5) (hρ _ _ rfl) (hρ _ _ rfl) (W.s2.upd u5 fun _ _ z => z) rfl (by rw [e5h]; exact mk_new hN) rfl (by simp [OneCell, intv]) (by omega) (by omega) rfl hro5, ?_⟩
          rintro v h6 δ6 ⟨rfl, x6, u6, b6⟩
          obtain ⟨r1, r2, r3, r4, r5⟩ := app_ok W.u W.s2 W.s1 W.b2 (fun b hb hb' => W.ne b hb' hb) hN e5h x6 u6 b6
          clear hZp hZ hro5
          have hZ := u6.hcell hZ5 zQ
          refine ⟨.inr hZ, ?_⟩
          obtain ⟨va, vcap, rfl⟩ := x6.val
          refine EA.tIdxS 9 rfl (by kernel_rfl) rfl rfl rfl rfl rfl (by omega) (by omega) hZ ?_
          refine EA.onlyH 10 rfl (by kernel_rfl) rfl rfl rfl (.inr rfl) fun ρ hρ => ⟨fun _ h7 δ7 => h7 = h6 /\ δ7.d = δ.d /\ δ7.g.wg = δ.g.wg /\ Idle sL i δ7.g /\ OwnS i c none none w' pu (po ++ [u]) (43 * (c.m - k2) - 22 - 21) sp (.slice va (po.length + 1) vcap) δ7.g.y, yields_storeA sL_ok (hρ _ _ rfl) (hρ _ _ rfl) (by simp [OneCell]) a5 fun γ7 hR a7 j7 => ?_, ?_⟩
          · have o4 := o5.rel i0 hR.toRo.lrel
            have j4 := j7
            obtain ⟨f1, f2, f3⟩ := own_q o4 j4 i0 hi
            exact ⟨_, _, _, f1, f2, f3, mv_q o4 j4 i0 hi _, fun γ8 y8 w8 a8 => ⟨rfl, e5, w8.trans w5, a8, by rw [y8]; exact o4.setQ _⟩⟩
          rintro v h7 ⟨d7, γ7⟩ ⟨rfl, e7, w7, a7, o7⟩
          simp only at e7 w7 a7 o7
          refine ⟨.inr hZ, EA.done (by kernel_rfl) ?_⟩
          clear hZ
          (repeat (first | refine EK.region ?_ | refine ER.done ?_ | refine EK.inBlock ?_ | refine ER.move rfl rfl rfl ?_ | refine ER.assign rfl rfl rfl ?_ | refine ER.add (kd := .i64) rfl rfl rfl rfl (i64_in (by omega) (by omega)) ?_))
          refine EK.sub ?_ (again ⟨k2 + 1, w', pu, po ++ [u], sp, .slice va (po.length + 1) vcap⟩ _ _ (by dsimp only; omega) ⟨hlt, ⟨e7, w7, a7, o7.less (by dsimp only; omega), r1, W.nd, W.rg, W.lp, ?_, r3, r2, W.b1, r4, fun b hb hb' => r5 b hb' hb⟩⟩)
          · exact ⟨rfl, rfl, rfl, rfl, rfl, rfl, trivial⟩
          · rw [List.length_append]
            show po.length + 1 <= k2 + 1
            omega
      · (repeat (first | refine EK.seq ?_ | refine EK.region ?_ | refine ER.done ?_ | refine ER.move rfl rfl rfl ?_ | refine ER.assign rfl rfl rfl ?_ | refine ER.cmpT rfl rfl rfl rfl rfl (by first | (dsimp only [cmpP]; omega) | exact rfl | exact Int.le_refl _) ?_ | refine ER.add (kd := .i64) rfl rfl rfl rfl (i64_in (by omega) (by omega)) ?_ | refine ER.rem (kd := .i64) rfl rfl rfl rfl (by decide) rfl ?_ | refine EK.condT rfl ?_ | refine EK.exit rfl ?_))
        refine EK.sub ?_ (again ⟨k2 + 1, w, pu, po, sp, sq⟩ _ _ (by dsimp only; omega) ⟨hlt, W.step e1 w1 a1 (o1.less (by dsimp only; omega)) (Nat.le_refl _) (Nat.le_succ _)⟩)
        exact ⟨rfl, rfl, rfl, rfl, rfl, rfl, trivial⟩
  · obtain rfl : k = c.m := by omega
    (repeat (first | refine EK.seq ?_ | refine EK.region ?_ | refine ER.done ?_ | refine ER.move rfl rfl rfl ?_ | refine ER.cmpF rfl rfl rfl rfl rfl (by first | (dsimp only [cmpP]; omega) | exact rfl | exact Int.le_refl _) ?_ | refine EK.condF rfl ?_ | refine EK.exit rfl ?_ | refine ER.load1 rfl rfl rfl (by assumption) ?_))
    exact EK.done (EU.ret0 rfl ⟨_, _, _, _, _, _, W⟩)
end
end
section
open Go Go.TJ Go.Proofs
variable [Dm]
structure RowI (h0 : Hp) (E : Mem Nat) (T : Nat) (tT tE : TypeId) (c0 : Array Value) (q : Nat) (h : Hp) (M : Mem Nat) (i : Nat) (s : Value) : Prop where
  rep : Rep h M
  upd : Upd (fun _ => False) h0 h
  above : ∀ k, M.ok k -> h0.size <= M.B k
  top : M.ok 0 /\ M.O 0 = .cells (c0.setIfInBounds q s) tT (0, 0)
  topB : M.B 0 = T
  ext : ∀ k, k = 2 \/ k = 3 -> (M.ok k ↔ E.ok k) /\ M.B k = E.B k /\ M.O k = E.O k
  sl : M.Sl 1 s tE 1 i ((List.range i).map fun j => ptr (M.B (4 + j)))
  cells : ∀ j, j < i -> M.ok (4 + j) /\ M.O (4 + j) = cellO 0
  rest : ∀ j, i <= j -> ¬ M.ok (4 + j)
theorem RowI.step {h0 : Hp} {E : Mem Nat} {T : Nat} {tT tE : TypeId} {c0 : Array Value} {q : Nat} {h : Hp} {M : Mem Nat} {i : Nat} {s s' : Value} {lit : Obj} {h5 : Hp} (x : RowI h0 E T tT tE c0 q h M i s)
    (hs : SliceO h5 s' tE 1 (i + 1) (((List.range i).map fun j => ptr (M.B (4 + j))) ++ [ptr h.size])) (u : Upd (fun b => blk s = some b) ((h.push (cellO 0)).push lit) h5) (hb : ∀ b, blk s' = some b -> blk s = some b \/ b = ((h.push (cellO 0)).push lit).size) :
    (∀ b, blk s = some b -> b ≠ T) /\ h5[T]? = some (.cells (c0.setIfInBounds q s) tT (0, 0)) /\ ∃ M', RowI h0 E T tT tE c0 q (hset h5 ⟨T, q, none⟩ s') M' (i + 1) s' := by
  have r1 := x.rep.put (4 + i) (cellO 0)
  have r2 := r1.upd0 (Upd.push _ lit)
  have sl1 := (x.sl.put (j := 4 + i) (by omega) h.size (cellO 0))
  obtain ⟨b, o, r3, sl3, hb', hlt⟩ := r2.app sl1 hs u hb
  have hTs : ∀ b, blk s = some b -> b ≠ T := fun b hb e => by
    obtain ⟨hk, e'⟩ := x.sl.blk hb
    have := x.rep.inj 1 0 hk x.top.1 (by rw [x.topB, <- e', e])
    cases this
  have t5 : h5[T]? = some (.cells (c0.setIfInBounds q s) tT (0, 0)) := u.get (get_push _ (get_push _ (x.topB ▸ x.rep.get x.top.1 x.top.2))) (fun y => hTs _ y rfl)
  refine ⟨hTs, t5, ?_⟩
  have hsz : h.size <= ((h.push (cellO 0)).push lit).size := by simp; omega
  have hab : h0.size <= b := by
    rcases hb' with ⟨hk, e⟩ | y
    · have hk' : M.ok 1 := by
        rcases hk with y | y
        · omega
        · exact y
      have := x.above 1 hk'
      rw [e]
      show h0.size <= ut M.B (4 + i) h.size 1
      rw [ut_ne _ _ (by omega)]
      exact this
    · have := x.upd.size; omega
  have okT : ((M.put (4 + i) h.size (cellO 0)).put 1 b o).ok 0 := .inr (.inr x.top.1)
  have oT : ((M.put (4 + i) h.size (cellO 0)).put 1 b o).O 0 = .cells (c0.setIfInBounds q s) tT (0, 0) := by
    show ut (ut M.O (4 + i) (cellO 0)) 1 o 0 = _
    rw [ut_ne _ _ (by omega), ut_ne _ _ (by omega)]; exact x.top.2
  have bT : ((M.put (4 + i) h.size (cellO 0)).put 1 b o).B 0 = T := by
    show ut (ut M.B (4 + i) h.size) 1 b 0 = _
    rw [ut_ne _ _ (by omega), ut_ne _ _ (by omega)]; exact x.topB
  have r4 := r3.hset okT oT q s'
  rw [bT] at r4
  have hge : ∀ b, blk s = some b -> h0.size <= b := fun b hb => by
    obtain ⟨hk, e⟩ := x.sl.blk hb
    rw [e]; exact x.above _ hk
  have hT : h0.size <= T := x.topB ▸ x.above 0 x.top.1
  have e1 : (List.range (i + 1)).map (fun j => ptr (((M.put (4 + i) h.size (cellO 0)).put 1 b o).B (4 + j))) = ((List.range i).map fun j => ptr (M.B (4 + j))) ++ [ptr h.size] := by
    rw [List.range_succ, List.map_append]
    congr 1
    · refine List.map_congr_left fun j hj => ?_
      have hj := List.mem_range.mp hj
      show ptr (ut (ut M.B (4 + i) h.size) 1 b (4 + j)) = _
      rw [ut_ne _ _ (by omega), ut_ne _ _ (by omega)]
    · show [ptr (ut (ut M.B (4 + i) h.size) 1 b (4 + i))] = _
      rw [ut_ne _ _ (by omega), ut_same]
  refine ⟨_, r4, ((x.upd.trans ((Upd.push _ _).trans (Upd.push _ _))).over u hge).over (Upd.hset (T := fun b => b = T) _ _ _ rfl) (fun b hb => by omega), fun k hk => ?_, ⟨okT, ?_⟩, bT, fun k hk => ?_, ?_, fun j hj => ?_, fun j hj => ?_⟩
  · show h0.size <= ut (ut M.B (4 + i) h.size) 1 b k
    by_cases k1 : k = 1
    · subst k1; rw [ut_same]; exact hab
    · by_cases k2 : k = 4 + i
      · subst k2; rw [ut_ne _ _ k1, ut_same]; exact x.upd.size
      · rw [ut_ne _ _ k1, ut_ne _ _ k2]
        rcases hk with y | y | y
        · exact absurd y k1
        · exact absurd y k2
        · exact x.above k y
  · rw [Array.setIfInBounds_setIfInBounds]
    simp [Mem.set, ut]
  · have k0 : k ≠ 0 := by omega
    have k1 : k ≠ 1 := by omega
    have k2 : k ≠ 4 + i := by omega
    obtain ⟨a, b, c⟩ := x.ext k hk
    refine ⟨⟨fun y => a.1 ?_, fun y => .inr (.inr (a.2 y))⟩, ?_, ?_⟩
    · rcases y with y | y | y
      · exact absurd y k1
      · exact absurd y k2
      · exact y
    · show ut (ut M.B (4 + i) _) 1 _ k = _
      rw [ut_ne _ _ k1, ut_ne _ _ k2]; exact b
    · show ut (ut (ut M.O (4 + i) (cellO 0)) 1 o) 0 _ k = _
      rw [ut_ne _ _ k0, ut_ne _ _ k1, ut_ne _ _ k2]; exact c
  · show (Mem.set _ 0 _).Sl 1 s' tE 1 (i + 1) ((List.range (i + 1)).map (fun j => ptr (((M.put (4 + i) h.size (cellO 0)).put 1 b o).B (4 + j))))
    rw [e1]
    exact sl3.set (by omega) _
  · refine ⟨?_, ?_⟩
    · by_cases hji : j = i
      · subst hji; exact .inr (.inl rfl)
      · exact .inr (.inr (x.cells j (by omega)).1)
    · show ut (ut (ut M.O (4 + i) (cellO 0)) 1 o) 0 _ (4 + j) = _
      rw [ut_ne _ _ (by omega), ut_ne _ _ (by omega)]
      by_cases hji : j = i
      · subst hji; rw [ut_same]
      · rw [ut_ne _ _ (by omega)]; exact (x.cells j (by omega)).2
  · rintro (y | y | y)
    · omega
    · omega
    · exact x.rest j (by omega) y
theorem RowI.reads {h0 : Hp} {E : Mem Nat} {T : Nat} {tT tE : TypeId} {c0 : Array Value} {q : Nat} {h : Hp} {M : Mem Nat} {i : Nat} {s : Value} (x : RowI h0 E T tT tE c0 q h M i s) (hq : q < c0.size) : hcell h ⟨T, q, none⟩ = some s :=
  hcell_of (x.topB ▸ x.rep.get x.top.1 x.top.2) (by simp [hq])
end
section
open Go Go.TJ Go.Proofs
variable [Dm]
variable {Y : Type} {L : Law Y}
theorem freed_mu {γ : Gf Y} {H : Hp} (hI : InvF TT L γ H) (hd : AllDn γ) {b : Nat} (hb : b ∈ L.cls γ.y) : H[b]? = some (cellO (L.val γ.y b)) := by
  have hc : ∀ j, j < γ.num -> (γ.ph j).c = 0 := fun j hj => Classical.byContradiction fun h => by
    obtain ⟨j0, _, hw⟩ := hI.j.wh j hj h
    have := (hd j j0 hj).1
    omega
  have hz : ∀ x, x ≠ 0 -> ct γ.ph γ.num b x = 0 := fun x hx => ct_zero fun j hj _ e => hx (by rw [<- e, hc j hj])
  obtain ⟨i1, i2, i3, i4, i5, i6, i7⟩ := hI.j.mi b hb
  rw [hz 6 (by omega)] at i4
  rw [hz 9 (by omega), hz 5 (by omega), hz 3 (by omega), hz 8 (by omega), hz 2 (by omega), hz 4 (by omega)] at i5
  rw [hz 2 (by omega), hz 8 (by omega), hz 3 (by omega), hz 4 (by omega), hz 5 (by omega), hz 9 (by omega)] at i6
  have hc := hI.cell b hb
  generalize γ.mu b = m at i1 i2 i3 i4 i5 i6 i7 hc
  obtain ⟨mb, mk, ms, mn, mz⟩ := m
  simp only at i1 i2 i3 i4 i5 i6
  obtain ⟨rfl, rfl, rfl, rfl, rfl⟩ : mb = 0 /\ mk = 0 /\ ms = 0 /\ mn = 0 /\ mz = 0 := by omega
  exact hc
theorem sl_ne {h : Hp} {s : Value} {e sz n : Nat} {cells : List Value} (x : SliceO h s e sz n cells) {R : Nat} {c : Array Value} {e' : TypeId} {f : Nat × Nat} (hR : h[R]? = some (.cells c e' f)) (hne : e ≠ e') : ¬ blk s = some R := by
  intro hb
  obtain ⟨_, ⟨rfl, _⟩ | ⟨b', cap, rest, rfl, h1, h2, h3⟩⟩ := x
  · cases hb
  · cases hb
    rw [h3] at hR
    injection hR with hR
    injection hR with _ hR _
    exact hne hR
end
section
open Go Go.TJ Go.Proofs
variable [Dm]
section
variable {Y : Type} {L : Law Y}
theorem freed_out2 {y₀ : Y} {h h' : Hp} {n : Nat} {γ' : Gf Y} (x : Freed L y₀ h n h' γ') (hW : h.size + 2 ∉ L.cls y₀ /\ L.arrT y₀ (h.size + 2) = none) {tF : TypeId} (hF : L.arrT y₀ h.size = some tF) :
    ∃ y₁, LRel L 0 y₀ y₁ /\ L.J y₁ /\ (∀ j, 0 < j -> j <= n -> ∃ hf, L.fin y₁ j hf /\ ∀ b o v, h.size + 3 <= b -> hcell hf ⟨b, o, none⟩ = some v -> hcell h' ⟨b, o, none⟩ = some v) /\ (∀ b o, h[b]? = some o -> o ≠ dum -> b ∉ L.cls y₀ -> L.arrT y₀ b = none -> h'[b]? = some o) /\ (∀ b, b ∈ L.cls y₀ -> h'[b]? = some (cellO (L.val y₁ b))) /\ (∀ b t, L.arrT y₀ b = some t -> h'[b]? = some (.cells (L.arr y₁ b) t (0, 0))) /\ h.size < h'.size := by
  obtain ⟨γ₁, H, h1, h2, h3, h4, h5, h6, rfl⟩ := x.out
  have hlt : ∀ b o, h[b]? = some o -> b < h.size := fun b o hb => (Array.getElem?_eq_some_iff.1 hb).1
  have harr : ∀ b t, L.arrT y₀ b = some t -> (H.setIfInBounds (h.size + 2) dum)[b]? = some (.cells (L.arr γ₁.y b) t (0, 0)) := fun b t hb => by
    rw [Array.getElem?_setIfInBounds_ne (fun e => by rw [<- e, hW.2] at hb; cases hb)]
    rw [<- h1.stat.arrT] at hb
    exact h4.arr b t hb
  refine ⟨γ₁.y, h1, h4.j.law, fun j j0 hj => ?_, fun b o hb hd hc ha => ?_, fun b hb => ?_, harr, (Array.getElem?_eq_some_iff.1 (harr _ _ hF)).1⟩
  · obtain ⟨_, hs⟩ := h3 j j0 (by omega)
    obtain ⟨hf, hf'⟩ := Option.isSome_iff_exists.1 hs
    refine ⟨hf, h4.j.fin j hf j0 (by omega) hf', fun b o v hb hv => ?_⟩
    obtain ⟨c, e, f, g1, g2, g3⟩ := hcell_some hv
    refine hcell_of (e := e) (f := f) ?_ g3
    rw [Array.getElem?_setIfInBounds_ne (by show h.size + 2 ≠ b; omega)]
    exact (h6 j hf j0 hf').get b _ g1 (ne_dum g3)
  · have := hlt b o hb
    rw [Array.getElem?_setIfInBounds_ne (by omega)]
    exact h5 b o (frH_old hb) hd hc ha (by omega)
  · rw [Array.getElem?_setIfInBounds_ne (fun e => by subst e; exact hW.1 hb)]
    have hb' : b ∈ L.cls γ₁.y := by rw [h1.stat.cls]; exact hb
    exact freed_mu h4 h3 hb'
theorem hcell_same {h h' : Hp} {b o : Nat} (e : h'[b]? = h[b]?) : hcell h' ⟨b, o, none⟩ = hcell h ⟨b, o, none⟩ := by
  unfold hcell
  simp only [e]
theorem rd_of {h : Hp} {v : Value} {l : List Int} {top : Nat} (x : SliceO h v 2 1 l.length (l.map intv)) (b1 : ∀ b, blk v = some b -> top <= b) : Rd top h v l := by
  obtain ⟨a, cap, rfl⟩ := x.val
  refine ⟨a, cap, rfl, fun i z hz => ?_⟩
  have hl : i < l.length := by
    rcases Nat.lt_or_ge i l.length with y | y
    · exact y
    · rw [List.getElem?_eq_none y] at hz; cases hz
  obtain ⟨b, cap', e, h1, _⟩ := x.cell (by omega)
  injection e with e1 e2 e3
  subst e1
  exact ⟨b, rfl, b1 b rfl, h1 i _ (by rw [List.getElem?_map, hz]; rfl)⟩
theorem Rd.mono {h h' : Hp} {v : Value} {l : List Int} {top top' : Nat} (x : Rd top h v l) (ht : top' <= top) (hm : ∀ b o v, top <= b -> hcell h ⟨b, o, none⟩ = some v -> hcell h' ⟨b, o, none⟩ = some v) : Rd top' h' v l := by
  obtain ⟨a, cap, rfl, g⟩ := x
  refine ⟨a, cap, rfl, fun i z hz => ?_⟩
  obtain ⟨b, e, h1, h2⟩ := g i z hz
  exact ⟨b, e, Nat.le_trans ht h1, hm _ _ _ h1 h2⟩
end
def Kw.caps (q : Kw) : Array Value := #[.pointer (some ⟨q.vM, 0, none⟩), .pointer (some ⟨q.vS, 0, none⟩), .pointer (some ⟨q.vP, 0, none⟩), .pointer (some ⟨q.vQ, 0, none⟩)]
structure KWro (c : Sc) (q : Kw) : Prop where
  M : c.ro q.vM
  S : c.ro q.vS
  P : c.ro q.vP
  Q : c.ro q.vQ
  s : c.ro q.sb
  i : c.ro q.ib
theorem KW.move {c : Sc} {q : Kw} {h h' : Hp} (m : KW c q h) (r : KWro c q) (hm : ∀ b o v, c.ro b -> hcell h ⟨b, o, none⟩ = some v -> hcell h' ⟨b, o, none⟩ = some v) : KW c q h' where
  M := hm _ _ _ r.M m.M
  S := hm _ _ _ r.S m.S
  P := hm _ _ _ r.P m.P
  Q := hm _ _ _ r.Q m.Q
  K := ⟨hm _ _ _ r.s m.K.l, hm _ _ _ r.s m.K.f, hm _ _ _ r.s m.K.s, fun k hk => ⟨hm _ _ _ r.i (m.K.n k hk).1, hm _ _ _ r.i (m.K.n k hk).2⟩⟩
theorem sarr_f {y : Sy} (hJ : Sj y) {w : Nat} (hw : w < y.c.n) : sL.arrT y y.c.fb = some y.c.tB /\ sL.arr y y.c.fb = Array.replicate y.c.n (.bool false) /\ (sL.arr y y.c.fb)[w]? = some (.bool false) := by
  have e : y.c.fb ≠ y.c.pb := fun z => hJ.ad.2.1 z.symm
  have e2 : y.c.fb ≠ y.c.qb := fun z => hJ.ad.2.2 z.symm
  have e3 : sL.arr y y.c.fb = Array.replicate y.c.n (.bool false) := by
    show (if y.c.fb = y.c.pb then _ else if y.c.fb = y.c.qb then _ else _ : Array Value) = _
    rw [if_neg e, if_neg e2]
  refine ⟨by show (if y.c.fb = y.c.pb then some y.c.tS else if y.c.fb = y.c.qb then some y.c.tS else if y.c.fb = y.c.fb then some y.c.tB else none) = _; rw [if_neg e, if_neg e2, if_pos rfl], e3, by rw [e3, Array.getElem?_replicate, if_pos hw]⟩
theorem sfall_move {y : Sy} {i : Nat} (hJ : Sj y) (hi0 : 0 < i) (hi : i <= y.c.n) : AMove sL i y.c.fb (i - 1) (.bool false) y y := by
  refine ⟨Stt.refl _ _, fun j _ => sL_ok.refl _ _, Nat.le_refl _, rfl, fun _ _ => rfl, ?_, hJ, fun _ _ _ h => h⟩
  rw [(sarr_f hJ (w := i - 1) (by omega)).2.1]
  apply Array.ext_getElem?
  intro x
  rw [Array.getElem?_setIfInBounds]
  by_cases e : i - 1 = x
  · subst e; rw [if_pos rfl, Array.getElem?_replicate]; simp
  · rw [if_neg e]
set_option maxHeartbeats 4000000 in
theorem sbody_ok {h : Hp} {c : Sc} {q : Kw} {y₀ : Sy} {fB : Nat} {ib : Nat -> Nat} (hc : y₀.c = c) (hn : c.n <= 8) (hm100 : c.m <= 100) (hN : c.N <= 60000) (m : KW c q h) (r : KWro c q) (hfb : c.fb = h.size) (htop : c.top = h.size + 3) (hrt : ∀ b, c.ro b -> b < c.top)
    (hF : hcell h ⟨fB, 0, none⟩ = some (.func (.func 12) #[] q.caps)) (hFr : c.ro fB) (hI : ∀ k, k < c.n -> hcell h ⟨ib k, 0, none⟩ = some (.int .i64 k) /\ c.ro (ib k))
    (ho : ∀ k, k < c.n -> OwnS (k + 1) c none none 0 [] [] (43 * c.m) (.slice none 0 0) (.slice none 0 0) y₀) :
    BodyOk sL y₀ h c.n (fun _ => 58) (fun k => #[.pointer (some ⟨fB, 0, none⟩), .pointer (some ⟨ib k, 0, none⟩)]) := by
  intro k hk h' γ₂ ti hti0 hti hro hrel hJ hA hwg
  have hm : ∀ b o v, c.ro b -> hcell h ⟨b, o, none⟩ = some v -> hcell h' ⟨b, o, none⟩ = some v := fun b o v hb hv => by
    obtain ⟨cs, e, f, h1, h3, h4⟩ := hcell_some hv
    exact hcell_of (hro b _ (by show y₀.c.ro b; rw [hc]; exact hb) (frH_old h1)) h4
  have m' := m.move r hm
  have oo := (ho k hk).rel (Nat.succ_pos k) hrel
  have kF := hm _ _ _ hFr hF
  have kI := hm _ _ _ (hI k hk).2 (hI k hk).1
  have hsz : ti < h'.size := by
    obtain ⟨_, _, _, h1, _⟩ := hcell_some hti
    exact lt_of_get h1
  clear hro hm
  refine CallW.start (n := 7) rfl rfl ?_
  (repeat (first | refine EK.seq ?_ | refine EK.region ?_ | refine ER.done ?_ | refine EK.skip ?_ | refine EK.block ?_ | refine EK.inBlock ?_ | refine ER.move rfl rfl rfl ?_ | refine ER.assign rfl rfl rfl ?_ | refine ER.nilCheck rfl rfl rfl ?_ | refine ER.fieldAddr rfl rfl rfl ?_ | refine ER.load1 rfl rfl rfl (hcell_of (by assumption) rfl) ?_ | refine ER.no rfl rfl ?_ | refine ER.noU rfl ?_ | refine ER.eqV rfl rfl rfl rfl rfl ?_ | refine ER.neqV rfl rfl rfl rfl rfl ?_ | refine ER.eqA rfl rfl rfl rfl rfl ?_ | refine ER.neqA rfl rfl rfl rfl rfl ?_ | refine ER.notB rfl rfl rfl ?_ | refine ER.pickT rfl rfl rfl rfl ?_ | refine ER.pickF rfl rfl rfl rfl ?_ | refine ER.extract rfl rfl rfl rfl ?_ | refine ER.cmpT rfl rfl rfl rfl rfl (by first | (dsimp only [cmpP]; omega) | exact rfl | exact Int.le_refl _) ?_ | refine ER.cmpF rfl rfl rfl rfl rfl (by first | (dsimp only [cmpP]; omega) | exact rfl | exact Int.le_refl _) ?_ | refine ER.boxA rfl rfl rfl ?_ | refine ER.box rfl rfl rfl ?_ | refine ER.allocA rfl rfl ?_ | refine ER.alloc rfl rfl ?_ | refine ER.add (kd := .i64) rfl rfl rfl rfl (i64_in (by omega) (by omega)) ?_ | refine ER.sub' (kd := .i64) rfl rfl rfl rfl (i64_in (by omega) (by omega)) ?_ | refine ER.mul (kd := .i64) rfl rfl rfl rfl (i64_in (by omega) (by omega)) ?_ | refine ER.rem (kd := .i64) rfl rfl rfl rfl (by decide) rfl ?_ | refine ER.indexArr rfl rfl rfl rfl (by omega) (by omega) ?_ | refine ER.len1 rfl rfl rfl ?_ | refine ER.indexSl rfl rfl rfl rfl (by omega) (by omega) ?_ | refine EK.condT rfl ?_ | refine EK.condF rfl ?_ | refine EK.ret ?_ | refine EK.exit rfl ?_ | refine ER.load1 rfl rfl rfl (by assumption) ?_ | refine EK.scope ?_ | refine EK.inScope ?_ | refine EK.label ?_))
  refine ER.callR rfl rfl rfl rfl rfl (sworker_ok (δ := ⟨0, γ₂⟩) (i := k + 1) hA hk hn hm100 hN m' (by omega) hrt oo) ?_
  rintro v h2 ⟨d2, γ⟩ ⟨w, pu, po, bd, sp, sq, W⟩
  have e2 := W.d
  have w2 := W.wg
  have a2 := W.a
  have o2 := W.o
  simp only at e2 w2 a2 o2
  refine ER.done (EK.done (EU.ret0 rfl ⟨e2, w2.trans hwg, a2, hcell_same (W.u.same _ (by omega) fun z => z), hcell_same (W.u.same _ (by omega) fun z => z), fun y₁ q1 j1 => ?_⟩))
  have o3 := o2.rel (Nat.succ_pos k) q1
  have f3 := sarr_f j1 (w := k) (by rw [o3.cc]; exact hk)
  have f4 := sfall_move (i := k + 1) j1 (Nat.succ_pos k) (by rw [o3.cc]; exact hk)
  rw [o3.cc, hfb] at f3 f4
  refine ⟨_, _, y₁, f3.1, f3.2.2, ⟨.inr (.inr (by rw [o3.cc, hfb])), Nat.succ_pos k, rfl⟩, f4, fun y₃ q3 j3 => ?_⟩
  have o4 := o3.rel (Nat.succ_pos k) q3
  have hb : c.top <= h'.size := by omega
  refine fun _ => ⟨o4.hn, by rw [o4.pu]; exact W.nd, fun z hz => ?_, ?_, ?_⟩
  · rw [o4.pu] at hz
    rw [o4.cc]
    exact W.rg z hz
  · rw [o4.sp, o4.pu, o4.cc]
    exact rd_of W.s1 fun b hb' => Nat.le_trans hb (W.b1 b hb')
  · rw [o4.sq, o4.po, o4.cc]
    exact rd_of W.s2 fun b hb' => Nat.le_trans hb (W.b2 b hb')
end
section
open Go Go.TJ Go.Proofs
variable [Dm]
variable {Y : Type} {L : Law Y}
set_option maxHeartbeats 8000000 in
theorem all08_ok {n : Nat} {fb : FuncId} {caps : Array Value} {h : Hp} {γ₀ : Gf Y} {R : Value -> Hp -> Ix (Gf Y) -> Prop} (hst : γ₀.st = 0) (hnum : γ₀.num = 1) (hn0 : 0 < n) (hn : n <= 64)
    (hgo : ∀ (h' : Hp) (B cap fB : Nat) (ib : Nat -> Nat), Upd (fun _ => False) h h' -> h.size <= fB -> h'[fB]? = some (.cells #[.func (.func fb) #[] caps] 34 (0, 0)) -> (∀ k, k < n -> h.size <= ib k /\ h'[ib k]? = some (.cells #[.int .i64 k] 3 (0, 0))) -> h.size <= B -> (∀ k, k < n -> hcell h' ⟨B, k, none⟩ = some (.func (.func 58) #[] #[.pointer (some ⟨fB, 0, none⟩), .pointer (some ⟨ib k, 0, none⟩)])) ->
      CallW Try.prog true (SitM Try.prog (XF TT L)) 49 #[.slice (some ⟨B, 0, none⟩) n cap] h' ⟨0, γ₀⟩ (Ret R)) :
    CallW Try.prog true (SitM Try.prog (XF TT L)) 11 #[.int .i64 n, .func (.func fb) #[] caps] h ⟨0, γ₀⟩ (Ret fun _ h' δ' => ∃ v, R v h' δ') := by
  have hlo : (SitM Try.prog (XF TT L)).lone γ₀ := ⟨by omega, fun j j0 hj => by have hj' : j < γ₀.num := hj; omega⟩
  have hsl : ∀ a, ¬ (SitM Try.prog (XF TT L)).still γ₀ a := fun a z => by have : γ₀.st = 1 := z.1; omega
  refine CallW.start (n := 18) rfl rfl ?_
  (repeat (first | refine EK.seq ?_ | refine EK.region ?_ | refine ER.done ?_ | refine ER.assign rfl rfl rfl ?_ | refine ER.box rfl rfl rfl ?_ | refine ER.alloc rfl rfl ?_))
  obtain ⟨u1, s1, k0, k1⟩ := push2 h (.cells #[.func (.func fb) #[] caps] 34 (0, 0)) (.cells #[.int .i64 0] 3 (0, 0))
  refine ER.storeNew rfl rfl rfl rfl (by simp [OneCell]) (hsl _) ?_
  (repeat (first | refine ER.done ?_ | refine EK.block ?_))
  refine EK.gen (fun h2 => Upd (fun _ => False) h h2 /\ h2[h.size]? = some (.cells #[.func (.func fb) #[] caps] 34 (0, 0)) /\ h2[h.size + 1]? = some (.cells #[.int .i64 0] 3 (0, 0))) ⟨u1, k0, k1⟩ ?_
  rintro h2 ⟨u1, k0, k1⟩
  clear s1
  have hszp : (h.push (.cells #[.func (.func fb) #[] caps] 34 (0, 0))).size = h.size + 1 := by simp
  refine EK.loopInv (fun s : Nat × Value × Nat × (Nat -> Nat) => [(4, s.2.1), (5, .pointer (some ⟨s.2.2.1, 0, none⟩)), (3, .pointer (some ⟨h.size, 0, none⟩)), (0, .int .i64 n)])
    (fun s h' δ' => δ' = ⟨0, γ₀⟩ /\ s.1 <= n /\ Upd (fun _ => False) h h' /\ h'[h.size]? = some (.cells #[.func (.func fb) #[] caps] 34 (0, 0)) /\ h.size <= s.2.2.1 /\ h'[s.2.2.1]? = some (.cells #[.int .i64 s.1] 3 (0, 0)) /\
      SliceO h' s.2.1 76 1 s.1 ((List.range s.1).map fun k => .func (.func 58) #[] #[.pointer (some ⟨h.size, 0, none⟩), .pointer (some ⟨s.2.2.2 k, 0, none⟩)]) /\ (∀ b, blk s.2.1 = some b -> h.size <= b) /\
      ∀ k, k < s.1 -> h.size <= s.2.2.2 k /\ s.2.2.2 k ≠ s.2.2.1 /\ h'[s.2.2.2 k]? = some (.cells #[.int .i64 k] 3 (0, 0)))
    (fun s => n - s.1) (0, .slice none 0 0, h.size + 1, fun _ => 0) ⟨rfl, congrArg (fun z => some (Value.pointer (some ⟨z, 0, none⟩))) hszp, rfl, rfl, trivial⟩ ⟨rfl, Nat.zero_le _, u1, k0, by dsimp only; omega, k1, SliceO.nil, fun b hb => by (cases hb), fun k hk => absurd hk (Nat.not_lt_zero _)⟩ ?_
  clear u1 k0 k1 h2 hszp
  rintro ⟨k, s, cb, ib⟩ h2 δ2 ⟨rfl, hk, u2, kF, hcb, kc, sl, hab, hib⟩ again
  dsimp only at hk u2 kF hcb kc sl hab hib again ⊢
  rcases Nat.lt_or_ge k n with hlt | hge
  · (repeat (first | refine EK.seq ?_ | refine EK.region ?_ | refine ER.done ?_ | refine EK.skip ?_ | refine EK.block ?_ | refine ER.move rfl rfl rfl ?_ | refine ER.load1 rfl rfl rfl (hcell_of (by assumption) rfl) ?_ | refine ER.cmpT rfl rfl rfl rfl rfl (by first | (dsimp only [cmpP]; omega) | exact rfl | exact Int.le_refl _) ?_ | refine EK.condT rfl ?_))
    refine ER.makeF rfl rfl rfl rfl rfl rfl ?_
    refine ER.slice1 (sz := 1) (z := .nilFunc) (cells := #[.func (.func 58) #[] #[.pointer (some ⟨h.size, 0, none⟩), .pointer (some ⟨cb, 0, none⟩)]]) rfl rfl rfl (by omega) (by omega) rfl rfl ?_
    refine ER.append1 (new := [.func (.func 58) #[] #[.pointer (some ⟨h.size, 0, none⟩), .pointer (some ⟨cb, 0, none⟩)]]) rfl rfl rfl rfl (sl.upd (Upd.push (T := fun _ => False) h2 _) (fun _ _ x => x)) (get_push_new _ _) rfl (by simp [OneCell]) (by omega) (by omega) (by rfl) (fun b o hb => hsl _) ?_
    intro s' h5 sl5 u5 hb5
    have up := Upd.push (T := fun _ => False) h2 (.cells #[.func (.func 58) #[] #[.pointer (some ⟨h.size, 0, none⟩), .pointer (some ⟨cb, 0, none⟩)]] 76)
    have hs0 := u2.size
    have ha5 : ∀ b, blk s' = some b -> h.size <= b := fun b hb => by
      rcases hb5 b hb with z | z
      · exact hab b z
      · rw [z, Array.size_push]; omega
    have hsz5 : h2.size + 1 <= h5.size := by have := u5.size; rwa [Array.size_push] at this
    have uu : Upd (fun _ => False) h h5 := (u2.trans up).over u5 hab
    have mv : ∀ (x : Nat) (t : TypeId) (v : Value), h2[x]? = some (.cells #[v] t (0, 0)) -> 76 ≠ t -> h5[x]? = some (.cells #[v] t (0, 0)) := fun x t v hx ht => u5.get (up.get hx fun z => z) (sl_ne sl hx ht)
    have kF5 := mv _ _ _ kF (by decide)
    have kc5 := mv _ _ _ kc (by decide)
    have hib5 : ∀ j, j < k -> h.size <= ib j /\ ib j ≠ cb /\ ib j < h2.size /\ h5[ib j]? = some (.cells #[.int .i64 j] 3 (0, 0)) := fun j hj => ⟨(hib j hj).1, (hib j hj).2.1, (Array.getElem?_eq_some_iff.1 (hib j hj).2.2).1, mv _ _ _ (hib j hj).2.2 (by decide)⟩
    have hcb2 : cb < h2.size := (Array.getElem?_eq_some_iff.1 kc).1
    have hF2 : h.size < h2.size := (Array.getElem?_eq_some_iff.1 kF).1
    clear mv up u5 hb5 hib kF kc sl hab u2
    (repeat (first | refine EK.seq ?_ | refine EK.region ?_ | refine ER.done ?_ | refine EK.inBlock ?_ | refine ER.assign rfl rfl rfl ?_ | refine ER.load1 rfl rfl rfl (hcell_of (by assumption) rfl) ?_ | refine ER.alloc rfl rfl ?_))
    refine ER.storeNew rfl rfl rfl rfl (by simp [OneCell]) (hsl _) ?_
    refine ER.gen (fun h6 => Upd (fun _ => False) h5 h6 /\ h6[h5.size]? = some (.cells #[.int .i64 k] 3 (0, 0))) ⟨Upd.push _ _, get_push_new _ _⟩ ?_
    rintro h6 ⟨u6, n6⟩
    (repeat (first | refine EK.region ?_ | refine ER.done ?_ | refine ER.load1 rfl rfl rfl (hcell_of (by assumption) rfl) ?_ | refine ER.add (kd := .i64) rfl rfl rfl rfl (i64_in (by omega) (by omega)) ?_))
    refine ER.store1 rfl rfl rfl (by simp [OneCell]) ⟨_, hcell_of n6 rfl⟩ (hfroz_of n6) (hsl _) ?_
    have n7 : (hset h6 ⟨h5.size, 0, none⟩ (.int .i64 ((k : Int) + 1)))[h5.size]? = some (.cells #[.int .i64 ((k : Int) + 1)] 3 (0, 0)) := by rw [hset_get, if_pos rfl, n6]; rfl
    have u7 : Upd (fun b => b = h5.size) h6 (hset h6 ⟨h5.size, 0, none⟩ (.int .i64 ((k : Int) + 1))) := Upd.hset _ _ _ rfl
    generalize hset h6 ⟨h5.size, 0, none⟩ (.int .i64 ((k : Int) + 1)) = h7 at n7 u7 ⊢
    have mv : ∀ (x : Nat) (o : Obj), x < h5.size -> h5[x]? = some o -> h7[x]? = some o := fun x o hx ho => u7.get (u6.get ho fun z => z) (by omega)
    (repeat refine ER.done ?_)
    refine EK.back (again (k + 1, s', h5.size, fun j => if j = k then cb else ib j) _ _ (by dsimp only; omega) ⟨rfl, hlt, (uu.trans u6).over u7 (fun b hb => by omega), mv _ _ (by omega) kF5, by dsimp only; omega, n7, ?_, ha5, fun j hj => ?_⟩) ⟨rfl, rfl, rfl, rfl, trivial⟩
    · have := (sl5.upd u6 (fun _ _ z => z)).upd u7 fun b hb => by have := sl5.lt hb; omega
      dsimp only
      rw [List.range_succ, List.map_append, List.map_singleton, if_pos rfl]
      have e : ((List.range k).map fun j => Value.func (.func 58) #[] #[.pointer (some ⟨h.size, 0, none⟩), .pointer (some ⟨if j = k then cb else ib j, 0, none⟩)]) = ((List.range k).map fun j => Value.func (.func 58) #[] #[.pointer (some ⟨h.size, 0, none⟩), .pointer (some ⟨ib j, 0, none⟩)]) := List.map_congr_left fun j hj => by
        have := List.mem_range.1 hj
        rw [if_neg (by omega)]
      rw [e]
      exact this
    · dsimp only
      by_cases e : j = k
      · subst e
        rw [if_pos rfl]
        exact ⟨hcb, by omega, mv _ _ (by omega) kc5⟩
      · rw [if_neg e]
        obtain ⟨i1, i2, i3, i4⟩ := hib5 j (by dsimp only at hj; omega)
        exact ⟨i1, by omega, mv _ _ (by omega) i4⟩
  · obtain rfl : k = n := by omega
    clear again
    obtain ⟨hl, ⟨_, hz⟩ | ⟨B, cap, rest, rfl, c1, c2, c3⟩⟩ := sl
    · omega
    (repeat (first | refine EK.seq ?_ | refine EK.region ?_ | refine ER.done ?_ | refine ER.move rfl rfl rfl ?_ | refine ER.load1 rfl rfl rfl (hcell_of (by assumption) rfl) ?_ | refine ER.cmpF rfl rfl rfl rfl rfl (by first | (dsimp only [cmpP]; omega) | exact rfl | exact Int.le_refl _) ?_ | refine EK.condF rfl ?_ | refine EK.exit rfl ?_))
    refine ER.callR rfl rfl rfl rfl rfl (hgo h2 B cap h.size ib u2 (Nat.le_refl _) kF (fun j hj => ⟨(hib j hj).1, (hib j hj).2.2⟩) (hab B rfl) fun j hj => hcell_of c3 ?_) ?_
    · rw [List.getElem?_toArray, List.getElem?_append_left (by rw [hl]; omega), List.getElem?_map, List.getElem?_range hj]
      rfl
    · intro v h' δ' hr
      refine ER.done (EK.done (EU.ret0 rfl ⟨v, hr⟩))
end
section
open Go Go.TJ Go.Proofs
variable [Dm]
structure Kq where
  vA : Nat
  vN : Nat
  vC : Nat
  vP : Nat
  vR : Nat
  vT : Nat
  vH : Nat
  cb : Nat
  sb : Nat
  S : Nat
  cap : Nat
  B : Nat -> Nat
  pk : Nat
  tb : Nat
  aS : Option Addr
  kA : Nat
structure Km (c : Cc) (q : Kq) (h : Hp) : Prop where
  A : hcell h ⟨q.vA, 0, none⟩ = some (.slice q.aS c.adds.length q.kA)
  Ai : ∀ k, k < c.adds.length -> ∃ b o, q.aS = some ⟨b, o, none⟩ /\ hcell h ⟨b, o + k * 1, none⟩ = some (.int .i64 (c.adds.getD k 0))
  N : hcell h ⟨q.vN, 0, none⟩ = some (.int .i64 c.n)
  C : hcell h ⟨q.vC, 0, none⟩ = some (.pointer (some ⟨q.cb, 0, none⟩))
  Cb : hcell h ⟨q.cb, 0, none⟩ = some (.slice (some ⟨q.sb, 0, none⟩) q.S q.cap)
  Cs : ∀ j, j < q.S -> hcell h ⟨q.sb, j, none⟩ = some (.pointer (some ⟨q.B j, 0, none⟩)) /\ q.B j ∈ c.sl
  S0 : 0 < q.S
  S1 : q.S <= 1000
  P : hcell h ⟨q.vP, 0, none⟩ = some (.pointer (some ⟨q.pk, 0, none⟩))
  Pk : hcell h ⟨q.pk, 0, none⟩ = some (.pointer (some ⟨c.pb, 0, none⟩))
  R : hcell h ⟨q.vR, 0, none⟩ = some (.slice (some ⟨c.rb, 0, none⟩) c.n c.n)
  T : hcell h ⟨q.vT, 0, none⟩ = some (.pointer (some ⟨q.tb, 0, none⟩))
  T0 : hcell h ⟨q.tb, 0, none⟩ = some (.int .i64 c.tk)
  T1 : hcell h ⟨q.tb, 1, none⟩ = some (.pointer (some ⟨c.lb, 0, none⟩))
  H : hcell h ⟨q.vH, 0, none⟩ = some (.slice (some ⟨c.hb, 0, none⟩) c.n c.n)
section
variable {i : Nat} {c : Cc} {fa fr fa' fr' : Nat -> Bool} {hd : Int} {rs : Bool} {bd : Nat} {ha : Int} {ra : Bool} {y : Cy}
theorem Own.congr (o : Own i c fa fr hd rs bd ha ra y) (h1 : ∀ k, k % c.n = i - 1 -> fa' k = fa k) (h2 : ∀ k, k % c.n = i - 1 -> fr' k = fr k) : Own i c fa' fr' hd rs bd ha ra y :=
  ⟨o.cc, fun k hk => (o.fa k hk).trans (h1 k hk).symm, fun k hk => (o.fr k hk).trans (h2 k hk).symm, o.hd, o.rs, o.bd, o.ha, o.ra⟩
end
section
variable {h : Hp} {δ : Ix (Gf Cy)} {i : Nat} {c : Cc} {q : Kq}
end
end
section
open Go Go.TJ Go.Proofs
variable [Dm]
def Kq.caps (q : Kq) : Array Value := #[.pointer (some ⟨q.vA, 0, none⟩), .pointer (some ⟨q.vN, 0, none⟩), .pointer (some ⟨q.vC, 0, none⟩), .pointer (some ⟨q.vP, 0, none⟩), .pointer (some ⟨q.vR, 0, none⟩), .pointer (some ⟨q.vT, 0, none⟩), .pointer (some ⟨q.vH, 0, none⟩)]
structure Kro (c : Cc) (q : Kq) : Prop where
  A : c.ro q.vA
  Ai : 0 < c.adds.length -> ∀ a, q.aS = some a -> c.ro a.block
  N : c.ro q.vN
  C : c.ro q.vC
  Cb : c.ro q.cb
  Cs : c.ro q.sb
  P : c.ro q.vP
  Pk : c.ro q.pk
  R : c.ro q.vR
  T : c.ro q.vT
  Tb : c.ro q.tb
  H : c.ro q.vH
theorem Km.move {c : Cc} {q : Kq} {h h' : Hp} (m : Km c q h) (r : Kro c q) (hm : ∀ b o v, c.ro b -> hcell h ⟨b, o, none⟩ = some v -> hcell h' ⟨b, o, none⟩ = some v) : Km c q h' where
  A := hm _ _ _ r.A m.A
  Ai k hk := by
    obtain ⟨b, o, h1, h2⟩ := m.Ai k hk
    exact ⟨b, o, h1, hm _ _ _ (r.Ai (by omega) _ h1) h2⟩
  N := hm _ _ _ r.N m.N
  C := hm _ _ _ r.C m.C
  Cb := hm _ _ _ r.Cb m.Cb
  Cs j hj := ⟨hm _ _ _ r.Cs (m.Cs j hj).1, (m.Cs j hj).2⟩
  S0 := m.S0
  S1 := m.S1
  P := hm _ _ _ r.P m.P
  Pk := hm _ _ _ r.Pk m.Pk
  R := hm _ _ _ r.R m.R
  T := hm _ _ _ r.T m.T
  T0 := hm _ _ _ r.Tb m.T0
  T1 := hm _ _ _ r.Tb m.T1
  H := hm _ _ _ r.H m.H
end
section
open Go Go.TJ Go.Proofs
variable [Dm]
def cntM (n cap : Nat) (rest : List Value) (B : Nat -> Nat) (v : Nat -> Int) : Mem Nat := ⟨fun k => k = 0 \/ k = 1 \/ (4 <= k /\ k < 4 + n), B, fun k =>
  if k = 0 then .cells #[.slice (some ⟨B 1, 0, none⟩) n cap] 116 (0, 0)
  else if k = 1 then .cells (((List.range n).map fun j => ptr (B (4 + j))) ++ rest).toArray 40 (0, 0)
  else cellO (v (k - 4))⟩
section
variable {Γ : Type} {main : Bool} {h : Hp} {δ : Ix Γ}
structure RS where
  i : Nat
  M : Mem Nat
  s : Value
end
end
section
open Go Go.TJ Go.Proofs
variable [Dm]
theorem cnt_set {h : Hp} {n cap : Nat} {rest : List Value} {B : Nat -> Nat} {v : Nat -> Int} (r : Rep h (cntM n cap rest B v)) {j : Nat} (hj : j < n) (x : Int) : Rep (h.setIfInBounds (B (4 + j)) (cellO x)) (cntM n cap rest B (ut v j x)) := by
  refine (r.set (k := 4 + j) (.inr (.inr ⟨by omega, by omega⟩)) (cellO x)).congr (fun _ hk => hk) (fun _ _ => rfl) (fun k hk => ?_)
  show (cntM n cap rest B (ut v j x)).O k = ut (cntM n cap rest B v).O (4 + j) (cellO x) k
  by_cases e : k = 4 + j
  · subst e
    rw [ut_same]
    show (if 4 + j = 0 then _ else if 4 + j = 1 then _ else cellO (ut v j x (4 + j - 4))) = _
    rw [if_neg (by omega), if_neg (by omega), show 4 + j - 4 = j by omega, ut_same]
  · rw [ut_ne _ _ e]
    show (if k = 0 then _ else if k = 1 then _ else cellO (ut v j x (k - 4))) = (if k = 0 then _ else if k = 1 then _ else cellO (v (k - 4)))
    by_cases k0 : k = 0
    · rw [if_pos k0, if_pos k0]
    · by_cases k1 : k = 1
      · rw [if_neg k0, if_pos k1, if_neg k0, if_pos k1]
      · have hk' : 4 <= k /\ k < 4 + n := by
          rcases hk with y | y | y
          · exact absurd y k0
          · exact absurd y k1
          · exact y
        rw [if_neg k0, if_neg k1, if_neg k0, if_neg k1, ut_ne _ _ (by omega)]
section
variable {Γ : Type} {main : Bool} {h : Hp} {δ : Ix Γ}
end
end
section
open Go Go.TJ Go.Proofs
variable [Dm]
section
variable {Γ : Type} {main : Bool} {h : Hp} {δ : Ix Γ}
theorem place_ok {x : Int} {n : Nat} (hn : 0 < n) (hn2 : n <= 1000) : CallW Try.prog main NoS 9 #[.int .i64 x, .int .i64 n] h δ (Ret (Det (.int .i64 (x % (n : Int))) h δ)) := by
  have h1 := Int.lt_tmod_of_pos x (b := (n : Int)) (by omega)
  have h2 := Int.tmod_lt_of_pos x (b := (n : Int)) (by omega)
  have e1 : x.tmod n < 0 -> x % (n : Int) = x.tmod n + n := fun hx => by
    have a := Int.mul_tdiv_add_tmod x n
    have b : x % (n : Int) = (x.tmod n + n) % n := by
      rw [Int.add_emod_right]
      conv => lhs; rw [<- a]
      rw [Int.add_comm, Int.add_mul_emod_self_left]
    rw [b, Int.emod_eq_of_lt (by omega) (by omega)]
  have e2 : 0 <= x.tmod n -> x % (n : Int) = x.tmod n := fun hx => by
    have a := Int.mul_tdiv_add_tmod x n
    have b : x % (n : Int) = (x.tmod n) % n := by
      conv => lhs; rw [<- a]
      rw [Int.add_comm, Int.add_mul_emod_self_left]
    rw [b, Int.emod_eq_of_lt (by omega) (by omega)]
  refine CallW.start (n := 15) rfl rfl ?_
  (repeat (first | refine EK.seq ?_ | refine EK.region ?_ | refine ER.done ?_ | refine ER.move rfl rfl rfl ?_ | refine ER.assign rfl rfl rfl ?_))
  refine ER.rem (kd := .i64) rfl rfl rfl rfl (by omega) rfl ?_
  generalize x.tmod (n : Int) = r at h1 h2 e1 e2 ⊢
  rcases Int.lt_or_le r 0 with y | y
  · (repeat (first | refine EK.seq ?_ | refine EK.region ?_ | refine ER.done ?_ | refine ER.move rfl rfl rfl ?_ | refine ER.assign rfl rfl rfl ?_ | refine ER.cmpT rfl rfl rfl rfl rfl (by first | (dsimp only [cmpP]; omega) | exact rfl | exact Int.le_refl _) ?_ | refine ER.add (kd := .i64) rfl rfl rfl rfl (i64_in (by omega) (by omega)) ?_ | refine EK.condT rfl ?_ | refine EK.ret ?_))
    exact EU.ret1 rfl rfl ⟨by rw [e1 y], rfl, rfl⟩
  · (repeat (first | refine EK.seq ?_ | refine EK.region ?_ | refine ER.done ?_ | refine EK.skip ?_ | refine ER.move rfl rfl rfl ?_ | refine ER.assign rfl rfl rfl ?_ | refine ER.cmpF rfl rfl rfl rfl rfl (by first | (dsimp only [cmpP]; omega) | exact rfl | exact Int.le_refl _) ?_ | refine EK.condF rfl ?_ | refine EK.ret ?_))
    exact EU.ret1 rfl rfl ⟨by rw [e2 y], rfl, rfl⟩
end
end
section
open Go Go.TJ Go.Proofs
variable [Dm]
def stk0 (N k : Nat) : Int := if k = 2 then 0 else if k = 3 then 1 else if k % 2 = 0 then (((k - 4) / 2 + 1) % (N + 1) : Nat) else 0
structure Sd where
  n : Nat
  m : Nat
  N : Nat
  B : Nat -> Nat
  idx : Nat -> Nat
  vM : Nat
  vS : Nat
  vP : Nat
  vQ : Nat
  pb : Nat
  qb : Nat
def nilSl : Value := .slice none 0 0
structure Sst (h : Hp) (x : Sd) (h' : Hp) : Prop where
  u : Upd (fun _ => False) h h'
  M : h'[x.vM]? = some (.cells #[.int .i64 x.m] 3 (0, 0))
  S : h'[x.vS]? = some (.cells #[.pointer (some ⟨x.B 0, 0, none⟩)] 24 (0, 0))
  r : Rep h' (stkM x.N x.B (stk0 x.N))
  bl : ∀ k, k < 6 + 2 * x.N -> h.size <= x.B k
  bi : ∀ k, x.idx (x.B k) = k
  P : h'[x.vP]? = some (.cells #[.slice (some ⟨x.pb, 0, none⟩) x.n x.n] 28 (0, 0))
  pb : h'[x.pb]? = some (.cells (List.replicate x.n nilSl).toArray 31 (0, 0))
  Q : h'[x.vQ]? = some (.cells #[.slice (some ⟨x.qb, 0, none⟩) (x.n + 1) (x.n + 1)] 28 (0, 0))
  qb : h'[x.qb]? = some (.cells (List.replicate (x.n + 1) nilSl).toArray 31 (0, 0))
  pl : h.size <= x.pb
  ql : h.size <= x.qb
  pq : x.pb ≠ x.qb
  vql : h.size <= x.vQ
  n1 : 1 <= x.n
  n8 : x.n <= 8
  m1 : x.m <= 100
  N1 : 1 <= x.N
  N2 : x.N <= 256
theorem Sst.upd {h h1 h2 : Hp} {x : Sd} (k : Sst h x h1) (u : Upd (fun _ => False) h1 h2) : Sst h x h2 where
  u := k.u.trans u
  M := u.get k.M fun z => z
  S := u.get k.S fun z => z
  r := k.r.upd0 u
  bl := k.bl
  bi := k.bi
  P := u.get k.P fun z => z
  pb := u.get k.pb fun z => z
  Q := u.get k.Q fun z => z
  qb := u.get k.qb fun z => z
  pl := k.pl
  ql := k.ql
  pq := k.pq
  vql := k.vql
  n1 := k.n1
  n8 := k.n8
  m1 := k.m1
  N1 := k.N1
  N2 := k.N2
theorem Sst.inj {h h1 : Hp} {x : Sd} (k : Sst h x h1) : ∀ i j, x.B i = x.B j -> i = j := fun i j e => by
  have h1 := k.bi i
  rw [e, k.bi j] at h1
  exact h1.symm
def Sd.cl (x : Sd) : List Nat := (List.range (2 * x.N + 4)).map fun j => x.B (j + 2)
def kSc (x : Sd) (hF : Hp) : Sc where
  n := x.n
  m := x.m
  N := x.N
  K := ((nsum (x.n + 1) fun _ => 43 * x.m : Nat) : Int)
  B := x.B
  pb := x.pb
  qb := x.qb
  fb := hF.size
  top := hF.size + 3
  tS := 31
  tB := 4
  ro b := b < hF.size + 2 /\ b ∉ x.cl /\ b ≠ x.pb /\ b ≠ x.qb /\ b ≠ hF.size /\ ∃ c e f, (frH hF x.n)[b]? = some (.cells c e f) /\ Pres (frH hF x.n) b
def sY (x : Sd) (c : Sc) : Sy := ⟨c, fun b => stk0 x.N (x.idx b), fun _ => 0, fun X => if X = 3 then List.range' 1 x.N else [], fun _ => none, fun _ => none, fun _ => 43 * c.m, fun _ => [], fun _ => [], fun _ => nilSl, fun _ => nilSl⟩
def Sd.q (x : Sd) : Kw := ⟨x.vM, x.vS, x.vP, x.vQ, x.B 0, x.B 1⟩
theorem nsum_const (a : Nat) : ∀ n : Nat, nsum n (fun _ => a) = n * a
  | 0 => by simp [nsum]
  | n + 1 => by rw [nsum, nsum_const a n, Nat.succ_mul]
theorem chn_new {N : Nat} {B : Nat -> Nat} {v : Nat -> Int} (hv : ∀ k, v (B (4 + 2 * k)) = stk0 N (4 + 2 * k)) : ∀ (k a : Nat), 1 <= a -> a + k = N + 1 -> Chn B v (List.range' a k)
  | 0, _, _, _ => trivial
  | k + 1, a, ha, hk => by
    rw [List.range'_succ]
    refine ⟨?_, chn_new hv k (a + 1) (by omega) (by omega)⟩
    rw [hv]
    have e : stk0 N (4 + 2 * a) = (((a + 1) % (N + 1) : Nat) : Int) := by
      unfold stk0
      rw [if_neg (by omega), if_neg (by omega), if_pos (by omega), show (4 + 2 * a - 4) / 2 + 1 = a + 1 by omega]
    rw [e]
    rcases Nat.eq_zero_or_pos k with z | z
    · subst z
      rw [show a + 1 = N + 1 by omega, Nat.mod_self]
      rfl
    · obtain ⟨k', rfl⟩ : ∃ k', k = k' + 1 := ⟨k - 1, by omega⟩
      rw [List.range'_succ, Nat.mod_eq_of_lt (by omega)]
      rfl
section
variable {h hF : Hp} {x : Sd}
theorem Sst.cls (k : Sst h x hF) {b : Nat} (hb : b ∈ x.cl) : h.size <= b /\ b < hF.size /\ hF[b]? = some (cellO (stk0 x.N (x.idx b))) := by
  obtain ⟨j, hj, rfl⟩ := List.mem_map.1 hb
  have hj := List.mem_range.1 hj
  have hc := stk_cell k.r (k := j + 2) (by omega) (by omega) rfl
  exact ⟨k.bl (j + 2) (by omega), lt_of_get hc, by rw [k.bi]; exact hc⟩
theorem Sst.ncls (k : Sst h x hF) {b : Nat} {c : Array Value} {e : TypeId} (hb : hF[b]? = some (.cells c e (0, 0))) (he : e ≠ 109) : b ∉ x.cl := fun hm => by
  obtain ⟨_, _, hv⟩ := k.cls hm
  rw [hv] at hb
  injection hb with hb
  injection hb with _ hb _
  exact he hb.symm
theorem cells_ne' {b b' : Nat} {c c' : Array Value} {e e' : TypeId} (h1 : hF[b]? = some (.cells c e (0, 0))) (h2 : hF[b']? = some (.cells c' e' (0, 0))) (he : e ≠ e') : b ≠ b' := by
  rintro rfl
  rw [h1] at h2
  injection h2 with h2
  injection h2 with _ h2 _
  exact he h2
theorem Sst.roOf (k : Sst h x hF) {b : Nat} {c : Array Value} {e : TypeId} (hb : hF[b]? = some (.cells c e (0, 0))) (hc : c ≠ #[]) (h1 : e ≠ 109) (h2 : e ≠ 31) : (kSc x hF).ro b := by
  have hlt := lt_of_get hb
  exact ⟨by omega, k.ncls hb h1, cells_ne' hb k.pb h2, cells_ne' hb k.qb h2, by omega, _, _, _, frH_old hb, pres_of (frH_old hb) (by unfold dum; intro z; injection z with z; exact hc z)⟩
theorem Sst.km (k : Sst h x hF) : KW (kSc x hF) x.q hF where
  M := hcell_of k.M rfl
  S := hcell_of k.S rfl
  P := hcell_of k.P rfl
  Q := hcell_of k.Q rfl
  K := ⟨stk_list k.r, stk_free k.r, stk_items k.r, fun j hj => ⟨stk_next k.r hj, stk_val k.r hj⟩⟩
theorem Sst.kro (k : Sst h x hF) : KWro (kSc x hF) x.q where
  M := k.roOf k.M (by simp) (by decide) (by decide)
  S := k.roOf k.S (by simp) (by decide) (by decide)
  P := k.roOf k.P (by simp) (by decide) (by decide)
  Q := k.roOf k.Q (by simp) (by decide) (by decide)
  s := k.roOf (k.r.get (k := 0) (by show 0 < 6 + 2 * x.N; omega) rfl) (by simp) (by decide) (by decide)
  i := k.roOf (k.r.get (k := 1) (by show 1 < 6 + 2 * x.N; omega) rfl) (by
    intro z
    have := congrArg Array.size z
    simp only [List.size_toArray, itemsL_len] at this
    simp at this) (by decide) (by decide)
theorem Sst.kJ (k : Sst h x hF) : Sj (sY x (kSc x hF)) where
  inj := k.inj
  ar j h1 h2 := by
    have hm : x.B j ∈ x.cl := List.mem_map.2 ⟨j - 2, List.mem_range.2 (by have : j < 2 * x.N + 6 := h2; omega), by rw [show j - 2 + 2 = j by omega]⟩
    exact ⟨fun e => k.ncls k.pb (by decide) ((show x.B j = x.pb from e) ▸ hm), fun e => k.ncls k.qb (by decide) ((show x.B j = x.qb from e) ▸ hm), fun e => by
      have := (k.cls hm).2.1
      have e' : x.B j = hF.size := e
      omega⟩
  ad := ⟨k.pq, Nat.ne_of_lt (lt_of_get k.pb), Nat.ne_of_lt (lt_of_get k.qb)⟩
  n1 := ⟨k.n1, k.n8⟩
  N1 := Nat.le_trans k.N2 (by decide)
  cK := by
    have h1 := k.n8
    have h2 := k.m1
    show ((nsum (x.n + 1) fun _ => 43 * x.m : Nat) : Int) <= 1000000000
    rw [nsum_const]
    have : (x.n + 1) * (43 * x.m) <= 9 * 4300 := Nat.mul_le_mul (by omega) (by omega)
    omega
  sx _ _ _ z := by cases z
  out _ _ z := by cases z
  cel X hX := by
    have hN := k.N1
    rcases hX with rfl | rfl
    · refine ⟨?_, Int.le_refl _, trivial⟩
      show stk0 x.N (x.idx (x.B 2)) = 65536 * 0 + hdN []
      rw [k.bi]
      rfl
    · refine ⟨?_, Int.le_refl _, ?_⟩
      · show stk0 x.N (x.idx (x.B 3)) = 65536 * 0 + hdN (List.range' 1 x.N)
        rw [k.bi]
        obtain ⟨N', hN'⟩ : ∃ N', x.N = N' + 1 := ⟨x.N - 1, by omega⟩
        rw [hN', List.range'_succ]
        rfl
      · exact chn_new (fun j => by show stk0 x.N (x.idx (x.B (4 + 2 * j))) = _; rw [k.bi]) x.N 1 (Nat.le_refl _) (by omega)
  np := by
    show ([] ++ (List.range' 1 x.N ++ fmW (fun _ => (none : Option Nat)) x.n)).Perm (List.range' 1 x.N)
    have : fmW (fun _ => (none : Option Nat)) x.n = [] := by unfold fmW; simp
    rw [this]
    simp
  vp := by
    have : ∀ n, flW (fun _ => ([] : List Int)) n = [] := fun n => by unfold flW; simp
    show (flW (fun _ => ([] : List Int)) x.n).Perm (([] : List Nat).map _ ++ flW (fun _ => ([] : List Int)) x.n)
    rw [this]
    exact List.Perm.refl _
  K := by
    show (0 : Int) + 0 + ((nsum (x.n + 1) (fun i => 43 * x.m + (sY x (kSc x hF)).stl i) : Nat) : Int) <= ((nsum (x.n + 1) fun _ => 43 * x.m : Nat) : Int)
    rw [nsum_congr (x.n + 1) (fun i => 43 * x.m + (sY x (kSc x hF)).stl i) (fun _ => 43 * x.m) fun _ _ => rfl]
    omega
theorem scls_eq : sL.cls (sY x (kSc x hF)) = x.cl := rfl
theorem sarrT_eq {b : Nat} : sL.arrT (sY x (kSc x hF)) b = if b = x.pb then some 31 else if b = x.qb then some 31 else if b = hF.size then some 4 else none := rfl
theorem Sst.arrN (_ : Sst h x hF) {b : Nat} (h1 : b ≠ x.pb) (h2 : b ≠ x.qb) (h3 : b ≠ hF.size) : sL.arrT (sY x (kSc x hF)) b = none := by
  rw [sarrT_eq, if_neg h1, if_neg h2, if_neg h3]
theorem Sst.arrF (k : Sst h x hF) : sL.arrT (sY x (kSc x hF)) hF.size = some 4 := by
  rw [sarrT_eq, if_neg (Nat.ne_of_lt (lt_of_get k.pb)).symm, if_neg (Nat.ne_of_lt (lt_of_get k.qb)).symm, if_pos rfl]
theorem Sst.arrP (_ : Sst h x hF) : sL.arrT (sY x (kSc x hF)) x.pb = some 31 := by rw [sarrT_eq, if_pos rfl]
theorem Sst.arrQ (k : Sst h x hF) : sL.arrT (sY x (kSc x hF)) x.qb = some 31 := by
  rw [sarrT_eq, if_neg (fun z => k.pq z.symm), if_pos rfl]
theorem Sst.starts (k : Sst h x hF) : Starts TT sL (sY x (kSc x hF)) (hF.size + 2) (frH hF x.n) where
  cell b hb := by
    rw [scls_eq] at hb
    exact frH_old (k.cls hb).2.2
  arr b t hb := by
    rw [sarrT_eq] at hb
    show (frH hF x.n)[b]? = some (.cells (if b = x.pb then _ else if b = x.qb then _ else _) t (0, 0))
    by_cases h1 : b = x.pb
    · rw [if_pos h1] at hb
      cases hb
      subst h1
      rw [if_pos rfl, frH_old k.pb]
      congr 3
      show List.replicate x.n nilSl = (List.range x.n).map fun _ => nilSl
      rw [List.map_const', List.length_range]
    · rw [if_neg h1] at hb
      by_cases h2 : b = x.qb
      · rw [if_pos h2] at hb
        cases hb
        subst h2
        rw [if_neg h1, if_pos rfl, frH_old k.qb]
        congr 3
        show List.replicate (x.n + 1) nilSl = (List.range (x.n + 1)).map fun _ => nilSl
        rw [List.map_const', List.length_range]
      · rw [if_neg h2] at hb
        by_cases h3 : b = hF.size
        · rw [if_pos h3] at hb
          cases hb
          subst h3
          rw [if_neg h1, if_neg h2, (frH_at hF x.n).1]
          simp
          rfl
        · rw [if_neg h3] at hb; cases hb
  ne b t hb := by
    have n1 := k.n1
    show (if b = x.pb then _ else if b = x.qb then _ else Array.replicate x.n (Value.bool false)) ≠ #[]
    intro z
    have z := congrArg Array.size z
    split at z
    · simp [sY, kSc] at z; omega
    · split at z
      · simp [sY, kSc] at z
      · simp at z; omega
  wg := (frH_at hF x.n).2.2
  wc := ⟨fun hm => absurd (k.cls hm).2.1 (by omega), k.arrN (by have := lt_of_get k.pb; omega) (by have := lt_of_get k.qb; omega) (by omega)⟩
  J := k.kJ
  ro b hb := hb.2.2.2.2.2
set_option maxHeartbeats 4000000 in
theorem Sst.free {hA : Hp} (k : Sst h x hA) (u : Upd (fun _ => False) hA hF) {γ₀ : Gf Sy} (hst : γ₀.st = 0) (hnum : γ₀.num = 1) {B cap fB : Nat} {ib : Nat -> Nat} (hfB : hF[fB]? = some (.cells #[.func (.func 12) #[] x.q.caps] 34 (0, 0)))
    (hib : ∀ j, j < x.n -> hF[ib j]? = some (.cells #[.int .i64 j] 3 (0, 0))) (hB1 : hA.size <= B) (hB : ∀ j, j < x.n -> hcell hF ⟨B, j, none⟩ = some (.func (.func 58) #[] #[.pointer (some ⟨fB, 0, none⟩), .pointer (some ⟨ib j, 0, none⟩)])) :
    CallW Try.prog true (SitM Try.prog (XF TT sL)) 49 #[.slice (some ⟨B, 0, none⟩) x.n cap] hF ⟨0, γ₀⟩ (Ret fun v h' δ' => v = .slice none 0 0 /\ δ'.d = 0 /\ Freed sL (sY x (kSc x hF)) hF x.n h' δ'.g) := by
  have k' := k.upd u
  have hBlt : B < hF.size := by
    obtain ⟨_, _, _, h1, _⟩ := hcell_some (hB 0 k.n1)
    exact lt_of_get h1
  have b1 := lt_of_get k.pb
  have b2 := lt_of_get k.qb
  refine free_ok sL_ok (bf := fun _ => 58) (bcap := fun j => #[.pointer (some ⟨fB, 0, none⟩), .pointer (some ⟨ib j, 0, none⟩)]) (hbf := fun _ => inferInstance) hst hnum (Nat.le_trans k.n8 (by decide)) hB k'.starts ⟨fun hm => ?_, k'.arrN (by omega) (by omega) (by omega)⟩ k'.arrF (fun y hJ hr => ?_) ?_ (fun b hb => ⟨hb.2.1, k'.arrN hb.2.2.1 hb.2.2.2.1 hb.2.2.2.2.1, hb.1⟩) ?_
  · have := (k.cls hm).2.1
    omega
  · have e : y.c = kSc x hF := hr.law.c
    have := (sarr_f hJ (w := 0) (by rw [e]; exact k.n1)).2.1
    rw [e] at this
    exact this
  · have hV := (frH_at hF x.n).2.1
    exact ⟨by omega, fun hm => absurd (k'.cls hm).2.1 (by omega), by have := lt_of_get k'.pb; omega, by have := lt_of_get k'.qb; omega, by omega, _, _, _, hV, pres_of hV (by unfold dum; simp)⟩
  · refine sbody_ok (c := kSc x hF) (q := x.q) rfl k.n8 k.m1 (Nat.le_trans k.N2 (by decide)) k'.km k'.kro rfl rfl (fun b hb => by show b < hF.size + 3; have := hb.1; omega) (hcell_of hfB rfl) (k'.roOf hfB (by simp) (by decide) (by decide)) (fun j hj => ⟨hcell_of (hib j hj) rfl, k'.roOf (hib j hj) (by simp) (by decide) (by decide)⟩) fun j hj => ⟨rfl, fun _ z => (by cases z), rfl, rfl, rfl, rfl, Nat.le_refl _, rfl, rfl⟩
end
end
section
open Go Go.TJ Go.Proofs
variable [Dm]
structure CI (n : Nat) (v : Nat -> Int) (l2 l3 : List Nat) : Prop where
  t2 : v 2 % 65536 = hdN l2
  t3 : v 3 % 65536 = hdN l3
  c2 : Chn id v l2
  c3 : Chn id v l3
  np : (l2 ++ l3).Perm (List.range' 1 n)
theorem CI.bd {n : Nat} {v : Nat -> Int} {l2 l3 : List Nat} (ci : CI n v l2 l3) {x : Nat} (hx : x ∈ l2 \/ x ∈ l3) : 1 <= x /\ x <= n := by
  have := List.mem_range'_1.1 ((ci.np.mem_iff).1 (List.mem_append.2 hx))
  omega
theorem CI.nd {n : Nat} {v : Nat -> Int} {l2 l3 : List Nat} (ci : CI n v l2 l3) : (l2 ++ l3).Nodup := ci.np.nodup_iff.2 List.nodup_range'
theorem CI.hd {n : Nat} {v : Nat -> Int} {l2 l3 : List Nat} (ci : CI n v l2 l3) : (0 <= hdN l2 /\ hdN l2 <= n) /\ (0 <= hdN l3 /\ hdN l3 <= n) := by
  refine ⟨?_, ?_⟩
  · cases l2 with
    | nil => exact ⟨Int.le_refl _, by show (0 : Int) <= n; omega⟩
    | cons y r => have := ci.bd (.inl (List.mem_cons_self (a := y) (l := r))); show 0 <= (y : Int) /\ (y : Int) <= n; omega
  · cases l3 with
    | nil => exact ⟨Int.le_refl _, by show (0 : Int) <= n; omega⟩
    | cons y r => have := ci.bd (.inr (List.mem_cons_self (a := y) (l := r))); show 0 <= (y : Int) /\ (y : Int) <= n; omega
theorem CI.len {n : Nat} {v : Nat -> Int} {l2 l3 : List Nat} (ci : CI n v l2 l3) : l2.length + l3.length = n := by
  have := ci.np.length_eq
  rwa [List.length_append, List.length_range'] at this
theorem hd_le {n : Nat} {l : List Nat} (h : ∀ x, x ∈ l -> x <= n) : 0 <= hdN l /\ hdN l <= n := by
  cases l with
  | nil => exact ⟨Int.le_refl _, by show (0 : Int) <= n; omega⟩
  | cons y r => have := h y List.mem_cons_self; show 0 <= (y : Int) /\ (y : Int) <= n; omega
section
variable {Γ : Type} {main : Bool} {h : Hp} {δ : Ix Γ} {n : Nat} {B : Nat -> Nat} {v : Nat -> Int} {l2 l3 : List Nat} {y : Nat}
theorem cpop_empty (r : Rep h (stkM n B v)) (ci : CI n v [] l3) : CallW Try.prog main NoS 14 #[ptr (B 0), .pointer none] h δ (Ret (Det (.tuple #[.int .i64 0, .bool false]) h δ)) := by
  have ci' := stk_items r
  have cl := stk_list r
  refine CallW.start (n := 47) rfl rfl ?_
  (repeat (first | refine EK.seq ?_ | refine EK.region ?_ | refine ER.done ?_ | refine EK.skip ?_ | refine ER.move rfl rfl rfl ?_ | refine ER.assign rfl rfl rfl ?_ | refine ER.nilCheck rfl rfl rfl ?_ | refine ER.fieldAddr rfl rfl rfl ?_ | refine ER.eqV rfl rfl rfl rfl rfl ?_ | refine ER.pickF rfl rfl rfl rfl ?_ | refine ER.cmpF rfl rfl rfl rfl rfl (by first | (dsimp only [cmpP]; omega) | exact rfl | exact Int.le_refl _) ?_ | refine ER.len1 rfl rfl rfl ?_ | refine EK.condF rfl ?_ | refine ER.load1 rfl rfl rfl (by assumption) ?_))
  refine ER.callD rfl rfl rfl rfl rfl (get_none (c := 2) r (.inl rfl) ci.t2) ?_
  (repeat (first | refine EK.seq ?_ | refine EK.region ?_ | refine ER.done ?_ | refine ER.move rfl rfl rfl ?_ | refine ER.assign rfl rfl rfl ?_ | refine ER.cmpT rfl rfl rfl rfl rfl (by first | (dsimp only [cmpP]; omega) | exact rfl | exact Int.le_refl _) ?_ | refine EK.condT rfl ?_ | refine EK.ret ?_))
  exact EU.ret2 rfl rfl rfl det
set_option maxRecDepth 8000 in
set_option maxHeartbeats 1000000 in
theorem cpop_ok (r : Rep h (stkM n B v)) (hn : n <= 4096) (ci : CI n v (y :: l2) l3) (hS : KFree NoS δ.g n B) :
    CallW Try.prog main NoS 14 #[ptr (B 0), .pointer none] h δ (Ret fun w h' δ' => w = .tuple #[.int .i64 (v (5 + 2 * y)), .bool true] /\ δ' = δ /\ (∃ v', Rep h' (stkM n B v') /\ CI n v' l2 (y :: l3) /\ ∀ k, v' (5 + 2 * k) = v (5 + 2 * k)) /\ Upd (KOwn n B) h h') := by
  obtain ⟨y1, y2⟩ := ci.bd (.inl (List.mem_cons_self (a := y) (l := l2)))
  obtain ⟨nd1, nd2, nd3⟩ := List.nodup_append.1 ci.nd
  have ny2 : y ∉ l2 := (List.nodup_cons.1 nd1).1
  have ny3 : y ∉ l3 := fun e => nd3 y List.mem_cons_self y e rfl
  obtain ⟨h21, h22⟩ := hd_le (n := n) (l := l2) fun z hz => (ci.bd (.inl (List.mem_cons_of_mem _ hz))).2
  have c1 : v (4 + 2 * y) = hdN l2 := ci.c2.1
  have ci' := stk_items r
  have cl := stk_list r
  refine CallW.start (n := 47) rfl rfl ?_
  (repeat (first | refine EK.seq ?_ | refine EK.region ?_ | refine ER.done ?_ | refine EK.skip ?_ | refine ER.move rfl rfl rfl ?_ | refine ER.assign rfl rfl rfl ?_ | refine ER.nilCheck rfl rfl rfl ?_ | refine ER.fieldAddr rfl rfl rfl ?_ | refine ER.eqV rfl rfl rfl rfl rfl ?_ | refine ER.pickF rfl rfl rfl rfl ?_ | refine ER.cmpF rfl rfl rfl rfl rfl (by first | (dsimp only [cmpP]; omega) | exact rfl | exact Int.le_refl _) ?_ | refine ER.len1 rfl rfl rfl ?_ | refine EK.condF rfl ?_ | refine ER.load1 rfl rfl rfl (by assumption) ?_))
  refine ER.callR rfl rfl rfl rfl rfl (get_some (c := 2) (k := y) r hn (.inl rfl) ci.t2 y1 y2 hS) ?_
  rintro _ h1 δ1 ⟨rfl, rfl, r1, u1⟩
  generalize hf2 : laidZ (v 2) (v (4 + 2 * y)) = f2 at r1
  have f2m : f2 % 65536 = hdN l2 := by
    rw [<- hf2, c1, laidZ_mod (by omega) (by omega)]
  clear ci' cl hf2
  have ci' := stk_items r1
  have cv := stk_val r1 (k := y) y2
  have hx1 : ut v 2 f2 (5 + 2 * y) = v (5 + 2 * y) := by rw [ut_ne _ _ (by omega)]
  (repeat (first | refine EK.seq ?_ | refine EK.region ?_ | refine ER.done ?_ | refine EK.skip ?_ | refine ER.move rfl rfl rfl ?_ | refine ER.assign rfl rfl rfl ?_ | refine ER.nilCheck rfl rfl rfl ?_ | refine ER.fieldAddr rfl rfl rfl ?_ | refine ER.cmpF rfl rfl rfl rfl rfl (by first | (dsimp only [cmpP]; omega) | exact rfl | exact Int.le_refl _) ?_ | refine ER.indexSl rfl rfl rfl rfl (by omega) (by omega) ?_ | refine EK.condF rfl ?_ | refine ER.load1 rfl rfl rfl (by assumption) ?_))
  refine ER.callD rfl rfl rfl rfl rfl (cload (stk_cell r1 (k := 5 + 2 * y) (by omega) (by omega) hx1)) ?_
  have cf := stk_free r1
  (repeat (first | refine EK.seq ?_ | refine EK.region ?_ | refine ER.done ?_ | refine ER.move rfl rfl rfl ?_ | refine ER.assign rfl rfl rfl ?_ | refine ER.nilCheck rfl rfl rfl ?_ | refine ER.fieldAddr rfl rfl rfl ?_ | refine ER.load1 rfl rfl rfl (by assumption) ?_))
  refine ER.callR rfl rfl rfl rfl rfl (lay_ok (c := 3) (k := y) r1 hn (.inr rfl) y1 y2 hS) ?_
  rintro _ h3 δ3 ⟨rfl, r3, u3⟩
  (repeat (first | refine EK.seq ?_ | refine EK.region ?_ | refine ER.done ?_ | refine ER.move rfl rfl rfl ?_ | refine ER.assign rfl rfl rfl ?_ | refine EK.ret ?_))
  have e2 : ut v 2 f2 3 = v 3 := ut_ne _ _ (by omega)
  rw [e2] at r3
  refine EU.ret2 rfl rfl rfl ⟨rfl, rfl, ⟨_, r3, ⟨?_, ?_, ci.c2.2.congr fun z hz => ?_, ⟨?_, ci.c3.congr fun z hz => ?_⟩, ?_⟩, fun k => ?_⟩, u1.trans u3⟩
  · rw [ut_ne _ _ (by omega), ut_ne _ _ (by omega), ut_same]; exact f2m
  · rw [ut_same, laidZ_mod (by omega) (by omega)]; rfl
  · have : z ≠ y := fun e => ny2 (e ▸ hz)
    show ut _ _ _ (4 + 2 * z) = v (4 + 2 * z)
    rw [ut_ne _ _ (by omega), ut_ne _ _ (by omega), ut_ne _ _ (by omega)]
  · show ut _ _ _ (4 + 2 * y) = _
    rw [ut_ne _ _ (by omega), ut_same]; exact ci.t3
  · have : z ≠ y := fun e => ny3 (e ▸ hz)
    show ut _ _ _ (4 + 2 * z) = v (4 + 2 * z)
    rw [ut_ne _ _ (by omega), ut_ne _ _ (by omega), ut_ne _ _ (by omega)]
  · exact (List.perm_middle).trans ci.np
  · rw [ut_ne _ _ (by omega), ut_ne _ _ (by omega), ut_ne _ _ (by omega)]
def StkP (n : Nat) (B : Nat -> Nat) (vals : List Int) (h : Hp) : Prop :=
  ∃ (v : Nat -> Int) (l2 l3 : List Nat), Rep h (stkM n B v) /\ CI n v l2 l3 /\ l2.map (fun x => v (5 + 2 * x)) = vals
theorem StkP.len {vals : List Int} (s : StkP n B vals h) : vals.length <= n := by
  obtain ⟨v, l2, l3, -, ci, rfl⟩ := s
  have := ci.len
  rw [List.length_map]
  omega
theorem StkP.upd {vals : List Int} {h' : Hp} {T : Nat -> Prop} (s : StkP n B vals h) (u : Upd T h h') (hT : ∀ k, k < 6 + 2 * n -> ¬ T (B k)) : StkP n B vals h' := by
  obtain ⟨v, l2, l3, r, ci, e1⟩ := s
  exact ⟨v, l2, l3, r.upd u fun k hk => hT k hk, ci, e1⟩
theorem ss_pop {vals : List Int} {z : Int} (s : StkP n B (z :: vals) h) (hn : n <= 4096) :
    CallW Try.prog main NoS 14 #[ptr (B 0), .pointer none] h δ (Ret fun w h' δ' => w = .tuple #[.int .i64 z, .bool true] /\ δ' = δ /\ StkP n B vals h' /\ Upd (KOwn n B) h h') := by
  obtain ⟨v, l2, l3, r, ci, e1⟩ := s
  rcases l2 with - | ⟨y, l2⟩
  · cases e1
  rw [List.map_cons] at e1
  injection e1 with e0 e1
  refine (cpop_ok r hn ci (fun _ _ _ z => z)).mono ?_
  rintro (w | p) h' δ' q
  · obtain ⟨rfl, rfl, ⟨v', r', ci', hk⟩, u⟩ := q
    refine ⟨by rw [e0], rfl, ⟨v', l2, y :: l3, r', ci', ?_⟩, u⟩
    rw [<- e1]
    exact List.map_congr_left fun z _ => hk z
  · exact q.elim
theorem ss_none (s : StkP n B [] h) : CallW Try.prog main NoS 14 #[ptr (B 0), .pointer none] h δ (Ret (Det (.tuple #[.int .i64 0, .bool false]) h δ)) := by
  obtain ⟨v, l2, l3, r, ci, e1⟩ := s
  obtain rfl := List.map_eq_nil_iff.1 e1
  exact cpop_empty r ci
end
end
section
open Go Go.TJ Go.Proofs
variable [Dm]
structure Sen (h : Hp) (x : Sd) (T : Nat) (vals : List Int) (sp sq : Nat -> Value) (pu po : Nat -> List Int) (h' : Hp) : Prop where
  u : Upd (fun _ => False) h h'
  S : hcell h' ⟨x.vS, 0, none⟩ = some (.pointer (some ⟨x.B 0, 0, none⟩))
  s : StkP x.N x.B vals h'
  bl : ∀ k, k < 6 + 2 * x.N -> h.size <= x.B k /\ x.B k < T /\ x.B k ≠ x.pb /\ x.B k ≠ x.qb /\ x.B k ≠ x.vS /\ x.B k ≠ x.vP /\ x.B k ≠ x.vQ
  P : hcell h' ⟨x.vP, 0, none⟩ = some (.slice (some ⟨x.pb, 0, none⟩) x.n x.n)
  pb : ∀ w, w < x.n -> hcell h' ⟨x.pb, w, none⟩ = some (sp w)
  pr : ∀ w, w < x.n -> Rd T h' (sp w) (pu w)
  Q : hcell h' ⟨x.vQ, 0, none⟩ = some (.slice (some ⟨x.qb, 0, none⟩) (x.n + 1) (x.n + 1))
  qb : h'[x.qb]? = some (.cells ((List.range (x.n + 1)).map sq).toArray 31 (0, 0))
  qn : sq x.n = nilSl
  qr : ∀ w, w < x.n -> Rd T h' (sq w) (po w)
  ql : h.size <= x.qb /\ x.qb < T /\ x.qb ≠ x.pb /\ x.qb ≠ x.vS /\ x.qb ≠ x.vP /\ x.qb ≠ x.vQ
  hT : T <= h'.size
  nd : ∀ w, w < x.n -> (pu w).Nodup
  rg : ∀ w, w < x.n -> ∀ z, z ∈ pu w -> 1000 * (w : Int) <= z /\ z < 1000 * (w : Int) + x.m
  vp : ((List.range x.n).flatMap pu).Perm (vals ++ (List.range x.n).flatMap po)
theorem Chn.toId {B : Nat -> Nat} {v : Nat -> Int} : ∀ {l : List Nat}, Chn B v l -> Chn id (fun k => v (B k)) l
  | [], _ => trivial
  | _ :: _, ⟨h1, h2⟩ => ⟨h1, h2.toId⟩
section
variable {h hF h' : Hp} {x : Sd}
set_option maxHeartbeats 4000000 in
theorem Sst.fin (k : Sst h x hF) (hnd : ∀ (b : Nat) (o : Obj), h[b]? = some o -> o ≠ dum) {γ' : Gf Sy} (f : Freed sL (sY x (kSc x hF)) hF x.n h' γ') : ∃ T vals sp sq pu po, Sen h x T vals sp sq pu po h' := by
  have b1 := lt_of_get k.pb
  have b2 := lt_of_get k.qb
  obtain ⟨y, hr, hJ, hfin, old, cel, ar, hsz⟩ := freed_out2 f ⟨fun hm => absurd (k.cls hm).2.1 (by omega), k.arrN (by omega) (by omega) (by omega)⟩ k.arrF
  have hc : y.c = kSc x hF := hr.law.c
  have key : ∀ (b : Nat) (c : Array Value) (e : TypeId), hF[b]? = some (.cells c e (0, 0)) -> c ≠ #[] -> e ≠ 109 -> e ≠ 31 -> h'[b]? = some (.cells c e (0, 0)) := fun b c e hb h0 h1 h2 =>
    old b _ hb (by unfold dum; intro z; injection z with z; exact h0 z) (k.ncls hb h1) (k.arrN (cells_ne' hb k.pb h2) (cells_ne' hb k.qb h2) (Nat.ne_of_lt (lt_of_get hb)))
  have fin : ∀ w, w < x.n -> y.hn (w + 1) = none /\ (y.pu (w + 1)).Nodup /\ (∀ z, z ∈ y.pu (w + 1) -> 1000 * (w : Int) <= z /\ z < 1000 * (w : Int) + x.m) /\ Rd hF.size h' (y.sp w) (y.pu (w + 1)) /\ Rd hF.size h' (y.sq w) (y.po (w + 1)) := fun w hw => by
    obtain ⟨hf, q, hm⟩ := hfin (w + 1) (by omega) (by omega)
    obtain ⟨q1, q2, q3, q4, q5⟩ := q (Nat.succ_pos w)
    rw [hc] at q3 q4 q5
    refine ⟨q1, q2, fun z hz => ?_, q4.mono (by show hF.size <= hF.size + 3; omega) hm, q5.mono (by show hF.size <= hF.size + 3; omega) hm⟩
    have := q3 z hz
    rw [show (((w + 1 : Nat) : Int) - 1) = (w : Int) by omega] at this
    exact this
  have hfm : fmW y.hn y.c.n = [] := by
    rw [hc]
    show fmW y.hn x.n = []
    rw [fmW_congr (g := fun _ => none) fun j j0 hj => by
      have := (fin (j - 1) (by omega)).1
      rwa [show j - 1 + 1 = j by omega] at this]
    unfold fmW
    simp
  have item : itemsL (x.N + 1) x.B ≠ [] := by
    intro z
    have := congrArg List.length z
    rw [itemsL_len] at this
    simp at this
  have k0 := key _ _ _ (k.r.get (k := 0) (by show 0 < 6 + 2 * x.N; omega) rfl) (by simp) (by decide) (by decide)
  have k1 := key _ _ _ (k.r.get (k := 1) (by show 1 < 6 + 2 * x.N; omega) rfl) (by simpa using item) (by decide) (by decide)
  have cl : ∀ j, 2 <= j -> j < 6 + 2 * x.N -> x.B j ∈ x.cl := fun j h1 h2 => List.mem_map.2 ⟨j - 2, List.mem_range.2 (by omega), by rw [show j - 2 + 2 = j by omega]⟩
  have rep : Rep h' (stkM x.N x.B fun j => y.v (x.B j)) := by
    refine ⟨fun j hj => ?_, k.r.inj⟩
    have hj' : j < 6 + 2 * x.N := hj
    show h'[x.B j]? = some (if j = 0 then _ else if j = 1 then _ else cellO (y.v (x.B j)))
    by_cases e0 : j = 0
    · subst e0; rw [if_pos rfl]; exact k0
    · by_cases e1 : j = 1
      · subst e1; rw [if_neg e0, if_pos rfl]; exact k1
      · rw [if_neg e0, if_neg e1]
        exact cel _ (cl j (by omega) hj')
  have ci : CI x.N (fun j => y.v (x.B j)) (y.ch 2) (y.ch 3) := by
    have t2 := (hJ.tag (X := 2) (.inl rfl)).2.1
    have t3 := (hJ.tag (X := 3) (.inr rfl)).2.1
    have c2 := (hJ.cel 2 (.inl rfl)).2.2
    have c3 := (hJ.cel 3 (.inr rfl)).2.2
    have np := hJ.np
    rw [hfm, List.append_nil] at np
    rw [hc] at t2 t3 c2 c3 np
    exact ⟨t2, t3, c2.toId, c3.toId, np⟩
  refine ⟨hF.size, (y.ch 2).map (fun j => y.v (x.B (5 + 2 * j))), y.sp, y.sq, fun w => y.pu (w + 1), fun w => y.po (w + 1), ?_⟩
  refine ⟨⟨Nat.le_trans k.u.size (Nat.le_of_lt hsz), fun b hb _ => ?_⟩, hcell_of (key _ _ _ k.S (by simp) (by decide) (by decide)) rfl, ⟨_, _, _, rep, ci, rfl⟩, fun j hj => ?_, hcell_of (key _ _ _ k.P (by simp) (by decide) (by decide)) rfl, fun w hw => ?_, fun w hw => (fin w hw).2.2.2.1, hcell_of (key _ _ _ k.Q (by simp) (by decide) (by decide)) rfl, ?_, ?_, fun w hw => (fin w hw).2.2.2.2, ?_, Nat.le_of_lt hsz, fun w hw => (fin w hw).2.1, fun w hw => (fin w hw).2.2.1, ?_⟩
  · obtain ⟨o, ho⟩ : ∃ o, h[b]? = some o := ⟨_, Array.getElem?_eq_getElem hb⟩
    have e1 := k.pl
    have e2 := k.ql
    have e3 := k.u.size
    rw [ho]
    exact old b o (k.u.get ho fun z => z) (hnd b o ho) (fun hm => absurd (k.cls hm).1 (by omega)) (k.arrN (by omega) (by omega) (by omega))
  · have hlt := k.r.lt (k := j) hj
    have hlt' : x.B j < hF.size := hlt
    have ne : ∀ {b : Nat} {v : Value} {t : TypeId}, hF[b]? = some (.cells #[v] t (0, 0)) -> t ≠ 91 -> t ≠ 95 -> t ≠ 109 -> x.B j ≠ b := fun {b v t} hb n1 n2 n3 => by
      rintro rfl
      have hg := k.r.has j hj
      have hb' := hg.symm.trans hb
      injection hb' with hb'
      have hb2 : (if j = 0 then Obj.cells #[ptr (x.B 2), ptr (x.B 3), .slice (some ⟨x.B 1, 0, none⟩) (x.N + 1) (x.N + 1)] 91 (0, 0) else if j = 1 then .cells (itemsL (x.N + 1) x.B).toArray 95 (0, 0) else cellO (stk0 x.N j)) = .cells #[v] t (0, 0) := hb'
      split at hb2
      · injection hb2 with _ hb2 _; exact n1 hb2.symm
      · split at hb2
        · injection hb2 with _ hb2 _; exact n2 hb2.symm
        · injection hb2 with _ hb2 _; exact n3 hb2.symm
    have ne2 : ∀ {b : Nat} {l : List Value}, hF[b]? = some (.cells l.toArray 31 (0, 0)) -> x.B j ≠ b := fun {b l} hb => by
      rintro rfl
      have hg := k.r.has j hj
      have hb' := hg.symm.trans hb
      injection hb' with hb'
      have hb2 : (if j = 0 then Obj.cells #[ptr (x.B 2), ptr (x.B 3), .slice (some ⟨x.B 1, 0, none⟩) (x.N + 1) (x.N + 1)] 91 (0, 0) else if j = 1 then .cells (itemsL (x.N + 1) x.B).toArray 95 (0, 0) else cellO (stk0 x.N j)) = .cells l.toArray 31 (0, 0) := hb'
      split at hb2
      · injection hb2 with _ hb2 _; exact absurd hb2 (by decide)
      · split at hb2
        · injection hb2 with _ hb2 _; exact absurd hb2 (by decide)
        · injection hb2 with _ hb2 _; exact absurd hb2 (by decide)
    exact ⟨k.bl j hj, by omega, ne2 k.pb, ne2 k.qb, ne k.S (by decide) (by decide) (by decide), ne k.P (by decide) (by decide) (by decide), ne k.Q (by decide) (by decide) (by decide)⟩
  · refine hcell_of (ar _ _ k.arrP) ?_
    show (if x.pb = y.c.pb then ((List.range y.c.n).map y.sp).toArray else _ : Array Value)[w]? = _
    rw [hc, show (kSc x hF).pb = x.pb from rfl, if_pos rfl]
    exact range_get hw
  · have := ar _ _ k.arrQ
    rw [this]
    show some (Obj.cells (if x.qb = y.c.pb then _ else if x.qb = y.c.qb then ((List.range (y.c.n + 1)).map y.sq).toArray else _) _ _) = _
    rw [hc, show (kSc x hF).pb = x.pb from rfl, show (kSc x hF).qb = x.qb from rfl, if_neg (fun z => k.pq z.symm), if_pos rfl]
    rfl
  · have := hr.law.main
    exact this
  · refine ⟨k.ql, by omega, fun z => k.pq z.symm, cells_ne' k.qb k.S (by decide), cells_ne' k.qb k.P (by decide), cells_ne' k.qb k.Q (by decide)⟩
  · have vp := hJ.vp
    rw [hc] at vp
    exact vp
end
end
end Go.Proofs.Ytakioblpgmjdaaa
