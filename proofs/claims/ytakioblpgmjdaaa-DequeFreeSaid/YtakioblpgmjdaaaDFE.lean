/- Steps of the walk and of the plain law (FMv to SfF). Conditions: as each lemma says. -/
import Derived.Laws.BitsAllLaws
import Derived.Laws.Bits64
import Derived.Test.YtakioblpgmjdaaaDFD
set_option linter.unusedSectionVars false
set_option linter.unusedVariables false
set_option linter.unusedSimpArgs false
namespace Go.Proofs.Ytakioblpgmjdaaa
section
open Go Go.TJ Go.Proofs
variable [Dm]
section
variable {Y : Type} {T : Tids} {L : Law Y} {h : Hp} {δ : Ix (Gf Y)} {i b : Nat}
theorem ilock_ok (hL : L.Ok) (hA : At L i ⟨b, 1, 0⟩ δ.g) : CallW Try.prog false (SitW Try.prog (XF T L) i) 112 #[.pointer (some ⟨b, 2, none⟩)] h δ (Ret (MuQ L i h δ.d δ.g ⟨b, 6, 0⟩)) := by
  refine CallW.start (n := 13) rfl rfl ?_
  (repeat (first | refine EK.seq ?_ | refine EK.region ?_))
  refine ER.ext rfl rfl rfl rfl (fun Q X hq => semW_mark0 (vs := #[]) (by simp) (by simp) hq) ?_
  (repeat (first | refine EK.seq ?_ | refine EK.region ?_ | refine ER.done ?_ | refine ER.move rfl rfl rfl ?_ | refine ER.nilCheck rfl rfl rfl ?_ | refine ER.fieldAddr rfl rfl rfl ?_))
  refine ER.casM (c := 1) hL rfl rfl rfl rfl hA (by decide) fun γ₁ q1 a1 m1 c1 l1 => ⟨fun e => ?_, fun ne => ?_⟩
  · obtain ⟨eb, ek, es, en⟩ := mu_word (x1 := 0) (x2 := 0) (x3 := 0) (x4 := 0) m1 (by decide) (by decide) (by decide) e
    refine ⟨{ γ₁.mu b with b := 1 }, 6, 0, by simp only [Mu.word, ek, es, en]; rfl, rfl, .take0 eb es, fun γ₂ q2 a2 e2 => ?_⟩
    (repeat (first | refine EK.seq ?_ | refine EK.region ?_ | refine ER.done ?_ | refine EK.condT rfl ?_))
    refine ER.ext rfl rfl rfl rfl (fun Q X hq => semW_mark0 (vs := #[]) (by simp) (by simp) hq) ?_
    (repeat (first | refine EK.region ?_ | refine ER.done ?_ | refine ER.move rfl rfl rfl ?_))
    refine ER.unsafeM hL rfl rfl rfl (by decide) a2 (by decide) fun γ₃ q3 a3 => ?_
    refine ER.ext rfl rfl rfl rfl (fun Q X hq => semW_marked (by simp) (by simp) hq (hDu := a3.nd)) ?_
    (repeat (first | refine ER.done ?_ | refine EK.ret ?_))
    exact EU.ret0 rfl ⟨rfl, rfl, rfl, q2.trans hL q3, a3⟩
  · (repeat (first | refine EK.region ?_ | refine ER.done ?_ | refine EK.skip ?_ | refine ER.move rfl rfl rfl ?_ | refine EK.condF rfl ?_))
    refine ER.callR rfl rfl rfl rfl rfl (lockSlow_ok hL a1) ?_
    rintro v h' ⟨d', γ'⟩ ⟨rfl, rfl, e1, r1, a1'⟩
    simp only at e1 r1 a1'
    subst e1
    (repeat refine ER.done ?_)
    refine EK.done ?_
    exact EU.ret0 rfl ⟨rfl, rfl, rfl, q1.trans hL r1, a1'⟩
structure Uk (Y : Type) where
  m : Mu
  γ : Gf Y
  lv : Bool
def Uk.E (b : Nat) (s : Uk Y) : Env := [(4, .int .i32 (W s.m.b s.m.k s.m.s s.m.n)), (0, .pointer (some ⟨b, 2, none⟩))]
structure Uk.Ok (L : Law Y) (i b d : Nat) (γ₀ : Gf Y) (h : Hp) (s : Uk Y) (h' : Hp) (δ' : Ix (Gf Y)) : Prop where
  hp : h' = h
  d : δ'.d = d
  r0 : Ro L i γ₀ s.γ
  r1 : Ro L i s.γ δ'.g
  mu : s.lv = false -> (s.γ.mu b).word = W 0 0 0 s.m.n
  a : At L i ⟨b, if s.lv then 0 else 7, 0⟩ δ'.g
  b1 : s.m.b <= 1
  k1 : s.m.k <= 1
  s1 : s.m.s <= 1
  n1 : s.m.n <= 200
  go : s.lv = true -> s.m.n = 0 \/ s.m.b = 1 \/ s.m.k = 1 \/ s.m.s = 1
  st : s.lv = false -> s.m.b = 0 /\ s.m.k = 0 /\ s.m.s = 0 /\ s.m.n ≠ 0
theorem W_add1 {k s n : Nat} (hk : k <= 1) (hs : s <= 1) (hn : n <= 1000) : IntKind.i32.wrap (W 0 k s n + 1) = W 1 k s n := by
  unfold W
  rw [show ((0 + 2 * k + 4 * s + 8 * n : Nat) : Int) + 1 = ((1 + 2 * k + 4 * s + 8 * n : Nat) : Int) by omega]
  exact i32_nat (by omega)
set_option maxHeartbeats 4000000 in
theorem unlockSlow_ok (hL : L.Ok) {k s n c : Nat} (hk : k <= 1) (hs : s <= 1) (hn0 : n <= 200) (hA : At L i ⟨b, c, 0⟩ δ.g) (hc : (c = 0 /\ s = 0 /\ (n = 0 \/ k = 1)) \/ (c = 7 /\ s = 0 /\ n ≠ 0 /\ k = 0 /\ (δ.g.mu b).word = W 0 0 0 n) \/ (c = 9 /\ s = 1)) :
    CallW Try.prog false (SitW Try.prog (XF T L) i) 122 #[.pointer (some ⟨b, 2, none⟩), .int .i32 (W 0 k s n)] h δ (Ret (MuQ L i h δ.d δ.g ⟨b, 0, 0⟩)) := by
  refine CallW.start (n := 43) rfl rfl ?_
  have hn : n <= 1000 := by omega
  (repeat (first | refine EK.seq ?_ | refine EK.region ?_ | refine ER.move rfl rfl rfl ?_))
  refine ER.add (kd := .i32) (r := W 1 k s n) rfl rfl rfl rfl (W_add1 hk hs hn) ?_
  refine ER.andI (b := 1) rfl rfl rfl rfl (W_and (by decide) hk hs hn).2.1 ?_
  (repeat (first | refine EK.seq ?_ | refine EK.region ?_ | refine ER.done ?_ | refine EK.skip ?_ | refine ER.move rfl rfl rfl ?_ | refine ER.cmpF rfl rfl rfl rfl rfl (by first | (dsimp only [cmpP]; omega) | exact rfl | exact Int.le_refl _) ?_ | refine EK.condF rfl ?_))
  refine ER.andI (b := 4) rfl rfl rfl rfl (W_and (by decide) hk hs hn).2.2.2.1 ?_
  have hs' : s = 0 \/ s = 1 := by omega
  rcases hs' with rfl | rfl
  · (repeat (first | refine EK.seq ?_ | refine EK.region ?_ | refine ER.done ?_ | refine EK.block ?_ | refine ER.move rfl rfl rfl ?_ | refine ER.assign rfl rfl rfl ?_ | refine ER.cmpT rfl rfl rfl rfl rfl (by first | (dsimp only [cmpP]; omega) | exact rfl | exact Int.le_refl _) ?_ | refine EK.condT rfl ?_))
    refine EK.loopInv (Uk.E b) (Uk.Ok L i b δ.d δ.g h) (fun s => pot L s.γ) ⟨⟨0, k, 0, n, 0⟩, δ.g, decide (c = 0)⟩ ⟨rfl, rfl, trivial⟩ ⟨rfl, rfl, Ro.refl hL _ _, Ro.refl hL _ _, ?_, ?_, Nat.zero_le _, hk, Nat.zero_le _, hn0, ?_, ?_⟩ ?_
    · intro e
      rcases hc with ⟨rfl, _⟩ | ⟨_, _, _, _, h5⟩ | ⟨_, h⟩
      · simp at e
      · exact h5
      · cases h
    · rcases hc with ⟨rfl, _⟩ | ⟨rfl, _⟩ | ⟨_, h⟩
      · exact hA
      · exact hA
      · cases h
    · intro e
      rcases hc with ⟨rfl, _, h⟩ | ⟨rfl, _⟩ | ⟨_, h⟩
      · rcases h with h | h
        · exact .inl h
        · exact .inr (.inr (.inl h))
      · simp at e
      · cases h
    · intro e
      rcases hc with ⟨rfl, _⟩ | ⟨_, _, h3, h4, _⟩ | ⟨_, h⟩
      · simp at e
      · exact ⟨rfl, h4, rfl, h3⟩
      · cases h
    intro s h' δ' hI hback
    obtain ⟨rfl, hd, r0, r1, hmu, ha, hb1, hk1, hs1, hn1, hgo, hst⟩ := hI
    obtain ⟨⟨mb, mk, ms, mn, mz⟩, γs, lv⟩ := s
    simp only at hmu r0 r1 ha hb1 hk1 hs1 hn1 hgo hst
    have hn1' : mn <= 1000 := by omega
    refine EK.sub (show subE [(4, .int .i32 (W mb mk ms mn)), (0, .pointer (some ⟨b, 2, none⟩))] _ from ⟨rfl, rfl, trivial⟩) ?_
    cases lv
    · obtain ⟨rfl, rfl, rfl, h0⟩ := hst rfl
      replace ha : At L i ⟨b, 7, 0⟩ δ'.g := ha
      (repeat (first | refine EK.seq ?_ | refine EK.region ?_ | refine ER.done ?_ | refine EK.skip ?_ | refine EK.block ?_ | refine EK.inBlock ?_ | refine ER.move rfl rfl rfl ?_ | refine ER.assign rfl rfl rfl ?_ | refine ER.nilCheck rfl rfl rfl ?_ | refine ER.fieldAddr rfl rfl rfl ?_ | refine ER.load1 rfl rfl rfl (hcell_of (by assumption) rfl) ?_ | refine ER.no rfl rfl ?_ | refine ER.noU rfl ?_ | refine ER.eqV rfl rfl rfl rfl rfl ?_ | refine ER.neqV rfl rfl rfl rfl rfl ?_ | refine ER.eqA rfl rfl rfl rfl rfl ?_ | refine ER.neqA rfl rfl rfl rfl rfl ?_ | refine ER.notB rfl rfl rfl ?_ | refine ER.pickT rfl rfl rfl rfl ?_ | refine ER.pickF rfl rfl rfl rfl ?_ | refine ER.extract rfl rfl rfl rfl ?_ | refine ER.cmpT rfl rfl rfl rfl rfl (by first | (dsimp only [cmpP]; omega) | exact rfl | exact Int.le_refl _) ?_ | refine ER.cmpF rfl rfl rfl rfl rfl (by first | (dsimp only [cmpP]; omega) | exact rfl | exact Int.le_refl _) ?_ | refine ER.boxA rfl rfl rfl ?_ | refine ER.box rfl rfl rfl ?_ | refine ER.allocA rfl rfl ?_ | refine ER.alloc rfl rfl ?_ | refine ER.add (kd := .i64) rfl rfl rfl rfl (i64_in (by omega) (by omega)) ?_ | refine ER.sub' (kd := .i64) rfl rfl rfl rfl (i64_in (by omega) (by omega)) ?_ | refine ER.mul (kd := .i64) rfl rfl rfl rfl (i64_in (by omega) (by omega)) ?_ | refine ER.rem (kd := .i64) rfl rfl rfl rfl (by decide) rfl ?_ | refine ER.indexArr rfl rfl rfl rfl (by omega) (by omega) ?_ | refine ER.len1 rfl rfl rfl ?_ | refine ER.indexSl rfl rfl rfl rfl (by omega) (by omega) ?_ | refine EK.condT rfl ?_ | refine EK.condF rfl ?_ | refine ER.andI (b := 5) rfl rfl rfl rfl (W_and (by decide) (by decide) (by decide) (by omega)).1 ?_ | refine ER.andI (b := 1) rfl rfl rfl rfl (W_and (by decide) (by decide) (by decide) (by omega)).2.1 ?_ | refine ER.andI (b := 2) rfl rfl rfl rfl (W_and (by decide) (by decide) (by decide) (by omega)).2.2.1 ?_ | refine ER.andI (b := 4) rfl rfl rfl rfl (W_and (by decide) (by decide) (by decide) (by omega)).2.2.2.1 ?_ | refine ER.andI (b := 3) rfl rfl rfl rfl (W_and (by decide) (by decide) (by decide) (by omega)).2.2.2.2.1 ?_ | refine ER.andI (b := 7) rfl rfl rfl rfl (W_and (by decide) (by decide) (by decide) (by omega)).2.2.2.2.2 ?_ | refine ER.binI (op := .or) (b := 1) rfl rfl rfl rfl (by rw [binOp_bits (.inr rfl), (W_or (by decide) (by decide) (by decide) (by omega)).1]) ?_ | refine ER.binI (op := .or) (b := 2) rfl rfl rfl rfl (by rw [binOp_bits (.inr rfl), (W_or (by decide) (by decide) (by decide) (by omega)).2.1]) ?_ | refine ER.binI (op := .or) (b := 4) rfl rfl rfl rfl (by rw [binOp_bits (.inr rfl), (W_or (by decide) (by decide) (by decide) (by omega)).2.2]) ?_ | refine ER.binI2 (op := .shr) rfl rfl rfl rfl (W_shr (by decide) (by decide) (by decide)) ?_ | refine ER.binI (op := .andNot) rfl rfl rfl rfl (by rw [binOp_andN, W_andNot (by decide) (by decide) (by omega)]) ?_ | refine ER.add (kd := .i32) (b := 8) rfl rfl rfl rfl (W_add8 (by decide) (by decide) (by decide) (by omega)) ?_ | refine ER.sub' (kd := .i32) (b := 8) rfl rfl rfl rfl (W_sub8 (by decide) (by decide) (by decide) (by omega) (by omega)) ?_))
      refine ER.casM (c := 7) hL rfl rfl rfl rfl ha (by decide) fun γ₁ q1 a1 m1 c1 l1 => ⟨fun e => ?_, fun ne => ?_⟩
      · obtain ⟨eb, ek, es, en⟩ := mu_word m1 (by decide) (by decide) (by decide) e
        refine ⟨{ γ₁.mu b with n := (γ₁.mu b).n - 1, k := 1 }, 8, 0, by simp only [Mu.word, W, eb, es, en], rfl, .wake eb ek es (by omega), fun γ₂ q2 a2 e2 => ?_⟩
        (repeat (first | refine EK.seq ?_ | refine EK.region ?_ | refine ER.done ?_ | refine EK.skip ?_ | refine EK.block ?_ | refine EK.inBlock ?_ | refine ER.move rfl rfl rfl ?_ | refine ER.assign rfl rfl rfl ?_ | refine ER.nilCheck rfl rfl rfl ?_ | refine ER.fieldAddr rfl rfl rfl ?_ | refine ER.load1 rfl rfl rfl (hcell_of (by assumption) rfl) ?_ | refine ER.no rfl rfl ?_ | refine ER.noU rfl ?_ | refine ER.eqV rfl rfl rfl rfl rfl ?_ | refine ER.neqV rfl rfl rfl rfl rfl ?_ | refine ER.eqA rfl rfl rfl rfl rfl ?_ | refine ER.neqA rfl rfl rfl rfl rfl ?_ | refine ER.notB rfl rfl rfl ?_ | refine ER.pickT rfl rfl rfl rfl ?_ | refine ER.pickF rfl rfl rfl rfl ?_ | refine ER.extract rfl rfl rfl rfl ?_ | refine ER.cmpT rfl rfl rfl rfl rfl (by first | (dsimp only [cmpP]; omega) | exact rfl | exact Int.le_refl _) ?_ | refine ER.cmpF rfl rfl rfl rfl rfl (by first | (dsimp only [cmpP]; omega) | exact rfl | exact Int.le_refl _) ?_ | refine ER.boxA rfl rfl rfl ?_ | refine ER.box rfl rfl rfl ?_ | refine ER.allocA rfl rfl ?_ | refine ER.alloc rfl rfl ?_ | refine ER.add (kd := .i64) rfl rfl rfl rfl (i64_in (by omega) (by omega)) ?_ | refine ER.sub' (kd := .i64) rfl rfl rfl rfl (i64_in (by omega) (by omega)) ?_ | refine ER.mul (kd := .i64) rfl rfl rfl rfl (i64_in (by omega) (by omega)) ?_ | refine ER.rem (kd := .i64) rfl rfl rfl rfl (by decide) rfl ?_ | refine ER.indexArr rfl rfl rfl rfl (by omega) (by omega) ?_ | refine ER.len1 rfl rfl rfl ?_ | refine ER.indexSl rfl rfl rfl rfl (by omega) (by omega) ?_ | refine EK.condT rfl ?_ | refine EK.condF rfl ?_ | refine ER.andI (b := 5) rfl rfl rfl rfl (W_and (by decide) (by decide) (by decide) (by omega)).1 ?_ | refine ER.andI (b := 1) rfl rfl rfl rfl (W_and (by decide) (by decide) (by decide) (by omega)).2.1 ?_ | refine ER.andI (b := 2) rfl rfl rfl rfl (W_and (by decide) (by decide) (by decide) (by omega)).2.2.1 ?_ | refine ER.andI (b := 4) rfl rfl rfl rfl (W_and (by decide) (by decide) (by decide) (by omega)).2.2.2.1 ?_ | refine ER.andI (b := 3) rfl rfl rfl rfl (W_and (by decide) (by decide) (by decide) (by omega)).2.2.2.2.1 ?_ | refine ER.andI (b := 7) rfl rfl rfl rfl (W_and (by decide) (by decide) (by decide) (by omega)).2.2.2.2.2 ?_ | refine ER.binI (op := .or) (b := 1) rfl rfl rfl rfl (by rw [binOp_bits (.inr rfl), (W_or (by decide) (by decide) (by decide) (by omega)).1]) ?_ | refine ER.binI (op := .or) (b := 2) rfl rfl rfl rfl (by rw [binOp_bits (.inr rfl), (W_or (by decide) (by decide) (by decide) (by omega)).2.1]) ?_ | refine ER.binI (op := .or) (b := 4) rfl rfl rfl rfl (by rw [binOp_bits (.inr rfl), (W_or (by decide) (by decide) (by decide) (by omega)).2.2]) ?_ | refine ER.binI2 (op := .shr) rfl rfl rfl rfl (W_shr (by decide) (by decide) (by decide)) ?_ | refine ER.binI (op := .andNot) rfl rfl rfl rfl (by rw [binOp_andN, W_andNot (by decide) (by decide) (by omega)]) ?_ | refine ER.add (kd := .i32) (b := 8) rfl rfl rfl rfl (W_add8 (by decide) (by decide) (by decide) (by omega)) ?_ | refine ER.sub' (kd := .i32) (b := 8) rfl rfl rfl rfl (W_sub8 (by decide) (by decide) (by decide) (by omega) (by omega)) ?_))
        refine ER.semrelM hL rfl rfl rfl rfl a2 (.inl rfl) fun γ₃ q3 a3 => ?_
        (repeat (first | refine EK.seq ?_ | refine EK.region ?_ | refine ER.done ?_ | refine EK.skip ?_ | refine EK.block ?_ | refine EK.inBlock ?_ | refine ER.move rfl rfl rfl ?_ | refine ER.assign rfl rfl rfl ?_ | refine ER.nilCheck rfl rfl rfl ?_ | refine ER.fieldAddr rfl rfl rfl ?_ | refine ER.load1 rfl rfl rfl (hcell_of (by assumption) rfl) ?_ | refine ER.no rfl rfl ?_ | refine ER.noU rfl ?_ | refine ER.eqV rfl rfl rfl rfl rfl ?_ | refine ER.neqV rfl rfl rfl rfl rfl ?_ | refine ER.eqA rfl rfl rfl rfl rfl ?_ | refine ER.neqA rfl rfl rfl rfl rfl ?_ | refine ER.notB rfl rfl rfl ?_ | refine ER.pickT rfl rfl rfl rfl ?_ | refine ER.pickF rfl rfl rfl rfl ?_ | refine ER.extract rfl rfl rfl rfl ?_ | refine ER.cmpT rfl rfl rfl rfl rfl (by first | (dsimp only [cmpP]; omega) | exact rfl | exact Int.le_refl _) ?_ | refine ER.cmpF rfl rfl rfl rfl rfl (by first | (dsimp only [cmpP]; omega) | exact rfl | exact Int.le_refl _) ?_ | refine ER.boxA rfl rfl rfl ?_ | refine ER.box rfl rfl rfl ?_ | refine ER.allocA rfl rfl ?_ | refine ER.alloc rfl rfl ?_ | refine ER.add (kd := .i64) rfl rfl rfl rfl (i64_in (by omega) (by omega)) ?_ | refine ER.sub' (kd := .i64) rfl rfl rfl rfl (i64_in (by omega) (by omega)) ?_ | refine ER.mul (kd := .i64) rfl rfl rfl rfl (i64_in (by omega) (by omega)) ?_ | refine ER.rem (kd := .i64) rfl rfl rfl rfl (by decide) rfl ?_ | refine ER.indexArr rfl rfl rfl rfl (by omega) (by omega) ?_ | refine ER.len1 rfl rfl rfl ?_ | refine ER.indexSl rfl rfl rfl rfl (by omega) (by omega) ?_ | refine EK.condT rfl ?_ | refine EK.condF rfl ?_ | refine ER.andI (b := 5) rfl rfl rfl rfl (W_and (by decide) (by decide) (by decide) (by omega)).1 ?_ | refine ER.andI (b := 1) rfl rfl rfl rfl (W_and (by decide) (by decide) (by decide) (by omega)).2.1 ?_ | refine ER.andI (b := 2) rfl rfl rfl rfl (W_and (by decide) (by decide) (by decide) (by omega)).2.2.1 ?_ | refine ER.andI (b := 4) rfl rfl rfl rfl (W_and (by decide) (by decide) (by decide) (by omega)).2.2.2.1 ?_ | refine ER.andI (b := 3) rfl rfl rfl rfl (W_and (by decide) (by decide) (by decide) (by omega)).2.2.2.2.1 ?_ | refine ER.andI (b := 7) rfl rfl rfl rfl (W_and (by decide) (by decide) (by decide) (by omega)).2.2.2.2.2 ?_ | refine ER.binI (op := .or) (b := 1) rfl rfl rfl rfl (by rw [binOp_bits (.inr rfl), (W_or (by decide) (by decide) (by decide) (by omega)).1]) ?_ | refine ER.binI (op := .or) (b := 2) rfl rfl rfl rfl (by rw [binOp_bits (.inr rfl), (W_or (by decide) (by decide) (by decide) (by omega)).2.1]) ?_ | refine ER.binI (op := .or) (b := 4) rfl rfl rfl rfl (by rw [binOp_bits (.inr rfl), (W_or (by decide) (by decide) (by decide) (by omega)).2.2]) ?_ | refine ER.binI2 (op := .shr) rfl rfl rfl rfl (W_shr (by decide) (by decide) (by decide)) ?_ | refine ER.binI (op := .andNot) rfl rfl rfl rfl (by rw [binOp_andN, W_andNot (by decide) (by decide) (by omega)]) ?_ | refine ER.add (kd := .i32) (b := 8) rfl rfl rfl rfl (W_add8 (by decide) (by decide) (by decide) (by omega)) ?_ | refine ER.sub' (kd := .i32) (b := 8) rfl rfl rfl rfl (W_sub8 (by decide) (by decide) (by decide) (by omega) (by omega)) ?_))
        refine EK.ret ?_
        exact EU.ret0 rfl ⟨rfl, rfl, hd, ((r0.trans hL r1).trans hL q2).trans hL q3, a3⟩
      · (repeat (first | refine EK.seq ?_ | refine EK.region ?_ | refine ER.done ?_ | refine EK.skip ?_ | refine EK.block ?_ | refine EK.inBlock ?_ | refine ER.move rfl rfl rfl ?_ | refine ER.assign rfl rfl rfl ?_ | refine ER.nilCheck rfl rfl rfl ?_ | refine ER.fieldAddr rfl rfl rfl ?_ | refine ER.load1 rfl rfl rfl (hcell_of (by assumption) rfl) ?_ | refine ER.no rfl rfl ?_ | refine ER.noU rfl ?_ | refine ER.eqV rfl rfl rfl rfl rfl ?_ | refine ER.neqV rfl rfl rfl rfl rfl ?_ | refine ER.eqA rfl rfl rfl rfl rfl ?_ | refine ER.neqA rfl rfl rfl rfl rfl ?_ | refine ER.notB rfl rfl rfl ?_ | refine ER.pickT rfl rfl rfl rfl ?_ | refine ER.pickF rfl rfl rfl rfl ?_ | refine ER.extract rfl rfl rfl rfl ?_ | refine ER.cmpT rfl rfl rfl rfl rfl (by first | (dsimp only [cmpP]; omega) | exact rfl | exact Int.le_refl _) ?_ | refine ER.cmpF rfl rfl rfl rfl rfl (by first | (dsimp only [cmpP]; omega) | exact rfl | exact Int.le_refl _) ?_ | refine ER.boxA rfl rfl rfl ?_ | refine ER.box rfl rfl rfl ?_ | refine ER.allocA rfl rfl ?_ | refine ER.alloc rfl rfl ?_ | refine ER.add (kd := .i64) rfl rfl rfl rfl (i64_in (by omega) (by omega)) ?_ | refine ER.sub' (kd := .i64) rfl rfl rfl rfl (i64_in (by omega) (by omega)) ?_ | refine ER.mul (kd := .i64) rfl rfl rfl rfl (i64_in (by omega) (by omega)) ?_ | refine ER.rem (kd := .i64) rfl rfl rfl rfl (by decide) rfl ?_ | refine ER.indexArr rfl rfl rfl rfl (by omega) (by omega) ?_ | refine ER.len1 rfl rfl rfl ?_ | refine ER.indexSl rfl rfl rfl rfl (by omega) (by omega) ?_ | refine EK.condT rfl ?_ | refine EK.condF rfl ?_ | refine ER.andI (b := 5) rfl rfl rfl rfl (W_and (by decide) (by decide) (by decide) (by omega)).1 ?_ | refine ER.andI (b := 1) rfl rfl rfl rfl (W_and (by decide) (by decide) (by decide) (by omega)).2.1 ?_ | refine ER.andI (b := 2) rfl rfl rfl rfl (W_and (by decide) (by decide) (by decide) (by omega)).2.2.1 ?_ | refine ER.andI (b := 4) rfl rfl rfl rfl (W_and (by decide) (by decide) (by decide) (by omega)).2.2.2.1 ?_ | refine ER.andI (b := 3) rfl rfl rfl rfl (W_and (by decide) (by decide) (by decide) (by omega)).2.2.2.2.1 ?_ | refine ER.andI (b := 7) rfl rfl rfl rfl (W_and (by decide) (by decide) (by decide) (by omega)).2.2.2.2.2 ?_ | refine ER.binI (op := .or) (b := 1) rfl rfl rfl rfl (by rw [binOp_bits (.inr rfl), (W_or (by decide) (by decide) (by decide) (by omega)).1]) ?_ | refine ER.binI (op := .or) (b := 2) rfl rfl rfl rfl (by rw [binOp_bits (.inr rfl), (W_or (by decide) (by decide) (by decide) (by omega)).2.1]) ?_ | refine ER.binI (op := .or) (b := 4) rfl rfl rfl rfl (by rw [binOp_bits (.inr rfl), (W_or (by decide) (by decide) (by decide) (by omega)).2.2]) ?_ | refine ER.binI2 (op := .shr) rfl rfl rfl rfl (W_shr (by decide) (by decide) (by decide)) ?_ | refine ER.binI (op := .andNot) rfl rfl rfl rfl (by rw [binOp_andN, W_andNot (by decide) (by decide) (by omega)]) ?_ | refine ER.add (kd := .i32) (b := 8) rfl rfl rfl rfl (W_add8 (by decide) (by decide) (by decide) (by omega)) ?_ | refine ER.sub' (kd := .i32) (b := 8) rfl rfl rfl rfl (W_sub8 (by decide) (by decide) (by decide) (by omega) (by omega)) ?_))
        refine ER.loadM (c := 7) hL norace_unlockSlow rfl rfl rfl a1 (by decide) fun γ₃ q3 a3 m3 c3 l3 => ?_
        have hlt : pot L γ₃ < pot L γs := Nat.lt_of_le_of_lt q3.pot (Nat.lt_of_le_of_ne (r1.trans hL q1).pot fun z => ne (by rw [((r1.trans hL q1).same z).1]; exact hmu rfl))
        by_cases hg : (γ₃.mu b).n = 0 \/ (γ₃.mu b).b = 1 \/ (γ₃.mu b).k = 1 \/ (γ₃.mu b).s = 1
        · refine .inl ⟨0, 0, .off hg, fun γ₄ q4 a4 e4 p4 _ => ?_⟩
          (repeat (first | refine EK.seq ?_ | refine EK.region ?_ | refine ER.done ?_ | refine EK.skip ?_ | refine EK.block ?_ | refine EK.inBlock ?_ | refine ER.move rfl rfl rfl ?_ | refine ER.assign rfl rfl rfl ?_ | refine ER.nilCheck rfl rfl rfl ?_ | refine ER.fieldAddr rfl rfl rfl ?_ | refine ER.load1 rfl rfl rfl (hcell_of (by assumption) rfl) ?_ | refine ER.no rfl rfl ?_ | refine ER.noU rfl ?_ | refine ER.eqV rfl rfl rfl rfl rfl ?_ | refine ER.neqV rfl rfl rfl rfl rfl ?_ | refine ER.eqA rfl rfl rfl rfl rfl ?_ | refine ER.neqA rfl rfl rfl rfl rfl ?_ | refine ER.notB rfl rfl rfl ?_ | refine ER.pickT rfl rfl rfl rfl ?_ | refine ER.pickF rfl rfl rfl rfl ?_ | refine ER.extract rfl rfl rfl rfl ?_ | refine ER.cmpT rfl rfl rfl rfl rfl (by first | (dsimp only [cmpP]; omega) | exact rfl | exact Int.le_refl _) ?_ | refine ER.cmpF rfl rfl rfl rfl rfl (by first | (dsimp only [cmpP]; omega) | exact rfl | exact Int.le_refl _) ?_ | refine ER.boxA rfl rfl rfl ?_ | refine ER.box rfl rfl rfl ?_ | refine ER.allocA rfl rfl ?_ | refine ER.alloc rfl rfl ?_ | refine ER.add (kd := .i64) rfl rfl rfl rfl (i64_in (by omega) (by omega)) ?_ | refine ER.sub' (kd := .i64) rfl rfl rfl rfl (i64_in (by omega) (by omega)) ?_ | refine ER.mul (kd := .i64) rfl rfl rfl rfl (i64_in (by omega) (by omega)) ?_ | refine ER.rem (kd := .i64) rfl rfl rfl rfl (by decide) rfl ?_ | refine ER.indexArr rfl rfl rfl rfl (by omega) (by omega) ?_ | refine ER.len1 rfl rfl rfl ?_ | refine ER.indexSl rfl rfl rfl rfl (by omega) (by omega) ?_ | refine EK.condT rfl ?_ | refine EK.condF rfl ?_ | refine ER.andI (b := 5) rfl rfl rfl rfl (W_and (by decide) (by decide) (by decide) (by omega)).1 ?_ | refine ER.andI (b := 1) rfl rfl rfl rfl (W_and (by decide) (by decide) (by decide) (by omega)).2.1 ?_ | refine ER.andI (b := 2) rfl rfl rfl rfl (W_and (by decide) (by decide) (by decide) (by omega)).2.2.1 ?_ | refine ER.andI (b := 4) rfl rfl rfl rfl (W_and (by decide) (by decide) (by decide) (by omega)).2.2.2.1 ?_ | refine ER.andI (b := 3) rfl rfl rfl rfl (W_and (by decide) (by decide) (by decide) (by omega)).2.2.2.2.1 ?_ | refine ER.andI (b := 7) rfl rfl rfl rfl (W_and (by decide) (by decide) (by decide) (by omega)).2.2.2.2.2 ?_ | refine ER.binI (op := .or) (b := 1) rfl rfl rfl rfl (by rw [binOp_bits (.inr rfl), (W_or (by decide) (by decide) (by decide) (by omega)).1]) ?_ | refine ER.binI (op := .or) (b := 2) rfl rfl rfl rfl (by rw [binOp_bits (.inr rfl), (W_or (by decide) (by decide) (by decide) (by omega)).2.1]) ?_ | refine ER.binI (op := .or) (b := 4) rfl rfl rfl rfl (by rw [binOp_bits (.inr rfl), (W_or (by decide) (by decide) (by decide) (by omega)).2.2]) ?_ | refine ER.binI2 (op := .shr) rfl rfl rfl rfl (W_shr (by decide) (by decide) (by decide)) ?_ | refine ER.binI (op := .andNot) rfl rfl rfl rfl (by rw [binOp_andN, W_andNot (by decide) (by decide) (by omega)]) ?_ | refine ER.add (kd := .i32) (b := 8) rfl rfl rfl rfl (W_add8 (by decide) (by decide) (by decide) (by omega)) ?_ | refine ER.sub' (kd := .i32) (b := 8) rfl rfl rfl rfl (W_sub8 (by decide) (by decide) (by decide) (by omega) (by omega)) ?_))
          refine EK.sub ?_ (hback ⟨γ₃.mu b, γ₄, true⟩ _ _ (Nat.lt_of_le_of_lt p4 hlt) ⟨rfl, hd, (r0.trans hL r1).trans hL (q1.trans hL q4), Ro.refl hL _ _, nofun, a4, m3.b1, m3.k1, m3.s1, mi_n m3 (fun x => ct_le x) l3, fun _ => hg, nofun⟩)
          exact ⟨rfl, rfl, trivial⟩
        · refine .inr ?_
          (repeat (first | refine EK.seq ?_ | refine EK.region ?_ | refine ER.done ?_ | refine EK.skip ?_ | refine EK.block ?_ | refine EK.inBlock ?_ | refine ER.move rfl rfl rfl ?_ | refine ER.assign rfl rfl rfl ?_ | refine ER.nilCheck rfl rfl rfl ?_ | refine ER.fieldAddr rfl rfl rfl ?_ | refine ER.load1 rfl rfl rfl (hcell_of (by assumption) rfl) ?_ | refine ER.no rfl rfl ?_ | refine ER.noU rfl ?_ | refine ER.eqV rfl rfl rfl rfl rfl ?_ | refine ER.neqV rfl rfl rfl rfl rfl ?_ | refine ER.eqA rfl rfl rfl rfl rfl ?_ | refine ER.neqA rfl rfl rfl rfl rfl ?_ | refine ER.notB rfl rfl rfl ?_ | refine ER.pickT rfl rfl rfl rfl ?_ | refine ER.pickF rfl rfl rfl rfl ?_ | refine ER.extract rfl rfl rfl rfl ?_ | refine ER.cmpT rfl rfl rfl rfl rfl (by first | (dsimp only [cmpP]; omega) | exact rfl | exact Int.le_refl _) ?_ | refine ER.cmpF rfl rfl rfl rfl rfl (by first | (dsimp only [cmpP]; omega) | exact rfl | exact Int.le_refl _) ?_ | refine ER.boxA rfl rfl rfl ?_ | refine ER.box rfl rfl rfl ?_ | refine ER.allocA rfl rfl ?_ | refine ER.alloc rfl rfl ?_ | refine ER.add (kd := .i64) rfl rfl rfl rfl (i64_in (by omega) (by omega)) ?_ | refine ER.sub' (kd := .i64) rfl rfl rfl rfl (i64_in (by omega) (by omega)) ?_ | refine ER.mul (kd := .i64) rfl rfl rfl rfl (i64_in (by omega) (by omega)) ?_ | refine ER.rem (kd := .i64) rfl rfl rfl rfl (by decide) rfl ?_ | refine ER.indexArr rfl rfl rfl rfl (by omega) (by omega) ?_ | refine ER.len1 rfl rfl rfl ?_ | refine ER.indexSl rfl rfl rfl rfl (by omega) (by omega) ?_ | refine EK.condT rfl ?_ | refine EK.condF rfl ?_ | refine ER.andI (b := 5) rfl rfl rfl rfl (W_and (by decide) (by decide) (by decide) (by omega)).1 ?_ | refine ER.andI (b := 1) rfl rfl rfl rfl (W_and (by decide) (by decide) (by decide) (by omega)).2.1 ?_ | refine ER.andI (b := 2) rfl rfl rfl rfl (W_and (by decide) (by decide) (by decide) (by omega)).2.2.1 ?_ | refine ER.andI (b := 4) rfl rfl rfl rfl (W_and (by decide) (by decide) (by decide) (by omega)).2.2.2.1 ?_ | refine ER.andI (b := 3) rfl rfl rfl rfl (W_and (by decide) (by decide) (by decide) (by omega)).2.2.2.2.1 ?_ | refine ER.andI (b := 7) rfl rfl rfl rfl (W_and (by decide) (by decide) (by decide) (by omega)).2.2.2.2.2 ?_ | refine ER.binI (op := .or) (b := 1) rfl rfl rfl rfl (by rw [binOp_bits (.inr rfl), (W_or (by decide) (by decide) (by decide) (by omega)).1]) ?_ | refine ER.binI (op := .or) (b := 2) rfl rfl rfl rfl (by rw [binOp_bits (.inr rfl), (W_or (by decide) (by decide) (by decide) (by omega)).2.1]) ?_ | refine ER.binI (op := .or) (b := 4) rfl rfl rfl rfl (by rw [binOp_bits (.inr rfl), (W_or (by decide) (by decide) (by decide) (by omega)).2.2]) ?_ | refine ER.binI2 (op := .shr) rfl rfl rfl rfl (W_shr (by decide) (by decide) (by decide)) ?_ | refine ER.binI (op := .andNot) rfl rfl rfl rfl (by rw [binOp_andN, W_andNot (by decide) (by decide) (by omega)]) ?_ | refine ER.add (kd := .i32) (b := 8) rfl rfl rfl rfl (W_add8 (by decide) (by decide) (by decide) (by omega)) ?_ | refine ER.sub' (kd := .i32) (b := 8) rfl rfl rfl rfl (W_sub8 (by decide) (by decide) (by decide) (by omega) (by omega)) ?_))
          have hb3 := m3.b1
          have hk3 := m3.k1
          have hs3 := m3.s1
          have z1 : (γ₃.mu b).b = 0 := by omega
          have z2 : (γ₃.mu b).k = 0 := by omega
          have z3 : (γ₃.mu b).s = 0 := by omega
          refine EK.sub ?_ (hback ⟨γ₃.mu b, γ₃, false⟩ _ _ hlt ⟨rfl, hd, (r0.trans hL r1).trans hL (q1.trans hL q3), Ro.refl hL _ _, fun _ => by rw [Mu.word_eq, z1, z2, z3], a3, m3.b1, m3.k1, m3.s1, mi_n m3 (fun x => ct_le x) l3, nofun, fun _ => ⟨z1, z2, z3, fun z => hg (.inl z)⟩⟩)
          exact ⟨rfl, rfl, trivial⟩
    · replace ha : At L i ⟨b, 0, 0⟩ δ'.g := ha
      have hgo := hgo rfl
      (repeat (first | refine EK.seq ?_ | refine EK.region ?_ | refine ER.done ?_ | refine EK.skip ?_ | refine EK.block ?_ | refine EK.inBlock ?_ | refine ER.move rfl rfl rfl ?_ | refine ER.assign rfl rfl rfl ?_ | refine ER.nilCheck rfl rfl rfl ?_ | refine ER.fieldAddr rfl rfl rfl ?_ | refine ER.load1 rfl rfl rfl (hcell_of (by assumption) rfl) ?_ | refine ER.no rfl rfl ?_ | refine ER.noU rfl ?_ | refine ER.eqV rfl rfl rfl rfl rfl ?_ | refine ER.neqV rfl rfl rfl rfl rfl ?_ | refine ER.eqA rfl rfl rfl rfl rfl ?_ | refine ER.neqA rfl rfl rfl rfl rfl ?_ | refine ER.notB rfl rfl rfl ?_ | refine ER.pickT rfl rfl rfl rfl ?_ | refine ER.pickF rfl rfl rfl rfl ?_ | refine ER.extract rfl rfl rfl rfl ?_ | refine ER.cmpT rfl rfl rfl rfl rfl (by first | (dsimp only [cmpP]; omega) | exact rfl | exact Int.le_refl _) ?_ | refine ER.cmpF rfl rfl rfl rfl rfl (by first | (dsimp only [cmpP]; omega) | exact rfl | exact Int.le_refl _) ?_ | refine ER.boxA rfl rfl rfl ?_ | refine ER.box rfl rfl rfl ?_ | refine ER.allocA rfl rfl ?_ | refine ER.alloc rfl rfl ?_ | refine ER.add (kd := .i64) rfl rfl rfl rfl (i64_in (by omega) (by omega)) ?_ | refine ER.sub' (kd := .i64) rfl rfl rfl rfl (i64_in (by omega) (by omega)) ?_ | refine ER.mul (kd := .i64) rfl rfl rfl rfl (i64_in (by omega) (by omega)) ?_ | refine ER.rem (kd := .i64) rfl rfl rfl rfl (by decide) rfl ?_ | refine ER.indexArr rfl rfl rfl rfl (by omega) (by omega) ?_ | refine ER.len1 rfl rfl rfl ?_ | refine ER.indexSl rfl rfl rfl rfl (by omega) (by omega) ?_ | refine EK.condT rfl ?_ | refine EK.condF rfl ?_ | refine ER.andI (b := 5) rfl rfl rfl rfl (W_and (by decide) (by decide) (by decide) (by omega)).1 ?_ | refine ER.andI (b := 1) rfl rfl rfl rfl (W_and (by decide) (by decide) (by decide) (by omega)).2.1 ?_ | refine ER.andI (b := 2) rfl rfl rfl rfl (W_and (by decide) (by decide) (by decide) (by omega)).2.2.1 ?_ | refine ER.andI (b := 4) rfl rfl rfl rfl (W_and (by decide) (by decide) (by decide) (by omega)).2.2.2.1 ?_ | refine ER.andI (b := 3) rfl rfl rfl rfl (W_and (by decide) (by decide) (by decide) (by omega)).2.2.2.2.1 ?_ | refine ER.andI (b := 7) rfl rfl rfl rfl (W_and (by decide) (by decide) (by decide) (by omega)).2.2.2.2.2 ?_ | refine ER.binI (op := .or) (b := 1) rfl rfl rfl rfl (by rw [binOp_bits (.inr rfl), (W_or (by decide) (by decide) (by decide) (by omega)).1]) ?_ | refine ER.binI (op := .or) (b := 2) rfl rfl rfl rfl (by rw [binOp_bits (.inr rfl), (W_or (by decide) (by decide) (by decide) (by omega)).2.1]) ?_ | refine ER.binI (op := .or) (b := 4) rfl rfl rfl rfl (by rw [binOp_bits (.inr rfl), (W_or (by decide) (by decide) (by decide) (by omega)).2.2]) ?_ | refine ER.binI2 (op := .shr) rfl rfl rfl rfl (W_shr (by decide) (by decide) (by decide)) ?_ | refine ER.binI (op := .andNot) rfl rfl rfl rfl (by rw [binOp_andN, W_andNot (by decide) (by decide) (by omega)]) ?_ | refine ER.add (kd := .i32) (b := 8) rfl rfl rfl rfl (W_add8 (by decide) (by decide) (by decide) (by omega)) ?_ | refine ER.sub' (kd := .i32) (b := 8) rfl rfl rfl rfl (W_sub8 (by decide) (by decide) (by decide) (by omega) (by omega)) ?_))
      refine ER.binI2 (op := .shr) rfl rfl rfl rfl (W_shr hb1 hk1 hs1) ?_
      by_cases hz : mn = 0
      · subst hz
        (repeat (first | refine EK.seq ?_ | refine EK.region ?_ | refine ER.done ?_ | refine EK.skip ?_ | refine EK.block ?_ | refine EK.inBlock ?_ | refine ER.move rfl rfl rfl ?_ | refine ER.assign rfl rfl rfl ?_ | refine ER.nilCheck rfl rfl rfl ?_ | refine ER.fieldAddr rfl rfl rfl ?_ | refine ER.load1 rfl rfl rfl (hcell_of (by assumption) rfl) ?_ | refine ER.no rfl rfl ?_ | refine ER.noU rfl ?_ | refine ER.eqV rfl rfl rfl rfl rfl ?_ | refine ER.neqV rfl rfl rfl rfl rfl ?_ | refine ER.eqA rfl rfl rfl rfl rfl ?_ | refine ER.neqA rfl rfl rfl rfl rfl ?_ | refine ER.notB rfl rfl rfl ?_ | refine ER.pickT rfl rfl rfl rfl ?_ | refine ER.pickF rfl rfl rfl rfl ?_ | refine ER.extract rfl rfl rfl rfl ?_ | refine ER.cmpT rfl rfl rfl rfl rfl (by first | (dsimp only [cmpP]; omega) | exact rfl | exact Int.le_refl _) ?_ | refine ER.cmpF rfl rfl rfl rfl rfl (by first | (dsimp only [cmpP]; omega) | exact rfl | exact Int.le_refl _) ?_ | refine ER.boxA rfl rfl rfl ?_ | refine ER.box rfl rfl rfl ?_ | refine ER.allocA rfl rfl ?_ | refine ER.alloc rfl rfl ?_ | refine ER.add (kd := .i64) rfl rfl rfl rfl (i64_in (by omega) (by omega)) ?_ | refine ER.sub' (kd := .i64) rfl rfl rfl rfl (i64_in (by omega) (by omega)) ?_ | refine ER.mul (kd := .i64) rfl rfl rfl rfl (i64_in (by omega) (by omega)) ?_ | refine ER.rem (kd := .i64) rfl rfl rfl rfl (by decide) rfl ?_ | refine ER.indexArr rfl rfl rfl rfl (by omega) (by omega) ?_ | refine ER.len1 rfl rfl rfl ?_ | refine ER.indexSl rfl rfl rfl rfl (by omega) (by omega) ?_ | refine EK.condT rfl ?_ | refine EK.condF rfl ?_ | refine ER.andI (b := 5) rfl rfl rfl rfl (W_and (by decide) (by decide) (by decide) (by omega)).1 ?_ | refine ER.andI (b := 1) rfl rfl rfl rfl (W_and (by decide) (by decide) (by decide) (by omega)).2.1 ?_ | refine ER.andI (b := 2) rfl rfl rfl rfl (W_and (by decide) (by decide) (by decide) (by omega)).2.2.1 ?_ | refine ER.andI (b := 4) rfl rfl rfl rfl (W_and (by decide) (by decide) (by decide) (by omega)).2.2.2.1 ?_ | refine ER.andI (b := 3) rfl rfl rfl rfl (W_and (by decide) (by decide) (by decide) (by omega)).2.2.2.2.1 ?_ | refine ER.andI (b := 7) rfl rfl rfl rfl (W_and (by decide) (by decide) (by decide) (by omega)).2.2.2.2.2 ?_ | refine ER.binI (op := .or) (b := 1) rfl rfl rfl rfl (by rw [binOp_bits (.inr rfl), (W_or (by decide) (by decide) (by decide) (by omega)).1]) ?_ | refine ER.binI (op := .or) (b := 2) rfl rfl rfl rfl (by rw [binOp_bits (.inr rfl), (W_or (by decide) (by decide) (by decide) (by omega)).2.1]) ?_ | refine ER.binI (op := .or) (b := 4) rfl rfl rfl rfl (by rw [binOp_bits (.inr rfl), (W_or (by decide) (by decide) (by decide) (by omega)).2.2]) ?_ | refine ER.binI2 (op := .shr) rfl rfl rfl rfl (W_shr (by decide) (by decide) (by decide)) ?_ | refine ER.binI (op := .andNot) rfl rfl rfl rfl (by rw [binOp_andN, W_andNot (by decide) (by decide) (by omega)]) ?_ | refine ER.add (kd := .i32) (b := 8) rfl rfl rfl rfl (W_add8 (by decide) (by decide) (by decide) (by omega)) ?_ | refine ER.sub' (kd := .i32) (b := 8) rfl rfl rfl rfl (W_sub8 (by decide) (by decide) (by decide) (by omega) (by omega)) ?_))
        refine EK.ret ?_
        exact EU.ret0 rfl ⟨rfl, rfl, hd, r0.trans hL r1, ha⟩
      · (repeat (first | refine EK.seq ?_ | refine EK.region ?_ | refine ER.done ?_ | refine EK.skip ?_ | refine EK.block ?_ | refine EK.inBlock ?_ | refine ER.move rfl rfl rfl ?_ | refine ER.assign rfl rfl rfl ?_ | refine ER.nilCheck rfl rfl rfl ?_ | refine ER.fieldAddr rfl rfl rfl ?_ | refine ER.load1 rfl rfl rfl (hcell_of (by assumption) rfl) ?_ | refine ER.no rfl rfl ?_ | refine ER.noU rfl ?_ | refine ER.eqV rfl rfl rfl rfl rfl ?_ | refine ER.neqV rfl rfl rfl rfl rfl ?_ | refine ER.eqA rfl rfl rfl rfl rfl ?_ | refine ER.neqA rfl rfl rfl rfl rfl ?_ | refine ER.notB rfl rfl rfl ?_ | refine ER.pickT rfl rfl rfl rfl ?_ | refine ER.pickF rfl rfl rfl rfl ?_ | refine ER.extract rfl rfl rfl rfl ?_ | refine ER.cmpT rfl rfl rfl rfl rfl (by first | (dsimp only [cmpP]; omega) | exact rfl | exact Int.le_refl _) ?_ | refine ER.cmpF rfl rfl rfl rfl rfl (by first | (dsimp only [cmpP]; omega) | exact rfl | exact Int.le_refl _) ?_ | refine ER.boxA rfl rfl rfl ?_ | refine ER.box rfl rfl rfl ?_ | refine ER.allocA rfl rfl ?_ | refine ER.alloc rfl rfl ?_ | refine ER.add (kd := .i64) rfl rfl rfl rfl (i64_in (by omega) (by omega)) ?_ | refine ER.sub' (kd := .i64) rfl rfl rfl rfl (i64_in (by omega) (by omega)) ?_ | refine ER.mul (kd := .i64) rfl rfl rfl rfl (i64_in (by omega) (by omega)) ?_ | refine ER.rem (kd := .i64) rfl rfl rfl rfl (by decide) rfl ?_ | refine ER.indexArr rfl rfl rfl rfl (by omega) (by omega) ?_ | refine ER.len1 rfl rfl rfl ?_ | refine ER.indexSl rfl rfl rfl rfl (by omega) (by omega) ?_ | refine EK.condT rfl ?_ | refine EK.condF rfl ?_ | refine ER.andI (b := 5) rfl rfl rfl rfl (W_and (by decide) (by decide) (by decide) (by omega)).1 ?_ | refine ER.andI (b := 1) rfl rfl rfl rfl (W_and (by decide) (by decide) (by decide) (by omega)).2.1 ?_ | refine ER.andI (b := 2) rfl rfl rfl rfl (W_and (by decide) (by decide) (by decide) (by omega)).2.2.1 ?_ | refine ER.andI (b := 4) rfl rfl rfl rfl (W_and (by decide) (by decide) (by decide) (by omega)).2.2.2.1 ?_ | refine ER.andI (b := 3) rfl rfl rfl rfl (W_and (by decide) (by decide) (by decide) (by omega)).2.2.2.2.1 ?_ | refine ER.andI (b := 7) rfl rfl rfl rfl (W_and (by decide) (by decide) (by decide) (by omega)).2.2.2.2.2 ?_ | refine ER.binI (op := .or) (b := 1) rfl rfl rfl rfl (by rw [binOp_bits (.inr rfl), (W_or (by decide) (by decide) (by decide) (by omega)).1]) ?_ | refine ER.binI (op := .or) (b := 2) rfl rfl rfl rfl (by rw [binOp_bits (.inr rfl), (W_or (by decide) (by decide) (by decide) (by omega)).2.1]) ?_ | refine ER.binI (op := .or) (b := 4) rfl rfl rfl rfl (by rw [binOp_bits (.inr rfl), (W_or (by decide) (by decide) (by decide) (by omega)).2.2]) ?_ | refine ER.binI2 (op := .shr) rfl rfl rfl rfl (W_shr (by decide) (by decide) (by decide)) ?_ | refine ER.binI (op := .andNot) rfl rfl rfl rfl (by rw [binOp_andN, W_andNot (by decide) (by decide) (by omega)]) ?_ | refine ER.add (kd := .i32) (b := 8) rfl rfl rfl rfl (W_add8 (by decide) (by decide) (by decide) (by omega)) ?_ | refine ER.sub' (kd := .i32) (b := 8) rfl rfl rfl rfl (W_sub8 (by decide) (by decide) (by decide) (by omega) (by omega)) ?_))
        refine ER.andI (b := 7) rfl rfl rfl rfl (W_and hb1 hk1 hs1 hn1').2.2.2.2.2 ?_
        (repeat (first | refine EK.seq ?_ | refine EK.region ?_ | refine ER.done ?_ | refine EK.skip ?_ | refine EK.block ?_ | refine EK.inBlock ?_ | refine ER.move rfl rfl rfl ?_ | refine ER.assign rfl rfl rfl ?_ | refine ER.nilCheck rfl rfl rfl ?_ | refine ER.fieldAddr rfl rfl rfl ?_ | refine ER.load1 rfl rfl rfl (hcell_of (by assumption) rfl) ?_ | refine ER.no rfl rfl ?_ | refine ER.noU rfl ?_ | refine ER.eqV rfl rfl rfl rfl rfl ?_ | refine ER.neqV rfl rfl rfl rfl rfl ?_ | refine ER.eqA rfl rfl rfl rfl rfl ?_ | refine ER.neqA rfl rfl rfl rfl rfl ?_ | refine ER.notB rfl rfl rfl ?_ | refine ER.pickT rfl rfl rfl rfl ?_ | refine ER.pickF rfl rfl rfl rfl ?_ | refine ER.extract rfl rfl rfl rfl ?_ | refine ER.cmpT rfl rfl rfl rfl rfl (by first | (dsimp only [cmpP]; omega) | exact rfl | exact Int.le_refl _) ?_ | refine ER.cmpF rfl rfl rfl rfl rfl (by first | (dsimp only [cmpP]; omega) | exact rfl | exact Int.le_refl _) ?_ | refine ER.boxA rfl rfl rfl ?_ | refine ER.box rfl rfl rfl ?_ | refine ER.allocA rfl rfl ?_ | refine ER.alloc rfl rfl ?_ | refine ER.add (kd := .i64) rfl rfl rfl rfl (i64_in (by omega) (by omega)) ?_ | refine ER.sub' (kd := .i64) rfl rfl rfl rfl (i64_in (by omega) (by omega)) ?_ | refine ER.mul (kd := .i64) rfl rfl rfl rfl (i64_in (by omega) (by omega)) ?_ | refine ER.rem (kd := .i64) rfl rfl rfl rfl (by decide) rfl ?_ | refine ER.indexArr rfl rfl rfl rfl (by omega) (by omega) ?_ | refine ER.len1 rfl rfl rfl ?_ | refine ER.indexSl rfl rfl rfl rfl (by omega) (by omega) ?_ | refine EK.condT rfl ?_ | refine EK.condF rfl ?_ | refine ER.andI (b := 5) rfl rfl rfl rfl (W_and (by decide) (by decide) (by decide) (by omega)).1 ?_ | refine ER.andI (b := 1) rfl rfl rfl rfl (W_and (by decide) (by decide) (by decide) (by omega)).2.1 ?_ | refine ER.andI (b := 2) rfl rfl rfl rfl (W_and (by decide) (by decide) (by decide) (by omega)).2.2.1 ?_ | refine ER.andI (b := 4) rfl rfl rfl rfl (W_and (by decide) (by decide) (by decide) (by omega)).2.2.2.1 ?_ | refine ER.andI (b := 3) rfl rfl rfl rfl (W_and (by decide) (by decide) (by decide) (by omega)).2.2.2.2.1 ?_ | refine ER.andI (b := 7) rfl rfl rfl rfl (W_and (by decide) (by decide) (by decide) (by omega)).2.2.2.2.2 ?_ | refine ER.binI (op := .or) (b := 1) rfl rfl rfl rfl (by rw [binOp_bits (.inr rfl), (W_or (by decide) (by decide) (by decide) (by omega)).1]) ?_ | refine ER.binI (op := .or) (b := 2) rfl rfl rfl rfl (by rw [binOp_bits (.inr rfl), (W_or (by decide) (by decide) (by decide) (by omega)).2.1]) ?_ | refine ER.binI (op := .or) (b := 4) rfl rfl rfl rfl (by rw [binOp_bits (.inr rfl), (W_or (by decide) (by decide) (by decide) (by omega)).2.2]) ?_ | refine ER.binI2 (op := .shr) rfl rfl rfl rfl (W_shr (by decide) (by decide) (by decide)) ?_ | refine ER.binI (op := .andNot) rfl rfl rfl rfl (by rw [binOp_andN, W_andNot (by decide) (by decide) (by omega)]) ?_ | refine ER.add (kd := .i32) (b := 8) rfl rfl rfl rfl (W_add8 (by decide) (by decide) (by decide) (by omega)) ?_ | refine ER.sub' (kd := .i32) (b := 8) rfl rfl rfl rfl (W_sub8 (by decide) (by decide) (by decide) (by omega) (by omega)) ?_))
        refine EK.ret ?_
        exact EU.ret0 rfl ⟨rfl, rfl, hd, r0.trans hL r1, ha⟩
  · obtain rfl : c = 9 := by omega
    (repeat (first | refine EK.region ?_ | refine ER.done ?_ | refine ER.move rfl rfl rfl ?_ | refine ER.nilCheck rfl rfl rfl ?_ | refine ER.fieldAddr rfl rfl rfl ?_ | refine ER.cmpF rfl rfl rfl rfl rfl (by first | (dsimp only [cmpP]; omega) | exact rfl | exact Int.le_refl _) ?_ | refine EK.condF rfl ?_))
    refine ER.semrelM hL rfl rfl rfl rfl hA (.inr rfl) fun γ₃ q3 a3 => ?_
    (repeat refine ER.done ?_)
    refine EK.done ?_
    exact EU.ret0 rfl ⟨rfl, rfl, rfl, q3, a3⟩
set_option maxHeartbeats 4000000 in
theorem iunlock_ok (hL : L.Ok) (hA : At L i ⟨b, 6, 0⟩ δ.g) : CallW Try.prog false (SitW Try.prog (XF T L) i) 113 #[.pointer (some ⟨b, 2, none⟩)] h δ (Ret (MuQ L i h δ.d δ.g ⟨b, 0, 0⟩)) := by
  refine CallW.start (n := 21) rfl rfl ?_
  (repeat (first | refine EK.seq ?_ | refine EK.region ?_ | refine ER.move rfl rfl rfl ?_ | refine ER.nilCheck rfl rfl rfl ?_ | refine ER.fieldAddr rfl rfl rfl ?_ | refine EK.condT rfl ?_))
  refine ER.loadM (c := 6) hL norace_unlock rfl rfl rfl hA (by decide) fun γ₁ q1 a1 m1 c1 l1 => .inr ?_
  (repeat (first | refine EK.seq ?_ | refine EK.region ?_ | refine ER.done ?_ | refine ER.move rfl rfl rfl ?_))
  refine ER.unsafeM hL rfl rfl rfl (by decide) a1 (by decide) fun γ₂ q2 a2 => ?_
  refine ER.ext rfl rfl rfl rfl (fun Q X hq => semW_marked (by simp) (by simp) hq (hDu := a2.nd)) ?_
  (repeat (first | refine EK.region ?_ | refine ER.done ?_))
  refine ER.ext rfl rfl rfl rfl (fun Q X hq => semW_mark0 (vs := #[]) (by simp) (by simp) hq) ?_
  (repeat (first | refine EK.seq ?_ | refine EK.region ?_ | refine ER.done ?_ | refine ER.move rfl rfl rfl ?_ | refine ER.nilCheck rfl rfl rfl ?_ | refine ER.fieldAddr rfl rfl rfl ?_))
  refine ER.addM (c := 6) hL rfl rfl rfl rfl a2 (by decide) fun γ₃ q3 a3 m3 c3 l3 _ => ?_
  have hb : (γ₃.mu b).b = 1 := by have := m3.hold; have := m3.b1; omega
  have hn := mi_n m3 (fun x => ct_le x) l3
  have hk := m3.k1
  have hs := m3.s1
  have hw : IntKind.i32.wrap ((γ₃.mu b).word + -1) = ({ γ₃.mu b with b := 0 } : Mu).word := by
    rw [i32_in (by rw [Mu.word]; omega) (by rw [Mu.word]; omega)]
    simp only [Mu.word, hb]
    omega
  have key : ∀ c γ₄, Ro L i γ₂ γ₄ -> At L i ⟨b, c, 0⟩ γ₄ -> γ₄.mu b = { γ₃.mu b with b := 0 } -> ((c = 0 /\ (γ₃.mu b).s = 0 /\ ((γ₃.mu b).n = 0 \/ (γ₃.mu b).k = 1)) \/ (c = 7 /\ (γ₃.mu b).s = 0 /\ (γ₃.mu b).n ≠ 0 /\ (γ₃.mu b).k = 0) \/ (c = 9 /\ (γ₃.mu b).s = 1)) ->
      CallW Try.prog false (SitW Try.prog (XF T L) i) 122 #[.pointer (some ⟨b, 2, none⟩), .int .i32 (({ γ₃.mu b with b := 0 } : Mu).word)] h ⟨δ.d + 1, γ₄⟩ (Ret (MuQ L i h (δ.d + 1) γ₄ ⟨b, 0, 0⟩)) := by
    intro c γ₄ q4 a4 e4 hc
    refine unlockSlow_ok (δ := ⟨δ.d + 1, γ₄⟩) (k := (γ₃.mu b).k) (s := (γ₃.mu b).s) (n := (γ₃.mu b).n) hL hk hs hn a4 (hc.imp id fun z => z.imp (fun ⟨z1, z2, z3, z4⟩ => ⟨z1, z2, z3, z4, ?_⟩) id)
    simp only
    rw [e4, Mu.word_eq]
    simp only
    rw [z2, z4]
  obtain ⟨c', hT, hc⟩ : ∃ c', Tr (γ₃.mu b) 6 0 { γ₃.mu b with b := 0 } c' 0 /\ ((c' = 0 /\ (γ₃.mu b).s = 0 /\ ((γ₃.mu b).n = 0 \/ (γ₃.mu b).k = 1)) \/ (c' = 7 /\ (γ₃.mu b).s = 0 /\ (γ₃.mu b).n ≠ 0 /\ (γ₃.mu b).k = 0) \/ (c' = 9 /\ (γ₃.mu b).s = 1)) := by
    by_cases z : (γ₃.mu b).s = 1
    · exact ⟨9, .leaveS z, .inr (.inr ⟨rfl, z⟩)⟩
    · have z0 : (γ₃.mu b).s = 0 := by omega
      by_cases y : (γ₃.mu b).n = 0 \/ (γ₃.mu b).k = 1
      · exact ⟨0, .leave z0 y, .inl ⟨rfl, z0, y⟩⟩
      · exact ⟨7, .leaveU z0 (by omega) (by omega), .inr (.inl ⟨rfl, z0, by omega, by omega⟩)⟩
  refine ⟨{ γ₃.mu b with b := 0 }, c', 0, hw, rfl, hT, fun γ₄ q4 a4 e4 => ?_⟩
  (repeat (first | refine EK.seq ?_ | refine EK.region ?_ | refine ER.done ?_ | refine ER.move rfl rfl rfl ?_ | refine ER.assign rfl rfl rfl ?_))
  refine ER.cmpS rfl rfl rfl rfl rfl (fun hp => ?_) (fun hp => ?_)
  · (repeat (first | refine EK.region ?_ | refine ER.done ?_ | refine ER.move rfl rfl rfl ?_ | refine EK.condT rfl ?_))
    refine ER.callR rfl rfl rfl rfl rfl (key c' γ₄ q4 a4 e4 hc) ?_
    rintro v h' ⟨d', γ'⟩ ⟨rfl, rfl, e1, r1, a1'⟩
    simp only at e1 r1 a1'
    subst e1
    (repeat (first | refine EK.region ?_ | refine ER.done ?_))
    refine ER.ext rfl rfl rfl rfl (fun Q X hq => semW_mark0 (vs := #[]) (by simp) (by simp) hq) ?_
    (repeat refine ER.done ?_)
    refine EK.done ?_
    exact EU.ret0 rfl ⟨rfl, rfl, rfl, ((q1.trans hL q2).trans hL q4).trans hL r1, a1'⟩
  · have hz : ({ γ₃.mu b with b := 0 } : Mu).word = 0 := Classical.not_not.1 hp
    have hc0 : c' = 0 := by
      rw [Mu.word] at hz
      simp only at hz
      omega
    subst hc0
    (repeat (first | refine EK.region ?_ | refine ER.done ?_ | refine EK.skip ?_ | refine EK.condF rfl ?_))
    refine ER.ext rfl rfl rfl rfl (fun Q X hq => semW_mark0 (vs := #[]) (by simp) (by simp) hq) ?_
    (repeat refine ER.done ?_)
    refine EK.done ?_
    exact EU.ret0 rfl ⟨rfl, rfl, rfl, (q1.trans hL q2).trans hL q4, a4⟩
theorem lock_ok (hL : L.Ok) (hA : At L i ⟨b, 1, 0⟩ δ.g) : CallW Try.prog false (SitW Try.prog (XF T L) i) 91 #[.pointer (some ⟨b, 2, none⟩)] h δ (Ret (MuQ L i h δ.d δ.g ⟨b, 6, 0⟩)) := by
  refine CallW.start (n := 6) rfl rfl ?_
  (repeat (first | refine EK.region ?_ | refine ER.move rfl rfl rfl ?_ | refine ER.nilCheck rfl rfl rfl ?_ | refine ER.fieldAddr rfl rfl rfl ?_))
  refine ER.callR rfl rfl rfl rfl rfl (ilock_ok hL hA) ?_
  rintro v h' δ' ⟨rfl, rfl, e1, r1, a1⟩
  (repeat refine ER.done ?_)
  refine EK.done ?_
  exact EU.ret0 rfl ⟨rfl, rfl, e1, r1, a1⟩
theorem unlock_ok (hL : L.Ok) (hA : At L i ⟨b, 6, 0⟩ δ.g) : CallW Try.prog false (SitW Try.prog (XF T L) i) 92 #[.pointer (some ⟨b, 2, none⟩)] h δ (Ret (MuQ L i h δ.d δ.g ⟨b, 0, 0⟩)) := by
  refine CallW.start (n := 6) rfl rfl ?_
  (repeat (first | refine EK.region ?_ | refine ER.move rfl rfl rfl ?_ | refine ER.nilCheck rfl rfl rfl ?_ | refine ER.fieldAddr rfl rfl rfl ?_))
  refine ER.callR rfl rfl rfl rfl rfl (iunlock_ok hL hA) ?_
  rintro v h' δ' ⟨rfl, rfl, e1, r1, a1⟩
  (repeat refine ER.done ?_)
  refine EK.done ?_
  exact EU.ret0 rfl ⟨rfl, rfl, e1, r1, a1⟩
end
end
section
open Go Go.TJ Go.Proofs
variable [Dm]
section
variable {Y : Type} {T : Tids} {L : Law Y} {h : Hp} {δ : Ix (Gf Y)} {i b : Nat}
def Cq (L : Law Y) (i : Nat) (h : Hp) (d wg : Nat) (F : Value -> Y -> Prop) : Value -> Hp -> Ix (Gf Y) -> Prop := fun v h' δ' => h' = h /\ δ'.d = d /\ δ'.g.wg = wg /\ Idle L i δ'.g /\ F v δ'.g.y
theorem none_f (hL : L.Ok) {p : Pc} (hA : At L i p δ.g) (hb : b ∈ L.cls δ.g.y) : CallW Try.prog false (SitW Try.prog (XF T L) i) 66 #[.pointer (some ⟨b, 0, none⟩)] h δ (Ret fun v h' δ' => v = .bool false /\ h' = h /\ δ'.d = δ.d /\ Rr L i δ.g δ'.g) := by
  refine CallW.start (n := 12) rfl rfl ?_
  (repeat (first | refine EK.seq ?_ | refine EK.region ?_ | refine ER.done ?_ | refine ER.move rfl rfl rfl ?_ | refine ER.assign rfl rfl rfl ?_ | refine ER.nilCheck rfl rfl rfl ?_ | refine ER.fieldAddr rfl rfl rfl ?_ | refine ER.eqV rfl rfl rfl rfl rfl ?_))
  refine ER.loadC (v := .bool true) hL (.inl ⟨rfl, rfl⟩) rfl rfl rfl hA hb fun γ₁ r1 => ?_
  (repeat (first | refine ER.done ?_ | refine ER.assign rfl rfl rfl ?_ | refine ER.notB rfl rfl rfl ?_ | refine ER.pickF rfl rfl rfl rfl ?_ | refine EK.ret ?_))
  exact EU.ret1 rfl rfl ⟨rfl, rfl, rfl, r1⟩
theorem wakes_f (hL : L.Ok) (hA : At L i ⟨b, 1, 0⟩ δ.g) (hb : b ∈ L.cls δ.g.y) : CallW Try.prog false (SitW Try.prog (XF T L) i) 69 #[.pointer (some ⟨b, 0, none⟩)] h δ (Ret fun v h' δ' => v = .tuple #[] /\ h' = h /\ δ'.d = δ.d /\ Ro L i δ.g δ'.g /\ Idle L i δ'.g) := by
  refine CallW.start (n := 21) rfl rfl ?_
  (repeat (first | refine EK.seq ?_ | refine EK.region ?_ | refine ER.move rfl rfl rfl ?_ | refine ER.nilCheck rfl rfl rfl ?_ | refine ER.fieldAddr rfl rfl rfl ?_))
  refine ER.callR rfl rfl rfl rfl rfl (lock_ok hL hA) ?_
  rintro v h' δ' ⟨rfl, rfl, e1, r1, a1⟩
  (repeat (first | refine EK.seq ?_ | refine EK.region ?_ | refine ER.done ?_ | refine ER.move rfl rfl rfl ?_ | refine ER.nilCheck rfl rfl rfl ?_ | refine ER.fieldAddr rfl rfl rfl ?_))
  refine ER.defer rfl rfl rfl ?_
  (repeat (first | refine EK.seq ?_ | refine EK.region ?_ | refine ER.done ?_ | refine ER.move rfl rfl rfl ?_ | refine ER.nilCheck rfl rfl rfl ?_ | refine ER.fieldAddr rfl rfl rfl ?_))
  refine ER.loadC (v := .chan none) hL (.inr ⟨rfl, rfl⟩) rfl rfl rfl a1 (by rw [r1.stat.cls]; exact hb) fun γ₁ r2 => ?_
  (repeat (first | refine ER.done ?_ | refine EK.skip ?_ | refine ER.neqV rfl rfl rfl rfl rfl ?_ | refine EK.condF rfl ?_))
  refine EK.done ?_
  refine EU.deferR rfl (unlock_ok hL (δ := ⟨δ'.d, γ₁⟩) (a1.rr r2)) ?_
  rintro v h' δ' ⟨rfl, rfl, e2, r3, a3⟩
  exact EU.ret0 rfl ⟨rfl, rfl, e2.trans e1, (r1.trans hL r2.toRo).trans hL r3, a3.idle⟩
theorem aload_f (hL : L.Ok) (hA : Idle L i δ.g) (hb : b ∈ L.cls δ.g.y) {Q : Value -> Hp -> Ix (Gf Y) -> Prop}
    (hop : ∀ γ₁, Rr L i δ.g γ₁ -> Idle L i γ₁ -> L.J γ₁.y -> ∃ y', LMove L i γ₁.y y' /\ ∀ γ₂, γ₂.y = y' -> γ₂.wg = δ.g.wg -> Idle L i γ₂ -> Q (.int .i64 (L.val γ₁.y b)) h ⟨δ.d, γ₂⟩) :
    CallW Try.prog false (SitW Try.prog (XF T L) i) 50 #[.pointer (some ⟨b, 0, none⟩)] h δ (Ret Q) := by
  refine CallW.start (n := 7) rfl rfl ?_
  (repeat (first | refine EK.seq ?_ | refine EK.region ?_ | refine ER.done ?_ | refine ER.move rfl rfl rfl ?_ | refine ER.assign rfl rfl rfl ?_ | refine ER.nilCheck rfl rfl rfl ?_ | refine ER.fieldAddr rfl rfl rfl ?_))
  refine ER.loadV hL rfl rfl rfl rfl hA hb fun γ₁ r1 a1 j1 => ?_
  obtain ⟨y', m, hn⟩ := hop γ₁ r1 a1 j1
  refine ⟨y', m, fun γ₂ e2 w2 a2 => ?_⟩
  (repeat (first | refine ER.done ?_ | refine ER.assign rfl rfl rfl ?_ | refine EK.ret ?_))
  exact EU.ret1 rfl rfl (hn γ₂ e2 w2 a2)
theorem astore_f (hL : L.Ok) {z : Int} (hA : Idle L i δ.g) (hb : b ∈ L.cls δ.g.y) {Q : Value -> Hp -> Ix (Gf Y) -> Prop}
    (hop : ∀ γ₁, Rr L i δ.g γ₁ -> Idle L i γ₁ -> L.J γ₁.y -> ∃ y', LStep L i b γ₁.y y' /\ L.val y' b = z /\ ∀ γ₂, γ₂.y = y' -> γ₂.wg = δ.g.wg -> At L i ⟨b, 1, 0⟩ γ₂ -> Q (.tuple #[]) h ⟨δ.d, γ₂⟩) :
    CallW Try.prog false (SitW Try.prog (XF T L) i) 61 #[.pointer (some ⟨b, 0, none⟩), .int .i64 z] h δ (Ret Q) := by
  refine CallW.start (n := 9) rfl rfl ?_
  (repeat (first | refine EK.region ?_ | refine ER.move rfl rfl rfl ?_ | refine ER.nilCheck rfl rfl rfl ?_ | refine ER.fieldAddr rfl rfl rfl ?_))
  refine ER.storeV hL rfl rfl rfl rfl hA hb fun γ₁ r1 a1 j1 => ?_
  obtain ⟨y', m, hv, hn⟩ := hop γ₁ r1 a1 j1
  refine ⟨y', m, hv, fun γ₂ e2 w2 a2 => ?_⟩
  (repeat refine ER.done ?_)
  refine EK.done ?_
  exact EU.ret0 rfl (hn γ₂ e2 w2 a2)
theorem acas_f (hL : L.Ok) {u z : Int} (hA : Idle L i δ.g) (hb : b ∈ L.cls δ.g.y) {Q : Value -> Hp -> Ix (Gf Y) -> Prop}
    (hop : ∀ γ₁, Rr L i δ.g γ₁ -> Idle L i γ₁ -> L.J γ₁.y -> (L.val γ₁.y b = u -> ∃ y', LStep L i b γ₁.y y' /\ L.val y' b = z /\ ∀ γ₂, γ₂.y = y' -> γ₂.wg = δ.g.wg -> At L i ⟨b, 1, 0⟩ γ₂ -> Q (.bool true) h ⟨δ.d, γ₂⟩) /\
      (L.val γ₁.y b ≠ u -> ∃ y', LMove L i γ₁.y y' /\ ∀ γ₂, γ₂.y = y' -> γ₂.wg = δ.g.wg -> Idle L i γ₂ -> Q (.bool false) h ⟨δ.d, γ₂⟩)) :
    CallW Try.prog false (SitW Try.prog (XF T L) i) 89 #[.pointer (some ⟨b, 0, none⟩), .int .i64 u, .int .i64 z] h δ (Ret Q) := by
  refine CallW.start (n := 13) rfl rfl ?_
  (repeat (first | refine EK.seq ?_ | refine EK.region ?_ | refine ER.done ?_ | refine ER.move rfl rfl rfl ?_ | refine ER.assign rfl rfl rfl ?_ | refine ER.nilCheck rfl rfl rfl ?_ | refine ER.fieldAddr rfl rfl rfl ?_))
  refine ER.casV hL rfl rfl rfl rfl hA hb fun γ₁ r1 a1 j1 => ?_
  obtain ⟨k1, k2⟩ := hop γ₁ r1 a1 j1
  refine ⟨fun e => ?_, fun e => ?_⟩
  · obtain ⟨y', m, hv, hn⟩ := k1 e
    refine ⟨y', m, hv, fun γ₂ e2 w2 a2 => ?_⟩
    (repeat (first | refine ER.done ?_ | refine ER.assign rfl rfl rfl ?_ | refine EK.ret ?_))
    exact EU.ret1 rfl rfl (hn γ₂ e2 w2 a2)
  · obtain ⟨y', m, hn⟩ := k2 e
    refine ⟨y', m, fun γ₂ e2 w2 a2 => ?_⟩
    (repeat (first | refine ER.done ?_ | refine ER.assign rfl rfl rfl ?_ | refine EK.ret ?_))
    exact EU.ret1 rfl rfl (hn γ₂ e2 w2 a2)
theorem cload_f (hL : L.Ok) (hA : Idle L i δ.g) (hb : b ∈ L.cls δ.g.y) {F : Value -> Y -> Prop}
    (hop : ∀ y₁, LRel L i δ.g.y y₁ -> L.J y₁ -> ∃ y', LMove L i y₁ y' /\ F (.int .i64 (L.val y₁ b)) y') :
    CallW Try.prog false (SitW Try.prog (XF T L) i) 23 #[.pointer (some ⟨b, 0, none⟩), .pointer none] h δ (Ret (Cq L i h δ.d δ.g.wg F)) := by
  refine CallW.start (n := 26) rfl rfl ?_
  (repeat (first | refine EK.seq ?_ | refine EK.region ?_ | refine ER.done ?_ | refine ER.move rfl rfl rfl ?_ | refine ER.assign rfl rfl rfl ?_))
  refine ER.callR rfl rfl rfl rfl rfl (none_f hL hA.at hb) ?_
  rintro v0 h' δ0 ⟨rfl, rfl, e0, r0⟩
  (repeat (first | refine EK.seq ?_ | refine EK.region ?_ | refine ER.done ?_ | refine EK.skip ?_ | refine ER.move rfl rfl rfl ?_ | refine EK.condF rfl ?_))
  refine ER.callD rfl rfl rfl rfl rfl live_nil ?_
  (repeat (first | refine EK.seq ?_ | refine EK.region ?_ | refine ER.done ?_ | refine EK.skip ?_ | refine ER.move rfl rfl rfl ?_ | refine ER.nilCheck rfl rfl rfl ?_ | refine ER.fieldAddr rfl rfl rfl ?_ | refine EK.condF rfl ?_))
  refine ER.callR rfl rfl rfl rfl rfl (aload_f (Q := fun v h1 δ1 => h1 = h' /\ δ1.d = δ0.d /\ δ1.g.wg = δ.g.wg /\ Idle L i δ1.g /\ F v δ1.g.y) hL (hA.rr r0) (by rw [r0.stat.cls]; exact hb) fun γ₁ r1 a1 j1 => ?_) ?_
  · obtain ⟨y', m, hF⟩ := hop γ₁.y (r0.lrel.trans hL r1.lrel) j1
    exact ⟨y', m, fun γ₂ e2 w2 a2 => ⟨rfl, rfl, w2.trans r0.wg, a2, by rw [e2]; exact hF⟩⟩
  rintro v h2 δ2 ⟨rfl, e2, w2, a2, hF⟩
  (repeat (first | refine ER.done ?_ | refine ER.assign rfl rfl rfl ?_ | refine EK.ret ?_))
  exact EU.ret1 rfl rfl ⟨rfl, e2.trans e0, w2, a2, hF⟩
theorem cstore_f (hL : L.Ok) {z : Int} (hA : Idle L i δ.g) (hb : b ∈ L.cls δ.g.y) {F : Value -> Y -> Prop}
    (hop : ∀ y₁, LRel L i δ.g.y y₁ -> L.J y₁ -> ∃ y', LStep L i b y₁ y' /\ L.val y' b = z /\ ∀ y₂, LRel L i y' y₂ -> F (.tuple #[]) y₂) :
    CallW Try.prog false (SitW Try.prog (XF T L) i) 22 #[.pointer (some ⟨b, 0, none⟩), .pointer none, .int .i64 z] h δ (Ret (Cq L i h δ.d δ.g.wg F)) := by
  refine CallW.start (n := 23) rfl rfl ?_
  (repeat (first | refine EK.seq ?_ | refine EK.region ?_ | refine ER.move rfl rfl rfl ?_))
  refine ER.callR rfl rfl rfl rfl rfl (none_f hL hA.at hb) ?_
  rintro v0 h' δ0 ⟨rfl, rfl, e0, r0⟩
  (repeat (first | refine EK.seq ?_ | refine EK.region ?_ | refine ER.done ?_ | refine EK.skip ?_ | refine ER.move rfl rfl rfl ?_ | refine EK.condF rfl ?_))
  refine ER.callD rfl rfl rfl rfl rfl live_nil ?_
  (repeat (first | refine EK.seq ?_ | refine EK.region ?_ | refine ER.done ?_ | refine EK.skip ?_ | refine ER.move rfl rfl rfl ?_ | refine ER.nilCheck rfl rfl rfl ?_ | refine ER.fieldAddr rfl rfl rfl ?_ | refine EK.condF rfl ?_))
  refine ER.callR rfl rfl rfl rfl rfl (astore_f (Q := fun v h1 δ1 => v = .tuple #[] /\ h1 = h' /\ δ1.d = δ0.d /\ δ1.g.wg = δ.g.wg /\ At L i ⟨b, 1, 0⟩ δ1.g /\ b ∈ L.cls δ1.g.y /\ ∀ y₂, LRel L i δ1.g.y y₂ -> F (.tuple #[]) y₂) hL (hA.rr r0) (by rw [r0.stat.cls]; exact hb) fun γ₁ r1 a1 j1 => ?_) ?_
  · obtain ⟨y', m, hv, hF⟩ := hop γ₁.y (r0.lrel.trans hL r1.lrel) j1
    exact ⟨y', m, hv, fun γ₂ e2 w2 a2 => ⟨rfl, rfl, rfl, w2.trans r0.wg, a2, by rw [e2, m.stat.cls, r1.stat.cls, r0.stat.cls]; exact hb, by rw [e2]; exact hF⟩⟩
  rintro v h2 δ2 ⟨rfl, rfl, e2, w2, a2, b2, hF⟩
  (repeat (first | refine EK.region ?_ | refine ER.done ?_ | refine ER.move rfl rfl rfl ?_))
  refine ER.callR rfl rfl rfl rfl rfl (wakes_f hL a2 b2) ?_
  rintro v h3 δ3 ⟨rfl, rfl, e3, r3, a3⟩
  (repeat refine ER.done ?_)
  refine EK.done ?_
  exact EU.ret0 rfl ⟨rfl, (e3.trans e2).trans e0, r3.wg.trans w2, a3, hF _ r3.lrel⟩
theorem ccas_f (hL : L.Ok) {u z : Int} (hA : Idle L i δ.g) (hb : b ∈ L.cls δ.g.y) {F : Value -> Y -> Prop}
    (hop : ∀ y₁, LRel L i δ.g.y y₁ -> L.J y₁ -> (L.val y₁ b = u -> ∃ y', LStep L i b y₁ y' /\ L.val y' b = z /\ ∀ y₂, LRel L i y' y₂ -> F (.bool true) y₂) /\ (L.val y₁ b ≠ u -> ∃ y', LMove L i y₁ y' /\ F (.bool false) y')) :
    CallW Try.prog false (SitW Try.prog (XF T L) i) 65 #[.pointer (some ⟨b, 0, none⟩), .pointer none, .int .i64 u, .int .i64 z] h δ (Ret (Cq L i h δ.d δ.g.wg F)) := by
  refine CallW.start (n := 39) rfl rfl ?_
  (repeat (first | refine EK.seq ?_ | refine EK.region ?_ | refine ER.done ?_ | refine ER.move rfl rfl rfl ?_ | refine ER.assign rfl rfl rfl ?_))
  refine ER.callR rfl rfl rfl rfl rfl (none_f hL hA.at hb) ?_
  rintro v0 h' δ0 ⟨rfl, rfl, e0, r0⟩
  (repeat (first | refine EK.seq ?_ | refine EK.region ?_ | refine ER.done ?_ | refine EK.skip ?_ | refine ER.move rfl rfl rfl ?_ | refine EK.condF rfl ?_))
  refine ER.callD rfl rfl rfl rfl rfl live_nil ?_
  (repeat (first | refine EK.seq ?_ | refine EK.region ?_ | refine ER.done ?_ | refine EK.skip ?_ | refine ER.move rfl rfl rfl ?_ | refine ER.nilCheck rfl rfl rfl ?_ | refine ER.fieldAddr rfl rfl rfl ?_ | refine EK.condF rfl ?_))
  refine ER.callR rfl rfl rfl rfl rfl (acas_f (Q := fun v h1 δ1 => h1 = h' /\ δ1.d = δ0.d /\ δ1.g.wg = δ.g.wg /\ b ∈ L.cls δ1.g.y /\ ((v = .bool true /\ At L i ⟨b, 1, 0⟩ δ1.g /\ ∀ y₂, LRel L i δ1.g.y y₂ -> F (.bool true) y₂) \/ (v = .bool false /\ Idle L i δ1.g /\ F (.bool false) δ1.g.y))) hL (hA.rr r0) (by rw [r0.stat.cls]; exact hb) fun γ₁ r1 a1 j1 => ?_) ?_
  · obtain ⟨k1, k2⟩ := hop γ₁.y (r0.lrel.trans hL r1.lrel) j1
    refine ⟨fun e => ?_, fun e => ?_⟩
    · obtain ⟨y', m, hv, hF⟩ := k1 e
      exact ⟨y', m, hv, fun γ₂ e2 w2 a2 => ⟨rfl, rfl, w2.trans r0.wg, by rw [e2, m.stat.cls, r1.stat.cls, r0.stat.cls]; exact hb, .inl ⟨rfl, a2, by rw [e2]; exact hF⟩⟩⟩
    · obtain ⟨y', m, hF⟩ := k2 e
      exact ⟨y', m, fun γ₂ e2 w2 a2 => ⟨rfl, rfl, w2.trans r0.wg, by rw [e2, m.stat.cls, r1.stat.cls, r0.stat.cls]; exact hb, .inr ⟨rfl, a2, by rw [e2]; exact hF⟩⟩⟩
  rintro v h2 δ2 ⟨rfl, e2, w2, b2, ⟨rfl, a2, hF⟩ | ⟨rfl, a2, hF⟩⟩
  · (repeat (first | refine EK.seq ?_ | refine EK.region ?_ | refine ER.done ?_ | refine ER.move rfl rfl rfl ?_ | refine ER.assign rfl rfl rfl ?_ | refine EK.condT rfl ?_))
    refine ER.callR rfl rfl rfl rfl rfl (wakes_f hL a2 b2) ?_
    rintro v h3 δ3 ⟨rfl, rfl, e3, r3, a3⟩
    (repeat (first | refine EK.seq ?_ | refine EK.region ?_ | refine ER.done ?_ | refine ER.move rfl rfl rfl ?_ | refine ER.assign rfl rfl rfl ?_ | refine EK.ret ?_))
    exact EU.ret1 rfl rfl ⟨rfl, (e3.trans e2).trans e0, r3.wg.trans w2, a3, hF _ r3.lrel⟩
  · (repeat (first | refine EK.seq ?_ | refine EK.region ?_ | refine ER.done ?_ | refine EK.skip ?_ | refine ER.move rfl rfl rfl ?_ | refine ER.assign rfl rfl rfl ?_ | refine EK.condF rfl ?_ | refine EK.ret ?_))
    exact EU.ret1 rfl rfl ⟨rfl, e2.trans e0, w2, a2, hF⟩
end
end
section
open Go Go.TJ Go.Proofs
variable [Dm]
structure Own (i : Nat) (c : Cc) (fa fr : Nat -> Bool) (hd : Int) (rs : Bool) (bd : Nat) (ha : Int) (ra : Bool) (y : Cy) : Prop where
  cc : y.c = c
  fa : ∀ k, k % c.n = i - 1 -> y.ka k = fa k
  fr : ∀ k, k % c.n = i - 1 -> y.kr k = fr k
  hd : y.hd i = hd
  rs : y.rs i = rs
  bd : bd <= y.bd i
  ha : y.ha (i - 1) = ha
  ra : y.ra (i - 1) = ra
section
variable {i : Nat} {c : Cc} {fa fr : Nat -> Bool} {hd : Int} {rs : Bool} {bd : Nat} {ha : Int} {ra : Bool} {y y' : Cy}
theorem Own.rel (o : Own i c fa fr hd rs bd ha ra y) (h0 : 0 < i) (r : LRel cL i y y') : Own i c fa fr hd rs bd ha ra y' := by
  have q : Cr i y y' := r.law
  have hc := o.cc
  exact ⟨q.c.trans hc, fun k hk => (q.ka h0 k (by rw [hc]; exact hk)).trans (o.fa k hk), fun k hk => (q.kr h0 k (by rw [hc]; exact hk)).trans (o.fr k hk), (q.hd h0).trans o.hd, (q.rs h0).trans o.rs, by rw [q.bd h0]; exact o.bd, (q.ha h0).trans o.ha, (q.ra h0).trans o.ra⟩
theorem Own.add (o : Own i c fa fr hd rs bd ha ra y) (k b : Nat) : Own i c (u1 fa k true) fr hd rs (bd - 1) ha ra (addY y i k b) :=
  ⟨o.cc, fun q hq => by
    show u1 y.ka k true q = u1 fa k true q
    by_cases e : q = k
    · subst e; rw [u1_same, u1_same]
    · rw [u1_ne e, u1_ne e]; exact o.fa q hq, o.fr, o.hd, o.rs, by show bd - 1 <= u1 y.bd i _ i; rw [u1_same]; have := o.bd; omega, o.ha, o.ra⟩
theorem Own.raise (o : Own i c fa fr hd rs bd ha ra y) (k : Nat) : Own i c fa (u1 fr k true) hd true (bd - 1) ha ra (raiseY y i k) :=
  ⟨o.cc, o.fa, fun q hq => by
    show u1 y.kr k true q = u1 fr k true q
    by_cases e : q = k
    · subst e; rw [u1_same, u1_same]
    · rw [u1_ne e, u1_ne e]; exact o.fr q hq, o.hd, u1_same, by show bd - 1 <= u1 y.bd i _ i; rw [u1_same]; have := o.bd; omega, o.ha, o.ra⟩
theorem Own.tick (o : Own i c fa fr hd rs bd ha ra y) (d : Int) : Own i c fa fr (hd + d) rs (bd - 1) ha ra (tickY y i d) :=
  ⟨o.cc, o.fa, o.fr, by show u1 y.hd i _ i = _; rw [u1_same, o.hd], o.rs, by show bd - 1 <= u1 y.bd i _ i; rw [u1_same]; have := o.bd; omega, o.ha, o.ra⟩
theorem Own.less (o : Own i c fa fr hd rs bd ha ra y) {b : Nat} (h : b <= bd) : Own i c fa fr hd rs b ha ra y := ⟨o.cc, o.fa, o.fr, o.hd, o.rs, Nat.le_trans h o.bd, o.ha, o.ra⟩
end
section
variable {h : Hp} {δ : Ix (Gf Cy)} {i : Nat} {c : Cc} {fa fr : Nat -> Bool} {hd : Int} {rs : Bool} {bd : Nat} {ha : Int} {ra : Bool} {k : Nat}
end
end
section
open Go Go.TJ Go.Proofs
variable [Dm]
abbrev ptr (b : Nat) : Value := .pointer (some ⟨b, 0, none⟩)
abbrev nilS : Value := .slice none 0 0
instance : Mixed Try.prog := ⟨by kernel_rfl⟩
end
section
open Go Go.TJ Go.Proofs
variable [Dm]
theorem EA.gen {Γ : Type} {P : Program} {main : Bool} {S : Sit Γ} {f : FuncId} {n : Nat} {ops : Array Oper} {Z : Hp -> Prop} {z m : Nat} {listed : Array Bool} {k : List Item} {env : Env} {ds : List Deferred} {h : Hp} {δ : Ix Γ} {R : Post Γ} (F : Hp -> Prop) (hF : F h) (hn : ∀ h', F h' -> EA P main S f n ops Z z m listed k env ds h' δ R) : EA P main S f n ops Z z m listed k env ds h δ R := hn h hF
section
variable {Γ : Type} {main : Bool} {h : Hp} {δ : Ix Γ}
end
end
section
open Go Go.TJ Go.Proofs
variable [Dm]
section
variable {h : Hp} {n : Nat} {B : Nat -> Nat} {v : Nat -> Int}
end
section
variable {Γ : Type} {main : Bool} {h : Hp} {δ : Ix Γ} {n : Nat} {B : Nat -> Nat} {v : Nat -> Int}
end
end
section
open Go Go.TJ Go.Proofs
variable [Dm]
section
variable {i : Nat} {c : Sc} {hn : Option Nat} {s : Option (Nat × Int)} {w : Int} {pu po : List Int} {bd : Nat} {sp sq : Value} {y y' : Sy} {X : Nat} {h m : Int}
end
section
variable {h : Hp} {δ : Ix (Gf Sy)} {i : Nat} {c : Sc} {w : Int} {pu po : List Int} {bd : Nat} {sp sq : Value} {X x sb ib : Nat}
end
end
section
open Go Go.TJ Go.Proofs
variable [Dm]
section
variable {h : Hp} {δ : Ix (Gf Sy)} {i : Nat} {c : Sc} {w : Int} {pu po : List Int} {bd : Nat} {sp sq : Value} {X x sb ib : Nat}
end
end
end Go.Proofs.Ytakioblpgmjdaaa
namespace Go.TJ
section
variable [Dm]
open Go Go.Conc
section
variable {Γ : Type} {P : Program} {main : Bool} {S : Sit Γ} {f : FuncId} {n : Nat} {ops : Array Oper} {Z : Hp -> Prop} {z m : Nat} {listed li lj l' : Array Bool} {k : List Item} {env : Env} {ds : List Deferred} {h : Hp} {δ : Ix Γ} {R : Post Γ}
theorem EA.swap {a b : Nat} {u v : Value} (hne : a ≠ b) (hk : EA P main S f n ops Z z m listed k ((a, u) :: (b, v) :: env) ds h δ R) : EA P main S f n ops Z z m listed k ((b, v) :: (a, u) :: env) ds h δ R := fun x kx => hk x ⟨kx.size, kx.defers, fun i w hl => kx.knows i w (by
  rw [look_cons, look_cons] at hl ⊢
  by_cases ea : a = i
  · rw [if_pos ea] at hl
    rw [if_neg (fun z => hne (ea.trans z.symm)), if_pos ea]; exact hl
  · rw [if_neg ea] at hl
    rw [if_neg ea]; exact hl)⟩
theorem EA.both (i j : Nat) {oi oj : Oper} {di dj : Nat} (I : Value -> Value -> Hp -> Ix Γ -> Prop) (hi : ops[i]? = some oi) (hj : ops[j]? = some oj) (hr : Region.ready .any ops listed = [i, j]) (hli : listed.setIfInBounds i true = li) (hlj : listed.setIfInBounds j true = lj)
    (hri : Region.ready .any ops li = [j]) (hrj : Region.ready .any ops lj = [i]) (hij : li.setIfInBounds j true = l') (hji : lj.setIfInBounds i true = l') (gi : oi.guard = none) (gj : oj.guard = none) (ti : oi.dst = some di) (tj : oj.dst = some dj) (bi : Nat.blt di n = true) (bj : Nat.blt dj n = true) (hne : di ≠ dj)
    (h1 : ∀ (ρ : Operand -> Value), (∀ x v, ev env x = some v -> ρ x = v) -> ∃ Y1 : Value -> Hp -> Ix Γ -> Prop, Yields P main S f (execOp ρ oi) h δ Y1 /\ ∀ v h' δ', Y1 v h' δ' -> Z h' /\ ∀ (ρ' : Operand -> Value), (∀ x u, ev ((di, v) :: env) x = some u -> ρ' x = u) -> ∃ Y2 : Value -> Hp -> Ix Γ -> Prop, Yields P main S f (execOp ρ' oj) h' δ' Y2 /\ ∀ v2 h2 δ2, Y2 v2 h2 δ2 -> Z h2 /\ I v v2 h2 δ2)
    (h2 : ∀ (ρ : Operand -> Value), (∀ x v, ev env x = some v -> ρ x = v) -> ∃ Y1 : Value -> Hp -> Ix Γ -> Prop, Yields P main S f (execOp ρ oj) h δ Y1 /\ ∀ v h' δ', Y1 v h' δ' -> Z h' /\ ∀ (ρ' : Operand -> Value), (∀ x u, ev ((dj, v) :: env) x = some u -> ρ' x = u) -> ∃ Y2 : Value -> Hp -> Ix Γ -> Prop, Yields P main S f (execOp ρ' oi) h' δ' Y2 /\ ∀ v2 h2 δ2, Y2 v2 h2 δ2 -> Z h2 /\ I v2 v h2 δ2)
    (hn : ∀ vi vj h2 δ2, I vi vj h2 δ2 -> Z h2 -> EA P main S f n ops Z z m l' k ((dj, vj) :: (di, vi) :: env) ds h2 δ2 R) : EA P main S f n ops Z z (m + 2) listed k env ds h δ R := by
  have wn : ∀ (e : Env) (o : Oper), o.guard = none -> wantE ops e o.guard = some true := fun e o ho => by rw [ho]; rfl
  refine EA.alt2 i j hr ?_ ?_
  · refine EAi.hands hi hli (wn _ _ gi) ti (.inl ⟨_, rfl, bi⟩) fun ρ hρ => ?_
    obtain ⟨Y1, y1, y2⟩ := h1 ρ hρ
    refine ⟨Y1, y1, fun v h' δ' hy => ?_⟩
    obtain ⟨z1, hs⟩ := y2 v h' δ' hy
    refine ⟨.inr z1, EA.onlyH j hj hri hij (wn _ _ gj) tj (.inl ⟨_, rfl, bj⟩) fun ρ' hρ' => ?_⟩
    obtain ⟨Y2, w1, w2⟩ := hs ρ' hρ'
    refine ⟨Y2, w1, fun v2 h2 δ2 hy2 => ?_⟩
    obtain ⟨z2, hI⟩ := w2 v2 h2 δ2 hy2
    exact ⟨.inr z2, hn _ _ _ _ hI z2⟩
  · refine EAi.hands hj hlj (wn _ _ gj) tj (.inl ⟨_, rfl, bj⟩) fun ρ hρ => ?_
    obtain ⟨Y1, y1, y2⟩ := h2 ρ hρ
    refine ⟨Y1, y1, fun v h' δ' hy => ?_⟩
    obtain ⟨z1, hs⟩ := y2 v h' δ' hy
    refine ⟨.inr z1, EA.onlyH i hi hrj hji (wn _ _ gi) ti (.inl ⟨_, rfl, bi⟩) fun ρ' hρ' => ?_⟩
    obtain ⟨Y2, w1, w2⟩ := hs ρ' hρ'
    refine ⟨Y2, w1, fun v2 h2 δ2 hy2 => ?_⟩
    obtain ⟨z2, hI⟩ := w2 v2 h2 δ2 hy2
    exact ⟨.inr z2, EA.swap (fun e => hne e.symm) (hn _ _ _ _ hI z2)⟩
end
section
variable {Γ : Type} {P : Program} {f : FuncId} {h : Hp} {δ : Ix Γ} {ty : TypeId} {pos : String} {af : Array Edge} {g : Option (Nat × Bool)}
theorem sem_build1 {S : Sit Γ} {t e sz by_ : Nat} {z : Value} {ps : Array (Nat × Operand)} {parts : List (Nat × Value)} {cells : Array Value} [hinf : Inf P e sz by_ z] [hu : Und P t (.slice e)] {env : Env} {ρ : Operand -> Value} {dst : Option Nat} {Q : Next -> Hp -> Ix Γ -> Prop} {X : Value -> Hp -> Ix Γ -> Prop}
    (hρ : ∀ x v, ev env x = some v -> ρ x = v) (hp : evP env ps.toList = some parts) (hsz : 0 < sz) (hsz2 : sz <= 1000000) (hz : z.cells.size = sz) (hf : Instr.fill (fun i => some (i * sz, sz)) z.cells parts = some cells) (hLo : S.lone δ.g)
    (hq : Q (.value (.slice (some ⟨h.size, 0, none⟩) 1 1)) (h.push (.cells cells e)) δ) : SemW P S (execOp ρ ⟨dst, .buildSlice t 1 ps, ty, pos, af, g⟩) h δ Q X := by
  have e1 : (ps.map fun (i, x) => (i, ρ x)) = parts.toArray := by
    obtain ⟨ps⟩ := ps
    simp only [List.map_toArray]
    rw [<- evP_ok hρ ps parts hp]
  unfold execOp
  dsimp only
  rw [e1]
  refine semW_bind _ _ _ _ _ _ ?_
  obtain ⟨inf, hi1, hi2, hi3, hi4⟩ := hinf.get
  unfold Instr.buildSlice
  refine semW_underlying hu.out ?_
  refine semW_sizeOf hi1 ?_
  rw [hi2, if_neg (by omega), if_neg (by omega)]
  refine semW_zeroValue hi1 hi4 ?_
  refine semW_pureBind ?_
  have hf' : Instr.fill (fun i => some (i * sz, sz)) ((Array.range (1 * sz)).map (z.cells[· % z.cells.size]!)) parts.toArray.toList = some cells := by rw [zeros1 hz]; exact hf
  dsimp only
  rw [hf']
  exact ⟨⟨hLo, thawed⟩, hq⟩
theorem Upd.pad (T : Nat -> Prop) {N : Nat} (hN : h.size <= N) : Upd T h (padTo h N) := ⟨by rw [padTo_size hN]; exact hN, fun b hb _ => by unfold padTo; exact Array.getElem?_append_left hb⟩
variable {X : Fp Γ} {i : Nat}
theorem make_w : ∀ g h δ Y, Make P false X i g h δ Y -> (SitW P X i).yld g h δ Y := fun _ _ _ _ z => .inl z
theorem yields_build {t e sz by_ : Nat} {z : Value} {ps : Array (Nat × Operand)} {parts : List (Nat × Value)} {cells : Array Value} [hinf : Inf P e sz by_ z] [hu : Und P t (.slice e)] {env : Env} {ρ : Operand -> Value} {dst : Option Nat}
    (hnd : 0 < i -> ¬ X.done i δ.g /\ X.fin δ.g i = none) (hρ : ∀ x v, ev env x = some v -> ρ x = v) (hp : evP env ps.toList = some parts) (hsz : 0 < sz) (hsz2 : sz <= 1000000) (hz : z.cells.size = sz) (hf : Instr.fill (fun i => some (i * sz, sz)) z.cells parts = some cells) :
    Yields P false (SitW P X i) f (execOp ρ ⟨dst, .buildSlice t 1 ps, ty, pos, af, g⟩) h δ (fun v h' δ' => δ' = δ /\ ∃ N, h.size <= N /\ v = .slice (some ⟨N, 0, none⟩) 1 1 /\ h' = (padTo h N).push (.cells cells e)) :=
  yields_make (X := X) (i := i) make_w hnd fun N hN => sem_build1 hρ hp hsz hsz2 hz hf True.intro ⟨_, .inl rfl, rfl, rfl, N, hN, by rw [padTo_size hN], rfl⟩
theorem yields_append {t e sz by_ : Nat} {z : Value} [hinf : Inf P e sz by_ z] [hu : Und P t (.slice e)] {s x : Value} {a b : Operand} {m c' b' e' : Nat} {fz : Nat × Nat} {cells new : List Value} {ρ : Operand -> Value} {dst : Option Nat}
    (hnd : 0 < i -> ¬ X.done i δ.g /\ X.fin δ.g i = none) (ha : ρ a = s) (hb : ρ b = x)
    (hs : SliceO h s e sz m cells) (hx : x = .slice (some ⟨b', 0, none⟩) 1 c') (hb' : h[b']? = some (.cells new.toArray e' fz)) (hnew : new.length = sz) (hone : ∀ v ∈ new, OneCell v) (hfit : (m + 1) * by_ <= 140737488355328) (hm : m < 1000000000000) (hz : z.cells.size = sz) (hS : ∀ b, blk s = some b -> ¬ (X.cf δ.g).ro b) :
    Yields P false (SitW P X i) f (execOp ρ ⟨dst, .call { callee := .builtin .append, args := #[a, b], argTypes := #[t, t] }, ty, pos, af, g⟩) h δ (fun v h' δ' => δ' = δ /\ SliceO h' v e sz (m + 1) (cells ++ new) /\ Upd (fun b => blk s = some b) h h' /\ ∀ b, blk v = some b -> blk s = some b \/ h.size <= b) := by
  refine yields_make (X := X) (i := i) make_w hnd fun N hN => ?_
  have up := Upd.pad (h := h) (fun _ => False) hN
  refine sem_builtin (vs := #[s, x]) (by simp [ha, hb]) fun cs => ?_
  show SemW P (MakeS X) (Builtin.append_ #[t, t] ty #[s, x] >>= fun v => pure (Next.value v)) (padTo h N) δ _ _
  refine semW_bind _ _ _ _ _ _ (sem_append1 (hs.upd up fun _ _ z => z) hx (up.get hb' fun z => z) hnew hone hfit hm hz (fun b o hb => hS b hb) (fun s' h' h1 h2 h3 => ?_) True.intro (fun z => z))
  refine ⟨s', .inl rfl, rfl, rfl, h1, ?_, fun b hb => ?_⟩
  · exact (Upd.pad _ hN).trans h2
  · rcases h3 b hb with h4 | h4
    · exact .inl h4
    · rw [padTo_size hN] at h4; exact .inr (by omega)
end
end
end Go.TJ
namespace Go.Proofs.Ytakioblpgmjdaaa
section
open Go Go.TJ Go.Proofs
variable [Dm]
structure Kw where
  vM : Nat
  vS : Nat
  vP : Nat
  vQ : Nat
  sb : Nat
  ib : Nat
def intv (x : Int) : Value := .int .i64 x
section
variable {h : Hp} {δ : Ix (Gf Sy)} {i : Nat} {c : Sc} {hn : Option Nat} {s : Option (Nat × Int)} {w : Int} {pu po : List Int} {bd : Nat} {sp sq : Value} {y : Sy}
theorem range_get {n j : Nat} {g : Nat -> Value} (h : j < n) : (((List.range n).map g).toArray)[j]? = some (g j) := by simp [h]
theorem app_ok {h' h5 h6 : Hp} {s1 s2 v : Value} {l1 l2 : List Int} {N : Nat} {o : Obj} {z : Int} (u : Upd (fun _ => False) h h') (x1 : SliceO h' s1 2 1 l1.length (l1.map intv)) (x2 : SliceO h' s2 2 1 l2.length (l2.map intv)) (b1 : ∀ b, blk s1 = some b -> h.size <= b) (ne : ∀ b, blk s1 = some b -> blk s2 ≠ some b) (hN : h'.size <= N) (e5 : h5 = (padTo h' N).push o)
    (x6 : SliceO h6 v 2 1 (l1.length + 1) (l1.map intv ++ [intv z])) (u6 : Upd (fun b => blk s1 = some b) h5 h6) (b6 : ∀ b, blk v = some b -> blk s1 = some b \/ h5.size <= b) :
    Upd (fun _ => False) h h6 /\ SliceO h6 v 2 1 (l1 ++ [z]).length ((l1 ++ [z]).map intv) /\ SliceO h6 s2 2 1 l2.length (l2.map intv) /\ (∀ b, blk v = some b -> h.size <= b) /\ (∀ b, blk v = some b -> blk s2 ≠ some b) := by
  have u5 : Upd (fun _ => False) h' h5 := by rw [e5]; exact (Upd.pad _ hN).trans (Upd.push _ _)
  have z5 := u5.size
  have z0 := u.size
  refine ⟨(u.trans u5).over u6 b1, ?_, (x2.upd u5 fun _ _ z => z).upd u6 fun b hb hb' => ne b hb' hb, fun b hb => ?_, fun b hb hb' => ?_⟩
  · rw [List.length_append, List.map_append]
    exact x6
  · rcases b6 b hb with h4 | h4
    · exact b1 b h4
    · omega
  · rcases b6 b hb with h4 | h4
    · exact ne b h4 hb'
    · have := x2.lt hb'
      omega
end
end
section
open Go Go.TJ Go.Proofs
variable [Dm]
structure RowI (h0 : Hp) (E : Mem Nat) (T : Nat) (tT tE : TypeId) (c0 : Array Value) (q : Nat) (h : Hp) (M : Mem Nat) (i : Nat) (s : Value) : Prop where
  rep : Rep h M
  upd : Upd (fun _ => False) h0 h
  above : ∀ k, M.ok k -> h0.size <= M.B k
  top : M.ok 0 /\ M.O 0 = .cells (c0.setIfInBounds q s) tT (0, 0)
  topB : M.B 0 = T
  ext : ∀ k, k = 2 \/ k = 3 -> (M.ok k ↔ E.ok k) /\ M.B k = E.B k /\ M.O k = E.O k
  sl : M.Sl 1 s tE 1 i ((List.range i).map fun j => ptr (M.B (4 + j)))
  cells : ∀ j, j < i -> M.ok (4 + j) /\ M.O (4 + j) = cellO 0
  rest : ∀ j, i <= j -> ¬ M.ok (4 + j)
theorem RowI.step {h0 : Hp} {E : Mem Nat} {T : Nat} {tT tE : TypeId} {c0 : Array Value} {q : Nat} {h : Hp} {M : Mem Nat} {i : Nat} {s s' : Value} {lit : Obj} {h5 : Hp} (x : RowI h0 E T tT tE c0 q h M i s)
    (hs : SliceO h5 s' tE 1 (i + 1) (((List.range i).map fun j => ptr (M.B (4 + j))) ++ [ptr h.size])) (u : Upd (fun b => blk s = some b) ((h.push (cellO 0)).push lit) h5) (hb : ∀ b, blk s' = some b -> blk s = some b \/ b = ((h.push (cellO 0)).push lit).size) :
    (∀ b, blk s = some b -> b ≠ T) /\ h5[T]? = some (.cells (c0.setIfInBounds q s) tT (0, 0)) /\ ∃ M', RowI h0 E T tT tE c0 q (hset h5 ⟨T, q, none⟩ s') M' (i + 1) s' := by
  have r1 := x.rep.put (4 + i) (cellO 0)
  have r2 := r1.upd0 (Upd.push _ lit)
  have sl1 := (x.sl.put (j := 4 + i) (by omega) h.size (cellO 0))
  obtain ⟨b, o, r3, sl3, hb', hlt⟩ := r2.app sl1 hs u hb
  have hTs : ∀ b, blk s = some b -> b ≠ T := fun b hb e => by
    obtain ⟨hk, e'⟩ := x.sl.blk hb
    have := x.rep.inj 1 0 hk x.top.1 (by rw [x.topB, <- e', e])
    cases this
  have t5 : h5[T]? = some (.cells (c0.setIfInBounds q s) tT (0, 0)) := u.get (get_push _ (get_push _ (x.topB ▸ x.rep.get x.top.1 x.top.2))) (fun y => hTs _ y rfl)
  refine ⟨hTs, t5, ?_⟩
  have hsz : h.size <= ((h.push (cellO 0)).push lit).size := by simp; omega
  have hab : h0.size <= b := by
    rcases hb' with ⟨hk, e⟩ | y
    · have hk' : M.ok 1 := by
        rcases hk with y | y
        · omega
        · exact y
      have := x.above 1 hk'
      rw [e]
      show h0.size <= ut M.B (4 + i) h.size 1
      rw [ut_ne _ _ (by omega)]
      exact this
    · have := x.upd.size; omega
  have okT : ((M.put (4 + i) h.size (cellO 0)).put 1 b o).ok 0 := .inr (.inr x.top.1)
  have oT : ((M.put (4 + i) h.size (cellO 0)).put 1 b o).O 0 = .cells (c0.setIfInBounds q s) tT (0, 0) := by
    show ut (ut M.O (4 + i) (cellO 0)) 1 o 0 = _
    rw [ut_ne _ _ (by omega), ut_ne _ _ (by omega)]; exact x.top.2
  have bT : ((M.put (4 + i) h.size (cellO 0)).put 1 b o).B 0 = T := by
    show ut (ut M.B (4 + i) h.size) 1 b 0 = _
    rw [ut_ne _ _ (by omega), ut_ne _ _ (by omega)]; exact x.topB
  have r4 := r3.hset okT oT q s'
  rw [bT] at r4
  have hge : ∀ b, blk s = some b -> h0.size <= b := fun b hb => by
    obtain ⟨hk, e⟩ := x.sl.blk hb
    rw [e]; exact x.above _ hk
  have hT : h0.size <= T := x.topB ▸ x.above 0 x.top.1
  have e1 : (List.range (i + 1)).map (fun j => ptr (((M.put (4 + i) h.size (cellO 0)).put 1 b o).B (4 + j))) = ((List.range i).map fun j => ptr (M.B (4 + j))) ++ [ptr h.size] := by
    rw [List.range_succ, List.map_append]
    congr 1
    · refine List.map_congr_left fun j hj => ?_
      have hj := List.mem_range.mp hj
      show ptr (ut (ut M.B (4 + i) h.size) 1 b (4 + j)) = _
      rw [ut_ne _ _ (by omega), ut_ne _ _ (by omega)]
    · show [ptr (ut (ut M.B (4 + i) h.size) 1 b (4 + i))] = _
      rw [ut_ne _ _ (by omega), ut_same]
  refine ⟨_, r4, ((x.upd.trans ((Upd.push _ _).trans (Upd.push _ _))).over u hge).over (Upd.hset (T := fun b => b = T) _ _ _ rfl) (fun b hb => by omega), fun k hk => ?_, ⟨okT, ?_⟩, bT, fun k hk => ?_, ?_, fun j hj => ?_, fun j hj => ?_⟩
  · show h0.size <= ut (ut M.B (4 + i) h.size) 1 b k
    by_cases k1 : k = 1
    · subst k1; rw [ut_same]; exact hab
    · by_cases k2 : k = 4 + i
      · subst k2; rw [ut_ne _ _ k1, ut_same]; exact x.upd.size
      · rw [ut_ne _ _ k1, ut_ne _ _ k2]
        rcases hk with y | y | y
        · exact absurd y k1
        · exact absurd y k2
        · exact x.above k y
  · rw [Array.setIfInBounds_setIfInBounds]
    simp [Mem.set, ut]
  · have k0 : k ≠ 0 := by omega
    have k1 : k ≠ 1 := by omega
    have k2 : k ≠ 4 + i := by omega
    obtain ⟨a, b, c⟩ := x.ext k hk
    refine ⟨⟨fun y => a.1 ?_, fun y => .inr (.inr (a.2 y))⟩, ?_, ?_⟩
    · rcases y with y | y | y
      · exact absurd y k1
      · exact absurd y k2
      · exact y
    · show ut (ut M.B (4 + i) _) 1 _ k = _
      rw [ut_ne _ _ k1, ut_ne _ _ k2]; exact b
    · show ut (ut (ut M.O (4 + i) (cellO 0)) 1 o) 0 _ k = _
      rw [ut_ne _ _ k0, ut_ne _ _ k1, ut_ne _ _ k2]; exact c
  · show (Mem.set _ 0 _).Sl 1 s' tE 1 (i + 1) ((List.range (i + 1)).map (fun j => ptr (((M.put (4 + i) h.size (cellO 0)).put 1 b o).B (4 + j))))
    rw [e1]
    exact sl3.set (by omega) _
  · refine ⟨?_, ?_⟩
    · by_cases hji : j = i
      · subst hji; exact .inr (.inl rfl)
      · exact .inr (.inr (x.cells j (by omega)).1)
    · show ut (ut (ut M.O (4 + i) (cellO 0)) 1 o) 0 _ (4 + j) = _
      rw [ut_ne _ _ (by omega), ut_ne _ _ (by omega)]
      by_cases hji : j = i
      · subst hji; rw [ut_same]
      · rw [ut_ne _ _ (by omega)]; exact (x.cells j (by omega)).2
  · rintro (y | y | y)
    · omega
    · omega
    · exact x.rest j (by omega) y
theorem RowI.reads {h0 : Hp} {E : Mem Nat} {T : Nat} {tT tE : TypeId} {c0 : Array Value} {q : Nat} {h : Hp} {M : Mem Nat} {i : Nat} {s : Value} (x : RowI h0 E T tT tE c0 q h M i s) (hq : q < c0.size) : hcell h ⟨T, q, none⟩ = some s :=
  hcell_of (x.topB ▸ x.rep.get x.top.1 x.top.2) (by simp [hq])
end
section
open Go Go.TJ Go.Proofs
variable [Dm]
abbrev W64 (x : Int) : Int := IntKind.i64.wrap x
theorem w_sub {a b : Int} : W64 (W64 a - W64 b) = W64 (a - b) := by simp only [W64, IntKind.wrap_i64]; omega
theorem w_add1 {a : Int} : W64 (W64 a + 1) = W64 (a + 1) := by simp only [W64, IntKind.wrap_i64]; omega
theorem w_sub1 {a : Int} : W64 (W64 a - 1) = W64 (a - 1) := by simp only [W64, IntKind.wrap_i64]; omega
theorem w_small {c : Int} (h0 : -100000 <= c) (h1 : c <= 100000) : W64 c = c := by simp only [W64, IntKind.wrap_i64]; omega
def deqM (n cap : Nat) (rest : List Value) (B : Nat -> Nat) (v : Nat -> Int) : Mem Nat := ⟨fun k => k < 4 + n, B, fun k =>
  if k = 0 then .cells #[ptr (B 2), ptr (B 3), .slice (some ⟨B 1, 0, none⟩) n cap] 100 (0, 0)
  else if k = 1 then .cells (((List.range n).map fun j => ptr (B (4 + j))) ++ rest).toArray 40 (0, 0)
  else cellO (v k)⟩
section
variable {h : Hp} {n cap : Nat} {rest : List Value} {B : Nat -> Nat} {v : Nat -> Int}
theorem deq_top (r : Rep h (deqM n cap rest B v)) : hcell h ⟨B 0, 0, none⟩ = some (ptr (B 2)) := r.cell (k := 0) (by show 0 < 4 + n; omega) rfl rfl
theorem deq_bot (r : Rep h (deqM n cap rest B v)) : hcell h ⟨B 0, 1, none⟩ = some (ptr (B 3)) := r.cell (k := 0) (by show 0 < 4 + n; omega) rfl rfl
theorem deq_sl (r : Rep h (deqM n cap rest B v)) : hcell h ⟨B 0, 2, none⟩ = some (.slice (some ⟨B 1, 0, none⟩) n cap) := r.cell (k := 0) (by show 0 < 4 + n; omega) rfl rfl
theorem deq_row (r : Rep h (deqM n cap rest B v)) {j : Nat} (hj : j < n) : hcell h ⟨B 1, 0 + j * 1, none⟩ = some (ptr (B (4 + j))) := r.cell (k := 1) (by show 1 < 4 + n; omega) rfl (by
  rw [show 0 + j * 1 = j by omega]
  simp only [List.getElem?_toArray]
  rw [List.getElem?_append_left (by simp; omega)]
  simp [hj])
theorem deq_cell (r : Rep h (deqM n cap rest B v)) {k : Nat} (h2 : 2 <= k) (hk : k < 4 + n) {x : Int} (hx : v k = x) : h[B k]? = some (cellO x) := r.get (k := k) hk (by
  show (if k = 0 then _ else if k = 1 then _ else cellO (v k)) = _
  rw [if_neg (by omega), if_neg (by omega), hx])
theorem deq_set (r : Rep h (deqM n cap rest B v)) {k : Nat} (h2 : 2 <= k) (hk : k < 4 + n) (x : Int) : Rep (h.setIfInBounds (B k) (cellO x)) (deqM n cap rest B (ut v k x)) := by
  refine (r.set (k := k) hk (cellO x)).congr (fun _ hk => hk) (fun _ _ => rfl) (fun j hj => ?_)
  show (deqM n cap rest B (ut v k x)).O j = ut (deqM n cap rest B v).O k (cellO x) j
  by_cases e : j = k
  · subst e
    rw [ut_same]
    show (if j = 0 then _ else if j = 1 then _ else cellO (ut v j x j)) = _
    rw [if_neg (by omega), if_neg (by omega), ut_same]
  · rw [ut_ne _ _ e]
    show (if j = 0 then _ else if j = 1 then _ else cellO (ut v k x j)) = (if j = 0 then _ else if j = 1 then _ else cellO (v j))
    by_cases k0 : j = 0
    · rw [if_pos k0, if_pos k0]
    · by_cases k1 : j = 1
      · rw [if_neg k0, if_pos k1, if_neg k0, if_pos k1]
      · rw [if_neg k0, if_neg k1, if_neg k0, if_neg k1, ut_ne _ _ e]
end
def slot (n : Nat) (q : Int) : Nat := (q % n).toNat
theorem slot_lt {n : Nat} (hn : 0 < n) (q : Int) : slot n q < n := by
  have := Int.emod_nonneg q (by omega : (n : Int) ≠ 0)
  have := Int.emod_lt_of_pos q (by omega : 0 < (n : Int))
  unfold slot; omega
theorem slot_w {n e : Nat} (hn : n = 2 ^ e) (he : e <= 12) (q : Int) : slot n (W64 q) = slot n q := by
  have hd : (n : Int) ∣ 18446744073709551616 := by
    refine ⟨2 ^ (64 - e), ?_⟩
    rw [hn]
    have : (18446744073709551616 : Int) = 2 ^ 64 := by decide
    rw [this, show ((2 ^ e : Nat) : Int) = 2 ^ e by simp, <- Int.pow_add]
    congr 1; omega
  unfold slot
  congr 1
  have e1 : W64 q % 18446744073709551616 = q % 18446744073709551616 := by simp only [W64, IntKind.wrap_i64]; omega
  rw [<- Int.emod_emod_of_dvd (W64 q) hd, e1, Int.emod_emod_of_dvd q hd]
theorem slot_bits {n e : Nat} (hn : n = 2 ^ e) (he : e <= 12) (x : Int) : bits .and .u64 (IntKind.u64.wrap x) (IntKind.u64.wrap ((n : Int) - 1)) = (slot n x : Int) := by
  have hle : n <= 4096 := by have := Nat.pow_le_pow_right (n := 2) (by decide) he; omega
  have hpos : 0 < n := by rw [hn]; exact Nat.two_pow_pos e
  have hd : (n : Int) ∣ 18446744073709551616 := by
    refine ⟨2 ^ (64 - e), ?_⟩
    rw [hn]
    have : (18446744073709551616 : Int) = 2 ^ 64 := by decide
    rw [this, show ((2 ^ e : Nat) : Int) = 2 ^ e by simp, <- Int.pow_add]
    congr 1; omega
  rw [IntKind.wrap_u64, IntKind.wrap_u64, show ((n : Int) - 1) % 18446744073709551616 = 2 ^ e - 1 by
    have : (n : Int) = 2 ^ e := by rw [hn]; simp
    rw [<- this]; omega]
  have h64 : (2 : Int) ^ 64 = 18446744073709551616 := by decide
  rw [bits_mask .u64 64 (by decide) (fun m h0 h1 => by rw [h64] at h1; rw [IntKind.wrap_u64]; omega) e (by omega) _ (by omega) (by rw [h64]; omega)]
  have : (2 : Int) ^ e = n := by rw [hn]; simp
  rw [this, Int.emod_emod_of_dvd x hd]
  unfold slot
  have := Int.emod_nonneg x (by omega : (n : Int) ≠ 0)
  omega
section
variable {Γ : Type} {main : Bool} {h : Hp} {δ : Ix Γ}
structure RSD where
  i : Nat
  M : Mem Nat
  s : Value
set_option maxRecDepth 8000 in
set_option maxHeartbeats 4000000 in
theorem deqnew_ok {n e : Nat} {f : Int} (hm : n = 2 ^ e) (he1 : 1 <= e) (he : e <= 12) (hF : ∀ b o, h.size <= b -> ¬ NoS.still δ.g ⟨b, o, none⟩) :
    CallW Try.prog main NoS 16 #[.int .i64 n, .int .i64 f] h δ (Ret fun w h' δ' => δ' = δ /\ Upd (fun _ => False) h h' /\ ∃ cap rest B, w = .tuple #[ptr (B 0), .int .i64 0] /\ Rep h' (deqM n cap rest B fun k => if k < 4 then f else 0) /\ ∀ k, k < 4 + n -> h.size <= B k) := by
  have hm2 : 2 <= n := by have := Nat.pow_le_pow_right (n := 2) (by decide) he1; omega
  have hm1 : n <= 4096 := by have := Nat.pow_le_pow_right (n := 2) (by decide) he; omega
  have hbits : bits .and .i64 (n : Int) ((n : Int) - 1) = 0 := by
    have : (n : Int) = 2 ^ e := by rw [hm]; simp
    have hmk := and_mask (x := (n : Int)) (e := e) (by omega) (by omega) (by omega)
    rw [<- this] at hmk
    rw [hmk, Int.emod_self]
  refine CallW.start (n := 41) rfl rfl ?_
  (repeat (first | refine EK.seq ?_ | refine EK.region ?_ | refine ER.done ?_ | refine ER.move rfl rfl rfl ?_ | refine ER.assign rfl rfl rfl ?_ | refine ER.pickF rfl rfl rfl rfl ?_ | refine ER.cmpF rfl rfl rfl rfl rfl (by first | (dsimp only [cmpP]; omega) | exact rfl | exact Int.le_refl _) ?_ | refine ER.sub' (kd := .i64) rfl rfl rfl rfl (i64_in (by omega) (by omega)) ?_))
  refine ER.andI rfl rfl rfl rfl hbits ?_
  (repeat (first | refine EK.seq ?_ | refine EK.region ?_ | refine ER.done ?_ | refine EK.skip ?_ | refine ER.move rfl rfl rfl ?_ | refine ER.pickF rfl rfl rfl rfl ?_ | refine ER.cmpF rfl rfl rfl rfl rfl (by first | (dsimp only [cmpP]; omega) | exact rfl | exact Int.le_refl _) ?_ | refine EK.condF rfl ?_))
  refine ER.callD rfl rfl rfl rfl rfl (cnewS (hF _ _ (Nat.le_refl _))) ?_
  (repeat refine ER.move rfl rfl rfl ?_)
  refine ER.callD rfl rfl rfl rfl rfl (cnewS (hF _ _ (by simp))) ?_
  refine ER.buildS (cells := #[ptr h.size, ptr (h.size + 1), nilS]) rfl rfl (by simp only [Array.size_push]; rfl) rfl ?_
  (repeat (first | refine EK.seq ?_ | refine EK.region ?_ | refine ER.done ?_ | refine EK.block ?_ | refine ER.move rfl rfl rfl ?_ | refine ER.assign rfl rfl rfl ?_ | refine ER.boxA rfl rfl rfl ?_))
  simp only [Array.size_push]
  have x0 : RowI h ((Mem.emp.put 2 h.size (cellO f)).put 3 (h.size + 1) (cellO f)) (h.size + 1 + 1) 100 40 #[ptr h.size, ptr (h.size + 1), nilS] 2 (((h.push (cellO f)).push (cellO f)).push (.cells #[ptr h.size, ptr (h.size + 1), nilS] 100))
      (((Mem.emp.put 2 h.size (cellO f)).put 3 (h.size + 1) (cellO f)).put 0 (h.size + 1 + 1) (.cells #[ptr h.size, ptr (h.size + 1), nilS] 100 (0, 0))) 0 nilS := by
    have r := (((Rep.emp (K := Nat) (h := h)).put 2 (cellO f)).put 3 (cellO f)).put 0 (.cells #[ptr h.size, ptr (h.size + 1), nilS] 100 (0, 0))
    simp only [Array.size_push] at r
    refine ⟨r, ((Upd.push _ _).trans (Upd.push _ _)).trans (Upd.push _ _), fun k hk => ?_, ⟨.inl rfl, ?_⟩, ?_, fun k hk => ⟨⟨fun y => ?_, fun y => .inr y⟩, ?_, ?_⟩, Mem.Sl.nil ?_, fun q hq => by omega, fun q _ hk => ?_⟩
    · rcases hk with rfl | rfl | rfl | hk
      · simp [Mem.put, ut]; omega
      · simp [Mem.put, ut]
      · simp [Mem.put, ut]
      · exact hk.elim
    · simp [Mem.put, ut]
    · simp [Mem.put, ut]
    · rcases y with y | y
      · omega
      · exact y
    · show ut _ _ _ _ = _
      exact ut_ne _ _ (by omega)
    · show ut _ _ _ _ = _
      exact ut_ne _ _ (by omega)
    · simp [Mem.put, Mem.emp]
    · rcases hk with y | y | y | y
      · omega
      · omega
      · omega
      · exact y
  generalize hT : h.size + 1 + 1 = T at x0 ⊢
  generalize hE : ((Mem.emp.put 2 h.size (cellO f)).put 3 (h.size + 1) (cellO f) : Mem Nat) = E at x0
  have E2 : E.ok 2 /\ E.B 2 = h.size /\ E.O 2 = cellO f := by rw [<- hE]; simp [Mem.put, ut]
  have E3 : E.ok 3 /\ E.B 3 = h.size + 1 /\ E.O 3 = cellO f := by rw [<- hE]; simp [Mem.put, ut]
  clear hE
  generalize ((h.push (cellO f)).push (cellO f)).push (.cells #[ptr h.size, ptr (h.size + 1), nilS] 100) = h1 at x0 ⊢
  refine EK.loopInv (fun t : RSD => [(27, .int .i64 t.i), (26, .int .i64 n), (6, ptr T), (0, .int .i64 n)]) (fun t h' δ' => δ' = δ /\ t.i <= n /\ RowI h E T 100 40 #[ptr h.size, ptr (h.size + 1), nilS] 2 h' t.M t.i t.s) (fun t => n - t.i) ⟨0, _, nilS⟩ ⟨rfl, rfl, rfl, rfl, trivial⟩ ⟨rfl, Nat.zero_le _, x0⟩ ?_
  clear x0 h1
  rintro ⟨i, M, s⟩ h1 δ1 ⟨hδ1, hi, x⟩ again
  dsimp only at hi x again ⊢
  obtain rfl : δ = δ1 := hδ1.symm
  have hsz := x.upd.size
  by_cases hin : i < n
  · (repeat (first | refine EK.seq ?_ | refine EK.region ?_ | refine ER.done ?_ | refine EK.skip ?_ | refine EK.block ?_ | refine ER.cmpT rfl rfl rfl rfl rfl (by first | (dsimp only [cmpP]; omega) | exact rfl | exact Int.le_refl _) ?_ | refine EK.condT rfl ?_))
    have cS : hcell h1 ⟨T, 2, none⟩ = some s := x.reads (by simp)
    refine EK.regionAnyL (fun h' => hcell h' ⟨T, 2, none⟩ = some s) 10 ?_
    have hZ := cS
    refine EA.tMove 0 rfl (by kernel_rfl) rfl rfl rfl rfl hZ ?_
    refine EA.tMove 1 rfl (by kernel_rfl) rfl rfl rfl rfl hZ ?_
    refine EA.tNil 2 rfl (by kernel_rfl) rfl rfl rfl rfl hZ ?_
    refine EA.tField 3 rfl (by kernel_rfl) rfl rfl rfl rfl hZ ?_
    refine EA.tLoad 4 rfl (by kernel_rfl) rfl rfl rfl rfl (fun _ hz => hz) hZ ?_
    refine EA.callD 5 rfl (by kernel_rfl) rfl rfl rfl rfl rfl rfl (cnewS (hF _ _ hsz)) (hcell_push hZ) ?_
    refine EA.val (v := .slice (some ⟨(h1.push (cellO 0)).size, 0, none⟩) 1 1) (h' := (h1.push (cellO 0)).push (.cells #[ptr h1.size] 40)) 6 rfl (by kernel_rfl) rfl rfl rfl (fun ρ Q X hρ hq => sem_slice1 (sz := 1) hρ rfl (by omega) (by omega) rfl rfl hq) (hcell_push (hcell_push hZ)) ?_
    have r4 := (x.rep.put (4 + i) (cellO 0)).upd0 (Upd.push (h1.push (cellO 0)) (.cells #[ptr h1.size] 40))
    refine EA.append1 (new := [ptr h1.size]) 7 rfl (by kernel_rfl) rfl rfl rfl rfl rfl ((x.sl.put (j := 4 + i) (by omega) h1.size (cellO 0)).slice r4) (get_push_new _ _) rfl (by simp [OneCell]) (by omega) (by omega) rfl (fun b o hb => hF _ _ (by
      obtain ⟨hk, e⟩ := x.sl.blk hb
      rw [e]; exact x.above _ hk)) ?_
    intro s' h5 hs5 u5 hb5
    obtain ⟨hTs, t5, M', x'⟩ := x.step hs5 u5 hb5
    have c5 : hcell h5 ⟨T, 2, none⟩ = some s := hcell_of t5 rfl
    obtain ⟨a5, k5, es5⟩ := hs5.val
    refine ⟨c5, ?_⟩
    refine EA.val 8 rfl (by kernel_rfl) rfl rfl rfl (fun ρ Q X hρ hq => sem_nilCheck (hρ _ _ rfl) hq) c5 ?_
    have hZ := c5
    refine EA.tField 9 rfl (by kernel_rfl) rfl rfl rfl rfl hZ ?_
    refine EA.unitL (h' := hset h5 ⟨T, 2, none⟩ s') 10 rfl (by kernel_rfl) rfl rfl rfl (fun ρ Q X hρ hq => sem_store1 (hρ _ _ rfl) (hρ _ _ rfl) (by rw [es5]; exact ⟨nofun, nofun⟩) ⟨_, c5⟩ (hfroz_of t5) (hF _ _ (x.topB ▸ x.above 0 x.top.1)) hq) ?_
    refine EA.done (by kernel_rfl) ?_
    (repeat (first | refine EK.region ?_ | refine ER.done ?_ | refine EK.inBlock ?_ | refine ER.move rfl rfl rfl ?_ | refine ER.add (kd := .i64) rfl rfl rfl rfl (i64_in (by omega) (by omega)) ?_))
    exact EK.back (again ⟨i + 1, M', s'⟩ _ _ (by dsimp only; omega) ⟨rfl, by dsimp only; omega, x'⟩) ⟨rfl, rfl, rfl, rfl, trivial⟩
  · obtain rfl : i = n := by omega
    clear again
    (repeat (first | refine EK.seq ?_ | refine EK.region ?_ | refine ER.done ?_ | refine ER.move rfl rfl rfl ?_ | refine ER.assign rfl rfl rfl ?_ | refine ER.cmpF rfl rfl rfl rfl rfl (by first | (dsimp only [cmpP]; omega) | exact rfl | exact Int.le_refl _) ?_ | refine EK.condF rfl ?_ | refine EK.ret ?_ | refine EK.exit rfl ?_))
    have h1T := x.topB
    obtain ⟨e2a, e2b, e2c⟩ := x.ext 2 (.inl rfl)
    obtain ⟨e3a, e3b, e3c⟩ := x.ext 3 (.inr rfl)
    obtain ⟨hl, ⟨_, hz, _⟩ | ⟨k1, cap, rest, rfl, hc1, hc2, hc3⟩⟩ := x.sl
    · omega
    have okM : ∀ k, k < 4 + i -> M.ok k := fun k hk => by
      rcases (show k = 0 \/ k = 1 \/ k = 2 \/ k = 3 \/ 4 <= k by omega) with rfl | rfl | rfl | rfl | h4
      · exact x.top.1
      · exact k1
      · exact e2a.2 E2.1
      · exact e3a.2 E3.1
      · have := (x.cells (k - 4) (by omega)).1
        rwa [show 4 + (k - 4) = k by omega] at this
    refine EU.ret2 rfl rfl rfl ⟨rfl, x.upd, cap, rest, M.B, by rw [h1T], x.rep.congr (fun k hk => okM k hk) (fun _ _ => rfl) (fun k hk => ?_), fun k hk => x.above k (okM k hk)⟩
    have hk' : k < 4 + i := hk
    unfold deqM
    dsimp only
    rcases (show k = 0 \/ k = 1 \/ k = 2 \/ k = 3 \/ 4 <= k by omega) with rfl | rfl | rfl | rfl | h4
    · rw [if_pos rfl, x.top.2, e2b, e3b, E2.2.1, E3.2.1]; rfl
    · rw [if_neg (by decide), if_pos rfl, hc3]
    · rw [if_neg (by decide), if_neg (by decide), if_pos (by decide), e2c, E2.2.2]
    · rw [if_neg (by decide), if_neg (by decide), if_pos (by decide), e3c, E3.2.2]
    · rw [if_neg (by omega), if_neg (by omega), if_neg (by omega)]
      have := (x.cells (k - 4) (by omega)).2
      rw [show 4 + (k - 4) = k by omega] at this
      exact this.symm
theorem dnone_ok {S : Sit Γ} {b c : Nat} (hc : hcell h ⟨b, 0, none⟩ = some (ptr c)) : CallW Try.prog main S 63 #[ptr b] h δ (Ret (Det (.bool false) h δ)) := by
  refine CallW.start (n := 12) rfl rfl ?_
  (repeat (first | refine EK.seq ?_ | refine EK.region ?_ | refine ER.done ?_ | refine ER.move rfl rfl rfl ?_ | refine ER.assign rfl rfl rfl ?_ | refine ER.nilCheck rfl rfl rfl ?_ | refine ER.fieldAddr rfl rfl rfl ?_ | refine ER.eqV rfl rfl rfl rfl rfl ?_ | refine ER.pickF rfl rfl rfl rfl ?_ | refine EK.ret ?_ | refine ER.load1 rfl rfl rfl (by assumption) ?_))
  exact EU.ret1 rfl rfl det
end
end
section
open Go Go.TJ Go.Proofs
variable [Dm]
section
variable {Γ : Type} {main : Bool} {h : Hp} {δ : Ix Γ} {n cap : Nat} {rest : List Value} {B : Nat -> Nat} {v : Nat -> Int}
abbrev DFree (S : Sit Γ) (γ : Γ) (n : Nat) (B : Nat -> Nat) : Prop := ∀ k o, k < 4 + n -> ¬ S.still γ ⟨B k, o, none⟩
set_option maxRecDepth 8000 in
set_option maxHeartbeats 1000000 in
theorem dat_ok {e : Nat} {x : Int} (r : Rep h (deqM n cap rest B v)) (hn : n = 2 ^ e) (he : e <= 12) : CallW Try.prog main NoS 64 #[ptr (B 0), .int .i64 x] h δ (Ret (Det (ptr (B (4 + slot n x))) h δ)) := by
  have hle : n <= 4096 := by have := Nat.pow_le_pow_right (n := 2) (by decide) he; omega
  have hpos : 0 < n := by rw [hn]; exact Nat.two_pow_pos e
  have hlt := slot_lt hpos x
  have cs := deq_sl r
  have cr := deq_row r hlt
  refine CallW.start (n := 21) rfl rfl ?_
  (repeat (first | refine EK.seq ?_ | refine EK.region ?_ | refine ER.done ?_ | refine ER.assign rfl rfl rfl ?_))
  refine EK.regionAny (fun h' => h' = h) ?_
  have hZ : h = h := rfl
  refine EA.tMove 0 rfl (by kernel_rfl) rfl rfl rfl rfl hZ ?_
  refine EA.tNil 1 rfl (by kernel_rfl) rfl rfl rfl rfl hZ ?_
  refine EA.tField 2 rfl (by kernel_rfl) rfl rfl rfl rfl hZ ?_
  refine EA.tLoad 3 rfl (by kernel_rfl) rfl rfl rfl rfl (fun _ hz => hz ▸ cs) hZ ?_
  refine EA.tMove 4 rfl (by kernel_rfl) rfl rfl rfl rfl hZ ?_
  refine EA.tConv (r := IntKind.u64.wrap x) 5 rfl (by kernel_rfl) rfl rfl rfl rfl rfl hZ ?_
  refine EA.tMove 6 rfl (by kernel_rfl) rfl rfl rfl rfl hZ ?_
  refine EA.tNil 7 rfl (by kernel_rfl) rfl rfl rfl rfl hZ ?_
  refine EA.tField 8 rfl (by kernel_rfl) rfl rfl rfl rfl hZ ?_
  refine EA.tLoad 9 rfl (by kernel_rfl) rfl rfl rfl rfl (fun _ hz => hz ▸ cs) hZ ?_
  refine EA.tLen1 10 rfl (by kernel_rfl) rfl rfl rfl rfl hZ ?_
  refine EA.tSub (kd := .i64) 11 rfl (by kernel_rfl) rfl rfl rfl rfl rfl (i64_in (by omega) (by omega)) hZ ?_
  refine EA.tConv (r := IntKind.u64.wrap ((n : Int) - 1)) 12 rfl (by kernel_rfl) rfl rfl rfl rfl rfl hZ ?_
  refine EA.tBinI (kd := .u64) (v := .int .u64 (slot n x : Int)) 13 rfl (by kernel_rfl) rfl rfl rfl rfl rfl ((binOp_bits (.inl rfl)).trans (by rw [slot_bits hn he])) hZ ?_
  refine EA.tIdxS 14 rfl (by kernel_rfl) rfl rfl rfl rfl rfl (by omega) (by omega) hZ ?_
  refine EA.tLoad 15 rfl (by kernel_rfl) rfl rfl rfl rfl (fun _ hz => hz ▸ cr) hZ ?_
  refine EA.tAssign 16 rfl (by kernel_rfl) rfl rfl rfl rfl hZ ?_
  refine EA.done (by kernel_rfl) ?_
  (repeat refine EK.ret ?_)
  exact EU.ret1 rfl rfl det
set_option maxRecDepth 8000 in
set_option maxHeartbeats 1000000 in
theorem dlen_ok {T : Int} {c : Nat} (r : Rep h (deqM n cap rest B v)) (hT : v 2 = W64 T) (hb : v 3 = W64 (T + c)) (hc : c <= 4096) : CallW Try.prog main NoS 25 #[ptr (B 0), .pointer none] h δ (Ret (Det (.int .i64 c) h δ)) := by
  have ct := deq_top r
  have cb := deq_bot r
  have hs : W64 (W64 (T + c) - W64 T) = c := by rw [w_sub, show T + c - T = (c : Int) by omega]; exact w_small (by omega) (by omega)
  refine CallW.start (n := 22) rfl rfl ?_
  (repeat (first | refine EK.seq ?_ | refine EK.region ?_ | refine ER.done ?_ | refine ER.move rfl rfl rfl ?_ | refine ER.assign rfl rfl rfl ?_))
  refine ER.callD rfl rfl rfl rfl rfl (dnone_ok ct) ?_
  (repeat (first | refine EK.seq ?_ | refine EK.region ?_ | refine ER.done ?_ | refine EK.skip ?_ | refine ER.move rfl rfl rfl ?_ | refine ER.nilCheck rfl rfl rfl ?_ | refine ER.fieldAddr rfl rfl rfl ?_ | refine EK.condF rfl ?_ | refine ER.load1 rfl rfl rfl (by assumption) ?_))
  refine ER.callD rfl rfl rfl rfl rfl (cload (deq_cell r (k := 2) (by omega) (by omega) hT)) ?_
  (repeat (first | refine EK.seq ?_ | refine EK.region ?_ | refine ER.done ?_ | refine ER.move rfl rfl rfl ?_ | refine ER.assign rfl rfl rfl ?_ | refine ER.nilCheck rfl rfl rfl ?_ | refine ER.fieldAddr rfl rfl rfl ?_ | refine ER.load1 rfl rfl rfl (by assumption) ?_))
  refine ER.callD rfl rfl rfl rfl rfl (cload (deq_cell r (k := 3) (by omega) (by omega) hb)) ?_
  (repeat refine ER.move rfl rfl rfl ?_)
  refine ER.sub' (r := (c : Int)) rfl rfl rfl rfl hs ?_
  (repeat (first | refine ER.done ?_ | refine ER.assign rfl rfl rfl ?_ | refine EK.ret ?_))
  exact EU.ret1 rfl rfl det
set_option maxRecDepth 8000 in
set_option maxHeartbeats 1000000 in
theorem dpush_ok {e c : Nat} {T x : Int} (r : Rep h (deqM n cap rest B v)) (hn : n = 2 ^ e) (he : e <= 12) (hT : v 2 = W64 T) (hb : v 3 = W64 (T + c)) (hc : c < n) (hS : DFree NoS δ.g n B) :
    CallW Try.prog main NoS 20 #[ptr (B 0), .pointer none, .int .i64 x] h δ (Ret fun w h' δ' => w = .int .i64 0 /\ δ' = δ /\ Rep h' (deqM n cap rest B (ut (ut v (4 + slot n (T + c)) x) 3 (W64 (T + c + 1)))) /\ Upd (fun b => ∃ k, k < 4 + n /\ b = B k) h h') := by
  have hle : n <= 4096 := by have := Nat.pow_le_pow_right (n := 2) (by decide) he; omega
  have hpos : 0 < n := by rw [hn]; exact Nat.two_pow_pos e
  have hlt := slot_lt hpos (T + c)
  have ct := deq_top r
  have cb := deq_bot r
  have cs := deq_sl r
  have hs : W64 (W64 (T + c) - W64 T) = c := by rw [w_sub, show T + c - T = (c : Int) by omega]; exact w_small (by omega) (by omega)
  refine CallW.start (n := 44) rfl rfl ?_
  (repeat (first | refine EK.seq ?_ | refine EK.region ?_ | refine ER.done ?_ | refine ER.move rfl rfl rfl ?_ | refine ER.assign rfl rfl rfl ?_))
  refine ER.callD rfl rfl rfl rfl rfl (dnone_ok ct) ?_
  (repeat (first | refine EK.seq ?_ | refine EK.region ?_ | refine ER.done ?_ | refine EK.skip ?_ | refine ER.move rfl rfl rfl ?_ | refine ER.nilCheck rfl rfl rfl ?_ | refine ER.fieldAddr rfl rfl rfl ?_ | refine EK.condF rfl ?_ | refine ER.load1 rfl rfl rfl (by assumption) ?_))
  refine ER.callD rfl rfl rfl rfl rfl (cload (deq_cell r (k := 3) (by omega) (by omega) hb)) ?_
  (repeat (first | refine EK.seq ?_ | refine ER.done ?_ | refine ER.assign rfl rfl rfl ?_))
  refine EK.regionAny (fun h' => h' = h) ?_
  have hZ : h = h := rfl
  refine EA.tMove 0 rfl (by kernel_rfl) rfl rfl rfl rfl hZ ?_
  refine EA.tMove 1 rfl (by kernel_rfl) rfl rfl rfl rfl hZ ?_
  refine EA.tNil 2 rfl (by kernel_rfl) rfl rfl rfl rfl hZ ?_
  refine EA.tField 3 rfl (by kernel_rfl) rfl rfl rfl rfl hZ ?_
  refine EA.tLoad 4 rfl (by kernel_rfl) rfl rfl rfl rfl (fun _ hz => hz ▸ ct) hZ ?_
  refine EA.tMove 5 rfl (by kernel_rfl) rfl rfl rfl rfl hZ ?_
  refine EA.tMove 8 rfl (by kernel_rfl) rfl rfl rfl rfl hZ ?_
  refine EA.tNil 9 rfl (by kernel_rfl) rfl rfl rfl rfl hZ ?_
  refine EA.tField 10 rfl (by kernel_rfl) rfl rfl rfl rfl hZ ?_
  refine EA.tLoad 11 rfl (by kernel_rfl) rfl rfl rfl rfl (fun _ hz => hz ▸ cs) hZ ?_
  refine EA.tLen1 12 rfl (by kernel_rfl) rfl rfl rfl rfl hZ ?_
  refine EA.callD 6 rfl (by kernel_rfl) rfl rfl rfl rfl rfl rfl (cload (deq_cell r (k := 2) (by omega) (by omega) hT)) hZ ?_
  refine EA.tSub (kd := .i64) (r := (c : Int)) 7 rfl (by kernel_rfl) rfl rfl rfl rfl rfl hs hZ ?_
  refine EA.tCmpF 13 rfl (by kernel_rfl) rfl rfl rfl rfl rfl rfl (by first | (dsimp only [cmpP]; omega) | exact rfl | exact Int.le_refl _) hZ ?_
  refine EA.done (by kernel_rfl) ?_
  (repeat (first | refine EK.seq ?_ | refine EK.region ?_ | refine EK.skip ?_ | refine ER.move rfl rfl rfl ?_ | refine EK.condF rfl ?_))
  refine ER.callD rfl rfl rfl rfl rfl (dat_ok r hn he) ?_
  rw [slot_w hn he]
  (repeat refine ER.move rfl rfl rfl ?_)
  refine ER.callD rfl rfl rfl rfl rfl (cstore (deq_cell r (k := 4 + slot n (T + c)) (by omega) (by omega) rfl) (fun o => hS _ o (by omega))) ?_
  have r1 := deq_set r (k := 4 + slot n (T + c)) (by omega) (by omega) x
  have u1 := Upd.set (T := fun b => ∃ k, k < 4 + n /\ b = B k) h (B (4 + slot n (T + c))) (cellO x) ⟨_, by omega, rfl⟩
  clear ct cb cs
  generalize h.setIfInBounds (B (4 + slot n (T + c))) (cellO x) = h1 at r1 u1 ⊢
  have cb := deq_bot r1
  (repeat (first | refine EK.seq ?_ | refine EK.region ?_ | refine ER.done ?_ | refine ER.move rfl rfl rfl ?_ | refine ER.nilCheck rfl rfl rfl ?_ | refine ER.fieldAddr rfl rfl rfl ?_ | refine ER.load1 rfl rfl rfl (by assumption) ?_))
  refine ER.add (r := W64 (T + c + 1)) rfl rfl rfl rfl w_add1 ?_
  skip
  refine ER.callD rfl rfl rfl rfl rfl (cstore (deq_cell r1 (k := 3) (by omega) (by omega) rfl) (fun o => hS _ o (by omega))) ?_
  have r2 := deq_set r1 (k := 3) (by omega) (by omega) (W64 (T + c + 1))
  have u2 := Upd.set (T := fun b => ∃ k, k < 4 + n /\ b = B k) h1 (B 3) (cellO (W64 (T + c + 1))) ⟨_, by omega, rfl⟩
  (repeat (first | refine EK.seq ?_ | refine EK.region ?_ | refine ER.done ?_ | refine ER.assign rfl rfl rfl ?_ | refine EK.ret ?_))
  exact EU.ret1 rfl rfl ⟨rfl, rfl, r2, u1.trans u2⟩
set_option maxRecDepth 8000 in
set_option maxHeartbeats 1000000 in
theorem dpush_full {e c : Nat} {T x : Int} (r : Rep h (deqM n cap rest B v)) (hn : n = 2 ^ e) (_he : e <= 12) (hT : v 2 = W64 T) (hb : v 3 = W64 (T + c)) (hc : n <= c) (hc1 : c <= 4096) :
    CallW Try.prog main NoS 20 #[ptr (B 0), .pointer none, .int .i64 x] h δ (Ret (Det (.int .i64 12) h δ)) := by
  have ct := deq_top r
  have cb := deq_bot r
  have cs := deq_sl r
  have hs : W64 (W64 (T + c) - W64 T) = c := by rw [w_sub, show T + c - T = (c : Int) by omega]; exact w_small (by omega) (by omega)
  refine CallW.start (n := 44) rfl rfl ?_
  (repeat (first | refine EK.seq ?_ | refine EK.region ?_ | refine ER.done ?_ | refine ER.move rfl rfl rfl ?_ | refine ER.assign rfl rfl rfl ?_))
  refine ER.callD rfl rfl rfl rfl rfl (dnone_ok ct) ?_
  (repeat (first | refine EK.seq ?_ | refine EK.region ?_ | refine ER.done ?_ | refine EK.skip ?_ | refine ER.move rfl rfl rfl ?_ | refine ER.nilCheck rfl rfl rfl ?_ | refine ER.fieldAddr rfl rfl rfl ?_ | refine EK.condF rfl ?_ | refine ER.load1 rfl rfl rfl (by assumption) ?_))
  refine ER.callD rfl rfl rfl rfl rfl (cload (deq_cell r (k := 3) (by omega) (by omega) hb)) ?_
  (repeat (first | refine EK.seq ?_ | refine ER.done ?_ | refine ER.assign rfl rfl rfl ?_))
  refine EK.regionAny (fun h' => h' = h) ?_
  have hZ : h = h := rfl
  refine EA.tMove 0 rfl (by kernel_rfl) rfl rfl rfl rfl hZ ?_
  refine EA.tMove 1 rfl (by kernel_rfl) rfl rfl rfl rfl hZ ?_
  refine EA.tNil 2 rfl (by kernel_rfl) rfl rfl rfl rfl hZ ?_
  refine EA.tField 3 rfl (by kernel_rfl) rfl rfl rfl rfl hZ ?_
  refine EA.tLoad 4 rfl (by kernel_rfl) rfl rfl rfl rfl (fun _ hz => hz ▸ ct) hZ ?_
  refine EA.tMove 5 rfl (by kernel_rfl) rfl rfl rfl rfl hZ ?_
  refine EA.tMove 8 rfl (by kernel_rfl) rfl rfl rfl rfl hZ ?_
  refine EA.tNil 9 rfl (by kernel_rfl) rfl rfl rfl rfl hZ ?_
  refine EA.tField 10 rfl (by kernel_rfl) rfl rfl rfl rfl hZ ?_
  refine EA.tLoad 11 rfl (by kernel_rfl) rfl rfl rfl rfl (fun _ hz => hz ▸ cs) hZ ?_
  refine EA.tLen1 12 rfl (by kernel_rfl) rfl rfl rfl rfl hZ ?_
  refine EA.callD 6 rfl (by kernel_rfl) rfl rfl rfl rfl rfl rfl (cload (deq_cell r (k := 2) (by omega) (by omega) hT)) hZ ?_
  refine EA.tSub (kd := .i64) (r := (c : Int)) 7 rfl (by kernel_rfl) rfl rfl rfl rfl rfl hs hZ ?_
  refine EA.tCmpT 13 rfl (by kernel_rfl) rfl rfl rfl rfl rfl rfl (by first | (dsimp only [cmpP]; omega) | exact rfl | exact Int.le_refl _) hZ ?_
  refine EA.done (by kernel_rfl) ?_
  (repeat (first | refine EK.seq ?_ | refine EK.region ?_ | refine ER.done ?_ | refine ER.assign rfl rfl rfl ?_ | refine EK.condT rfl ?_ | refine EK.ret ?_))
  exact EU.ret1 rfl rfl det
set_option maxRecDepth 8000 in
set_option maxHeartbeats 1000000 in
theorem dpop_one {e : Nat} {T x : Int} (r : Rep h (deqM n cap rest B v)) (hn : n = 2 ^ e) (he : e <= 12) (hT : v 2 = W64 T) (hb : v 3 = W64 (T + 1)) (hx : v (4 + slot n T) = x) (hS : DFree NoS δ.g n B) :
    CallW Try.prog main NoS 21 #[ptr (B 0), .pointer none] h δ (Ret fun w h' δ' => w = .tuple #[.int .i64 x, .bool true] /\ δ' = δ /\ (∃ v', v' 2 = W64 (T + 1) /\ v' 3 = W64 (T + 1) /\ Rep h' (deqM n cap rest B v')) /\ Upd (fun b => ∃ k, k < 4 + n /\ b = B k) h h') := by
  have hpos : 0 < n := by rw [hn]; exact Nat.two_pow_pos e
  have hlt := slot_lt hpos T
  have ct := deq_top r
  have cb := deq_bot r
  have hs : W64 (W64 T - W64 T) = 0 := by rw [w_sub, Int.sub_self]; exact w_small (by omega) (by omega)
  refine CallW.start (n := 74) rfl rfl ?_
  (repeat (first | refine EK.seq ?_ | refine EK.region ?_ | refine ER.done ?_ | refine ER.move rfl rfl rfl ?_ | refine ER.assign rfl rfl rfl ?_))
  refine ER.callD rfl rfl rfl rfl rfl (dnone_ok ct) ?_
  (repeat (first | refine EK.seq ?_ | refine EK.region ?_ | refine ER.done ?_ | refine EK.skip ?_ | refine ER.move rfl rfl rfl ?_ | refine ER.nilCheck rfl rfl rfl ?_ | refine ER.fieldAddr rfl rfl rfl ?_ | refine EK.condF rfl ?_ | refine ER.load1 rfl rfl rfl (by assumption) ?_))
  refine ER.callD rfl rfl rfl rfl rfl (cload (deq_cell r (k := 3) (by omega) (by omega) hb)) ?_
  refine ER.sub' (r := W64 T) rfl rfl rfl rfl (by show W64 (W64 (T + 1) - 1) = _; rw [w_sub1, show T + 1 - 1 = T by omega]) ?_
  (repeat (first | refine EK.seq ?_ | refine EK.region ?_ | refine ER.done ?_ | refine ER.move rfl rfl rfl ?_ | refine ER.assign rfl rfl rfl ?_ | refine ER.nilCheck rfl rfl rfl ?_ | refine ER.fieldAddr rfl rfl rfl ?_ | refine ER.load1 rfl rfl rfl (by assumption) ?_))
  refine ER.callD rfl rfl rfl rfl rfl (cstore (deq_cell r (k := 3) (by omega) (by omega) rfl) (fun o => hS _ o (by omega))) ?_
  have r1 := deq_set r (k := 3) (by omega) (by omega) (W64 T)
  have u1 := Upd.set (T := fun b => ∃ k, k < 4 + n /\ b = B k) h (B 3) (cellO (W64 T)) ⟨_, by omega, rfl⟩
  have hT1 : ut v 3 (W64 T) 2 = W64 T := by rw [ut_ne _ _ (by omega), hT]
  have hx1 : ut v 3 (W64 T) (4 + slot n T) = x := by rw [ut_ne _ _ (by omega), hx]
  clear ct cb hT hb hx
  generalize h.setIfInBounds (B 3) (cellO (W64 T)) = h1 at r1 u1 ⊢
  generalize ut v 3 (W64 T) = v1 at r1 hT1 hx1
  have ct := deq_top r1
  have cb := deq_bot r1
  (repeat (first | refine EK.seq ?_ | refine EK.region ?_ | refine ER.done ?_ | refine ER.move rfl rfl rfl ?_ | refine ER.nilCheck rfl rfl rfl ?_ | refine ER.fieldAddr rfl rfl rfl ?_ | refine ER.load1 rfl rfl rfl (by assumption) ?_))
  refine ER.callD rfl rfl rfl rfl rfl (cload (deq_cell r1 (k := 2) (by omega) (by omega) hT1)) ?_
  (repeat (first | refine EK.seq ?_ | refine EK.region ?_ | refine ER.done ?_ | refine EK.skip ?_ | refine ER.move rfl rfl rfl ?_ | refine ER.assign rfl rfl rfl ?_ | refine ER.cmpF rfl rfl rfl rfl rfl (by first | (dsimp only [cmpP]; omega) | exact rfl | exact Int.le_refl _) ?_ | refine ER.sub' (kd := .i64) rfl rfl rfl rfl (i64_in (by omega) (by omega)) ?_ | refine EK.condF rfl ?_))
  refine ER.callD rfl rfl rfl rfl rfl (dat_ok r1 hn he) ?_
  rw [slot_w hn he]
  (repeat refine ER.move rfl rfl rfl ?_)
  refine ER.callD rfl rfl rfl rfl rfl (cload (deq_cell r1 (k := 4 + slot n T) (by omega) (by omega) hx1)) ?_
  (repeat (first | refine EK.seq ?_ | refine EK.region ?_ | refine ER.done ?_ | refine EK.skip ?_ | refine ER.move rfl rfl rfl ?_ | refine ER.assign rfl rfl rfl ?_ | refine ER.nilCheck rfl rfl rfl ?_ | refine ER.fieldAddr rfl rfl rfl ?_ | refine ER.cmpF rfl rfl rfl rfl rfl (by first | (dsimp only [cmpP]; omega) | exact rfl | exact Int.le_refl _) ?_ | refine ER.sub' (kd := .i64) rfl rfl rfl rfl (i64_in (by omega) (by omega)) ?_ | refine EK.condF rfl ?_ | refine ER.load1 rfl rfl rfl (by assumption) ?_))
  refine ER.add (r := W64 (T + 1)) rfl rfl rfl rfl w_add1 ?_
  refine ER.callD rfl rfl rfl rfl rfl (ccas_yes (deq_cell r1 (k := 2) (by omega) (by omega) hT1) (fun o => hS _ o (by omega))) ?_
  have r2 := deq_set r1 (k := 2) (by omega) (by omega) (W64 (T + 1))
  have u2 := Upd.set (T := fun b => ∃ k, k < 4 + n /\ b = B k) h1 (B 2) (cellO (W64 (T + 1))) ⟨_, by omega, rfl⟩
  clear ct cb
  generalize h1.setIfInBounds (B 2) (cellO (W64 (T + 1))) = h2 at r2 u2 ⊢
  have cb := deq_bot r2
  (repeat (first | refine EK.seq ?_ | refine EK.region ?_ | refine ER.done ?_ | refine ER.move rfl rfl rfl ?_ | refine ER.assign rfl rfl rfl ?_ | refine ER.nilCheck rfl rfl rfl ?_ | refine ER.fieldAddr rfl rfl rfl ?_ | refine ER.load1 rfl rfl rfl (by assumption) ?_))
  refine ER.add (r := W64 (T + 1)) rfl rfl rfl rfl w_add1 ?_
  refine ER.callD rfl rfl rfl rfl rfl (cstore (deq_cell r2 (k := 3) (by omega) (by omega) rfl) (fun o => hS _ o (by omega))) ?_
  have r3 := deq_set r2 (k := 3) (by omega) (by omega) (W64 (T + 1))
  have u3 := Upd.set (T := fun b => ∃ k, k < 4 + n /\ b = B k) h2 (B 3) (cellO (W64 (T + 1))) ⟨_, by omega, rfl⟩
  (repeat (first | refine EK.seq ?_ | refine EK.region ?_ | refine ER.done ?_ | refine EK.skip ?_ | refine ER.move rfl rfl rfl ?_ | refine ER.assign rfl rfl rfl ?_ | refine ER.notB rfl rfl rfl ?_ | refine EK.condF rfl ?_ | refine EK.ret ?_))
  exact EU.ret2 rfl rfl rfl ⟨rfl, rfl, ⟨_, by rw [ut_ne _ _ (by omega), ut_same], ut_same _ _ _, r3⟩, (u1.trans u2).trans u3⟩
set_option maxRecDepth 8000 in
set_option maxHeartbeats 1000000 in
theorem dpop_empty {T : Int} (r : Rep h (deqM n cap rest B v)) (hT : v 2 = W64 T) (hb : v 3 = W64 T) (hS : DFree NoS δ.g n B) :
    CallW Try.prog main NoS 21 #[ptr (B 0), .pointer none] h δ (Ret fun w h' δ' => w = .tuple #[.int .i64 0, .bool false] /\ δ' = δ /\ Upd (fun b => ∃ k, k < 4 + n /\ b = B k) h h') := by
  have ct := deq_top r
  have cb := deq_bot r
  have hs : W64 (W64 (T - 1) - W64 T) = -1 := by rw [w_sub, show T - 1 - T = -1 by omega]; exact w_small (by omega) (by omega)
  refine CallW.start (n := 74) rfl rfl ?_
  (repeat (first | refine EK.seq ?_ | refine EK.region ?_ | refine ER.done ?_ | refine ER.move rfl rfl rfl ?_ | refine ER.assign rfl rfl rfl ?_))
  refine ER.callD rfl rfl rfl rfl rfl (dnone_ok ct) ?_
  (repeat (first | refine EK.seq ?_ | refine EK.region ?_ | refine ER.done ?_ | refine EK.skip ?_ | refine ER.move rfl rfl rfl ?_ | refine ER.nilCheck rfl rfl rfl ?_ | refine ER.fieldAddr rfl rfl rfl ?_ | refine EK.condF rfl ?_ | refine ER.load1 rfl rfl rfl (by assumption) ?_))
  refine ER.callD rfl rfl rfl rfl rfl (cload (deq_cell r (k := 3) (by omega) (by omega) hb)) ?_
  refine ER.sub' (r := W64 (T - 1)) rfl rfl rfl rfl w_sub1 ?_
  (repeat (first | refine EK.seq ?_ | refine EK.region ?_ | refine ER.done ?_ | refine ER.move rfl rfl rfl ?_ | refine ER.assign rfl rfl rfl ?_ | refine ER.nilCheck rfl rfl rfl ?_ | refine ER.fieldAddr rfl rfl rfl ?_ | refine ER.load1 rfl rfl rfl (by assumption) ?_))
  refine ER.callD rfl rfl rfl rfl rfl (cstore (deq_cell r (k := 3) (by omega) (by omega) rfl) (fun o => hS _ o (by omega))) ?_
  have r1 := deq_set r (k := 3) (by omega) (by omega) (W64 (T - 1))
  have u1 := Upd.set (T := fun b => ∃ k, k < 4 + n /\ b = B k) h (B 3) (cellO (W64 (T - 1))) ⟨_, by omega, rfl⟩
  have hT1 : ut v 3 (W64 (T - 1)) 2 = W64 T := by rw [ut_ne _ _ (by omega), hT]
  clear ct cb hT hb
  generalize h.setIfInBounds (B 3) (cellO (W64 (T - 1))) = h1 at r1 u1 ⊢
  generalize ut v 3 (W64 (T - 1)) = v1 at r1 hT1
  have ct := deq_top r1
  have cb := deq_bot r1
  (repeat (first | refine EK.seq ?_ | refine EK.region ?_ | refine ER.done ?_ | refine ER.move rfl rfl rfl ?_ | refine ER.nilCheck rfl rfl rfl ?_ | refine ER.fieldAddr rfl rfl rfl ?_ | refine ER.load1 rfl rfl rfl (by assumption) ?_))
  refine ER.callD rfl rfl rfl rfl rfl (cload (deq_cell r1 (k := 2) (by omega) (by omega) hT1)) ?_
  (repeat (first | refine EK.seq ?_ | refine EK.region ?_ | refine ER.done ?_ | refine ER.move rfl rfl rfl ?_ | refine ER.assign rfl rfl rfl ?_))
  refine ER.sub' (r := -1) rfl rfl rfl rfl hs ?_
  (repeat (first | refine EK.seq ?_ | refine EK.region ?_ | refine ER.done ?_ | refine ER.move rfl rfl rfl ?_ | refine ER.nilCheck rfl rfl rfl ?_ | refine ER.fieldAddr rfl rfl rfl ?_ | refine ER.cmpT rfl rfl rfl rfl rfl (by first | (dsimp only [cmpP]; omega) | exact rfl | exact Int.le_refl _) ?_ | refine EK.condT rfl ?_ | refine ER.load1 rfl rfl rfl (by assumption) ?_))
  refine ER.add (r := W64 T) rfl rfl rfl rfl (by show W64 (W64 (T - 1) + 1) = _; rw [w_add1, show T - 1 + 1 = T by omega]) ?_
  refine ER.callD rfl rfl rfl rfl rfl (cstore (deq_cell r1 (k := 3) (by omega) (by omega) rfl) (fun o => hS _ o (by omega))) ?_
  have u3 := Upd.set (T := fun b => ∃ k, k < 4 + n /\ b = B k) h1 (B 3) (cellO (W64 T)) ⟨_, by omega, rfl⟩
  (repeat (first | refine EK.seq ?_ | refine EK.region ?_ | refine ER.done ?_ | refine ER.assign rfl rfl rfl ?_ | refine EK.ret ?_))
  exact EU.ret2 rfl rfl rfl ⟨rfl, rfl, u1.trans u3⟩
set_option maxRecDepth 8000 in
set_option maxHeartbeats 1000000 in
theorem dsteal_ok {e c : Nat} {T x : Int} (r : Rep h (deqM n cap rest B v)) (hn : n = 2 ^ e) (he : e <= 12) (hT : v 2 = W64 T) (hb : v 3 = W64 (T + c)) (hc : 0 < c) (hc1 : c <= 4096) (hx : v (4 + slot n T) = x) (hS : DFree NoS δ.g n B) :
    CallW Try.prog main NoS 24 #[ptr (B 0), .pointer none] h δ (Ret fun w h' δ' => w = .tuple #[.int .i64 x, .int .i8 1] /\ δ' = δ /\ Rep h' (deqM n cap rest B (ut v 2 (W64 (T + 1)))) /\ Upd (fun b => ∃ k, k < 4 + n /\ b = B k) h h') := by
  have hpos : 0 < n := by rw [hn]; exact Nat.two_pow_pos e
  have hlt := slot_lt hpos T
  have ct := deq_top r
  have cb := deq_bot r
  have hs : W64 (W64 (T + c) - W64 T) = c := by rw [w_sub, show T + c - T = (c : Int) by omega]; exact w_small (by omega) (by omega)
  refine CallW.start (n := 44) rfl rfl ?_
  (repeat (first | refine EK.seq ?_ | refine EK.region ?_ | refine ER.done ?_ | refine ER.move rfl rfl rfl ?_ | refine ER.assign rfl rfl rfl ?_))
  refine ER.callD rfl rfl rfl rfl rfl (dnone_ok ct) ?_
  (repeat (first | refine EK.seq ?_ | refine EK.region ?_ | refine ER.done ?_ | refine EK.skip ?_ | refine ER.move rfl rfl rfl ?_ | refine ER.nilCheck rfl rfl rfl ?_ | refine ER.fieldAddr rfl rfl rfl ?_ | refine EK.condF rfl ?_ | refine ER.load1 rfl rfl rfl (by assumption) ?_))
  refine ER.callD rfl rfl rfl rfl rfl (cload (deq_cell r (k := 2) (by omega) (by omega) hT)) ?_
  (repeat (first | refine EK.seq ?_ | refine EK.region ?_ | refine ER.done ?_ | refine ER.move rfl rfl rfl ?_ | refine ER.assign rfl rfl rfl ?_ | refine ER.nilCheck rfl rfl rfl ?_ | refine ER.fieldAddr rfl rfl rfl ?_ | refine ER.load1 rfl rfl rfl (by assumption) ?_))
  refine ER.callD rfl rfl rfl rfl rfl (cload (deq_cell r (k := 3) (by omega) (by omega) hb)) ?_
  (repeat refine ER.move rfl rfl rfl ?_)
  refine ER.sub' (r := (c : Int)) rfl rfl rfl rfl hs ?_
  (repeat (first | refine EK.seq ?_ | refine EK.region ?_ | refine ER.done ?_ | refine EK.skip ?_ | refine ER.move rfl rfl rfl ?_ | refine ER.cmpF rfl rfl rfl rfl rfl (by first | (dsimp only [cmpP]; omega) | exact rfl | exact Int.le_refl _) ?_ | refine EK.condF rfl ?_))
  refine ER.callD rfl rfl rfl rfl rfl (dat_ok r hn he) ?_
  rw [slot_w hn he]
  refine ER.makeF rfl rfl rfl rfl rfl rfl ?_
  (repeat (first | refine EK.seq ?_ | refine EK.region ?_ | refine ER.done ?_ | refine ER.move rfl rfl rfl ?_ | refine ER.assign rfl rfl rfl ?_))
  refine ER.callFR rfl rfl rfl rfl rfl (cload (deq_cell r (k := 4 + slot n T) (by omega) (by omega) hx)) ?_
  rintro _ _ _ ⟨rfl, rfl, rfl⟩
  (repeat (first | refine EK.seq ?_ | refine EK.region ?_ | refine ER.done ?_ | refine ER.move rfl rfl rfl ?_ | refine ER.assign rfl rfl rfl ?_ | refine ER.nilCheck rfl rfl rfl ?_ | refine ER.fieldAddr rfl rfl rfl ?_ | refine ER.load1 rfl rfl rfl (by assumption) ?_))
  refine ER.add (r := W64 (T + 1)) rfl rfl rfl rfl w_add1 ?_
  refine ER.callD rfl rfl rfl rfl rfl (ccas_yes (deq_cell r (k := 2) (by omega) (by omega) hT) (fun o => hS _ o (by omega))) ?_
  have r2 := deq_set r (k := 2) (by omega) (by omega) (W64 (T + 1))
  (repeat (first | refine EK.seq ?_ | refine EK.region ?_ | refine ER.done ?_ | refine EK.skip ?_ | refine ER.move rfl rfl rfl ?_ | refine ER.assign rfl rfl rfl ?_ | refine ER.notB rfl rfl rfl ?_ | refine EK.condF rfl ?_ | refine EK.ret ?_))
  exact EU.ret2 rfl rfl rfl ⟨rfl, rfl, r2, Upd.set _ _ _ ⟨_, by omega, rfl⟩⟩
end
end
section
open Go Go.TJ Go.Proofs
variable [Dm]
section
variable {Γ : Type} {main : Bool} {δ : Ix Γ}
set_option maxRecDepth 8000 in
set_option maxHeartbeats 4000000 in
theorem deqworks_ok {h : Hp} : CallW Try.prog main NoS 15 #[] h δ (Ret fun w h' δ' => w = .bool true /\ Upd (fun _ => False) h h' /\ δ' = δ) := by
  refine CallW.start (n := 71) rfl rfl ?_
  (repeat (first | refine EK.seq ?_ | refine EK.region ?_ | refine ER.done ?_ | refine ER.assign rfl rfl rfl ?_))
  refine ER.callR rfl rfl rfl rfl rfl (deqnew_ok (n := 2) (e := 1) (f := 9223372036854775807) rfl (by omega) (by omega) (fun _ _ _ x => x)) ?_
  rintro _ h1 δ1 ⟨rfl, u1, cap, rest, B, rfl, r1, ab⟩
  have own : ∀ b, (∃ k, k < 4 + 2 /\ b = B k) -> h.size <= b := fun b ⟨k, hk, e⟩ => e ▸ ab k hk
  have df : DFree NoS δ1.g 2 B := fun _ _ _ x => x
  have wT : W64 9223372036854775807 = 9223372036854775807 := by decide
  have sl0 : slot 2 9223372036854775807 = 1 := by decide
  have sl1 : slot 2 9223372036854775808 = 0 := by decide
  generalize hv : (fun k => if k < 4 then (9223372036854775807 : Int) else 0) = v at r1
  have a2 : v 2 = W64 9223372036854775807 := by rw [<- hv, wT]; rfl
  have a3 : v 3 = W64 (9223372036854775807 + ((0 : Nat) : Int)) := by rw [<- hv]; exact wT.symm
  clear hv
  (repeat (first | refine EK.seq ?_ | refine EK.region ?_ | refine ER.done ?_ | refine ER.move rfl rfl rfl ?_ | refine ER.assign rfl rfl rfl ?_ | refine ER.eqV rfl rfl rfl rfl rfl ?_ | refine ER.pickF rfl rfl rfl rfl ?_ | refine ER.extract rfl rfl rfl rfl ?_ | refine ER.cmpF rfl rfl rfl rfl rfl (by first | (dsimp only [cmpP]; omega) | exact rfl | exact Int.le_refl _) ?_))
  refine ER.callR rfl rfl rfl rfl rfl (dpush_ok (e := 1) (c := 0) (T := 9223372036854775807) (x := 7) r1 rfl (by omega) a2 a3 (by omega) df) ?_
  rintro _ h2 δ2 ⟨rfl, rfl, r2, u2⟩
  replace u1 := u1.over u2 own
  rw [show (9223372036854775807 + ((0 : Nat) : Int)) = 9223372036854775807 by omega, sl0, show (9223372036854775807 + 1 : Int) = 9223372036854775808 by omega] at r2
  have b2 : ut (ut v (4 + 1) 7) 3 (W64 9223372036854775808) 2 = W64 9223372036854775807 := by rw [ut_ne _ _ (by omega), ut_ne _ _ (by omega), a2]
  have b3 : ut (ut v (4 + 1) 7) 3 (W64 9223372036854775808) 3 = W64 (9223372036854775807 + ((1 : Nat) : Int)) := by rw [ut_same]; rfl
  have b5 : ut (ut v (4 + 1) 7) 3 (W64 9223372036854775808) 5 = 7 := by rw [ut_ne _ _ (by omega)]; exact ut_same _ _ _
  clear a2 a3 u2 r1
  generalize ut (ut v (4 + 1) 7) 3 (W64 9223372036854775808) = v2 at r2 b2 b3 b5
  (repeat (first | refine ER.move rfl rfl rfl ?_ | refine ER.pickF rfl rfl rfl rfl ?_ | refine ER.cmpF rfl rfl rfl rfl rfl (by first | (dsimp only [cmpP]; omega) | exact rfl | exact Int.le_refl _) ?_))
  refine ER.callR rfl rfl rfl rfl rfl (dpush_ok (e := 1) (c := 1) (T := 9223372036854775807) (x := 8) r2 rfl (by omega) b2 b3 (by omega) df) ?_
  rintro _ h3 δ3 ⟨rfl, rfl, r3, u3⟩
  replace u1 := u1.over u3 own
  rw [show (9223372036854775807 + ((1 : Nat) : Int)) = 9223372036854775808 by omega, sl1, show (9223372036854775808 + 1 : Int) = 9223372036854775809 by omega] at r3
  have c2 : ut (ut v2 (4 + 0) 8) 3 (W64 9223372036854775809) 2 = W64 9223372036854775807 := by rw [ut_ne _ _ (by omega), ut_ne _ _ (by omega), b2]
  have c3 : ut (ut v2 (4 + 0) 8) 3 (W64 9223372036854775809) 3 = W64 (9223372036854775807 + ((2 : Nat) : Int)) := by rw [ut_same]; rfl
  have c4 : ut (ut v2 (4 + 0) 8) 3 (W64 9223372036854775809) 4 = 8 := by rw [ut_ne _ _ (by omega)]; exact ut_same _ _ _
  have c5 : ut (ut v2 (4 + 0) 8) 3 (W64 9223372036854775809) 5 = 7 := by rw [ut_ne _ _ (by omega), ut_ne _ _ (by omega), b5]
  clear b2 b3 b5 u3 r2
  generalize ut (ut v2 (4 + 0) 8) 3 (W64 9223372036854775809) = v3 at r3 c2 c3 c4 c5
  (repeat (first | refine ER.move rfl rfl rfl ?_ | refine ER.pickF rfl rfl rfl rfl ?_ | refine ER.cmpF rfl rfl rfl rfl rfl (by first | (dsimp only [cmpP]; omega) | exact rfl | exact Int.le_refl _) ?_))
  refine ER.callD rfl rfl rfl rfl rfl (dpush_full (e := 1) (c := 2) (T := 9223372036854775807) r3 rfl (by omega) c2 c3 (by omega) (by omega)) ?_
  (repeat (first | refine ER.move rfl rfl rfl ?_ | refine ER.pickF rfl rfl rfl rfl ?_ | refine ER.cmpF rfl rfl rfl rfl rfl (by first | (dsimp only [cmpP]; omega) | exact rfl | exact Int.le_refl _) ?_))
  refine ER.callD rfl rfl rfl rfl rfl (dlen_ok (c := 2) (T := 9223372036854775807) r3 c2 c3 (by omega)) ?_
  (repeat (first | refine EK.seq ?_ | refine EK.region ?_ | refine ER.done ?_ | refine EK.skip ?_ | refine ER.move rfl rfl rfl ?_ | refine ER.pickF rfl rfl rfl rfl ?_ | refine ER.cmpF rfl rfl rfl rfl rfl (by first | (dsimp only [cmpP]; omega) | exact rfl | exact Int.le_refl _) ?_ | refine EK.condF rfl ?_))
  refine ER.callR rfl rfl rfl rfl rfl (dsteal_ok (e := 1) (c := 2) (T := 9223372036854775807) (x := 7) r3 rfl (by omega) c2 c3 (by omega) (by omega) (by rw [sl0]; exact c5) df) ?_
  rintro _ h4 δ4 ⟨rfl, rfl, r4, u4⟩
  replace u1 := u1.over u4 own
  rw [show (9223372036854775807 + 1 : Int) = 9223372036854775808 by omega] at r4
  (repeat (first | refine EK.seq ?_ | refine EK.region ?_ | refine ER.done ?_ | refine ER.move rfl rfl rfl ?_ | refine ER.assign rfl rfl rfl ?_ | refine ER.extract rfl rfl rfl rfl ?_))
  refine ER.callR rfl rfl rfl rfl rfl (dpop_one (e := 1) (T := 9223372036854775808) (x := 8) r4 rfl (by omega) (ut_same _ _ _) (by rw [ut_ne _ _ (by omega), c3]; rfl) (by rw [sl1, ut_ne _ _ (by omega)]; exact c4) df) ?_
  rintro _ h5 δ5 ⟨rfl, rfl, ⟨v5, e2, e3, r5⟩, u5⟩
  replace u1 := u1.over u5 own
  (repeat (first | refine EK.seq ?_ | refine EK.region ?_ | refine ER.done ?_ | refine ER.move rfl rfl rfl ?_ | refine ER.assign rfl rfl rfl ?_ | refine ER.extract rfl rfl rfl rfl ?_))
  refine ER.callR rfl rfl rfl rfl rfl (dpop_empty r5 e2 e3 df) ?_
  rintro _ h6 δ6 ⟨rfl, rfl, u6⟩
  replace u1 := u1.over u6 own
  (repeat (first | refine EK.seq ?_ | refine EK.region ?_ | refine ER.done ?_ | refine ER.move rfl rfl rfl ?_ | refine ER.assign rfl rfl rfl ?_ | refine ER.notB rfl rfl rfl ?_ | refine ER.pickT rfl rfl rfl rfl ?_ | refine ER.extract rfl rfl rfl rfl ?_ | refine ER.cmpT rfl rfl rfl rfl rfl (by first | (dsimp only [cmpP]; omega) | exact rfl | exact Int.le_refl _) ?_ | refine EK.ret ?_))
  exact EU.ret1 rfl rfl ⟨rfl, u1, rfl⟩
set_option maxRecDepth 8000 in
set_option maxHeartbeats 1000000 in
theorem dat_g {S : Sit Γ} {h : Hp} {n cap e sb rb : Nat} {B : Nat -> Nat} {x : Int} (cs : hcell h ⟨sb, 2, none⟩ = some (.slice (some ⟨rb, 0, none⟩) n cap)) (cr : ∀ j, j < n -> hcell h ⟨rb, 0 + j * 1, none⟩ = some (ptr (B (4 + j)))) (hn : n = 2 ^ e) (he : e <= 12) (hDu : ¬ S.dull δ.g) : CallW Try.prog main S 64 #[ptr sb, .int .i64 x] h δ (Ret (Det (ptr (B (4 + slot n x))) h δ)) := by
  have hle : n <= 4096 := by have := Nat.pow_le_pow_right (n := 2) (by decide) he; omega
  have hpos : 0 < n := by rw [hn]; exact Nat.two_pow_pos e
  have hlt := slot_lt hpos x
  have cr := cr (slot n x) hlt
  refine CallW.start (n := 21) rfl rfl ?_
  (repeat (first | refine EK.seq ?_ | refine EK.region ?_ | refine ER.done ?_ | refine ER.assign rfl rfl rfl ?_))
  refine EK.regionAny (fun h' => h' = h) ?_ (hDu := hDu)
  have hZ : h = h := rfl
  refine EA.tMove 0 rfl (by kernel_rfl) rfl rfl rfl rfl hZ ?_
  refine EA.tNil 1 rfl (by kernel_rfl) rfl rfl rfl rfl hZ ?_
  refine EA.tField 2 rfl (by kernel_rfl) rfl rfl rfl rfl hZ ?_
  refine EA.tLoad 3 rfl (by kernel_rfl) rfl rfl rfl rfl (fun _ hz => hz ▸ cs) hZ ?_
  refine EA.tMove 4 rfl (by kernel_rfl) rfl rfl rfl rfl hZ ?_
  refine EA.tConv (r := IntKind.u64.wrap x) 5 rfl (by kernel_rfl) rfl rfl rfl rfl rfl hZ ?_
  refine EA.tMove 6 rfl (by kernel_rfl) rfl rfl rfl rfl hZ ?_
  refine EA.tNil 7 rfl (by kernel_rfl) rfl rfl rfl rfl hZ ?_
  refine EA.tField 8 rfl (by kernel_rfl) rfl rfl rfl rfl hZ ?_
  refine EA.tLoad 9 rfl (by kernel_rfl) rfl rfl rfl rfl (fun _ hz => hz ▸ cs) hZ ?_
  refine EA.tLen1 10 rfl (by kernel_rfl) rfl rfl rfl rfl hZ ?_
  refine EA.tSub (kd := .i64) 11 rfl (by kernel_rfl) rfl rfl rfl rfl rfl (i64_in (by omega) (by omega)) hZ ?_
  refine EA.tConv (r := IntKind.u64.wrap ((n : Int) - 1)) 12 rfl (by kernel_rfl) rfl rfl rfl rfl rfl hZ ?_
  refine EA.tBinI (kd := .u64) (v := .int .u64 (slot n x : Int)) 13 rfl (by kernel_rfl) rfl rfl rfl rfl rfl ((binOp_bits (.inl rfl)).trans (by rw [slot_bits hn he])) hZ ?_
  refine EA.tIdxS 14 rfl (by kernel_rfl) rfl rfl rfl rfl rfl (by omega) (by omega) hZ ?_
  refine EA.tLoad 15 rfl (by kernel_rfl) rfl rfl rfl rfl (fun _ hz => hz ▸ cr) hZ ?_
  refine EA.tAssign 16 rfl (by kernel_rfl) rfl rfl rfl rfl hZ ?_
  refine EA.done (by kernel_rfl) ?_
  (repeat refine EK.ret ?_)
  exact EU.ret1 rfl rfl det
end
end
section
open Go Go.TJ Go.Proofs
variable [Dm]
theorem slot_ne {n : Nat} (hn : 0 < n) {x y : Int} (h1 : x < y) (h2 : y - x < n) : slot n x ≠ slot n y := by
  intro e
  unfold slot at e
  have a1 := Int.emod_nonneg x (by omega : (n : Int) ≠ 0)
  have a2 := Int.emod_nonneg y (by omega : (n : Int) ≠ 0)
  have e' : x % (n : Int) = y % (n : Int) := by omega
  have d := Int.emod_eq_emod_iff_emod_sub_eq_zero.1 e'
  have d2 : (y - x) % (n : Int) = 0 := by
    have := Int.dvd_of_emod_eq_zero d
    have h3 : (n : Int) ∣ (y - x) := by rw [show y - x = -(x - y) by omega]; exact Int.dvd_neg.2 this
    exact Int.emod_eq_zero_of_dvd h3
  rw [Int.emod_eq_of_lt (by omega) h2] at d2
  omega
theorem w_inj {a b : Int} (h : W64 a = W64 b) (h1 : -100000 <= a - b) (h2 : a - b <= 100000) : a = b := by
  simp only [W64, IntKind.wrap_i64] at h
  omega
structure Dc where
  n : Nat
  m : Nat
  L : Nat
  e : Nat
  F : Int
  B : Nat -> Nat
  pb : Nat
  fb : Nat
  top : Nat
  tS : TypeId
  tB : TypeId
  ro : Nat -> Prop
structure Dy where
  c : Dc
  v : Nat -> Int
  tp : Nat
  bt : Nat
  V : Nat -> Int
  ow : Nat
  np : Nat
  bd : Nat -> Nat
  po : Nat -> List Int
  sq : Nat -> Value
def Dc.W (c : Dc) (x : Int) : Int := W64 (c.F + x)
def Dc.sl (c : Dc) (x : Nat) : Nat := c.B (4 + slot c.L (c.F + x))
structure Dr (i : Nat) (y y' : Dy) : Prop where
  c : y'.c = y.c
  bd : 0 < i -> y'.bd i = y.bd i
  po : 0 < i -> y'.po i = y.po i
  sq : 0 < i -> y'.sq (i - 1) = y.sq (i - 1)
  tp : y.tp <= y'.tp
  th : y'.tp = y.tp -> y.tp < y.bt -> y'.V y.tp = y.V y.tp /\ y.tp < y'.bt
  ow : i = y.c.n + 1 -> y'.ow = y.ow /\ y'.bt = y.bt /\ y'.np = y.np /\ y'.v (y.c.B 3) = y.v (y.c.B 3) /\ ∀ j, j < y.c.L -> y'.v (y.c.B (4 + j)) = y.v (y.c.B (4 + j))
structure Dj (y : Dy) : Prop where
  inj : ∀ j k, y.c.B j = y.c.B k -> j = k
  ar : ∀ j, 2 <= j -> j < y.c.L + 5 -> y.c.B j ≠ y.c.pb /\ y.c.B j ≠ y.c.fb
  ad : y.c.pb ≠ y.c.fb
  n1 : y.c.n <= 7
  m1 : y.c.m <= 1000
  hL : y.c.L = 2 ^ y.c.e
  he : 1 <= y.c.e /\ y.c.e <= 12
  vt : y.v (y.c.B 2) = y.c.W y.tp
  vb : y.v (y.c.B 3) = y.c.W ((y.bt : Int) - y.ow)
  ow1 : y.ow <= 1
  r1 : y.tp <= y.bt
  r2 : y.bt <= y.tp + y.c.L
  r3 : y.bt <= y.np
  np : y.np <= y.c.m
  sl : ∀ x, y.tp <= x -> x < y.bt -> y.v (y.c.sl x) = y.V x
  inc : ∀ x z, y.tp <= x -> x < z -> z < y.bt -> y.V x < y.V z
  th : ∀ i, 0 < i -> i <= y.c.n -> (y.po i).Pairwise (· < ·) /\ ∀ z, z ∈ y.po i -> ∀ x, y.tp <= x -> x < y.bt -> z < y.V x
  pm : (flW y.po (y.c.n + 1) ++ (List.range' y.tp (y.bt - y.tp)).map y.V).Perm ((List.range y.np).map fun k : Nat => (k : Int) + 1)
theorem Dj.L0 {y : Dy} (h : Dj y) : 2 <= y.c.L /\ y.c.L <= 4096 := by
  have h1 := Nat.pow_le_pow_right (n := 2) (by decide) h.he.1
  have h2 := Nat.pow_le_pow_right (n := 2) (by decide) h.he.2
  rw [h.hL]
  exact ⟨h1, h2⟩
def dL : Law Dy where
  cls y := (List.range (y.c.L + 3)).map fun j => y.c.B (j + 2)
  arrT y b := if b = y.c.pb then some y.c.tS else if b = y.c.fb then some y.c.tB else none
  ro y := y.c.ro
  val y := y.v
  arr y b := if b = y.c.pb then ((List.range (y.c.n + 1)).map y.sq).toArray else Array.replicate (y.c.n + 1) (.bool false)
  may y i a _ := (a.block = y.c.pb \/ a.block = y.c.fb) /\ 0 < i /\ a.off = i - 1
  pairs y := nsum (y.c.n + 2) y.bd
  R := Dr
  J := Dj
  fin y i hf := 0 < i -> Rd y.c.top hf (y.sq (i - 1)) (y.po i) /\ (i = y.c.n + 1 -> y.tp = y.bt /\ y.ow = 0 /\ y.np = y.c.m)
theorem dL_ok : dL.Ok where
  refl i y := ⟨rfl, fun _ => rfl, fun _ => rfl, fun _ => rfl, Nat.le_refl _, fun _ h => ⟨rfl, h⟩, fun _ => ⟨rfl, rfl, rfl, rfl, fun _ _ => rfl⟩⟩
  trans i a b c x y := by
    have e := x.c
    refine ⟨y.c.trans x.c, fun h => (y.bd h).trans (x.bd h), fun h => (y.po h).trans (x.po h), fun h => (y.sq h).trans (x.sq h), Nat.le_trans x.tp y.tp, fun h1 h2 => ?_, fun h => ?_⟩
    · have t1 := x.tp
      have t2 := y.tp
      have ab : b.tp = a.tp := by omega
      have bc : c.tp = b.tp := by omega
      obtain ⟨p1, p2⟩ := x.th ab h2
      obtain ⟨q1, q2⟩ := y.th bc (by rw [ab]; exact p2)
      rw [ab] at q1 q2
      exact ⟨q1.trans p1, q2⟩
    · obtain ⟨p1, p2, p3, p4, p5⟩ := x.ow h
      obtain ⟨q1, q2, q3, q4, q5⟩ := y.ow (by rw [e]; exact h)
      rw [e] at q4 q5
      exact ⟨q1.trans p1, q2.trans p2, q3.trans p3, q4.trans p4, fun j hj => (q5 j hj).trans (p5 j hj)⟩
  mayx y i j a w h1 h2 := by
    have e1 := h1.2
    have e2 := h2.2
    omega
  nodup y h := by
    show ((List.range (y.c.L + 3)).map fun j => y.c.B (j + 2)).Nodup
    refine List.pairwise_map.2 (List.nodup_range.imp fun {a b} hne e => hne ?_)
    have := h.inj _ _ e
    omega
  dj y b h hb := by
    obtain ⟨j, hj, rfl⟩ := List.mem_map.1 hb
    have hj' := List.mem_range.1 hj
    obtain ⟨h1, h2⟩ := h.ar (j + 2) (by omega) (by omega)
    show (if _ = y.c.pb then _ else if _ = y.c.fb then _ else none) = none
    rw [if_neg h1, if_neg h2]
theorem d_stat {y y' : Dy} (h : y'.c = y.c) : Stt dL y y' := by
  refine ⟨?_, ?_, ?_, ?_⟩ <;> (simp only [dL]; rw [h])
theorem d_cls {y : Dy} {j : Nat} (h1 : 2 <= j) (h2 : j < y.c.L + 5) : y.c.B j ∈ dL.cls y :=
  List.mem_map.2 ⟨j - 2, List.mem_range.2 (by omega), by rw [show j - 2 + 2 = j by omega]⟩
theorem d_fin {y y' : Dy} {i : Nat} (h : ∀ j, j ≠ i -> Dr j y y') (hJ : Dj y') : ∀ j hf, j ≠ i -> dL.fin y j hf -> dL.fin y' j hf := by
  intro j hf hj hh h0
  obtain ⟨h1, h2⟩ := hh h0
  have r := h j hj
  refine ⟨by rw [r.sq h0, r.po h0, r.c]; exact h1, fun hn => ?_⟩
  rw [r.c] at hn ⊢
  obtain ⟨p1, p2, p3⟩ := h2 hn
  obtain ⟨q1, q2, q3, _⟩ := r.ow hn
  have t1 := r.tp
  have t2 := hJ.r1
  exact ⟨by omega, q1.trans p2, q3.trans p3⟩
section
variable {y : Dy} {i : Nat}
theorem Dj.ge (h : Dj y) {z : Int} (hz : z ∈ flW y.po (y.c.n + 1) \/ ∃ x, y.tp <= x /\ x < y.bt /\ z = y.V x) : 1 <= z /\ z <= y.np := by
  have : z ∈ flW y.po (y.c.n + 1) ++ (List.range' y.tp (y.bt - y.tp)).map y.V := by
    rcases hz with hz | ⟨x, h1, h2, rfl⟩
    · exact List.mem_append_left _ hz
    · exact List.mem_append_right _ (List.mem_map.2 ⟨x, List.mem_range'_1.2 ⟨h1, by omega⟩, rfl⟩)
  have := (h.pm.mem_iff).1 this
  obtain ⟨k, hk, rfl⟩ := List.mem_map.1 this
  have := List.mem_range.1 hk
  omega
theorem flW_mem {A : Type} {f : Nat -> List A} {n i : Nat} {z : A} (i0 : 0 < i) (hi : i <= n) (hz : z ∈ f i) : z ∈ flW f n :=
  List.mem_flatMap.2 ⟨i - 1, List.mem_range.2 (by omega), by rw [show i - 1 + 1 = i by omega]; exact hz⟩
theorem d_bd {bd' : Nat -> Nat} (hi : i <= y.c.n + 1) (hb : 0 < y.bd i) (e : bd' = u1 y.bd i (y.bd i - 1)) : nsum (y.c.n + 2) bd' + 1 <= nsum (y.c.n + 2) y.bd := by
  subst e
  have := nsum_upd (y.c.n + 2) (u1 y.bd i (y.bd i - 1)) y.bd i (by omega) fun j _ hj => u1_ne hj
  rw [u1_same] at this
  omega
theorem dsl_inj (h : Dj y) {x z : Nat} (h1 : x < z) (h2 : z < x + y.c.L) : y.c.sl x ≠ y.c.sl z := fun e => by
  have := h.inj _ _ e
  exact slot_ne (n := y.c.L) (by have := h.L0; omega) (x := y.c.F + x) (y := y.c.F + z) (by omega) (by omega) (by omega)
theorem dsl_ne (h : Dj y) {x j : Nat} (hj : j < 4 \/ y.c.L + 4 <= j) : y.c.sl x ≠ y.c.B j := fun e => by
  have := h.inj _ _ e
  have := slot_lt (n := y.c.L) (by have := h.L0; omega) (y.c.F + x)
  omega
def topY (y : Dy) (i : Nat) : Dy := { y with v := u1 y.v (y.c.B 2) (y.c.W ((y.tp + 1 : Nat) : Int)), tp := y.tp + 1, po := u1 y.po i (y.po i ++ [y.V y.tp]), bd := u1 y.bd i (y.bd i - 1) }
theorem top_step (hJ : Dj y) (i0 : 0 < i) (hi : i <= y.c.n + 1) (hlt : y.tp < y.bt) (hb : 0 < y.bd i) : LStep dL i (y.c.B 2) y (topY y i) := by
  have inj := hJ.inj
  have vne : ∀ j, j ≠ 2 -> (topY y i).v (y.c.B j) = y.v (y.c.B j) := fun j hj => u1_ne fun e => hj (inj _ _ e)
  have hR : ∀ j, j ≠ i -> Dr j y (topY y i) := fun j hj => ⟨rfl, fun _ => u1_ne hj, fun _ => u1_ne hj, fun _ => rfl, Nat.le_succ _, fun e => absurd e (by show ¬ (y.tp + 1 = y.tp); omega), fun _ => ⟨rfl, rfl, rfl, vne 3 (by omega), fun q _ => vne _ (by omega)⟩⟩
  have hJ' : Dj (topY y i) := by
    refine ⟨inj, hJ.ar, hJ.ad, hJ.n1, hJ.m1, hJ.hL, hJ.he, u1_same, (vne 3 (by omega)).trans hJ.vb, hJ.ow1, hlt, ?_, hJ.r3, hJ.np, fun x h1 h2 => ?_, fun x z h1 => hJ.inc x z (Nat.le_of_succ_le h1), fun j j0 hj => ?_, ?_⟩
    · have := hJ.r2
      show y.bt <= y.tp + 1 + y.c.L
      omega
    · refine Eq.trans (vne _ (by omega)) (hJ.sl x (Nat.le_of_succ_le h1) h2)
    · obtain ⟨t1, t2⟩ := hJ.th j j0 hj
      by_cases e : j = i
      · subst e
        show (u1 y.po j _ j).Pairwise _ /\ ∀ z, z ∈ u1 y.po j _ j -> _
        rw [u1_same]
        refine ⟨List.pairwise_append.2 ⟨t1, by simp, fun a ha b hb' => ?_⟩, fun z hz x h1 h2 => ?_⟩
        · have : b = y.V y.tp := by simpa using hb'
          rw [this]
          exact t2 a ha y.tp (Nat.le_refl _) hlt
        · have h1' : y.tp + 1 <= x := h1
          rcases List.mem_append.1 hz with hz | hz
          · exact t2 z hz x (by omega) h2
          · have : z = y.V y.tp := by simpa using hz
            rw [this]
            exact hJ.inc y.tp x (Nat.le_refl _) (by omega) h2
      · show (u1 y.po i _ j).Pairwise _ /\ ∀ z, z ∈ u1 y.po i _ j -> _
        rw [u1_ne e]
        exact ⟨t1, fun z hz x h1 h2 => t2 z hz x (Nat.le_of_succ_le h1) h2⟩
    · refine List.Perm.trans ?_ hJ.pm
      show (flW (u1 y.po i (y.po i ++ [y.V y.tp])) (y.c.n + 1) ++ (List.range' (y.tp + 1) (y.bt - (y.tp + 1))).map y.V).Perm _
      rw [show y.bt - y.tp = (y.bt - (y.tp + 1)) + 1 by omega, List.range'_succ, List.map_cons]
      exact ((flW_add i0 hi).append_right _).trans List.perm_middle.symm
  exact ⟨d_stat rfl, hR, d_bd hi hb rfl, fun z hz => u1_ne hz, rfl, hJ', d_fin hR hJ'⟩
def slotY (y : Dy) (i : Nat) (w : Int) : Dy := { y with v := u1 y.v (y.c.sl y.bt) w, bd := u1 y.bd i (y.bd i - 1) }
theorem slot_step {w : Int} (hJ : Dj y) (hi : i = y.c.n + 1) (hlt : y.bt < y.tp + y.c.L) (hb : 0 < y.bd i) : LStep dL i (y.c.sl y.bt) y (slotY y i w) := by
  have inj := hJ.inj
  have hR : ∀ j, j ≠ i -> Dr j y (slotY y i w) := fun j hj => ⟨rfl, fun _ => u1_ne hj, fun _ => rfl, fun _ => rfl, Nat.le_refl _, fun _ h => ⟨rfl, h⟩, fun e => absurd (e.trans hi.symm) hj⟩
  have hJ' : Dj (slotY y i w) := ⟨inj, hJ.ar, hJ.ad, hJ.n1, hJ.m1, hJ.hL, hJ.he, (u1_ne fun e => dsl_ne hJ (.inl (by omega)) e.symm).trans hJ.vt, (u1_ne fun e => dsl_ne hJ (.inl (by omega)) e.symm).trans hJ.vb, hJ.ow1, hJ.r1, hJ.r2, hJ.r3, hJ.np, fun x h1 h2 => (u1_ne (dsl_inj (x := x) (z := y.bt) hJ h2 (by have h1' : y.tp <= x := h1; omega))).trans (hJ.sl x h1 h2), hJ.inc, hJ.th, hJ.pm⟩
  exact ⟨d_stat rfl, hR, d_bd (by omega) hb rfl, fun z hz => u1_ne hz, rfl, hJ', d_fin hR hJ'⟩
def pushY (y : Dy) (i : Nat) (w : Int) : Dy := { y with v := u1 y.v (y.c.B 3) (y.c.W ((y.bt + 1 : Nat) : Int)), bt := y.bt + 1, V := u1 y.V y.bt w, np := y.np + 1, bd := u1 y.bd i (y.bd i - 1) }
theorem push_step {w : Int} (hJ : Dj y) (hi : i = y.c.n + 1) (ho : y.ow = 0) (hlt : y.bt < y.tp + y.c.L) (hs : y.v (y.c.sl y.bt) = w) (hw : w = y.np + 1) (hm : y.np < y.c.m) (hb : 0 < y.bd i) : LStep dL i (y.c.B 3) y (pushY y i w) := by
  have inj := hJ.inj
  have vne : ∀ j, j ≠ 3 -> (pushY y i w).v (y.c.B j) = y.v (y.c.B j) := fun j hj => u1_ne fun e => hj (inj _ _ e)
  have hR : ∀ j, j ≠ i -> Dr j y (pushY y i w) := fun j hj => ⟨rfl, fun _ => u1_ne hj, fun _ => rfl, fun _ => rfl, Nat.le_refl _, fun _ h => ⟨u1_ne (by omega), Nat.lt_succ_of_lt h⟩, fun e => absurd (e.trans hi.symm) hj⟩
  have hJ' : Dj (pushY y i w) := by
    refine ⟨inj, hJ.ar, hJ.ad, hJ.n1, hJ.m1, hJ.hL, hJ.he, (vne 2 (by omega)).trans hJ.vt, ?_, hJ.ow1, Nat.le_succ_of_le hJ.r1, hlt, Nat.succ_le_succ hJ.r3, hm, fun x h1 h2 => ?_, fun x z h1 h2 h3 => ?_, fun j j0 hj => ?_, ?_⟩
    · show u1 y.v (y.c.B 3) _ (y.c.B 3) = y.c.W (((y.bt + 1 : Nat) : Int) - y.ow)
      rw [u1_same, ho]
      congr 1
    · have h2' : x < y.bt + 1 := h2
      show u1 y.v (y.c.B 3) _ (y.c.sl x) = u1 y.V y.bt w x
      rw [u1_ne (dsl_ne hJ (.inl (by omega)))]
      by_cases e : x = y.bt
      · subst e; rw [u1_same, hs]
      · rw [u1_ne e]; exact hJ.sl x h1 (by omega)
    · have h3' : z < y.bt + 1 := h3
      show u1 y.V y.bt w x < u1 y.V y.bt w z
      rw [u1_ne (by omega)]
      by_cases e : z = y.bt
      · subst e
        rw [u1_same]
        have := (hJ.ge (.inr ⟨x, h1, h2, rfl⟩)).2
        omega
      · rw [u1_ne e]; exact hJ.inc x z h1 h2 (by omega)
    · obtain ⟨t1, t2⟩ := hJ.th j j0 hj
      refine ⟨t1, fun z hz x h1 h2 => ?_⟩
      have h2' : x < y.bt + 1 := h2
      have hj' : j <= y.c.n := hj
      show z < u1 y.V y.bt w x
      by_cases e : x = y.bt
      · subst e
        rw [u1_same]
        have := (hJ.ge (.inl (flW_mem j0 (by omega) hz))).2
        omega
      · rw [u1_ne e]; exact t2 z hz x h1 (by omega)
    · have r1 := hJ.r1
      show (flW y.po (y.c.n + 1) ++ (List.range' y.tp (y.bt + 1 - y.tp)).map (u1 y.V y.bt w)).Perm ((List.range (y.np + 1)).map fun k : Nat => (k : Int) + 1)
      rw [show y.bt + 1 - y.tp = (y.bt - y.tp) + 1 by omega, List.range'_1_concat, List.map_append, List.range_succ, List.map_append, <- List.append_assoc]
      have e1 : (List.range' y.tp (y.bt - y.tp)).map (u1 y.V y.bt w) = (List.range' y.tp (y.bt - y.tp)).map y.V := List.map_congr_left fun x hx => u1_ne (by
        have := List.mem_range'_1.1 hx
        omega)
      have e2 : [y.tp + (y.bt - y.tp)].map (u1 y.V y.bt w) = [y.np].map fun k : Nat => (k : Int) + 1 := by
        rw [show y.tp + (y.bt - y.tp) = y.bt by omega]
        show [u1 y.V y.bt w y.bt] = [(y.np : Int) + 1]
        rw [u1_same, hw]
      rw [e1, e2]
      exact hJ.pm.append_right _
  exact ⟨d_stat rfl, hR, d_bd (by omega) hb rfl, fun z hz => u1_ne hz, rfl, hJ', d_fin hR hJ'⟩
def botY (y : Dy) (i o : Nat) : Dy := { y with v := u1 y.v (y.c.B 3) (y.c.W ((y.bt : Int) - o)), ow := o, bd := u1 y.bd i (y.bd i - 1) }
theorem bot_step {o : Nat} (hJ : Dj y) (hi : i = y.c.n + 1) (ho : o <= 1) (hb : 0 < y.bd i) : LStep dL i (y.c.B 3) y (botY y i o) := by
  have inj := hJ.inj
  have vne : ∀ j, j ≠ 3 -> (botY y i o).v (y.c.B j) = y.v (y.c.B j) := fun j hj => u1_ne fun e => hj (inj _ _ e)
  have hR : ∀ j, j ≠ i -> Dr j y (botY y i o) := fun j hj => ⟨rfl, fun _ => u1_ne hj, fun _ => rfl, fun _ => rfl, Nat.le_refl _, fun _ h => ⟨rfl, h⟩, fun e => absurd (e.trans hi.symm) hj⟩
  have hJ' : Dj (botY y i o) := ⟨inj, hJ.ar, hJ.ad, hJ.n1, hJ.m1, hJ.hL, hJ.he, (vne 2 (by omega)).trans hJ.vt, u1_same, ho, hJ.r1, hJ.r2, hJ.r3, hJ.np, fun x h1 h2 => (u1_ne (dsl_ne hJ (.inl (by omega)))).trans (hJ.sl x h1 h2), hJ.inc, hJ.th, hJ.pm⟩
  exact ⟨d_stat rfl, hR, d_bd (by omega) hb rfl, fun z hz => u1_ne hz, rfl, hJ', d_fin hR hJ'⟩
def takeY (y : Dy) (i : Nat) : Dy := { y with bt := y.bt - 1, ow := 0, po := u1 y.po i (y.po i ++ [y.V (y.bt - 1)]) }
theorem take_move (hJ : Dj y) (hi : i = y.c.n + 1) (ho : y.ow = 1) (hlt : y.tp + 1 < y.bt) : LMove dL i y (takeY y i) := by
  have hR : ∀ j, j ≠ i -> Dr j y (takeY y i) := fun j hj => ⟨rfl, fun _ => rfl, fun _ => u1_ne hj, fun _ => rfl, Nat.le_refl _, fun _ h => ⟨rfl, by show y.tp < y.bt - 1; omega⟩, fun e => absurd (e.trans hi.symm) hj⟩
  have hJ' : Dj (takeY y i) := by
    refine ⟨hJ.inj, hJ.ar, hJ.ad, hJ.n1, hJ.m1, hJ.hL, hJ.he, hJ.vt, ?_, Nat.zero_le _, ?_, ?_, ?_, hJ.np, fun x h1 h2 => hJ.sl x h1 (by have h2' : x < y.bt - 1 := h2; omega), fun x z h1 h2 h3 => hJ.inc x z h1 h2 (by have h3' : z < y.bt - 1 := h3; omega), fun j j0 hj => ?_, ?_⟩
    · rw [show (takeY y i).v = y.v from rfl, show (takeY y i).c = y.c from rfl, hJ.vb, ho]
      congr 1
      show (y.bt : Int) - 1 = ((y.bt - 1 : Nat) : Int) - ((0 : Nat) : Int)
      omega
    · show y.tp <= y.bt - 1
      omega
    · have := hJ.r2
      show y.bt - 1 <= y.tp + y.c.L
      omega
    · have := hJ.r3
      show y.bt - 1 <= y.np
      omega
    · have hj' : j <= y.c.n := hj
      obtain ⟨t1, t2⟩ := hJ.th j j0 hj
      show (u1 y.po i _ j).Pairwise _ /\ ∀ z, z ∈ u1 y.po i _ j -> _
      rw [u1_ne (by omega)]
      exact ⟨t1, fun z hz x h1 h2 => t2 z hz x h1 (by have h2' : x < y.bt - 1 := h2; omega)⟩
    · refine List.Perm.trans ?_ hJ.pm
      show (flW (u1 y.po i (y.po i ++ [y.V (y.bt - 1)])) (y.c.n + 1) ++ (List.range' y.tp (y.bt - 1 - y.tp)).map y.V).Perm _
      rw [show y.bt - y.tp = (y.bt - 1 - y.tp) + 1 by omega, List.range'_1_concat, List.map_append, show [y.tp + (y.bt - 1 - y.tp)].map y.V = [y.V (y.bt - 1)] by rw [show y.tp + (y.bt - 1 - y.tp) = y.bt - 1 by omega]; rfl, <- List.append_assoc]
      refine ((flW_add (by omega) (by omega)).append_right _).trans ?_
      exact (List.perm_append_comm (l₁ := [y.V (y.bt - 1)]))
  exact ⟨d_stat rfl, hR, Nat.le_refl _, rfl, rfl, hJ', d_fin hR hJ'⟩
def doneY (y : Dy) (i : Nat) (w : Int) : Dy := { y with v := u1 y.v (y.c.B (4 + y.c.L)) w, bd := u1 y.bd i (y.bd i - 1) }
theorem done_step {w : Int} (hJ : Dj y) (hi : i = y.c.n + 1) (hb : 0 < y.bd i) : LStep dL i (y.c.B (4 + y.c.L)) y (doneY y i w) := by
  have inj := hJ.inj
  have vne : ∀ j, j ≠ 4 + y.c.L -> (doneY y i w).v (y.c.B j) = y.v (y.c.B j) := fun j hj => u1_ne fun e => hj (inj _ _ e)
  have hR : ∀ j, j ≠ i -> Dr j y (doneY y i w) := fun j hj => ⟨rfl, fun _ => u1_ne hj, fun _ => rfl, fun _ => rfl, Nat.le_refl _, fun _ h => ⟨rfl, h⟩, fun e => absurd (e.trans hi.symm) hj⟩
  have hJ' : Dj (doneY y i w) := ⟨inj, hJ.ar, hJ.ad, hJ.n1, hJ.m1, hJ.hL, hJ.he, (vne 2 (by omega)).trans hJ.vt, (vne 3 (by omega)).trans hJ.vb, hJ.ow1, hJ.r1, hJ.r2, hJ.r3, hJ.np, fun x h1 h2 => (u1_ne (dsl_ne hJ (.inr (by omega)))).trans (hJ.sl x h1 h2), hJ.inc, hJ.th, hJ.pm⟩
  exact ⟨d_stat rfl, hR, d_bd (by omega) hb rfl, fun z hz => u1_ne hz, rfl, hJ', d_fin hR hJ'⟩
def dqY (y : Dy) (i : Nat) (v : Value) : Dy := { y with sq := u1 y.sq (i - 1) v }
theorem dq_move {v : Value} (hJ : Dj y) (hi0 : 0 < i) : AMove dL i y.c.pb (i - 1) v y (dqY y i v) := by
  have hR : ∀ j, j ≠ i -> Dr j y (dqY y i v) := fun j hj => ⟨rfl, fun _ => rfl, fun _ => rfl, fun j0 => u1_ne (by omega), Nat.le_refl _, fun _ h => ⟨rfl, h⟩, fun _ => ⟨rfl, rfl, rfl, rfl, fun _ _ => rfl⟩⟩
  have hJ' : Dj (dqY y i v) := ⟨hJ.inj, hJ.ar, hJ.ad, hJ.n1, hJ.m1, hJ.hL, hJ.he, hJ.vt, hJ.vb, hJ.ow1, hJ.r1, hJ.r2, hJ.r3, hJ.np, hJ.sl, hJ.inc, hJ.th, hJ.pm⟩
  refine ⟨d_stat rfl, hR, Nat.le_refl _, rfl, fun x hx => ?_, ?_, hJ', d_fin hR hJ'⟩
  · show (if x = y.c.pb then _ else _) = if x = y.c.pb then _ else _
    rw [if_neg hx, if_neg hx]
    rfl
  · show (if y.c.pb = y.c.pb then _ else _) = (if y.c.pb = y.c.pb then _ else _ : Array Value).setIfInBounds _ _
    rw [if_pos rfl, if_pos rfl]
    exact map_u1'
end
end
section
open Go Go.TJ Go.Proofs
variable [Dm]
structure OwnD (i : Nat) (c : Dc) (po : List Int) (bd : Nat) (sq : Value) (y : Dy) : Prop where
  cc : y.c = c
  ln : po.length <= 1000
  po : y.po i = po
  bd : bd <= y.bd i
  sq : y.sq (i - 1) = sq
structure OwnO (c : Dc) (bt np ow : Nat) (y : Dy) : Prop where
  vb : y.v (c.B 3) = c.W ((bt : Int) - ow)
  bt : y.bt = bt
  np : y.np = np
  ow : y.ow = ow
structure TTd (p : Nat) (y : Dy) : Prop where
  l : p <= y.tp
  t : y.tp = p -> p < y.bt
section
variable {i : Nat} {c : Dc} {po : List Int} {bd bt np ow p : Nat} {sq : Value} {y y' : Dy} {z : Int}
theorem OwnD.rel (o : OwnD i c po bd sq y) (h0 : 0 < i) (r : LRel dL i y y') : OwnD i c po bd sq y' := by
  have q : Dr i y y' := r.law
  exact ⟨q.c.trans o.cc, o.ln, (q.po h0).trans o.po, by rw [q.bd h0]; exact o.bd, (q.sq h0).trans o.sq⟩
theorem OwnD.less (o : OwnD i c po bd sq y) {b : Nat} (h : b <= bd) : OwnD i c po b sq y := ⟨o.cc, o.ln, o.po, Nat.le_trans h o.bd, o.sq⟩
theorem OwnO.rel (o : OwnO c bt np ow y) (hc : y.c = c) (hi : i = c.n + 1) (r : LRel dL i y y') : OwnO c bt np ow y' := by
  have q : Dr i y y' := r.law
  obtain ⟨p1, p2, p3, p4, _⟩ := q.ow (by rw [hc]; exact hi)
  rw [hc] at p4
  exact ⟨p4.trans o.vb, p2.trans o.bt, p3.trans o.np, p1.trans o.ow⟩
theorem flW_len {A : Type} {f : Nat -> List A} {n i : Nat} (i0 : 0 < i) (hi : i <= n) : (f i).length <= (flW f n).length := by
  induction n with
  | zero => omega
  | succ n ih =>
    rw [flW_succ, List.length_append]
    by_cases e : i = n + 1
    · subst e; omega
    · have := ih (by omega)
      omega
theorem Dj.polen (h : Dj y) (i0 : 0 < i) (hi : i <= y.c.n + 1) : (y.po i).length <= 1000 := by
  have h1 := flW_len (f := y.po) i0 hi
  have h2 := h.pm.length_eq
  rw [List.length_append, List.length_map, List.length_map, List.length_range] at h2
  have h3 := h.np
  have h4 := h.m1
  omega
theorem own_slot (hJ : 0 < c.L) (hc : y.c = c) (hi : i = c.n + 1) (r : LRel dL i y y') {x : Nat} (h : y.v (c.sl x) = z) : y'.v (c.sl x) = z := by
  have q : Dr i y y' := r.law
  obtain ⟨_, _, _, _, p5⟩ := q.ow (by rw [hc]; exact hi)
  rw [hc] at p5
  exact (p5 _ (slot_lt hJ _)).trans h
theorem TTd.rel (t : TTd p y) (r : LRel dL i y y') : TTd p y' := by
  have q : Dr i y y' := r.law
  refine ⟨Nat.le_trans t.l q.tp, fun e => ?_⟩
  have h1 := q.tp
  have h2 := t.l
  have e1 : y.tp = p := by omega
  have := (q.th (by omega) (by rw [e1]; exact t.t e1)).2
  rw [e1] at this
  exact this
theorem tv_rel (t : TTd p y) (h : y.tp = p -> z = y.V p) (r : LRel dL i y y') : y'.tp = p -> z = y'.V p := by
  have q : Dr i y y' := r.law
  intro e
  have h1 := q.tp
  have h2 := t.l
  have e1 : y.tp = p := by omega
  have := (q.th (by omega) (by rw [e1]; exact t.t e1)).1
  rw [e1] at this
  rw [this]
  exact h e1
theorem w_diff {a b : Int} (h1 : -100000 <= a - b) (h2 : a - b <= 100000) : IntKind.i64.wrap (c.W a - c.W b) = a - b := by
  show W64 (W64 (c.F + a) - W64 (c.F + b)) = a - b
  rw [w_sub, show c.F + a - (c.F + b) = a - b by omega]
  exact w_small h1 h2
theorem w_up {a : Int} : IntKind.i64.wrap (c.W a + 1) = c.W (a + 1) := by
  show W64 (W64 (c.F + a) + 1) = W64 (c.F + (a + 1))
  rw [w_add1, Int.add_assoc]
theorem w_down {a : Int} : IntKind.i64.wrap (c.W a - 1) = c.W (a - 1) := by
  show W64 (W64 (c.F + a) - 1) = W64 (c.F + (a - 1))
  rw [w_sub1, show c.F + (a - 1) = c.F + a - 1 by omega]
theorem sl_w (hL : c.L = 2 ^ c.e) (he : c.e <= 12) {x : Nat} {a : Int} (ha : a = x) : c.B (4 + slot c.L (c.W a)) = c.sl x := by
  subst ha
  show c.B (4 + slot c.L (W64 (c.F + x))) = c.B (4 + slot c.L (c.F + x))
  rw [slot_w hL he]
end
structure KQ (c : Dc) (sb rb cap : Nat) (h : Hp) : Prop where
  t : hcell h ⟨sb, 0, none⟩ = some (ptr (c.B 2))
  b : hcell h ⟨sb, 1, none⟩ = some (ptr (c.B 3))
  s : hcell h ⟨sb, 2, none⟩ = some (.slice (some ⟨rb, 0, none⟩) c.L cap)
  r : ∀ j, j < c.L -> hcell h ⟨rb, 0 + j * 1, none⟩ = some (ptr (c.B (4 + j)))
section
variable {h : Hp} {δ : Ix (Gf Dy)} {i : Nat} {c : Dc} {po : List Int} {bd bt np sb rb cap : Nat} {sq : Value}
set_option maxRecDepth 8000 in
set_option maxHeartbeats 4000000 in
theorem push_d {room : Bool} {w : Int} (hA : Idle dL i δ.g) (hi : i = c.n + 1) (o : OwnD i c po bd sq δ.g.y) (oo : OwnO c bt np 0 δ.g.y) (hbd : 2 <= bd) (hL : c.L = 2 ^ c.e) (he : 1 <= c.e /\ c.e <= 12) (hw : w = np + 1) (hm : np < c.m) (hr : room = true -> bt < δ.g.y.tp + c.L) (m : KQ c sb rb cap h) :
    CallW Try.prog false (SitW Try.prog (XF TT dL) i) 20 #[ptr sb, .pointer none, .int .i64 w] h δ (Ret (Cq dL i h δ.d δ.g.wg fun v y => (v = .int .i64 12 /\ room = false /\ OwnD i c po bd sq y /\ OwnO c bt np 0 y) \/ (v = .int .i64 0 /\ OwnD i c po (bd - 2) sq y /\ OwnO c (bt + 1) (np + 1) 0 y))) := by
  have i0 := hA.i0
  have mt := m.t
  have mb := m.b
  have ms := m.s
  have L0 : 0 < c.L := by rw [hL]; exact Nat.two_pow_pos _
  have mem3 : ∀ y : Dy, y.c = c -> c.B 3 ∈ dL.cls y := fun y e => by rw [<- e]; exact d_cls (by omega) (by omega)
  have mem2 : ∀ y : Dy, y.c = c -> c.B 2 ∈ dL.cls y := fun y e => by rw [<- e]; exact d_cls (by omega) (by omega)
  have mems : ∀ (y : Dy) (x : Nat), y.c = c -> c.sl x ∈ dL.cls y := fun y x e => by
    have := slot_lt L0 (c.F + x)
    rw [<- e]
    rw [<- e] at this
    exact d_cls (by omega) (by omega)
  refine CallW.start (n := 44) rfl rfl ?_
  (repeat (first | refine EK.seq ?_ | refine EK.region ?_ | refine ER.done ?_ | refine ER.move rfl rfl rfl ?_ | refine ER.assign rfl rfl rfl ?_))
  refine ER.callD rfl rfl rfl rfl rfl (dnone_ok mt) ?_
  (repeat (first | refine EK.seq ?_ | refine EK.region ?_ | refine ER.done ?_ | refine EK.skip ?_ | refine ER.move rfl rfl rfl ?_ | refine ER.nilCheck rfl rfl rfl ?_ | refine ER.fieldAddr rfl rfl rfl ?_ | refine EK.condF rfl ?_ | refine ER.load1 rfl rfl rfl (by assumption) ?_))
  refine ER.callR rfl rfl rfl rfl rfl (cload_f (F := fun v y => v = .int .i64 (c.W bt) /\ OwnD i c po bd sq y /\ OwnO c bt np 0 y /\ (room = true -> bt < y.tp + c.L)) dL_ok hA (b := c.B 3) (mem3 _ o.cc) fun y₁ q1 j1 => ?_) ?_
  · have oo1 := oo.rel o.cc hi q1
    refine ⟨y₁, LMove.none dL_ok j1, ?_, o.rel i0 q1, oo1, fun e => Nat.lt_of_lt_of_le (hr e) (Nat.add_le_add_right (show Dr i _ y₁ from q1.law).tp _)⟩
    have := oo1.vb
    rw [show ((bt : Int) - ((0 : Nat) : Int)) = bt by omega] at this
    exact congrArg (Value.int .i64) this
  rintro v h2 ⟨d2, γ2⟩ ⟨rfl, e2, w2, a2, rfl, o2, oo2, hr2⟩
  simp only at e2 w2 a2 o2 oo2 hr2
  (repeat (first | refine EK.seq ?_ | refine ER.done ?_ | refine ER.assign rfl rfl rfl ?_))
  refine EK.regionAny (fun h' => hcell h' ⟨sb, 0, none⟩ = some (ptr (c.B 2)) /\ hcell h' ⟨sb, 2, none⟩ = some (.slice (some ⟨rb, 0, none⟩) c.L cap)) ?_ (hDu := a2.at.nd)
  have hZ := And.intro mt ms
  refine EA.tMove 0 rfl (by kernel_rfl) rfl rfl rfl rfl hZ ?_
  refine EA.tMove 1 rfl (by kernel_rfl) rfl rfl rfl rfl hZ ?_
  refine EA.tNil 2 rfl (by kernel_rfl) rfl rfl rfl rfl hZ ?_
  refine EA.tField 3 rfl (by kernel_rfl) rfl rfl rfl rfl hZ ?_
  refine EA.tLoad 4 rfl (by kernel_rfl) rfl rfl rfl rfl (fun _ hz => hz.1) hZ ?_
  refine EA.tMove 5 rfl (by kernel_rfl) rfl rfl rfl rfl hZ ?_
  refine EA.tMove 8 rfl (by kernel_rfl) rfl rfl rfl rfl hZ ?_
  refine EA.tNil 9 rfl (by kernel_rfl) rfl rfl rfl rfl hZ ?_
  refine EA.tField 10 rfl (by kernel_rfl) rfl rfl rfl rfl hZ ?_
  refine EA.tLoad 11 rfl (by kernel_rfl) rfl rfl rfl rfl (fun _ hz => hz.2) hZ ?_
  refine EA.tLen1 12 rfl (by kernel_rfl) rfl rfl rfl rfl hZ ?_
  refine EA.callR 6 rfl (by kernel_rfl) rfl rfl rfl rfl rfl rfl (cload_f (F := fun v y => ∃ p : Nat, v = .int .i64 (c.W p) /\ OwnD i c po bd sq y /\ OwnO c bt np 0 y /\ p <= y.tp /\ p <= bt /\ bt <= p + c.L /\ bt <= 1000 /\ (room = true -> bt < p + c.L)) dL_ok a2 (b := c.B 2) (mem2 _ o2.cc) fun y₁ q1 j1 => ?_) ?_
  · have o1 := o2.rel i0 q1
    have oo1 := oo2.rel o2.cc hi q1
    have h1 := j1.r1
    have h2 := j1.r2
    have h3 := j1.r3
    have h4 := j1.np
    have h5 := j1.m1
    have ec := o1.cc
    have eb := oo1.bt
    have h6 : γ2.y.tp <= y₁.tp := (show Dr i _ y₁ from q1.law).tp
    have hv := j1.vt
    rw [ec] at h2 h4 hv h5
    refine ⟨y₁, LMove.none dL_ok j1, y₁.tp, congrArg (Value.int .i64) hv, o1, oo1, Nat.le_refl _, by omega, by omega, by omega, fun e => ?_⟩
    have := hr2 e
    omega
  rintro v h3 ⟨d3, γ3⟩ ⟨rfl, e3, w3, a3, p, rfl, o3, oo3, hp, hpb, hpL, hb1, hr3⟩
  simp only at e3 w3 a3 o3 oo3 hp
  refine ⟨hZ, ?_⟩
  refine EA.tSub (kd := .i64) (r := (bt : Int) - p) 7 rfl (by kernel_rfl) rfl rfl rfl rfl rfl (w_diff (by omega) (by omega)) hZ ?_
  rcases Nat.lt_or_ge bt (p + c.L) with hlt | hge
  · have hlt' : ¬ ((c.L : Int) <= (bt : Int) - p) := by omega
    refine EA.tCmpF 13 rfl (by kernel_rfl) rfl rfl rfl rfl rfl rfl (by first | (dsimp only [cmpP]; omega) | exact rfl | exact Int.le_refl _) hZ ?_
    refine EA.done (by kernel_rfl) ?_
    clear hZ
    (repeat (first | refine EK.seq ?_ | refine EK.region ?_ | refine EK.skip ?_ | refine ER.move rfl rfl rfl ?_ | refine EK.condF rfl ?_))
    refine ER.callD rfl rfl rfl rfl rfl (dat_g ms m.r hL he.2 a3.at.nd) ?_
    rw [sl_w hL he.2 (x := bt) rfl]
    (repeat refine ER.move rfl rfl rfl ?_)
    refine ER.callR rfl rfl rfl rfl rfl (cstore_f (F := fun _ y => OwnD i c po (bd - 1) sq y /\ OwnO c bt np 0 y /\ y.v (c.sl bt) = w /\ bt < y.tp + c.L) dL_ok a3 (b := c.sl bt) (mems _ _ o3.cc) fun y₁ q1 j1 => ?_) ?_
    · have o1 := o3.rel i0 q1
      have oo1 := oo3.rel o3.cc hi q1
      have ec := o1.cc
      have hbd1 := o1.bd
      have htp' : γ3.y.tp <= y₁.tp := (show Dr i _ y₁ from q1.law).tp
      have hi' : i = y₁.c.n + 1 := by rw [ec]; exact hi
      have st := slot_step (w := w) j1 hi' (by rw [ec, oo1.bt]; omega) (by omega)
      have esl : y₁.c.sl y₁.bt = c.sl bt := by rw [ec, oo1.bt]
      have o2' : OwnD i c po (bd - 1) sq (slotY y₁ i w) := ⟨ec, o1.ln, o1.po, by show bd - 1 <= u1 y₁.bd i _ i; rw [u1_same]; omega, o1.sq⟩
      have oo2' : OwnO c bt np 0 (slotY y₁ i w) := ⟨by
        show u1 y₁.v (y₁.c.sl y₁.bt) w (c.B 3) = _
        rw [u1_ne (by rw [<- ec]; exact (dsl_ne j1 (.inl (by omega))).symm)]
        exact oo1.vb, oo1.bt, oo1.np, oo1.ow⟩
      refine ⟨slotY y₁ i w, by rw [<- esl]; exact st, ?_, fun y₂ q2 => ⟨o2'.rel i0 q2, oo2'.rel ec hi q2, own_slot (y := slotY y₁ i w) L0 ec hi q2 ?_, ?_⟩⟩
      · show u1 y₁.v (y₁.c.sl y₁.bt) w (c.sl bt) = w
        rw [esl, u1_same]
      · show u1 y₁.v (y₁.c.sl y₁.bt) w (c.sl bt) = w
        rw [esl, u1_same]
      · have h1 : y₁.tp <= y₂.tp := (show Dr i _ y₂ from q2.law).tp
        omega
    rintro v h4 ⟨d4, γ4⟩ ⟨rfl, e4, w4, a4, o4, oo4, hs4, hr4⟩
    simp only at e4 w4 a4 o4 oo4 hs4 hr4
    (repeat (first | refine EK.seq ?_ | refine EK.region ?_ | refine ER.done ?_ | refine ER.move rfl rfl rfl ?_ | refine ER.nilCheck rfl rfl rfl ?_ | refine ER.fieldAddr rfl rfl rfl ?_ | refine ER.load1 rfl rfl rfl (by assumption) ?_))
    refine ER.add (r := c.W ((bt : Int) + 1)) rfl rfl rfl rfl w_up ?_
    refine ER.callR rfl rfl rfl rfl rfl (cstore_f (F := fun _ y => OwnD i c po (bd - 2) sq y /\ OwnO c (bt + 1) (np + 1) 0 y) dL_ok a4 (b := c.B 3) (mem3 _ o4.cc) fun y₁ q1 j1 => ?_) ?_
    · have o1 := o4.rel i0 q1
      have oo1 := oo4.rel o4.cc hi q1
      have ec := o1.cc
      have hbd1 := o1.bd
      have htp : γ4.y.tp <= y₁.tp := (show Dr i _ y₁ from q1.law).tp
      have hs1 := own_slot L0 o4.cc hi q1 hs4
      have hi' : i = y₁.c.n + 1 := by rw [ec]; exact hi
      have st := push_step (w := w) j1 hi' oo1.ow (by rw [ec, oo1.bt]; omega) (by rw [ec, oo1.bt]; exact hs1) (by rw [oo1.np]; exact hw) (by rw [ec, oo1.np]; exact hm) (by omega)
      have o2' : OwnD i c po (bd - 2) sq (pushY y₁ i w) := ⟨ec, o1.ln, o1.po, by show bd - 2 <= u1 y₁.bd i _ i; rw [u1_same]; omega, o1.sq⟩
      have ev : (pushY y₁ i w).v (c.B 3) = c.W ((bt : Int) + 1) := by
        show u1 y₁.v (y₁.c.B 3) (y₁.c.W ((y₁.bt + 1 : Nat) : Int)) (c.B 3) = _
        rw [ec, oo1.bt, u1_same]
        rfl
      have oo2' : OwnO c (bt + 1) (np + 1) 0 (pushY y₁ i w) := ⟨by
        rw [ev]
        congr 1, congrArg (· + 1) oo1.bt, congrArg (· + 1) oo1.np, oo1.ow⟩
      exact ⟨pushY y₁ i w, by rw [<- ec]; exact st, ev, fun y₂ q2 => ⟨o2'.rel i0 q2, oo2'.rel ec hi q2⟩⟩
    rintro v h5 ⟨d5, γ5⟩ ⟨rfl, e5, w5, a5, o5, oo5⟩
    simp only at e5 w5 a5 o5 oo5
    (repeat (first | refine EK.seq ?_ | refine EK.region ?_ | refine ER.done ?_ | refine ER.assign rfl rfl rfl ?_ | refine EK.ret ?_))
    exact EU.ret1 rfl rfl ⟨rfl, ((e5.trans e4).trans e3).trans e2, ((w5.trans w4).trans w3).trans w2, a5, .inr ⟨rfl, o5, oo5⟩⟩
  · have hge' : (c.L : Int) <= (bt : Int) - p := by omega
    refine EA.tCmpT 13 rfl (by kernel_rfl) rfl rfl rfl rfl rfl rfl (by first | (dsimp only [cmpP]; omega) | exact rfl | exact Int.le_refl _) hZ ?_
    refine EA.done (by kernel_rfl) ?_
    (repeat (first | refine EK.seq ?_ | refine EK.region ?_ | refine ER.done ?_ | refine ER.assign rfl rfl rfl ?_ | refine EK.condT rfl ?_ | refine EK.ret ?_))
    refine EU.ret1 rfl rfl ⟨rfl, e3.trans e2, w3.trans w2, a3, .inl ⟨rfl, ?_, o3, oo3⟩⟩
    cases room
    · rfl
    · have := hr3 rfl
      omega
end
end
section
open Go Go.TJ Go.Proofs
variable [Dm]
section
variable {i : Nat} {c : Dc} {y : Dy}
theorem mem_b (j : Nat) (h1 : 2 <= j) (h2 : j < 4) (hc : y.c = c) : c.B j ∈ dL.cls y := by rw [<- hc]; exact d_cls h1 (by omega)
theorem mem_s (L0 : 0 < c.L) (x : Nat) (hc : y.c = c) : c.sl x ∈ dL.cls y := by
  have := slot_lt L0 (c.F + x)
  rw [<- hc]
  rw [<- hc] at this
  exact d_cls (by omega) (by omega)
end
section
variable {h : Hp} {δ : Ix (Gf Dy)} {i : Nat} {c : Dc} {po : List Int} {bd bt np sb rb cap : Nat} {sq : Value}
set_option maxRecDepth 8000 in
set_option maxHeartbeats 8000000 in
theorem pop_d (hA : Idle dL i δ.g) (hi : i = c.n + 1) (o : OwnD i c po bd sq δ.g.y) (oo : OwnO c bt np 0 δ.g.y) (hbd : 3 <= bd) (hL : c.L = 2 ^ c.e) (he : 1 <= c.e /\ c.e <= 12) (m : KQ c sb rb cap h) :
    CallW Try.prog false (SitW Try.prog (XF TT dL) i) 21 #[ptr sb, .pointer none] h δ (Ret (Cq dL i h δ.d δ.g.wg fun v y => (v = .tuple #[.int .i64 0, .bool false] /\ OwnD i c po (bd - 3) sq y /\ OwnO c bt np 0 y /\ bt <= y.tp) \/ (∃ z, v = .tuple #[.int .i64 z, .bool true] /\ OwnD i c (po ++ [z]) (bd - 3) sq y /\ ∃ bt', bt' <= bt /\ OwnO c bt' np 0 y /\ bt' < y.tp + c.L))) := by
  have i0 := hA.i0
  have mt := m.t
  have mb := m.b
  have L2 : 2 <= c.L := by rw [hL]; exact Nat.pow_le_pow_right (n := 2) (by decide) he.1
  have L0 : 0 < c.L := by omega
  refine CallW.start (n := 74) rfl rfl ?_
  (repeat (first | refine EK.seq ?_ | refine EK.region ?_ | refine ER.done ?_ | refine ER.move rfl rfl rfl ?_ | refine ER.assign rfl rfl rfl ?_))
  refine ER.callD rfl rfl rfl rfl rfl (dnone_ok mt) ?_
  (repeat (first | refine EK.seq ?_ | refine EK.region ?_ | refine ER.done ?_ | refine EK.skip ?_ | refine ER.move rfl rfl rfl ?_ | refine ER.nilCheck rfl rfl rfl ?_ | refine ER.fieldAddr rfl rfl rfl ?_ | refine EK.condF rfl ?_ | refine ER.load1 rfl rfl rfl (by assumption) ?_))
  refine ER.callR rfl rfl rfl rfl rfl (cload_f (F := fun v y => v = .int .i64 (c.W bt) /\ OwnD i c po bd sq y /\ OwnO c bt np 0 y) dL_ok hA (b := c.B 3) (mem_b 3 (by omega) (by omega) o.cc) fun y₁ q1 j1 => ?_) ?_
  · have oo1 := oo.rel o.cc hi q1
    refine ⟨y₁, LMove.none dL_ok j1, ?_, o.rel i0 q1, oo1⟩
    have := oo1.vb
    rw [show ((bt : Int) - ((0 : Nat) : Int)) = bt by omega] at this
    exact congrArg (Value.int .i64) this
  rintro v h2 ⟨d2, γ2⟩ ⟨rfl, e2, w2, a2, rfl, o2, oo2⟩
  simp only at e2 w2 a2 o2 oo2
  refine ER.sub' (r := c.W ((bt : Int) - 1)) rfl rfl rfl rfl w_down ?_
  (repeat (first | refine EK.seq ?_ | refine EK.region ?_ | refine ER.done ?_ | refine ER.move rfl rfl rfl ?_ | refine ER.assign rfl rfl rfl ?_ | refine ER.nilCheck rfl rfl rfl ?_ | refine ER.fieldAddr rfl rfl rfl ?_ | refine ER.load1 rfl rfl rfl (by assumption) ?_))
  refine ER.callR rfl rfl rfl rfl rfl (cstore_f (F := fun _ y => OwnD i c po (bd - 1) sq y /\ OwnO c bt np 1 y) dL_ok a2 (b := c.B 3) (mem_b 3 (by omega) (by omega) o2.cc) fun y₁ q1 j1 => ?_) ?_
  · have o1 := o2.rel i0 q1
    have oo1 := oo2.rel o2.cc hi q1
    have ec := o1.cc
    have hbd1 := o1.bd
    have hi' : i = y₁.c.n + 1 := by rw [ec]; exact hi
    have st := bot_step (o := 1) j1 hi' (by omega) (by omega)
    have eb := oo1.bt
    have ev : (botY y₁ i 1).v (c.B 3) = c.W ((bt : Int) - 1) := by
      show u1 y₁.v (y₁.c.B 3) (y₁.c.W ((y₁.bt : Int) - ((1 : Nat) : Int))) (c.B 3) = _
      rw [ec, eb, u1_same]
      rfl
    have o2' : OwnD i c po (bd - 1) sq (botY y₁ i 1) := ⟨ec, o1.ln, o1.po, by show bd - 1 <= u1 y₁.bd i _ i; rw [u1_same]; omega, o1.sq⟩
    have oo2' : OwnO c bt np 1 (botY y₁ i 1) := ⟨by rw [ev]; rfl, oo1.bt, oo1.np, rfl⟩
    exact ⟨botY y₁ i 1, by rw [<- ec]; exact st, ev, fun y₂ q2 => ⟨o2'.rel i0 q2, oo2'.rel ec hi q2⟩⟩
  rintro v h3 ⟨d3, γ3⟩ ⟨rfl, e3, w3, a3, o3, oo3⟩
  simp only at e3 w3 a3 o3 oo3
  (repeat (first | refine EK.seq ?_ | refine EK.region ?_ | refine ER.done ?_ | refine ER.move rfl rfl rfl ?_ | refine ER.nilCheck rfl rfl rfl ?_ | refine ER.fieldAddr rfl rfl rfl ?_ | refine ER.load1 rfl rfl rfl (by assumption) ?_))
  refine ER.callR rfl rfl rfl rfl rfl (cload_f (F := fun v y => ∃ p : Nat, v = .int .i64 (c.W p) /\ p <= bt /\ bt <= 1000 /\ ((p = bt /\ OwnD i c po (bd - 1) sq y /\ OwnO c bt np 1 y /\ y.tp = bt) \/ (p + 1 = bt /\ OwnD i c po (bd - 1) sq y /\ OwnO c bt np 1 y /\ p <= y.tp /\ ∃ z, y.v (c.sl p) = z) \/ (p + 1 < bt /\ ∃ z, OwnD i c (po ++ [z]) (bd - 1) sq y /\ OwnO c (bt - 1) np 0 y /\ y.v (c.sl (bt - 1)) = z /\ bt - 1 < y.tp + c.L))) dL_ok a3 (b := c.B 2) (mem_b 2 (by omega) (by omega) o3.cc) fun y₁ q1 j1 => ?_) ?_
  · have o1 := o3.rel i0 q1
    have oo1 := oo3.rel o3.cc hi q1
    have ec := o1.cc
    have eb := oo1.bt
    have h1 := j1.r1
    have h2 := j1.r2
    have h3 := j1.r3
    have h4 := j1.np
    have h5 := j1.m1
    have hv := j1.vt
    rw [ec] at h2 h4 h5 hv
    have hi' : i = y₁.c.n + 1 := by rw [ec]; exact hi
    have hv' : Value.int .i64 (dL.val y₁ (c.B 2)) = .int .i64 (c.W y₁.tp) := congrArg (Value.int .i64) hv
    by_cases c1 : y₁.tp = bt
    · exact ⟨y₁, LMove.none dL_ok j1, y₁.tp, hv', by omega, by omega, .inl ⟨c1, o1, oo1, c1⟩⟩
    · by_cases c2 : y₁.tp + 1 = bt
      · exact ⟨y₁, LMove.none dL_ok j1, y₁.tp, hv', by omega, by omega, .inr (.inl ⟨c2, o1, oo1, Nat.le_refl _, _, rfl⟩)⟩
      · have hs := j1.sl (y₁.bt - 1) (by omega) (by omega)
        rw [ec, eb] at hs
        have tm := take_move j1 hi' oo1.ow (by omega)
        have epo : (takeY y₁ i).po i = po ++ [y₁.V (bt - 1)] := by
          show u1 y₁.po i (y₁.po i ++ [y₁.V (y₁.bt - 1)]) i = _
          rw [u1_same, o1.po, eb]
        have eln := tm.J.polen i0 (show i <= y₁.c.n + 1 by omega)
        rw [epo] at eln
        refine ⟨takeY y₁ i, tm, y₁.tp, hv', by omega, by omega, .inr (.inr ⟨by omega, y₁.V (bt - 1), ⟨ec, eln, epo, o1.bd, o1.sq⟩, ⟨?_, by show y₁.bt - 1 = bt - 1; rw [eb], oo1.np, rfl⟩, hs, by show bt - 1 < y₁.tp + c.L; omega⟩)⟩
        refine oo1.vb.trans ?_
        congr 1
        omega
  rintro v h4 ⟨d4, γ4⟩ ⟨rfl, e4, w4, a4, p, rfl, hp, hb1, hF⟩
  simp only at e4 w4 a4 hF
  (repeat (first | refine EK.seq ?_ | refine EK.region ?_ | refine ER.done ?_ | refine ER.move rfl rfl rfl ?_ | refine ER.assign rfl rfl rfl ?_))
  refine ER.sub' (r := ((bt : Int) - 1) - p) rfl rfl rfl rfl (w_diff (by omega) (by omega)) ?_
  rcases hF with ⟨c1, o4, oo4, t4⟩ | ⟨c2, o4, oo4, t4, z, hs4⟩ | ⟨c3, z, o4, oo4, hs4, t4⟩
  · have hneg : ((bt : Int) - 1) - p < 0 := by omega
    have TU : ∀ (y₁ y₂ : Dy), LRel dL i γ4.y y₁ -> LRel dL i (botY y₁ i 0) y₂ -> Dj y₁ -> y₂.tp ≥ bt := fun y₁ y₂ q1 q2 _ => by
      have h1 : γ4.y.tp <= y₁.tp := (show Dr i _ y₁ from q1.law).tp
      have h2 : y₁.tp <= y₂.tp := (show Dr i _ y₂ from q2.law).tp
      omega
    (repeat (first | refine EK.seq ?_ | refine EK.region ?_ | refine ER.done ?_ | refine ER.move rfl rfl rfl ?_ | refine ER.nilCheck rfl rfl rfl ?_ | refine ER.fieldAddr rfl rfl rfl ?_ | refine ER.cmpT rfl rfl rfl rfl rfl (by first | (dsimp only [cmpP]; omega) | exact rfl | exact Int.le_refl _) ?_ | refine EK.condT rfl ?_ | refine ER.load1 rfl rfl rfl (by assumption) ?_))
    refine ER.add (r := c.W (bt : Int)) rfl rfl rfl rfl (by rw [w_up]; congr 1; omega) ?_
    refine ER.callR rfl rfl rfl rfl rfl (cstore_f (F := fun _ y => OwnD i c po (bd - 2) sq y /\ OwnO c bt np 0 y /\ bt <= y.tp) dL_ok a4 (b := c.B 3) (mem_b 3 (by omega) (by omega) o4.cc) fun y₁ q1 j1 => ?_) ?_
    · have o1 := o4.rel i0 q1
      have oo1 := oo4.rel o4.cc hi q1
      have ec := o1.cc
      have hbd1 := o1.bd
      have hi' : i = y₁.c.n + 1 := by rw [ec]; exact hi
      have st := bot_step (o := 0) j1 hi' (by omega) (by omega)
      have eb := oo1.bt
      have ev : (botY y₁ i 0).v (c.B 3) = c.W (bt : Int) := by
        show u1 y₁.v (y₁.c.B 3) (y₁.c.W ((y₁.bt : Int) - ((0 : Nat) : Int))) (c.B 3) = _
        rw [ec, eb, u1_same]
        congr 1
      have o2' : OwnD i c po (bd - 2) sq (botY y₁ i 0) := ⟨ec, o1.ln, o1.po, by show bd - 2 <= u1 y₁.bd i _ i; rw [u1_same]; omega, o1.sq⟩
      have oo2' : OwnO c bt np 0 (botY y₁ i 0) := ⟨by rw [ev]; congr 1, oo1.bt, oo1.np, rfl⟩
      exact ⟨botY y₁ i 0, by rw [<- ec]; exact st, ev, fun y₂ q2 => ⟨o2'.rel i0 q2, oo2'.rel ec hi q2, TU y₁ y₂ q1 q2 j1⟩⟩
    rintro v h5 ⟨d5, γ5⟩ ⟨rfl, e5, w5, a5, o5, oo5, t5⟩
    simp only at e5 w5 a5 o5 oo5 t5
    (repeat (first | refine EK.seq ?_ | refine EK.region ?_ | refine ER.done ?_ | refine ER.assign rfl rfl rfl ?_ | refine EK.ret ?_))
    exact EU.ret2 rfl rfl rfl ⟨rfl, ((e5.trans e4).trans e3).trans e2, ((w5.trans w4).trans w3).trans w2, a5, .inl ⟨rfl, o5.less (by omega), oo5, t5⟩⟩
  · have hz0 : ¬ (((bt : Int) - 1) - p < 0) := by omega
    have hz1 : ¬ (((bt : Int) - 1) - p > 0) := by omega
    (repeat (first | refine EK.seq ?_ | refine EK.region ?_ | refine ER.done ?_ | refine EK.skip ?_ | refine ER.move rfl rfl rfl ?_ | refine ER.cmpF rfl rfl rfl rfl rfl (by first | (dsimp only [cmpP]; omega) | exact rfl | exact Int.le_refl _) ?_ | refine EK.condF rfl ?_))
    refine ER.callD rfl rfl rfl rfl rfl (dat_g m.s m.r hL he.2 a4.at.nd) ?_
    rw [sl_w hL he.2 (x := p) (a := (bt : Int) - 1) (by omega)]
    (repeat refine ER.move rfl rfl rfl ?_)
    refine ER.callR rfl rfl rfl rfl rfl (cload_f (F := fun v y => v = .int .i64 z /\ OwnD i c po (bd - 1) sq y /\ OwnO c bt np 1 y /\ p <= y.tp /\ y.v (c.sl p) = z) dL_ok a4 (b := c.sl p) (mem_s L0 p o4.cc) fun y₁ q1 j1 => ?_) ?_
    · have hs1 := own_slot L0 o4.cc hi q1 hs4
      exact ⟨y₁, LMove.none dL_ok j1, congrArg (Value.int .i64) hs1, o4.rel i0 q1, oo4.rel o4.cc hi q1, Nat.le_trans t4 (show Dr i _ y₁ from q1.law).tp, hs1⟩
    rintro v h5 ⟨d5, γ5⟩ ⟨rfl, e5, w5, a5, rfl, o5, oo5, t5, hs5⟩
    simp only at e5 w5 a5 o5 oo5 t5 hs5
    (repeat (first | refine EK.seq ?_ | refine EK.region ?_ | refine ER.done ?_ | refine ER.move rfl rfl rfl ?_ | refine ER.assign rfl rfl rfl ?_))
    refine ER.sub' (r := ((bt : Int) - 1) - p) rfl rfl rfl rfl (w_diff (by omega) (by omega)) ?_
    (repeat (first | refine EK.seq ?_ | refine EK.region ?_ | refine ER.done ?_ | refine EK.skip ?_ | refine ER.move rfl rfl rfl ?_ | refine ER.nilCheck rfl rfl rfl ?_ | refine ER.fieldAddr rfl rfl rfl ?_ | refine ER.cmpF rfl rfl rfl rfl rfl (by first | (dsimp only [cmpP]; omega) | exact rfl | exact Int.le_refl _) ?_ | refine EK.condF rfl ?_ | refine ER.load1 rfl rfl rfl (by assumption) ?_))
    refine ER.add (r := c.W ((p : Int) + 1)) rfl rfl rfl rfl w_up ?_
    refine ER.callR rfl rfl rfl rfl rfl (ccas_f (F := fun v y => (v = .bool true /\ OwnD i c (po ++ [z]) (bd - 2) sq y /\ OwnO c bt np 1 y /\ bt <= y.tp) \/ (v = .bool false /\ OwnD i c po (bd - 2) sq y /\ OwnO c bt np 1 y /\ bt <= y.tp)) dL_ok a5 (b := c.B 2) (mem_b 2 (by omega) (by omega) o5.cc) fun y₁ q1 j1 => ?_) ?_
    · have o1 := o5.rel i0 q1
      have oo1 := oo5.rel o5.cc hi q1
      have ec := o1.cc
      have eb := oo1.bt
      have hbd1 := o1.bd
      have hs1 := own_slot L0 o5.cc hi q1 hs5
      have hr1 := j1.r1
      have htp : γ5.y.tp <= y₁.tp := (show Dr i _ y₁ from q1.law).tp
      have hv := j1.vt
      rw [ec] at hv
      refine ⟨fun e => ?_, fun e => ?_⟩
      · have e' : y₁.v (c.B 2) = c.W p := e
        rw [hv] at e'
        have etp : c.F + (y₁.tp : Int) = c.F + p := w_inj e' (by omega) (by omega)
        have etp' : y₁.tp = p := by omega
        have st := top_step (i := i) j1 i0 (by rw [ec]; omega) (by omega) (by omega)
        have hV := j1.sl p (by omega) (by omega)
        rw [ec, hs1] at hV
        have epo : (topY y₁ i).po i = po ++ [z] := by
          show u1 y₁.po i (y₁.po i ++ [y₁.V y₁.tp]) i = _
          rw [u1_same, o1.po, etp', <- hV]
        have eln := st.J.polen i0 (show i <= y₁.c.n + 1 by rw [ec]; omega)
        rw [epo] at eln
        have o2' : OwnD i c (po ++ [z]) (bd - 2) sq (topY y₁ i) := ⟨ec, eln, epo, by show bd - 2 <= u1 y₁.bd i _ i; rw [u1_same]; omega, o1.sq⟩
        have oo2' : OwnO c bt np 1 (topY y₁ i) := ⟨by
          refine (u1_ne fun e => ?_).trans oo1.vb
          have := j1.inj 3 2 (by rw [ec] at e ⊢; exact e)
          omega, oo1.bt, oo1.np, oo1.ow⟩
        refine ⟨topY y₁ i, by rw [<- ec]; exact st, ?_, fun y₂ q2 => .inl ⟨rfl, o2'.rel i0 q2, oo2'.rel ec hi q2, ?_⟩⟩
        · show u1 y₁.v (y₁.c.B 2) (y₁.c.W ((y₁.tp + 1 : Nat) : Int)) (c.B 2) = _
          rw [ec, u1_same, etp']
          rfl
        · have h1 : y₁.tp + 1 <= y₂.tp := (show Dr i _ y₂ from q2.law).tp
          omega
      · refine ⟨y₁, LMove.none dL_ok j1, .inr ⟨rfl, o1.less (by omega), oo1, ?_⟩⟩
        have : y₁.tp ≠ p := fun e' => e (by show y₁.v (c.B 2) = _; rw [hv, e'])
        omega
    rintro v h6 ⟨d6, γ6⟩ ⟨rfl, e6, w6, a6, hF⟩
    simp only at e6 w6 a6 hF
    obtain ⟨r, po', hv', o6, oo6, t6, hpo⟩ : ∃ (r : Bool) (po' : List Int), v = .bool r /\ OwnD i c po' (bd - 2) sq γ6.y /\ OwnO c bt np 1 γ6.y /\ bt <= γ6.y.tp /\ po' = (if r then po ++ [z] else po) := by
      rcases hF with ⟨rfl, x1, x2, x3⟩ | ⟨rfl, x1, x2, x3⟩
      · exact ⟨true, _, rfl, x1, x2, x3, rfl⟩
      · exact ⟨false, _, rfl, x1, x2, x3, rfl⟩
    subst hv'
    clear hF
    (repeat (first | refine EK.seq ?_ | refine EK.region ?_ | refine ER.done ?_ | refine ER.move rfl rfl rfl ?_ | refine ER.assign rfl rfl rfl ?_ | refine ER.nilCheck rfl rfl rfl ?_ | refine ER.fieldAddr rfl rfl rfl ?_ | refine ER.load1 rfl rfl rfl (by assumption) ?_))
    refine ER.add (r := c.W (bt : Int)) rfl rfl rfl rfl (by rw [w_up]; congr 1; omega) ?_
    refine ER.callR rfl rfl rfl rfl rfl (cstore_f (F := fun _ y => OwnD i c po' (bd - 3) sq y /\ OwnO c bt np 0 y /\ bt <= y.tp) dL_ok a6 (b := c.B 3) (mem_b 3 (by omega) (by omega) o6.cc) fun y₁ q1 j1 => ?_) ?_
    · have o1 := o6.rel i0 q1
      have oo1 := oo6.rel o6.cc hi q1
      have ec := o1.cc
      have hbd1 := o1.bd
      have hi' : i = y₁.c.n + 1 := by rw [ec]; exact hi
      have st := bot_step (o := 0) j1 hi' (by omega) (by omega)
      have eb := oo1.bt
      have ev : (botY y₁ i 0).v (c.B 3) = c.W (bt : Int) := by
        show u1 y₁.v (y₁.c.B 3) (y₁.c.W ((y₁.bt : Int) - ((0 : Nat) : Int))) (c.B 3) = _
        rw [ec, eb, u1_same]
        congr 1
      have o2' : OwnD i c po' (bd - 3) sq (botY y₁ i 0) := ⟨ec, o1.ln, o1.po, by show bd - 3 <= u1 y₁.bd i _ i; rw [u1_same]; omega, o1.sq⟩
      have oo2' : OwnO c bt np 0 (botY y₁ i 0) := ⟨by rw [ev]; congr 1, oo1.bt, oo1.np, rfl⟩
      refine ⟨botY y₁ i 0, by rw [<- ec]; exact st, ev, fun y₂ q2 => ⟨o2'.rel i0 q2, oo2'.rel ec hi q2, ?_⟩⟩
      have h1 : γ6.y.tp <= y₁.tp := (show Dr i _ y₁ from q1.law).tp
      have h2 : y₁.tp <= y₂.tp := (show Dr i _ y₂ from q2.law).tp
      omega
    rintro v h7 ⟨d7, γ7⟩ ⟨rfl, e7, w7, a7, o7, oo7, t7⟩
    simp only at e7 w7 a7 o7 oo7 t7
    have ed := (((((e7.trans e6).trans e5).trans e4).trans e3).trans e2)
    have ew := (((((w7.trans w6).trans w5).trans w4).trans w3).trans w2)
    cases r
    · (repeat (first | refine EK.seq ?_ | refine EK.region ?_ | refine ER.done ?_ | refine ER.move rfl rfl rfl ?_ | refine ER.assign rfl rfl rfl ?_ | refine ER.notB rfl rfl rfl ?_ | refine EK.condT rfl ?_ | refine EK.ret ?_))
      subst hpo
      exact EU.ret2 rfl rfl rfl ⟨rfl, ed, ew, a7, .inl ⟨rfl, o7, oo7, t7⟩⟩
    · (repeat (first | refine EK.seq ?_ | refine EK.region ?_ | refine ER.done ?_ | refine EK.skip ?_ | refine ER.move rfl rfl rfl ?_ | refine ER.assign rfl rfl rfl ?_ | refine ER.notB rfl rfl rfl ?_ | refine EK.condF rfl ?_ | refine EK.ret ?_))
      subst hpo
      exact EU.ret2 rfl rfl rfl ⟨rfl, ed, ew, a7, .inr ⟨z, rfl, o7, bt, Nat.le_refl _, oo7, Nat.lt_of_le_of_lt t7 (Nat.lt_add_of_pos_right L0)⟩⟩
  · have hz0 : ¬ (((bt : Int) - 1) - p < 0) := by omega
    have hz1 : ((bt : Int) - 1) - p > 0 := by omega
    (repeat (first | refine EK.seq ?_ | refine EK.region ?_ | refine ER.done ?_ | refine EK.skip ?_ | refine ER.move rfl rfl rfl ?_ | refine ER.cmpF rfl rfl rfl rfl rfl (by first | (dsimp only [cmpP]; omega) | exact rfl | exact Int.le_refl _) ?_ | refine EK.condF rfl ?_))
    refine ER.callD rfl rfl rfl rfl rfl (dat_g m.s m.r hL he.2 a4.at.nd) ?_
    rw [sl_w hL he.2 (x := bt - 1) (a := (bt : Int) - 1) (by omega)]
    (repeat refine ER.move rfl rfl rfl ?_)
    refine ER.callR rfl rfl rfl rfl rfl (cload_f (F := fun v y => v = .int .i64 z /\ OwnD i c (po ++ [z]) (bd - 1) sq y /\ OwnO c (bt - 1) np 0 y /\ bt - 1 < y.tp + c.L) dL_ok a4 (b := c.sl (bt - 1)) (mem_s L0 _ o4.cc) fun y₁ q1 j1 => ?_) ?_
    · have hs1 := own_slot L0 o4.cc hi q1 hs4
      have h1 : γ4.y.tp <= y₁.tp := (show Dr i _ y₁ from q1.law).tp
      exact ⟨y₁, LMove.none dL_ok j1, congrArg (Value.int .i64) hs1, o4.rel i0 q1, oo4.rel o4.cc hi q1, by omega⟩
    rintro v h5 ⟨d5, γ5⟩ ⟨rfl, e5, w5, a5, rfl, o5, oo5, t5⟩
    simp only at e5 w5 a5 o5 oo5 t5
    (repeat (first | refine EK.seq ?_ | refine EK.region ?_ | refine ER.done ?_ | refine ER.move rfl rfl rfl ?_ | refine ER.assign rfl rfl rfl ?_))
    refine ER.sub' (r := ((bt : Int) - 1) - p) rfl rfl rfl rfl (w_diff (by omega) (by omega)) ?_
    (repeat (first | refine EK.seq ?_ | refine EK.region ?_ | refine ER.done ?_ | refine ER.move rfl rfl rfl ?_ | refine ER.assign rfl rfl rfl ?_ | refine ER.cmpT rfl rfl rfl rfl rfl (by first | (dsimp only [cmpP]; omega) | exact rfl | exact Int.le_refl _) ?_ | refine EK.condT rfl ?_ | refine EK.ret ?_))
    exact EU.ret2 rfl rfl rfl ⟨rfl, ((e5.trans e4).trans e3).trans e2, ((w5.trans w4).trans w3).trans w2, a5, .inr ⟨z, rfl, o5.less (by omega), bt - 1, Nat.sub_le _ _, oo5, t5⟩⟩
set_option maxRecDepth 8000 in
set_option maxHeartbeats 8000000 in
theorem steal_d (hA : Idle dL i δ.g) (hi : i <= c.n) (o : OwnD i c po bd sq δ.g.y) (hbd : 1 <= bd) (hL : c.L = 2 ^ c.e) (he : 1 <= c.e /\ c.e <= 12) (m : KQ c sb rb cap h) :
    CallW Try.prog false (SitW Try.prog (XF TT dL) i) 24 #[ptr sb, .pointer none] h δ (Ret (Cq dL i h δ.d δ.g.wg fun v y => (∃ how : Int, v = .tuple #[.int .i64 0, .int .i8 how] /\ how ≠ 1 /\ OwnD i c po (bd - 1) sq y) \/ ∃ z, v = .tuple #[.int .i64 z, .int .i8 1] /\ OwnD i c (po ++ [z]) (bd - 1) sq y)) := by
  have i0 := hA.i0
  have mt := m.t
  have mb := m.b
  have L2 : 2 <= c.L := by rw [hL]; exact Nat.pow_le_pow_right (n := 2) (by decide) he.1
  have L0 : 0 < c.L := by omega
  refine CallW.start (n := 44) rfl rfl ?_
  (repeat (first | refine EK.seq ?_ | refine EK.region ?_ | refine ER.done ?_ | refine ER.move rfl rfl rfl ?_ | refine ER.assign rfl rfl rfl ?_))
  refine ER.callD rfl rfl rfl rfl rfl (dnone_ok mt) ?_
  (repeat (first | refine EK.seq ?_ | refine EK.region ?_ | refine ER.done ?_ | refine EK.skip ?_ | refine ER.move rfl rfl rfl ?_ | refine ER.nilCheck rfl rfl rfl ?_ | refine ER.fieldAddr rfl rfl rfl ?_ | refine EK.condF rfl ?_ | refine ER.load1 rfl rfl rfl (by assumption) ?_))
  refine ER.callR rfl rfl rfl rfl rfl (cload_f (F := fun v y => ∃ p : Nat, v = .int .i64 (c.W p) /\ OwnD i c po bd sq y /\ p <= y.tp /\ p <= 1000) dL_ok hA (b := c.B 2) (mem_b 2 (by omega) (by omega) o.cc) fun y₁ q1 j1 => ?_) ?_
  · have o1 := o.rel i0 q1
    have h1 := j1.r1
    have h3 := j1.r3
    have h4 := j1.np
    have h5 := j1.m1
    have hv := j1.vt
    rw [o1.cc] at hv
    exact ⟨y₁, LMove.none dL_ok j1, y₁.tp, congrArg (Value.int .i64) hv, o1, Nat.le_refl _, by omega⟩
  rintro v h2 ⟨d2, γ2⟩ ⟨rfl, e2, w2, a2, p, rfl, o2, t2, p1⟩
  simp only at e2 w2 a2 o2 t2
  (repeat (first | refine EK.seq ?_ | refine EK.region ?_ | refine ER.done ?_ | refine ER.move rfl rfl rfl ?_ | refine ER.assign rfl rfl rfl ?_ | refine ER.nilCheck rfl rfl rfl ?_ | refine ER.fieldAddr rfl rfl rfl ?_ | refine ER.load1 rfl rfl rfl (by assumption) ?_))
  refine ER.callR rfl rfl rfl rfl rfl (cload_f (F := fun v y => ∃ q : Int, v = .int .i64 (c.W q) /\ -1 <= q /\ q <= 1000 /\ OwnD i c po bd sq y /\ (p < q -> TTd p y)) dL_ok a2 (b := c.B 3) (mem_b 3 (by omega) (by omega) o2.cc) fun y₁ q1 j1 => ?_) ?_
  · have o1 := o2.rel i0 q1
    have h1 := j1.r1
    have h3 := j1.r3
    have h4 := j1.np
    have h5 := j1.m1
    have h6 := j1.ow1
    have hv := j1.vb
    rw [o1.cc] at hv
    have ht : γ2.y.tp <= y₁.tp := (show Dr i _ y₁ from q1.law).tp
    exact ⟨y₁, LMove.none dL_ok j1, _, congrArg (Value.int .i64) hv, by omega, by omega, o1, fun hq => ⟨Nat.le_trans t2 ht, fun e => by omega⟩⟩
  rintro v h3 ⟨d3, γ3⟩ ⟨rfl, e3, w3, a3, q, rfl, q0, q1, o3, t3⟩
  simp only at e3 w3 a3 o3 t3
  (repeat refine ER.move rfl rfl rfl ?_)
  refine ER.sub' (r := q - p) rfl rfl rfl rfl (w_diff (by omega) (by omega)) ?_
  rcases Int.lt_or_le (p : Int) q with hlt | hge
  · replace t3 := t3 hlt
    have hz : ¬ (q - p <= 0) := by omega
    (repeat (first | refine EK.seq ?_ | refine EK.region ?_ | refine ER.done ?_ | refine EK.skip ?_ | refine ER.move rfl rfl rfl ?_ | refine ER.cmpF rfl rfl rfl rfl rfl (by first | (dsimp only [cmpP]; omega) | exact rfl | exact Int.le_refl _) ?_ | refine EK.condF rfl ?_))
    refine ER.callD rfl rfl rfl rfl rfl (dat_g m.s m.r hL he.2 a3.at.nd) ?_
    rw [sl_w hL he.2 (x := p) rfl]
    refine ER.makeF rfl rfl rfl rfl rfl rfl ?_
    (repeat (first | refine EK.seq ?_ | refine EK.region ?_ | refine ER.done ?_ | refine ER.move rfl rfl rfl ?_ | refine ER.assign rfl rfl rfl ?_))
    refine ER.callFR rfl rfl rfl rfl rfl (cload_f (F := fun v y => ∃ z, v = .int .i64 z /\ OwnD i c po bd sq y /\ TTd p y /\ (y.tp = p -> z = y.V p)) dL_ok a3 (b := c.sl p) (mem_s L0 p o3.cc) fun y₁ q1 j1 => ?_) ?_
    · have o1 := o3.rel i0 q1
      have t1 := t3.rel q1
      refine ⟨y₁, LMove.none dL_ok j1, _, rfl, o1, t1, fun e => ?_⟩
      have := j1.sl p (by omega) (t1.t e)
      rw [o1.cc] at this
      exact this
    rintro v h4 ⟨d4, γ4⟩ ⟨rfl, e4, w4, a4, z, rfl, o4, t4, z4⟩
    simp only at e4 w4 a4 o4 t4 z4
    (repeat (first | refine EK.seq ?_ | refine EK.region ?_ | refine ER.done ?_ | refine ER.move rfl rfl rfl ?_ | refine ER.assign rfl rfl rfl ?_ | refine ER.nilCheck rfl rfl rfl ?_ | refine ER.fieldAddr rfl rfl rfl ?_ | refine ER.load1 rfl rfl rfl (by assumption) ?_))
    refine ER.add (r := c.W ((p : Int) + 1)) rfl rfl rfl rfl w_up ?_
    refine ER.callR rfl rfl rfl rfl rfl (ccas_f (F := fun v y => (v = .bool true /\ OwnD i c (po ++ [z]) (bd - 1) sq y) \/ (v = .bool false /\ OwnD i c po (bd - 1) sq y)) dL_ok a4 (b := c.B 2) (mem_b 2 (by omega) (by omega) o4.cc) fun y₁ q1 j1 => ?_) ?_
    · have o1 := o4.rel i0 q1
      have ec := o1.cc
      have hbd1 := o1.bd
      have t1 := t4.rel q1
      have z1 := tv_rel t4 z4 q1
      have hv := j1.vt
      have h1 := j1.r1
      have h3 := j1.r3
      have h4 := j1.np
      have h5 := j1.m1
      rw [ec] at hv
      refine ⟨fun e => ?_, fun e => ⟨y₁, LMove.none dL_ok j1, .inr ⟨rfl, o1.less (by omega)⟩⟩⟩
      have e' : y₁.v (c.B 2) = c.W p := e
      rw [hv] at e'
      have etp : c.F + (y₁.tp : Int) = c.F + p := w_inj e' (by omega) (by omega)
      have etp' : y₁.tp = p := by omega
      have st := top_step (i := i) j1 i0 (by rw [ec]; omega) (by have := t1.t etp'; omega) (by omega)
      have epo : (topY y₁ i).po i = po ++ [z] := by
        show u1 y₁.po i (y₁.po i ++ [y₁.V y₁.tp]) i = _
        rw [u1_same, o1.po, z1 etp', etp']
      have eln := st.J.polen i0 (show i <= y₁.c.n + 1 by rw [ec]; omega)
      rw [epo] at eln
      have o2' : OwnD i c (po ++ [z]) (bd - 1) sq (topY y₁ i) := ⟨ec, eln, epo, by show bd - 1 <= u1 y₁.bd i _ i; rw [u1_same]; omega, o1.sq⟩
      refine ⟨topY y₁ i, by rw [<- ec]; exact st, ?_, fun y₂ q2 => .inl ⟨rfl, o2'.rel i0 q2⟩⟩
      show u1 y₁.v (y₁.c.B 2) (y₁.c.W ((y₁.tp + 1 : Nat) : Int)) (c.B 2) = _
      rw [ec, u1_same, etp']
      rfl
    rintro v h5 ⟨d5, γ5⟩ ⟨rfl, e5, w5, a5, ⟨rfl, o5⟩ | ⟨rfl, o5⟩⟩
    · simp only at e5 w5 a5 o5
      (repeat (first | refine EK.seq ?_ | refine EK.region ?_ | refine ER.done ?_ | refine EK.skip ?_ | refine ER.move rfl rfl rfl ?_ | refine ER.assign rfl rfl rfl ?_ | refine ER.notB rfl rfl rfl ?_ | refine EK.condF rfl ?_ | refine EK.ret ?_))
      exact EU.ret2 rfl rfl rfl ⟨rfl, ((e5.trans e4).trans e3).trans e2, ((w5.trans w4).trans w3).trans w2, a5, .inr ⟨z, rfl, o5⟩⟩
    · simp only at e5 w5 a5 o5
      (repeat (first | refine EK.seq ?_ | refine EK.region ?_ | refine ER.done ?_ | refine ER.assign rfl rfl rfl ?_ | refine ER.notB rfl rfl rfl ?_ | refine EK.condT rfl ?_ | refine EK.ret ?_))
      exact EU.ret2 rfl rfl rfl ⟨rfl, ((e5.trans e4).trans e3).trans e2, ((w5.trans w4).trans w3).trans w2, a5, .inl ⟨2, rfl, by decide, o5⟩⟩
  · have hz : q - p <= 0 := by omega
    (repeat (first | refine EK.seq ?_ | refine EK.region ?_ | refine ER.done ?_ | refine ER.assign rfl rfl rfl ?_ | refine ER.cmpT rfl rfl rfl rfl rfl (by first | (dsimp only [cmpP]; omega) | exact rfl | exact Int.le_refl _) ?_ | refine EK.condT rfl ?_ | refine EK.ret ?_))
    exact EU.ret2 rfl rfl rfl ⟨rfl, e3.trans e2, w3.trans w2, a3, .inl ⟨0, rfl, by decide, o3.less (by omega)⟩⟩
end
end
section
open Go Go.TJ Go.Proofs
variable [Dm]
structure Ke where
  vN : Nat
  vM : Nat
  vD : Nat
  vL : Nat
  vE : Nat
  sb : Nat
  rb : Nat
  cap : Nat
structure KE (c : Dc) (q : Ke) (h : Hp) : Prop where
  N : hcell h ⟨q.vN, 0, none⟩ = some (.int .i64 c.n)
  M : hcell h ⟨q.vM, 0, none⟩ = some (.int .i64 c.m)
  D : hcell h ⟨q.vD, 0, none⟩ = some (.pointer (some ⟨q.sb, 0, none⟩))
  L : hcell h ⟨q.vL, 0, none⟩ = some (.slice (some ⟨c.pb, 0, none⟩) (c.n + 1) (c.n + 1))
  E : hcell h ⟨q.vE, 0, none⟩ = some (.pointer (some ⟨c.B (4 + c.L), 0, none⟩))
  K : KQ c q.sb q.rb q.cap h
theorem KE.upd {c : Dc} {q : Ke} {h h' : Hp} (m : KE c q h) (u : Upd (fun _ => False) h h') : KE c q h' where
  N := u.hcell m.N fun z => z
  M := u.hcell m.M fun z => z
  D := u.hcell m.D fun z => z
  L := u.hcell m.L fun z => z
  E := u.hcell m.E fun z => z
  K := ⟨u.hcell m.K.t fun z => z, u.hcell m.K.b fun z => z, u.hcell m.K.s fun z => z, fun k hk => u.hcell (m.K.r k hk) fun z => z⟩
section
variable {h : Hp} {δ : Ix (Gf Dy)} {i : Nat} {c : Dc} {po : List Int} {bd : Nat} {sq : Value} {y : Dy}
theorem mem_e (hc : y.c = c) : c.B (4 + c.L) ∈ dL.cls y := by rw [<- hc]; exact d_cls (by omega) (by omega)
theorem own_pd (o : OwnD i c po bd sq y) (i0 : 0 < i) (hi : i <= c.n + 1) : dL.arrT y c.pb = some c.tS /\ (dL.arr y c.pb)[0 + ((i - 1 : Nat) : Int).toNat * 1]? = some sq /\ dL.may y i ⟨c.pb, 0 + ((i - 1 : Nat) : Int).toNat * 1, none⟩ true := by
  have e : 0 + ((i - 1 : Nat) : Int).toNat * 1 = i - 1 := by simp
  have ec := o.cc
  rw [e]
  refine ⟨?_, ?_, .inl (by rw [ec]), i0, rfl⟩
  · show (if c.pb = y.c.pb then some y.c.tS else _) = _
    rw [ec, if_pos rfl]
  · show (if c.pb = y.c.pb then _ else _ : Array Value)[i - 1]? = _
    rw [ec, if_pos rfl, range_get (by omega), o.sq]
theorem mv_pd (o : OwnD i c po bd sq y) (hJ : Dj y) (i0 : 0 < i) (v : Value) : AMove dL i c.pb (0 + ((i - 1 : Nat) : Int).toNat * 1) v y (dqY y i v) := by
  have e : 0 + ((i - 1 : Nat) : Int).toNat * 1 = i - 1 := by simp
  have := dq_move (v := v) hJ i0
  rw [o.cc] at this
  rw [e]; exact this
theorem OwnD.setQ (o : OwnD i c po bd sq y) (v : Value) : OwnD i c po bd v (dqY y i v) := ⟨o.cc, o.ln, o.po, o.bd, u1_same⟩
theorem app1_ok {h' h5 h6 : Hp} {s1 v : Value} {l1 : List Int} {N : Nat} {o : Obj} {z : Int} (u : Upd (fun _ => False) h h') (x1 : SliceO h' s1 2 1 l1.length (l1.map intv)) (b1 : ∀ b, blk s1 = some b -> h.size <= b) (hN : h'.size <= N) (e5 : h5 = (padTo h' N).push o)
    (x6 : SliceO h6 v 2 1 (l1.length + 1) (l1.map intv ++ [intv z])) (u6 : Upd (fun b => blk s1 = some b) h5 h6) (b6 : ∀ b, blk v = some b -> blk s1 = some b \/ h5.size <= b) :
    Upd (fun _ => False) h h6 /\ SliceO h6 v 2 1 (l1 ++ [z]).length ((l1 ++ [z]).map intv) /\ True /\ (∀ b, blk v = some b -> h.size <= b) /\ True := by
  obtain ⟨r1, r2, _, r4, _⟩ := app_ok (s2 := nilS) (l2 := []) u x1 SliceO.nil b1 (fun b _ z => (by cases z)) hN e5 x6 u6 b6
  exact ⟨r1, r2, trivial, r4, trivial⟩
structure WD (i : Nat) (c : Dc) (h : Hp) (d wg bd : Nat) (po : List Int) (sq : Value) (h' : Hp) (δ' : Ix (Gf Dy)) : Prop where
  d : δ'.d = d
  wg : δ'.g.wg = wg
  a : Idle dL i δ'.g
  o : OwnD i c po bd sq δ'.g.y
  u : Upd (fun _ => False) h h'
  s : SliceO h' sq 2 1 po.length (po.map intv)
  b : ∀ b, blk sq = some b -> h.size <= b
theorem WD.step {d wg bd' : Nat} {h' : Hp} {δ' δ2 : Ix (Gf Dy)} (W : WD i c h d wg bd po sq h' δ') (e : δ2.d = d) (g : δ2.g.wg = wg) (a : Idle dL i δ2.g) (o : OwnD i c po bd' sq δ2.g.y) : WD i c h d wg bd' po sq h' δ2 := ⟨e, g, a, o, W.u, W.s, W.b⟩
def WQd (i : Nat) (c : Dc) (h : Hp) (d wg : Nat) : Value -> Hp -> Ix (Gf Dy) -> Prop := fun _ h' δ' => ∃ po bd sq, WD i c h d wg bd po sq h' δ' /\ (i = c.n + 1 -> ∃ bt, OwnO c bt c.m 0 δ'.g.y /\ bt <= δ'.g.y.tp)
structure LD where
  v : Nat
  bt : Nat
  po : List Int
  sq : Value
def envO (i : Nat) (q : Ke) (v : Nat) : Env := [(7, .int .i64 v), (0, .int .i64 ((i - 1 : Nat) : Int)), (1, .pointer (some ⟨q.vN, 0, none⟩)), (2, .pointer (some ⟨q.vM, 0, none⟩)), (3, .pointer (some ⟨q.vD, 0, none⟩)), (4, .pointer (some ⟨q.vL, 0, none⟩)), (5, .pointer (some ⟨q.vE, 0, none⟩))]
def envD (i : Nat) (q : Ke) : Env := [(0, .int .i64 ((i - 1 : Nat) : Int)), (3, .pointer (some ⟨q.vD, 0, none⟩)), (4, .pointer (some ⟨q.vL, 0, none⟩)), (5, .pointer (some ⟨q.vE, 0, none⟩))]
def envT (i : Nat) (q : Ke) (k : Nat) : Env := [(14, .int .i64 k), (0, .int .i64 ((i - 1 : Nat) : Int)), (3, .pointer (some ⟨q.vD, 0, none⟩)), (4, .pointer (some ⟨q.vL, 0, none⟩)), (5, .pointer (some ⟨q.vE, 0, none⟩))]
set_option maxRecDepth 8000 in
set_option maxHeartbeats 16000000 in
theorem thief_ok {q : Ke} (hA : Idle dL i δ.g) (hi : i <= c.n) (hn7 : c.n <= 7) (hL : c.L = 2 ^ c.e) (he : 1 <= c.e /\ c.e <= 12) (mem : KE c q h) (htop : c.top <= h.size) (hro : ∀ b, c.ro b -> b < c.top) (ho : OwnD i c [] 1000 (.slice none 0 0) δ.g.y) :
    CallW Try.prog false (SitW Try.prog (XF TT dL) i) 19 #[.int .i64 ((i - 1 : Nat) : Int), .pointer (some ⟨q.vN, 0, none⟩), .pointer (some ⟨q.vM, 0, none⟩), .pointer (some ⟨q.vD, 0, none⟩), .pointer (some ⟨q.vL, 0, none⟩), .pointer (some ⟨q.vE, 0, none⟩)] h δ (Ret (WQd i c h δ.d δ.g.wg)) := by
  have i0 := hA.i0
  have hi1 : i <= c.n + 1 := by omega
  have hvN := mem.N
  have hne : ((i - 1 : Nat) : Int) ≠ c.n := by omega
  refine CallW.start (n := 109) rfl rfl ?_
  (repeat (first | refine EK.seq ?_ | refine EK.region ?_ | refine ER.done ?_ | refine EK.skip ?_ | refine EK.block ?_ | refine ER.move rfl rfl rfl ?_ | refine ER.assign rfl rfl rfl ?_ | refine ER.cmpF rfl rfl rfl rfl rfl (by first | (dsimp only [cmpP]; omega) | exact rfl | exact Int.le_refl _) ?_ | refine EK.condF rfl ?_ | refine ER.load1 rfl rfl rfl (by assumption) ?_))
  refine EK.loopInv (fun s : LD => envT i q s.v) (fun s h' δ' => s.v <= 1000 /\ WD i c h δ.d δ.g.wg (1000 - s.v) s.po s.sq h' δ') (fun s => 1000 - s.v) ⟨0, 0, [], .slice none 0 0⟩ ⟨rfl, rfl, rfl, rfl, rfl, trivial⟩ ⟨Nat.zero_le _, rfl, rfl, hA, ho, Upd.refl _ _, SliceO.nil, fun b hb => (by cases hb)⟩ ?_
  rintro ⟨k, _, po, sq⟩ h1 ⟨d1, γ1⟩ ⟨hk, W⟩ again
  dsimp only [envT] at hk W again ⊢
  have e1 := W.d
  have w1 := W.wg
  have a1 := W.a
  have o1 := W.o
  simp only at e1 w1 a1 o1
  have m1 := mem.upd W.u
  have mD := m1.D
  have mL := m1.L
  have mE := m1.E
  have fin : WQd i c h δ.d δ.g.wg (.tuple #[]) h1 ⟨d1, γ1⟩ := ⟨_, _, _, W, fun e => absurd e (by omega)⟩
  rcases Nat.lt_or_ge k 1000 with hlt | hge
  · (repeat (first | refine EK.seq ?_ | refine EK.region ?_ | refine ER.move rfl rfl rfl ?_ | refine ER.cmpT rfl rfl rfl rfl rfl (by first | (dsimp only [cmpP]; omega) | exact rfl | exact Int.le_refl _) ?_ | refine ER.load1 rfl rfl rfl (by assumption) ?_))
    refine ER.callR rfl rfl rfl rfl rfl (cload_f (F := fun v y => ∃ z, v = .int .i64 z /\ OwnD i c po (1000 - k) sq y) dL_ok a1 (b := c.B (4 + c.L)) (mem_e o1.cc) fun y₁ q1 j1 => ⟨y₁, LMove.none dL_ok j1, _, rfl, o1.rel i0 q1⟩) ?_
    rintro v h2 ⟨d2, γ2⟩ ⟨rfl, e2, w2, a2, z, rfl, o2⟩
    simp only at e2 w2 a2 o2
    by_cases hz : z = 0
    · (repeat (first | refine EK.seq ?_ | refine EK.region ?_ | refine ER.done ?_ | refine EK.skip ?_ | refine EK.block ?_ | refine ER.pickT rfl rfl rfl rfl ?_ | refine ER.cmpT rfl rfl rfl rfl rfl (by first | (dsimp only [cmpP]; omega) | exact rfl | exact Int.le_refl _) ?_ | refine EK.condT rfl ?_ | refine ER.load1 rfl rfl rfl (by assumption) ?_))
      refine ER.callR rfl rfl rfl rfl rfl (steal_d a2 hi o2 (by omega) hL he m1.K) ?_
      rintro v h3 ⟨d3, γ3⟩ ⟨rfl, e3, w3, a3, ⟨how, rfl, hh, o3⟩ | ⟨u, rfl, o3⟩⟩
      · simp only at e3 w3 a3 o3
        (repeat (first | refine EK.seq ?_ | refine EK.region ?_ | refine ER.done ?_ | refine EK.skip ?_ | refine EK.inBlock ?_ | refine ER.move rfl rfl rfl ?_ | refine ER.assign rfl rfl rfl ?_ | refine ER.extract rfl rfl rfl rfl ?_ | refine ER.cmpF rfl rfl rfl rfl rfl (by first | (dsimp only [cmpP]; omega) | exact rfl | exact Int.le_refl _) ?_ | refine ER.add (kd := .i64) rfl rfl rfl rfl (i64_in (by omega) (by omega)) ?_ | refine EK.condF rfl ?_))
        refine EK.back (again ⟨k + 1, 0, po, sq⟩ _ _ (by dsimp only; omega) ⟨hlt, W.step ((e3.trans e2).trans e1) ((w3.trans w2).trans w1) a3 (o3.less (by dsimp only; omega))⟩) ⟨rfl, rfl, rfl, rfl, rfl, trivial⟩
      · simp only at e3 w3 a3 o3
        have hlp := o1.ln
        have zL : ¬ blk sq = some q.vL := fun z => by
          have hz : h.size <= q.vL := W.b _ z
          obtain ⟨_, _, _, hb, _⟩ := hcell_some mem.L
          have : q.vL < h.size := lt_of_get hb
          omega
        (repeat (first | refine EK.seq ?_ | refine EK.region ?_ | refine ER.done ?_ | refine ER.move rfl rfl rfl ?_ | refine ER.assign rfl rfl rfl ?_ | refine ER.extract rfl rfl rfl rfl ?_ | refine ER.cmpT rfl rfl rfl rfl rfl (by first | (dsimp only [cmpP]; omega) | exact rfl | exact Int.le_refl _) ?_ | refine EK.condT rfl ?_))
        refine EK.regionAny (fun h' => hcell h' ⟨q.vL, 0, none⟩ = some (.slice (some ⟨c.pb, 0, none⟩) (c.n + 1) (c.n + 1))) ?_ (hDu := a3.at.nd)
        have hZ : hcell h3 ⟨q.vL, 0, none⟩ = some (.slice (some ⟨c.pb, 0, none⟩) (c.n + 1) (c.n + 1)) := mL
        refine EA.tLoad 0 rfl (by kernel_rfl) rfl rfl rfl rfl (fun _ hz => hz) hZ ?_
        refine EA.tMove 1 rfl (by kernel_rfl) rfl rfl rfl rfl hZ ?_
        refine EA.tLoad 2 rfl (by kernel_rfl) rfl rfl rfl rfl (fun _ hz => hz) hZ ?_
        refine EA.tMove 3 rfl (by kernel_rfl) rfl rfl rfl rfl hZ ?_
        refine EA.tIdxS 4 rfl (by kernel_rfl) rfl rfl rfl rfl rfl (by omega) (by omega) hZ ?_
        refine EA.tMove 6 rfl (by kernel_rfl) rfl rfl rfl rfl hZ ?_
        have hZp : ∀ N, h3.size <= N -> hcell ((padTo h3 N).push (.cells #[.int .i64 (u)] 2)) ⟨q.vL, 0, none⟩ = some (.slice (some ⟨c.pb, 0, none⟩) (c.n + 1) (c.n + 1)) := fun N hN => ((Upd.pad (fun _ => False) hN).trans (Upd.push _ _)).hcell hZ fun z => z
        refine EA.both 5 7 (fun vi vj h5 δ5 => vi = sq /\ (∃ N, h3.size <= N /\ vj = .slice (some ⟨N, 0, none⟩) 1 1 /\ h5 = (padTo h3 N).push (.cells #[.int .i64 (u)] 2)) /\ δ5.d = δ.d /\ δ5.g.wg = δ.g.wg /\ Idle dL i δ5.g /\ OwnD i c (po ++ [u]) (1000 - k - 1) sq δ5.g.y) rfl rfl (by kernel_rfl) rfl rfl (by kernel_rfl) (by kernel_rfl) rfl (by kernel_rfl) rfl rfl rfl rfl rfl rfl (by decide) (fun ρ hρ => ?_) (fun ρ hρ => ?_) ?_
        · refine ⟨fun v h4 δ4 => h4 = h3 /\ δ4.d = δ.d /\ δ4.g.wg = δ.g.wg /\ Idle dL i δ4.g /\ v = sq /\ OwnD i c (po ++ [u]) (1000 - k - 1) sq δ4.g.y, yields_loadA dL_ok (hρ _ _ rfl) a3 fun γ4 hR a4 j4 => ?_, ?_⟩
          · have o4 := o3.rel i0 hR.toRo.lrel
            obtain ⟨f1, f2, f3⟩ := own_pd o4 i0 hi1
            exact ⟨_, _, _, f1, f2, f3, rfl, ((e3.trans e2).trans e1), hR.wg.trans ((w3.trans w2).trans w1), a4, rfl, o4⟩
          rintro v h4 ⟨d4, γ4⟩ ⟨rfl, e4, w4, a4, rfl, o4⟩
          simp only at e4 w4 a4 o4
          refine ⟨hZ, fun ρ' hρ' => ⟨_, yields_build (e := 2) (sz := 1) (z := .int .i64 0) (cells := #[.int .i64 (u)]) (parts := [(0, .int .i64 (u))]) (fun _ => idle_fin a4) hρ' rfl (by omega) (by omega) rfl rfl, ?_⟩⟩
          rintro v h5 δ5 ⟨rfl, N, hN, rfl, rfl⟩
          exact ⟨hZp N hN, rfl, ⟨N, hN, rfl, rfl⟩, e4, w4, a4, o4⟩
        · refine ⟨_, yields_build (e := 2) (sz := 1) (z := .int .i64 0) (cells := #[.int .i64 (u)]) (parts := [(0, .int .i64 (u))]) (fun _ => idle_fin a3) hρ rfl (by omega) (by omega) rfl rfl, ?_⟩
          rintro v h5 δ5 ⟨rfl, N, hN, rfl, rfl⟩
          refine ⟨hZp N hN, fun ρ' hρ' => ⟨fun v h4 δ4 => h4 = (padTo h3 N).push (.cells #[.int .i64 (u)] 2) /\ δ4.d = δ.d /\ δ4.g.wg = δ.g.wg /\ Idle dL i δ4.g /\ v = sq /\ OwnD i c (po ++ [u]) (1000 - k - 1) sq δ4.g.y, yields_loadA dL_ok (hρ' _ _ rfl) a3 fun γ4 hR a4 j4 => ?_, ?_⟩⟩
          · have o4 := o3.rel i0 hR.toRo.lrel
            obtain ⟨f1, f2, f3⟩ := own_pd o4 i0 hi1
            exact ⟨_, _, _, f1, f2, f3, rfl, ((e3.trans e2).trans e1), hR.wg.trans ((w3.trans w2).trans w1), a4, rfl, o4⟩
          rintro v h4 ⟨d4, γ4⟩ ⟨rfl, e4, w4, a4, rfl, o4⟩
          exact ⟨hZp N hN, rfl, ⟨N, hN, rfl, rfl⟩, e4, w4, a4, o4⟩
        rintro vi vj h5 ⟨d5, γ5⟩ ⟨evi, ⟨N, hN, rfl, e5h⟩, e5, w5, a5, o5⟩ hZ5
        replace evi := evi.symm
        subst evi
        simp only at e5 w5 a5 o5
        have u5 : Upd (fun _ => False) h3 h5 := by rw [e5h]; exact (Upd.pad _ hN).trans (Upd.push _ _)
        have hro5 : ∀ b, blk sq = some b -> ¬ ((XF TT dL).cf γ5).ro b := fun b hb z => by
          have z' : γ5.y.c.ro b := z.2.1
          rw [o5.cc] at z'
          have := hro b z'
          have := (fun b hb => Nat.le_trans htop (W.b b hb) : ∀ b, blk sq = some b -> c.top <= b) b hb
          omega
        refine EA.onlyH 8 rfl (by kernel_rfl) rfl rfl rfl (.inl ⟨_, rfl, rfl⟩) fun ρ hρ => ⟨_, yields_append (e := 2) (sz := 1) (new := [intv (u)]) (fun _ => idle_fin a5) (hρ _ _ rfl) (hρ _ _ rfl) (W.s.upd u5 fun _ _ z => z) rfl (by rw [e5h]; exact mk_new hN) rfl (by simp [OneCell, intv]) (by omega) (by omega) rfl hro5, ?_⟩
        rintro v h6 δ6 ⟨rfl, x6, u6, b6⟩
        obtain ⟨r1, r2, r3, r4, r5⟩ := app1_ok W.u W.s W.b hN e5h x6 u6 b6
        clear hZp hZ hro5
        have hZ := u6.hcell hZ5 zL
        refine ⟨.inr hZ, ?_⟩
        obtain ⟨va, vcap, rfl⟩ := x6.val
        refine EA.tIdxS 9 rfl (by kernel_rfl) rfl rfl rfl rfl rfl (by omega) (by omega) hZ ?_
        refine EA.onlyH 10 rfl (by kernel_rfl) rfl rfl rfl (.inr rfl) fun ρ hρ => ⟨fun _ h7 δ7 => h7 = h6 /\ δ7.d = δ.d /\ δ7.g.wg = δ.g.wg /\ Idle dL i δ7.g /\ OwnD i c (po ++ [u]) (1000 - k - 1) (.slice va (po.length + 1) vcap) δ7.g.y, yields_storeA dL_ok (hρ _ _ rfl) (hρ _ _ rfl) (by simp [OneCell]) a5 fun γ7 hR a7 j7 => ?_, ?_⟩
        · have o4 := o5.rel i0 hR.toRo.lrel
          have j4 := j7
          obtain ⟨f1, f2, f3⟩ := own_pd o4 i0 hi1
          exact ⟨_, _, _, f1, f2, f3, mv_pd o4 j4 i0 _, fun γ8 y8 w8 a8 => ⟨rfl, e5, w8.trans w5, a8, by rw [y8]; exact o4.setQ _⟩⟩
        rintro v h7 ⟨d7, γ7⟩ ⟨rfl, e7, w7, a7, o7⟩
        simp only at e7 w7 a7 o7
        refine ⟨.inr hZ, EA.done (by kernel_rfl) ?_⟩
        clear hZ
        (repeat (first | refine EK.region ?_ | refine ER.done ?_ | refine EK.inBlock ?_ | refine ER.move rfl rfl rfl ?_ | refine ER.assign rfl rfl rfl ?_ | refine ER.add (kd := .i64) rfl rfl rfl rfl (i64_in (by omega) (by omega)) ?_))
        exact EK.back (again ⟨k + 1, 0, po ++ [u], .slice va (po.length + 1) vcap⟩ _ _ (by dsimp only; omega) ⟨hlt, ⟨e7, w7, a7, o7.less (by dsimp only; omega), r1, r2, r4⟩⟩) ⟨rfl, rfl, rfl, rfl, rfl, trivial⟩
    · (repeat (first | refine ER.done ?_ | refine ER.pickT rfl rfl rfl rfl ?_ | refine ER.cmpF rfl rfl rfl rfl rfl (by first | (dsimp only [cmpP]; omega) | exact rfl | exact Int.le_refl _) ?_ | refine EK.condF rfl ?_ | refine EK.exit rfl ?_))
      exact EK.done (EU.ret0 rfl ⟨_, _, _, W.step (e2.trans e1) (w2.trans w1) a2 o2, fun e => absurd e (by omega)⟩)
  · (repeat (first | refine EK.seq ?_ | refine EK.region ?_ | refine ER.done ?_ | refine ER.move rfl rfl rfl ?_ | refine ER.no rfl rfl ?_ | refine ER.pickF rfl rfl rfl rfl ?_ | refine ER.cmpF rfl rfl rfl rfl rfl (by first | (dsimp only [cmpP]; omega) | exact rfl | exact Int.le_refl _) ?_ | refine EK.condF rfl ?_ | refine EK.exit rfl ?_))
    exact EK.done (EU.ret0 rfl fin)
end
end
section
open Go Go.TJ Go.Proofs
variable [Dm]
section
variable {h : Hp} {δ : Ix (Gf Dy)} {i : Nat} {c : Dc} {po : List Int} {bd bt np tl : Nat} {sq : Value} {y y' : Dy}
structure OwnX (i : Nat) (c : Dc) (po : List Int) (bd : Nat) (sq : Value) (bt np tl : Nat) (y : Dy) : Prop where
  hi : i = c.n + 1
  d : OwnD i c po bd sq y
  o : OwnO c bt np 0 y
  t : tl <= y.tp
theorem OwnX.cc (o : OwnX i c po bd sq bt np tl y) : y.c = c := o.d.cc
theorem OwnX.rel (o : OwnX i c po bd sq bt np tl y) (h0 : 0 < i) (r : LRel dL i y y') : OwnX i c po bd sq bt np tl y' := ⟨o.hi, o.d.rel h0 r, o.o.rel o.d.cc o.hi r, Nat.le_trans o.t (show Dr i _ y' from r.law).tp⟩
theorem OwnX.setQ (o : OwnX i c po bd sq bt np tl y) (v : Value) : OwnX i c po bd v bt np tl (dqY y i v) := ⟨o.hi, o.d.setQ v, ⟨o.o.vb, o.o.bt, o.o.np, o.o.ow⟩, o.t⟩
structure LO where
  room : Bool
  bt : Nat
  po : List Int
  sq : Value
set_option maxRecDepth 8000 in
set_option maxHeartbeats 32000000 in
theorem owner_ok {q : Ke} (hA : Idle dL i δ.g) (hi : i = c.n + 1) (hn7 : c.n <= 7) (hm : c.m <= 1000) (hL : c.L = 2 ^ c.e) (he : 1 <= c.e /\ c.e <= 12) (mem : KE c q h) (htop : c.top <= h.size) (hro : ∀ b, c.ro b -> b < c.top) (ho : OwnD i c [] (8 * c.m + 3007) (.slice none 0 0) δ.g.y) (oo : OwnO c 0 0 0 δ.g.y) :
    CallW Try.prog false (SitW Try.prog (XF TT dL) i) 19 #[.int .i64 ((i - 1 : Nat) : Int), .pointer (some ⟨q.vN, 0, none⟩), .pointer (some ⟨q.vM, 0, none⟩), .pointer (some ⟨q.vD, 0, none⟩), .pointer (some ⟨q.vL, 0, none⟩), .pointer (some ⟨q.vE, 0, none⟩)] h δ (Ret (WQd i c h δ.d δ.g.wg)) := by
  have i0 := hA.i0
  have hi1 : i <= c.n + 1 := by omega
  have L2 : 2 <= c.L := by rw [hL]; exact Nat.pow_le_pow_right (n := 2) (by decide) he.1
  have hvN := mem.N
  have hne : ((i - 1 : Nat) : Int) = c.n := by omega
  refine CallW.start (n := 109) rfl rfl ?_
  (repeat (first | refine EK.seq ?_ | refine EK.region ?_ | refine ER.done ?_ | refine EK.block ?_ | refine ER.move rfl rfl rfl ?_ | refine ER.assign rfl rfl rfl ?_ | refine ER.cmpT rfl rfl rfl rfl rfl (by first | (dsimp only [cmpP]; omega) | exact rfl | exact Int.le_refl _) ?_ | refine EK.condT rfl ?_ | refine ER.load1 rfl rfl rfl (by assumption) ?_))
  refine EK.loopInv (fun s : LD => envO i q s.v) (fun s h' δ' => 1 <= s.v /\ s.v <= c.m + 1 /\ WD i c h δ.d δ.g.wg (8 * (c.m + 1 - s.v) + 3007) s.po s.sq h' δ' /\ OwnO c s.bt (s.v - 1) 0 δ'.g.y) (fun s => c.m + 1 - s.v) ⟨1, 0, [], .slice none 0 0⟩ ⟨rfl, rfl, rfl, rfl, rfl, rfl, rfl, trivial⟩ ⟨Nat.le_refl _, by dsimp only; omega, ⟨rfl, rfl, hA, ho.less (by dsimp only; omega), Upd.refl _ _, SliceO.nil, fun b hb => (by cases hb)⟩, oo⟩ ?_
  rintro ⟨u0, bt, po, sq⟩ h1 ⟨d1, γ1⟩ ⟨hv1, hv, W, o1⟩ again
  dsimp only [envO] at hv1 hv W o1 again ⊢
  rcases Nat.lt_or_ge u0 (c.m + 1) with hlt | hge
  · have mM := (mem.upd W.u).M
    (repeat (first | refine EK.seq ?_ | refine EK.region ?_ | refine ER.done ?_ | refine EK.skip ?_ | refine EK.block ?_ | refine ER.move rfl rfl rfl ?_ | refine ER.cmpT rfl rfl rfl rfl rfl (by first | (dsimp only [cmpP]; omega) | exact rfl | exact Int.le_refl _) ?_ | refine EK.condT rfl ?_ | refine ER.load1 rfl rfl rfl (by assumption) ?_))
    refine EK.loopInv (fun _ : LO => envO i q u0) (fun s h' δ' => WD i c h δ.d δ.g.wg (8 * (c.m + 1 - u0) + 3007 - (if s.room then 3 else 0)) s.po s.sq h' δ' /\ OwnO c s.bt (u0 - 1) 0 δ'.g.y /\ (s.room = true -> s.bt < δ'.g.y.tp + c.L)) (fun s => if s.room then 0 else 1) ⟨false, bt, po, sq⟩ ⟨rfl, rfl, rfl, rfl, rfl, rfl, rfl, trivial⟩ ⟨W, o1, fun e => (by cases e)⟩ ?_
    clear W o1 mM
    rintro ⟨room, bt, po, sq⟩ h1 ⟨d1, γ1⟩ ⟨W, oo1, hr1⟩ again2
    dsimp only [envO] at W oo1 hr1 again2 ⊢
    have e1 := W.d
    have w1 := W.wg
    have a1 := W.a
    have o1 := W.o
    simp only at e1 w1 a1 o1
    have m1 := mem.upd W.u
    have mD := m1.D
    have mL := m1.L
    have rb : (if room then 3 else 0) <= 3 := by cases room <;> decide
    (repeat (first | refine EK.seq ?_ | refine EK.region ?_ | refine ER.move rfl rfl rfl ?_ | refine ER.load1 rfl rfl rfl (by assumption) ?_))
    refine ER.callR rfl rfl rfl rfl rfl (push_d (room := room) (w := u0) a1 hi o1 oo1 (by omega) hL he (by omega) (by omega) hr1 m1.K) ?_
    rintro x h2 ⟨d2, γ2⟩ ⟨rfl, e2, w2, a2, ⟨rfl, rfl, o2, oo2⟩ | ⟨rfl, o2, oo2⟩⟩
    · simp only at e2 w2 a2 o2 oo2
      (repeat (first | refine EK.seq ?_ | refine EK.region ?_ | refine ER.done ?_ | refine EK.skip ?_ | refine EK.block ?_ | refine ER.cmpT rfl rfl rfl rfl rfl (by first | (dsimp only [cmpP]; omega) | exact rfl | exact Int.le_refl _) ?_ | refine EK.condT rfl ?_ | refine ER.load1 rfl rfl rfl (by assumption) ?_))
      refine ER.callR rfl rfl rfl rfl rfl (pop_d a2 hi o2 oo2 (by simp) hL he m1.K) ?_
      rintro x h3 ⟨d3, γ3⟩ ⟨rfl, e3, w3, a3, ⟨rfl, o3, oo3, t3⟩ | ⟨z, rfl, o3, bt', hb', oo3, t3⟩⟩
      · simp only at e3 w3 a3 o3 oo3 t3
        (repeat (first | refine EK.seq ?_ | refine EK.region ?_ | refine ER.done ?_ | refine EK.skip ?_ | refine EK.inBlock ?_ | refine ER.move rfl rfl rfl ?_ | refine ER.assign rfl rfl rfl ?_ | refine ER.extract rfl rfl rfl rfl ?_ | refine EK.condF rfl ?_))
        exact EK.back (again2 ⟨true, bt, po, sq⟩ _ _ (by simp) ⟨W.step ((e3.trans e2).trans e1) ((w3.trans w2).trans w1) a3 (o3.less (by simp)), oo3, fun _ => Nat.lt_of_le_of_lt t3 (Nat.lt_add_of_pos_right (by omega))⟩) ⟨rfl, rfl, rfl, rfl, rfl, rfl, rfl, trivial⟩
      · simp only at e3 w3 a3 o3 oo3 t3
        have hlp := o1.ln
        have ox : OwnX i c (po ++ [z]) (8 * (c.m + 1 - u0) + 3007 - 3) sq bt' (u0 - 1) γ3.y.tp γ3.y := ⟨hi, o3.less (by simp), oo3, Nat.le_refl _⟩
        have zL : ¬ blk sq = some q.vL := fun z => by
          have hz : h.size <= q.vL := W.b _ z
          obtain ⟨_, _, _, hb, _⟩ := hcell_some mem.L
          have : q.vL < h.size := lt_of_get hb
          omega
        (repeat (first | refine EK.seq ?_ | refine EK.region ?_ | refine ER.done ?_ | refine ER.move rfl rfl rfl ?_ | refine ER.assign rfl rfl rfl ?_ | refine ER.extract rfl rfl rfl rfl ?_ | refine EK.condT rfl ?_))
        refine EK.regionAny (fun h' => hcell h' ⟨q.vL, 0, none⟩ = some (.slice (some ⟨c.pb, 0, none⟩) (c.n + 1) (c.n + 1))) ?_ (hDu := a3.at.nd)
        have hZ : hcell h3 ⟨q.vL, 0, none⟩ = some (.slice (some ⟨c.pb, 0, none⟩) (c.n + 1) (c.n + 1)) := mL
        refine EA.tLoad 0 rfl (by kernel_rfl) rfl rfl rfl rfl (fun _ hz => hz) hZ ?_
        refine EA.tMove 1 rfl (by kernel_rfl) rfl rfl rfl rfl hZ ?_
        refine EA.tLoad 2 rfl (by kernel_rfl) rfl rfl rfl rfl (fun _ hz => hz) hZ ?_
        refine EA.tMove 3 rfl (by kernel_rfl) rfl rfl rfl rfl hZ ?_
        refine EA.tIdxS 4 rfl (by kernel_rfl) rfl rfl rfl rfl rfl (by omega) (by omega) hZ ?_
        refine EA.tMove 6 rfl (by kernel_rfl) rfl rfl rfl rfl hZ ?_
        have hZp : ∀ N, h3.size <= N -> hcell ((padTo h3 N).push (.cells #[.int .i64 (z)] 2)) ⟨q.vL, 0, none⟩ = some (.slice (some ⟨c.pb, 0, none⟩) (c.n + 1) (c.n + 1)) := fun N hN => ((Upd.pad (fun _ => False) hN).trans (Upd.push _ _)).hcell hZ fun z => z
        refine EA.both 5 7 (fun vi vj h5 δ5 => vi = sq /\ (∃ N, h3.size <= N /\ vj = .slice (some ⟨N, 0, none⟩) 1 1 /\ h5 = (padTo h3 N).push (.cells #[.int .i64 (z)] 2)) /\ δ5.d = δ.d /\ δ5.g.wg = δ.g.wg /\ Idle dL i δ5.g /\ OwnX i c (po ++ [z]) (8 * (c.m + 1 - u0) + 3007 - 3) sq bt' (u0 - 1) γ3.y.tp δ5.g.y) rfl rfl (by kernel_rfl) rfl rfl (by kernel_rfl) (by kernel_rfl) rfl (by kernel_rfl) rfl rfl rfl rfl rfl rfl (by decide) (fun ρ hρ => ?_) (fun ρ hρ => ?_) ?_
        · refine ⟨fun v h4 δ4 => h4 = h3 /\ δ4.d = δ.d /\ δ4.g.wg = δ.g.wg /\ Idle dL i δ4.g /\ v = sq /\ OwnX i c (po ++ [z]) (8 * (c.m + 1 - u0) + 3007 - 3) sq bt' (u0 - 1) γ3.y.tp δ4.g.y, yields_loadA dL_ok (hρ _ _ rfl) a3 fun γ4 hR a4 j4 => ?_, ?_⟩
          · have o4 := ox.rel i0 hR.toRo.lrel
            obtain ⟨f1, f2, f3⟩ := own_pd o4.d i0 hi1
            exact ⟨_, _, _, f1, f2, f3, rfl, ((e3.trans e2).trans e1), hR.wg.trans ((w3.trans w2).trans w1), a4, rfl, o4⟩
          rintro v h4 ⟨d4, γ4⟩ ⟨rfl, e4, w4, a4, rfl, o4⟩
          simp only at e4 w4 a4 o4
          refine ⟨hZ, fun ρ' hρ' => ⟨_, yields_build (e := 2) (sz := 1) (z := .int .i64 0) (cells := #[.int .i64 (z)]) (parts := [(0, .int .i64 (z))]) (fun _ => idle_fin a4) hρ' rfl (by omega) (by omega) rfl rfl, ?_⟩⟩
          rintro v h5 δ5 ⟨rfl, N, hN, rfl, rfl⟩
          exact ⟨hZp N hN, rfl, ⟨N, hN, rfl, rfl⟩, e4, w4, a4, o4⟩
        · refine ⟨_, yields_build (e := 2) (sz := 1) (z := .int .i64 0) (cells := #[.int .i64 (z)]) (parts := [(0, .int .i64 (z))]) (fun _ => idle_fin a3) hρ rfl (by omega) (by omega) rfl rfl, ?_⟩
          rintro v h5 δ5 ⟨rfl, N, hN, rfl, rfl⟩
          refine ⟨hZp N hN, fun ρ' hρ' => ⟨fun v h4 δ4 => h4 = (padTo h3 N).push (.cells #[.int .i64 (z)] 2) /\ δ4.d = δ.d /\ δ4.g.wg = δ.g.wg /\ Idle dL i δ4.g /\ v = sq /\ OwnX i c (po ++ [z]) (8 * (c.m + 1 - u0) + 3007 - 3) sq bt' (u0 - 1) γ3.y.tp δ4.g.y, yields_loadA dL_ok (hρ' _ _ rfl) a3 fun γ4 hR a4 j4 => ?_, ?_⟩⟩
          · have o4 := ox.rel i0 hR.toRo.lrel
            obtain ⟨f1, f2, f3⟩ := own_pd o4.d i0 hi1
            exact ⟨_, _, _, f1, f2, f3, rfl, ((e3.trans e2).trans e1), hR.wg.trans ((w3.trans w2).trans w1), a4, rfl, o4⟩
          rintro v h4 ⟨d4, γ4⟩ ⟨rfl, e4, w4, a4, rfl, o4⟩
          exact ⟨hZp N hN, rfl, ⟨N, hN, rfl, rfl⟩, e4, w4, a4, o4⟩
        rintro vi vj h5 ⟨d5, γ5⟩ ⟨evi, ⟨N, hN, rfl, e5h⟩, e5, w5, a5, o5⟩ hZ5
        replace evi := evi.symm
        subst evi
        simp only at e5 w5 a5 o5
        have u5 : Upd (fun _ => False) h3 h5 := by rw [e5h]; exact (Upd.pad _ hN).trans (Upd.push _ _)
        have hro5 : ∀ b, blk sq = some b -> ¬ ((XF TT dL).cf γ5).ro b := fun b hb z => by
          have z' : γ5.y.c.ro b := z.2.1
          rw [o5.cc] at z'
          have := hro b z'
          have := (fun b hb => Nat.le_trans htop (W.b b hb) : ∀ b, blk sq = some b -> c.top <= b) b hb
          omega
        refine EA.onlyH 8 rfl (by kernel_rfl) rfl rfl rfl (.inl ⟨_, rfl, rfl⟩) fun ρ hρ => ⟨_, yields_append (e := 2) (sz := 1) (new := [intv (z)]) (fun _ => idle_fin a5) (hρ _ _ rfl) (hρ _ _ rfl) (W.s.upd u5 fun _ _ z => z) rfl (by rw [e5h]; exact mk_new hN) rfl (by simp [OneCell, intv]) (by omega) (by omega) rfl hro5, ?_⟩
        rintro v h6 δ6 ⟨rfl, x6, u6, b6⟩
        obtain ⟨r1, r2, r3, r4, r5⟩ := app1_ok W.u W.s W.b hN e5h x6 u6 b6
        clear hZp hZ hro5
        have hZ := u6.hcell hZ5 zL
        refine ⟨.inr hZ, ?_⟩
        obtain ⟨va, vcap, rfl⟩ := x6.val
        refine EA.tIdxS 9 rfl (by kernel_rfl) rfl rfl rfl rfl rfl (by omega) (by omega) hZ ?_
        refine EA.onlyH 10 rfl (by kernel_rfl) rfl rfl rfl (.inr rfl) fun ρ hρ => ⟨fun _ h7 δ7 => h7 = h6 /\ δ7.d = δ.d /\ δ7.g.wg = δ.g.wg /\ Idle dL i δ7.g /\ OwnX i c (po ++ [z]) (8 * (c.m + 1 - u0) + 3007 - 3) (.slice va (po.length + 1) vcap) bt' (u0 - 1) γ3.y.tp δ7.g.y, yields_storeA dL_ok (hρ _ _ rfl) (hρ _ _ rfl) (by simp [OneCell]) a5 fun γ7 hR a7 j7 => ?_, ?_⟩
        · have o4 := o5.rel i0 hR.toRo.lrel
          have j4 := j7
          obtain ⟨f1, f2, f3⟩ := own_pd o4.d i0 hi1
          exact ⟨_, _, _, f1, f2, f3, mv_pd o4.d j4 i0 _, fun γ8 y8 w8 a8 => ⟨rfl, e5, w8.trans w5, a8, by rw [y8]; exact o4.setQ _⟩⟩
        rintro v h7 ⟨d7, γ7⟩ ⟨rfl, e7, w7, a7, o7⟩
        simp only at e7 w7 a7 o7
        refine ⟨.inr hZ, EA.done (by kernel_rfl) ?_⟩
        clear hZ
        (repeat refine EK.inBlock ?_)
        exact EK.back (again2 ⟨true, bt', po ++ [z], .slice va (po.length + 1) vcap⟩ _ _ (by simp) ⟨⟨e7, w7, a7, o7.d.less (by simp), r1, r2, r4⟩, o7.o, fun _ => Nat.lt_of_lt_of_le t3 (Nat.add_le_add_right o7.t _)⟩) ⟨rfl, rfl, rfl, rfl, rfl, rfl, rfl, trivial⟩
    · simp only at e2 w2 a2 o2 oo2
      clear again2
      rw [show u0 - 1 + 1 = u0 by omega] at oo2
      by_cases h5 : ((u0 : Nat) : Int).tmod 5 = 0
      · (repeat (first | refine EK.seq ?_ | refine EK.region ?_ | refine ER.done ?_ | refine ER.move rfl rfl rfl ?_ | refine ER.cmpT rfl rfl rfl rfl rfl (by first | (dsimp only [cmpP]; omega) | exact rfl | exact Int.le_refl _) ?_ | refine ER.cmpF rfl rfl rfl rfl rfl (by first | (dsimp only [cmpP]; omega) | exact rfl | exact Int.le_refl _) ?_ | refine ER.rem (kd := .i64) rfl rfl rfl rfl (by decide) rfl ?_ | refine EK.condT rfl ?_ | refine EK.condF rfl ?_ | refine EK.exit rfl ?_ | refine ER.load1 rfl rfl rfl (by assumption) ?_))
        refine ER.callR rfl rfl rfl rfl rfl (pop_d a2 hi o2 oo2 (by omega) hL he m1.K) ?_
        rintro x h3 ⟨d3, γ3⟩ ⟨rfl, e3, w3, a3, ⟨rfl, o3, oo3, t3⟩ | ⟨z, rfl, o3, bt', hb', oo3, t3⟩⟩
        · simp only at e3 w3 a3 o3 oo3 t3
          (repeat (first | refine EK.seq ?_ | refine EK.region ?_ | refine ER.done ?_ | refine EK.skip ?_ | refine EK.inBlock ?_ | refine ER.move rfl rfl rfl ?_ | refine ER.assign rfl rfl rfl ?_ | refine ER.extract rfl rfl rfl rfl ?_ | refine ER.add (kd := .i64) rfl rfl rfl rfl (i64_in (by omega) (by omega)) ?_ | refine EK.condF rfl ?_))
          exact EK.back (again ⟨u0 + 1, bt + 1, po, sq⟩ _ _ (by dsimp only; omega) ⟨by dsimp only; omega, by dsimp only; omega, W.step ((e3.trans e2).trans e1) ((w3.trans w2).trans w1) a3 (o3.less (by dsimp only; omega)), oo3⟩) ⟨rfl, rfl, rfl, rfl, rfl, rfl, rfl, trivial⟩
        · simp only at e3 w3 a3 o3 oo3 t3
          have hlp := o1.ln
          have ox : OwnX i c (po ++ [z]) (8 * (c.m + 1 - (u0 + 1)) + 3007) sq bt' u0 γ3.y.tp γ3.y := ⟨hi, o3.less (by omega), oo3, Nat.le_refl _⟩
          have zL : ¬ blk sq = some q.vL := fun z => by
            have hz : h.size <= q.vL := W.b _ z
            obtain ⟨_, _, _, hb, _⟩ := hcell_some mem.L
            have : q.vL < h.size := lt_of_get hb
            omega
          (repeat (first | refine EK.seq ?_ | refine EK.region ?_ | refine ER.done ?_ | refine ER.move rfl rfl rfl ?_ | refine ER.assign rfl rfl rfl ?_ | refine ER.extract rfl rfl rfl rfl ?_ | refine EK.condT rfl ?_))
          refine EK.regionAny (fun h' => hcell h' ⟨q.vL, 0, none⟩ = some (.slice (some ⟨c.pb, 0, none⟩) (c.n + 1) (c.n + 1))) ?_ (hDu := a3.at.nd)
          have hZ : hcell h3 ⟨q.vL, 0, none⟩ = some (.slice (some ⟨c.pb, 0, none⟩) (c.n + 1) (c.n + 1)) := mL
          refine EA.tLoad 0 rfl (by kernel_rfl) rfl rfl rfl rfl (fun _ hz => hz) hZ ?_
          refine EA.tMove 1 rfl (by kernel_rfl) rfl rfl rfl rfl hZ ?_
          refine EA.tLoad 2 rfl (by kernel_rfl) rfl rfl rfl rfl (fun _ hz => hz) hZ ?_
          refine EA.tMove 3 rfl (by kernel_rfl) rfl rfl rfl rfl hZ ?_
          refine EA.tIdxS 4 rfl (by kernel_rfl) rfl rfl rfl rfl rfl (by omega) (by omega) hZ ?_
          refine EA.tMove 6 rfl (by kernel_rfl) rfl rfl rfl rfl hZ ?_
          have hZp : ∀ N, h3.size <= N -> hcell ((padTo h3 N).push (.cells #[.int .i64 (z)] 2)) ⟨q.vL, 0, none⟩ = some (.slice (some ⟨c.pb, 0, none⟩) (c.n + 1) (c.n + 1)) := fun N hN => ((Upd.pad (fun _ => False) hN).trans (Upd.push _ _)).hcell hZ fun z => z
          refine EA.both 5 7 (fun vi vj h5 δ5 => vi = sq /\ (∃ N, h3.size <= N /\ vj = .slice (some ⟨N, 0, none⟩) 1 1 /\ h5 = (padTo h3 N).push (.cells #[.int .i64 (z)] 2)) /\ δ5.d = δ.d /\ δ5.g.wg = δ.g.wg /\ Idle dL i δ5.g /\ OwnX i c (po ++ [z]) (8 * (c.m + 1 - (u0 + 1)) + 3007) sq bt' u0 γ3.y.tp δ5.g.y) rfl rfl (by kernel_rfl) rfl rfl (by kernel_rfl) (by kernel_rfl) rfl (by kernel_rfl) rfl rfl rfl rfl rfl rfl (by decide) (fun ρ hρ => ?_) (fun ρ hρ => ?_) ?_
          · refine ⟨fun v h4 δ4 => h4 = h3 /\ δ4.d = δ.d /\ δ4.g.wg = δ.g.wg /\ Idle dL i δ4.g /\ v = sq /\ OwnX i c (po ++ [z]) (8 * (c.m + 1 - (u0 + 1)) + 3007) sq bt' u0 γ3.y.tp δ4.g.y, yields_loadA dL_ok (hρ _ _ rfl) a3 fun γ4 hR a4 j4 => ?_, ?_⟩
            · have o4 := ox.rel i0 hR.toRo.lrel
              obtain ⟨f1, f2, f3⟩ := own_pd o4.d i0 hi1
              exact ⟨_, _, _, f1, f2, f3, rfl, ((e3.trans e2).trans e1), hR.wg.trans ((w3.trans w2).trans w1), a4, rfl, o4⟩
            rintro v h4 ⟨d4, γ4⟩ ⟨rfl, e4, w4, a4, rfl, o4⟩
            simp only at e4 w4 a4 o4
            refine ⟨hZ, fun ρ' hρ' => ⟨_, yields_build (e := 2) (sz := 1) (z := .int .i64 0) (cells := #[.int .i64 (z)]) (parts := [(0, .int .i64 (z))]) (fun _ => idle_fin a4) hρ' rfl (by omega) (by omega) rfl rfl, ?_⟩⟩
            rintro v h5 δ5 ⟨rfl, N, hN, rfl, rfl⟩
            exact ⟨hZp N hN, rfl, ⟨N, hN, rfl, rfl⟩, e4, w4, a4, o4⟩
          · refine ⟨_, yields_build (e := 2) (sz := 1) (z := .int .i64 0) (cells := #[.int .i64 (z)]) (parts := [(0, .int .i64 (z))]) (fun _ => idle_fin a3) hρ rfl (by omega) (by omega) rfl rfl, ?_⟩
            rintro v h5 δ5 ⟨rfl, N, hN, rfl, rfl⟩
            refine ⟨hZp N hN, fun ρ' hρ' => ⟨fun v h4 δ4 => h4 = (padTo h3 N).push (.cells #[.int .i64 (z)] 2) /\ δ4.d = δ.d /\ δ4.g.wg = δ.g.wg /\ Idle dL i δ4.g /\ v = sq /\ OwnX i c (po ++ [z]) (8 * (c.m + 1 - (u0 + 1)) + 3007) sq bt' u0 γ3.y.tp δ4.g.y, yields_loadA dL_ok (hρ' _ _ rfl) a3 fun γ4 hR a4 j4 => ?_, ?_⟩⟩
            · have o4 := ox.rel i0 hR.toRo.lrel
              obtain ⟨f1, f2, f3⟩ := own_pd o4.d i0 hi1
              exact ⟨_, _, _, f1, f2, f3, rfl, ((e3.trans e2).trans e1), hR.wg.trans ((w3.trans w2).trans w1), a4, rfl, o4⟩
            rintro v h4 ⟨d4, γ4⟩ ⟨rfl, e4, w4, a4, rfl, o4⟩
            exact ⟨hZp N hN, rfl, ⟨N, hN, rfl, rfl⟩, e4, w4, a4, o4⟩
          rintro vi vj h5 ⟨d5, γ5⟩ ⟨evi, ⟨N, hN, rfl, e5h⟩, e5, w5, a5, o5⟩ hZ5
          replace evi := evi.symm
          subst evi
          simp only at e5 w5 a5 o5
          have u5 : Upd (fun _ => False) h3 h5 := by rw [e5h]; exact (Upd.pad _ hN).trans (Upd.push _ _)
          have hro5 : ∀ b, blk sq = some b -> ¬ ((XF TT dL).cf γ5).ro b := fun b hb z => by
            have z' : γ5.y.c.ro b := z.2.1
            rw [o5.cc] at z'
            have := hro b z'
            have := (fun b hb => Nat.le_trans htop (W.b b hb) : ∀ b, blk sq = some b -> c.top <= b) b hb
            omega
          refine EA.onlyH 8 rfl (by kernel_rfl) rfl rfl rfl (.inl ⟨_, rfl, rfl⟩) fun ρ hρ => ⟨_, yields_append (e := 2) (sz := 1) (new := [intv (z)]) (fun _ => idle_fin a5) (hρ _ _ rfl) (hρ _ _ rfl) (W.s.upd u5 fun _ _ z => z) rfl (by rw [e5h]; exact mk_new hN) rfl (by simp [OneCell, intv]) (by omega) (by omega) rfl hro5, ?_⟩
          rintro v h6 δ6 ⟨rfl, x6, u6, b6⟩
          obtain ⟨r1, r2, r3, r4, r5⟩ := app1_ok W.u W.s W.b hN e5h x6 u6 b6
          clear hZp hZ hro5
          have hZ := u6.hcell hZ5 zL
          refine ⟨.inr hZ, ?_⟩
          obtain ⟨va, vcap, rfl⟩ := x6.val
          refine EA.tIdxS 9 rfl (by kernel_rfl) rfl rfl rfl rfl rfl (by omega) (by omega) hZ ?_
          refine EA.onlyH 10 rfl (by kernel_rfl) rfl rfl rfl (.inr rfl) fun ρ hρ => ⟨fun _ h7 δ7 => h7 = h6 /\ δ7.d = δ.d /\ δ7.g.wg = δ.g.wg /\ Idle dL i δ7.g /\ OwnX i c (po ++ [z]) (8 * (c.m + 1 - (u0 + 1)) + 3007) (.slice va (po.length + 1) vcap) bt' u0 γ3.y.tp δ7.g.y, yields_storeA dL_ok (hρ _ _ rfl) (hρ _ _ rfl) (by simp [OneCell]) a5 fun γ7 hR a7 j7 => ?_, ?_⟩
          · have o4 := o5.rel i0 hR.toRo.lrel
            have j4 := j7
            obtain ⟨f1, f2, f3⟩ := own_pd o4.d i0 hi1
            exact ⟨_, _, _, f1, f2, f3, mv_pd o4.d j4 i0 _, fun γ8 y8 w8 a8 => ⟨rfl, e5, w8.trans w5, a8, by rw [y8]; exact o4.setQ _⟩⟩
          rintro v h7 ⟨d7, γ7⟩ ⟨rfl, e7, w7, a7, o7⟩
          simp only at e7 w7 a7 o7
          refine ⟨.inr hZ, EA.done (by kernel_rfl) ?_⟩
          clear hZ
          (repeat (first | refine EK.region ?_ | refine ER.done ?_ | refine EK.inBlock ?_ | refine ER.move rfl rfl rfl ?_ | refine ER.assign rfl rfl rfl ?_ | refine ER.add (kd := .i64) rfl rfl rfl rfl (i64_in (by omega) (by omega)) ?_))
          exact EK.back (again ⟨u0 + 1, bt', po ++ [z], .slice va (po.length + 1) vcap⟩ _ _ (by dsimp only; omega) ⟨by dsimp only; omega, by dsimp only; omega, ⟨e7, w7, a7, o7.d, r1, r2, r4⟩, o7.o⟩) ⟨rfl, rfl, rfl, rfl, rfl, rfl, rfl, trivial⟩
      · (repeat (first | refine EK.seq ?_ | refine EK.region ?_ | refine ER.done ?_ | refine EK.skip ?_ | refine EK.inBlock ?_ | refine ER.move rfl rfl rfl ?_ | refine ER.assign rfl rfl rfl ?_ | refine ER.cmpF rfl rfl rfl rfl rfl (by first | (dsimp only [cmpP]; omega) | exact rfl | exact Int.le_refl _) ?_ | refine ER.add (kd := .i64) rfl rfl rfl rfl (i64_in (by omega) (by omega)) ?_ | refine ER.rem (kd := .i64) rfl rfl rfl rfl (by decide) rfl ?_ | refine EK.condF rfl ?_ | refine EK.exit rfl ?_))
        exact EK.back (again ⟨u0 + 1, bt + 1, po, sq⟩ _ _ (by dsimp only; omega) ⟨by dsimp only; omega, by dsimp only; omega, W.step (e2.trans e1) (w2.trans w1) a2 (o2.less (by dsimp only; omega)), oo2⟩) ⟨rfl, rfl, rfl, rfl, rfl, rfl, rfl, trivial⟩
  · obtain rfl : u0 = c.m + 1 := by omega
    rw [show c.m + 1 - 1 = c.m by omega] at o1
    have mM := (mem.upd W.u).M
    (repeat (first | refine EK.seq ?_ | refine EK.region ?_ | refine ER.done ?_ | refine EK.block ?_ | refine ER.move rfl rfl rfl ?_ | refine ER.cmpF rfl rfl rfl rfl rfl (by first | (dsimp only [cmpP]; omega) | exact rfl | exact Int.le_refl _) ?_ | refine EK.condF rfl ?_ | refine EK.exit rfl ?_ | refine ER.load1 rfl rfl rfl (by assumption) ?_))
    refine EK.loopInv (fun _ : LO => envD i q) (fun s h' δ' => WD i c h δ.d δ.g.wg (3 * (1001 - s.po.length) + 1) s.po s.sq h' δ' /\ OwnO c s.bt c.m 0 δ'.g.y) (fun s => 1001 - s.po.length) ⟨false, bt, po, sq⟩ ⟨rfl, rfl, rfl, rfl, trivial⟩ ⟨W.step W.d W.wg W.a (W.o.less (by dsimp only; omega)), o1⟩ ?_
    clear W o1 mM again
    rintro ⟨_, bt, po, sq⟩ h1 ⟨d1, γ1⟩ ⟨W, oo1⟩ again
    dsimp only [envD] at W oo1 again ⊢
    have e1 := W.d
    have w1 := W.wg
    have a1 := W.a
    have o1 := W.o
    simp only at e1 w1 a1 o1
    have hlp := o1.ln
    have m1 := mem.upd W.u
    have mD := m1.D
    have mL := m1.L
    have mE := m1.E
    (repeat (first | refine EK.seq ?_ | refine EK.region ?_ | refine EK.block ?_ | refine ER.load1 rfl rfl rfl (by assumption) ?_))
    refine ER.callR rfl rfl rfl rfl rfl (pop_d a1 hi o1 oo1 (by omega) hL he m1.K) ?_
    rintro x h3 ⟨d3, γ3⟩ ⟨rfl, e3, w3, a3, ⟨rfl, o3, oo3, t3⟩ | ⟨z, rfl, o3, bt', hb', oo3, t3⟩⟩
    · simp only at e3 w3 a3 o3 oo3 t3
      have ox : OwnX i c po (3 * (1001 - po.length) + 1 - 3) sq bt c.m bt γ3.y := ⟨hi, o3, oo3, t3⟩
      (repeat (first | refine EK.seq ?_ | refine EK.region ?_ | refine ER.done ?_ | refine ER.move rfl rfl rfl ?_ | refine ER.assign rfl rfl rfl ?_ | refine ER.notB rfl rfl rfl ?_ | refine ER.extract rfl rfl rfl rfl ?_ | refine EK.condT rfl ?_ | refine EK.exit rfl ?_ | refine ER.load1 rfl rfl rfl (by assumption) ?_))
      refine ER.callR rfl rfl rfl rfl rfl (cstore_f (F := fun _ y => OwnX i c po 0 sq bt c.m bt y) dL_ok a3 (b := c.B (4 + c.L)) (mem_e ox.cc) fun y₁ q1 j1 => ?_) ?_
      · have o4 := ox.rel i0 q1
        have ec := o4.cc
        have hi' : i = y₁.c.n + 1 := by rw [ec]; exact hi
        have hbd := o4.d.bd
        have st := done_step (w := 1) j1 hi' (by omega)
        have ev : (doneY y₁ i 1).v (c.B (4 + c.L)) = 1 := by
          show u1 y₁.v (y₁.c.B (4 + y₁.c.L)) 1 (c.B (4 + c.L)) = 1
          rw [ec, u1_same]
        have ox' : OwnX i c po 0 sq bt c.m bt (doneY y₁ i 1) := ⟨hi, ⟨ec, o4.d.ln, o4.d.po, Nat.zero_le _, o4.d.sq⟩, ⟨by
          refine (u1_ne fun e => ?_).trans o4.o.vb
          have := j1.inj 3 (4 + y₁.c.L) (by rw [ec] at e ⊢; exact e)
          omega, o4.o.bt, o4.o.np, o4.o.ow⟩, o4.t⟩
        exact ⟨doneY y₁ i 1, by rw [<- ec]; exact st, ev, fun y₂ q2 => ox'.rel i0 q2⟩
      rintro x h4 ⟨d4, γ4⟩ ⟨rfl, e4, w4, a4, o4⟩
      simp only at e4 w4 a4 o4
      (repeat (first | refine ER.done ?_ | refine EK.ret ?_))
      exact EU.ret0 rfl ⟨_, _, _, W.step ((e4.trans e3).trans e1) ((w4.trans w3).trans w1) a4 o4.d, fun _ => ⟨bt, o4.o, o4.t⟩⟩
    · simp only at e3 w3 a3 o3 oo3 t3
      have hl3 := o3.ln
      rw [List.length_append] at hl3
      have hl3' : po.length + 1 <= 1000 := hl3
      have ox : OwnX i c (po ++ [z]) (3 * (1001 - (po.length + 1)) + 1) sq bt' c.m γ3.y.tp γ3.y := ⟨hi, o3.less (by omega), oo3, Nat.le_refl _⟩
      have zL : ¬ blk sq = some q.vL := fun z => by
        have hz : h.size <= q.vL := W.b _ z
        obtain ⟨_, _, _, hb, _⟩ := hcell_some mem.L
        have : q.vL < h.size := lt_of_get hb
        omega
      (repeat (first | refine EK.seq ?_ | refine EK.region ?_ | refine ER.done ?_ | refine EK.skip ?_ | refine ER.move rfl rfl rfl ?_ | refine ER.assign rfl rfl rfl ?_ | refine ER.notB rfl rfl rfl ?_ | refine ER.extract rfl rfl rfl rfl ?_ | refine EK.condF rfl ?_))
      refine EK.regionAny (fun h' => hcell h' ⟨q.vL, 0, none⟩ = some (.slice (some ⟨c.pb, 0, none⟩) (c.n + 1) (c.n + 1))) ?_ (hDu := a3.at.nd)
      have hZ : hcell h3 ⟨q.vL, 0, none⟩ = some (.slice (some ⟨c.pb, 0, none⟩) (c.n + 1) (c.n + 1)) := mL
      refine EA.tLoad 0 rfl (by kernel_rfl) rfl rfl rfl rfl (fun _ hz => hz) hZ ?_
      refine EA.tMove 1 rfl (by kernel_rfl) rfl rfl rfl rfl hZ ?_
      refine EA.tLoad 2 rfl (by kernel_rfl) rfl rfl rfl rfl (fun _ hz => hz) hZ ?_
      refine EA.tMove 3 rfl (by kernel_rfl) rfl rfl rfl rfl hZ ?_
      refine EA.tIdxS 4 rfl (by kernel_rfl) rfl rfl rfl rfl rfl (by omega) (by omega) hZ ?_
      refine EA.tMove 6 rfl (by kernel_rfl) rfl rfl rfl rfl hZ ?_
      have hZp : ∀ N, h3.size <= N -> hcell ((padTo h3 N).push (.cells #[.int .i64 (z)] 2)) ⟨q.vL, 0, none⟩ = some (.slice (some ⟨c.pb, 0, none⟩) (c.n + 1) (c.n + 1)) := fun N hN => ((Upd.pad (fun _ => False) hN).trans (Upd.push _ _)).hcell hZ fun z => z
      refine EA.both 5 7 (fun vi vj h5 δ5 => vi = sq /\ (∃ N, h3.size <= N /\ vj = .slice (some ⟨N, 0, none⟩) 1 1 /\ h5 = (padTo h3 N).push (.cells #[.int .i64 (z)] 2)) /\ δ5.d = δ.d /\ δ5.g.wg = δ.g.wg /\ Idle dL i δ5.g /\ OwnX i c (po ++ [z]) (3 * (1001 - (po.length + 1)) + 1) sq bt' c.m γ3.y.tp δ5.g.y) rfl rfl (by kernel_rfl) rfl rfl (by kernel_rfl) (by kernel_rfl) rfl (by kernel_rfl) rfl rfl rfl rfl rfl rfl (by decide) (fun ρ hρ => ?_) (fun ρ hρ => ?_) ?_
      · refine ⟨fun v h4 δ4 => h4 = h3 /\ δ4.d = δ.d /\ δ4.g.wg = δ.g.wg /\ Idle dL i δ4.g /\ v = sq /\ OwnX i c (po ++ [z]) (3 * (1001 - (po.length + 1)) + 1) sq bt' c.m γ3.y.tp δ4.g.y, yields_loadA dL_ok (hρ _ _ rfl) a3 fun γ4 hR a4 j4 => ?_, ?_⟩
        · have o4 := ox.rel i0 hR.toRo.lrel
          obtain ⟨f1, f2, f3⟩ := own_pd o4.d i0 hi1
          exact ⟨_, _, _, f1, f2, f3, rfl, (e3.trans e1), hR.wg.trans (w3.trans w1), a4, rfl, o4⟩
        rintro v h4 ⟨d4, γ4⟩ ⟨rfl, e4, w4, a4, rfl, o4⟩
        simp only at e4 w4 a4 o4
        refine ⟨hZ, fun ρ' hρ' => ⟨_, yields_build (e := 2) (sz := 1) (z := .int .i64 0) (cells := #[.int .i64 (z)]) (parts := [(0, .int .i64 (z))]) (fun _ => idle_fin a4) hρ' rfl (by omega) (by omega) rfl rfl, ?_⟩⟩
        rintro v h5 δ5 ⟨rfl, N, hN, rfl, rfl⟩
        exact ⟨hZp N hN, rfl, ⟨N, hN, rfl, rfl⟩, e4, w4, a4, o4⟩
      · refine ⟨_, yields_build (e := 2) (sz := 1) (z := .int .i64 0) (cells := #[.int .i64 (z)]) (parts := [(0, .int .i64 (z))]) (fun _ => idle_fin a3) hρ rfl (by omega) (by omega) rfl rfl, ?_⟩
        rintro v h5 δ5 ⟨rfl, N, hN, rfl, rfl⟩
        refine ⟨hZp N hN, fun ρ' hρ' => ⟨fun v h4 δ4 => h4 = (padTo h3 N).push (.cells #[.int .i64 (z)] 2) /\ δ4.d = δ.d /\ δ4.g.wg = δ.g.wg /\ Idle dL i δ4.g /\ v = sq /\ OwnX i c (po ++ [z]) (3 * (1001 - (po.length + 1)) + 1) sq bt' c.m γ3.y.tp δ4.g.y, yields_loadA dL_ok (hρ' _ _ rfl) a3 fun γ4 hR a4 j4 => ?_, ?_⟩⟩
        · have o4 := ox.rel i0 hR.toRo.lrel
          obtain ⟨f1, f2, f3⟩ := own_pd o4.d i0 hi1
          exact ⟨_, _, _, f1, f2, f3, rfl, (e3.trans e1), hR.wg.trans (w3.trans w1), a4, rfl, o4⟩
        rintro v h4 ⟨d4, γ4⟩ ⟨rfl, e4, w4, a4, rfl, o4⟩
        exact ⟨hZp N hN, rfl, ⟨N, hN, rfl, rfl⟩, e4, w4, a4, o4⟩
      rintro vi vj h5 ⟨d5, γ5⟩ ⟨evi, ⟨N, hN, rfl, e5h⟩, e5, w5, a5, o5⟩ hZ5
      replace evi := evi.symm
      subst evi
      simp only at e5 w5 a5 o5
      have u5 : Upd (fun _ => False) h3 h5 := by rw [e5h]; exact (Upd.pad _ hN).trans (Upd.push _ _)
      have hro5 : ∀ b, blk sq = some b -> ¬ ((XF TT dL).cf γ5).ro b := fun b hb z => by
        have z' : γ5.y.c.ro b := z.2.1
        rw [o5.cc] at z'
        have := hro b z'
        have := (fun b hb => Nat.le_trans htop (W.b b hb) : ∀ b, blk sq = some b -> c.top <= b) b hb
        omega
      refine EA.onlyH 8 rfl (by kernel_rfl) rfl rfl rfl (.inl ⟨_, rfl, rfl⟩) fun ρ hρ => ⟨_, yields_append (e := 2) (sz := 1) (new := [intv (z)]) (fun _ => idle_fin a5) (hρ _ _ rfl) (hρ _ _ rfl) (W.s.upd u5 fun _ _ z => z) rfl (by rw [e5h]; exact mk_new hN) rfl (by simp [OneCell, intv]) (by omega) (by omega) rfl hro5, ?_⟩
      rintro v h6 δ6 ⟨rfl, x6, u6, b6⟩
      obtain ⟨r1, r2, r3, r4, r5⟩ := app1_ok W.u W.s W.b hN e5h x6 u6 b6
      clear hZp hZ hro5
      have hZ := u6.hcell hZ5 zL
      refine ⟨.inr hZ, ?_⟩
      obtain ⟨va, vcap, rfl⟩ := x6.val
      refine EA.tIdxS 9 rfl (by kernel_rfl) rfl rfl rfl rfl rfl (by omega) (by omega) hZ ?_
      refine EA.onlyH 10 rfl (by kernel_rfl) rfl rfl rfl (.inr rfl) fun ρ hρ => ⟨fun _ h7 δ7 => h7 = h6 /\ δ7.d = δ.d /\ δ7.g.wg = δ.g.wg /\ Idle dL i δ7.g /\ OwnX i c (po ++ [z]) (3 * (1001 - (po.length + 1)) + 1) (.slice va (po.length + 1) vcap) bt' c.m γ3.y.tp δ7.g.y, yields_storeA dL_ok (hρ _ _ rfl) (hρ _ _ rfl) (by simp [OneCell]) a5 fun γ7 hR a7 j7 => ?_, ?_⟩
      · have o4 := o5.rel i0 hR.toRo.lrel
        have j4 := j7
        obtain ⟨f1, f2, f3⟩ := own_pd o4.d i0 hi1
        exact ⟨_, _, _, f1, f2, f3, mv_pd o4.d j4 i0 _, fun γ8 y8 w8 a8 => ⟨rfl, e5, w8.trans w5, a8, by rw [y8]; exact o4.setQ _⟩⟩
      rintro v h7 ⟨d7, γ7⟩ ⟨rfl, e7, w7, a7, o7⟩
      simp only at e7 w7 a7 o7
      refine ⟨.inr hZ, EA.done (by kernel_rfl) ?_⟩
      clear hZ
      (repeat refine EK.inBlock ?_)
      exact EK.back (again ⟨false, bt', po ++ [z], .slice va (po.length + 1) vcap⟩ _ _ (by dsimp only; rw [List.length_append]; show 1001 - (po.length + 1) < _; omega) ⟨⟨e7, w7, a7, o7.d.less (by dsimp only; rw [List.length_append]; exact Nat.le_refl _), r1, r2, r4⟩, o7.o⟩) ⟨rfl, rfl, rfl, rfl, trivial⟩
end
end
section
open Go Go.TJ Go.Proofs
variable [Dm]
variable {Y : Type} {L : Law Y}
theorem freed_mu {γ : Gf Y} {H : Hp} (hI : InvF TT L γ H) (hd : AllDn γ) {b : Nat} (hb : b ∈ L.cls γ.y) : H[b]? = some (cellO (L.val γ.y b)) := by
  have hc : ∀ j, j < γ.num -> (γ.ph j).c = 0 := fun j hj => Classical.byContradiction fun h => by
    obtain ⟨j0, _, hw⟩ := hI.j.wh j hj h
    have := (hd j j0 hj).1
    omega
  have hz : ∀ x, x ≠ 0 -> ct γ.ph γ.num b x = 0 := fun x hx => ct_zero fun j hj _ e => hx (by rw [<- e, hc j hj])
  obtain ⟨i1, i2, i3, i4, i5, i6, i7⟩ := hI.j.mi b hb
  rw [hz 6 (by omega)] at i4
  rw [hz 9 (by omega), hz 5 (by omega), hz 3 (by omega), hz 8 (by omega), hz 2 (by omega), hz 4 (by omega)] at i5
  rw [hz 2 (by omega), hz 8 (by omega), hz 3 (by omega), hz 4 (by omega), hz 5 (by omega), hz 9 (by omega)] at i6
  have hc := hI.cell b hb
  generalize γ.mu b = m at i1 i2 i3 i4 i5 i6 i7 hc
  obtain ⟨mb, mk, ms, mn, mz⟩ := m
  simp only at i1 i2 i3 i4 i5 i6
  obtain ⟨rfl, rfl, rfl, rfl, rfl⟩ : mb = 0 /\ mk = 0 /\ ms = 0 /\ mn = 0 /\ mz = 0 := by omega
  exact hc
theorem sl_ne {h : Hp} {s : Value} {e sz n : Nat} {cells : List Value} (x : SliceO h s e sz n cells) {R : Nat} {c : Array Value} {e' : TypeId} {f : Nat × Nat} (hR : h[R]? = some (.cells c e' f)) (hne : e ≠ e') : ¬ blk s = some R := by
  intro hb
  obtain ⟨_, ⟨rfl, _⟩ | ⟨b', cap, rest, rfl, h1, h2, h3⟩⟩ := x
  · cases hb
  · cases hb
    rw [h3] at hR
    injection hR with hR
    injection hR with _ hR _
    exact hne hR
end
section
open Go Go.TJ Go.Proofs
variable [Dm]
section
variable {Y : Type} {L : Law Y}
theorem freed_out2 {y₀ : Y} {h h' : Hp} {n : Nat} {γ' : Gf Y} (x : Freed L y₀ h n h' γ') (hW : h.size + 2 ∉ L.cls y₀ /\ L.arrT y₀ (h.size + 2) = none) {tF : TypeId} (hF : L.arrT y₀ h.size = some tF) :
    ∃ y₁, LRel L 0 y₀ y₁ /\ L.J y₁ /\ (∀ j, 0 < j -> j <= n -> ∃ hf, L.fin y₁ j hf /\ ∀ b o v, h.size + 3 <= b -> hcell hf ⟨b, o, none⟩ = some v -> hcell h' ⟨b, o, none⟩ = some v) /\ (∀ b o, h[b]? = some o -> o ≠ dum -> b ∉ L.cls y₀ -> L.arrT y₀ b = none -> h'[b]? = some o) /\ (∀ b, b ∈ L.cls y₀ -> h'[b]? = some (cellO (L.val y₁ b))) /\ (∀ b t, L.arrT y₀ b = some t -> h'[b]? = some (.cells (L.arr y₁ b) t (0, 0))) /\ h.size < h'.size := by
  obtain ⟨γ₁, H, h1, h2, h3, h4, h5, h6, rfl⟩ := x.out
  have hlt : ∀ b o, h[b]? = some o -> b < h.size := fun b o hb => (Array.getElem?_eq_some_iff.1 hb).1
  have harr : ∀ b t, L.arrT y₀ b = some t -> (H.setIfInBounds (h.size + 2) dum)[b]? = some (.cells (L.arr γ₁.y b) t (0, 0)) := fun b t hb => by
    rw [Array.getElem?_setIfInBounds_ne (fun e => by rw [<- e, hW.2] at hb; cases hb)]
    rw [<- h1.stat.arrT] at hb
    exact h4.arr b t hb
  refine ⟨γ₁.y, h1, h4.j.law, fun j j0 hj => ?_, fun b o hb hd hc ha => ?_, fun b hb => ?_, harr, (Array.getElem?_eq_some_iff.1 (harr _ _ hF)).1⟩
  · obtain ⟨_, hs⟩ := h3 j j0 (by omega)
    obtain ⟨hf, hf'⟩ := Option.isSome_iff_exists.1 hs
    refine ⟨hf, h4.j.fin j hf j0 (by omega) hf', fun b o v hb hv => ?_⟩
    obtain ⟨c, e, f, g1, g2, g3⟩ := hcell_some hv
    refine hcell_of (e := e) (f := f) ?_ g3
    rw [Array.getElem?_setIfInBounds_ne (by show h.size + 2 ≠ b; omega)]
    exact (h6 j hf j0 hf').get b _ g1 (ne_dum g3)
  · have := hlt b o hb
    rw [Array.getElem?_setIfInBounds_ne (by omega)]
    exact h5 b o (frH_old hb) hd hc ha (by omega)
  · rw [Array.getElem?_setIfInBounds_ne (fun e => by subst e; exact hW.1 hb)]
    have hb' : b ∈ L.cls γ₁.y := by rw [h1.stat.cls]; exact hb
    exact freed_mu h4 h3 hb'
theorem hcell_same {h h' : Hp} {b o : Nat} (e : h'[b]? = h[b]?) : hcell h' ⟨b, o, none⟩ = hcell h ⟨b, o, none⟩ := by
  unfold hcell
  simp only [e]
theorem rd_of {h : Hp} {v : Value} {l : List Int} {top : Nat} (x : SliceO h v 2 1 l.length (l.map intv)) (b1 : ∀ b, blk v = some b -> top <= b) : Rd top h v l := by
  obtain ⟨a, cap, rfl⟩ := x.val
  refine ⟨a, cap, rfl, fun i z hz => ?_⟩
  have hl : i < l.length := by
    rcases Nat.lt_or_ge i l.length with y | y
    · exact y
    · rw [List.getElem?_eq_none y] at hz; cases hz
  obtain ⟨b, cap', e, h1, _⟩ := x.cell (by omega)
  injection e with e1 e2 e3
  subst e1
  exact ⟨b, rfl, b1 b rfl, h1 i _ (by rw [List.getElem?_map, hz]; rfl)⟩
theorem Rd.mono {h h' : Hp} {v : Value} {l : List Int} {top top' : Nat} (x : Rd top h v l) (ht : top' <= top) (hm : ∀ b o v, top <= b -> hcell h ⟨b, o, none⟩ = some v -> hcell h' ⟨b, o, none⟩ = some v) : Rd top' h' v l := by
  obtain ⟨a, cap, rfl, g⟩ := x
  refine ⟨a, cap, rfl, fun i z hz => ?_⟩
  obtain ⟨b, e, h1, h2⟩ := g i z hz
  exact ⟨b, e, Nat.le_trans ht h1, hm _ _ _ h1 h2⟩
end
def Kw.caps (q : Kw) : Array Value := #[.pointer (some ⟨q.vM, 0, none⟩), .pointer (some ⟨q.vS, 0, none⟩), .pointer (some ⟨q.vP, 0, none⟩), .pointer (some ⟨q.vQ, 0, none⟩)]
end
end Go.Proofs.Ytakioblpgmjdaaa
