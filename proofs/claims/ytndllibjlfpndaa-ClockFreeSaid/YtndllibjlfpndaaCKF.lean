/- Steps of the walk and of the plain law (FFree to ClockWorks). Conditions: as each lemma says. -/
import Derived.Test.YtndllibjlfpndaaCKE
set_option linter.unusedSectionVars false
set_option linter.unusedVariables false
set_option linter.unusedSimpArgs false
namespace Go.Proofs.Ytndllibjlfpndaa
section
open Go Go.TJ Go.Proofs
variable [Dm]
instance : Mixed Try.prog := ⟨by kernel_rfl⟩
instance : Und Try.prog 20 (.interface #[]) := ⟨Try.underlying20⟩
section
variable {Y : Type} {T : Tids} {L : Law Y} {h : Hp} {δ : Ix (Gf Y)} {i b F V ti tf n k : Nat}
theorem fell_ok (hL : L.Ok) (hA : Idle L i δ.g) (hV : hcell h ⟨V, 0, none⟩ = some (.slice (some ⟨F, 0, none⟩) n n)) (hti : hcell h ⟨ti, 0, none⟩ = some (.int .i64 k)) (hk : k < n)
    {Q : Value -> Hp -> Ix (Gf Y) -> Prop}
    (hop : ∀ γ₁, Rr L i δ.g γ₁ -> Idle L i γ₁ -> L.J γ₁.y -> ∃ t u y', L.arrT γ₁.y F = some t /\ (L.arr γ₁.y F)[k]? = some u /\ L.may γ₁.y i ⟨F, k, none⟩ true /\ AMove L i F k (.bool false) γ₁.y y' /\ ∀ γ₂, γ₂.y = y' -> γ₂.wg = δ.g.wg -> Idle L i γ₂ -> Q (.tuple #[]) h ⟨δ.d, γ₂⟩) :
    CallW Try.prog false (SitW Try.prog (XF T L) i) 27 #[.pointer (some ⟨V, 0, none⟩), .pointer (some ⟨ti, 0, none⟩)] h δ (Ret Q) := by
  refine CallW.start (n := 7) rfl rfl ?_
  refine EK.regionAnyL (fun h' => hcell h' ⟨V, 0, none⟩ = some (.slice (some ⟨F, 0, none⟩) n n) /\ hcell h' ⟨ti, 0, none⟩ = some (.int .i64 k)) 5 ?_ (hDu := hA.at.nd)
  have hZ : hcell h ⟨V, 0, none⟩ = some (.slice (some ⟨F, 0, none⟩) n n) /\ hcell h ⟨ti, 0, none⟩ = some (.int .i64 k) := ⟨hV, hti⟩
  refine EA.tLoad 0 rfl (by kernel_rfl) rfl rfl rfl rfl (fun _ hz => hz.1) hZ ?_
  refine EA.tLoad 1 rfl (by kernel_rfl) rfl rfl rfl rfl (fun _ hz => hz.2) hZ ?_
  refine EA.recover 2 rfl rfl (by kernel_rfl) rfl rfl rfl hZ ?_
  refine EA.val (v := .bool false) 3 rfl (by kernel_rfl) rfl rfl rfl (fun ρ Q X hρ hq => sem_neqIf (hρ _ _ rfl) (hρ _ _ rfl) (.inl ⟨rfl, rfl⟩) hq) hZ ?_
  (first | refine EA.tMove 4 rfl (by kernel_rfl) rfl rfl rfl rfl hZ ?_ | refine EA.tAssign 4 rfl (by kernel_rfl) rfl rfl rfl rfl hZ ?_ | refine EA.tNil 4 rfl (by kernel_rfl) rfl rfl rfl rfl hZ ?_ | refine EA.tField 4 rfl (by kernel_rfl) rfl rfl rfl rfl hZ ?_ | refine EA.tNot 4 rfl (by kernel_rfl) rfl rfl rfl rfl hZ ?_ | refine EA.tAdd (kd := .i64) 4 rfl (by kernel_rfl) rfl rfl rfl rfl rfl (i64_in (by omega) (by omega)) hZ ?_ | refine EA.tSub (kd := .i64) 4 rfl (by kernel_rfl) rfl rfl rfl rfl rfl (i64_in (by omega) (by omega)) hZ ?_ | refine EA.tIdxA 4 rfl (by kernel_rfl) rfl rfl rfl rfl rfl (by omega) (by omega) hZ ?_ | refine EA.tIdxS 4 rfl (by kernel_rfl) rfl rfl rfl rfl rfl (by omega) (by omega) hZ ?_ | refine EA.tLen1 4 rfl (by kernel_rfl) rfl rfl rfl rfl hZ ?_ | refine EA.takeNo 4 rfl (by kernel_rfl) rfl rfl rfl hZ ?_ | refine EA.tPickT 4 rfl (by kernel_rfl) rfl rfl rfl rfl rfl hZ ?_ | refine EA.tPickF 4 rfl (by kernel_rfl) rfl rfl rfl rfl rfl hZ ?_ | refine EA.tCmpT 4 rfl (by kernel_rfl) rfl rfl rfl rfl rfl rfl (by first | (dsimp only [cmpP]; omega) | exact rfl | exact Int.le_refl _) hZ ?_ | refine EA.tCmpF 4 rfl (by kernel_rfl) rfl rfl rfl rfl rfl rfl (by first | (dsimp only [cmpP]; omega) | exact rfl | exact Int.le_refl _) hZ ?_ | refine EA.tMul (kd := .i64) 4 rfl (by kernel_rfl) rfl rfl rfl rfl rfl (i64_in (by omega) (by omega)) hZ ?_)
  refine EA.onlyH 5 rfl (by kernel_rfl) rfl rfl (d := none) rfl (.inr rfl) fun ρ hρ => ⟨fun v h' δ' => h' = h /\ ∃ γ₂, δ' = ⟨δ.d, γ₂⟩ /\ Q (.tuple #[]) h ⟨δ.d, γ₂⟩, yields_storeA (b := F) (o := k) hL (by rw [hρ _ _ rfl]; congr 3; simp) (hρ _ _ rfl) (by simp [OneCell]) hA fun γ₁ r1 a1 j1 => ?_, ?_⟩
  · obtain ⟨t, u, y', h1, h2, h3, h4, h5⟩ := hop γ₁ r1 a1 j1
    exact ⟨t, u, y', h1, h2, h3, h4, fun γ₂ e2 w2 a2 => ⟨rfl, γ₂, rfl, h5 γ₂ e2 w2 a2⟩⟩
  · rintro v h' δ' ⟨rfl, γ₂, rfl, hq⟩
    refine ⟨.inl rfl, EA.done (by kernel_rfl) ?_⟩
    refine EK.done ?_
    exact EU.ret0 rfl hq
def BodyQ (L : Law Y) (i b F k V ti : Nat) (h : Hp) : Value -> Hp -> Ix (Gf Y) -> Prop := fun _ h' δ' => δ'.d = 0 /\ δ'.g.wg = b /\ Idle L i δ'.g /\ hcell h' ⟨V, 0, none⟩ = hcell h ⟨V, 0, none⟩ /\ hcell h' ⟨ti, 0, none⟩ = hcell h ⟨ti, 0, none⟩ /\
  ∀ y₁, LRel L i δ'.g.y y₁ -> L.J y₁ -> ∃ t u y₂, L.arrT y₁ F = some t /\ (L.arr y₁ F)[k]? = some u /\ L.may y₁ i ⟨F, k, none⟩ true /\ AMove L i F k (.bool false) y₁ y₂ /\ ∀ y₃, LRel L i y₂ y₃ -> L.J y₃ -> L.fin y₃ i h'
theorem free1_ok (hL : L.Ok) {bf : FuncId} {bcap : Array Value} [HasBody Try.prog bf] (hA : Idle L i δ.g) (hb : δ.g.wg = b) (hdd : δ.d = 0) (hV : hcell h ⟨V, 0, none⟩ = some (.slice (some ⟨F, 0, none⟩) n n)) (hti : hcell h ⟨ti, 0, none⟩ = some (.int .i64 k)) (hk : k < n) (htf : hcell h ⟨tf, 0, none⟩ = some (.func (.func bf) #[] bcap))
    (hbody : CallW Try.prog false (SitW Try.prog (XF T L) i) bf (#[.pointer none] ++ bcap) h δ (Ret (BodyQ L i b F k V ti h))) :
    CallW Try.prog false (SitW Try.prog (XF T L) i) 25 #[.pointer (some ⟨b, 0, none⟩), .pointer (some ⟨V, 0, none⟩), .pointer (some ⟨ti, 0, none⟩), .pointer (some ⟨tf, 0, none⟩)] h δ (Ret fun _ h' δ' => h' = #[] /\ δ'.g.dn i /\ δ'.d = 0) := by
  refine CallW.start (n := 7) rfl rfl ?_
  (repeat (first | refine EK.seq ?_ | refine EK.region ?_ | refine ER.done ?_ | refine EK.skip ?_ | refine EK.block ?_ | refine EK.inBlock ?_ | refine ER.move rfl rfl rfl ?_ | refine ER.assign rfl rfl rfl ?_ | refine ER.nilCheck rfl rfl rfl ?_ | refine ER.fieldAddr rfl rfl rfl ?_ | refine ER.load1 rfl rfl rfl (hcell_of (by assumption) rfl) ?_ | refine ER.no rfl rfl ?_ | refine ER.noU rfl ?_ | refine ER.eqV rfl rfl rfl rfl rfl ?_ | refine ER.neqV rfl rfl rfl rfl rfl ?_ | refine ER.eqA rfl rfl rfl rfl rfl ?_ | refine ER.neqA rfl rfl rfl rfl rfl ?_ | refine ER.notB rfl rfl rfl ?_ | refine ER.pickT rfl rfl rfl rfl ?_ | refine ER.pickF rfl rfl rfl rfl ?_ | refine ER.extract rfl rfl rfl rfl ?_ | refine ER.cmpT rfl rfl rfl rfl rfl (by first | (dsimp only [cmpP]; omega) | exact rfl | exact Int.le_refl _) ?_ | refine ER.cmpF rfl rfl rfl rfl rfl (by first | (dsimp only [cmpP]; omega) | exact rfl | exact Int.le_refl _) ?_ | refine ER.boxA rfl rfl rfl ?_ | refine ER.box rfl rfl rfl ?_ | refine ER.allocA rfl rfl ?_ | refine ER.alloc rfl rfl ?_ | refine ER.add (kd := .i64) rfl rfl rfl rfl (i64_in (by omega) (by omega)) ?_ | refine ER.sub' (kd := .i64) rfl rfl rfl rfl (i64_in (by omega) (by omega)) ?_ | refine ER.mul (kd := .i64) rfl rfl rfl rfl (i64_in (by omega) (by omega)) ?_ | refine ER.rem (kd := .i64) rfl rfl rfl rfl (by decide) rfl ?_ | refine ER.indexArr rfl rfl rfl rfl (by omega) (by omega) ?_ | refine ER.len1 rfl rfl rfl ?_ | refine ER.indexSl rfl rfl rfl rfl (by omega) (by omega) ?_ | refine EK.condT rfl ?_ | refine EK.condF rfl ?_ | refine EK.ret ?_ | refine EK.exit rfl ?_))
  refine ER.defer rfl rfl rfl ?_
  (repeat (first | refine EK.seq ?_ | refine EK.region ?_ | refine ER.done ?_ | refine EK.skip ?_ | refine EK.block ?_ | refine EK.inBlock ?_ | refine ER.move rfl rfl rfl ?_ | refine ER.assign rfl rfl rfl ?_ | refine ER.nilCheck rfl rfl rfl ?_ | refine ER.fieldAddr rfl rfl rfl ?_ | refine ER.load1 rfl rfl rfl (hcell_of (by assumption) rfl) ?_ | refine ER.no rfl rfl ?_ | refine ER.noU rfl ?_ | refine ER.eqV rfl rfl rfl rfl rfl ?_ | refine ER.neqV rfl rfl rfl rfl rfl ?_ | refine ER.eqA rfl rfl rfl rfl rfl ?_ | refine ER.neqA rfl rfl rfl rfl rfl ?_ | refine ER.notB rfl rfl rfl ?_ | refine ER.pickT rfl rfl rfl rfl ?_ | refine ER.pickF rfl rfl rfl rfl ?_ | refine ER.extract rfl rfl rfl rfl ?_ | refine ER.cmpT rfl rfl rfl rfl rfl (by first | (dsimp only [cmpP]; omega) | exact rfl | exact Int.le_refl _) ?_ | refine ER.cmpF rfl rfl rfl rfl rfl (by first | (dsimp only [cmpP]; omega) | exact rfl | exact Int.le_refl _) ?_ | refine ER.boxA rfl rfl rfl ?_ | refine ER.box rfl rfl rfl ?_ | refine ER.allocA rfl rfl ?_ | refine ER.alloc rfl rfl ?_ | refine ER.add (kd := .i64) rfl rfl rfl rfl (i64_in (by omega) (by omega)) ?_ | refine ER.sub' (kd := .i64) rfl rfl rfl rfl (i64_in (by omega) (by omega)) ?_ | refine ER.mul (kd := .i64) rfl rfl rfl rfl (i64_in (by omega) (by omega)) ?_ | refine ER.rem (kd := .i64) rfl rfl rfl rfl (by decide) rfl ?_ | refine ER.indexArr rfl rfl rfl rfl (by omega) (by omega) ?_ | refine ER.len1 rfl rfl rfl ?_ | refine ER.indexSl rfl rfl rfl rfl (by omega) (by omega) ?_ | refine EK.condT rfl ?_ | refine EK.condF rfl ?_ | refine EK.ret ?_ | refine EK.exit rfl ?_))
  refine ER.makeF rfl rfl rfl rfl rfl rfl ?_
  refine ER.defer rfl rfl rfl ?_
  (repeat (first | refine EK.seq ?_ | refine EK.region ?_ | refine ER.done ?_ | refine EK.skip ?_ | refine EK.block ?_ | refine EK.inBlock ?_ | refine ER.move rfl rfl rfl ?_ | refine ER.assign rfl rfl rfl ?_ | refine ER.nilCheck rfl rfl rfl ?_ | refine ER.fieldAddr rfl rfl rfl ?_ | refine ER.load1 rfl rfl rfl (hcell_of (by assumption) rfl) ?_ | refine ER.no rfl rfl ?_ | refine ER.noU rfl ?_ | refine ER.eqV rfl rfl rfl rfl rfl ?_ | refine ER.neqV rfl rfl rfl rfl rfl ?_ | refine ER.eqA rfl rfl rfl rfl rfl ?_ | refine ER.neqA rfl rfl rfl rfl rfl ?_ | refine ER.notB rfl rfl rfl ?_ | refine ER.pickT rfl rfl rfl rfl ?_ | refine ER.pickF rfl rfl rfl rfl ?_ | refine ER.extract rfl rfl rfl rfl ?_ | refine ER.cmpT rfl rfl rfl rfl rfl (by first | (dsimp only [cmpP]; omega) | exact rfl | exact Int.le_refl _) ?_ | refine ER.cmpF rfl rfl rfl rfl rfl (by first | (dsimp only [cmpP]; omega) | exact rfl | exact Int.le_refl _) ?_ | refine ER.boxA rfl rfl rfl ?_ | refine ER.box rfl rfl rfl ?_ | refine ER.allocA rfl rfl ?_ | refine ER.alloc rfl rfl ?_ | refine ER.add (kd := .i64) rfl rfl rfl rfl (i64_in (by omega) (by omega)) ?_ | refine ER.sub' (kd := .i64) rfl rfl rfl rfl (i64_in (by omega) (by omega)) ?_ | refine ER.mul (kd := .i64) rfl rfl rfl rfl (i64_in (by omega) (by omega)) ?_ | refine ER.rem (kd := .i64) rfl rfl rfl rfl (by decide) rfl ?_ | refine ER.indexArr rfl rfl rfl rfl (by omega) (by omega) ?_ | refine ER.len1 rfl rfl rfl ?_ | refine ER.indexSl rfl rfl rfl rfl (by omega) (by omega) ?_ | refine EK.condT rfl ?_ | refine EK.condF rfl ?_ | refine EK.ret ?_ | refine EK.exit rfl ?_))
  refine ER.load1 rfl rfl rfl htf ?_
  (repeat (first | refine EK.seq ?_ | refine EK.region ?_ | refine ER.done ?_ | refine EK.skip ?_ | refine EK.block ?_ | refine EK.inBlock ?_ | refine ER.move rfl rfl rfl ?_ | refine ER.assign rfl rfl rfl ?_ | refine ER.nilCheck rfl rfl rfl ?_ | refine ER.fieldAddr rfl rfl rfl ?_ | refine ER.load1 rfl rfl rfl (hcell_of (by assumption) rfl) ?_ | refine ER.no rfl rfl ?_ | refine ER.noU rfl ?_ | refine ER.eqV rfl rfl rfl rfl rfl ?_ | refine ER.neqV rfl rfl rfl rfl rfl ?_ | refine ER.eqA rfl rfl rfl rfl rfl ?_ | refine ER.neqA rfl rfl rfl rfl rfl ?_ | refine ER.notB rfl rfl rfl ?_ | refine ER.pickT rfl rfl rfl rfl ?_ | refine ER.pickF rfl rfl rfl rfl ?_ | refine ER.extract rfl rfl rfl rfl ?_ | refine ER.cmpT rfl rfl rfl rfl rfl (by first | (dsimp only [cmpP]; omega) | exact rfl | exact Int.le_refl _) ?_ | refine ER.cmpF rfl rfl rfl rfl rfl (by first | (dsimp only [cmpP]; omega) | exact rfl | exact Int.le_refl _) ?_ | refine ER.boxA rfl rfl rfl ?_ | refine ER.box rfl rfl rfl ?_ | refine ER.allocA rfl rfl ?_ | refine ER.alloc rfl rfl ?_ | refine ER.add (kd := .i64) rfl rfl rfl rfl (i64_in (by omega) (by omega)) ?_ | refine ER.sub' (kd := .i64) rfl rfl rfl rfl (i64_in (by omega) (by omega)) ?_ | refine ER.mul (kd := .i64) rfl rfl rfl rfl (i64_in (by omega) (by omega)) ?_ | refine ER.rem (kd := .i64) rfl rfl rfl rfl (by decide) rfl ?_ | refine ER.indexArr rfl rfl rfl rfl (by omega) (by omega) ?_ | refine ER.len1 rfl rfl rfl ?_ | refine ER.indexSl rfl rfl rfl rfl (by omega) (by omega) ?_ | refine EK.condT rfl ?_ | refine EK.condF rfl ?_ | refine EK.ret ?_ | refine EK.exit rfl ?_))
  refine ER.callR rfl rfl rfl rfl rfl hbody ?_
  rintro v h' ⟨d', γ'⟩ ⟨e1, w1, a1, c1, c2, hq⟩
  simp only at e1 w1 a1 hq
  subst e1
  (repeat (first | refine EK.seq ?_ | refine EK.region ?_ | refine ER.done ?_ | refine EK.skip ?_ | refine EK.block ?_ | refine EK.inBlock ?_ | refine ER.move rfl rfl rfl ?_ | refine ER.assign rfl rfl rfl ?_ | refine ER.nilCheck rfl rfl rfl ?_ | refine ER.fieldAddr rfl rfl rfl ?_ | refine ER.load1 rfl rfl rfl (hcell_of (by assumption) rfl) ?_ | refine ER.no rfl rfl ?_ | refine ER.noU rfl ?_ | refine ER.eqV rfl rfl rfl rfl rfl ?_ | refine ER.neqV rfl rfl rfl rfl rfl ?_ | refine ER.eqA rfl rfl rfl rfl rfl ?_ | refine ER.neqA rfl rfl rfl rfl rfl ?_ | refine ER.notB rfl rfl rfl ?_ | refine ER.pickT rfl rfl rfl rfl ?_ | refine ER.pickF rfl rfl rfl rfl ?_ | refine ER.extract rfl rfl rfl rfl ?_ | refine ER.cmpT rfl rfl rfl rfl rfl (by first | (dsimp only [cmpP]; omega) | exact rfl | exact Int.le_refl _) ?_ | refine ER.cmpF rfl rfl rfl rfl rfl (by first | (dsimp only [cmpP]; omega) | exact rfl | exact Int.le_refl _) ?_ | refine ER.boxA rfl rfl rfl ?_ | refine ER.box rfl rfl rfl ?_ | refine ER.allocA rfl rfl ?_ | refine ER.alloc rfl rfl ?_ | refine ER.add (kd := .i64) rfl rfl rfl rfl (i64_in (by omega) (by omega)) ?_ | refine ER.sub' (kd := .i64) rfl rfl rfl rfl (i64_in (by omega) (by omega)) ?_ | refine ER.mul (kd := .i64) rfl rfl rfl rfl (i64_in (by omega) (by omega)) ?_ | refine ER.rem (kd := .i64) rfl rfl rfl rfl (by decide) rfl ?_ | refine ER.indexArr rfl rfl rfl rfl (by omega) (by omega) ?_ | refine ER.len1 rfl rfl rfl ?_ | refine ER.indexSl rfl rfl rfl rfl (by omega) (by omega) ?_ | refine EK.condT rfl ?_ | refine EK.condF rfl ?_ | refine EK.ret ?_ | refine EK.exit rfl ?_))
  refine EK.done ?_
  refine EU.deferR rfl (fell_ok (δ := ⟨0, γ'⟩) (F := F) (n := n) (k := k) (Q := fun v h2 δ2 => h2 = h' /\ δ2.d = 0 /\ δ2.g.wg = b /\ Idle L i δ2.g /\ ∀ y₃, LRel L i δ2.g.y y₃ -> L.J y₃ -> L.fin y₃ i h') hL a1 (c1.trans hV) (c2.trans hti) hk fun γ₁ r2 a2 j2 => ?_) ?_
  · obtain ⟨t, u, y₂, q1, q2, q3, q4, q5⟩ := hq γ₁.y r2.lrel j2
    exact ⟨t, u, y₂, q1, q2, q3, q4, fun γ₂ e2 w2 a3 => ⟨rfl, rfl, w2.trans w1, a3, by rw [e2]; exact q5⟩⟩
  rintro v h2 ⟨d2, γ₂⟩ ⟨rfl, e2, w2, a2, hfin⟩
  simp only at e2 w2 a2 hfin
  subst e2
  refine EU.deferR rfl (done_ok (δ := ⟨0, γ₂⟩) hL a2 w2 rfl hfin) ?_
  rintro v h3 δ3 ⟨rfl, rfl, e3, r3⟩
  exact EU.ret0 rfl ⟨rfl, r3, e3⟩
end
end
section
open Go Go.TJ Go.Proofs
variable [Dm]
def TT : Tids := ⟨79, 70⟩
section
variable {Y : Type} {L : Law Y} {h : Hp} {γ₀ : Gf Y}
def frH (h : Hp) (n : Nat) : Hp := ((h.push (.cells (List.replicate n (.bool false)).toArray 4 (0, 0))).push (.cells #[.slice (some ⟨h.size, 0, none⟩) n n] 63 (0, 0))).push (wgO TT 0 0 0)
theorem frH_size {n : Nat} : (frH h n).size = h.size + 3 := by simp [frH]
theorem frH_old {n b : Nat} {o : Obj} (hb : h[b]? = some o) : (frH h n)[b]? = some o := get_push _ (get_push _ (get_push _ hb))
theorem frH_at (h : Hp) (n : Nat) : (frH h n)[h.size]? = some (.cells (List.replicate n (.bool false)).toArray 4 (0, 0)) /\ (frH h n)[h.size + 1]? = some (.cells #[.slice (some ⟨h.size, 0, none⟩) n n] 63 (0, 0)) /\ (frH h n)[h.size + 2]? = some (wgO TT 0 0 0) := by
  obtain ⟨_, _, h1, h2, h3⟩ := push3 h (.cells (List.replicate n (.bool false)).toArray 4 (0, 0)) (.cells #[.slice (some ⟨h.size, 0, none⟩) n n] 63 (0, 0)) (wgO TT 0 0 0)
  exact ⟨h1, h2, h3⟩
structure Freed (L : Law Y) (y₀ : Y) (h : Hp) (n : Nat) (h' : Hp) (γ' : Gf Y) : Prop where
  out : ∃ (γ₁ : Gf Y) (H : Hp), LRel L 0 y₀ γ₁.y /\ γ₁.num = n + 1 /\ AllDn γ₁ /\ InvF TT L γ₁ H /\ (∀ x o, (frH h n)[x]? = some o -> o ≠ dum -> x ∉ L.cls y₀ -> L.arrT y₀ x = none -> L.atT y₀ x = none -> x ≠ h.size + 2 -> H[x]? = some o) /\ (∀ j hf, 0 < j -> γ₁.fn j = some hf -> Part False hf H) /\ (∀ x, x ∈ L.cls γ₁.y -> Part False (L.bag γ₁.y x) H) /\ h' = H.setIfInBounds (h.size + 2) dum
  st : γ'.st = 2
  jn : (XF TT L).jn γ'
def BodyOk (L : Law Y) (y₀ : Y) (h : Hp) (n : Nat) (bf : Nat -> FuncId) (bcap : Nat -> Array Value) : Prop :=
  ∀ k, k < n -> ∀ (h' : Hp) (γ₂ : Gf Y) (ti : Nat), h.size + 3 <= ti -> hcell h' ⟨ti, 0, none⟩ = some (.int .i64 k) -> (∀ x o, L.ro y₀ x -> (frH h n)[x]? = some o -> h'[x]? = some o) -> LRel L (k + 1) y₀ γ₂.y -> L.J γ₂.y -> Idle L (k + 1) γ₂ -> γ₂.wg = h.size + 2 ->
    CallW Try.prog false (SitW Try.prog (XF TT L) (k + 1)) (bf k) (#[.pointer none] ++ bcap k) h' ⟨0, γ₂⟩ (Ret (BodyQ L (k + 1) (h.size + 2) h.size k (h.size + 1) ti h'))
set_option maxHeartbeats 8000000 in
theorem free_ok (hL : L.Ok) {n B cap : Nat} {bf : Nat -> FuncId} {bcap : Nat -> Array Value} {y₀ : Y} [hbf : ∀ k, HasBody Try.prog (bf k)] (hst : γ₀.st = 0) (hnum : γ₀.num = 1) (hn : n <= 64) (hB : ∀ k, k < n -> hcell h ⟨B, k, none⟩ = some (.func (.func (bf k)) #[] (bcap k)))
    (s : Starts TT L y₀ (h.size + 2) (frH h n)) (hBs : B ∉ L.cls y₀ /\ L.arrT y₀ B = none /\ L.atT y₀ B = none) (hF : L.arrT y₀ h.size = some 4) (hfall : ∀ y, L.J y -> LRel L 0 y₀ y -> L.arr y h.size = Array.replicate n (.bool false)) (hV : L.ro y₀ (h.size + 1)) (hro : ∀ x, L.ro y₀ x -> x ∉ L.cls y₀ /\ L.arrT y₀ x = none /\ L.atT y₀ x = none /\ x < h.size + 2)
    (hbody : BodyOk L y₀ h n bf bcap) :
    CallW Try.prog true (SitM Try.prog (XF TT L)) 14 #[.slice (some ⟨B, 0, none⟩) n cap] h ⟨0, γ₀⟩ (Ret fun v h' δ' => v = .slice none 0 0 /\ δ'.d = 0 /\ Freed L y₀ h n h' δ'.g) := by
  have hlo : (SitM Try.prog (XF TT L)).lone γ₀ := ⟨by omega, fun j j0 hj => by have hj' : j < γ₀.num := hj; omega⟩
  have hsl : ∀ a, ¬ (SitM Try.prog (XF TT L)).still γ₀ a := fun a z => by have : γ₀.st = 1 := z.1; omega
  refine CallW.start (n := 43) rfl rfl ?_
  (repeat (first | refine EK.seq ?_ | refine EK.region ?_ | refine ER.done ?_ | refine EK.skip ?_ | refine ER.move rfl rfl rfl ?_ | refine ER.assign rfl rfl rfl ?_ | refine ER.cmpF rfl rfl rfl rfl rfl (by first | (dsimp only [cmpP]; omega) | exact rfl | exact Int.le_refl _) ?_ | refine ER.len1 rfl rfl rfl ?_ | refine EK.condF rfl ?_))
  refine ER.makeSliceD rfl rfl rfl rfl (by omega) (by omega) rfl ?_
  (repeat refine ER.alloc rfl rfl ?_)
  refine ER.storeNew rfl rfl rfl rfl (by simp [OneCell]) (hsl _) ?_
  (repeat (first | refine EK.seq ?_ | refine EK.region ?_ | refine ER.done ?_ | refine EK.block ?_ | refine ER.move rfl rfl rfl ?_ | refine ER.allocA rfl rfl ?_ | refine ER.len1 rfl rfl rfl ?_))
  refine EK.gen (fun h2 => h2 = frH h n) rfl ?_
  rintro h2 rfl
  refine EK.sub (show subE [(18, .int .i64 0), (17, .int .i64 n), (16, .slice (some ⟨B, 0, none⟩) n cap), (2, .slice none 0 0), (3, .pointer (some ⟨h.size + 1, 0, none⟩)), (4, .pointer (some ⟨h.size + 2, 0, none⟩))] _ from ⟨rfl, rfl, rfl, rfl, by show some (Value.pointer (some ⟨Array.size _, 0, none⟩)) = _; simp, by show some (Value.pointer (some ⟨Array.size _, 0, none⟩)) = _; simp, trivial⟩) ?_
  have hdec : ∀ x, Decidable (x ∉ L.cls y₀ /\ L.arrT y₀ x = none /\ L.atT y₀ x = none /\ x ≠ h.size + 2) := fun x => Classical.propDecidable _
  obtain ⟨p, hp⟩ : ∃ p : Nat -> Bool, ∀ x, p x = true ↔ (x ∉ L.cls y₀ /\ L.arrT y₀ x = none /\ L.atT y₀ x = none /\ x ≠ h.size + 2) := ⟨fun x => @decide _ (hdec x), fun x => @decide_eq_true_iff _ (hdec x)⟩
  have hdec2 : ∀ x, Decidable (L.ro y₀ x) := fun x => Classical.propDecidable _
  obtain ⟨r, hr⟩ : ∃ r : Nat -> Bool, ∀ x, r x = true ↔ L.ro y₀ x := ⟨fun x => @decide _ (hdec2 x), fun x => @decide_eq_true_iff _ (hdec2 x)⟩
  refine EK.share (X := XF TT L) (h₁ := onlyB (frH h n) p) (γ₁ := Gf.first y₀ (h.size + 2)) (fun _ _ _ _ z => .inr (.inr (.inl z))) (fun Yy g hy => share_ok hst hnum s (fun x hx => (hp x).1 hx) hy) ?_
  have hBp : B < h.size /\ B ≠ h.size + 2 \/ n = 0 := by
    rcases Nat.eq_zero_or_pos n with z | z
    · exact .inr z
    · obtain ⟨c, e, f, h1, _⟩ := hcell_some (hB 0 z)
      have := (Array.getElem?_eq_some_iff.1 h1).1
      exact .inl ⟨this, by have t : B < h.size := this; omega⟩
  have hsz1 : (onlyB (frH h n) p).size = h.size + 3 := by rw [onlyB_size, frH_size]
  have hB1 : ∀ k, k < n -> hcell (onlyB (frH h n) p) ⟨B, k, none⟩ = some (.func (.func (bf k)) #[] (bcap k)) := fun k hk => by
    obtain ⟨c, e, f, h1, h3, h4⟩ := hcell_some (hB k hk)
    have h5 := onlyB_has (p := p) (frH_old (n := n) h1) ((hp B).2 ⟨hBs.1, hBs.2.1, hBs.2.2, by omega⟩)
    exact hcell_of h5 h4
  have hro1 : ∀ x o, L.ro y₀ x -> (frH h n)[x]? = some o -> (onlyB (frH h n) p)[x]? = some o := fun x o hx ho => onlyB_has ho ((hp x).2 ⟨(hro x hx).1, (hro x hx).2.1, (hro x hx).2.2.1, by have := (hro x hx).2.2.2; omega⟩)
  generalize hh1 : onlyB (frH h n) p = h1 at hsz1 hB1 hro1
  refine EK.loopInv (fun i : Nat => [(18, .int .i64 i), (17, .int .i64 n), (16, .slice (some ⟨B, 0, none⟩) n cap), (2, .slice none 0 0), (3, .pointer (some ⟨h.size + 1, 0, none⟩)), (4, .pointer (some ⟨h.size + 2, 0, none⟩))])
    (fun i h' δ' => i <= n /\ Sub h1 h' /\ δ'.d = 0 /\ Mn 0 (i + 1) (h.size + 2) δ'.g /\ LRelM L (i + 1) y₀ δ'.g.y) (fun i => n - i) 0 ⟨rfl, rfl, rfl, rfl, rfl, rfl, trivial⟩ ⟨Nat.zero_le _, ⟨fun _ _ h _ => h, Nat.le_refl _⟩, rfl, ⟨rfl, rfl, rfl, rfl⟩, LRelM.refl hL _ _⟩ ?_
  rintro i h' ⟨d', γ'⟩ ⟨hin, hsub, e1, hM, hrel⟩ hback
  simp only at e1 hM hrel
  subst e1
  rcases Nat.lt_or_ge i n with hlt | hge
  · have hmk : ∀ (γ : Gf Y), 0 < 0 -> ¬ (XF TT L).done 0 γ /\ (XF TT L).fin γ 0 = none := fun _ z => absurd z (Nat.lt_irrefl _)
    have hBi : hcell h' ⟨B, 0 + ((i : Nat) : Int).toNat * 1, none⟩ = some (.func (.func (bf i)) #[] (bcap i)) := by
      obtain ⟨c, e, f, q1, q3, q4⟩ := hcell_some (hB1 i hlt)
      rw [show 0 + ((i : Nat) : Int).toNat * 1 = i by simp]
      exact hcell_of (hsub.get _ _ q1 (ne_dum q4)) q4
    (repeat (first | refine EK.seq ?_ | refine EK.region ?_ | refine ER.done ?_ | refine EK.skip ?_ | refine EK.block ?_ | refine ER.move rfl rfl rfl ?_ | refine ER.cmpT rfl rfl rfl rfl rfl (by first | (dsimp only [cmpP]; omega) | exact rfl | exact Int.le_refl _) ?_ | refine ER.indexSl rfl rfl rfl rfl (by omega) (by omega) ?_ | refine EK.condT rfl ?_))
    refine ER.load1 rfl rfl rfl hBi ?_
    refine ER.allocM (X := XF TT L) (i := 0) (fun _ _ _ _ z => .inl z) rfl rfl (hmk _) fun N1 hN1 => ?_
    refine ER.allocM (X := XF TT L) (i := 0) (fun _ _ _ _ z => .inl z) rfl rfl (hmk _) fun N2 hN2 => ?_
    rw [mk_size hN1] at hN2
    have hs1 := hsub.size
    have hst1 : ∀ N o, h.size + 3 <= N -> ¬ (SitM Try.prog (XF TT L)).still γ' ⟨N, o, none⟩ := fun N o hN z => by
      have : L.ro γ'.y N := z.2.1
      rw [hrel.1.stat.ro] at this
      have := (hro N this).2.2.2
      omega
    have gs : Sub h1 ((padTo ((padTo h' N1).push (.cells (Value.int .i64 0).cells 3)) N2).push (.cells Value.nilFunc.cells 39)) := sub_mk (sub_mk hsub hN1) (by rw [mk_size hN1]; exact hN2)
    have g1 : ((padTo ((padTo h' N1).push (.cells (Value.int .i64 0).cells 3)) N2).push (.cells Value.nilFunc.cells 39))[N1]? = some (.cells #[.int .i64 0] 3 (0, 0)) := mk_old (by rw [mk_size hN1]; exact hN2) (mk_new hN1) (by unfold dum; simp)
    have g2 : ((padTo ((padTo h' N1).push (.cells (Value.int .i64 0).cells 3)) N2).push (.cells Value.nilFunc.cells 39))[N2]? = some (.cells #[.nilFunc] 39 (0, 0)) := mk_new (by rw [mk_size hN1]; exact hN2)
    generalize ((padTo ((padTo h' N1).push (.cells (Value.int .i64 0).cells 3)) N2).push (.cells Value.nilFunc.cells 39)) = h3 at gs g1 g2
    refine ER.store1 rfl rfl rfl (by simp [OneCell]) ⟨_, hcell_of g1 rfl⟩ (hfroz_of g1) (hst1 _ _ (by omega)) ?_
    have gn : N2 ≠ N1 := by omega
    have g3 : (hset h3 ⟨N1, 0, none⟩ (.int .i64 i))[N2]? = some (.cells #[.nilFunc] 39 (0, 0)) := by rw [hset_ne _ _ _ (show N1 ≠ N2 from fun z => gn z.symm)]; exact g2
    refine ER.store1 rfl rfl rfl (by simp [OneCell]) ⟨_, hcell_of g3 rfl⟩ (hfroz_of g3) (hst1 _ _ (by omega)) ?_
    have k1 : hcell (hset (hset h3 ⟨N1, 0, none⟩ (.int .i64 i)) ⟨N2, 0, none⟩ (.func (.func (bf i)) #[] (bcap i))) ⟨N1, 0, none⟩ = some (.int .i64 i) := by
      have := hcell_hset_same (v := .int .i64 i) (hcell_of (off := 0) g1 rfl)
      unfold TJ.hcell at this ⊢
      rw [hset_ne _ _ _ (show N2 ≠ N1 from gn)]
      exact this
    have k2 : hcell (hset (hset h3 ⟨N1, 0, none⟩ (.int .i64 i)) ⟨N2, 0, none⟩ (.func (.func (bf i)) #[] (bcap i))) ⟨N2, 0, none⟩ = some (.func (.func (bf i)) #[] (bcap i)) := hcell_hset_same (hcell_of g3 rfl)
    have ks : Sub h1 (hset (hset h3 ⟨N1, 0, none⟩ (.int .i64 i)) ⟨N2, 0, none⟩ (.func (.func (bf i)) #[] (bcap i))) := sub_set (sub_set gs (by omega)) (by omega)
    generalize hset (hset h3 ⟨N1, 0, none⟩ (.int .i64 i)) ⟨N2, 0, none⟩ (.func (.func (bf i)) #[] (bcap i)) = h4 at k1 k2 ks
    (repeat (first | refine EK.seq ?_ | refine EK.region ?_ | refine ER.done ?_))
    refine ER.load1 rfl rfl rfl k2 ?_
    (repeat (first | refine EK.seq ?_ | refine EK.region ?_ | refine ER.done ?_ | refine EK.skip ?_ | refine ER.eqV rfl rfl rfl rfl rfl ?_ | refine EK.condF rfl ?_))
    refine ER.callR rfl rfl rfl rfl rfl (madd_ok hL hM) ?_
    rintro v h5 ⟨d5, γ5⟩ ⟨rfl, rfl, e5, r5, hM5⟩
    simp only at e5 r5 hM5
    subst e5
    (repeat (first | refine EK.region ?_ | refine ER.done ?_))
    refine ER.makeF rfl rfl rfl rfl rfl rfl ?_
    refine ER.hireM (fn := Try.f25) (m := i + 1) hL rfl (fun x => !(x == N1 || x == N2)) (fun x => x == N1 || x == N2 || r x) rfl rfl rfl hM5 (by omega) (fun y hy x q1 q2 _ => ?_) (fun γ₂ q1 j1 a1 w1 => ?_) fun γ₂ q1 hM6 => ?_
    · have hx : L.ro y₀ x := (hr x).1 (by
        simp only [Bool.not_eq_true', Bool.or_eq_true, Bool.or_eq_false_iff] at q1 q2
        rcases q2 with q2 | q2
        · rcases q2 with q2 | q2
          · rw [q1.1] at q2; cases q2
          · rw [q1.2] at q2; cases q2
        · exact q2)
      have st := (hrel.1.stat.trans r5.1.stat).trans hy.1.stat
      obtain ⟨z1, z2, z4, z3⟩ := hro x hx
      exact ⟨by rw [st.ro]; exact hx, by rw [st.cls]; exact z1, by rw [st.arrT]; exact z2, by rw [st.atT]; exact z4, by omega⟩
    · have hsr : ∀ x o, L.ro y₀ x -> (frH h n)[x]? = some o -> o ≠ dum -> (onlyB h5 fun x => x == N1 || x == N2 || r x)[x]? = some o := fun x o hx ho hd => onlyB_has (ks.get x o (hro1 x o hx ho) hd) (by rw [(hr x).2 hx]; simp)
      have hsr' : ∀ x o, L.ro y₀ x -> (frH h n)[x]? = some o -> (onlyB h5 fun x => x == N1 || x == N2 || r x)[x]? = some o := fun x o hx ho => hsr x o hx ho (by
        obtain ⟨c, e, f, z1, o', z2, z3⟩ := s.ro x hx
        rw [ho] at z2
        obtain rfl := Option.some.inj z2
        exact z3)
      have kV := hcell_of (off := 0) (hsr' _ _ hV (frH_at h n).2.1) rfl
      have kk : ∀ N v, (N = N1 \/ N = N2) -> hcell h5 ⟨N, 0, none⟩ = some v -> hcell (onlyB h5 fun x => x == N1 || x == N2 || r x) ⟨N, 0, none⟩ = some v := fun N v hN hv => by
        obtain ⟨c, e, f, z1, z3, z4⟩ := hcell_some hv
        exact hcell_of (onlyB_has z1 (by rcases hN with rfl | rfl <;> simp)) z4
      have q2 : LRel L (i + 1) y₀ γ₂.y := ((hrel.trans hL r5).2 (i + 1) (Nat.le_refl _)).trans hL q1
      refine (free1_ok (T := TT) (δ := ⟨0, γ₂⟩) (F := h.size) (n := n) (k := i) hL a1 w1 rfl kV (kk N1 _ (.inl rfl) k1) hlt (kk N2 _ (.inr rfl) k2) (hbody i hlt _ γ₂ N1 (by omega) (kk N1 _ (.inl rfl) k1) hsr' q2 j1 a1 w1)).mono ?_
      rintro (v | pp) h' δ' hx
      · exact hx
      · exact hx.elim
    · (repeat (first | refine EK.region ?_ | refine ER.done ?_ | refine EK.inBlock ?_ | refine ER.move rfl rfl rfl ?_ | refine ER.add (kd := .i64) rfl rfl rfl rfl (i64_in (by omega) (by omega)) ?_))
      refine EK.sub ?_ (hback (i + 1) _ _ (by omega) ⟨hlt, sub_only ks (fun x hx => by simp; omega), rfl, hM6, ((hrel.trans hL r5).up (Nat.le_succ _)).trans hL q1⟩)
      exact ⟨rfl, rfl, rfl, rfl, rfl, rfl, trivial⟩
  · obtain rfl : i = n := by omega
    (repeat (first | refine EK.seq ?_ | refine EK.region ?_ | refine ER.done ?_ | refine ER.cmpF rfl rfl rfl rfl rfl (by first | (dsimp only [cmpP]; omega) | exact rfl | exact Int.le_refl _) ?_ | refine EK.condF rfl ?_ | refine EK.exit rfl ?_))
    refine ER.callR rfl rfl rfl rfl rfl (wait_ok hL hM rfl) ?_
    rintro v h6 ⟨d6, γ6⟩ ⟨rfl, e6, y₁, q1, ⟨γ₁, H, k1, k2, k3, k4, k5, k6, k7, k8, rfl⟩, b2, b3⟩
    simp only at e6 b2 b3
    subst e6
    have hrel1 : LRel L 0 y₀ γ₁.y := ((hrel.trans hL q1).1).trans hL k1.1
    have hof : ∀ x o, (frH h i)[x]? = some o -> o ≠ dum -> p x = true -> H[x]? = some o := fun x o ho hd hx => k6.get x o (hsub.get x o (by rw [<- hh1]; exact onlyB_has ho hx) hd) hd
    have hVW : H[h.size + 1]? = some (.cells #[.slice (some ⟨h.size, 0, none⟩) i i] 63 (0, 0)) := hof _ _ (frH_at h i).2.1 (by unfold dum; simp) ((hp _).2 ⟨(hro _ hV).1, (hro _ hV).2.1, (hro _ hV).2.2.1, by omega⟩)
    have hFW : H[h.size]? = some (.cells (Array.replicate i (.bool false)) 4 (0, 0)) := by
      have := k5.arr h.size _ (by rw [hrel1.stat.arrT]; exact hF)
      rwa [hfall _ k5.j.law hrel1] at this
    have hV6 : (H.setIfInBounds (h.size + 2) dum)[h.size + 1]? = some (.cells #[.slice (some ⟨h.size, 0, none⟩) i i] 63 (0, 0)) := by rw [Array.getElem?_setIfInBounds_ne (by omega)]; exact hVW
    have hF6 : (H.setIfInBounds (h.size + 2) dum)[h.size]? = some (.cells (Array.replicate i (.bool false)) 4 (0, 0)) := by rw [Array.getElem?_setIfInBounds_ne (by omega)]; exact hFW
    have hfreed : Freed L y₀ h i (H.setIfInBounds (h.size + 2) dum) γ6 := ⟨⟨γ₁, H, hrel1, k2, k4, k5, fun x o ho hd h1 h2 h4 h3 => hof x o ho hd ((hp x).2 ⟨h1, h2, h4, h3⟩), k7, k8, rfl⟩, b2, b3⟩
    generalize H.setIfInBounds (h.size + 2) dum = h6 at hV6 hF6 hfreed
    (repeat (first | refine EK.seq ?_ | refine EK.region ?_ | refine ER.done ?_ | refine EK.block ?_ | refine ER.move rfl rfl rfl ?_ | refine ER.assign rfl rfl rfl ?_ | refine ER.load1 rfl rfl rfl (hcell_of (by assumption) rfl) ?_ | refine ER.len1 rfl rfl rfl ?_))
    refine EK.loopInv (fun j : Nat => [(31, .int .i64 j), (30, .int .i64 i), (29, .slice (some ⟨h.size, 0, none⟩) i i), (7, .slice none 0 0)]) (fun j h' δ' => j <= i /\ h' = h6 /\ δ' = ⟨0, γ6⟩) (fun j => i - j) 0 ⟨rfl, rfl, rfl, rfl, trivial⟩ ⟨Nat.zero_le _, rfl, rfl⟩ ?_
    rintro j h' δ' ⟨hj, rfl, rfl⟩ again
    rcases Nat.lt_or_ge j i with hlt | hge
    · have hc : hcell h' ⟨h.size, 0 + ((j : Nat) : Int).toNat * 1, none⟩ = some (.bool false) := by
        rw [show 0 + ((j : Nat) : Int).toNat * 1 = j by simp]
        exact hcell_of hF6 (by rw [Array.getElem?_replicate, if_pos hlt])
      (repeat (first | refine EK.seq ?_ | refine EK.region ?_ | refine ER.done ?_ | refine EK.skip ?_ | refine EK.block ?_ | refine ER.move rfl rfl rfl ?_ | refine ER.cmpT rfl rfl rfl rfl rfl (by first | (dsimp only [cmpP]; omega) | exact rfl | exact Int.le_refl _) ?_ | refine ER.indexSl rfl rfl rfl rfl (by omega) (by omega) ?_ | refine EK.condT rfl ?_))
      refine ER.load1 rfl rfl rfl hc ?_
      (repeat (first | refine EK.seq ?_ | refine EK.region ?_ | refine ER.done ?_ | refine EK.skip ?_ | refine EK.inBlock ?_ | refine ER.move rfl rfl rfl ?_ | refine ER.assign rfl rfl rfl ?_ | refine ER.add (kd := .i64) rfl rfl rfl rfl (i64_in (by omega) (by omega)) ?_ | refine EK.condF rfl ?_))
      refine EK.sub ?_ (again (j + 1) _ _ (by omega) ⟨hlt, rfl, rfl⟩)
      exact ⟨rfl, rfl, rfl, rfl, trivial⟩
    · (repeat (first | refine EK.seq ?_ | refine EK.region ?_ | refine ER.done ?_ | refine ER.move rfl rfl rfl ?_ | refine ER.assign rfl rfl rfl ?_ | refine ER.cmpF rfl rfl rfl rfl rfl (by first | (dsimp only [cmpP]; omega) | exact rfl | exact Int.le_refl _) ?_ | refine EK.condF rfl ?_ | refine EK.ret ?_ | refine EK.exit rfl ?_))
      exact EU.ret1 rfl rfl ⟨rfl, rfl, hfreed⟩
end
end
section
open Go Go.TJ Go.Proofs
variable [Dm]
abbrev ptr (b : Nat) : Value := .pointer (some ⟨b, 0, none⟩)
def t1 {A : Type} (f : Nat -> A) (i : Nat) (x : A) : Nat -> A := fun j => if j = i then x else f j
theorem t1_same {A : Type} {f : Nat -> A} {i : Nat} {x : A} : t1 f i x i = x := if_pos rfl
theorem t1_ne {A : Type} {f : Nat -> A} {i j : Nat} {x : A} (h : j ≠ i) : t1 f i x j = f j := if_neg h
structure TmC where
  n : Nat
  e : Nat
  B : Nat -> Nat
  kb : Nat
  fb : Nat
  A : Nat -> Nat
  cv : Nat
  top : Nat
  ro : Nat -> Prop
structure TmY where
  c : TmC
  v : Nat -> Int
  s : Nat -> Nat
  fv : Nat -> Value
  ow : Nat -> Nat
  rr : Nat -> Nat
  bg : Nat -> Hp
  a : Nat -> Int
  k : Nat -> Nat
  ps : Nat -> Nat
  pt : Nat -> Nat
  bd : Nat -> Nat
abbrev TmC.clos (c : TmC) (d : Nat) : Value := .func (.func 8) #[] #[ptr (c.A 2), ptr c.cv, ptr d, ptr (c.A 3)]
def dueO (z : Int) : Obj := .cells #[.int .i64 z] 2 (0, 0)
def bagH (d : Nat) (z : Int) : Hp := (Array.replicate d dum).push (dueO z)
def TmY.st (y : TmY) (k : Nat) : Nat := y.c.B (2 + 2 * k)
def TmY.du (y : TmY) (k : Nat) : Int := y.v (y.c.B (3 + 2 * k))
def TmY.nw (y : TmY) : Int := y.v (y.c.B 0)
def TmY.bz (y : TmY) : Int := y.v (y.c.B 1)
def occ (s r : Nat) : Nat := if s % 4 = 2 then 1 else if s % 4 = 3 then r else 0
def fOff (k : Nat) : Nat := 2 + k * 3 + 2
def clkA (c : TmC) (fv : Nat -> Value) : Array Value := ((List.range 50).map fun o => if o < 2 then ptr (c.B o) else if (o - 2) % 3 = 0 then ptr (c.B (2 + 2 * ((o - 2) / 3))) else if (o - 2) % 3 = 1 then ptr (c.B (3 + 2 * ((o - 2) / 3))) else fv ((o - 2) / 3)).toArray
structure TmR (i : Nat) (y y' : TmY) : Prop where
  c : y'.c = y.c
  bd : 0 < i -> y'.bd i = y.bd i
  ps : 0 < i -> y'.ps i = y.ps i
  pt : 0 < i -> y'.pt i = y.pt i
  mono : ∀ k, k < 16 -> y.s k <= y'.s k
  same : ∀ k, k < 16 -> y'.s k = y.s k -> y.s k % 4 = 2 -> y'.du k = y.du k
  own : 0 < i -> ∀ k, k < 16 -> y.ow k = i -> y'.ow k = i /\ y'.s k = y.s k /\ y'.fv k = y.fv k /\ y'.du k = y.du k /\ y'.rr k = y.rr k
  nown : 0 < i -> ∀ k, k < 16 -> y'.ow k = i -> y.ow k = i
  adv : i = y.c.n + 1 -> y'.nw = y.nw /\ y'.bz = y.bz
structure TmJ (y : TmY) : Prop where
  inj : ∀ j k, y.c.B j = y.c.B k -> j = k
  ck : ∀ j, j < 34 -> y.c.B j ≠ y.c.kb /\ y.c.B j ≠ y.c.fb /\ ∀ q, q < 4 -> y.c.B j ≠ y.c.A q
  ad : y.c.kb ≠ y.c.fb /\ ∀ q, q < 4 -> y.c.A q ≠ y.c.kb /\ y.c.A q ≠ y.c.fb
  ai : ∀ p q, p < 4 -> q < 4 -> y.c.A p = y.c.A q -> p = q
  n1 : y.c.n <= 6
  e1 : y.c.e <= 19
  rob : ∀ b, y.c.ro b -> b < y.c.top
  sv : ∀ k, k < 16 -> y.v (y.st k) = y.s k
  bnd : ∀ k, k < 16 -> y.s k + 2 * nsum (y.c.n + 2) y.bd <= 200000
  o0 : ∀ k, k < 16 -> y.ow k = 0 -> y.s k % 4 = 0 \/ y.s k % 4 = 2
  o1 : ∀ k, k < 16 -> 0 < y.ow k -> (y.s k % 4 = 1 /\ y.ow k <= y.c.n) \/ (y.s k % 4 = 3 /\ y.ow k = y.c.n + 1)
  set : ∀ k, k < 16 -> y.s k % 4 = 2 -> (∃ d, y.bg (y.st k) = bagH d (y.du k) /\ y.fv k = y.c.clos d /\ y.c.top <= d) /\ 0 <= y.du k /\ y.du k <= 4611686018427387904
  emp : ∀ b, (∀ k, k < 16 -> b = y.st k -> y.s k % 4 ≠ 2) -> y.bg b = #[]
  nw : 0 <= y.nw /\ y.nw <= 4611686018427387904
  av : ∀ q, q < 3 -> y.a (y.c.A q) = y.k q
  a3 : y.a (y.c.A 3) = 0
  kb : ∀ q, q < 3 -> y.k q + nsum (y.c.n + 2) y.bd <= 200000
  sum : y.k 0 + nsum (y.c.n + 2) y.ps = y.k 1 + nsum (y.c.n + 2) y.pt + y.k 2 + nsum 16 fun k => occ (y.s k) (y.rr k)
  p0 : y.ps 0 = 0 /\ y.pt 0 = 0
def tmL : Law TmY where
  cls y := (List.range 34).map y.c.B
  arrT y b := if b = y.c.kb then some 54 else if b = y.c.fb then some 4 else none
  ro y := y.c.ro
  val y := y.v
  arr y b := if b = y.c.kb then clkA y.c y.fv else Array.replicate (y.c.n + 1) (.bool false)
  may y i a w := (a.block = y.c.kb /\ ((w = false /\ ∀ k, k < 16 -> a.off ≠ fOff k) \/ ∃ k, k < 16 /\ a.off = fOff k /\ y.ow k = i /\ 0 < i)) \/ (a.block ≠ y.c.kb /\ a.block = y.c.fb /\ 0 < i /\ a.off = i - 1)
  pairs y := nsum (y.c.n + 2) y.bd
  R := TmR
  J := TmJ
  fin y i _ := 0 < i -> y.ps i = 0 /\ y.pt i = 0 /\ (i = y.c.n + 1 -> y.bz = 0 /\ ∀ k, k < 16 -> y.ow k ≠ i)
  atT y b := if b = y.c.A 0 \/ b = y.c.A 1 \/ b = y.c.A 2 \/ b = y.c.A 3 then some 29 else none
  atv y := y.a
  bag y := y.bg
  bmay y b a := a.block = y.c.kb /\ ∃ k, k < 16 /\ b = y.st k /\ a.off = fOff k /\ y.ow k = 0
theorem fOff_inj {j k : Nat} (h : fOff j = fOff k) : j = k := by unfold fOff at h; omega
theorem tmL_ok : tmL.Ok where
  refl i y := ⟨rfl, fun _ => rfl, fun _ => rfl, fun _ => rfl, fun _ _ => Nat.le_refl _, fun _ _ _ _ => rfl, fun _ _ _ e => ⟨e, rfl, rfl, rfl, rfl⟩, fun _ _ _ e => e, fun _ => ⟨rfl, rfl⟩⟩
  trans i a b c x y := by
    refine ⟨y.c.trans x.c, fun h => (y.bd h).trans (x.bd h), fun h => (y.ps h).trans (x.ps h), fun h => (y.pt h).trans (x.pt h), fun k hk => Nat.le_trans (x.mono k hk) (y.mono k hk), fun k hk e h2 => ?_, fun i0 k hk e => ?_, fun i0 k hk e => x.nown i0 k hk (y.nown i0 k hk e), fun hi => ?_⟩
    · have h1 := x.mono k hk
      have h3 := y.mono k hk
      have e1 : b.s k = a.s k := by omega
      exact (y.same k hk (by omega) (by rw [e1]; exact h2)).trans (x.same k hk e1 h2)
    · obtain ⟨p1, p2, p3, p4, p5⟩ := x.own i0 k hk e
      obtain ⟨q1, q2, q3, q4, q5⟩ := y.own i0 k hk p1
      exact ⟨q1, q2.trans p2, q3.trans p3, q4.trans p4, q5.trans p5⟩
    · obtain ⟨p1, p2⟩ := x.adv hi
      obtain ⟨q1, q2⟩ := y.adv (by rw [x.c]; exact hi)
      exact ⟨q1.trans p1, q2.trans p2⟩
  mayx y i j a w h1 h2 := by
    rcases h1 with ⟨e, ⟨h, _⟩ | ⟨k, hk, ho, hw, _⟩⟩ | ⟨e, _, i0, h⟩
    · cases h
    · rcases h2 with ⟨_, ⟨_, h⟩ | ⟨k', hk', ho', hw', _⟩⟩ | ⟨e', _⟩
      · exact absurd ho (h k hk)
      · have := fOff_inj (ho.symm.trans ho')
        subst this
        exact hw.symm.trans hw'
      · exact absurd e e'
    · rcases h2 with ⟨e', _⟩ | ⟨_, _, j0, h'⟩
      · exact absurd e' e
      · omega
  nodup y h := List.pairwise_map.2 (List.nodup_range.imp fun {a b} hne e => hne (h.inj _ _ e))
  dj y b h hb := by
    obtain ⟨j, hj, rfl⟩ := List.mem_map.1 hb
    obtain ⟨h1, h2, _⟩ := h.ck j (List.mem_range.1 hj)
    show (if _ = y.c.kb then _ else if _ = y.c.fb then _ else none) = none
    rw [if_neg h1, if_neg h2]
  dja y b h hb := by
    have hq : ∃ q, q < 4 /\ b = y.c.A q := by
      have hb' : (if b = y.c.A 0 \/ b = y.c.A 1 \/ b = y.c.A 2 \/ b = y.c.A 3 then some 29 else none : Option TypeId).isSome = true := hb
      split at hb'
      · rename_i e
        rcases e with e | e | e | e
        · exact ⟨0, by omega, e⟩
        · exact ⟨1, by omega, e⟩
        · exact ⟨2, by omega, e⟩
        · exact ⟨3, by omega, e⟩
      · cases hb'
    obtain ⟨q, hq, rfl⟩ := hq
    obtain ⟨h1, h2⟩ := h.ad.2 q hq
    refine ⟨?_, fun hm => ?_⟩
    · show (if _ = y.c.kb then _ else if _ = y.c.fb then _ else none) = none
      rw [if_neg h1, if_neg h2]
    · obtain ⟨j, hj, e⟩ := List.mem_map.1 hm
      exact (h.ck j (List.mem_range.1 hj)).2.2 q hq e
  bmx y b a i w := by
    rintro ⟨e, k, hk, _, ho, hw⟩ (⟨_, ⟨_, h⟩ | ⟨k', _, ho', hw', i0⟩⟩ | ⟨e', _⟩)
    · exact h k hk ho
    · have := fOff_inj (ho.symm.trans ho')
      subst this
      omega
    · exact e' e
  bm2 y b b' a := by
    rintro ⟨_, k, _, rfl, ho, _⟩ ⟨_, k', _, rfl, ho', _⟩
    have := fOff_inj (ho.symm.trans ho')
    subst this
    rfl
theorem tm_stat {y y' : TmY} (h : y'.c = y.c) : Stt tmL y y' := by
  refine ⟨?_, ?_, ?_, ?_⟩ <;> (simp only [tmL]; rw [h])
theorem tm_cls {y : TmY} {j : Nat} (h : j < 34) : y.c.B j ∈ tmL.cls y := List.mem_map.2 ⟨j, List.mem_range.2 h, rfl⟩
theorem tm_fin {y y' : TmY} {i : Nat} (h : ∀ j, j ≠ i -> TmR j y y') : ∀ j hf, j ≠ i -> tmL.fin y j hf -> tmL.fin y' j hf := by
  intro j hf hj hh j0
  obtain ⟨h1, h2, h4⟩ := hh j0
  have r := h j hj
  refine ⟨(r.ps j0).trans h1, (r.pt j0).trans h2, fun e => ?_⟩
  rw [r.c] at e
  exact ⟨(r.adv e).2.trans (h4 e).1, fun k hk e' => (h4 e).2 k hk (r.nown j0 k hk e')⟩
theorem tm_bd {y : TmY} {i : Nat} {bd' : Nat -> Nat} (hi : i <= y.c.n + 1) (hb : 0 < y.bd i) (e : bd' = t1 y.bd i (y.bd i - 1)) : nsum (y.c.n + 2) bd' + 1 = nsum (y.c.n + 2) y.bd := by
  subst e
  have := nsum_upd (y.c.n + 2) (t1 y.bd i (y.bd i - 1)) y.bd i (by omega) fun j _ hj => t1_ne hj
  rw [t1_same] at this
  omega
section
variable {y : TmY} {i : Nat}
def slotY (y : TmY) (i k s' o' r' : Nat) (g : Hp) (p q : Nat) : TmY := { y with v := t1 y.v (y.st k) (s' : Int), s := t1 y.s k s', ow := t1 y.ow k o', rr := t1 y.rr k r', bg := t1 y.bg (y.st k) g, ps := t1 y.ps i p, pt := t1 y.pt i q, bd := t1 y.bd i (y.bd i - 1) }
structure SlotM (y : TmY) (i k s' o' r' : Nat) (g : Hp) (p q : Nat) : Prop where
  hk : k < 16
  i0 : 0 < i
  hi : i <= y.c.n + 1
  bd : 0 < y.bd i
  lt : y.s k < s'
  le : s' <= y.s k + 2
  ow : y.ow k = 0 \/ y.ow k = i
  ow' : o' = 0 \/ o' = i
  o0 : o' = 0 -> s' % 4 = 0 \/ s' % 4 = 2
  o1 : 0 < o' -> (s' % 4 = 1 /\ o' <= y.c.n) \/ (s' % 4 = 3 /\ o' = y.c.n + 1)
  set : s' % 4 = 2 -> (∃ d, g = bagH d (y.du k) /\ y.fv k = y.c.clos d /\ y.c.top <= d) /\ 0 <= y.du k /\ y.du k <= 4611686018427387904
  emp : s' % 4 ≠ 2 -> g = #[]
  sum : p + y.pt i + occ (y.s k) (y.rr k) = y.ps i + q + occ s' r'
variable {k s' o' r' p q : Nat} {g : Hp}
theorem slot_v (hJ : TmJ y) {j : Nat} (h : j ≠ 2 + 2 * k) : (slotY y i k s' o' r' g p q).v (y.c.B j) = y.v (y.c.B j) := t1_ne fun e => h (hJ.inj _ _ e)
theorem slot_du (hJ : TmJ y) (j : Nat) : (slotY y i k s' o' r' g p q).du j = y.du j := slot_v hJ (by omega)
theorem slot_J (hJ : TmJ y) (m : SlotM y i k s' o' r' g p q) : TmJ (slotY y i k s' o' r' g p q) := by
  have hbd := tm_bd m.hi m.bd (rfl : t1 y.bd i (y.bd i - 1) = _)
  have m1 := m.lt
  have m2 := m.le
  have mi := m.hi
  refine ⟨hJ.inj, hJ.ck, hJ.ad, hJ.ai, hJ.n1, hJ.e1, hJ.rob, fun j hj => ?_, fun j hj => ?_, fun j hj e => ?_, fun j hj e => ?_, fun j hj e => ?_, fun b hb => ?_, ?_, hJ.av, hJ.a3, fun j hj => ?_, ?_, ?_⟩
  · by_cases e : j = k
    · subst e
      show t1 y.v (y.st j) (s' : Int) (y.st j) = ((t1 y.s j s' j : Nat) : Int)
      rw [t1_same, t1_same]
    · show t1 y.v (y.st k) (s' : Int) (y.st j) = ((t1 y.s k s' j : Nat) : Int)
      rw [t1_ne e, t1_ne fun z => e (by have := hJ.inj _ _ z; omega)]
      exact hJ.sv j hj
  · show t1 y.s k s' j + 2 * nsum (y.c.n + 2) (t1 y.bd i (y.bd i - 1)) <= 200000
    have h1 := hJ.bnd j hj
    by_cases e : j = k
    · subst e; rw [t1_same]; omega
    · rw [t1_ne e]; omega
  · have e' : t1 y.ow k o' j = 0 := e
    show t1 y.s k s' j % 4 = 0 \/ t1 y.s k s' j % 4 = 2
    by_cases z : j = k
    · subst z; rw [t1_same] at e' ⊢; exact m.o0 e'
    · rw [t1_ne z] at e' ⊢; exact hJ.o0 j hj e'
  · have e' : 0 < t1 y.ow k o' j := e
    show (t1 y.s k s' j % 4 = 1 /\ t1 y.ow k o' j <= y.c.n) \/ (t1 y.s k s' j % 4 = 3 /\ t1 y.ow k o' j = y.c.n + 1)
    by_cases z : j = k
    · subst z; rw [t1_same] at e' ⊢; rw [t1_same]; exact m.o1 e'
    · rw [t1_ne z] at e' ⊢; rw [t1_ne z]; exact hJ.o1 j hj e'
  · rw [slot_du hJ]
    have e' : t1 y.s k s' j % 4 = 2 := e
    show (∃ d, t1 y.bg (y.st k) g (y.st j) = bagH d (y.du j) /\ y.fv j = y.c.clos d /\ y.c.top <= d) /\ _
    by_cases z : j = k
    · subst z; rw [t1_same] at e' ⊢; exact m.set e'
    · rw [t1_ne z] at e'
      rw [t1_ne fun w => z (by have := hJ.inj _ _ w; omega)]
      exact hJ.set j hj e'
  · have hb' : ∀ j, j < 16 -> b = y.st j -> t1 y.s k s' j % 4 ≠ 2 := hb
    show t1 y.bg (y.st k) g b = #[]
    by_cases z : b = y.st k
    · have := hb' k m.hk z
      rw [t1_same] at this
      rw [z, t1_same]
      exact m.emp this
    · rw [t1_ne z]
      refine hJ.emp b fun j hj e => ?_
      have := hb' j hj e
      rwa [t1_ne fun w => z (by rw [e, w])] at this
  · show 0 <= (slotY y i k s' o' r' g p q).v (y.c.B 0) /\ (slotY y i k s' o' r' g p q).v (y.c.B 0) <= _
    rw [slot_v hJ (by omega)]
    exact hJ.nw
  · have := hJ.kb j hj
    show y.k j + nsum (y.c.n + 2) (t1 y.bd i (y.bd i - 1)) <= 200000
    omega
  · have h0 := hJ.sum
    have h1 := nsum_upd (y.c.n + 2) (t1 y.ps i p) y.ps i (by omega) fun j _ hj => t1_ne hj
    have h2 := nsum_upd (y.c.n + 2) (t1 y.pt i q) y.pt i (by omega) fun j _ hj => t1_ne hj
    have h3 := nsum_upd 16 (fun j => occ (t1 y.s k s' j) (t1 y.rr k r' j)) (fun j => occ (y.s j) (y.rr j)) k m.hk fun j _ hj => by rw [t1_ne hj, t1_ne hj]
    have h4 := m.sum
    rw [t1_same] at h1 h2
    simp only [t1_same] at h3
    show y.k 0 + nsum (y.c.n + 2) (t1 y.ps i p) = y.k 1 + nsum (y.c.n + 2) (t1 y.pt i q) + y.k 2 + nsum 16 fun j => occ (t1 y.s k s' j) (t1 y.rr k r' j)
    omega
  · have i0 := m.i0
    show t1 y.ps i p 0 = 0 /\ t1 y.pt i q 0 = 0
    rw [t1_ne (by omega), t1_ne (by omega)]
    exact hJ.p0
theorem slot_R (hJ : TmJ y) (m : SlotM y i k s' o' r' g p q) : ∀ j, j ≠ i -> TmR j y (slotY y i k s' o' r' g p q) := by
  intro j hj
  have m1 := m.lt
  refine ⟨rfl, fun _ => t1_ne hj, fun _ => t1_ne hj, fun _ => t1_ne hj, fun x hx => ?_, fun x hx e h2 => slot_du hJ x, fun j0 x hx e => ?_, fun j0 x hx e => ?_, fun _ => ⟨slot_v hJ (by omega), slot_v hJ (by omega)⟩⟩
  · show y.s x <= t1 y.s k s' x
    by_cases z : x = k
    · subst z; rw [t1_same]; omega
    · rw [t1_ne z]; exact Nat.le_refl _
  · have z : x ≠ k := fun z => by subst z; have := m.ow; omega
    exact ⟨(t1_ne z).trans e, t1_ne z, rfl, slot_du hJ x, t1_ne z⟩
  · have e' : t1 y.ow k o' x = j := e
    by_cases z : x = k
    · subst z; rw [t1_same] at e'; have := m.ow'; omega
    · rwa [t1_ne z] at e'
theorem slot_hand {rd : Bool} {h h' : Hp} (hJ : TmJ y) (m : SlotM y i k s' o' r' g p q) (hrd : y.ow k = 0 -> rd = true) (got : ∀ (x : Nat) (o : Obj), h'[x]? = some o -> o ≠ dum -> h[x]? = some o \/ (rd = true /\ (y.bg (y.st k))[x]? = some o))
    (put : ∀ (x : Nat) (o : Obj), g[x]? = some o -> o ≠ dum -> ¬ y.c.ro x /\ (h[x]? = some o \/ (rd = true /\ (y.bg (y.st k))[x]? = some o))) (dj : ∀ x, Pres h' x -> ¬ Pres g x) (sz : h'.size <= max h.size (y.bg (y.st k)).size) (szb : g.size <= max h.size (y.bg (y.st k)).size) :
    LHand tmL i (y.st k) rd y (slotY y i k s' o' r' g p q) h h' := by
  have hR := slot_R hJ m
  have eb : (slotY y i k s' o' r' g p q).bg (y.st k) = g := t1_same
  refine ⟨⟨tm_stat rfl, hR, Nat.le_of_eq (tm_bd m.hi m.bd rfl), fun x hx => t1_ne hx, rfl, slot_J hJ m, tm_fin hR, rfl⟩, fun x hx => t1_ne hx, fun x a hx hb => ?_, got, ?_, ?_, sz, ?_, fun j a w hm => ?_, fun a hb => ?_, fun e => ?_⟩
  · obtain ⟨e1, z, hz, e2, e3, e4⟩ := hb
    refine ⟨e1, z, hz, e2, e3, ?_⟩
    have e4' : t1 y.ow k o' z = 0 := e4
    rwa [t1_ne fun w => hx (by rw [e2, w]; rfl)] at e4'
  · show ∀ x o, ((slotY y i k s' o' r' g p q).bg (y.st k))[x]? = some o -> _
    rw [eb]; exact put
  · show ∀ x, Pres h' x -> ¬ Pres ((slotY y i k s' o' r' g p q).bg (y.st k)) x
    rw [eb]; exact dj
  · show ((slotY y i k s' o' r' g p q).bg (y.st k)).size <= _
    rw [eb]; exact szb
  · rcases hm with ⟨e1, ⟨e2, e3⟩ | ⟨z, hz, e2, e3, j0⟩⟩ | hm
    · exact .inl (.inl ⟨e1, .inl ⟨e2, e3⟩⟩)
    · have e3' : t1 y.ow k o' z = j := e3
      by_cases w' : z = k
      · subst w'
        rw [t1_same] at e3'
        have ji : j = i := by have := m.ow'; omega
        refine .inr ⟨ji, ?_⟩
        rcases m.ow with q1 | q1
        · exact .inr ⟨hrd q1, e1, z, hz, rfl, e2, q1⟩
        · exact .inl (.inl ⟨e1, .inr ⟨z, hz, e2, q1, m.i0⟩⟩)
      · rw [t1_ne w'] at e3'
        exact .inl (.inl ⟨e1, .inr ⟨z, hz, e2, e3', j0⟩⟩)
    · exact .inl (.inr hm)
  · obtain ⟨e1, z, hz, e2, e3, e4⟩ := hb
    have w' : z = k := by have := hJ.inj _ _ e2; omega
    subst w'
    rcases m.ow with q1 | q1
    · exact .inr ⟨hrd q1, e1, z, hz, rfl, e3, q1⟩
    · exact .inl (.inl ⟨e1, .inr ⟨z, hz, e3, q1, m.i0⟩⟩)
  · have q1 : y.ow k = i := m.ow.resolve_left fun z => by rw [hrd z] at e; cases e
    have i0 := m.i0
    have h1 := hJ.o1 k m.hk (by omega)
    have he : tmL.bag y (y.st k) = #[] := hJ.emp _ fun z hz ez => by
      have := hJ.inj _ _ ez
      have : z = k := by omega
      subst this
      omega
    refine ⟨fun x hx => ?_, fun a hb => ?_⟩
    · rw [he] at hx; exact absurd hx (not_pres_empty x)
    · obtain ⟨_, z, hz, e2, _, e4⟩ := hb
      have := hJ.inj _ _ e2
      have : z = k := by omega
      subst this
      omega
end
end
section
open Go Go.TJ Go.Proofs
variable [Dm]
theorem dueO_ne (z : Int) : dueO z ≠ dum := by unfold dueO dum; simp
theorem bagH_get {d x : Nat} {z : Int} {o : Obj} (h : (bagH d z)[x]? = some o) (ho : o ≠ dum) : x = d /\ o = dueO z := by
  unfold bagH at h
  rw [Array.getElem?_push] at h
  split at h
  · rename_i e
    simp at e
    exact ⟨e, (Option.some.inj h).symm⟩
  · rw [Array.getElem?_replicate] at h
    split at h
    · exact absurd (Option.some.inj h).symm ho
    · cases h
theorem bagH_at (d : Nat) (z : Int) : (bagH d z)[d]? = some (dueO z) := by
  unfold bagH
  rw [Array.getElem?_push, if_pos (by simp)]
theorem bagH_size (d : Nat) (z : Int) : (bagH d z).size = d + 1 := by simp [bagH]
def lose (h : Hp) (d : Nat) : Hp := h.setIfInBounds d dum
theorem lose_get {h : Hp} {d x : Nat} {o : Obj} : (lose h d)[x]? = some o -> o ≠ dum -> x ≠ d /\ h[x]? = some o := fun h1 h2 => by
  unfold lose at h1
  by_cases e : d = x
  · subst e
    rw [Array.getElem?_setIfInBounds] at h1
    simp at h1
    exact absurd h1.2.symm h2
  · rw [Array.getElem?_setIfInBounds_ne e] at h1
    exact ⟨fun z => e z.symm, h1⟩
theorem lose_ne {h : Hp} {d x : Nat} (e : x ≠ d) : (lose h d)[x]? = h[x]? := Array.getElem?_setIfInBounds_ne fun z => e z.symm
theorem lose_size {h : Hp} {d : Nat} : (lose h d).size = h.size := Array.size_setIfInBounds
def gain (h : Hp) (d : Nat) (z : Int) : Hp := (padTo h (d + 1)).setIfInBounds d (dueO z)
theorem pad_size (h : Hp) (n : Nat) : (padTo h n).size = max h.size n := by simp [padTo]; omega
theorem gain_size {h : Hp} {d : Nat} {z : Int} : (gain h d z).size = max h.size (d + 1) := by
  unfold gain; rw [Array.size_setIfInBounds, pad_size]
theorem gain_at (h : Hp) (d : Nat) (z : Int) : (gain h d z)[d]? = some (dueO z) := by
  unfold gain
  exact Array.getElem?_setIfInBounds_self_of_lt (by rw [pad_size]; omega)
theorem gain_get {h : Hp} {d x : Nat} {z : Int} {o : Obj} (h1 : (gain h d z)[x]? = some o) (h2 : o ≠ dum) : h[x]? = some o \/ (x = d /\ o = dueO z) := by
  unfold gain at h1
  by_cases e : d = x
  · subst e
    rw [Array.getElem?_setIfInBounds_self_of_lt (by rw [pad_size]; omega)] at h1
    exact .inr ⟨rfl, (Option.some.inj h1).symm⟩
  · rw [Array.getElem?_setIfInBounds_ne e] at h1
    exact .inl ((padTo_get h2).1 h1)
theorem gain_sub {h H : Hp} {d : Nat} {z : Int} (p1 : Part False h H) (p2 : Part False (bagH d z) H) : Sub h (gain h d z) := by
  refine ⟨fun b o h1 h2 => ?_, by rw [gain_size]; exact Nat.le_max_left _ _⟩
  by_cases e : b = d
  · subst e
    have q1 := p1.get b o h1 h2
    have q2 := p2.get b _ (bagH_at b z) (dueO_ne z)
    rw [gain_at, <- q2, q1]
  · unfold gain
    rw [Array.getElem?_setIfInBounds_ne (fun w => e w.symm)]
    exact (padTo_get h2).2 h1
section
variable {y : TmY} {i k : Nat}
theorem TmJ.ow0 (hJ : TmJ y) (hk : k < 16) (h : y.s k % 4 = 0 \/ y.s k % 4 = 2) : y.ow k = 0 := by
  refine Classical.byContradiction fun hn => ?_
  have := hJ.o1 k hk (by omega)
  omega
theorem occ0 {s r : Nat} (h : s % 4 = 0 \/ s % 4 = 1) : occ s r = 0 := by unfold occ; rw [if_neg (by omega), if_neg (by omega)]
theorem occ2 {s r : Nat} (h : s % 4 = 2) : occ s r = 1 := if_pos h
theorem occ3 {s r : Nat} (h : s % 4 = 3) : occ s r = r := by unfold occ; rw [if_neg (by omega), if_pos h]
def claimY (y : TmY) (i k : Nat) : TmY := slotY y i k (y.s k + 1) i (y.rr k) #[] (y.ps i) (y.pt i)
theorem claim_hand {h : Hp} (hJ : TmJ y) (hk : k < 16) (i0 : 0 < i) (hi : i <= y.c.n) (hb : 0 < y.bd i) (h0 : y.s k % 4 = 0) : LHand tmL i (y.st k) true y (claimY y i k) h h :=
  slot_hand hJ ⟨hk, i0, by omega, hb, by omega, by omega, .inl (hJ.ow0 hk (.inl h0)), .inr rfl, fun z => by omega, fun _ => .inl ⟨by omega, hi⟩, fun z => by omega, fun _ => rfl, by rw [occ0 (.inl h0), occ0 (by omega)]⟩ (fun _ => rfl) (fun x o h1 _ => .inl h1) (fun x o h1 _ => by simp at h1) (fun x _ h2 => not_pres_empty x h2) (Nat.le_max_left _ _) (Nat.zero_le _)
def fvY (y : TmY) (k : Nat) (f : Value) : TmY := { y with fv := t1 y.fv k f }
theorem clkA_get {c : TmC} {fv : Nat -> Value} {o : Nat} : (clkA c fv)[o]? = if o < 50 then some (if o < 2 then ptr (c.B o) else if (o - 2) % 3 = 0 then ptr (c.B (2 + 2 * ((o - 2) / 3))) else if (o - 2) % 3 = 1 then ptr (c.B (3 + 2 * ((o - 2) / 3))) else fv ((o - 2) / 3)) else none := by
  unfold clkA
  rw [List.getElem?_toArray, List.getElem?_map]
  by_cases e : o < 50
  · rw [List.getElem?_range e, if_pos e]; rfl
  · rw [if_neg e, List.getElem?_eq_none (by simp; omega)]; rfl
theorem clkA_set {c : TmC} {fv : Nat -> Value} {f : Value} (hk : k < 16) : clkA c (t1 fv k f) = (clkA c fv).setIfInBounds (fOff k) f := by
  refine Array.ext_getElem? fun o => ?_
  have hs : (clkA c fv).size = 50 := by simp [clkA]
  by_cases e : fOff k = o
  · subst e
    rw [Array.getElem?_setIfInBounds_self_of_lt (by rw [hs]; unfold fOff; omega), clkA_get]
    unfold fOff
    rw [if_pos (by omega), if_neg (by omega), if_neg (by omega), if_neg (by omega), show (2 + k * 3 + 2 - 2) / 3 = k by omega, t1_same]
  · rw [Array.getElem?_setIfInBounds_ne e, clkA_get, clkA_get]
    unfold fOff at e
    split
    · split
      · rfl
      · split
        · rfl
        · split
          · rfl
          · rw [t1_ne (by omega)]
    · rfl
theorem clkA_now {c : TmC} {fv : Nat -> Value} {j : Nat} (hj : j < 2) : (clkA c fv)[j]? = some (ptr (c.B j)) := by
  rw [clkA_get, if_pos (by omega), if_pos hj]
theorem clkA_st {c : TmC} {fv : Nat -> Value} (hk : k < 16) : (clkA c fv)[2 + k * 3]? = some (ptr (c.B (2 + 2 * k))) := by
  rw [clkA_get, if_pos (by omega), if_neg (by omega), if_pos (by omega), show (2 + k * 3 - 2) / 3 = k by omega]
theorem clkA_du {c : TmC} {fv : Nat -> Value} (hk : k < 16) : (clkA c fv)[2 + k * 3 + 1]? = some (ptr (c.B (3 + 2 * k))) := by
  rw [clkA_get, if_pos (by omega), if_neg (by omega), if_neg (by omega), if_pos (by omega), show (2 + k * 3 + 1 - 2) / 3 = k by omega]
theorem clkA_f {c : TmC} {fv : Nat -> Value} (hk : k < 16) : (clkA c fv)[fOff k]? = some (fv k) := by
  unfold fOff
  rw [clkA_get, if_pos (by omega), if_neg (by omega), if_neg (by omega), if_neg (by omega), show (2 + k * 3 + 2 - 2) / 3 = k by omega]
theorem fv_move {f : Value} (hJ : TmJ y) (hk : k < 16) (i0 : 0 < i) (ho : y.ow k = i) : AMove tmL i y.c.kb (fOff k) f y (fvY y k f) := by
  have h13 := hJ.o1 k hk (by omega)
  have hR : ∀ j, j ≠ i -> TmR j y (fvY y k f) := fun j hj => ⟨rfl, fun _ => rfl, fun _ => rfl, fun _ => rfl, fun _ _ => Nat.le_refl _, fun _ _ _ _ => rfl, fun j0 x hx e => ⟨e, rfl, t1_ne fun z => hj (by subst z; exact e.symm.trans ho), rfl, rfl⟩, fun _ _ _ e => e, fun _ => ⟨rfl, rfl⟩⟩
  have hJ' : TmJ (fvY y k f) := ⟨hJ.inj, hJ.ck, hJ.ad, hJ.ai, hJ.n1, hJ.e1, hJ.rob, hJ.sv, hJ.bnd, hJ.o0, hJ.o1, fun j hj e => by
    have e' : y.s j % 4 = 2 := e
    have : j ≠ k := fun z => by subst z; omega
    obtain ⟨⟨d, q1, q2, q3⟩, q4⟩ := hJ.set j hj e
    exact ⟨⟨d, q1, (t1_ne this).trans q2, q3⟩, q4⟩, hJ.emp, hJ.nw, hJ.av, hJ.a3, hJ.kb, hJ.sum, hJ.p0⟩
  refine ⟨tm_stat rfl, hR, Nat.le_refl _, rfl, fun x hx => ?_, ?_, hJ', tm_fin hR, fun _ _ _ z => z, rfl, fun _ _ z => z, rfl⟩
  · show (if x = y.c.kb then _ else _) = if x = y.c.kb then _ else _
    rw [if_neg hx, if_neg hx]
    rfl
  · show (if y.c.kb = y.c.kb then clkA y.c (t1 y.fv k f) else _) = (if y.c.kb = y.c.kb then clkA y.c y.fv else _ : Array Value).setIfInBounds _ _
    rw [if_pos rfl, if_pos rfl]
    exact clkA_set hk
theorem tm_nobd {j : Nat} (h : ∀ k, j ≠ 2 + 2 * k) : ∀ y : TmY, tmL.J y -> ∀ c, y.c = c -> LNoBag tmL y (c.B j) := by
  intro y hJ c hc
  subst hc
  have hJ : TmJ y := hJ
  refine ⟨fun x hx => ?_, fun a ⟨_, k, _, e, _⟩ => h k (hJ.inj _ _ e)⟩
  have e : tmL.bag y (y.c.B j) = #[] := hJ.emp _ fun k _ e => absurd (hJ.inj _ _ e) (h k)
  rw [e] at hx
  exact not_pres_empty x hx
def cellY (y : TmY) (i j : Nat) (z : Int) : TmY := { y with v := t1 y.v (y.c.B j) z, bd := t1 y.bd i (y.bd i - 1) }
theorem cell_step {j : Nat} {z : Int} (hJ : TmJ y) (hi : i <= y.c.n + 1) (hb : 0 < y.bd i) (hj : j < 34) (h : (i = y.c.n + 1 /\ (j = 1 \/ (j = 0 /\ 0 <= z /\ z <= 4611686018427387904))) \/ ∃ k, k < 16 /\ j = 3 + 2 * k /\ 0 < i /\ y.ow k = i) : LStep tmL i (y.c.B j) y (cellY y i j z) := by
  have hbd := tm_bd hi hb (rfl : t1 y.bd i (y.bd i - 1) = _)
  have vne : ∀ x, x ≠ j -> (cellY y i j z).v (y.c.B x) = y.v (y.c.B x) := fun x hx => t1_ne fun e => hx (hJ.inj _ _ e)
  have hst : ∀ x, j ≠ 2 + 2 * x := fun x e => by
    rcases h with ⟨_, h | ⟨h, _⟩⟩ | ⟨k, _, h, _⟩ <;> omega
  have hdu : ∀ x, (∀ k, j = 3 + 2 * k -> x ≠ k) -> (cellY y i j z).du x = y.du x := fun x hx => vne _ fun e => hx x e.symm rfl
  have hdu2 : ∀ x, x < 16 -> y.s x % 4 = 2 -> (cellY y i j z).du x = y.du x := fun x hx e => hdu x fun k ek z => by
    subst z
    rcases h with ⟨_, h | ⟨h, _⟩⟩ | ⟨k', h1, h2, h3, h4⟩
    · omega
    · omega
    · obtain rfl : k' = x := by omega
      have := hJ.o1 k' h1 (by omega)
      omega
  have hR : ∀ x, x ≠ i -> TmR x y (cellY y i j z) := fun x hx => ⟨rfl, fun _ => t1_ne hx, fun _ => rfl, fun _ => rfl, fun _ _ => Nat.le_refl _, fun q hq _ e => hdu2 q hq e, fun x0 q hq e => ⟨e, rfl, rfl, hdu q fun k ek z => by
    subst z
    rcases h with ⟨_, h | ⟨h, _⟩⟩ | ⟨k', h1, h2, h3, h4⟩
    · omega
    · omega
    · obtain rfl : k' = q := by omega
      omega, rfl⟩, fun _ _ _ e => e, fun e => by
    have hjj : j ≠ 0 /\ j ≠ 1 := by
      rcases h with ⟨h, _⟩ | ⟨k, _, h, _⟩
      · exact absurd (e.trans h.symm) hx
      · omega
    exact ⟨vne 0 (Ne.symm hjj.1), vne 1 (Ne.symm hjj.2)⟩⟩
  have hJ' : TmJ (cellY y i j z) := by
    refine ⟨hJ.inj, hJ.ck, hJ.ad, hJ.ai, hJ.n1, hJ.e1, hJ.rob, fun x hx => ?_, fun x hx => ?_, hJ.o0, hJ.o1, fun x hx e => ?_, hJ.emp, ?_, hJ.av, hJ.a3, fun q hq => ?_, hJ.sum, hJ.p0⟩
    · exact (vne (2 + 2 * x) fun e => hst x e.symm).trans (hJ.sv x hx)
    · have := hJ.bnd x hx
      show y.s x + 2 * nsum (y.c.n + 2) (t1 y.bd i (y.bd i - 1)) <= 200000
      omega
    · rw [hdu2 x hx e]; exact hJ.set x hx e
    · by_cases e : j = 0
      · subst e
        rcases h with ⟨_, h | ⟨_, h⟩⟩ | ⟨k, _, h, _⟩
        · omega
        · show 0 <= t1 y.v (y.c.B 0) z (y.c.B 0) /\ t1 y.v (y.c.B 0) z (y.c.B 0) <= _
          rw [t1_same]; exact h
        · omega
      · show 0 <= (cellY y i j z).v (y.c.B 0) /\ (cellY y i j z).v (y.c.B 0) <= _
        rw [vne 0 (Ne.symm e)]; exact hJ.nw
    · have := hJ.kb q hq
      show y.k q + nsum (y.c.n + 2) (t1 y.bd i (y.bd i - 1)) <= 200000
      omega
  exact ⟨⟨tm_stat rfl, hR, Nat.le_of_eq hbd, fun x hx => t1_ne hx, rfl, hJ', tm_fin hR, rfl⟩, fun _ _ _ z => z, rfl, fun _ _ z => z⟩
def setY (y : TmY) (i k d : Nat) : TmY := slotY y i k (y.s k + 1) 0 (y.rr k) (bagH d (y.du k)) (y.ps i + 1) (y.pt i)
theorem set_hand {h : Hp} {d : Nat} (hJ : TmJ y) (hk : k < 16) (i0 : 0 < i) (hi : i <= y.c.n) (hb : 0 < y.bd i) (ho : y.ow k = i) (hf : y.fv k = y.c.clos d) (hd : y.c.top <= d) (hz : 0 <= y.du k /\ y.du k <= 4611686018427387904) (hh : h[d]? = some (dueO (y.du k))) : LHand tmL i (y.st k) false y (setY y i k d) h (lose h d) := by
  have h13 := hJ.o1 k hk (by omega)
  have h1 : y.s k % 4 = 1 := by omega
  refine slot_hand hJ ⟨hk, i0, by omega, hb, by omega, by omega, .inr ho, .inl rfl, fun _ => by omega, fun z => by omega, fun _ => ⟨⟨d, rfl, hf, hd⟩, hz⟩, fun z => by omega, by rw [occ0 (.inr h1), occ2 (by omega)]; omega⟩ (fun z => by omega) (fun x o g1 g2 => .inl (lose_get g1 g2).2) (fun x o g1 g2 => ?_) (fun x ⟨o, g1, g2⟩ ⟨o', g3, g4⟩ => (lose_get g1 g2).1 (bagH_get g3 g4).1) ?_ ?_
  · obtain ⟨rfl, rfl⟩ := bagH_get g1 g2
    exact ⟨fun z => by have := hJ.rob _ z; omega, .inl hh⟩
  · rw [lose_size]; exact Nat.le_max_left _ _
  · have : d < h.size := (Array.getElem?_eq_some_iff.1 hh).1
    rw [bagH_size]
    omega
def stopY (y : TmY) (i k : Nat) : TmY := slotY y i k (y.s k + 2) 0 (y.rr k) #[] (y.ps i) (y.pt i + 1)
theorem stop_hand {h : Hp} (hJ : TmJ y) (hk : k < 16) (i0 : 0 < i) (hi : i <= y.c.n) (hb : 0 < y.bd i) (h2 : y.s k % 4 = 2) : LHand tmL i (y.st k) true y (stopY y i k) h h :=
  slot_hand hJ ⟨hk, i0, by omega, hb, by omega, by omega, .inl (hJ.ow0 hk (.inr h2)), .inl rfl, fun _ => by omega, fun z => by omega, fun z => by omega, fun _ => rfl, by rw [occ2 h2, occ0 (by omega)]; omega⟩ (fun _ => rfl) (fun x o h1 _ => .inl h1) (fun x o h1 _ => by simp at h1) (fun x _ h2 => not_pres_empty x h2) (Nat.le_max_left _ _) (Nat.zero_le _)
def ringY (y : TmY) (i k : Nat) : TmY := slotY y i k (y.s k + 1) i 1 #[] (y.ps i) (y.pt i)
theorem ring_hand {h : Hp} {d : Nat} {z : Int} (hJ : TmJ y) (hk : k < 16) (hi : i = y.c.n + 1) (hb : 0 < y.bd i) (h2 : y.s k % 4 = 2) (hg : y.bg (y.st k) = bagH d z) : LHand tmL i (y.st k) true y (ringY y i k) h (gain h d z) := by
  refine slot_hand hJ ⟨hk, by omega, by omega, hb, by omega, by omega, .inl (hJ.ow0 hk (.inr h2)), .inr rfl, fun z => by omega, fun _ => .inr ⟨by omega, hi⟩, fun z => by omega, fun _ => rfl, by rw [occ2 h2, occ3 (by omega)]⟩ (fun _ => rfl) (fun x o g1 g2 => ?_) (fun x o h1 _ => by simp at h1) (fun x _ h2 => not_pres_empty x h2) ?_ (Nat.zero_le _)
  · rcases gain_get g1 g2 with q | ⟨rfl, rfl⟩
    · exact .inl q
    · exact .inr ⟨rfl, by rw [hg]; exact bagH_at _ _⟩
  · rw [hg, bagH_size, gain_size]; exact Nat.le_refl _
def rangY (y : TmY) (i k : Nat) : TmY := slotY y i k (y.s k + 1) 0 0 #[] (y.ps i) (y.pt i)
theorem rang_hand {h : Hp} (hJ : TmJ y) (hk : k < 16) (hi : i = y.c.n + 1) (hb : 0 < y.bd i) (ho : y.ow k = i) (hr : y.rr k = 0) : LHand tmL i (y.st k) false y (rangY y i k) h h := by
  have h13 := hJ.o1 k hk (by omega)
  have h3 : y.s k % 4 = 3 := by omega
  exact slot_hand hJ ⟨hk, by omega, by omega, hb, by omega, by omega, .inr ho, .inl rfl, fun _ => by omega, fun z => by omega, fun z => by omega, fun _ => rfl, by rw [occ3 h3, occ0 (by omega), hr]⟩ (fun z => by omega) (fun x o h1 _ => .inl h1) (fun x o h1 _ => by simp at h1) (fun x _ h2 => not_pres_empty x h2) (Nat.le_max_left _ _) (Nat.zero_le _)
def atmY (y : TmY) (i k q p r r' : Nat) : TmY := { y with a := t1 y.a (y.c.A q) ((y.k q : Int) + 1), k := t1 y.k q (y.k q + 1), ps := t1 y.ps i p, pt := t1 y.pt i r, rr := t1 y.rr k r', bd := t1 y.bd i (y.bd i - 1) }
theorem atm_step {q p r r' : Nat} (hJ : TmJ y) (hk : k < 16) (hq : q < 3) (i0 : 0 < i) (hi : i <= y.c.n + 1) (hb : 0 < y.bd i) (ho : r' = y.rr k \/ y.ow k = i) (hs : (if q = 0 then 1 else 0) + p + y.pt i + occ (y.s k) (y.rr k) = y.ps i + r + occ (y.s k) r' + (if q = 0 then 0 else 1)) :
    TMove tmL i (y.c.A q) y (atmY y i k q p r r') := by
  have hbd := tm_bd hi hb (rfl : t1 y.bd i (y.bd i - 1) = _)
  have hR : ∀ j, j ≠ i -> TmR j y (atmY y i k q p r r') := fun j hj => ⟨rfl, fun _ => t1_ne hj, fun _ => t1_ne hj, fun _ => t1_ne hj, fun _ _ => Nat.le_refl _, fun _ _ _ _ => rfl, fun j0 x hx e => ⟨e, rfl, rfl, rfl, by
    show t1 y.rr k r' x = y.rr x
    by_cases z : x = k
    · subst z
      rw [t1_same]
      rcases ho with ho | ho
      · exact ho
      · omega
    · exact t1_ne z⟩, fun _ _ _ e => e, fun _ => ⟨rfl, rfl⟩⟩
  have hJ' : TmJ (atmY y i k q p r r') := by
    refine ⟨hJ.inj, hJ.ck, hJ.ad, hJ.ai, hJ.n1, hJ.e1, hJ.rob, hJ.sv, fun x hx => ?_, hJ.o0, hJ.o1, hJ.set, hJ.emp, hJ.nw, fun x hx => ?_, ?_, fun x hx => ?_, ?_, ?_⟩
    · have := hJ.bnd x hx
      show y.s x + 2 * nsum (y.c.n + 2) (t1 y.bd i (y.bd i - 1)) <= 200000
      omega
    · show t1 y.a (y.c.A q) ((y.k q : Int) + 1) (y.c.A x) = ((t1 y.k q (y.k q + 1) x : Nat) : Int)
      by_cases z : x = q
      · subst z; rw [t1_same, t1_same]; simp
      · rw [t1_ne z, t1_ne fun w => z (hJ.ai _ _ (by omega) (by omega) w)]; exact hJ.av x hx
    · exact (t1_ne fun w => by have := hJ.ai _ _ (by omega) (by omega) w; omega).trans hJ.a3
    · have := hJ.kb x hx
      show t1 y.k q (y.k q + 1) x + nsum (y.c.n + 2) (t1 y.bd i (y.bd i - 1)) <= 200000
      by_cases z : x = q
      · subst z; rw [t1_same]; omega
      · rw [t1_ne z]; omega
    · have h0 := hJ.sum
      have h1 := nsum_upd (y.c.n + 2) (t1 y.ps i p) y.ps i (by omega) fun j _ hj => t1_ne hj
      have h2 := nsum_upd (y.c.n + 2) (t1 y.pt i r) y.pt i (by omega) fun j _ hj => t1_ne hj
      have h3 := nsum_upd 16 (fun j => occ (y.s j) (t1 y.rr k r' j)) (fun j => occ (y.s j) (y.rr j)) k hk fun j _ hj => by rw [t1_ne hj]
      rw [t1_same] at h1 h2
      simp only [t1_same] at h3
      show t1 y.k q (y.k q + 1) 0 + nsum (y.c.n + 2) (t1 y.ps i p) = t1 y.k q (y.k q + 1) 1 + nsum (y.c.n + 2) (t1 y.pt i r) + t1 y.k q (y.k q + 1) 2 + nsum 16 fun j => occ (y.s j) (t1 y.rr k r' j)
      have hq3 : q = 0 \/ q = 1 \/ q = 2 := by omega
      rcases hq3 with rfl | rfl | rfl
      · rw [t1_same, t1_ne (by omega), t1_ne (by omega)]
        simp at hs
        omega
      · rw [t1_same, t1_ne (by omega), t1_ne (by omega)]
        simp at hs
        omega
      · rw [t1_same, t1_ne (by omega), t1_ne (by omega)]
        simp at hs
        omega
    · show t1 y.ps i p 0 = 0 /\ t1 y.pt i r 0 = 0
      rw [t1_ne (by omega), t1_ne (by omega)]
      exact hJ.p0
  exact ⟨tm_stat rfl, hR, by show nsum (y.c.n + 2) (t1 y.bd i (y.bd i - 1)) <= _; have : tmL.pairs y = nsum (y.c.n + 2) y.bd := rfl; omega, rfl, rfl, hJ', tm_fin hR, fun _ _ _ z => z, rfl, fun _ _ z => z, fun x hx => t1_ne hx⟩
theorem atm_val {q p r r' : Nat} (hJ : TmJ y) (hq : q < 3) : tmL.atv (atmY y i k q p r r') (y.c.A q) = IntKind.i64.wrap (tmL.atv y (y.c.A q) + 1) := by
  have h1 := hJ.av q hq
  have h2 := hJ.kb q hq
  show t1 y.a (y.c.A q) ((y.k q : Int) + 1) (y.c.A q) = IntKind.i64.wrap (y.a (y.c.A q) + 1)
  rw [t1_same, h1, i64_in (by omega) (by omega)]
end
end
section
open Go Go.TJ Go.Proofs
variable [Dm]
structure Clk (h : Hp) (c : Nat) (B : Nat -> Nat) (vals : Nat -> Int) (fns : Nat -> Value) : Prop where
  obj : ∃ cs, h[c]? = some (.cells cs 54 (0, 0))
  pnow : hcell h ⟨c, 0, none⟩ = some (.pointer (some ⟨B 0, 0, none⟩))
  pbusy : hcell h ⟨c, 1, none⟩ = some (.pointer (some ⟨B 1, 0, none⟩))
  pst : ∀ i, i < 16 -> hcell h ⟨c, 2 + i * 3, none⟩ = some (.pointer (some ⟨B (2 + 2 * i), 0, none⟩))
  pdu : ∀ i, i < 16 -> hcell h ⟨c, 2 + i * 3 + 1, none⟩ = some (.pointer (some ⟨B (3 + 2 * i), 0, none⟩))
  pf : ∀ i, i < 16 -> hcell h ⟨c, 2 + i * 3 + 2, none⟩ = some (fns i)
  cell : ∀ j, j < 34 -> h[B j]? = some (cellO (vals j))
  inj : ∀ i j, i < 34 -> j < 34 -> B i = B j -> i = j
  cne : ∀ j, j < 34 -> B j ≠ c
def Own (c : Nat) (B : Nat -> Nat) (b : Nat) : Prop := b = c \/ ∃ j, j < 34 /\ b = B j
theorem Clk.upd {h h' : Hp} {c : Nat} {B : Nat -> Nat} {vals : Nat -> Int} {fns : Nat -> Value} (k : Clk h c B vals fns) {T : Nat -> Prop} (u : Upd T h h') (hT : ∀ b, T b -> ¬ Own c B b) : Clk h' c B vals fns := by
  have hc : ¬ T c := fun x => hT _ x (.inl rfl)
  have hB : ∀ j, j < 34 -> ¬ T (B j) := fun j hj x => hT _ x (.inr ⟨j, hj, rfl⟩)
  obtain ⟨cs, hcs⟩ := k.obj
  exact ⟨⟨cs, u.get hcs hc⟩, u.hcell k.pnow hc, u.hcell k.pbusy hc, fun i hi => u.hcell (k.pst i hi) hc, fun i hi => u.hcell (k.pdu i hi) hc, fun i hi => u.hcell (k.pf i hi) hc, fun j hj => u.get (k.cell j hj) (hB j hj), k.inj, k.cne⟩
theorem Clk.set {h : Hp} {c : Nat} {B : Nat -> Nat} {vals : Nat -> Int} {fns : Nat -> Value} (k : Clk h c B vals fns) {j : Nat} (hj : j < 34) (x : Int) : Clk (h.setIfInBounds (B j) (cellO x)) c B (up vals j x) fns := by
  have hc : B j ≠ c := k.cne j hj
  obtain ⟨cs, hcs⟩ := k.obj
  refine ⟨⟨cs, by rw [get_set_ne _ hc]; exact hcs⟩, by rw [hcell_set_ne _ hc]; exact k.pnow, by rw [hcell_set_ne _ hc]; exact k.pbusy, fun i hi => by rw [hcell_set_ne _ hc]; exact k.pst i hi, fun i hi => by rw [hcell_set_ne _ hc]; exact k.pdu i hi,
    fun i hi => by rw [hcell_set_ne _ hc]; exact k.pf i hi, fun i hi => ?_, k.inj, k.cne⟩
  by_cases e : i = j
  · subst e; rw [up_same]; exact get_set_same (k.cell i hi)
  · rw [up_ne _ _ e, get_set_ne _ (fun x => e (k.inj _ _ hi hj x.symm))]
    exact k.cell i hi
theorem Clk.setF {h : Hp} {c : Nat} {B : Nat -> Nat} {vals : Nat -> Int} {fns : Nat -> Value} (k : Clk h c B vals fns) {i : Nat} (hi : i < 16) (v : Value) : Clk (hset h ⟨c, 2 + i * 3 + 2, none⟩ v) c B vals (up fns i v) := by
  have hc := k.pf i hi
  obtain ⟨cs, hcs⟩ := k.obj
  have o : ∀ q, q ≠ 2 + i * 3 + 2 -> hcell (hset h ⟨c, 2 + i * 3 + 2, none⟩ v) ⟨c, q, none⟩ = hcell h ⟨c, q, none⟩ := fun q hq => hset_cell_ne _ _ _ _ (by simp; omega) ⟨_, hc⟩
  refine ⟨⟨_, hset_same h ⟨c, 2 + i * 3 + 2, none⟩ v hcs rfl⟩, by rw [o _ (by omega)]; exact k.pnow, by rw [o _ (by omega)]; exact k.pbusy, fun q hq => by rw [o _ (by omega)]; exact k.pst q hq, fun q hq => by rw [o _ (by omega)]; exact k.pdu q hq,
    fun q hq => ?_, fun j hj => ?_, k.inj, k.cne⟩
  · by_cases e : q = i
    · subst e; rw [up_same]; exact hcell_hset_same hc
    · rw [up_ne _ _ e, o _ (by omega)]; exact k.pf q hq
  · have : (⟨c, 2 + i * 3 + 2, none⟩ : Addr).block ≠ B j := fun e => k.cne j hj e.symm
    rw [hset_ne _ _ _ this]; exact k.cell j hj
theorem Clk.froz {h : Hp} {c : Nat} {B : Nat -> Nat} {vals : Nat -> Int} {fns : Nat -> Value} (k : Clk h c B vals fns) (o : Nat) : hfroz h ⟨c, o, none⟩ = false := by
  obtain ⟨cs, hcs⟩ := k.obj; exact hfroz_of hcs
section
variable {Γ : Type} {main : Bool} {h : Hp} {δ : Ix Γ} {c : Nat} {B : Nat -> Nat} {vals : Nat -> Int} {fns : Nat -> Value}
theorem made_ok {a : Addr} (hc : hcell h ⟨c, 0, none⟩ = some (.pointer (some a))) : CallW Try.prog main NoS 18 #[.pointer (some ⟨c, 0, none⟩)] h δ (Ret (Det (.bool true) h δ)) := by
  refine CallW.start (n := 12) rfl rfl ?_
  (repeat (first | refine EK.seq ?_ | refine EK.region ?_ | refine ER.done ?_ | refine ER.move rfl rfl rfl ?_ | refine ER.assign rfl rfl rfl ?_ | refine ER.nilCheck rfl rfl rfl ?_ | refine ER.fieldAddr rfl rfl rfl ?_ | refine ER.neqV rfl rfl rfl rfl rfl ?_))
  refine ER.load1 rfl rfl rfl hc ?_
  (repeat (first | refine ER.done ?_ | refine ER.assign rfl rfl rfl ?_ | refine ER.neqV rfl rfl rfl rfl rfl ?_ | refine ER.pickT rfl rfl rfl rfl ?_ | refine EK.ret ?_))
  exact EU.ret1 rfl rfl det
theorem now_ok (k : Clk h c B vals fns) : CallW Try.prog main NoS 10 #[.pointer (some ⟨c, 0, none⟩), .pointer none] h δ (Ret (Det (.int .i64 (vals 0)) h δ)) := by
  refine CallW.start (n := 14) rfl rfl ?_
  (repeat (first | refine EK.seq ?_ | refine EK.region ?_ | refine ER.done ?_ | refine ER.move rfl rfl rfl ?_ | refine ER.assign rfl rfl rfl ?_))
  refine ER.callD rfl rfl rfl rfl rfl (made_ok k.pnow) ?_
  (repeat (first | refine EK.seq ?_ | refine EK.region ?_ | refine ER.done ?_ | refine EK.skip ?_ | refine ER.move rfl rfl rfl ?_ | refine ER.nilCheck rfl rfl rfl ?_ | refine ER.fieldAddr rfl rfl rfl ?_ | refine ER.notB rfl rfl rfl ?_ | refine EK.condF rfl ?_))
  refine ER.load1 rfl rfl rfl k.pnow ?_
  (repeat refine ER.move rfl rfl rfl ?_)
  refine ER.callD rfl rfl rfl rfl rfl (cload (k.cell 0 (by omega))) ?_
  (repeat (first | refine ER.done ?_ | refine ER.assign rfl rfl rfl ?_ | refine EK.ret ?_))
  exact EU.ret1 rfl rfl det
theorem stop_yes (k : Clk h c B vals fns) {s : Nat} {r : Int} (hs : s < 16) (hr : 0 <= r) (hm : r.tmod 4 = 2) : CallW Try.prog main NoS 11 #[.pointer (some ⟨c, 0, none⟩), .pointer none, .agg #[.int .i64 s, .int .i64 r]] h δ
    (Ret fun v h' δ' => δ' = δ /\ ((vals (2 + 2 * s) ≠ r /\ v = .bool false /\ Upd (fun _ => False) h h') \/ (vals (2 + 2 * s) = r /\ v = .bool true /\ Upd (Own c B) h h' /\ (r <= 4611686018427387904 -> Clk h' c B (up vals (2 + 2 * s) (r + 2)) fns)))) := by
  have hb := get_push_new h (.cells #[.int .i64 s, .int .i64 r] 33)
  have hu : Upd (fun _ => False) h (h.push (.cells #[.int .i64 s, .int .i64 r] 33)) := Upd.push _ _
  have k1 := k.upd hu (fun _ x => x.elim)
  have hlt : B (2 + 2 * s) ≠ h.size := fun e => by have := lt_of_get (k.cell (2 + 2 * s) (by omega)); omega
  have e0 : hcell (h.push (.cells #[.int .i64 s, .int .i64 r] 33)) ⟨h.size, 0, none⟩ = some (.int .i64 s) := hcell_of hb rfl
  have e1 : hcell (h.push (.cells #[.int .i64 s, .int .i64 r] 33)) ⟨h.size, 1, none⟩ = some (.int .i64 r) := hcell_of hb rfl
  refine CallW.start (n := 47) rfl rfl ?_
  (repeat (first | refine EK.seq ?_ | refine EK.region ?_ | refine ER.done ?_ | refine ER.move rfl rfl rfl ?_ | refine ER.assign rfl rfl rfl ?_ | refine ER.boxA rfl rfl rfl ?_))
  refine ER.callD rfl rfl rfl rfl rfl (made_ok (hcell_push k.pnow)) ?_
  (repeat (first | refine EK.seq ?_ | refine ER.done ?_ | refine EK.skip ?_ | refine ER.move rfl rfl rfl ?_ | refine ER.fieldAddr rfl rfl rfl ?_ | refine ER.load1 rfl rfl rfl (hcell_of (by assumption) rfl) ?_ | refine ER.notB rfl rfl rfl ?_ | refine ER.pickF rfl rfl rfl rfl ?_ | refine ER.cmpF rfl rfl rfl rfl rfl (by first | (dsimp only [cmpP]; omega) | exact rfl | exact Int.le_refl _) ?_ | refine ER.rem (kd := .i64) rfl rfl rfl rfl (by decide) rfl ?_ | refine EK.condF rfl ?_))
  refine EK.regionAny (fun h' => hcell h' ⟨h.size, 0, none⟩ = some (.int .i64 s) /\ hcell h' ⟨h.size, 1, none⟩ = some (.int .i64 r) /\ hcell h' ⟨c, 2 + s * 3, none⟩ = some (.pointer (some ⟨B (2 + 2 * s), 0, none⟩))) ?_
  have hZ := And.intro e0 (And.intro e1 (k1.pst s hs))
  refine EA.tMove 0 rfl (by kernel_rfl) rfl rfl rfl rfl hZ ?_
  refine EA.tField 1 rfl (by kernel_rfl) rfl rfl rfl rfl hZ ?_
  refine EA.tLoad 2 rfl (by kernel_rfl) rfl rfl rfl rfl (fun _ hz => hz.1) hZ ?_
  refine EA.tNil 3 rfl (by kernel_rfl) rfl rfl rfl rfl hZ ?_
  refine EA.tField 4 rfl (by kernel_rfl) rfl rfl rfl rfl hZ ?_
  refine EA.tIdxA 5 rfl (by kernel_rfl) rfl rfl rfl rfl rfl (by omega) (by omega) hZ ?_
  refine EA.tField 6 rfl (by kernel_rfl) rfl rfl rfl rfl hZ ?_
  refine EA.tLoad 7 rfl (by kernel_rfl) rfl rfl rfl rfl (fun _ hz => hz.2.2) hZ ?_
  refine EA.tMove 8 rfl (by kernel_rfl) rfl rfl rfl rfl hZ ?_
  refine EA.tField 9 rfl (by kernel_rfl) rfl rfl rfl rfl hZ ?_
  refine EA.tLoad 10 rfl (by kernel_rfl) rfl rfl rfl rfl (fun _ hz => hz.2.1) hZ ?_
  refine EA.tField 11 rfl (by kernel_rfl) rfl rfl rfl rfl hZ ?_
  refine EA.tLoad 12 rfl (by kernel_rfl) rfl rfl rfl rfl (fun _ hz => hz.2.1) hZ ?_
  (first | refine EA.tAdd (kd := .i64) 13 rfl (by kernel_rfl) rfl rfl rfl rfl rfl rfl hZ ?_ | refine EA.tSub (kd := .i64) 13 rfl (by kernel_rfl) rfl rfl rfl rfl rfl rfl hZ ?_)
  (first | refine EA.tAdd (kd := .i64) 14 rfl (by kernel_rfl) rfl rfl rfl rfl rfl rfl hZ ?_ | refine EA.tSub (kd := .i64) 14 rfl (by kernel_rfl) rfl rfl rfl rfl rfl rfl hZ ?_)
  by_cases hv : vals (2 + 2 * s) = r
  · refine EA.callD 15 rfl (by kernel_rfl) rfl rfl rfl rfl rfl rfl (ccas_yes (v := r) (hv ▸ k1.cell (2 + 2 * s) (by omega)) (fun _ x => x)) ⟨?_, ?_, ?_⟩ ?_
    · rw [hcell_set_ne _ hlt]; exact e0
    · rw [hcell_set_ne _ hlt]; exact e1
    · rw [hcell_set_ne _ (k.cne _ (by omega))]; exact k1.pst s hs
    refine EA.val 16 rfl (by kernel_rfl) rfl rfl rfl (fun ρ Q X hρ hq => sem_assign (hρ _ _ rfl) hq) ⟨?_, ?_, ?_⟩ ?_
    · rw [hcell_set_ne _ hlt]; exact e0
    · rw [hcell_set_ne _ hlt]; exact e1
    · rw [hcell_set_ne _ (k.cne _ (by omega))]; exact k1.pst s hs
    refine EA.done (by kernel_rfl) ?_
    (repeat refine EK.ret ?_)
    refine EU.ret1 rfl rfl ⟨rfl, .inr ⟨hv, rfl, (hu.mono (fun _ _ x => x.elim)).trans (Upd.set _ _ _ (.inr ⟨_, by omega, rfl⟩)), fun hle => ?_⟩⟩
    have e : IntKind.i64.wrap (IntKind.i64.wrap (r + 4) - 2) = r + 2 := by rw [i64_in (x := r + 4) (by omega) (by omega), i64_in (by omega) (by omega)]; omega
    rw [e]
    exact k1.set (by omega) (r + 2)
  · refine EA.callD 15 rfl (by kernel_rfl) rfl rfl rfl rfl rfl rfl (ccas_no hv (k1.cell (2 + 2 * s) (by omega)) (fun _ x => x)) hZ ?_
    refine EA.val 16 rfl (by kernel_rfl) rfl rfl rfl (fun ρ Q X hρ hq => sem_assign (hρ _ _ rfl) hq) hZ ?_
    refine EA.done (by kernel_rfl) ?_
    (repeat refine EK.ret ?_)
    exact EU.ret1 rfl rfl ⟨rfl, .inl ⟨hv, rfl, hu⟩⟩
end
end
section
open Go Go.TJ Go.Proofs
variable [Dm]
section
variable {Γ : Type} {main : Bool} {h : Hp} {δ : Ix Γ} {c : Nat} {B : Nat -> Nat} {vals : Nat -> Int} {fns : Nat -> Value}
def timO (s r : Int) : Obj := .cells #[.int .i64 s, .int .i64 r] 33 (0, 0)
theorem set_ok {F : Go.Fn} {G H : Array Value} {due : Int} {i : Nat} (k : Clk h c B vals fns) (hd0 : 0 <= due) (hd1 : due <= 4611686018427387904) (hi : i < 16) (hbusy : ∀ q, q < i -> (vals (2 + 2 * q)).tmod 4 ≠ 0) (hfree : (vals (2 + 2 * i)).tmod 4 = 0)
    (hv0 : -4611686018427387904 <= vals (2 + 2 * i)) (hv1 : vals (2 + 2 * i) <= 4611686018427387904) :
    CallW Try.prog main NoS 7 #[.pointer (some ⟨c, 0, none⟩), .pointer none, .int .i64 due, .func F G H] h δ
    (Ret fun v h' δ' => v = .tuple #[.agg #[.int .i64 i, .int .i64 (vals (2 + 2 * i) + 2)], .int .i64 0] /\ Upd (Own c B) h h' /\ δ' = δ /\ Clk h' c B (up (up vals (3 + 2 * i) due) (2 + 2 * i) (vals (2 + 2 * i) + 2)) (up fns i (.func F G H))) := by
  have hu : Upd (fun _ => False) h (h.push (timO 0 0)) := Upd.push _ _
  have k1 := k.upd hu (fun _ x => x.elim)
  have hsz : ∀ j, j < 34 -> B j ≠ h.size := fun j hj e => by have := lt_of_get (k.cell j hj); omega
  have hcz : c ≠ h.size := fun e => by obtain ⟨cs, hcs⟩ := k.obj; have := lt_of_get hcs; omega
  refine CallW.start (n := 82) rfl rfl ?_
  (repeat (first | refine EK.seq ?_ | refine EK.region ?_ | refine ER.done ?_ | refine ER.move rfl rfl rfl ?_ | refine ER.assign rfl rfl rfl ?_ | refine ER.allocA rfl rfl ?_))
  refine ER.callD rfl rfl rfl rfl rfl (made_ok (hcell_push k.pnow)) ?_
  (repeat (first | refine EK.seq ?_ | refine EK.region ?_ | refine ER.done ?_ | refine EK.skip ?_ | refine EK.block ?_ | refine ER.move rfl rfl rfl ?_ | refine ER.eqV rfl rfl rfl rfl rfl ?_ | refine ER.notB rfl rfl rfl ?_ | refine ER.pickF rfl rfl rfl rfl ?_ | refine ER.cmpF rfl rfl rfl rfl rfl (by first | (dsimp only [cmpP]; omega) | exact rfl | exact Int.le_refl _) ?_ | refine EK.condF rfl ?_))
  refine EK.loopInv (fun q : Nat => [(28, .int .i64 q), (0, .pointer (some ⟨c, 0, none⟩)), (1, .pointer none), (2, .int .i64 due), (3, .func F G H), (8, .pointer (some ⟨h.size, 0, none⟩))]) (fun q h' δ' => h' = h.push (timO 0 0) /\ δ' = δ /\ q <= i) (fun q => 16 - q) 0
    ⟨rfl, rfl, rfl, rfl, rfl, rfl, trivial⟩ ⟨rfl, rfl, Nat.zero_le _⟩ ?_
  rintro q _ _ ⟨rfl, rfl, hqi⟩ again
  have hq : q < 16 := by omega
  (repeat (first | refine EK.seq ?_ | refine EK.region ?_ | refine ER.done ?_ | refine EK.skip ?_ | refine EK.block ?_ | refine ER.move rfl rfl rfl ?_ | refine ER.assign rfl rfl rfl ?_ | refine ER.nilCheck rfl rfl rfl ?_ | refine ER.fieldAddr rfl rfl rfl ?_ | refine ER.cmpT rfl rfl rfl rfl rfl (by first | (dsimp only [cmpP]; omega) | exact rfl | exact Int.le_refl _) ?_ | refine ER.indexArr rfl rfl rfl rfl (by omega) (by omega) ?_ | refine EK.condT rfl ?_))
  refine ER.load1 rfl rfl rfl (k1.pst q hq) ?_
  (repeat refine ER.move rfl rfl rfl ?_)
  refine ER.callD rfl rfl rfl rfl rfl (cload (k1.cell (2 + 2 * q) (by omega))) ?_
  by_cases e : q = i
  · subst e
    (repeat (first | refine EK.seq ?_ | refine EK.region ?_ | refine ER.done ?_ | refine ER.move rfl rfl rfl ?_ | refine ER.assign rfl rfl rfl ?_ | refine ER.nilCheck rfl rfl rfl ?_ | refine ER.fieldAddr rfl rfl rfl ?_ | refine ER.cmpF rfl rfl rfl rfl rfl (by first | (dsimp only [cmpP]; omega) | exact rfl | exact Int.le_refl _) ?_ | refine ER.rem (kd := .i64) rfl rfl rfl rfl (by decide) rfl ?_))
    refine ER.load1 rfl rfl rfl (k1.pst q hq) ?_
    (repeat (first | refine ER.move rfl rfl rfl ?_ | refine ER.add (kd := .i64) rfl rfl rfl rfl (i64_in (by omega) (by omega)) ?_))
    refine ER.callD rfl rfl rfl rfl rfl (ccas_yes (k1.cell (2 + 2 * q) (by omega)) (fun _ x => x)) ?_
    have k2 := k1.set (j := 2 + 2 * q) (by omega) (vals (2 + 2 * q) + 1)
    (repeat (first | refine EK.seq ?_ | refine EK.region ?_ | refine ER.done ?_ | refine EK.skip ?_ | refine ER.move rfl rfl rfl ?_ | refine ER.nilCheck rfl rfl rfl ?_ | refine ER.fieldAddr rfl rfl rfl ?_ | refine ER.notB rfl rfl rfl ?_ | refine ER.pickF rfl rfl rfl rfl ?_ | refine EK.condF rfl ?_))
    refine ER.store1 rfl rfl rfl (by simp [OneCell]) ⟨_, k2.pf q hq⟩ (k2.froz _) (fun x => x) ?_
    have k3 := k2.setF hq (.func F G H)
    (repeat (first | refine EK.seq ?_ | refine EK.region ?_ | refine ER.done ?_ | refine ER.move rfl rfl rfl ?_ | refine ER.nilCheck rfl rfl rfl ?_ | refine ER.fieldAddr rfl rfl rfl ?_))
    refine ER.load1 rfl rfl rfl (k3.pdu q hq) ?_
    (repeat refine ER.move rfl rfl rfl ?_)
    refine ER.callD rfl rfl rfl rfl rfl (cstore (k3.cell (3 + 2 * q) (by omega)) (fun _ x => x)) ?_
    have k4 := k3.set (j := 3 + 2 * q) (by omega) due
    (repeat (first | refine EK.seq ?_ | refine EK.region ?_ | refine ER.done ?_ | refine ER.move rfl rfl rfl ?_ | refine ER.nilCheck rfl rfl rfl ?_ | refine ER.fieldAddr rfl rfl rfl ?_))
    refine ER.load1 rfl rfl rfl (k4.pst q hq) ?_
    (repeat (first | refine ER.move rfl rfl rfl ?_ | refine ER.add (kd := .i64) rfl rfl rfl rfl (i64_in (by omega) (by omega)) ?_))
    refine ER.callD rfl rfl rfl rfl rfl (cstore (k4.cell (2 + 2 * q) (by omega)) (fun _ x => x)) ?_
    have k5 := k4.set (j := 2 + 2 * q) (by omega) (vals (2 + 2 * q) + 2)
    (repeat (first | refine EK.seq ?_ | refine EK.region ?_ | refine ER.done ?_ | refine ER.move rfl rfl rfl ?_ | refine ER.add (kd := .i64) rfl rfl rfl rfl (i64_in (by omega) (by omega)) ?_))
    refine ER.buildS (cells := #[.int .i64 q, .int .i64 (vals (2 + 2 * q) + 2)]) rfl rfl rfl rfl ?_
    have u4 := ((((hu.mono (T' := Own c B) (fun _ _ x => x.elim)).trans (Upd.set _ (B (2 + 2 * q)) (cellO (vals (2 + 2 * q) + 1)) (.inr ⟨_, by omega, rfl⟩))).trans (Upd.hset _ ⟨c, 2 + q * 3 + 2, none⟩ (.func F G H) (.inl rfl))).trans (Upd.set _ (B (3 + 2 * q)) (cellO due) (.inr ⟨_, by omega, rfl⟩))).trans (Upd.set _ (B (2 + 2 * q)) (cellO (vals (2 + 2 * q) + 2)) (.inr ⟨_, by omega, rfl⟩))
    have hb : ((((h.push (timO 0 0)).setIfInBounds (B (2 + 2 * q)) (cellO (vals (2 + 2 * q) + 1)) |> fun x => hset x ⟨c, 2 + q * 3 + 2, none⟩ (.func F G H)).setIfInBounds (B (3 + 2 * q)) (cellO due)).setIfInBounds (B (2 + 2 * q)) (cellO (vals (2 + 2 * q) + 2)))[h.size]? = some (timO 0 0) := by
      rw [get_set_ne _ (hsz _ (by omega)), get_set_ne _ (hsz _ (by omega)), hset_ne _ _ _ hcz, get_set_ne _ (hsz _ (by omega))]
      exact get_push_new h _
    refine ER.storeT2 hb rfl rfl rfl rfl (by simp [OneCell]) (by simp [OneCell]) (fun _ x => x) ?_
    (repeat (first | refine ER.done ?_ | refine ER.assign rfl rfl rfl ?_ | refine EK.ret ?_))
    refine EU.retCell2 (get_set_same hb) rfl rfl rfl ⟨rfl, ?_, rfl, ?_⟩
    · refine ⟨by have := u4.size; simpa using this, fun b hb' hO => ?_⟩
      rw [get_set_ne _ (by omega)]
      exact u4.same b hb' hO
    · have k6 := k5.upd (Upd.set (T := fun b => b = h.size) _ h.size (.cells #[.int .i64 q, .int .i64 (vals (2 + 2 * q) + 2)] 33 (0, 0)) rfl) (by
        rintro b rfl (x | ⟨j, hj, x⟩)
        · exact hcz x.symm
        · exact hsz j hj x.symm)
      have e : up (up (up vals (2 + 2 * q) (vals (2 + 2 * q) + 1)) (3 + 2 * q) due) (2 + 2 * q) (vals (2 + 2 * q) + 2) = up (up vals (3 + 2 * q) due) (2 + 2 * q) (vals (2 + 2 * q) + 2) := by
        funext j
        unfold up
        by_cases h1 : j = 2 + 2 * q
        · simp [h1]
        · simp [h1]
      rw [<- e]
      exact k6
  · have hb := hbusy q (by omega)
    (repeat (first | refine EK.seq ?_ | refine EK.region ?_ | refine ER.done ?_ | refine ER.move rfl rfl rfl ?_ | refine ER.assign rfl rfl rfl ?_ | refine ER.no rfl rfl ?_ | refine ER.pickT rfl rfl rfl rfl ?_ | refine ER.cmpT rfl rfl rfl rfl rfl (by first | (dsimp only [cmpP]; omega) | exact rfl | exact Int.le_refl _) ?_ | refine ER.add (kd := .i64) rfl rfl rfl rfl (i64_in (by omega) (by omega)) ?_ | refine ER.rem (kd := .i64) rfl rfl rfl rfl (by decide) rfl ?_ | refine EK.condT rfl ?_ | refine EK.exit rfl ?_))
    exact EK.back (again (q + 1) _ _ (by omega) ⟨rfl, rfl, by omega⟩) ⟨rfl, rfl, rfl, rfl, rfl, rfl, trivial⟩
end
end
end Go.Proofs.Ytndllibjlfpndaa
namespace Go.TJ
section
variable [Dm]
open Go Go.Conc
theorem Sub.refl (h : Hp) : Sub h h := ⟨fun _ _ z _ => z, Nat.le_refl _⟩
theorem Sub.trans {a b c : Hp} (x : Sub a b) (y : Sub b c) : Sub a c := ⟨fun k o h1 h2 => y.get k o (x.get k o h1 h2) h2, Nat.le_trans x.size y.size⟩
theorem Sub.cell {a b : Hp} (x : Sub a b) {ad : Addr} {v : Value} (h : hcell a ad = some v) (hs : ad.spot = none) : hcell b ad = some v := by
  obtain ⟨p, o, q⟩ := ad
  cases hs
  obtain ⟨c, e, f, h1, h3, h4⟩ := hcell_some h
  exact hcell_of (x.get _ _ h1 (ne_dum h4)) h4
theorem sub_put {a h : Hp} {b : Nat} {o : Obj} (hs : Sub a h) (hb : a.size <= b) : Sub a (h.setIfInBounds b o) := ⟨fun x p h1 h2 => by
    have := lt_of_get h1
    rw [get_set_ne _ (by omega)]; exact hs.get x p h1 h2, by simp; exact hs.size⟩
section
variable {Γ : Type} {P : Program} {main : Bool} {S : Sit Γ} {f : FuncId} {n : Nat} {k : List Item} {env : Env} {ds : List Deferred} {h : Hp} {δ : Ix Γ} {R : Post Γ}
variable {ops : Array Oper} {l : List Oper} {d : Nat} {ty : TypeId} {pos : String} {af : Array Edge} {g : Option (Nat × Bool)}
theorem ER.boxM {X : Fp Γ} {i : Nat} {t : TypeId} {x : Operand} {v : Value} (hS : ∀ g h δ Y, Make P main X i g h δ Y -> S.yld g h δ Y) (hw : wantE ops env g = some true) (hd : Nat.blt d n = true) (hx : ev env x = some v) (hnd : 0 < i -> ¬ X.done i δ.g /\ X.fin δ.g i = none)
    (hn : ∀ N, h.size <= N -> ER P main S f n ops l k ((d, .pointer (some ⟨N, 0, none⟩)) :: env) ds ((padTo h N).push (.cells v.cells t)) δ R) : ER P main S f n ops (⟨some d, .box t x, ty, pos, af, g⟩ :: l) k env ds h δ R := by
  refine ER.mk hS rfl hd hw hnd fun N hN => ⟨.pointer (some ⟨N, 0, none⟩), _, fun ρ hρ Q Xp hq => ?_, hn N hN⟩
  show SemW P (MakeS X) (Instr.box t (ρ x) >>= fun v => pure (.value v)) (padTo h N) δ Q Xp
  rw [hρ x _ hx]
  refine semW_bind _ _ _ _ _ _ ?_
  refine ⟨⟨trivial, thawed⟩, ?_⟩
  rw [padTo_size hN]
  exact hq
end
end
end Go.TJ
namespace Go.Proofs.Ytndllibjlfpndaa
section
open Go Go.TJ Go.Proofs
variable [Dm]
structure OwnT (i : Nat) (c : TmC) (bd ps pt : Nat) (y : TmY) : Prop where
  cc : y.c = c
  bd : bd <= y.bd i
  ps : y.ps i = ps
  pt : y.pt i = pt
structure HasS (i k s : Nat) (f : Value) (u : Int) (y : TmY) : Prop where
  ow : y.ow k = i
  s : y.s k = s
  fv : y.fv k = f
  du : y.du k = u
section
variable {i k s : Nat} {c : TmC} {bd ps pt : Nat} {f : Value} {u : Int} {y y' : TmY}
theorem OwnT.rel (o : OwnT i c bd ps pt y) (i0 : 0 < i) (r : LRel tmL i y y') : OwnT i c bd ps pt y' := by
  have q : TmR i y y' := r.law
  exact ⟨q.c.trans o.cc, by rw [q.bd i0]; exact o.bd, (q.ps i0).trans o.ps, (q.pt i0).trans o.pt⟩
theorem OwnT.less (o : OwnT i c bd ps pt y) {b : Nat} (h : b <= bd) : OwnT i c b ps pt y := ⟨o.cc, Nat.le_trans h o.bd, o.ps, o.pt⟩
theorem HasS.rel (o : HasS i k s f u y) (hk : k < 16) (i0 : 0 < i) (r : LRel tmL i y y') : HasS i k s f u y' := by
  have q : TmR i y y' := r.law
  obtain ⟨h1, h2, h3, h4, _⟩ := q.own i0 k hk o.ow
  exact ⟨h1, h2.trans o.s, h3.trans o.fv, h4.trans o.du⟩
end
theorem tm4 (s : Nat) : ((s : Nat) : Int).tmod 4 = ((s % 4 : Nat) : Int) := rfl
theorem make_w {i : Nat} : ∀ g h δ Y, TJ.Make Try.prog false (XF TT tmL) i g h δ Y -> (SitW Try.prog (XF TT tmL) i).yld g h δ Y := fun _ _ _ _ z => .inl z
section
variable {h : Hp} {δ : Ix (Gf TmY)} {i : Nat} {c : TmC}
theorem clk_ptr {y : TmY} {o : Nat} {v : Value} (hc : y.c = c) (hv : (clkA c y.fv)[o]? = some v) (ho : ∀ k, k < 16 -> o ≠ fOff k) : tmL.arrT y c.kb = some 54 /\ (tmL.arr y c.kb)[o]? = some v /\ tmL.may y i ⟨c.kb, o, none⟩ false := by
  subst hc
  refine ⟨if_pos rfl, ?_, .inl ⟨rfl, .inl ⟨rfl, ho⟩⟩⟩
  show (if y.c.kb = y.c.kb then clkA y.c y.fv else _ : Array Value)[o]? = some v
  rw [if_pos rfl]; exact hv
theorem clk_now {y : TmY} {j : Nat} (hc : y.c = c) (hj : j < 2) : tmL.arrT y c.kb = some 54 /\ (tmL.arr y c.kb)[j]? = some (ptr (c.B j)) /\ tmL.may y i ⟨c.kb, j, none⟩ false := clk_ptr hc (clkA_now hj) fun k hk => by unfold fOff; omega
theorem clk_st {y : TmY} {k : Nat} (hc : y.c = c) (hk : k < 16) : tmL.arrT y c.kb = some 54 /\ (tmL.arr y c.kb)[2 + k * 3]? = some (ptr (c.B (2 + 2 * k))) /\ tmL.may y i ⟨c.kb, 2 + k * 3, none⟩ false := clk_ptr hc (clkA_st hk) fun k hk => by unfold fOff; omega
theorem clk_du {y : TmY} {k : Nat} (hc : y.c = c) (hk : k < 16) : tmL.arrT y c.kb = some 54 /\ (tmL.arr y c.kb)[2 + k * 3 + 1]? = some (ptr (c.B (3 + 2 * k))) /\ tmL.may y i ⟨c.kb, 2 + k * 3 + 1, none⟩ false := clk_ptr hc (clkA_du hk) fun k hk => by unfold fOff; omega
theorem clk_f {y : TmY} {k : Nat} (hc : y.c = c) (hk : k < 16) (i0 : 0 < i) (ho : y.ow k = i) : tmL.arrT y c.kb = some 54 /\ (tmL.arr y c.kb)[2 + k * 3 + 2]? = some (y.fv k) /\ tmL.may y i ⟨c.kb, 2 + k * 3 + 2, none⟩ true := by
  subst hc
  refine ⟨if_pos rfl, ?_, .inl ⟨rfl, .inr ⟨k, hk, rfl, ho, i0⟩⟩⟩
  show (if y.c.kb = y.c.kb then clkA y.c y.fv else _ : Array Value)[2 + k * 3 + 2]? = _
  rw [if_pos rfl]; exact clkA_f hk
theorem tm_mem {y : TmY} {j : Nat} (hc : y.c = c) (hj : j < 34) : c.B j ∈ tmL.cls y := by subst hc; exact tm_cls hj
theorem tm_still {γ : Gf TmY} {N : Nat} (hc : γ.y.c = c) (hro : ∀ b, c.ro b -> b < c.top) (hN : c.top <= N) (o : Nat) : ¬ (SitW Try.prog (XF TT tmL) i).still γ ⟨N, o, none⟩ := fun z => by
  have z' : γ.y.c.ro N := z.2.1
  rw [hc] at z'
  have := hro N z'
  omega
theorem made_w (hA : Idle tmL i δ.g) (hc : δ.g.y.c = c) : CallW Try.prog false (SitW Try.prog (XF TT tmL) i) 18 #[ptr c.kb] h δ (Ret (Cq tmL i h δ.d δ.g.wg fun v y => v = .bool true /\ LRel tmL i δ.g.y y)) := by
  refine CallW.start (n := 12) rfl rfl ?_
  (repeat (first | refine EK.seq ?_ | refine EK.region ?_ | refine ER.done ?_ | refine ER.move rfl rfl rfl ?_ | refine ER.assign rfl rfl rfl ?_ | refine ER.nilCheck rfl rfl rfl ?_ | refine ER.fieldAddr rfl rfl rfl ?_ | refine ER.neqV rfl rfl rfl rfl rfl ?_))
  refine ER.loadA tmL_ok rfl rfl rfl hA fun γ1 r1 a1 j1 => ?_
  have hc1 : γ1.y.c = c := (show TmR i _ γ1.y from r1.toRo.law).c.trans hc
  obtain ⟨q1, q2, q3⟩ := clk_now (i := i) (j := 0) hc1 (by omega)
  refine ⟨_, _, _, q1, q2, q3, ?_⟩
  (repeat (first | refine ER.done ?_ | refine ER.assign rfl rfl rfl ?_ | refine ER.neqV rfl rfl rfl rfl rfl ?_ | refine ER.pickT rfl rfl rfl rfl ?_ | refine EK.ret ?_))
  exact EU.ret1 rfl rfl ⟨rfl, rfl, r1.toRo.wg, a1, rfl, r1.toRo.lrel⟩
theorem now_w {z : Int} (hA : Idle tmL i δ.g) (hc : δ.g.y.c = c) (hi : i = c.n + 1) (hz : δ.g.y.nw = z) : CallW Try.prog false (SitW Try.prog (XF TT tmL) i) 10 #[ptr c.kb, .pointer none] h δ (Ret (Cq tmL i h δ.d δ.g.wg fun v y => v = .int .i64 z /\ LRel tmL i δ.g.y y)) := by
  refine CallW.start (n := 14) rfl rfl ?_
  (repeat (first | refine EK.seq ?_ | refine EK.region ?_ | refine ER.done ?_ | refine ER.move rfl rfl rfl ?_ | refine ER.assign rfl rfl rfl ?_))
  refine ER.callR rfl rfl rfl rfl rfl (made_w hA hc) ?_
  rintro v h1 ⟨d1, γ1⟩ ⟨rfl, e1, w1, a1, rfl, r1⟩
  simp only at e1 w1 a1 r1
  (repeat (first | refine EK.seq ?_ | refine EK.region ?_ | refine ER.done ?_ | refine EK.skip ?_ | refine ER.move rfl rfl rfl ?_ | refine ER.nilCheck rfl rfl rfl ?_ | refine ER.fieldAddr rfl rfl rfl ?_ | refine ER.notB rfl rfl rfl ?_ | refine EK.condF rfl ?_))
  refine ER.loadA tmL_ok rfl rfl rfl a1 fun γ2 r2 a2 j2 => ?_
  have q12 : LRel tmL i δ.g.y γ2.y := r1.trans tmL_ok r2.toRo.lrel
  have hc2 : γ2.y.c = c := (show TmR i _ γ2.y from q12.law).c.trans hc
  obtain ⟨q1, q2, q3⟩ := clk_now (i := i) (j := 0) hc2 (by omega)
  refine ⟨_, _, _, q1, q2, q3, ?_⟩
  (repeat refine ER.move rfl rfl rfl ?_)
  refine ER.callR rfl rfl rfl rfl rfl (cload_f (F := fun v y => v = .int .i64 z /\ LRel tmL i δ.g.y y) tmL_ok a2 (b := c.B 0) (tm_mem hc2 (by omega)) fun y₁ q4 j1 => ?_) ?_
  · have q5 := q12.trans tmL_ok q4
    have := ((show TmR i _ y₁ from q5.law).adv (by rw [hc]; exact hi)).1
    refine ⟨y₁, LMove.none tmL_ok j1, ?_, q5⟩
    have e : tmL.val y₁ (c.B 0) = y₁.nw := by
      have hc3 : y₁.c = c := (show TmR i _ y₁ from q5.law).c.trans hc
      rw [<- hc3]; rfl
    rw [e, this, hz]
  rintro v h3 ⟨d3, γ3⟩ ⟨rfl, e3, w3, a3, rfl, r3⟩
  (repeat (first | refine ER.done ?_ | refine ER.assign rfl rfl rfl ?_ | refine EK.ret ?_))
  exact EU.ret1 rfl rfl ⟨rfl, e3.trans e1, (w3.trans r2.toRo.wg).trans w1, a3, rfl, r3⟩
def SetQ (i : Nat) (c : TmC) (h : Hp) (d bd pt wg : Nat) : Value -> Hp -> Ix (Gf TmY) -> Prop := fun v h' δ' => δ'.d = 0 /\ δ'.g.wg = wg /\ Idle tmL i δ'.g /\
  ((v = .tuple #[.agg #[.int .i64 0, .int .i64 0], .int .i64 12] /\ Sub h h' /\ OwnT i c bd 0 pt δ'.g.y) \/ ∃ k r : Nat, k < 16 /\ r % 4 = 2 /\ r <= 200000 /\ v = .tuple #[.agg #[.int .i64 k, .int .i64 r], .int .i64 0] /\ Sub (lose h d) h' /\ OwnT i c (bd - 3) 1 pt δ'.g.y)
set_option maxRecDepth 8000 in
set_option maxHeartbeats 8000000 in
theorem set_w {z : Int} {d bd pt : Nat} (hA : Idle tmL i δ.g) (hdd : δ.d = 0) (hi : i <= c.n) (o : OwnT i c bd 0 pt δ.g.y) (hbd : 3 <= bd) (hz0 : 0 <= z) (hz1 : z <= 4611686018427387904) (hd : h[d]? = some (dueO z)) (htd : c.top <= d) (hro : ∀ b, c.ro b -> b < c.top) :
    CallW Try.prog false (SitW Try.prog (XF TT tmL) i) 7 #[ptr c.kb, .pointer none, .int .i64 z, c.clos d] h δ (Ret (SetQ i c h d bd pt δ.g.wg)) := by
  have i0 := hA.i0
  have hdz : d < h.size := lt_of_get hd
  refine CallW.start (n := 82) rfl rfl ?_
  (repeat (first | refine EK.seq ?_ | refine EK.region ?_))
  refine ER.allocM (X := XF TT tmL) (i := i) make_w rfl rfl (fun _ => idle_fin hA) fun N hN => ?_
  have hs0 : Sub h ((padTo h N).push (timO 0 0)) := sub_mk (Sub.refl h) hN
  have hb0 : ((padTo h N).push (timO 0 0))[N]? = some (timO 0 0) := mk_new hN
  change ER _ _ _ _ _ _ _ _ _ _ ((padTo h N).push (timO 0 0)) _ _
  generalize (padTo h N).push (timO 0 0) = h0 at hs0 hb0
  have hd0 : h0[d]? = some (dueO z) := hs0.get _ _ hd (dueO_ne z)
  (repeat (first | refine EK.seq ?_ | refine EK.region ?_ | refine ER.done ?_ | refine ER.move rfl rfl rfl ?_ | refine ER.assign rfl rfl rfl ?_))
  refine ER.callR rfl rfl rfl rfl rfl (made_w hA o.cc) ?_
  rintro v h1 ⟨d1, γ1⟩ ⟨rfl, e1, w1, a1, rfl, r1⟩
  simp only at e1 w1 a1 r1
  have o1 := o.rel i0 r1
  (repeat (first | refine EK.seq ?_ | refine EK.region ?_ | refine ER.done ?_ | refine EK.skip ?_ | refine EK.block ?_ | refine ER.move rfl rfl rfl ?_ | refine ER.eqV rfl rfl rfl rfl rfl ?_ | refine ER.notB rfl rfl rfl ?_ | refine ER.pickF rfl rfl rfl rfl ?_ | refine ER.cmpF rfl rfl rfl rfl rfl (by first | (dsimp only [cmpP]; omega) | exact rfl | exact Int.le_refl _) ?_ | refine EK.condF rfl ?_))
  refine EK.loopInv (fun q : Nat => [(28, .int .i64 q), (0, ptr c.kb), (1, .pointer none), (2, .int .i64 z), (3, c.clos d), (8, ptr N)]) (fun q h' δ' => h' = h1 /\ δ'.d = 0 /\ δ'.g.wg = δ.g.wg /\ Idle tmL i δ'.g /\ OwnT i c bd 0 pt δ'.g.y /\ q <= 16) (fun q => 16 - q) 0 ⟨rfl, rfl, rfl, rfl, rfl, rfl, trivial⟩ ⟨rfl, e1.trans hdd, w1, a1, o1, Nat.zero_le _⟩ ?_
  clear r1 o1 a1 e1 w1
  rintro q h2 ⟨d2, γ2⟩ ⟨rfl, e2, w2, a2, o2, hq⟩ again
  simp only at e2 w2 a2 o2
  subst e2
  rcases Nat.lt_or_ge q 16 with hlt | hge
  · (repeat (first | refine EK.seq ?_ | refine EK.region ?_ | refine ER.done ?_ | refine EK.skip ?_ | refine EK.block ?_ | refine ER.move rfl rfl rfl ?_ | refine ER.assign rfl rfl rfl ?_ | refine ER.nilCheck rfl rfl rfl ?_ | refine ER.fieldAddr rfl rfl rfl ?_ | refine ER.cmpT rfl rfl rfl rfl rfl (by first | (dsimp only [cmpP]; omega) | exact rfl | exact Int.le_refl _) ?_ | refine ER.indexArr rfl rfl rfl rfl (by omega) (by omega) ?_ | refine EK.condT rfl ?_))
    refine ER.loadA tmL_ok rfl rfl rfl a2 fun γ3 r3 a3 j3 => ?_
    have o3 := o2.rel i0 r3.toRo.lrel
    obtain ⟨p1, p2, p3⟩ := clk_st (i := i) o3.cc hlt
    refine ⟨_, _, _, p1, p2, p3, ?_⟩
    (repeat refine ER.move rfl rfl rfl ?_)
    refine ER.callR rfl rfl rfl rfl rfl (cload_f (F := fun v y => ∃ s : Nat, v = .int .i64 s /\ s <= 199994 /\ OwnT i c bd 0 pt y) tmL_ok a3 (b := c.B (2 + 2 * q)) (tm_mem o3.cc (by omega)) fun y₁ q4 j1 => ?_) ?_
    · have o4 := o3.rel i0 q4
      have e4 : tmL.val y₁ (c.B (2 + 2 * q)) = y₁.s q := by rw [<- j1.sv q hlt, TmY.st, o4.cc]; rfl
      have := j1.bnd q hlt
      have := nsum_pos (y₁.c.n + 2) y₁.bd i (by rw [o4.cc]; omega)
      have := o4.bd
      exact ⟨y₁, LMove.none tmL_ok j1, y₁.s q, by rw [e4], by omega, o4⟩
    rintro v h4 ⟨d4, γ4⟩ ⟨rfl, e4, w4, a4, s, rfl, hs, o4⟩
    simp only at e4 w4 a4 o4
    subst e4
    by_cases hm : ((s : Nat) : Int).tmod 4 = 0
    · have hm4 : s % 4 = 0 := by rw [tm4] at hm; omega
      (repeat (first | refine EK.seq ?_ | refine EK.region ?_ | refine ER.done ?_ | refine ER.move rfl rfl rfl ?_ | refine ER.assign rfl rfl rfl ?_ | refine ER.nilCheck rfl rfl rfl ?_ | refine ER.fieldAddr rfl rfl rfl ?_ | refine ER.cmpF rfl rfl rfl rfl rfl (by first | (dsimp only [cmpP]; omega) | exact rfl | exact Int.le_refl _) ?_ | refine ER.rem (kd := .i64) rfl rfl rfl rfl (by decide) rfl ?_))
      refine ER.loadA tmL_ok rfl rfl rfl a4 fun γ5 r5 a5 j5 => ?_
      have o5 := o4.rel i0 r5.toRo.lrel
      obtain ⟨p1, p2, p3⟩ := clk_st (i := i) o5.cc hlt
      refine ⟨_, _, _, p1, p2, p3, ?_⟩
      (repeat (first | refine ER.move rfl rfl rfl ?_ | refine ER.add (kd := .i64) rfl rfl rfl rfl (i64_in (by omega) (by omega)) ?_))
      refine ER.callR rfl rfl rfl rfl rfl (ccasH_f (F := fun v h' y => h' = h4 /\ ((v = .bool true /\ OwnT i c (bd - 1) 0 pt y /\ ∃ f u, HasS i q (s + 1) f u y) \/ (v = .bool false /\ OwnT i c bd 0 pt y))) tmL_ok a5 (b := c.B (2 + 2 * q)) (tm_mem o5.cc (by omega)) rfl fun y₁ q6 j6 _ => ?_) ?_
      · have o6 := o5.rel i0 q6
        have e6 : tmL.val y₁ (c.B (2 + 2 * q)) = y₁.s q := by rw [<- j6.sv q hlt, TmY.st, o6.cc]; rfl
        have hb6 := o6.bd
        refine ⟨fun e => ?_, fun e => ⟨y₁, LMove.none tmL_ok j6, rfl, .inr ⟨rfl, o6⟩⟩⟩
        rw [e6] at e
        have es : y₁.s q = s := by omega
        have st : y₁.st q = c.B (2 + 2 * q) := by rw [TmY.st, o6.cc]
        have mv := claim_hand (h := h4) (i := i) j6 hlt i0 (by rw [o6.cc]; exact hi) (by omega) (by rw [es]; exact hm4)
        rw [st] at mv
        have o7 : OwnT i c (bd - 1) 0 pt (claimY y₁ i q) := ⟨o6.cc, by show bd - 1 <= t1 y₁.bd i (y₁.bd i - 1) i; rw [t1_same]; omega, (show t1 y₁.ps i (y₁.ps i) i = 0 by rw [t1_same]; exact o6.ps), (show t1 y₁.pt i (y₁.pt i) i = pt by rw [t1_same]; exact o6.pt)⟩
        have s7 : HasS i q (s + 1) (y₁.fv q) (y₁.du q) (claimY y₁ i q) := ⟨t1_same, by show t1 y₁.s q (y₁.s q + 1) q = s + 1; rw [t1_same, es], rfl, slot_du j6 q⟩
        refine ⟨claimY y₁ i q, h4, mv, ?_, fun y₂ q8 => ⟨rfl, .inl ⟨rfl, o7.rel i0 q8, _, _, s7.rel hlt i0 q8⟩⟩⟩
        show t1 y₁.v (y₁.st q) ((y₁.s q + 1 : Nat) : Int) (c.B (2 + 2 * q)) = (s : Int) + 1
        rw [st, t1_same, es]
        rfl
      rintro v h6 ⟨d6, γ6⟩ ⟨e6, w6, a6, rfl, ⟨rfl, o6, f, u, s6⟩ | ⟨rfl, o6⟩⟩
      · simp only at e6 w6 a6 o6 s6
        subst e6
        clear again
        (repeat (first | refine EK.seq ?_ | refine EK.region ?_ | refine ER.done ?_ | refine EK.skip ?_ | refine ER.move rfl rfl rfl ?_ | refine ER.nilCheck rfl rfl rfl ?_ | refine ER.fieldAddr rfl rfl rfl ?_ | refine ER.notB rfl rfl rfl ?_ | refine ER.pickF rfl rfl rfl rfl ?_ | refine EK.condF rfl ?_))
        refine ER.storeA tmL_ok rfl rfl rfl (by simp [OneCell]) a6 fun γ7 r7 a7 j7 => ?_
        have o7 := o6.rel i0 r7.toRo.lrel
        have s7 := s6.rel hlt i0 r7.toRo.lrel
        obtain ⟨p1, p2, p3⟩ := clk_f o7.cc hlt i0 s7.ow
        have mv := fv_move (f := c.clos d) j7 hlt i0 s7.ow
        rw [o7.cc] at mv
        refine ⟨_, _, fvY γ7.y q (c.clos d), p1, p2, p3, mv, fun γ8 y8 w8 a8 => ?_⟩
        have o8 : OwnT i c (bd - 1) 0 pt γ8.y := by rw [y8]; exact ⟨o7.cc, o7.bd, o7.ps, o7.pt⟩
        have s8 : HasS i q (s + 1) (c.clos d) u γ8.y := by rw [y8]; exact ⟨s7.ow, s7.s, t1_same, s7.du⟩
        clear mv p1 p2 p3
        (repeat (first | refine EK.seq ?_ | refine EK.region ?_ | refine ER.done ?_ | refine ER.move rfl rfl rfl ?_ | refine ER.nilCheck rfl rfl rfl ?_ | refine ER.fieldAddr rfl rfl rfl ?_))
        refine ER.loadA tmL_ok rfl rfl rfl a8 fun γ9 r9 a9 j9 => ?_
        have o9 := o8.rel i0 r9.toRo.lrel
        have s9 := s8.rel hlt i0 r9.toRo.lrel
        obtain ⟨p1, p2, p3⟩ := clk_du (i := i) o9.cc hlt
        refine ⟨_, _, _, p1, p2, p3, ?_⟩
        (repeat refine ER.move rfl rfl rfl ?_)
        refine ER.callR rfl rfl rfl rfl rfl (cstore_f (F := fun _ y => OwnT i c (bd - 2) 0 pt y /\ HasS i q (s + 1) (c.clos d) z y) tmL_ok a9 (b := c.B (3 + 2 * q)) (tm_mem o9.cc (by omega)) (fun y j r => tm_nobd (fun k => by omega) y j c ((show TmR i _ y from r.law).c.trans o9.cc)) fun y₁ q10 j10 => ?_) ?_
        · have o10 := o9.rel i0 q10
          have s10 := s9.rel hlt i0 q10
          have hb10 := o10.bd
          have mv := cell_step (z := z) (j := 3 + 2 * q) j10 (by rw [o10.cc]; omega) (by omega) (by omega) (.inr ⟨q, hlt, rfl, i0, s10.ow⟩)
          rw [o10.cc] at mv
          have o11 : OwnT i c (bd - 2) 0 pt (cellY y₁ i (3 + 2 * q) z) := ⟨o10.cc, by show bd - 2 <= t1 y₁.bd i (y₁.bd i - 1) i; rw [t1_same]; omega, o10.ps, o10.pt⟩
          have s11 : HasS i q (s + 1) (c.clos d) z (cellY y₁ i (3 + 2 * q) z) := ⟨s10.ow, s10.s, s10.fv, t1_same⟩
          refine ⟨_, mv, ?_, fun y₂ q12 => ⟨o11.rel i0 q12, s11.rel hlt i0 q12⟩⟩
          show t1 y₁.v (y₁.c.B (3 + 2 * q)) z (c.B (3 + 2 * q)) = z
          rw [o10.cc, t1_same]
        rintro v h10 ⟨d10, γ10⟩ ⟨rfl, e10, w10, a10, o10, s10⟩
        simp only at e10 w10 a10 o10 s10
        subst e10
        (repeat (first | refine EK.seq ?_ | refine EK.region ?_ | refine ER.done ?_ | refine ER.move rfl rfl rfl ?_ | refine ER.nilCheck rfl rfl rfl ?_ | refine ER.fieldAddr rfl rfl rfl ?_))
        refine ER.loadA tmL_ok rfl rfl rfl a10 fun γ11 r11 a11 j11 => ?_
        have o11 := o10.rel i0 r11.toRo.lrel
        have s11 := s10.rel hlt i0 r11.toRo.lrel
        obtain ⟨p1, p2, p3⟩ := clk_st (i := i) o11.cc hlt
        refine ⟨_, _, _, p1, p2, p3, ?_⟩
        (repeat (first | refine ER.move rfl rfl rfl ?_ | refine ER.add (kd := .i64) rfl rfl rfl rfl (i64_in (by omega) (by omega)) ?_))
        refine ER.callR rfl rfl rfl rfl rfl (cstoreH_f (F := fun _ h' y => h' = lose h10 d /\ OwnT i c (bd - 3) 1 pt y) tmL_ok a11 (b := c.B (2 + 2 * q)) (tm_mem o11.cc (by omega)) rfl fun y₁ q12 j12 _ => ?_) ?_
        · have o12 := o11.rel i0 q12
          have s12 := s11.rel hlt i0 q12
          have hb12 := o12.bd
          have st : y₁.st q = c.B (2 + 2 * q) := by rw [TmY.st, o12.cc]
          have mv := set_hand (h := h10) (d := d) j12 hlt i0 (by rw [o12.cc]; exact hi) (by omega) s12.ow (by rw [o12.cc]; exact s12.fv) (by rw [o12.cc]; exact htd) (by rw [s12.du]; exact ⟨hz0, hz1⟩) (by rw [s12.du]; exact hd0)
          rw [st] at mv
          have o13 : OwnT i c (bd - 3) 1 pt (setY y₁ i q d) := ⟨o12.cc, by show bd - 3 <= t1 y₁.bd i (y₁.bd i - 1) i; rw [t1_same]; omega, (show t1 y₁.ps i (y₁.ps i + 1) i = 1 by rw [t1_same, o12.ps]), (show t1 y₁.pt i (y₁.pt i) i = pt by rw [t1_same]; exact o12.pt)⟩
          refine ⟨_, _, mv, ?_, fun y₂ q14 => ⟨rfl, o13.rel i0 q14⟩⟩
          show t1 y₁.v (y₁.st q) ((y₁.s q + 1 : Nat) : Int) (c.B (2 + 2 * q)) = (s : Int) + 2
          rw [st, t1_same, s12.s]
          omega
        rintro v h12 ⟨d12, γ12⟩ ⟨e12, w12, a12, rfl, o12⟩
        simp only at e12 w12 a12 o12
        subst e12
        have hNd : N ≠ d := by omega
        have hb12 : (lose h10 d)[N]? = some (timO 0 0) := by rw [lose_ne hNd]; exact hb0
        (repeat (first | refine EK.seq ?_ | refine EK.region ?_ | refine ER.done ?_ | refine ER.move rfl rfl rfl ?_ | refine ER.add (kd := .i64) rfl rfl rfl rfl (i64_in (by omega) (by omega)) ?_))
        refine ER.buildS (cells := #[.int .i64 q, .int .i64 ((s : Int) + 2)]) rfl rfl rfl rfl ?_
        refine ER.storeT2 hb12 rfl rfl rfl rfl (by simp [OneCell]) (by simp [OneCell]) (tm_still o12.cc hro (by omega)) ?_
        (repeat (first | refine ER.done ?_ | refine ER.assign rfl rfl rfl ?_ | refine EK.ret ?_))
        refine EU.retCell2 (get_set_same hb12) rfl rfl rfl ⟨rfl, ?_, a12, .inr ⟨q, s + 2, hlt, by omega, by omega, rfl, ?_, o12⟩⟩
        · rw [w12, r11.toRo.wg, w10, r9.toRo.wg, w8, w6, r5.toRo.wg, w4, r3.toRo.wg, w2]
        · refine ⟨fun x p g1 g2 => ?_, by rw [lose_size]; simp [lose_size]; exact hs0.size⟩
          obtain ⟨g3, g4⟩ := lose_get g1 g2
          have g5 := hs0.get x p g4 g2
          have g6 := lt_of_get g4
          rw [get_set_ne _ (by omega), lose_ne g3]
          exact g5
      · simp only at e6 w6 a6 o6
        subst e6
        (repeat (first | refine EK.region ?_ | refine ER.done ?_ | refine ER.move rfl rfl rfl ?_ | refine ER.notB rfl rfl rfl ?_ | refine ER.pickF rfl rfl rfl rfl ?_ | refine ER.add (kd := .i64) rfl rfl rfl rfl (i64_in (by omega) (by omega)) ?_ | refine EK.condT rfl ?_ | refine EK.exit rfl ?_))
        exact EK.back (again (q + 1) _ _ (by omega) ⟨rfl, rfl, by rw [w6, r5.toRo.wg, w4, r3.toRo.wg, w2], a6, o6, hlt⟩) ⟨rfl, rfl, rfl, rfl, rfl, rfl, trivial⟩
    · (repeat (first | refine EK.seq ?_ | refine EK.region ?_ | refine ER.done ?_ | refine ER.move rfl rfl rfl ?_ | refine ER.assign rfl rfl rfl ?_ | refine ER.no rfl rfl ?_ | refine ER.pickT rfl rfl rfl rfl ?_ | refine ER.cmpT rfl rfl rfl rfl rfl (by first | (dsimp only [cmpP]; omega) | exact rfl | exact Int.le_refl _) ?_ | refine ER.add (kd := .i64) rfl rfl rfl rfl (i64_in (by omega) (by omega)) ?_ | refine ER.rem (kd := .i64) rfl rfl rfl rfl (by decide) rfl ?_ | refine EK.condT rfl ?_ | refine EK.exit rfl ?_))
      exact EK.back (again (q + 1) _ _ (by omega) ⟨rfl, rfl, by rw [w4, r3.toRo.wg, w2], a4, o4, hlt⟩) ⟨rfl, rfl, rfl, rfl, rfl, rfl, trivial⟩
  · obtain rfl : q = 16 := by omega
    (repeat (first | refine EK.seq ?_ | refine EK.region ?_ | refine ER.done ?_ | refine ER.cmpF rfl rfl rfl rfl rfl (by first | (dsimp only [cmpP]; omega) | exact rfl | exact Int.le_refl _) ?_ | refine EK.condF rfl ?_ | refine EK.exit rfl ?_))
    refine ER.buildS (cells := #[.int .i64 0, .int .i64 0]) rfl rfl rfl rfl ?_
    refine ER.storeT2 hb0 rfl rfl rfl rfl (by simp [OneCell]) (by simp [OneCell]) (tm_still o2.cc hro (by omega)) ?_
    (repeat (first | refine ER.done ?_ | refine ER.assign rfl rfl rfl ?_ | refine EK.ret ?_))
    refine EU.retCell2 (get_set_same hb0) rfl rfl rfl ⟨rfl, w2, a2, .inl ⟨rfl, ?_, o2⟩⟩
    refine ⟨fun x p g1 g2 => ?_, by simp; exact hs0.size⟩
    have g6 := lt_of_get g1
    rw [get_set_ne _ (by omega)]
    exact hs0.get x p g1 g2
end
end
section
open Go Go.TJ Go.Proofs
variable [Dm]
section
variable {h : Hp} {δ : Ix (Gf TmY)} {i : Nat} {c : TmC}
set_option maxRecDepth 8000 in
set_option maxHeartbeats 4000000 in
theorem stop_w {k r bd : Nat} (hA : Idle tmL i δ.g) (hdd : δ.d = 0) (hi : i <= c.n) (o : OwnT i c bd 0 0 δ.g.y) (hbd : 1 <= bd) (hk : k < 16) (hr : r % 4 = 2) (hrb : r <= 200000) :
    CallW Try.prog false (SitW Try.prog (XF TT tmL) i) 11 #[ptr c.kb, .pointer none, .agg #[.int .i64 k, .int .i64 r]] h δ (Ret fun v h' δ' => Sub h h' /\ δ'.d = 0 /\ δ'.g.wg = δ.g.wg /\ Idle tmL i δ'.g /\ ((v = .bool true /\ OwnT i c (bd - 1) 0 1 δ'.g.y) \/ (v = .bool false /\ OwnT i c bd 0 0 δ'.g.y))) := by
  have i0 := hA.i0
  have hm : ((r : Nat) : Int).tmod 4 = 2 := by rw [tm4]; omega
  refine CallW.start (n := 47) rfl rfl ?_
  (repeat (first | refine EK.seq ?_ | refine EK.region ?_))
  refine ER.boxM (X := XF TT tmL) (i := i) make_w rfl rfl rfl (fun _ => idle_fin hA) fun N hN => ?_
  change ER _ _ _ _ _ _ _ _ _ _ ((padTo h N).push (.cells #[.int .i64 k, .int .i64 r] 33)) _ _
  have hs0 : Sub h ((padTo h N).push (.cells #[.int .i64 k, .int .i64 r] 33)) := sub_mk (Sub.refl h) hN
  have hb0 : ((padTo h N).push (.cells #[.int .i64 k, .int .i64 r] 33))[N]? = some (.cells #[.int .i64 k, .int .i64 r] 33 (0, 0)) := mk_new hN
  generalize (padTo h N).push (.cells #[.int .i64 k, .int .i64 r] 33) = h0 at hs0 hb0 ⊢
  (repeat (first | refine EK.seq ?_ | refine EK.region ?_ | refine ER.done ?_ | refine ER.move rfl rfl rfl ?_ | refine ER.assign rfl rfl rfl ?_))
  refine ER.callR rfl rfl rfl rfl rfl (made_w hA o.cc) ?_
  rintro v h1 ⟨d1, γ1⟩ ⟨rfl, e1, w1, a1, rfl, r1⟩
  simp only at e1 w1 a1 r1
  rw [hdd] at e1
  subst e1
  have o1 := o.rel i0 r1
  have hc0 : hcell h1 ⟨N, 0, none⟩ = some (.int .i64 k) := hcell_of hb0 rfl
  have hc1 : hcell h1 ⟨N, 1, none⟩ = some (.int .i64 r) := hcell_of hb0 rfl
  (repeat (first | refine EK.seq ?_ | refine ER.done ?_ | refine EK.skip ?_ | refine ER.move rfl rfl rfl ?_ | refine ER.fieldAddr rfl rfl rfl ?_ | refine ER.load1 rfl rfl rfl (hcell_of (by assumption) rfl) ?_ | refine ER.notB rfl rfl rfl ?_ | refine ER.pickF rfl rfl rfl rfl ?_ | refine ER.cmpF rfl rfl rfl rfl rfl (by first | (dsimp only [cmpP]; omega) | exact rfl | exact Int.le_refl _) ?_ | refine ER.rem (kd := .i64) rfl rfl rfl rfl (by decide) rfl ?_ | refine EK.condF rfl ?_))
  refine EK.regionAny (fun h' => hcell h' ⟨N, 0, none⟩ = some (.int .i64 k) /\ hcell h' ⟨N, 1, none⟩ = some (.int .i64 r)) ?_ (hDu := a1.at.nd)
  have hZ := And.intro hc0 hc1
  refine EA.tMove 0 rfl (by kernel_rfl) rfl rfl rfl rfl hZ ?_
  refine EA.tField 1 rfl (by kernel_rfl) rfl rfl rfl rfl hZ ?_
  refine EA.tLoad 2 rfl (by kernel_rfl) rfl rfl rfl rfl (fun _ hz => hz.1) hZ ?_
  refine EA.tNil 3 rfl (by kernel_rfl) rfl rfl rfl rfl hZ ?_
  refine EA.tField 4 rfl (by kernel_rfl) rfl rfl rfl rfl hZ ?_
  refine EA.tIdxA 5 rfl (by kernel_rfl) rfl rfl rfl rfl rfl (by omega) (by omega) hZ ?_
  refine EA.tField 6 rfl (by kernel_rfl) rfl rfl rfl rfl hZ ?_
  refine EA.tMove 8 rfl (by kernel_rfl) rfl rfl rfl rfl hZ ?_
  refine EA.tField 9 rfl (by kernel_rfl) rfl rfl rfl rfl hZ ?_
  refine EA.tLoad 10 rfl (by kernel_rfl) rfl rfl rfl rfl (fun _ hz => hz.2) hZ ?_
  refine EA.tField 11 rfl (by kernel_rfl) rfl rfl rfl rfl hZ ?_
  refine EA.tLoad 12 rfl (by kernel_rfl) rfl rfl rfl rfl (fun _ hz => hz.2) hZ ?_
  (first | refine EA.tAdd (kd := .i64) 13 rfl (by kernel_rfl) rfl rfl rfl rfl rfl rfl hZ ?_ | refine EA.tSub (kd := .i64) 13 rfl (by kernel_rfl) rfl rfl rfl rfl rfl rfl hZ ?_)
  (first | refine EA.tAdd (kd := .i64) 14 rfl (by kernel_rfl) rfl rfl rfl rfl rfl rfl hZ ?_ | refine EA.tSub (kd := .i64) 14 rfl (by kernel_rfl) rfl rfl rfl rfl rfl rfl hZ ?_)
  refine EA.onlyH 7 rfl (by kernel_rfl) rfl rfl rfl (.inl ⟨_, rfl, rfl⟩) fun ρ hρ => ⟨fun v h' δ' => v = ptr (c.B (2 + 2 * k)) /\ h' = h1 /\ δ'.d = 0 /\ δ'.g.wg = γ1.wg /\ Idle tmL i δ'.g /\ LRel tmL i γ1.y δ'.g.y, yields_loadA tmL_ok (hρ _ _ rfl) a1 fun γx rx ax jx => ?_, ?_⟩
  · obtain ⟨p1, p2, p3⟩ := clk_st (i := i) ((show TmR i _ γx.y from rx.toRo.law).c.trans (o1.cc)) hk
    exact ⟨_, _, _, p1, p2, p3, rfl, rfl, rfl, rx.toRo.wg, ax, rx.toRo.lrel⟩
  rintro v h2 ⟨d2, γ2⟩ ⟨rfl, rfl, e2, w2, a2, r2⟩
  simp only at e2 w2 a2 r2
  subst e2
  refine ⟨.inr hZ, ?_⟩
  have o2 := o1.rel i0 r2
  refine EA.callR 15 rfl (by kernel_rfl) rfl rfl rfl rfl rfl rfl (ccasH_f (F := fun v h' y => h' = h2 /\ ((v = .bool true /\ OwnT i c (bd - 1) 0 1 y) \/ (v = .bool false /\ OwnT i c bd 0 0 y))) tmL_ok a2 (b := c.B (2 + 2 * k)) (tm_mem o2.cc (by omega)) rfl fun y₁ q6 j6 _ => ?_) ?_
  · have o6 := o2.rel i0 q6
    have e6 : tmL.val y₁ (c.B (2 + 2 * k)) = y₁.s k := by rw [<- j6.sv k hk, TmY.st, o6.cc]; rfl
    have hb6 := o6.bd
    refine ⟨fun e => ?_, fun e => ⟨y₁, LMove.none tmL_ok j6, rfl, .inr ⟨rfl, o6⟩⟩⟩
    rw [e6] at e
    have es : y₁.s k = r := by omega
    have st : y₁.st k = c.B (2 + 2 * k) := by rw [TmY.st, o6.cc]
    have mv := stop_hand (h := h2) (i := i) j6 hk i0 (by rw [o6.cc]; exact hi) (by omega) (by rw [es]; exact hr)
    rw [st] at mv
    have o7 : OwnT i c (bd - 1) 0 1 (stopY y₁ i k) := ⟨o6.cc, by show bd - 1 <= t1 y₁.bd i (y₁.bd i - 1) i; rw [t1_same]; omega, (show t1 y₁.ps i (y₁.ps i) i = 0 by rw [t1_same]; exact o6.ps), (show t1 y₁.pt i (y₁.pt i + 1) i = 1 by rw [t1_same, o6.pt])⟩
    refine ⟨stopY y₁ i k, h2, mv, ?_, fun y₂ q8 => ⟨rfl, .inl ⟨rfl, o7.rel i0 q8⟩⟩⟩
    show t1 y₁.v (y₁.st k) ((y₁.s k + 2 : Nat) : Int) (c.B (2 + 2 * k)) = _
    rw [st, t1_same, es]
    have e : IntKind.i64.wrap (IntKind.i64.wrap ((r : Int) + 4) - 2) = (r : Int) + 2 := by rw [i64_in (x := (r : Int) + 4) (by omega) (by omega), i64_in (by omega) (by omega)]; omega
    rw [e]
    rfl
  rintro v h6 ⟨d6, γ6⟩ ⟨e6, w6, a6, rfl, hv⟩
  simp only at e6 w6 a6 hv
  subst e6
  refine ⟨hZ, ?_⟩
  refine EA.val 16 rfl (by kernel_rfl) rfl rfl rfl (fun ρ Q X hρ hq => sem_assign (hρ _ _ rfl) hq) hZ ?_
  refine EA.done (by kernel_rfl) ?_
  (repeat refine EK.ret ?_)
  exact EU.ret1 rfl rfl ⟨hs0, rfl, (w6.trans w2).trans w1, a6, hv⟩
structure OwnA (i : Nat) (c : TmC) (bd : Nat) (z bz : Int) (hd : Nat) (y : TmY) : Prop where
  hi : i = c.n + 1
  o : OwnT i c bd 0 0 y
  nw : y.nw = z
  bz : y.bz = bz
  no : ∀ k, k < 16 -> k ≠ hd -> y.ow k ≠ i
theorem OwnA.rel {bd hd : Nat} {z bz : Int} {y y' : TmY} (o : OwnA i c bd z bz hd y) (i0 : 0 < i) (r : LRel tmL i y y') : OwnA i c bd z bz hd y' := by
  have q : TmR i y y' := r.law
  obtain ⟨h1, h2⟩ := q.adv (by rw [o.o.cc]; exact o.hi)
  exact ⟨o.hi, o.o.rel i0 r, h1.trans o.nw, h2.trans o.bz, fun k hk hne e => o.no k hk hne (q.nown i0 k hk e)⟩
theorem OwnA.less {bd b hd : Nat} {z bz : Int} {y : TmY} (o : OwnA i c bd z bz hd y) (h : b <= bd) : OwnA i c b z bz hd y := ⟨o.hi, o.o.less h, o.nw, o.bz, o.no⟩
structure SeenT (P k s : Nat) (u : Int) (y : TmY) : Prop where
  le : s <= y.s k
  du : y.s k = s -> y.du k = u
  pr : (tmL.val y (y.st k) = (s : Int) /\ tmL.pairs y <= P) \/ tmL.pairs y + 1 <= P
theorem SeenT.rel {P k s : Nat} {u : Int} {y y' : TmY} (o : SeenT P k s u y) (hk : k < 16) (hs : s % 4 = 2) (r : LRel tmL i y y') : SeenT P k s u y' := by
  have q : TmR i y y' := r.law
  have h1 := q.mono k hk
  have h2 := o.le
  have h3 := r.pairs
  have est : y'.st k = y.st k := by rw [TmY.st, q.c]; rfl
  refine ⟨by omega, fun e => ?_, ?_⟩
  · have e1 : y.s k = s := by omega
    exact (q.same k hk (by omega) (by omega)).trans (o.du e1)
  · rcases o.pr with ⟨p1, p2⟩ | p
    · by_cases e : tmL.pairs y' = tmL.pairs y
      · exact .inl ⟨by rw [r.vals e, est]; exact p1, by omega⟩
      · exact .inr (by omega)
    · exact .inr (by omega)
theorem seen_step {P k s : Nat} {y y' : TmY} (hk : k < 16) (o : s <= y.s k /\ ((tmL.val y (y.st k) = (s : Int) /\ tmL.pairs y <= P) \/ tmL.pairs y + 1 <= P)) (r : LRel tmL i y y') : s <= y'.s k /\ ((tmL.val y' (y'.st k) = (s : Int) /\ tmL.pairs y' <= P) \/ tmL.pairs y' + 1 <= P) := by
  have q : TmR i y y' := r.law
  have h1 := q.mono k hk
  have h3 := r.pairs
  have est : y'.st k = y.st k := by rw [TmY.st, q.c]; rfl
  refine ⟨Nat.le_trans o.1 h1, ?_⟩
  rcases o.2 with ⟨p1, p2⟩ | p
  · by_cases e : tmL.pairs y' = tmL.pairs y
    · exact .inl ⟨by rw [r.vals e, est]; exact p1, by omega⟩
    · exact .inr (by omega)
  · exact .inr (by omega)
structure LookS where
  q : Nat
  found : Bool
  k : Nat
  s : Nat
  u : Int
set_option maxRecDepth 8000 in
set_option maxHeartbeats 8000000 in
theorem look_w {bd P hd : Nat} {z bz m : Int} (hA : Idle tmL i δ.g) (hdd : δ.d = 0) (o : OwnA i c bd z bz hd δ.g.y) (hro : ∀ b, c.ro b -> b < c.top) (htop : c.top <= h.size) (hP : tmL.pairs δ.g.y <= P) :
    CallW Try.prog false (SitW Try.prog (XF TT tmL) i) 23 #[ptr c.kb, .pointer none, .int .i64 m] h δ (Ret fun v h' δ' => Sub h h' /\ δ'.d = 0 /\ δ'.g.wg = δ.g.wg /\ Idle tmL i δ'.g /\ OwnA i c bd z bz hd δ'.g.y /\ tmL.pairs δ'.g.y <= P /\ ((∃ s r : Int, v = .tuple #[.agg #[.int .i64 s, .int .i64 r], .bool false]) \/ (∃ k s : Nat, ∃ u : Int, v = .tuple #[.agg #[.int .i64 k, .int .i64 s], .bool true] /\ k < 16 /\ s % 4 = 2 /\ s <= 200000 /\ u <= m /\ SeenT P k s u δ'.g.y))) := by
  have i0 := hA.i0
  refine CallW.start (n := 57) rfl rfl ?_
  (repeat (first | refine EK.seq ?_ | refine EK.region ?_))
  refine ER.allocM (X := XF TT tmL) (i := i) make_w rfl rfl (fun _ => idle_fin hA) fun N hN => ?_
  (repeat (first | refine EK.seq ?_ | refine EK.region ?_ | refine ER.done ?_ | refine ER.assign rfl rfl rfl ?_))
  refine ER.allocM (X := XF TT tmL) (i := i) make_w rfl rfl (fun _ => idle_fin hA) fun M hM => ?_
  have hM' : N + 1 <= M := by rw [mk_size hN] at hM; exact hM
  change ER _ _ _ _ _ _ _ _ _ _ ((padTo ((padTo h N).push (timO 0 0)) M).push (timO 0 0)) _ _
  have hs0 : Sub h ((padTo ((padTo h N).push (timO 0 0)) M).push (timO 0 0)) := sub_mk (sub_mk (Sub.refl h) hN) hM
  have hb0 : ((padTo ((padTo h N).push (timO 0 0)) M).push (timO 0 0))[N]? = some (timO 0 0) := mk_old hM (mk_new hN) (by unfold timO dum; simp)
  have hb1 : ((padTo ((padTo h N).push (timO 0 0)) M).push (timO 0 0))[M]? = some (timO 0 0) := mk_new hM
  generalize (padTo ((padTo h N).push (timO 0 0)) M).push (timO 0 0) = h0 at hs0 hb0 hb1 ⊢
  (repeat (first | refine EK.seq ?_ | refine EK.region ?_ | refine ER.done ?_ | refine EK.block ?_ | refine ER.move rfl rfl rfl ?_ | refine ER.assign rfl rfl rfl ?_))
  refine EK.loopInv (fun l : LookS => [(14, .int .i64 l.q), (0, ptr c.kb), (1, .pointer none), (2, .int .i64 m), (6, ptr N), (8, ptr M), (9, .int .i64 l.u), (10, .bool l.found)])
    (fun l h' δ' => Sub h h' /\ h'[N]? = some (timO 0 0) /\ h'[M]? = some (timO l.k l.s) /\ δ'.d = 0 /\ δ'.g.wg = δ.g.wg /\ Idle tmL i δ'.g /\ OwnA i c bd z bz hd δ'.g.y /\ tmL.pairs δ'.g.y <= P /\ l.q <= 16 /\ (l.found = true -> l.k < 16 /\ l.s % 4 = 2 /\ l.s <= 200000 /\ l.u <= m /\ SeenT P l.k l.s l.u δ'.g.y)) (fun l => 16 - l.q) ⟨0, false, 0, 0, 0⟩ ⟨rfl, rfl, rfl, rfl, rfl, rfl, rfl, rfl, trivial⟩ ⟨hs0, hb0, hb1, hdd, rfl, hA, o, hP, Nat.zero_le _, fun e => by cases e⟩ ?_
  clear hb0 hb1 hs0
  rintro ⟨q, fd, kk, ss, uu⟩ h1 ⟨d1, γ1⟩ ⟨hs1, g1, g2, e1, w1, a1, o1, hP1, hq, hf⟩ again
  dsimp only at hs1 g1 g2 e1 w1 a1 o1 hP1 hq hf again ⊢
  subst e1
  rcases Nat.lt_or_ge q 16 with hlt | hge
  · (repeat (first | refine EK.seq ?_ | refine EK.region ?_ | refine ER.done ?_ | refine EK.skip ?_ | refine EK.block ?_ | refine ER.move rfl rfl rfl ?_ | refine ER.assign rfl rfl rfl ?_ | refine ER.nilCheck rfl rfl rfl ?_ | refine ER.fieldAddr rfl rfl rfl ?_ | refine ER.cmpT rfl rfl rfl rfl rfl (by first | (dsimp only [cmpP]; omega) | exact rfl | exact Int.le_refl _) ?_ | refine ER.indexArr rfl rfl rfl rfl (by omega) (by omega) ?_ | refine EK.condT rfl ?_))
    refine ER.loadA tmL_ok rfl rfl rfl a1 fun γ2 r2 a2 j2 => ?_
    have o2 := o1.rel i0 r2.toRo.lrel
    have hP2 := Nat.le_trans r2.toRo.lrel.pairs hP1
    have hf2 : fd = true -> kk < 16 /\ ss % 4 = 2 /\ ss <= 200000 /\ uu <= m /\ SeenT P kk ss uu γ2.y := fun e => by
      obtain ⟨f1, f2, f3, f4, f5⟩ := hf e
      exact ⟨f1, f2, f3, f4, f5.rel f1 f2 r2.toRo.lrel⟩
    obtain ⟨p1, p2, p3⟩ := clk_st (i := i) o2.o.cc hlt
    refine ⟨_, _, _, p1, p2, p3, ?_⟩
    (repeat refine ER.move rfl rfl rfl ?_)
    refine ER.callR rfl rfl rfl rfl rfl (cload_f (F := fun v y => ∃ s : Nat, v = .int .i64 s /\ s <= 200000 /\ (s <= y.s q /\ ((tmL.val y (y.st q) = (s : Int) /\ tmL.pairs y <= P) \/ tmL.pairs y + 1 <= P)) /\ OwnA i c bd z bz hd y /\ tmL.pairs y <= P /\ (fd = true -> kk < 16 /\ ss % 4 = 2 /\ ss <= 200000 /\ uu <= m /\ SeenT P kk ss uu y)) tmL_ok a2 (b := c.B (2 + 2 * q)) (tm_mem o2.o.cc (by omega)) fun y₁ q4 j1 => ?_) ?_
    · have o4 := o2.rel i0 q4
      have e4 : tmL.val y₁ (c.B (2 + 2 * q)) = y₁.s q := by rw [<- j1.sv q hlt, TmY.st, o4.o.cc]; rfl
      have := j1.bnd q hlt
      have hP4 := Nat.le_trans q4.pairs hP2
      refine ⟨y₁, LMove.none tmL_ok j1, y₁.s q, by rw [e4], by omega, ⟨Nat.le_refl _, .inl ⟨j1.sv q hlt, hP4⟩⟩, o4, hP4, fun e => ?_⟩
      obtain ⟨f1, f2, f3, f4, f5⟩ := hf2 e
      exact ⟨f1, f2, f3, f4, f5.rel f1 f2 q4⟩
    rintro v h4 ⟨d4, γ4⟩ ⟨rfl, e4, w4, a4, s, rfl, hs, hsl, o4, hP4, hf4⟩
    simp only at e4 w4 a4 o4 hf4 hsl hP4
    subst e4
    by_cases hm2 : ((s : Nat) : Int).tmod 4 = 2
    · have hm4 : s % 4 = 2 := by rw [tm4] at hm2; omega
      (repeat (first | refine EK.seq ?_ | refine EK.region ?_ | refine ER.done ?_ | refine EK.skip ?_ | refine ER.move rfl rfl rfl ?_ | refine ER.assign rfl rfl rfl ?_ | refine ER.nilCheck rfl rfl rfl ?_ | refine ER.fieldAddr rfl rfl rfl ?_ | refine ER.cmpF rfl rfl rfl rfl rfl (by first | (dsimp only [cmpP]; omega) | exact rfl | exact Int.le_refl _) ?_ | refine ER.rem (kd := .i64) rfl rfl rfl rfl (by decide) rfl ?_ | refine ER.indexArr rfl rfl rfl rfl (by omega) (by omega) ?_ | refine EK.condF rfl ?_))
      refine ER.loadA tmL_ok rfl rfl rfl a4 fun γ5 r5 a5 j5 => ?_
      have o5 := o4.rel i0 r5.toRo.lrel
      have hP5 := Nat.le_trans r5.toRo.lrel.pairs hP4
      have hm5 := seen_step hlt hsl r5.toRo.lrel
      have hf5 : fd = true -> kk < 16 /\ ss % 4 = 2 /\ ss <= 200000 /\ uu <= m /\ SeenT P kk ss uu γ5.y := fun e => by
        obtain ⟨f1, f2, f3, f4, f5⟩ := hf4 e
        exact ⟨f1, f2, f3, f4, f5.rel f1 f2 r5.toRo.lrel⟩
      obtain ⟨p1, p2, p3⟩ := clk_du (i := i) o5.o.cc hlt
      refine ⟨_, _, _, p1, p2, p3, ?_⟩
      (repeat refine ER.move rfl rfl rfl ?_)
      refine ER.callR rfl rfl rfl rfl rfl (cload_f (F := fun v y => ∃ x : Int, v = .int .i64 x /\ SeenT P q s x y /\ OwnA i c bd z bz hd y /\ tmL.pairs y <= P /\ (fd = true -> kk < 16 /\ ss % 4 = 2 /\ ss <= 200000 /\ uu <= m /\ SeenT P kk ss uu y)) tmL_ok a5 (b := c.B (3 + 2 * q)) (tm_mem o5.o.cc (by omega)) fun y₁ q6 j6 => ?_) ?_
      · have o6 := o5.rel i0 q6
        have e6 : tmL.val y₁ (c.B (3 + 2 * q)) = y₁.du q := by rw [TmY.du, o6.o.cc]; rfl
        have hP6 := Nat.le_trans q6.pairs hP5
        have hm6 := seen_step hlt hm5 q6
        refine ⟨y₁, LMove.none tmL_ok j6, y₁.du q, by rw [e6], ⟨hm6.1, fun _ => rfl, hm6.2⟩, o6, hP6, fun e => ?_⟩
        obtain ⟨f1, f2, f3, f4, f5⟩ := hf5 e
        exact ⟨f1, f2, f3, f4, f5.rel f1 f2 q6⟩
      rintro v h6 ⟨d6, γ6⟩ ⟨rfl, e6, w6, a6, x, rfl, sx, o6, hP6, hf6⟩
      simp only at e6 w6 a6 o6 hf6 sx hP6
      subst e6
      have w16 : γ6.wg = δ.g.wg := by rw [w6, r5.toRo.wg, w4, r2.toRo.wg, w1]
      by_cases h3 : x <= m
      · cases fd with
        | false =>
          (repeat (first | refine EK.seq ?_ | refine EK.region ?_ | refine ER.done ?_ | refine ER.move rfl rfl rfl ?_ | refine ER.assign rfl rfl rfl ?_ | refine ER.no rfl rfl ?_ | refine ER.notB rfl rfl rfl ?_ | refine ER.pickT rfl rfl rfl rfl ?_ | refine ER.cmpT rfl rfl rfl rfl rfl (by first | (dsimp only [cmpP]; omega) | exact rfl | exact Int.le_refl _) ?_ | refine EK.condT rfl ?_))
          refine ER.buildS (cells := #[.int .i64 q, .int .i64 s]) rfl rfl rfl rfl ?_
          (repeat refine ER.move rfl rfl rfl ?_)
          refine ER.storeT2 g2 rfl rfl rfl rfl (by simp [OneCell]) (by simp [OneCell]) (tm_still o6.o.cc hro (by omega)) ?_
          (repeat (first | refine EK.region ?_ | refine ER.done ?_ | refine EK.inBlock ?_ | refine ER.move rfl rfl rfl ?_ | refine ER.assign rfl rfl rfl ?_ | refine ER.add (kd := .i64) rfl rfl rfl rfl (i64_in (by omega) (by omega)) ?_))
          exact EK.back (again ⟨q + 1, true, q, s, x⟩ _ _ (by dsimp only; omega) ⟨sub_put hs1 (by omega), by rw [get_set_ne _ (by omega)]; exact g1, get_set_same g2, rfl, w16, a6, o6, hP6, hlt, fun _ => ⟨hlt, hm4, hs, h3, sx⟩⟩) ⟨rfl, rfl, rfl, rfl, rfl, rfl, rfl, rfl, trivial⟩
        | true =>
          by_cases h4 : x < uu
          · (repeat (first | refine EK.seq ?_ | refine EK.region ?_ | refine ER.done ?_ | refine ER.move rfl rfl rfl ?_ | refine ER.assign rfl rfl rfl ?_ | refine ER.notB rfl rfl rfl ?_ | refine ER.pickT rfl rfl rfl rfl ?_ | refine ER.pickF rfl rfl rfl rfl ?_ | refine ER.cmpT rfl rfl rfl rfl rfl (by first | (dsimp only [cmpP]; omega) | exact rfl | exact Int.le_refl _) ?_ | refine EK.condT rfl ?_))
            refine ER.buildS (cells := #[.int .i64 q, .int .i64 s]) rfl rfl rfl rfl ?_
            (repeat refine ER.move rfl rfl rfl ?_)
            refine ER.storeT2 g2 rfl rfl rfl rfl (by simp [OneCell]) (by simp [OneCell]) (tm_still o6.o.cc hro (by omega)) ?_
            (repeat (first | refine EK.region ?_ | refine ER.done ?_ | refine EK.inBlock ?_ | refine ER.move rfl rfl rfl ?_ | refine ER.assign rfl rfl rfl ?_ | refine ER.add (kd := .i64) rfl rfl rfl rfl (i64_in (by omega) (by omega)) ?_))
            exact EK.back (again ⟨q + 1, true, q, s, x⟩ _ _ (by dsimp only; omega) ⟨sub_put hs1 (by omega), by rw [get_set_ne _ (by omega)]; exact g1, get_set_same g2, rfl, w16, a6, o6, hP6, hlt, fun _ => ⟨hlt, hm4, hs, h3, sx⟩⟩) ⟨rfl, rfl, rfl, rfl, rfl, rfl, rfl, rfl, trivial⟩
          · (repeat (first | refine EK.seq ?_ | refine EK.region ?_ | refine ER.done ?_ | refine EK.skip ?_ | refine EK.inBlock ?_ | refine ER.move rfl rfl rfl ?_ | refine ER.assign rfl rfl rfl ?_ | refine ER.notB rfl rfl rfl ?_ | refine ER.pickT rfl rfl rfl rfl ?_ | refine ER.pickF rfl rfl rfl rfl ?_ | refine ER.cmpT rfl rfl rfl rfl rfl (by first | (dsimp only [cmpP]; omega) | exact rfl | exact Int.le_refl _) ?_ | refine ER.cmpF rfl rfl rfl rfl rfl (by first | (dsimp only [cmpP]; omega) | exact rfl | exact Int.le_refl _) ?_ | refine ER.add (kd := .i64) rfl rfl rfl rfl (i64_in (by omega) (by omega)) ?_ | refine EK.condF rfl ?_))
            exact EK.back (again ⟨q + 1, true, kk, ss, uu⟩ _ _ (by dsimp only; omega) ⟨hs1, g1, g2, rfl, w16, a6, o6, hP6, hlt, hf6⟩) ⟨rfl, rfl, rfl, rfl, rfl, rfl, rfl, rfl, trivial⟩
      · (repeat (first | refine EK.seq ?_ | refine EK.region ?_ | refine ER.done ?_ | refine EK.skip ?_ | refine EK.inBlock ?_ | refine ER.move rfl rfl rfl ?_ | refine ER.assign rfl rfl rfl ?_ | refine ER.no rfl rfl ?_ | refine ER.pickF rfl rfl rfl rfl ?_ | refine ER.cmpF rfl rfl rfl rfl rfl (by first | (dsimp only [cmpP]; omega) | exact rfl | exact Int.le_refl _) ?_ | refine ER.add (kd := .i64) rfl rfl rfl rfl (i64_in (by omega) (by omega)) ?_ | refine EK.condF rfl ?_))
        exact EK.back (again ⟨q + 1, fd, kk, ss, uu⟩ _ _ (by dsimp only; omega) ⟨hs1, g1, g2, rfl, w16, a6, o6, hP6, hlt, hf6⟩) ⟨rfl, rfl, rfl, rfl, rfl, rfl, rfl, rfl, trivial⟩
    · (repeat (first | refine EK.seq ?_ | refine EK.region ?_ | refine ER.done ?_ | refine ER.move rfl rfl rfl ?_ | refine ER.assign rfl rfl rfl ?_ | refine ER.cmpT rfl rfl rfl rfl rfl (by first | (dsimp only [cmpP]; omega) | exact rfl | exact Int.le_refl _) ?_ | refine ER.add (kd := .i64) rfl rfl rfl rfl (i64_in (by omega) (by omega)) ?_ | refine ER.rem (kd := .i64) rfl rfl rfl rfl (by decide) rfl ?_ | refine EK.condT rfl ?_ | refine EK.exit rfl ?_))
      exact EK.back (again ⟨q + 1, fd, kk, ss, uu⟩ _ _ (by dsimp only; omega) ⟨hs1, g1, g2, rfl, by rw [w4, r2.toRo.wg, w1], a4, o4, hP4, hlt, hf4⟩) ⟨rfl, rfl, rfl, rfl, rfl, rfl, rfl, rfl, trivial⟩
  · obtain rfl : q = 16 := by omega
    (repeat (first | refine EK.seq ?_ | refine EK.region ?_ | refine ER.done ?_ | refine ER.cmpF rfl rfl rfl rfl rfl (by first | (dsimp only [cmpP]; omega) | exact rfl | exact Int.le_refl _) ?_ | refine EK.condF rfl ?_ | refine EK.exit rfl ?_))
    refine ER.loadN (vs := [.int .i64 kk, .int .i64 ss]) rfl rfl rfl rfl (hrow2 g2) ?_
    (repeat refine ER.move rfl rfl rfl ?_)
    refine ER.storeT2 g1 rfl rfl rfl rfl (by simp [OneCell]) (by simp [OneCell]) (tm_still o1.o.cc hro (by omega)) ?_
    (repeat (first | refine ER.done ?_ | refine ER.assign rfl rfl rfl ?_ | refine EK.ret ?_))
    refine EU.retCell2 (get_set_same g1) rfl rfl rfl ⟨sub_put hs1 (by omega), rfl, w1, a1, o1, hP1, ?_⟩
    cases fd with
    | false => exact .inl ⟨kk, ss, rfl⟩
    | true =>
      obtain ⟨f1, f2, f3, f4, f5⟩ := hf rfl
      exact .inr ⟨kk, ss, uu, rfl, f1, f2, f3, f4, f5⟩
end
end
section
open Go Go.TJ Go.Proofs
variable [Dm]
theorem TmY.rrel {i k : Nat} {y y' : TmY} {r : Nat} (h : y.rr k = r) (ho : y.ow k = i) (hk : k < 16) (i0 : 0 < i) (q : LRel tmL i y y') : y'.rr k = r := ((show TmR i y y' from q.law).own i0 k hk ho).2.2.2.2.trans h
section
variable {h : Hp} {δ : Ix (Gf TmY)} {i : Nat} {c : TmC}
theorem ring_w {bd k s d hd : Nat} {z bz u : Int} {f : Value} (hA : Idle tmL i δ.g) (o : OwnA i c bd z bz hd δ.g.y) (hbd : 1 <= bd) (hk : k < 16) (hs : s % 4 = 3) (S : HasS i k s f u δ.g.y) (hr : δ.g.y.rr k = 1) (hcv : hcell h ⟨c.cv, 0, none⟩ = some (ptr c.kb)) (hdu : h[d]? = some (dueO u)) (huz : u <= z) :
    CallW Try.prog false (SitW Try.prog (XF TT tmL) i) 8 #[.pointer none, ptr (c.A 2), ptr c.cv, ptr d, ptr (c.A 3)] h δ (Ret (Cq tmL i h δ.d δ.g.wg fun v y => v = .tuple #[] /\ OwnA i c (bd - 1) z bz hd y /\ HasS i k s f u y /\ y.rr k = 0 /\ tmL.pairs y <= tmL.pairs δ.g.y)) := by
  have i0 := hA.i0
  have hat : tmL.atT δ.g.y (c.A 2) = some 29 := by
    show (if _ \/ _ \/ _ \/ _ then _ else _) = _
    rw [o.o.cc]
    exact if_pos (.inr (.inr (.inl rfl)))
  refine CallW.start (n := 12) rfl rfl ?_
  (repeat (first | refine EK.seq ?_ | refine EK.region ?_))
  refine ER.callR rfl rfl rfl rfl rfl (aaddT_f (Q := fun v h' δ' => h' = h /\ δ'.d = δ.d /\ δ'.g.wg = δ.g.wg /\ Idle tmL i δ'.g /\ OwnA i c (bd - 1) z bz hd δ'.g.y /\ HasS i k s f u δ'.g.y /\ δ'.g.y.rr k = 0 /\ tmL.pairs δ'.g.y <= tmL.pairs δ.g.y) tmL_ok hA hat fun γ1 r1 a1 j1 => ?_) ?_
  · have o1 := o.rel i0 r1.toRo.lrel
    have S1 := S.rel hk i0 r1.toRo.lrel
    have e1 := TmY.rrel hr S.ow hk i0 r1.toRo.lrel
    have hb1 := o1.o.bd
    have ei := o1.hi
    have mv := atm_step (q := 2) (p := γ1.y.ps i) (r := γ1.y.pt i) (r' := 0) j1 hk (by omega) i0 (by rw [o1.o.cc]; omega) (by omega) (.inr S1.ow) (by rw [S1.s, occ3 hs, occ3 hs, e1]; simp)
    have vl := atm_val (i := i) (k := k) (q := 2) (p := γ1.y.ps i) (r := γ1.y.pt i) (r' := 0) j1 (by omega)
    rw [o1.o.cc] at mv vl
    have o2 : OwnA i c (bd - 1) z bz hd (atmY γ1.y i k 2 (γ1.y.ps i) (γ1.y.pt i) 0) := ⟨o1.hi, ⟨o1.o.cc, by show bd - 1 <= t1 γ1.y.bd i (γ1.y.bd i - 1) i; rw [t1_same]; omega, (show t1 γ1.y.ps i (γ1.y.ps i) i = 0 by rw [t1_same]; exact o1.o.ps), (show t1 γ1.y.pt i (γ1.y.pt i) i = 0 by rw [t1_same]; exact o1.o.pt)⟩, o1.nw, o1.bz, o1.no⟩
    have hpp := Nat.le_trans mv.pairs r1.toRo.lrel.pairs
    exact ⟨_, mv, vl, fun γ2 y2 w2 a2 => ⟨rfl, rfl, w2, a2, by rw [y2]; exact o2, by rw [y2]; exact ⟨S1.ow, S1.s, S1.fv, S1.du⟩, by rw [y2]; exact t1_same, by rw [y2]; exact hpp⟩⟩
  rintro v h1 ⟨d1, γ1⟩ ⟨rfl, e1, w1, a1, o1, S1, z1, pp1⟩
  simp only at e1 w1 a1 o1 S1 z1 pp1
  (repeat (first | refine EK.seq ?_ | refine ER.done ?_))
  refine EK.regionAny (fun h' => hcell h' ⟨c.cv, 0, none⟩ = some (ptr c.kb) /\ hcell h' ⟨d, 0, none⟩ = some (.int .i64 u)) ?_ (hDu := a1.at.nd)
  have hZ : hcell h1 ⟨c.cv, 0, none⟩ = some (ptr c.kb) /\ hcell h1 ⟨d, 0, none⟩ = some (.int .i64 u) := ⟨hcv, hcell_of hdu rfl⟩
  refine EA.tLoad 0 rfl (by kernel_rfl) rfl rfl rfl rfl (fun _ hz => hz.1) hZ ?_
  refine EA.tLoad 2 rfl (by kernel_rfl) rfl rfl rfl rfl (fun _ hz => hz.2) hZ ?_
  refine EA.callR 1 rfl (by kernel_rfl) rfl rfl rfl rfl rfl rfl (now_w (z := z) a1 o1.o.cc o1.hi o1.nw) ?_
  rintro v h2 ⟨d2, γ2⟩ ⟨rfl, e2, w2, a2, rfl, r2⟩
  simp only at e2 w2 a2 r2
  refine ⟨hZ, ?_⟩
  have hnl : ¬ (z < u) := by omega
  refine EA.tCmpF 3 rfl (by kernel_rfl) rfl rfl rfl rfl rfl rfl (by first | (dsimp only [cmpP]; omega) | exact rfl | exact Int.le_refl _) hZ ?_
  refine EA.done (by kernel_rfl) ?_
  (repeat (first | refine EK.skip ?_ | refine EK.condF rfl ?_))
  refine EK.done ?_
  exact EU.ret0 rfl ⟨rfl, e2.trans e1, w2.trans w1, a2, rfl, o1.rel i0 r2, S1.rel hk i0 r2, TmY.rrel z1 S1.ow hk i0 r2, Nat.le_trans r2.pairs pp1⟩
structure AdvS where
  r : Nat
  P : Nat
def advB (bd r : Nat) : Nat := bd - 2 - 3 * r
set_option maxRecDepth 8000 in
set_option maxHeartbeats 16000000 in
theorem adv_w {bd : Nat} {z dd : Int} (hA : Idle tmL i δ.g) (hdd : δ.d = 0) (o : OwnA i c bd z 0 16 δ.g.y) (hbd : 195 <= bd) (h0 : 0 <= dd) (hz0 : 0 <= z) (hz1 : z <= 4611686018427387904) (hro : ∀ b, c.ro b -> b < c.top) (htop : c.top <= h.size) (hcv : hcell h ⟨c.cv, 0, none⟩ = some (ptr c.kb)) :
    CallW Try.prog false (SitW Try.prog (XF TT tmL) i) 13 #[ptr c.kb, .pointer none, .int .i64 dd] h δ (Ret fun v h' δ' => Sub h h' /\ δ'.d = 0 /\ δ'.g.wg = δ.g.wg /\ Idle tmL i δ'.g /\ (∃ z', 0 <= z' /\ z' <= 4611686018427387904 /\ OwnA i c (bd - 195) z' 0 16 δ'.g.y) /\ ∃ n : Int, v = .tuple #[.int .i64 n, .int .i64 0]) := by
  have i0 := hA.i0
  have hi := o.hi
  obtain ⟨m, hm, hm0, hm1⟩ : ∃ m : Int, z + (if 4611686018427387904 - z < dd then 4611686018427387904 - z else dd) = m /\ 0 <= m /\ m <= 4611686018427387904 := ⟨_, rfl, by split <;> omega, by split <;> omega⟩
  refine CallW.start (n := 101) rfl rfl ?_
  (repeat (first | refine EK.seq ?_ | refine EK.region ?_ | refine ER.done ?_ | refine ER.move rfl rfl rfl ?_ | refine ER.assign rfl rfl rfl ?_))
  refine ER.callR rfl rfl rfl rfl rfl (made_w hA o.o.cc) ?_
  rintro v h1 ⟨d1, γ1⟩ ⟨rfl, e1, w1, a1, rfl, r1⟩
  simp only at e1 w1 a1 r1
  rw [hdd] at e1
  subst e1
  have o1 := o.rel i0 r1
  (repeat (first | refine EK.seq ?_ | refine EK.region ?_ | refine ER.done ?_ | refine EK.skip ?_ | refine ER.move rfl rfl rfl ?_ | refine ER.nilCheck rfl rfl rfl ?_ | refine ER.fieldAddr rfl rfl rfl ?_ | refine ER.notB rfl rfl rfl ?_ | refine ER.cmpF rfl rfl rfl rfl rfl (by first | (dsimp only [cmpP]; omega) | exact rfl | exact Int.le_refl _) ?_ | refine EK.condF rfl ?_))
  refine ER.loadA tmL_ok rfl rfl rfl a1 fun γ2 r2 a2 j2 => ?_
  have o2 := o1.rel i0 r2.toRo.lrel
  obtain ⟨p1, p2, p3⟩ := clk_now (i := i) (j := 1) o2.o.cc (by omega)
  refine ⟨_, _, _, p1, p2, p3, ?_⟩
  (repeat refine ER.move rfl rfl rfl ?_)
  refine ER.callR rfl rfl rfl rfl rfl (ccas_f (F := fun v y => v = .bool true /\ OwnA i c (bd - 1) z 1 16 y) tmL_ok a2 (b := c.B 1) (tm_mem o2.o.cc (by omega)) (fun y j r => tm_nobd (fun k => by omega) y j c ((show TmR i _ y from r.law).c.trans o2.o.cc)) fun y₁ q3 j3 => ?_) ?_
  · have o3 := o2.rel i0 q3
    have hb3 := o3.o.bd
    have e3 : tmL.val y₁ (c.B 1) = 0 := by
      have := o3.bz
      unfold TmY.bz at this
      rw [o3.o.cc] at this
      exact this
    refine ⟨fun _ => ?_, fun e => absurd e3 e⟩
    have mv := cell_step (z := 1) (j := 1) j3 (i := i) (by rw [o3.o.cc]; omega) (by omega) (by omega) (.inl ⟨by rw [o3.o.cc]; exact hi, .inl rfl⟩)
    rw [o3.o.cc] at mv
    have o4 : OwnA i c (bd - 1) z 1 16 (cellY y₁ i 1 1) := ⟨hi, ⟨o3.o.cc, by show bd - 1 <= t1 y₁.bd i (y₁.bd i - 1) i; rw [t1_same]; omega, o3.o.ps, o3.o.pt⟩, (show t1 y₁.v (y₁.c.B 1) 1 (y₁.c.B 0) = z from (t1_ne fun e => by have := j3.inj _ _ e; omega).trans o3.nw), t1_same, o3.no⟩
    refine ⟨_, mv, ?_, fun y₂ q4 => ⟨rfl, o4.rel i0 q4⟩⟩
    show t1 y₁.v (y₁.c.B 1) 1 (c.B 1) = 1
    rw [o3.o.cc, t1_same]
  rintro v h3 ⟨d3, γ3⟩ ⟨rfl, e3, w3, a3, rfl, o3⟩
  simp only at e3 w3 a3 o3
  subst e3
  (repeat (first | refine EK.seq ?_ | refine EK.region ?_ | refine ER.done ?_ | refine EK.skip ?_ | refine ER.move rfl rfl rfl ?_ | refine ER.nilCheck rfl rfl rfl ?_ | refine ER.fieldAddr rfl rfl rfl ?_ | refine ER.notB rfl rfl rfl ?_ | refine EK.condF rfl ?_))
  refine ER.loadA tmL_ok rfl rfl rfl a3 fun γ4 r4 a4 j4 => ?_
  have o4 := o3.rel i0 r4.toRo.lrel
  obtain ⟨p1, p2, p3⟩ := clk_now (i := i) (j := 0) o4.o.cc (by omega)
  refine ⟨_, _, _, p1, p2, p3, ?_⟩
  (repeat refine ER.move rfl rfl rfl ?_)
  refine ER.callR rfl rfl rfl rfl rfl (cload_f (F := fun v y => v = .int .i64 z /\ OwnA i c (bd - 1) z 1 16 y) tmL_ok a4 (b := c.B 0) (tm_mem o4.o.cc (by omega)) fun y₁ q5 j5 => ?_) ?_
  · have o5 := o4.rel i0 q5
    refine ⟨y₁, LMove.none tmL_ok j5, ?_, o5⟩
    have := o5.nw
    unfold TmY.nw at this
    rw [o5.o.cc] at this
    exact congrArg (Value.int .i64) this
  rintro v h5 ⟨d5, γ5⟩ ⟨rfl, e5, w5, a5, rfl, o5⟩
  simp only at e5 w5 a5 o5
  subst e5
  (repeat (first | refine EK.seq ?_ | refine EK.region ?_ | refine ER.done ?_ | refine ER.move rfl rfl rfl ?_ | refine ER.assign rfl rfl rfl ?_ | refine ER.sub' (kd := .i64) rfl rfl rfl rfl (i64_in (by omega) (by omega)) ?_))
  refine ER.min rfl rfl rfl rfl rfl ?_
  refine ER.add (kd := .i64) (r := m) rfl rfl rfl rfl (by rw [hm]; exact i64_in (by omega) (by omega)) ?_
  (repeat (first | refine EK.seq ?_ | refine EK.region ?_ | refine ER.done ?_ | refine ER.move rfl rfl rfl ?_ | refine ER.assign rfl rfl rfl ?_ | refine ER.nilCheck rfl rfl rfl ?_ | refine ER.fieldAddr rfl rfl rfl ?_))
  refine ER.loadA tmL_ok rfl rfl rfl a5 fun γ6 r6 a6 j6 => ?_
  have o6 := o5.rel i0 r6.toRo.lrel
  obtain ⟨p1, p2, p3⟩ := clk_now (i := i) (j := 0) o6.o.cc (by omega)
  refine ⟨_, _, _, p1, p2, p3, ?_⟩
  (repeat refine ER.move rfl rfl rfl ?_)
  refine ER.callR rfl rfl rfl rfl rfl (cstore_f (F := fun _ y => OwnA i c (bd - 2) m 1 16 y) tmL_ok a6 (b := c.B 0) (tm_mem o6.o.cc (by omega)) (fun y j r => tm_nobd (fun k => by omega) y j c ((show TmR i _ y from r.law).c.trans o6.o.cc)) fun y₁ q7 j7 => ?_) ?_
  · have o7 := o6.rel i0 q7
    have hb7 := o7.o.bd
    have mv := cell_step (z := m) (j := 0) j7 (i := i) (by rw [o7.o.cc]; omega) (by omega) (by omega) (.inl ⟨by rw [o7.o.cc]; exact hi, .inr ⟨rfl, hm0, hm1⟩⟩)
    rw [o7.o.cc] at mv
    have o8 : OwnA i c (bd - 2) m 1 16 (cellY y₁ i 0 m) := ⟨hi, ⟨o7.o.cc, by show bd - 2 <= t1 y₁.bd i (y₁.bd i - 1) i; rw [t1_same]; omega, o7.o.ps, o7.o.pt⟩, t1_same, (show t1 y₁.v (y₁.c.B 0) m (y₁.c.B 1) = 1 from (t1_ne fun e => by have := j7.inj _ _ e; omega).trans o7.bz), o7.no⟩
    refine ⟨_, mv, ?_, fun y₂ q8 => o8.rel i0 q8⟩
    show t1 y₁.v (y₁.c.B 0) m (c.B 0) = m
    rw [o7.o.cc, t1_same]
  rintro v h7 ⟨d7, γ7⟩ ⟨rfl, e7, w7, a7, o7⟩
  simp only at e7 w7 a7 o7
  subst e7
  have w70 : γ7.wg = δ.g.wg := by rw [w7, r6.toRo.wg, w5, r4.toRo.wg, w3, r2.toRo.wg, w1]
  (repeat (first | refine EK.seq ?_ | refine EK.region ?_ | refine ER.done ?_ | refine EK.block ?_ | refine ER.assign rfl rfl rfl ?_))
  refine EK.loopInv (fun s : AdvS => [(9, .int .i64 s.r), (0, ptr c.kb), (1, .pointer none), (8, .int .i64 m)]) (fun s h' δ' => Sub h7 h' /\ δ'.d = 0 /\ δ'.g.wg = δ.g.wg /\ Idle tmL i δ'.g /\ OwnA i c (advB bd s.r) m 1 16 δ'.g.y /\ tmL.pairs δ'.g.y <= s.P /\ s.r <= 64) (fun s => (64 - s.r) + s.P) ⟨0, tmL.pairs γ7.y⟩ ⟨rfl, rfl, rfl, rfl, trivial⟩ ⟨Sub.refl _, rfl, w70, a7, o7, Nat.le_refl _, by simp⟩ ?_
  clear w7 r6 w5 r4 w3 r2 w1 o7 a7 w70
  rintro ⟨rn, P⟩ h8 ⟨d8, γ8⟩ ⟨hs8, e8, w8, a8, o8, hP8, hr8⟩ again
  dsimp only at hs8 e8 w8 a8 o8 hP8 hr8 again ⊢
  subst e8
  have ht8 : c.top <= h8.size := Nat.le_trans htop hs8.size
  (repeat (first | refine EK.seq ?_ | refine EK.region ?_ | refine EK.block ?_ | refine ER.move rfl rfl rfl ?_))
  refine ER.callR rfl rfl rfl rfl rfl (look_w a8 rfl o8 hro ht8 hP8) ?_
  rintro v h9 ⟨d9, γ9⟩ ⟨hs9, e9, w9, a9, o9, hP9, hv⟩
  simp only at e9 w9 a9 o9 hP9 hv
  subst e9
  obtain ⟨x1, x2, fnd, rfl, hf⟩ : ∃ (x1 x2 : Int) (fnd : Bool), v = .tuple #[.agg #[.int .i64 x1, .int .i64 x2], .bool fnd] /\ (fnd = true -> ∃ k s : Nat, ∃ u : Int, x1 = k /\ x2 = s /\ k < 16 /\ s % 4 = 2 /\ s <= 200000 /\ u <= m /\ SeenT P k s u γ9.y) := by
    rcases hv with ⟨s, r, rfl⟩ | ⟨k, s, u, rfl, q1, q2, q3, q4, q5⟩
    · exact ⟨s, r, false, rfl, fun e => by cases e⟩
    · exact ⟨k, s, true, rfl, fun _ => ⟨k, s, u, rfl, rfl, q1, q2, q3, q4, q5⟩⟩
  clear hv
  have hs79 := hs8.trans hs9
  (repeat (first | refine ER.move rfl rfl rfl ?_ | refine ER.extract rfl rfl rfl rfl ?_))
  refine ER.allocM (X := XF TT tmL) (i := i) make_w rfl rfl (fun _ => idle_fin a9) fun N hN => ?_
  have hb0 : ((padTo h9 N).push (timO 0 0))[N]? = some (timO 0 0) := mk_new hN
  have hs10 : Sub h9 ((padTo h9 N).push (timO 0 0)) := sub_mk (Sub.refl h9) hN
  change ER _ _ _ _ _ _ _ _ _ _ ((padTo h9 N).push (timO 0 0)) _ _
  generalize (padTo h9 N).push (timO 0 0) = h10 at hb0 hs10
  skip
  refine ER.storeT2 hb0 rfl rfl rfl rfl (by simp [OneCell]) (by simp [OneCell]) (tm_still o9.o.cc hro (by have := hs9.size; omega)) ?_
  have hb1 : (h10.setIfInBounds N (.cells #[.int .i64 x1, .int .i64 x2] 33 (0, 0)))[N]? = some (.cells #[.int .i64 x1, .int .i64 x2] 33 (0, 0)) := get_set_same hb0
  have hs11 : Sub h7 (h10.setIfInBounds N (.cells #[.int .i64 x1, .int .i64 x2] 33 (0, 0))) := (hs79).trans (sub_put hs10 hN)
  generalize h10.setIfInBounds N (.cells #[.int .i64 x1, .int .i64 x2] 33 (0, 0)) = h11 at hb1 hs11 ⊢
  clear hb0 hs10 hs9 hs79 hs8
  cases fnd with
  | false =>
    (repeat (first | refine EK.seq ?_ | refine EK.region ?_ | refine ER.done ?_ | refine ER.move rfl rfl rfl ?_ | refine ER.assign rfl rfl rfl ?_ | refine ER.nilCheck rfl rfl rfl ?_ | refine ER.fieldAddr rfl rfl rfl ?_ | refine ER.no rfl rfl ?_ | refine ER.notB rfl rfl rfl ?_ | refine ER.pickT rfl rfl rfl rfl ?_ | refine EK.condT rfl ?_ | refine EK.exit rfl ?_))
    refine ER.loadA tmL_ok rfl rfl rfl a9 fun γt rt at1 jt => ?_
    have ot := o9.rel i0 rt.toRo.lrel
    obtain ⟨p1, p2, p3⟩ := clk_now (i := i) (j := 1) ot.o.cc (by omega)
    refine ⟨_, _, _, p1, p2, p3, ?_⟩
    (repeat refine ER.move rfl rfl rfl ?_)
    refine ER.callR rfl rfl rfl rfl rfl (cstore_f (F := fun _ y => OwnA i c (bd - 195) m 0 16 y) tmL_ok at1 (b := c.B 1) (tm_mem ot.o.cc (by omega)) (fun y j r => tm_nobd (fun k => by omega) y j c ((show TmR i _ y from r.law).c.trans ot.o.cc)) fun y₁ q7 j7 => ?_) ?_
    · have o7 := ot.rel i0 q7
      have hb7 := o7.o.bd
      unfold advB at hb7
      have mv := cell_step (z := 0) (j := 1) j7 (i := i) (by rw [o7.o.cc]; omega) (by omega) (by omega) (.inl ⟨by rw [o7.o.cc]; exact hi, .inl rfl⟩)
      rw [o7.o.cc] at mv
      have o8 : OwnA i c (bd - 195) m 0 16 (cellY y₁ i 1 0) := ⟨hi, ⟨o7.o.cc, by show bd - 195 <= t1 y₁.bd i (y₁.bd i - 1) i; rw [t1_same]; omega, o7.o.ps, o7.o.pt⟩, (show t1 y₁.v (y₁.c.B 1) 0 (y₁.c.B 0) = m from (t1_ne fun e => by have := j7.inj _ _ e; omega).trans o7.nw), t1_same, o7.no⟩
      refine ⟨_, mv, ?_, fun y₂ q8 => o8.rel i0 q8⟩
      show t1 y₁.v (y₁.c.B 1) 0 (c.B 1) = 0
      rw [o7.o.cc, t1_same]
    rintro v ht ⟨dt, γu⟩ ⟨rfl, et, wt, au, ou⟩
    simp only at et wt au ou
    subst et
    (repeat (first | refine EK.seq ?_ | refine EK.region ?_ | refine ER.done ?_ | refine ER.move rfl rfl rfl ?_ | refine ER.assign rfl rfl rfl ?_ | refine EK.ret ?_))
    exact EU.ret2 rfl rfl rfl ⟨hs11, rfl, by rw [wt, rt.toRo.wg]; exact w9.trans w8, au, ⟨m, hm0, hm1, ou⟩, _, rfl⟩
  | true =>
    obtain ⟨k, s, u, rfl, rfl, hk, hs2, hsb, hum, sn⟩ := hf rfl
    clear hf
    by_cases h64 : rn = 64
    · subst h64
      (repeat (first | refine EK.seq ?_ | refine EK.region ?_ | refine ER.done ?_ | refine ER.move rfl rfl rfl ?_ | refine ER.assign rfl rfl rfl ?_ | refine ER.nilCheck rfl rfl rfl ?_ | refine ER.fieldAddr rfl rfl rfl ?_ | refine ER.notB rfl rfl rfl ?_ | refine ER.pickF rfl rfl rfl rfl ?_ | refine ER.cmpT rfl rfl rfl rfl rfl (by first | (dsimp only [cmpP]; omega) | exact rfl | exact Int.le_refl _) ?_ | refine EK.condT rfl ?_ | refine EK.exit rfl ?_))
      refine ER.loadA tmL_ok rfl rfl rfl a9 fun γt rt at1 jt => ?_
      have ot := o9.rel i0 rt.toRo.lrel
      obtain ⟨p1, p2, p3⟩ := clk_now (i := i) (j := 1) ot.o.cc (by omega)
      refine ⟨_, _, _, p1, p2, p3, ?_⟩
      (repeat refine ER.move rfl rfl rfl ?_)
      refine ER.callR rfl rfl rfl rfl rfl (cstore_f (F := fun _ y => OwnA i c (bd - 195) m 0 16 y) tmL_ok at1 (b := c.B 1) (tm_mem ot.o.cc (by omega)) (fun y j r => tm_nobd (fun k => by omega) y j c ((show TmR i _ y from r.law).c.trans ot.o.cc)) fun y₁ q7 j7 => ?_) ?_
      · have o7 := ot.rel i0 q7
        have hb7 := o7.o.bd
        unfold advB at hb7
        have mv := cell_step (z := 0) (j := 1) j7 (i := i) (by rw [o7.o.cc]; omega) (by omega) (by omega) (.inl ⟨by rw [o7.o.cc]; exact hi, .inl rfl⟩)
        rw [o7.o.cc] at mv
        have o8 : OwnA i c (bd - 195) m 0 16 (cellY y₁ i 1 0) := ⟨hi, ⟨o7.o.cc, by show bd - 195 <= t1 y₁.bd i (y₁.bd i - 1) i; rw [t1_same]; omega, o7.o.ps, o7.o.pt⟩, (show t1 y₁.v (y₁.c.B 1) 0 (y₁.c.B 0) = m from (t1_ne fun e => by have := j7.inj _ _ e; omega).trans o7.nw), t1_same, o7.no⟩
        refine ⟨_, mv, ?_, fun y₂ q8 => o8.rel i0 q8⟩
        show t1 y₁.v (y₁.c.B 1) 0 (c.B 1) = 0
        rw [o7.o.cc, t1_same]
      rintro v ht ⟨dt, γu⟩ ⟨rfl, et, wt, au, ou⟩
      simp only at et wt au ou
      subst et
      (repeat (first | refine EK.seq ?_ | refine EK.region ?_ | refine ER.done ?_ | refine ER.move rfl rfl rfl ?_ | refine ER.assign rfl rfl rfl ?_ | refine EK.ret ?_))
      exact EU.ret2 rfl rfl rfl ⟨hs11, rfl, by rw [wt, rt.toRo.wg]; exact w9.trans w8, au, ⟨m, hm0, hm1, ou⟩, _, rfl⟩
    have hr64 : rn < 64 := by omega
    have hne64 : ¬ ((rn : Int) = 64) := by omega
    have c0 : hcell h11 ⟨N, 0, none⟩ = some (.int .i64 k) := hcell_of hb1 rfl
    have c1 : hcell h11 ⟨N, 1, none⟩ = some (.int .i64 s) := hcell_of hb1 rfl
    (repeat (first | refine EK.seq ?_ | refine EK.region ?_ | refine ER.done ?_ | refine EK.skip ?_ | refine ER.move rfl rfl rfl ?_ | refine ER.assign rfl rfl rfl ?_ | refine ER.notB rfl rfl rfl ?_ | refine ER.pickF rfl rfl rfl rfl ?_ | refine ER.cmpF rfl rfl rfl rfl rfl (by first | (dsimp only [cmpP]; omega) | exact rfl | exact Int.le_refl _) ?_ | refine EK.condF rfl ?_))
    refine EK.regionAny (fun h' => hcell h' ⟨N, 0, none⟩ = some (.int .i64 k)) ?_ (hDu := a9.at.nd)
    have hZ := c0
    refine EA.tMove 0 rfl (by kernel_rfl) rfl rfl rfl rfl hZ ?_
    refine EA.tField 1 rfl (by kernel_rfl) rfl rfl rfl rfl hZ ?_
    refine EA.tLoad 2 rfl (by kernel_rfl) rfl rfl rfl rfl (fun _ hz => hz) hZ ?_
    refine EA.tNil 3 rfl (by kernel_rfl) rfl rfl rfl rfl hZ ?_
    refine EA.tField 4 rfl (by kernel_rfl) rfl rfl rfl rfl hZ ?_
    refine EA.tIdxA 5 rfl (by kernel_rfl) rfl rfl rfl rfl rfl (by omega) (by omega) hZ ?_
    refine EA.tAssign 6 rfl (by kernel_rfl) rfl rfl rfl rfl hZ ?_
    refine EA.done (by kernel_rfl) ?_
    clear hZ
    (repeat refine EK.seq ?_)
    refine EK.regionAny (fun h' => hcell h' ⟨N, 1, none⟩ = some (.int .i64 s)) ?_ (hDu := a9.at.nd)
    have hZ := c1
    refine EA.tMove 0 rfl (by kernel_rfl) rfl rfl rfl rfl hZ ?_
    refine EA.tNil 1 rfl (by kernel_rfl) rfl rfl rfl rfl hZ ?_
    refine EA.tField 2 rfl (by kernel_rfl) rfl rfl rfl rfl hZ ?_
    refine EA.tMove 4 rfl (by kernel_rfl) rfl rfl rfl rfl hZ ?_
    refine EA.tField 5 rfl (by kernel_rfl) rfl rfl rfl rfl hZ ?_
    refine EA.tLoad 6 rfl (by kernel_rfl) rfl rfl rfl rfl (fun _ hz => hz) hZ ?_
    refine EA.tField 7 rfl (by kernel_rfl) rfl rfl rfl rfl hZ ?_
    refine EA.tLoad 8 rfl (by kernel_rfl) rfl rfl rfl rfl (fun _ hz => hz) hZ ?_
    (first | refine EA.tAdd (kd := .i64) 9 rfl (by kernel_rfl) rfl rfl rfl rfl rfl rfl hZ ?_ | refine EA.tSub (kd := .i64) 9 rfl (by kernel_rfl) rfl rfl rfl rfl rfl rfl hZ ?_)
    (first | refine EA.tAdd (kd := .i64) 10 rfl (by kernel_rfl) rfl rfl rfl rfl rfl rfl hZ ?_ | refine EA.tSub (kd := .i64) 10 rfl (by kernel_rfl) rfl rfl rfl rfl rfl rfl hZ ?_)
    refine EA.onlyH 3 rfl (by kernel_rfl) rfl rfl rfl (.inl ⟨_, rfl, rfl⟩) fun ρ hρ => ⟨fun v h' δ' => v = ptr (c.B (2 + 2 * k)) /\ h' = h11 /\ δ'.d = 0 /\ δ'.g.wg = γ9.wg /\ Idle tmL i δ'.g /\ LRel tmL i γ9.y δ'.g.y, yields_loadA tmL_ok (hρ _ _ rfl) a9 fun γx rx ax jx => ?_, ?_⟩
    · obtain ⟨p1, p2, p3⟩ := clk_st (i := i) ((show TmR i _ γx.y from rx.toRo.law).c.trans (o9.o.cc)) hk
      exact ⟨_, _, _, p1, p2, p3, rfl, rfl, rfl, rx.toRo.wg, ax, rx.toRo.lrel⟩
    rintro v h12 ⟨d12, γ12⟩ ⟨rfl, rfl, e12, w12, a12, r12⟩
    simp only at e12 w12 a12 r12
    subst e12
    refine ⟨.inr hZ, ?_⟩
    have o12 := o9.rel i0 r12
    have sn12 := sn.rel hk hs2 r12
    have hP12 := Nat.le_trans r12.pairs hP9
    refine EA.callR 11 rfl (by kernel_rfl) rfl rfl rfl rfl rfl rfl (ccasH_f (F := fun v h' y => (v = .bool true /\ Sub h12 h' /\ ∃ d, h'[d]? = some (dueO u) /\ OwnA i c (advB bd rn - 1) m 1 k y /\ HasS i k (s + 1) (c.clos d) u y /\ y.rr k = 1 /\ tmL.pairs y <= P) \/ (v = .bool false /\ h' = h12 /\ OwnA i c (advB bd rn) m 1 16 y /\ tmL.pairs y + 1 <= P)) tmL_ok a12 (b := c.B (2 + 2 * k)) (tm_mem o12.o.cc (by omega)) rfl fun y₁ q6 j6 hco => ?_) ?_
    · have o6 := o12.rel i0 q6
      have sn6 := sn12.rel hk hs2 q6
      have hP6 := Nat.le_trans q6.pairs hP12
      have e6 : tmL.val y₁ (c.B (2 + 2 * k)) = y₁.s k := by rw [<- j6.sv k hk, TmY.st, o6.o.cc]; rfl
      have st : y₁.st k = c.B (2 + 2 * k) := by rw [TmY.st, o6.o.cc]
      have hb6 := o6.o.bd
      have hab : 1 <= advB bd rn := by unfold advB; omega
      refine ⟨fun e => ?_, fun e => ⟨y₁, LMove.none tmL_ok j6, .inr ⟨rfl, rfl, o6, ?_⟩⟩⟩
      · rw [e6] at e
        have es : y₁.s k = s := by omega
        obtain ⟨⟨d, g1, g2, g3⟩, _⟩ := j6.set k hk (by rw [es]; exact hs2)
        have edu := sn6.du es
        have mv := ring_hand (h := h12) (i := i) j6 hk (by rw [o6.o.cc]; exact hi) (by omega) (by rw [es]; exact hs2) g1
        obtain ⟨H, ph, pb⟩ := hco
        have pb' : Part False (bagH d (y₁.du k)) H := by rw [<- g1, st]; exact pb
        have hsub := gain_sub ph pb'
        have hgd := gain_at h12 d (y₁.du k)
        rw [edu] at hsub hgd mv
        have hpm := mv.pairs
        rw [st] at mv
        have o7 : OwnA i c (advB bd rn - 1) m 1 k (ringY y₁ i k) := ⟨hi, ⟨o6.o.cc, by show advB bd rn - 1 <= t1 y₁.bd i (y₁.bd i - 1) i; rw [t1_same]; omega, (show t1 y₁.ps i (y₁.ps i) i = 0 by rw [t1_same]; exact o6.o.ps), (show t1 y₁.pt i (y₁.pt i) i = 0 by rw [t1_same]; exact o6.o.pt)⟩, (slot_v j6 (by omega)).trans o6.nw, (slot_v j6 (by omega)).trans o6.bz, fun x hx hne e => o6.no x hx (by omega) ((t1_ne hne).symm.trans e)⟩
        have s7 : HasS i k (s + 1) (c.clos d) u (ringY y₁ i k) := ⟨t1_same, by show t1 y₁.s k (y₁.s k + 1) k = s + 1; rw [t1_same, es], by rw [<- o6.o.cc]; exact g2, (slot_du j6 k).trans edu⟩
        have z7 : (ringY y₁ i k).rr k = 1 := t1_same
        refine ⟨ringY y₁ i k, gain h12 d u, mv, ?_, fun y₂ q8 => .inl ⟨rfl, hsub, d, hgd, o7.rel i0 q8, s7.rel hk i0 q8, TmY.rrel z7 s7.ow hk i0 q8, ?_⟩⟩
        · show t1 y₁.v (y₁.st k) ((y₁.s k + 1 : Nat) : Int) (c.B (2 + 2 * k)) = _
          have e : IntKind.i64.wrap (IntKind.i64.wrap ((s : Int) + 3) - 2) = (s : Int) + 1 := by rw [i64_in (x := (s : Int) + 3) (by omega) (by omega), i64_in (by omega) (by omega)]; omega
          rw [st, t1_same, es, e]
          rfl
        · have := q8.pairs
          omega
      · rcases sn6.pr with ⟨q1, _⟩ | q1
        · rw [st] at q1; exact absurd q1 e
        · exact q1
    rintro v h13 ⟨d13, γ13⟩ ⟨e13, w13, a13, hv⟩
    simp only at e13 w13 a13 hv
    subst e13
    have w130 : γ13.wg = δ.g.wg := by rw [w13, w12, w9, w8]
    rcases hv with ⟨rfl, hs13, d, hd13, o13, S13, z13, hP13⟩ | ⟨rfl, rfl, o13, hP13⟩
    · have hb13 := hs13.cell (ad := ⟨N, 1, none⟩) c1 rfl
      have hs713 := hs11.trans hs13
      have hcv13 := hs713.cell hcv rfl
      refine ⟨hb13, ?_⟩
      have hZ13 := hb13
      clear hZ
      have hZ := hZ13
      refine EA.tNot 12 rfl (by kernel_rfl) rfl rfl rfl rfl hZ ?_
      refine EA.done (by kernel_rfl) ?_
      clear hZ hZ13 hs11 hcv c0 c1
      (repeat (first | refine EK.seq ?_ | refine EK.region ?_ | refine EK.skip ?_ | refine ER.move rfl rfl rfl ?_ | refine ER.nilCheck rfl rfl rfl ?_ | refine ER.fieldAddr rfl rfl rfl ?_ | refine EK.condF rfl ?_))
      refine ER.loadA tmL_ok rfl rfl rfl a13 fun γ14 r14 a14 j14 => ?_
      have o14 := o13.rel i0 r14.toRo.lrel
      have S14 := S13.rel hk i0 r14.toRo.lrel
      have z14 := TmY.rrel z13 S13.ow hk i0 r14.toRo.lrel
      have hP14 := Nat.le_trans r14.toRo.lrel.pairs hP13
      obtain ⟨p1, p2, p3⟩ := clk_f o14.o.cc hk i0 S14.ow
      rw [S14.fv] at p2
      refine ⟨_, _, _, p1, p2, p3, ?_⟩
      (repeat refine ER.move rfl rfl rfl ?_)
      refine ER.callR rfl rfl rfl rfl rfl (ring_w (s := s + 1) (u := u) a14 o14 (by unfold advB; omega) hk (by omega) S14 z14 hcv13 hd13 hum) ?_
      rintro v h15 ⟨d15, γ15⟩ ⟨rfl, e15, w15, a15, rfl, o15, S15, z15, hP14p⟩
      simp only at e15 w15 a15 o15 S15 z15 hP14p
      subst e15
      have hP15 := Nat.le_trans hP14p hP14
      (repeat (first | refine EK.seq ?_ | refine ER.done ?_))
      refine EK.regionAny (fun h' => hcell h' ⟨N, 1, none⟩ = some (.int .i64 s)) ?_ (hDu := a15.at.nd)
      have hZ := hb13
      refine EA.tMove 0 rfl (by kernel_rfl) rfl rfl rfl rfl hZ ?_
      refine EA.tNil 1 rfl (by kernel_rfl) rfl rfl rfl rfl hZ ?_
      refine EA.tField 2 rfl (by kernel_rfl) rfl rfl rfl rfl hZ ?_
      refine EA.tMove 4 rfl (by kernel_rfl) rfl rfl rfl rfl hZ ?_
      refine EA.tField 5 rfl (by kernel_rfl) rfl rfl rfl rfl hZ ?_
      refine EA.tLoad 6 rfl (by kernel_rfl) rfl rfl rfl rfl (fun _ hz => hz) hZ ?_
      (first | refine EA.tAdd (kd := .i64) 7 rfl (by kernel_rfl) rfl rfl rfl rfl rfl rfl hZ ?_ | refine EA.tSub (kd := .i64) 7 rfl (by kernel_rfl) rfl rfl rfl rfl rfl rfl hZ ?_)
      (first | refine EA.tAdd (kd := .i64) 8 rfl (by kernel_rfl) rfl rfl rfl rfl rfl rfl hZ ?_ | refine EA.tSub (kd := .i64) 8 rfl (by kernel_rfl) rfl rfl rfl rfl rfl rfl hZ ?_)
      refine EA.onlyH 3 rfl (by kernel_rfl) rfl rfl rfl (.inl ⟨_, rfl, rfl⟩) fun ρ hρ => ⟨fun v h' δ' => v = ptr (c.B (2 + 2 * k)) /\ h' = h15 /\ δ'.d = 0 /\ δ'.g.wg = γ15.wg /\ Idle tmL i δ'.g /\ LRel tmL i γ15.y δ'.g.y, yields_loadA tmL_ok (hρ _ _ rfl) a15 fun γx rx ax jx => ?_, ?_⟩
      · obtain ⟨p1, p2, p3⟩ := clk_st (i := i) ((show TmR i _ γx.y from rx.toRo.law).c.trans (o15.o.cc)) hk
        exact ⟨_, _, _, p1, p2, p3, rfl, rfl, rfl, rx.toRo.wg, ax, rx.toRo.lrel⟩
      rintro v h16 ⟨d16, γ16⟩ ⟨rfl, rfl, e16, w16, a16, r16⟩
      simp only at e16 w16 a16 r16
      subst e16
      refine ⟨.inr hZ, ?_⟩
      have o16 := o15.rel i0 r16
      have S16 := S15.rel hk i0 r16
      have z16 := TmY.rrel z15 S15.ow hk i0 r16
      have hP16 := Nat.le_trans r16.pairs hP15
      refine EA.callR 9 rfl (by kernel_rfl) rfl rfl rfl rfl rfl rfl (cstoreH_f (F := fun _ h' y => h' = h16 /\ OwnA i c (advB bd (rn + 1)) m 1 16 y /\ tmL.pairs y <= P) tmL_ok a16 (b := c.B (2 + 2 * k)) (tm_mem o16.o.cc (by omega)) rfl fun y₁ q17 j17 _ => ?_) ?_
      · have o17 := o16.rel i0 q17
        have S17 := S16.rel hk i0 q17
        have z17 := TmY.rrel z16 S16.ow hk i0 q17
        have hP17 := Nat.le_trans q17.pairs hP16
        have hb17 := o17.o.bd
        have hab : advB bd (rn + 1) + 3 <= advB bd rn := by unfold advB; omega
        have st : y₁.st k = c.B (2 + 2 * k) := by rw [TmY.st, o17.o.cc]
        have mv := rang_hand (h := h16) (i := i) j17 hk (by rw [o17.o.cc]; exact hi) (by omega) S17.ow z17
        have hpm := mv.pairs
        rw [st] at mv
        have o18 : OwnA i c (advB bd (rn + 1)) m 1 16 (rangY y₁ i k) := ⟨hi, ⟨o17.o.cc, by show advB bd (rn + 1) <= t1 y₁.bd i (y₁.bd i - 1) i; rw [t1_same]; omega, (show t1 y₁.ps i (y₁.ps i) i = 0 by rw [t1_same]; exact o17.o.ps), (show t1 y₁.pt i (y₁.pt i) i = 0 by rw [t1_same]; exact o17.o.pt)⟩, (slot_v j17 (by omega)).trans o17.nw, (slot_v j17 (by omega)).trans o17.bz, fun x hx _ e => by
          have e' : t1 y₁.ow k 0 x = i := e
          by_cases z : x = k
          · subst z; rw [t1_same] at e'; omega
          · rw [t1_ne z] at e'; exact o17.no x hx z e'⟩
        refine ⟨rangY y₁ i k, h16, mv, ?_, fun y₂ q8 => ⟨rfl, o18.rel i0 q8, ?_⟩⟩
        · show t1 y₁.v (y₁.st k) ((y₁.s k + 1 : Nat) : Int) (c.B (2 + 2 * k)) = _
          have e : IntKind.i64.wrap (IntKind.i64.wrap ((s : Int) + 4) - 2) = (s : Int) + 2 := by rw [i64_in (x := (s : Int) + 4) (by omega) (by omega), i64_in (by omega) (by omega)]; omega
          rw [st, t1_same, S17.s, e]
          omega
        · have := q8.pairs
          omega
      rintro v h17 ⟨d17, γ17⟩ ⟨e17, w17, a17, rfl, o17, hP17⟩
      simp only at e17 w17 a17 o17 hP17
      subst e17
      refine ⟨hZ, ?_⟩
      refine EA.done (by kernel_rfl) ?_
      clear hZ
      (repeat (first | refine EK.region ?_ | refine ER.done ?_ | refine EK.inBlock ?_ | refine ER.move rfl rfl rfl ?_ | refine ER.assign rfl rfl rfl ?_ | refine ER.add (kd := .i64) rfl rfl rfl rfl (i64_in (by omega) (by omega)) ?_))
      exact EK.back (again ⟨rn + 1, P⟩ _ _ (by dsimp only; omega) ⟨hs713, rfl, by rw [w17, w16, w15, r14.toRo.wg, w130], a17, o17, hP17, by dsimp only; omega⟩) ⟨rfl, rfl, rfl, rfl, trivial⟩
    · refine ⟨hZ, ?_⟩
      refine EA.tNot 12 rfl (by kernel_rfl) rfl rfl rfl rfl hZ ?_
      refine EA.done (by kernel_rfl) ?_
      clear hZ
      (repeat (first | refine EK.condT rfl ?_ | refine EK.exit rfl ?_))
      exact EK.back (again ⟨rn, P - 1⟩ _ _ (by dsimp only; omega) ⟨hs11, rfl, w130, a13, o13, by dsimp only; omega, hr8⟩) ⟨rfl, rfl, rfl, rfl, trivial⟩
end
end
section
open Go Go.TJ Go.Proofs
variable [Dm]
theorem tm_atT {y : TmY} {c : TmC} {q : Nat} (hc : y.c = c) (hq : q < 4) : tmL.atT y (c.A q) = some 29 := by
  subst hc
  refine if_pos ?_
  have : q = 0 \/ q = 1 \/ q = 2 \/ q = 3 := by omega
  rcases this with rfl | rfl | rfl | rfl
  · exact .inl rfl
  · exact .inr (.inl rfl)
  · exact .inr (.inr (.inl rfl))
  · exact .inr (.inr (.inr rfl))
theorem sub_lose {a h : Hp} {d : Nat} (hs : Sub a h) (hd : a.size <= d) : Sub a (lose h d) := ⟨fun x o h1 h2 => by
    have := lt_of_get h1
    rw [lose_ne (by omega)]; exact hs.get x o h1 h2, by rw [lose_size]; exact hs.size⟩
section
variable {h : Hp} {δ : Ix (Gf TmY)} {i : Nat} {c : TmC}
theorem count_set {bd : Nat} {P : Prop} (hA : Idle tmL i δ.g) (hi : i <= c.n) (o : OwnT i c bd 1 0 δ.g.y) (hbd : 1 <= bd) :
    CallW Try.prog false (SitW Try.prog (XF TT tmL) i) 9 #[ptr (c.A 0), .int .i64 1] h δ (Ret fun v h' δ' => h' = h /\ δ'.d = δ.d /\ δ'.g.wg = δ.g.wg /\ Idle tmL i δ'.g /\ OwnT i c (bd - 1) 0 0 δ'.g.y) := by
  have i0 := hA.i0
  refine aaddT_f tmL_ok hA (tm_atT o.cc (by omega)) fun γ1 r1 a1 j1 => ?_
  have o1 := o.rel i0 r1.toRo.lrel
  have hb1 := o1.bd
  have mv := atm_step (k := 0) (q := 0) (p := 0) (r := 0) (r' := γ1.y.rr 0) j1 (by omega) (by omega) i0 (by rw [o1.cc]; omega) (by omega) (.inl rfl) (by rw [o1.ps, o1.pt]; simp)
  have vl := atm_val (i := i) (k := 0) (q := 0) (p := 0) (r := 0) (r' := γ1.y.rr 0) j1 (by omega)
  rw [o1.cc] at mv vl
  have o2 : OwnT i c (bd - 1) 0 0 (atmY γ1.y i 0 0 0 0 (γ1.y.rr 0)) := ⟨o1.cc, by show bd - 1 <= t1 γ1.y.bd i (γ1.y.bd i - 1) i; rw [t1_same]; omega, t1_same, t1_same⟩
  exact ⟨_, mv, vl, fun γ2 y2 w2 a2 => ⟨rfl, rfl, w2, a2, by rw [y2]; exact o2⟩⟩
theorem count_stop {bd : Nat} (hA : Idle tmL i δ.g) (hi : i <= c.n) (o : OwnT i c bd 0 1 δ.g.y) (hbd : 1 <= bd) :
    CallW Try.prog false (SitW Try.prog (XF TT tmL) i) 9 #[ptr (c.A 1), .int .i64 1] h δ (Ret fun v h' δ' => h' = h /\ δ'.d = δ.d /\ δ'.g.wg = δ.g.wg /\ Idle tmL i δ'.g /\ OwnT i c (bd - 1) 0 0 δ'.g.y) := by
  have i0 := hA.i0
  refine aaddT_f tmL_ok hA (tm_atT o.cc (by omega)) fun γ1 r1 a1 j1 => ?_
  have o1 := o.rel i0 r1.toRo.lrel
  have hb1 := o1.bd
  have mv := atm_step (k := 0) (q := 1) (p := 0) (r := 0) (r' := γ1.y.rr 0) j1 (by omega) (by omega) i0 (by rw [o1.cc]; omega) (by omega) (.inl rfl) (by rw [o1.ps, o1.pt]; simp; omega)
  have vl := atm_val (i := i) (k := 0) (q := 1) (p := 0) (r := 0) (r' := γ1.y.rr 0) j1 (by omega)
  rw [o1.cc] at mv vl
  have o2 : OwnT i c (bd - 1) 0 0 (atmY γ1.y i 0 1 0 0 (γ1.y.rr 0)) := ⟨o1.cc, by show bd - 1 <= t1 γ1.y.bd i (γ1.y.bd i - 1) i; rw [t1_same]; omega, t1_same, t1_same⟩
  exact ⟨_, mv, vl, fun γ2 y2 w2 a2 => ⟨rfl, rfl, w2, a2, by rw [y2]; exact o2⟩⟩
def setEnv (c : TmC) (vE vi j : Nat) : Env := [(9, .int .i64 j), (1, ptr vE), (2, ptr c.cv), (3, ptr (c.A 2)), (4, ptr (c.A 3)), (5, ptr (c.A 0)), (6, ptr vi), (7, ptr (c.A 1))]
set_option maxRecDepth 8000 in
set_option maxHeartbeats 16000000 in
theorem setter_ok {vE vi k0 : Nat} (hA : Idle tmL i δ.g) (hdd : δ.d = 0) (hi : i <= c.n) (he : c.e <= 19) (o : OwnT i c (6 * c.e) 0 0 δ.g.y) (hro : ∀ b, c.ro b -> b < c.top) (htop : c.top <= h.size) (hE : hcell h ⟨vE, 0, none⟩ = some (.int .i64 c.e)) (hC : hcell h ⟨c.cv, 0, none⟩ = some (ptr c.kb)) (hI : hcell h ⟨vi, 0, none⟩ = some (.int .i64 k0)) (hk0 : k0 <= 1000) :
    CallW Try.prog false (SitW Try.prog (XF TT tmL) i) 6 #[.pointer none, ptr vE, ptr c.cv, ptr (c.A 2), ptr (c.A 3), ptr (c.A 0), ptr vi, ptr (c.A 1)] h δ (Ret fun v h' δ' => Sub h h' /\ δ'.d = 0 /\ δ'.g.wg = δ.g.wg /\ Idle tmL i δ'.g /\ OwnT i c 0 0 0 δ'.g.y) := by
  have i0 := hA.i0
  refine CallW.start (n := 41) rfl rfl ?_
  (repeat (first | refine EK.seq ?_ | refine EK.region ?_ | refine ER.done ?_ | refine EK.block ?_ | refine ER.assign rfl rfl rfl ?_))
  refine EK.loopInv (fun j : Nat => setEnv c vE vi j) (fun j h' δ' => j <= c.e /\ Sub h h' /\ δ'.d = 0 /\ δ'.g.wg = δ.g.wg /\ Idle tmL i δ'.g /\ OwnT i c (6 * (c.e - j)) 0 0 δ'.g.y) (fun j => c.e - j) 0 ⟨rfl, rfl, rfl, rfl, rfl, rfl, rfl, rfl, trivial⟩ ⟨Nat.zero_le _, Sub.refl _, hdd, rfl, hA, o⟩ ?_
  rintro j h1 ⟨d1, γ1⟩ ⟨hj, hs1, e1, w1, a1, o1⟩ again
  simp only at e1 w1 a1 o1
  subst e1
  unfold setEnv at again ⊢
  have hE1 := hs1.cell hE rfl
  rcases Nat.lt_or_ge j c.e with hlt | hge
  · (repeat (first | refine EK.seq ?_ | refine EK.region ?_ | refine ER.done ?_ | refine EK.skip ?_ | refine EK.block ?_ | refine ER.move rfl rfl rfl ?_ | refine ER.cmpT rfl rfl rfl rfl rfl (by first | (dsimp only [cmpP]; omega) | exact rfl | exact Int.le_refl _) ?_ | refine ER.add (kd := .i64) rfl rfl rfl rfl (i64_in (by omega) (by omega)) ?_ | refine EK.condT rfl ?_ | refine ER.load1 rfl rfl rfl (by assumption) ?_))
    refine ER.allocM (X := XF TT tmL) (i := i) make_w rfl rfl (fun _ => idle_fin a1) fun N hN => ?_
    change ER _ _ _ _ _ _ _ _ _ _ ((padTo h1 N).push (dueO 0)) _ _
    have hb2 : ((padTo h1 N).push (dueO 0))[N]? = some (dueO 0) := mk_new hN
    have hs2 : Sub h1 ((padTo h1 N).push (dueO 0)) := sub_mk (Sub.refl h1) hN
    generalize (padTo h1 N).push (dueO 0) = h2 at hb2 hs2
    have hsz1 := hs1.size
    skip
    refine ER.store1 rfl rfl rfl (by simp [OneCell]) ⟨_, hcell_of hb2 rfl⟩ (hfroz_of hb2) (tm_still o1.cc hro (by omega) _) ?_
    have hb3 : (hset h2 ⟨N, 0, none⟩ (.int .i64 ((j : Int) + 1)))[N]? = some (dueO ((j : Int) + 1)) := by rw [hset_get, if_pos rfl, hb2]; rfl
    have hs3 : Sub h1 (hset h2 ⟨N, 0, none⟩ (.int .i64 ((j : Int) + 1))) := sub_set hs2 hN
    generalize hset h2 ⟨N, 0, none⟩ (.int .i64 ((j : Int) + 1)) = h3 at hb3 hs3 ⊢
    clear hb2 hs2
    have hs13 := hs1.trans hs3
    have hC3 := hs13.cell hC rfl
    have hD3 : hcell h3 ⟨N, 0, none⟩ = some (.int .i64 ((j : Int) + 1)) := hcell_of hb3 rfl
    (repeat (first | refine EK.seq ?_ | refine EK.region ?_ | refine ER.done ?_ | refine ER.load1 rfl rfl rfl (hcell_of (by assumption) rfl) ?_ | refine ER.load1 rfl rfl rfl (by assumption) ?_))
    refine ER.makeF rfl rfl rfl rfl rfl rfl ?_
    refine ER.callR rfl rfl rfl rfl rfl (set_w (d := N) a1 rfl hi o1 (by omega) (by omega) (by omega) hb3 (by omega) hro) ?_
    rintro v h4 ⟨d4, γ4⟩ ⟨e4, w4, a4, hv⟩
    simp only at e4 w4 a4 hv
    subst e4
    have hs4 : Sub h h4 := by
      rcases hv with ⟨_, q, _⟩ | ⟨_, _, _, _, _, _, q, _⟩
      · exact hs13.trans q
      · exact (sub_lose hs13 (by omega)).trans q
    have hsz4 := hs4.size
    rcases hv with ⟨rfl, _, o4⟩ | ⟨k, r, hk, hr, hrb, rfl, _, o4⟩
    · (repeat (first | refine ER.move rfl rfl rfl ?_ | refine ER.extract rfl rfl rfl rfl ?_))
      refine ER.allocM (X := XF TT tmL) (i := i) make_w rfl rfl (fun _ => idle_fin a4) fun M hM => ?_
      have hb5 : ((padTo h4 M).push (timO 0 0))[M]? = some (timO 0 0) := mk_new hM
      have hs5 : Sub h4 ((padTo h4 M).push (timO 0 0)) := sub_mk (Sub.refl h4) hM
      change ER _ _ _ _ _ _ _ _ _ _ ((padTo h4 M).push (timO 0 0)) _ _
      generalize (padTo h4 M).push (timO 0 0) = h5 at hb5 hs5
      skip
      refine ER.storeT2 hb5 rfl rfl rfl rfl (by simp [OneCell]) (by simp [OneCell]) (tm_still o4.cc hro (by omega)) ?_
      have hs6 := hs4.trans (sub_put hs5 (o := .cells #[.int .i64 0, .int .i64 0] 33 (0, 0)) hM)
      generalize h5.setIfInBounds M (.cells #[.int .i64 0, .int .i64 0] 33 (0, 0)) = h6 at hs6 ⊢
      (repeat (first | refine EK.seq ?_ | refine EK.region ?_ | refine ER.done ?_ | refine ER.move rfl rfl rfl ?_ | refine ER.assign rfl rfl rfl ?_ | refine ER.cmpT rfl rfl rfl rfl rfl (by first | (dsimp only [cmpP]; omega) | exact rfl | exact Int.le_refl _) ?_ | refine ER.add (kd := .i64) rfl rfl rfl rfl (i64_in (by omega) (by omega)) ?_ | refine EK.condT rfl ?_ | refine EK.exit rfl ?_))
      exact EK.back (again (j + 1) _ _ (by omega) ⟨hlt, hs6, rfl, w4.trans w1, a4, o4.less (by omega)⟩) ⟨rfl, rfl, rfl, rfl, rfl, rfl, rfl, rfl, trivial⟩
    · (repeat (first | refine ER.move rfl rfl rfl ?_ | refine ER.extract rfl rfl rfl rfl ?_))
      refine ER.allocM (X := XF TT tmL) (i := i) make_w rfl rfl (fun _ => idle_fin a4) fun M hM => ?_
      have hb5 : ((padTo h4 M).push (timO 0 0))[M]? = some (timO 0 0) := mk_new hM
      have hs5 : Sub h4 ((padTo h4 M).push (timO 0 0)) := sub_mk (Sub.refl h4) hM
      change ER _ _ _ _ _ _ _ _ _ _ ((padTo h4 M).push (timO 0 0)) _ _
      generalize (padTo h4 M).push (timO 0 0) = h5 at hb5 hs5
      skip
      refine ER.storeT2 hb5 rfl rfl rfl rfl (by simp [OneCell]) (by simp [OneCell]) (tm_still o4.cc hro (by omega)) ?_
      have hb6 : (h5.setIfInBounds M (timO k r))[M]? = some (timO k r) := get_set_same hb5
      have hs6 := hs4.trans (sub_put hs5 (o := timO k r) hM)
      change ER _ _ _ _ _ _ _ _ _ _ (h5.setIfInBounds M (timO k r)) _ _
      generalize h5.setIfInBounds M (timO k r) = h6 at hb6 hs6
      clear hb5 hs5
      (repeat (first | refine EK.seq ?_ | refine EK.region ?_ | refine ER.done ?_ | refine EK.skip ?_ | refine ER.move rfl rfl rfl ?_ | refine ER.assign rfl rfl rfl ?_ | refine ER.cmpF rfl rfl rfl rfl rfl (by first | (dsimp only [cmpP]; omega) | exact rfl | exact Int.le_refl _) ?_ | refine EK.condF rfl ?_))
      refine ER.callR rfl rfl rfl rfl rfl (count_set (P := True) a4 hi o4 (by omega)) ?_
      rintro v h7 ⟨d7, γ7⟩ ⟨rfl, e7, w7, a7, o7⟩
      simp only at e7 w7 a7 o7
      subst e7
      have hI7 := hs6.cell hI rfl
      have hC7 := hs6.cell hC rfl
      by_cases hm : ((k0 : Int) + j).tmod 3 = 0
      · (repeat (first | refine EK.seq ?_ | refine EK.region ?_ | refine ER.done ?_ | refine ER.move rfl rfl rfl ?_ | refine ER.cmpT rfl rfl rfl rfl rfl (by first | (dsimp only [cmpP]; omega) | exact rfl | exact Int.le_refl _) ?_ | refine ER.add (kd := .i64) rfl rfl rfl rfl (i64_in (by omega) (by omega)) ?_ | refine ER.rem (kd := .i64) rfl rfl rfl rfl (by decide) rfl ?_ | refine ER.load1 rfl rfl rfl (by assumption) ?_))
        refine ER.loadN (vs := [.int .i64 k, .int .i64 r]) rfl rfl rfl rfl (hrow2 hb6) ?_
        refine ER.callR rfl rfl rfl rfl rfl (stop_w a7 rfl hi o7 (by omega) hk hr hrb) ?_
        rintro v h8 ⟨d8, γ8⟩ ⟨hs8, e8, w8, a8, ⟨rfl, o8⟩ | ⟨rfl, o8⟩⟩
        · simp only at e8 w8 a8 o8
          subst e8
          (repeat (first | refine EK.region ?_ | refine ER.done ?_ | refine ER.pickT rfl rfl rfl rfl ?_ | refine EK.condT rfl ?_))
          refine ER.callR rfl rfl rfl rfl rfl (count_stop a8 hi o8 (by omega)) ?_
          rintro v h9 ⟨d9, γ9⟩ ⟨rfl, e9, w9, a9, o9⟩
          simp only at e9 w9 a9 o9
          subst e9
          (repeat (first | refine EK.region ?_ | refine ER.done ?_ | refine EK.inBlock ?_ | refine ER.move rfl rfl rfl ?_ | refine ER.assign rfl rfl rfl ?_ | refine ER.add (kd := .i64) rfl rfl rfl rfl (i64_in (by omega) (by omega)) ?_))
          exact EK.back (again (j + 1) _ _ (by omega) ⟨hlt, hs6.trans hs8, rfl, by rw [w9, w8, w7, w4, w1], a9, o9.less (by omega)⟩) ⟨rfl, rfl, rfl, rfl, rfl, rfl, rfl, rfl, trivial⟩
        · simp only at e8 w8 a8 o8
          subst e8
          (repeat (first | refine EK.region ?_ | refine ER.done ?_ | refine EK.skip ?_ | refine EK.inBlock ?_ | refine ER.move rfl rfl rfl ?_ | refine ER.assign rfl rfl rfl ?_ | refine ER.pickT rfl rfl rfl rfl ?_ | refine ER.add (kd := .i64) rfl rfl rfl rfl (i64_in (by omega) (by omega)) ?_ | refine EK.condF rfl ?_))
          exact EK.back (again (j + 1) _ _ (by omega) ⟨hlt, hs6.trans hs8, rfl, by rw [w8, w7, w4, w1], a8, o8.less (by omega)⟩) ⟨rfl, rfl, rfl, rfl, rfl, rfl, rfl, rfl, trivial⟩
      · (repeat (first | refine EK.seq ?_ | refine EK.region ?_ | refine ER.done ?_ | refine EK.skip ?_ | refine EK.inBlock ?_ | refine ER.move rfl rfl rfl ?_ | refine ER.assign rfl rfl rfl ?_ | refine ER.no rfl rfl ?_ | refine ER.pickF rfl rfl rfl rfl ?_ | refine ER.cmpF rfl rfl rfl rfl rfl (by first | (dsimp only [cmpP]; omega) | exact rfl | exact Int.le_refl _) ?_ | refine ER.add (kd := .i64) rfl rfl rfl rfl (i64_in (by omega) (by omega)) ?_ | refine ER.rem (kd := .i64) rfl rfl rfl rfl (by decide) rfl ?_ | refine EK.condF rfl ?_ | refine ER.load1 rfl rfl rfl (by assumption) ?_))
        exact EK.back (again (j + 1) _ _ (by omega) ⟨hlt, hs6, rfl, by rw [w7, w4, w1], a7, o7.less (by omega)⟩) ⟨rfl, rfl, rfl, rfl, rfl, rfl, rfl, rfl, trivial⟩
  · obtain rfl : j = c.e := by omega
    (repeat (first | refine EK.seq ?_ | refine EK.region ?_ | refine ER.done ?_ | refine ER.move rfl rfl rfl ?_ | refine ER.cmpF rfl rfl rfl rfl rfl (by first | (dsimp only [cmpP]; omega) | exact rfl | exact Int.le_refl _) ?_ | refine EK.condF rfl ?_ | refine EK.exit rfl ?_ | refine ER.load1 rfl rfl rfl (by assumption) ?_))
    refine EK.done ?_
    exact EU.ret0 rfl ⟨hs1, rfl, w1, a1, o1.less (Nat.zero_le _)⟩
set_option maxHeartbeats 4000000 in
theorem advancer_ok {vE : Nat} (hA : Idle tmL i δ.g) (hdd : δ.d = 0) (he : c.e <= 19) (o : OwnA i c (195 * (2 * c.e)) 0 0 16 δ.g.y) (hro : ∀ b, c.ro b -> b < c.top) (htop : c.top <= h.size) (hE : hcell h ⟨vE, 0, none⟩ = some (.int .i64 c.e)) (hC : hcell h ⟨c.cv, 0, none⟩ = some (ptr c.kb)) :
    CallW Try.prog false (SitW Try.prog (XF TT tmL) i) 12 #[.pointer none, ptr vE, ptr c.cv] h δ (Ret fun v h' δ' => Sub h h' /\ δ'.d = 0 /\ δ'.g.wg = δ.g.wg /\ Idle tmL i δ'.g /\ ∃ z, OwnA i c 0 z 0 16 δ'.g.y) := by
  have i0 := hA.i0
  refine CallW.start (n := 13) rfl rfl ?_
  (repeat (first | refine EK.seq ?_ | refine EK.region ?_ | refine ER.done ?_ | refine EK.block ?_ | refine ER.assign rfl rfl rfl ?_))
  refine EK.loopInv (fun j : Nat => [(4, .int .i64 j), (1, ptr vE), (2, ptr c.cv)]) (fun j h' δ' => j <= 2 * c.e /\ Sub h h' /\ δ'.d = 0 /\ δ'.g.wg = δ.g.wg /\ Idle tmL i δ'.g /\ ∃ z, 0 <= z /\ z <= 4611686018427387904 /\ OwnA i c (195 * (2 * c.e - j)) z 0 16 δ'.g.y) (fun j => 2 * c.e - j) 0 ⟨rfl, rfl, rfl, trivial⟩ ⟨Nat.zero_le _, Sub.refl _, hdd, rfl, hA, 0, by omega, by omega, o⟩ ?_
  rintro j h1 ⟨d1, γ1⟩ ⟨hj, hs1, e1, w1, a1, z, hz0, hz1, o1⟩ again
  simp only at e1 w1 a1 o1
  subst e1
  have hE1 := hs1.cell hE rfl
  have hC1 := hs1.cell hC rfl
  have hsz1 := hs1.size
  rcases Nat.lt_or_ge j (2 * c.e) with hlt | hge
  · (repeat (first | refine EK.seq ?_ | refine EK.region ?_ | refine ER.done ?_ | refine EK.skip ?_ | refine EK.block ?_ | refine ER.move rfl rfl rfl ?_ | refine ER.cmpT rfl rfl rfl rfl rfl (by first | (dsimp only [cmpP]; omega) | exact rfl | exact Int.le_refl _) ?_ | refine ER.mul (kd := .i64) rfl rfl rfl rfl (i64_in (by omega) (by omega)) ?_ | refine EK.condT rfl ?_ | refine ER.load1 rfl rfl rfl (by assumption) ?_))
    refine ER.callR rfl rfl rfl rfl rfl (adv_w a1 rfl o1 (by omega) (by omega) hz0 hz1 hro (by omega) hC1) ?_
    rintro v h2 ⟨d2, γ2⟩ ⟨hs2, e2, w2, a2, ⟨z', hz0', hz1', o2⟩, n, rfl⟩
    simp only at e2 w2 a2 o2
    subst e2
    (repeat (first | refine EK.region ?_ | refine ER.done ?_ | refine EK.inBlock ?_ | refine ER.move rfl rfl rfl ?_ | refine ER.assign rfl rfl rfl ?_ | refine ER.add (kd := .i64) rfl rfl rfl rfl (i64_in (by omega) (by omega)) ?_))
    exact EK.back (again (j + 1) _ _ (by omega) ⟨hlt, hs1.trans hs2, rfl, w2.trans w1, a2, z', hz0', hz1', o2.less (by omega)⟩) ⟨rfl, rfl, rfl, trivial⟩
  · obtain rfl : j = 2 * c.e := by omega
    (repeat (first | refine EK.seq ?_ | refine EK.region ?_ | refine ER.done ?_ | refine ER.move rfl rfl rfl ?_ | refine ER.cmpF rfl rfl rfl rfl rfl (by first | (dsimp only [cmpP]; omega) | exact rfl | exact Int.le_refl _) ?_ | refine ER.mul (kd := .i64) rfl rfl rfl rfl (i64_in (by omega) (by omega)) ?_ | refine EK.condF rfl ?_ | refine EK.exit rfl ?_ | refine ER.load1 rfl rfl rfl (by assumption) ?_))
    refine EK.done ?_
    exact EU.ret0 rfl ⟨hs1, rfl, w1, a1, z, o1.less (Nat.zero_le _)⟩
end
end
section
open Go Go.TJ Go.Proofs
variable [Dm]
theorem tm_fall {y : TmY} (hJ : TmJ y) {w : Nat} (hw : w < y.c.n + 1) : tmL.arrT y y.c.fb = some 4 /\ tmL.arr y y.c.fb = Array.replicate (y.c.n + 1) (.bool false) /\ (tmL.arr y y.c.fb)[w]? = some (.bool false) := by
  have e : y.c.fb ≠ y.c.kb := fun z => hJ.ad.1 z.symm
  have e3 : tmL.arr y y.c.fb = Array.replicate (y.c.n + 1) (.bool false) := by
    show (if y.c.fb = y.c.kb then _ else _ : Array Value) = _
    rw [if_neg e]
  refine ⟨by show (if y.c.fb = y.c.kb then _ else if y.c.fb = y.c.fb then _ else none) = _; rw [if_neg e, if_pos rfl], e3, by rw [e3, Array.getElem?_replicate, if_pos hw]⟩
theorem tm_fmove {y : TmY} {i : Nat} (hJ : TmJ y) (hi0 : 0 < i) (hi : i <= y.c.n + 1) : AMove tmL i y.c.fb (i - 1) (.bool false) y y := by
  refine ⟨Stt.refl _ _, fun j _ => tmL_ok.refl _ _, Nat.le_refl _, rfl, fun _ _ => rfl, ?_, hJ, fun _ _ _ h => h, fun _ _ _ z => z, rfl, fun _ _ z => z, rfl⟩
  rw [(tm_fall hJ (w := i - 1) (by omega)).2.1]
  apply Array.ext_getElem?
  intro x
  rw [Array.getElem?_setIfInBounds]
  by_cases e : i - 1 = x
  · subst e; rw [if_pos rfl, Array.getElem?_replicate]; simp
  · rw [if_neg e]
def tmF (c : TmC) (k : Nat) : FuncId := if k = c.n then 12 else 6
def tmCap (c : TmC) (vE : Nat) (vi : Nat -> Nat) (k : Nat) : Array Value := if k = c.n then #[ptr vE, ptr c.cv] else #[ptr vE, ptr c.cv, ptr (c.A 2), ptr (c.A 3), ptr (c.A 0), ptr (vi k), ptr (c.A 1)]
instance tmF_body (c : TmC) (k : Nat) : HasBody Try.prog (tmF c k) := by
  unfold tmF
  split <;> infer_instance
set_option maxHeartbeats 4000000 in
theorem tbody_ok {h : Hp} {c : TmC} {y₀ : TmY} {vE : Nat} {vi : Nat -> Nat} (hc : y₀.c = c) (he : c.e <= 19) (hn : c.n <= 6) (hfb : c.fb = h.size) (htop : c.top = h.size + 3) (hrt : ∀ b, c.ro b -> b < c.top) (hE : hcell h ⟨vE, 0, none⟩ = some (.int .i64 c.e)) (rE : c.ro vE)
    (hC : hcell h ⟨c.cv, 0, none⟩ = some (ptr c.kb)) (rC : c.ro c.cv) (hI : ∀ k, k < c.n -> hcell h ⟨vi k, 0, none⟩ = some (.int .i64 k) /\ c.ro (vi k)) (hV : c.ro (h.size + 1)) (hkf : c.kb ≠ c.fb) (ho : ∀ k, k < c.n -> OwnT (k + 1) c (6 * c.e) 0 0 y₀) (oa : OwnA (c.n + 1) c (195 * (2 * c.e)) 0 0 16 y₀) :
    BodyOk tmL y₀ h (c.n + 1) (tmF c) (tmCap c vE vi) := by
  intro k hk h' γ₂ ti hti0 hti hro hrel hJ hA hwg
  have hm : ∀ b o v, c.ro b -> hcell h ⟨b, o, none⟩ = some v -> hcell h' ⟨b, o, none⟩ = some v := fun b o v hb hv => by
    obtain ⟨cs, e, f, h1, h3, h4⟩ := hcell_some hv
    exact hcell_of (hro b _ (by show y₀.c.ro b; rw [hc]; exact hb) (frH_old h1)) h4
  have hsz : ti < h'.size := by
    obtain ⟨_, _, _, h1, _⟩ := hcell_some hti
    exact lt_of_get h1
  have hVc : hcell h' ⟨h.size + 1, 0, none⟩ = some (.slice (some ⟨h.size, 0, none⟩) (c.n + 1 : Nat) (c.n + 1 : Nat)) := hcell_of (hro _ _ (by show y₀.c.ro _; rw [hc]; exact hV) (frH_at h (c.n + 1)).2.1) rfl
  have fin : ∀ (v : Value) (h2 : Hp) (δ' : Ix (Gf TmY)), Sub h' h2 -> δ'.d = 0 -> δ'.g.wg = γ₂.wg -> Idle tmL (k + 1) δ'.g -> (∃ b, OwnT (k + 1) c b 0 0 δ'.g.y) -> (k = c.n -> ∃ z, OwnA (c.n + 1) c 0 z 0 16 δ'.g.y) -> BodyQ tmL (k + 1) (h.size + 2) h.size k (h.size + 1) ti h' v h2 δ' := by
    intro v h2 ⟨d2, γ⟩ hs e2 w2 a2 ⟨b, o2⟩ oa2
    refine ⟨e2, w2.trans hwg, a2, (hs.cell hVc rfl).trans hVc.symm, (hs.cell hti rfl).trans hti.symm, fun y₁ q1 j1 => ?_⟩
    have o3 := o2.rel (Nat.succ_pos k) q1
    have f3 := tm_fall j1 (w := k) (by rw [o3.cc]; exact hk)
    have f4 := tm_fmove (i := k + 1) j1 (Nat.succ_pos k) (by rw [o3.cc]; exact hk)
    rw [o3.cc, hfb] at f3 f4
    refine ⟨_, _, y₁, f3.1, f3.2.2, .inr ⟨by rw [o3.cc]; show h.size ≠ c.kb; rw [<- hfb]; exact fun z => hkf z.symm, by rw [o3.cc, hfb], Nat.succ_pos k, rfl⟩, f4, fun y₃ q3 j3 _ => ?_⟩
    have o4 := o3.rel (Nat.succ_pos k) q3
    refine ⟨o4.ps, o4.pt, fun e => ?_⟩
    rw [o4.cc] at e
    have ek : k = c.n := by omega
    obtain ⟨z, oz⟩ := oa2 ek
    subst ek
    have oz4 := (oz.rel (Nat.succ_pos _) q1).rel (Nat.succ_pos _) q3
    exact ⟨oz4.bz, fun x hx => oz4.no x hx (by omega)⟩
  by_cases e : k = c.n
  · subst e
    have ef : tmF c c.n = 12 := if_pos rfl
    have ec : tmCap c vE vi c.n = #[ptr vE, ptr c.cv] := if_pos rfl
    rw [ef, ec]
    refine (advancer_ok (δ := ⟨0, γ₂⟩) (i := c.n + 1) (vE := vE) hA rfl he (oa.rel (Nat.succ_pos _) hrel) hrt (by omega) (hm _ _ _ rE hE) (hm _ _ _ rC hC)).mono ?_
    rintro (v | p) h2 δ' hx
    · obtain ⟨hs, e2, w2, a2, z, o2⟩ := hx
      exact fin v h2 δ' hs e2 w2 a2 ⟨0, o2.o⟩ fun _ => ⟨z, o2⟩
    · exact hx.elim
  · have ef : tmF c k = 6 := if_neg e
    have ec : tmCap c vE vi k = #[ptr vE, ptr c.cv, ptr (c.A 2), ptr (c.A 3), ptr (c.A 0), ptr (vi k), ptr (c.A 1)] := if_neg e
    have hk' : k < c.n := by omega
    rw [ef, ec]
    refine (setter_ok (δ := ⟨0, γ₂⟩) (i := k + 1) (vE := vE) (vi := vi k) (k0 := k) hA rfl hk' he ((ho k hk').rel (Nat.succ_pos _) hrel) hrt (by omega) (hm _ _ _ rE hE) (hm _ _ _ rC hC) (hm _ _ _ (hI k hk').2 (hI k hk').1) (by omega)).mono ?_
    rintro (v | p) h2 δ' hx
    · obtain ⟨hs, e2, w2, a2, o2⟩ := hx
      exact fin v h2 δ' hs e2 w2 a2 ⟨0, o2⟩ fun z => absurd z e
    · exact hx.elim
end
section
open Go Go.TJ Go.Proofs
variable [Dm]
section
variable {Γ : Type} {main : Bool} {h : Hp} {δ : Ix Γ} {c : Nat} {B : Nat -> Nat} {vals : Nat -> Int} {fns : Nat -> Value}
def lk (vals : Nat -> Int) (m : Int) : Nat -> Option Nat
  | 0 => none
  | n + 1 => if (vals (2 + 2 * n)).tmod 4 = 2 /\ vals (3 + 2 * n) <= m /\ (∀ b, lk vals m n = some b -> vals (3 + 2 * n) < vals (3 + 2 * b)) then some n else lk vals m n
theorem lk_lt {vals : Nat -> Int} {m : Int} : ∀ {n i : Nat}, lk vals m n = some i -> i < n /\ (vals (2 + 2 * i)).tmod 4 = 2 /\ vals (3 + 2 * i) <= m
  | 0, _, h => by cases h
  | n + 1, i, h => by
    unfold lk at h
    split at h
    · rename_i hc; cases h; exact ⟨by omega, hc.1, hc.2.1⟩
    · have := lk_lt h; exact ⟨by omega, this.2⟩
def timR (vals : Nat -> Int) : Option Nat -> Obj
  | none => timO 0 0
  | some b => timO b (vals (2 + 2 * b))
def dueR (vals : Nat -> Int) : Option Nat -> Int
  | none => 0
  | some b => vals (3 + 2 * b)
theorem look_ok {m : Int} (k : Clk h c B vals fns) : CallW Try.prog main NoS 23 #[.pointer (some ⟨c, 0, none⟩), .pointer none, .int .i64 m] h δ
    (Ret fun v h' δ' => Upd (fun _ => False) h h' /\ δ' = δ /\ ((lk vals m 16 = none /\ v = .tuple #[.agg #[.int .i64 0, .int .i64 0], .bool false]) \/ (∃ i, lk vals m 16 = some i /\ v = .tuple #[.agg #[.int .i64 i, .int .i64 (vals (2 + 2 * i))], .bool true]))) := by
  have hu : ∀ o, Upd (fun _ => False) h ((h.push (timO 0 0)).push o) := fun o => (Upd.push _ _).trans (Upd.push _ _)
  have kk : ∀ o, Clk ((h.push (timO 0 0)).push o) c B vals fns := fun o => k.upd (hu o) (fun _ x => x.elim)
  refine CallW.start (n := 57) rfl rfl ?_
  (repeat (first | refine EK.seq ?_ | refine EK.region ?_ | refine ER.done ?_ | refine EK.block ?_ | refine ER.move rfl rfl rfl ?_ | refine ER.assign rfl rfl rfl ?_ | refine ER.allocA rfl rfl ?_))
  refine EK.loopInv (fun s : Nat × Option Nat => [(14, .int .i64 s.1), (0, .pointer (some ⟨c, 0, none⟩)), (1, .pointer none), (2, .int .i64 m), (6, .pointer (some ⟨h.size, 0, none⟩)), (8, .pointer (some ⟨(h.push (timO 0 0)).size, 0, none⟩)), (9, .int .i64 (dueR vals s.2)), (10, .bool s.2.isSome)])
    (fun s h' δ' => s.2 = lk vals m s.1 /\ h' = (h.push (timO 0 0)).push (timR vals s.2) /\ δ' = δ /\ s.1 <= 16) (fun s => 16 - s.1) (0, none) ⟨rfl, rfl, rfl, rfl, rfl, rfl, rfl, rfl, trivial⟩ ⟨rfl, rfl, rfl, by simp⟩ ?_
  rintro ⟨q, r⟩ _ _ ⟨hr, rfl, rfl, hq⟩ again
  dsimp only at hr hq again ⊢
  have k1 := kk (timR vals r)
  by_cases hlt : q < 16
  · (repeat (first | refine EK.seq ?_ | refine EK.region ?_ | refine ER.done ?_ | refine EK.skip ?_ | refine EK.block ?_ | refine ER.move rfl rfl rfl ?_ | refine ER.assign rfl rfl rfl ?_ | refine ER.nilCheck rfl rfl rfl ?_ | refine ER.fieldAddr rfl rfl rfl ?_ | refine ER.cmpT rfl rfl rfl rfl rfl (by first | (dsimp only [cmpP]; omega) | exact rfl | exact Int.le_refl _) ?_ | refine ER.indexArr rfl rfl rfl rfl (by omega) (by omega) ?_ | refine EK.condT rfl ?_))
    refine ER.load1 rfl rfl rfl (k1.pst q hlt) ?_
    (repeat refine ER.move rfl rfl rfl ?_)
    refine ER.callD rfl rfl rfl rfl rfl (cload (k1.cell (2 + 2 * q) (by omega))) ?_
    by_cases h2 : (vals (2 + 2 * q)).tmod 4 = 2
    · (repeat (first | refine EK.seq ?_ | refine EK.region ?_ | refine ER.done ?_ | refine EK.skip ?_ | refine ER.move rfl rfl rfl ?_ | refine ER.assign rfl rfl rfl ?_ | refine ER.nilCheck rfl rfl rfl ?_ | refine ER.fieldAddr rfl rfl rfl ?_ | refine ER.cmpF rfl rfl rfl rfl rfl (by first | (dsimp only [cmpP]; omega) | exact rfl | exact Int.le_refl _) ?_ | refine ER.rem (kd := .i64) rfl rfl rfl rfl (by decide) rfl ?_ | refine ER.indexArr rfl rfl rfl rfl (by omega) (by omega) ?_ | refine EK.condF rfl ?_))
      refine ER.load1 rfl rfl rfl (k1.pdu q hlt) ?_
      (repeat refine ER.move rfl rfl rfl ?_)
      refine ER.callD rfl rfl rfl rfl rfl (cload (k1.cell (3 + 2 * q) (by omega))) ?_
      by_cases h3 : vals (3 + 2 * q) <= m
      · rcases r with _ | b
        · have hn : lk vals m (q + 1) = some q := by
            unfold lk; rw [<- hr]; exact if_pos ⟨h2, h3, fun b hb => by cases hb⟩
          (repeat (first | refine EK.seq ?_ | refine EK.region ?_ | refine ER.done ?_ | refine ER.move rfl rfl rfl ?_ | refine ER.assign rfl rfl rfl ?_ | refine ER.no rfl rfl ?_ | refine ER.notB rfl rfl rfl ?_ | refine ER.pickT rfl rfl rfl rfl ?_ | refine ER.cmpT rfl rfl rfl rfl rfl (by first | (dsimp only [cmpP]; omega) | exact rfl | exact Int.le_refl _) ?_ | refine EK.condT rfl ?_))
          refine ER.buildS (cells := #[.int .i64 q, .int .i64 (vals (2 + 2 * q))]) rfl rfl rfl rfl ?_
          (repeat refine ER.move rfl rfl rfl ?_)
          refine ER.storeT2 (get_push_new _ (timO 0 0)) rfl rfl rfl rfl (by simp [OneCell]) (by simp [OneCell]) (fun _ x => x) ?_
          (repeat (first | refine EK.region ?_ | refine ER.done ?_ | refine EK.inBlock ?_ | refine ER.move rfl rfl rfl ?_ | refine ER.assign rfl rfl rfl ?_ | refine ER.add (kd := .i64) rfl rfl rfl rfl (i64_in (by omega) (by omega)) ?_))
          exact EK.back (again (q + 1, some q) _ _ (by dsimp only; omega) ⟨hn.symm, push_set _ _ _, rfl, by dsimp only; omega⟩) ⟨rfl, rfl, rfl, rfl, rfl, rfl, rfl, rfl, trivial⟩
        · by_cases h4 : vals (3 + 2 * q) < vals (3 + 2 * b)
          · have hn : lk vals m (q + 1) = some q := by
              unfold lk; rw [<- hr]; exact if_pos ⟨h2, h3, fun b hb => by cases hb; exact h4⟩
            have h4' : vals (3 + 2 * q) < dueR vals (some b) := h4
            (repeat (first | refine EK.seq ?_ | refine EK.region ?_ | refine ER.done ?_ | refine ER.move rfl rfl rfl ?_ | refine ER.assign rfl rfl rfl ?_ | refine ER.notB rfl rfl rfl ?_ | refine ER.pickT rfl rfl rfl rfl ?_ | refine ER.pickF rfl rfl rfl rfl ?_ | refine ER.cmpT rfl rfl rfl rfl rfl (by first | (dsimp only [cmpP]; omega) | exact rfl | exact Int.le_refl _) ?_ | refine EK.condT rfl ?_))
            refine ER.buildS (cells := #[.int .i64 q, .int .i64 (vals (2 + 2 * q))]) rfl rfl rfl rfl ?_
            (repeat refine ER.move rfl rfl rfl ?_)
            refine ER.storeT2 (get_push_new _ (timO b (vals (2 + 2 * b)))) rfl rfl rfl rfl (by simp [OneCell]) (by simp [OneCell]) (fun _ x => x) ?_
            (repeat (first | refine EK.region ?_ | refine ER.done ?_ | refine EK.inBlock ?_ | refine ER.move rfl rfl rfl ?_ | refine ER.assign rfl rfl rfl ?_ | refine ER.add (kd := .i64) rfl rfl rfl rfl (i64_in (by omega) (by omega)) ?_))
            exact EK.back (again (q + 1, some q) _ _ (by dsimp only; omega) ⟨hn.symm, push_set _ _ _, rfl, by dsimp only; omega⟩) ⟨rfl, rfl, rfl, rfl, rfl, rfl, rfl, rfl, trivial⟩
          · have hn : lk vals m (q + 1) = some b := by
              unfold lk; rw [<- hr]; exact if_neg (fun x => h4 (x.2.2 b rfl))
            have h4' : ¬ vals (3 + 2 * q) < dueR vals (some b) := h4
            (repeat (first | refine EK.seq ?_ | refine EK.region ?_ | refine ER.done ?_ | refine EK.skip ?_ | refine EK.inBlock ?_ | refine ER.move rfl rfl rfl ?_ | refine ER.assign rfl rfl rfl ?_ | refine ER.notB rfl rfl rfl ?_ | refine ER.pickT rfl rfl rfl rfl ?_ | refine ER.pickF rfl rfl rfl rfl ?_ | refine ER.cmpT rfl rfl rfl rfl rfl (by first | (dsimp only [cmpP]; omega) | exact rfl | exact Int.le_refl _) ?_ | refine ER.cmpF rfl rfl rfl rfl rfl (by first | (dsimp only [cmpP]; omega) | exact rfl | exact Int.le_refl _) ?_ | refine ER.add (kd := .i64) rfl rfl rfl rfl (i64_in (by omega) (by omega)) ?_ | refine EK.condF rfl ?_))
            exact EK.back (again (q + 1, some b) _ _ (by dsimp only; omega) ⟨hn.symm, rfl, rfl, by dsimp only; omega⟩) ⟨rfl, rfl, rfl, rfl, rfl, rfl, rfl, rfl, trivial⟩
      · have hn : lk vals m (q + 1) = r := by
          unfold lk; rw [<- hr]; exact if_neg (fun x => h3 x.2.1)
        (repeat (first | refine EK.seq ?_ | refine EK.region ?_ | refine ER.done ?_ | refine EK.skip ?_ | refine EK.inBlock ?_ | refine ER.move rfl rfl rfl ?_ | refine ER.assign rfl rfl rfl ?_ | refine ER.no rfl rfl ?_ | refine ER.pickF rfl rfl rfl rfl ?_ | refine ER.cmpF rfl rfl rfl rfl rfl (by first | (dsimp only [cmpP]; omega) | exact rfl | exact Int.le_refl _) ?_ | refine ER.add (kd := .i64) rfl rfl rfl rfl (i64_in (by omega) (by omega)) ?_ | refine EK.condF rfl ?_))
        exact EK.back (again (q + 1, r) _ _ (by dsimp only; omega) ⟨hn.symm, rfl, rfl, by dsimp only; omega⟩) ⟨rfl, rfl, rfl, rfl, rfl, rfl, rfl, rfl, trivial⟩
    · have hn : lk vals m (q + 1) = r := by
        unfold lk; rw [<- hr]; exact if_neg (fun x => h2 x.1)
      (repeat (first | refine EK.seq ?_ | refine EK.region ?_ | refine ER.done ?_ | refine ER.move rfl rfl rfl ?_ | refine ER.assign rfl rfl rfl ?_ | refine ER.cmpT rfl rfl rfl rfl rfl (by first | (dsimp only [cmpP]; omega) | exact rfl | exact Int.le_refl _) ?_ | refine ER.add (kd := .i64) rfl rfl rfl rfl (i64_in (by omega) (by omega)) ?_ | refine ER.rem (kd := .i64) rfl rfl rfl rfl (by decide) rfl ?_ | refine EK.condT rfl ?_ | refine EK.exit rfl ?_))
      exact EK.back (again (q + 1, r) _ _ (by dsimp only; omega) ⟨hn.symm, rfl, rfl, by dsimp only; omega⟩) ⟨rfl, rfl, rfl, rfl, rfl, rfl, rfl, rfl, trivial⟩
  · have e : q = 16 := by omega
    subst e
    have hb : ((h.push (timO 0 0)).push (timR vals r))[h.size]? = some (timO 0 0) := get_push _ (get_push_new h _)
    have hb2 : ((h.push (timO 0 0)).push (timR vals r))[(h.push (timO 0 0)).size]? = some (timR vals r) := get_push_new _ _
    have hs : ∀ o o', Upd (fun _ => False) h (((h.push (timO 0 0)).push o).setIfInBounds h.size o') := fun o o' => by
      refine ⟨by simp; omega, fun b hb' _ => ?_⟩
      rw [get_set_ne _ (by omega)]
      exact (hu o).same b hb' (fun x => x)
    (repeat (first | refine EK.seq ?_ | refine EK.region ?_ | refine ER.done ?_ | refine ER.cmpF rfl rfl rfl rfl rfl (by first | (dsimp only [cmpP]; omega) | exact rfl | exact Int.le_refl _) ?_ | refine EK.condF rfl ?_ | refine EK.exit rfl ?_))
    rcases r with _ | b
    · refine ER.loadN (vs := [.int .i64 0, .int .i64 0]) rfl rfl rfl rfl (hrow2 hb2) ?_
      (repeat refine ER.move rfl rfl rfl ?_)
      refine ER.storeT2 hb rfl rfl rfl rfl (by simp [OneCell]) (by simp [OneCell]) (fun _ x => x) ?_
      (repeat (first | refine ER.done ?_ | refine ER.assign rfl rfl rfl ?_ | refine EK.ret ?_))
      exact EU.retCell2 (get_set_same hb) rfl rfl rfl ⟨hs _ _, rfl, .inl ⟨hr.symm, rfl⟩⟩
    · refine ER.loadN (vs := [.int .i64 b, .int .i64 (vals (2 + 2 * b))]) rfl rfl rfl rfl (hrow2 hb2) ?_
      (repeat refine ER.move rfl rfl rfl ?_)
      refine ER.storeT2 hb rfl rfl rfl rfl (by simp [OneCell]) (by simp [OneCell]) (fun _ x => x) ?_
      (repeat (first | refine ER.done ?_ | refine ER.assign rfl rfl rfl ?_ | refine EK.ret ?_))
      exact EU.retCell2 (get_set_same hb) rfl rfl rfl ⟨hs _ _, rfl, .inr ⟨b, hr.symm, rfl⟩⟩
end
end
section
open Go Go.TJ Go.Proofs
variable [Dm]
section
variable {Γ : Type} {main : Bool} {h : Hp} {δ : Ix Γ}
def newB (N j : Nat) : Nat := if j < 2 then N + j else N + j + 1
structure PClk (h : Hp) (N i : Nat) : Prop where
  obj : ∃ cs, h[N + 2]? = some (.cells cs 54 (0, 0)) /\ cs.size = 50
  pnow : hcell h ⟨N + 2, 0, none⟩ = some (.pointer (some ⟨N, 0, none⟩))
  pbusy : hcell h ⟨N + 2, 1, none⟩ = some (.pointer (some ⟨N + 1, 0, none⟩))
  pst : ∀ q, q < i -> hcell h ⟨N + 2, 2 + q * 3, none⟩ = some (.pointer (some ⟨newB N (2 + 2 * q), 0, none⟩))
  pdu : ∀ q, q < i -> hcell h ⟨N + 2, 2 + q * 3 + 1, none⟩ = some (.pointer (some ⟨newB N (3 + 2 * q), 0, none⟩))
  ost : ∀ q, q < 16 -> ∃ v, hcell h ⟨N + 2, 2 + q * 3, none⟩ = some v
  odu : ∀ q, q < 16 -> ∃ v, hcell h ⟨N + 2, 2 + q * 3 + 1, none⟩ = some v
  pf : ∀ q, q < 16 -> hcell h ⟨N + 2, 2 + q * 3 + 2, none⟩ = some .nilFunc
  cell : ∀ j, j < 2 + 2 * i -> h[newB N j]? = some (cellO 0)
  size : h.size = N + 3 + 2 * i
theorem PClk.push2 {h : Hp} {N i : Nat} (k : PClk h N i) (hi : i < 16) : PClk ((hset (hset ((h.push (cellO 0)).push (cellO 0)) ⟨N + 2, 2 + i * 3, none⟩ (.pointer (some ⟨h.size, 0, none⟩))) ⟨N + 2, 2 + i * 3 + 1, none⟩ (.pointer (some ⟨h.size + 1, 0, none⟩)))) N (i + 1) := by
  have hz := k.size
  obtain ⟨cs, hcs, hc50⟩ := k.obj
  have o0 : ∀ a v, hcell h a = some v -> hcell ((h.push (cellO 0)).push (cellO 0)) a = some v := fun a v x => hcell_push (hcell_push x)
  obtain ⟨v1, e1⟩ := k.ost i hi
  obtain ⟨v2, e2⟩ := k.odu i hi
  have e1' := o0 _ _ e1
  have e2' := o0 _ _ e2
  have e2'' : hcell (hset ((h.push (cellO 0)).push (cellO 0)) ⟨N + 2, 2 + i * 3, none⟩ (.pointer (some ⟨h.size, 0, none⟩))) ⟨N + 2, 2 + i * 3 + 1, none⟩ = some v2 := by rw [hset_cell_ne _ _ _ _ (by simp) ⟨_, e1'⟩]; exact e2'
  have o : ∀ q, q ≠ 2 + i * 3 -> q ≠ 2 + i * 3 + 1 -> ∀ v, hcell h ⟨N + 2, q, none⟩ = some v -> hcell (hset (hset ((h.push (cellO 0)).push (cellO 0)) ⟨N + 2, 2 + i * 3, none⟩ (.pointer (some ⟨h.size, 0, none⟩))) ⟨N + 2, 2 + i * 3 + 1, none⟩ (.pointer (some ⟨h.size + 1, 0, none⟩))) ⟨N + 2, q, none⟩ = some v := fun q h1 h2 v hv => by
    rw [hset_cell_ne _ _ _ _ (by simp; omega) ⟨_, e2''⟩, hset_cell_ne _ _ _ _ (by simp; omega) ⟨_, e1'⟩]; exact o0 _ _ hv
  have w1 : hcell (hset (hset ((h.push (cellO 0)).push (cellO 0)) ⟨N + 2, 2 + i * 3, none⟩ (.pointer (some ⟨h.size, 0, none⟩))) ⟨N + 2, 2 + i * 3 + 1, none⟩ (.pointer (some ⟨h.size + 1, 0, none⟩))) ⟨N + 2, 2 + i * 3, none⟩ = some (.pointer (some ⟨h.size, 0, none⟩)) := by
    rw [hset_cell_ne _ _ _ _ (by simp) ⟨_, e2''⟩]; exact hcell_hset_same e1'
  have w2 : hcell (hset (hset ((h.push (cellO 0)).push (cellO 0)) ⟨N + 2, 2 + i * 3, none⟩ (.pointer (some ⟨h.size, 0, none⟩))) ⟨N + 2, 2 + i * 3 + 1, none⟩ (.pointer (some ⟨h.size + 1, 0, none⟩))) ⟨N + 2, 2 + i * 3 + 1, none⟩ = some (.pointer (some ⟨h.size + 1, 0, none⟩)) := hcell_hset_same e2''
  have g0 : ∀ b x, h[b]? = some x -> b ≠ N + 2 -> (hset (hset ((h.push (cellO 0)).push (cellO 0)) ⟨N + 2, 2 + i * 3, none⟩ (.pointer (some ⟨h.size, 0, none⟩))) ⟨N + 2, 2 + i * 3 + 1, none⟩ (.pointer (some ⟨h.size + 1, 0, none⟩)))[b]? = some x := fun b x hx hb => by
    rw [hset_ne _ _ _ (Ne.symm hb), hset_ne _ _ _ (Ne.symm hb)]; exact get_push _ (get_push _ hx)
  have g1 : (hset (hset ((h.push (cellO 0)).push (cellO 0)) ⟨N + 2, 2 + i * 3, none⟩ (.pointer (some ⟨h.size, 0, none⟩))) ⟨N + 2, 2 + i * 3 + 1, none⟩ (.pointer (some ⟨h.size + 1, 0, none⟩)))[h.size]? = some (cellO 0) := by
    rw [hset_ne _ _ _ (by dsimp only; omega), hset_ne _ _ _ (by dsimp only; omega)]; exact get_push _ (get_push_new _ _)
  have g2 : (hset (hset ((h.push (cellO 0)).push (cellO 0)) ⟨N + 2, 2 + i * 3, none⟩ (.pointer (some ⟨h.size, 0, none⟩))) ⟨N + 2, 2 + i * 3 + 1, none⟩ (.pointer (some ⟨h.size + 1, 0, none⟩)))[h.size + 1]? = some (cellO 0) := by
    rw [hset_ne _ _ _ (by dsimp only; omega), hset_ne _ _ _ (by dsimp only; omega)]
    have := get_push_new (h.push (cellO 0)) (cellO 0)
    simpa using this
  have b1 : h.size = newB N (2 + 2 * i) := by unfold newB; rw [if_neg (by omega)]; omega
  have b2 : h.size + 1 = newB N (3 + 2 * i) := by unfold newB; rw [if_neg (by omega)]; omega
  refine ⟨⟨_, hset_same _ ⟨N + 2, 2 + i * 3 + 1, none⟩ _ (hset_same _ ⟨N + 2, 2 + i * 3, none⟩ _ (get_push _ (get_push _ hcs)) rfl) rfl, by simp [hc50]⟩, o 0 (by omega) (by omega) _ k.pnow, o 1 (by omega) (by omega) _ k.pbusy, fun q hq => ?_, fun q hq => ?_, fun q hq => ?_, fun q hq => ?_, fun q hq => o _ (by omega) (by omega) _ (k.pf q hq), fun j hj => ?_, ?_⟩
  · by_cases e : q = i
    · subst e; rw [<- b1]; exact w1
    · exact o _ (by omega) (by omega) _ (k.pst q (by omega))
  · by_cases e : q = i
    · subst e; rw [<- b2]; exact w2
    · exact o _ (by omega) (by omega) _ (k.pdu q (by omega))
  · by_cases e : q = i
    · subst e; exact ⟨_, w1⟩
    · obtain ⟨v, hv⟩ := k.ost q hq
      exact ⟨v, o _ (by omega) (by omega) _ hv⟩
  · by_cases e : q = i
    · subst e; exact ⟨_, w2⟩
    · obtain ⟨v, hv⟩ := k.odu q hq
      exact ⟨v, o _ (by omega) (by omega) _ hv⟩
  · by_cases e : j = 2 + 2 * i
    · subst e; rw [<- b1]; exact g1
    by_cases e : j = 3 + 2 * i
    · subst e; rw [<- b2]; exact g2
    exact g0 _ _ (k.cell j (by omega)) (by unfold newB; split <;> omega)
  · simp [hset_size]; omega
theorem new_ok : CallW Try.prog main NoS 5 #[] h δ
    (Ret fun v h' δ' => v = .pointer (some ⟨h.size + 2, 0, none⟩) /\ Upd (fun _ => False) h h' /\ δ' = δ /\ Clk h' (h.size + 2) (newB h.size) (fun _ => 0) (fun _ => .nilFunc) /\ ∃ cs, h'[h.size + 2]? = some (.cells cs 54 (0, 0)) /\ cs.size = 50) := by
  refine CallW.start (n := 26) rfl rfl ?_
  (repeat (first | refine EK.seq ?_ | refine EK.region ?_ | refine ER.done ?_ | refine ER.assign rfl rfl rfl ?_))
  refine ER.callD rfl rfl rfl rfl rfl cnew ?_
  refine ER.callD rfl rfl rfl rfl rfl cnew ?_
  refine ER.buildS (cells := #[.pointer (some ⟨h.size, 0, none⟩), .pointer (some ⟨(h.push (cellO 0)).size, 0, none⟩), .pointer none, .pointer none, .nilFunc, .pointer none, .pointer none, .nilFunc, .pointer none, .pointer none, .nilFunc, .pointer none, .pointer none, .nilFunc, .pointer none, .pointer none, .nilFunc, .pointer none, .pointer none, .nilFunc, .pointer none, .pointer none, .nilFunc, .pointer none, .pointer none, .nilFunc, .pointer none, .pointer none, .nilFunc, .pointer none, .pointer none, .nilFunc, .pointer none, .pointer none, .nilFunc, .pointer none, .pointer none, .nilFunc, .pointer none, .pointer none, .nilFunc, .pointer none, .pointer none, .nilFunc, .pointer none, .pointer none, .nilFunc, .pointer none, .pointer none, .nilFunc]) rfl rfl rfl rfl ?_
  refine ER.boxA rfl rfl rfl ?_
  have hN : ((h.push (cellO 0)).push (cellO 0)).size = h.size + 2 := by simp
  have hN1 : (h.push (cellO 0)).size = h.size + 1 := by simp
  rw [hN, hN1]
  have k0 : PClk (((h.push (cellO 0)).push (cellO 0)).push (.cells #[.pointer (some ⟨h.size, 0, none⟩), .pointer (some ⟨h.size + 1, 0, none⟩), .pointer none, .pointer none, .nilFunc, .pointer none, .pointer none, .nilFunc, .pointer none, .pointer none, .nilFunc, .pointer none, .pointer none, .nilFunc, .pointer none, .pointer none, .nilFunc, .pointer none, .pointer none, .nilFunc, .pointer none, .pointer none, .nilFunc, .pointer none, .pointer none, .nilFunc, .pointer none, .pointer none, .nilFunc, .pointer none, .pointer none, .nilFunc, .pointer none, .pointer none, .nilFunc, .pointer none, .pointer none, .nilFunc, .pointer none, .pointer none, .nilFunc, .pointer none, .pointer none, .nilFunc, .pointer none, .pointer none, .nilFunc, .pointer none, .pointer none, .nilFunc] 54)) h.size 0 := by
    have hb := get_push_new ((h.push (cellO 0)).push (cellO 0)) (.cells #[.pointer (some ⟨h.size, 0, none⟩), .pointer (some ⟨h.size + 1, 0, none⟩), .pointer none, .pointer none, .nilFunc, .pointer none, .pointer none, .nilFunc, .pointer none, .pointer none, .nilFunc, .pointer none, .pointer none, .nilFunc, .pointer none, .pointer none, .nilFunc, .pointer none, .pointer none, .nilFunc, .pointer none, .pointer none, .nilFunc, .pointer none, .pointer none, .nilFunc, .pointer none, .pointer none, .nilFunc, .pointer none, .pointer none, .nilFunc, .pointer none, .pointer none, .nilFunc, .pointer none, .pointer none, .nilFunc, .pointer none, .pointer none, .nilFunc, .pointer none, .pointer none, .nilFunc, .pointer none, .pointer none, .nilFunc, .pointer none, .pointer none, .nilFunc] 54)
    rw [hN] at hb
    have key : ∀ q, q < 16 -> hcell _ ⟨h.size + 2, 2 + q * 3, none⟩ = some (.pointer none) /\ hcell _ ⟨h.size + 2, 2 + q * 3 + 1, none⟩ = some (.pointer none) /\ hcell _ ⟨h.size + 2, 2 + q * 3 + 2, none⟩ = some .nilFunc := fun q hq => by
      have : q = 0 \/ q = 1 \/ q = 2 \/ q = 3 \/ q = 4 \/ q = 5 \/ q = 6 \/ q = 7 \/ q = 8 \/ q = 9 \/ q = 10 \/ q = 11 \/ q = 12 \/ q = 13 \/ q = 14 \/ q = 15 := by omega
      rcases this with rfl | rfl | rfl | rfl | rfl | rfl | rfl | rfl | rfl | rfl | rfl | rfl | rfl | rfl | rfl | rfl <;> exact ⟨hcell_of hb rfl, hcell_of hb rfl, hcell_of hb rfl⟩
    refine ⟨⟨_, hb, rfl⟩, hcell_of hb rfl, hcell_of hb rfl, fun q hq => by omega, fun q hq => by omega, fun q hq => ⟨_, (key q hq).1⟩, fun q hq => ⟨_, (key q hq).2.1⟩, fun q hq => (key q hq).2.2, fun j hj => ?_, by simp⟩
    have : j = 0 \/ j = 1 := by omega
    rcases this with rfl | rfl
    · exact get_push _ (get_push _ (get_push_new h _))
    · have := get_push (.cells #[.pointer (some ⟨h.size, 0, none⟩), .pointer (some ⟨h.size + 1, 0, none⟩), .pointer none, .pointer none, .nilFunc, .pointer none, .pointer none, .nilFunc, .pointer none, .pointer none, .nilFunc, .pointer none, .pointer none, .nilFunc, .pointer none, .pointer none, .nilFunc, .pointer none, .pointer none, .nilFunc, .pointer none, .pointer none, .nilFunc, .pointer none, .pointer none, .nilFunc, .pointer none, .pointer none, .nilFunc, .pointer none, .pointer none, .nilFunc, .pointer none, .pointer none, .nilFunc, .pointer none, .pointer none, .nilFunc, .pointer none, .pointer none, .nilFunc, .pointer none, .pointer none, .nilFunc, .pointer none, .pointer none, .nilFunc, .pointer none, .pointer none, .nilFunc] 54) (get_push_new (h.push (cellO 0)) (cellO 0))
      rw [hN1] at this
      exact this
  have u0 : Upd (fun _ => False) h (((h.push (cellO 0)).push (cellO 0)).push (.cells #[.pointer (some ⟨h.size, 0, none⟩), .pointer (some ⟨h.size + 1, 0, none⟩), .pointer none, .pointer none, .nilFunc, .pointer none, .pointer none, .nilFunc, .pointer none, .pointer none, .nilFunc, .pointer none, .pointer none, .nilFunc, .pointer none, .pointer none, .nilFunc, .pointer none, .pointer none, .nilFunc, .pointer none, .pointer none, .nilFunc, .pointer none, .pointer none, .nilFunc, .pointer none, .pointer none, .nilFunc, .pointer none, .pointer none, .nilFunc, .pointer none, .pointer none, .nilFunc, .pointer none, .pointer none, .nilFunc, .pointer none, .pointer none, .nilFunc, .pointer none, .pointer none, .nilFunc, .pointer none, .pointer none, .nilFunc, .pointer none, .pointer none, .nilFunc] 54)) := ((Upd.push _ _).trans (Upd.push _ _)).trans (Upd.push _ _)
  generalize ((h.push (cellO 0)).push (cellO 0)).push (.cells #[.pointer (some ⟨h.size, 0, none⟩), .pointer (some ⟨h.size + 1, 0, none⟩), .pointer none, .pointer none, .nilFunc, .pointer none, .pointer none, .nilFunc, .pointer none, .pointer none, .nilFunc, .pointer none, .pointer none, .nilFunc, .pointer none, .pointer none, .nilFunc, .pointer none, .pointer none, .nilFunc, .pointer none, .pointer none, .nilFunc, .pointer none, .pointer none, .nilFunc, .pointer none, .pointer none, .nilFunc, .pointer none, .pointer none, .nilFunc, .pointer none, .pointer none, .nilFunc, .pointer none, .pointer none, .nilFunc, .pointer none, .pointer none, .nilFunc, .pointer none, .pointer none, .nilFunc, .pointer none, .pointer none, .nilFunc, .pointer none, .pointer none, .nilFunc] 54) = h3 at k0 u0 ⊢
  (repeat (first | refine EK.seq ?_ | refine EK.region ?_ | refine ER.done ?_ | refine EK.block ?_ | refine ER.move rfl rfl rfl ?_ | refine ER.assign rfl rfl rfl ?_))
  refine EK.loopInv (fun q : Nat => [(7, .int .i64 q), (1, .pointer (some ⟨h.size + 2, 0, none⟩))]) (fun q h' δ' => q <= 16 /\ PClk h' h.size q /\ Upd (fun _ => False) h h' /\ δ' = δ) (fun q => 16 - q) 0 ⟨rfl, rfl, trivial⟩ ⟨Nat.zero_le _, k0, u0, rfl⟩ ?_
  clear k0 u0
  rintro q h1 _ ⟨hq, k, u, rfl⟩ again
  by_cases hlt : q < 16
  · (repeat (first | refine EK.seq ?_ | refine EK.region ?_ | refine ER.done ?_ | refine EK.skip ?_ | refine EK.block ?_ | refine ER.move rfl rfl rfl ?_ | refine ER.assign rfl rfl rfl ?_ | refine ER.cmpT rfl rfl rfl rfl rfl (by first | (dsimp only [cmpP]; omega) | exact rfl | exact Int.le_refl _) ?_ | refine EK.condT rfl ?_))
    refine EK.regionAny (fun _ => True) ?_
    have hZ := trivial
    refine EA.tMove 0 rfl (by kernel_rfl) rfl rfl rfl rfl hZ ?_
    refine EA.tMove 1 rfl (by kernel_rfl) rfl rfl rfl rfl hZ ?_
    refine EA.tMove 2 rfl (by kernel_rfl) rfl rfl rfl rfl hZ ?_
    refine EA.tMove 3 rfl (by kernel_rfl) rfl rfl rfl rfl hZ ?_
    refine EA.tNil 6 rfl (by kernel_rfl) rfl rfl rfl rfl hZ ?_
    refine EA.tField 7 rfl (by kernel_rfl) rfl rfl rfl rfl hZ ?_
    refine EA.tNil 11 rfl (by kernel_rfl) rfl rfl rfl rfl hZ ?_
    refine EA.tField 12 rfl (by kernel_rfl) rfl rfl rfl rfl hZ ?_
    refine EA.callD 4 rfl (by kernel_rfl) rfl rfl rfl rfl rfl rfl cnew hZ ?_
    refine EA.callD 5 rfl (by kernel_rfl) rfl rfl rfl rfl rfl rfl cnew hZ ?_
    refine EA.tIdxA 8 rfl (by kernel_rfl) rfl rfl rfl rfl rfl (by omega) (by omega) hZ ?_
    refine EA.tField 9 rfl (by kernel_rfl) rfl rfl rfl rfl hZ ?_
    have hz1 : (h1.push (cellO 0)).size = h1.size + 1 := by simp
    obtain ⟨v1, e1⟩ := k.ost q hlt
    obtain ⟨v2, e2⟩ := k.odu q hlt
    obtain ⟨cs, hcs, hc50⟩ := k.obj
    have f0 := hfroz_of (off := 2 + q * 3) (get_push (cellO 0) (get_push (cellO 0) hcs))
    have f1 := hfroz_of (off := 2 + q * 3 + 1) (get_push (cellO 0) (get_push (cellO 0) hcs))
    refine EA.unit 10 rfl (by kernel_rfl) rfl rfl (fun ρ Q X hρ hq => sem_store1 (hρ _ _ rfl) (hρ _ _ rfl) (by simp [OneCell]) ⟨_, hcell_push (hcell_push e1)⟩ f0 (fun x => x) hq) hZ ?_
    refine EA.tIdxA 13 rfl (by kernel_rfl) rfl rfl rfl rfl rfl (by omega) (by omega) hZ ?_
    refine EA.tField 14 rfl (by kernel_rfl) rfl rfl rfl rfl hZ ?_
    refine EA.unit 15 rfl (by kernel_rfl) rfl rfl (fun ρ Q X hρ hq => sem_store1 (hρ _ _ rfl) (hρ _ _ rfl) (by simp [OneCell]) ⟨v2, ?_⟩ ?_ (fun x => x) hq) hZ ?_
    · exact (hset_cell_ne _ ⟨h.size + 2, 2 + q * 3, none⟩ ⟨h.size + 2, 2 + q * 3 + 1, none⟩ _ (by simp) ⟨v1, hcell_push (hcell_push e1)⟩).trans (hcell_push (hcell_push e2))
    · exact (hfroz_hset _ ⟨h.size + 2, 2 + q * 3, none⟩ ⟨h.size + 2, 2 + q * 3 + 1, none⟩ _).trans f1
    refine EA.done (by kernel_rfl) ?_
    have k2 := k.push2 hlt
    rw [<- hz1] at k2
    (repeat (first | refine EK.region ?_ | refine ER.done ?_ | refine EK.inBlock ?_ | refine ER.move rfl rfl rfl ?_ | refine ER.add (kd := .i64) rfl rfl rfl rfl (i64_in (by omega) (by omega)) ?_))
    refine EK.back (again (q + 1) _ _ (by omega) ⟨by omega, k2, ?_, rfl⟩) ⟨rfl, rfl, trivial⟩
    have hu := k.size
    refine ⟨by simp only [hset_size, Array.size_push]; omega, fun b hb _ => ?_⟩
    rw [hset_ne _ _ _ (by dsimp only; omega), hset_ne _ _ _ (by dsimp only; omega)]
    exact (u.trans ((Upd.push _ _).trans (Upd.push _ _)) : Upd (fun _ => False) h ((h1.push (cellO 0)).push (cellO 0))).same b hb (fun x => x)
  · have e : q = 16 := by omega
    subst e
    (repeat (first | refine EK.seq ?_ | refine EK.region ?_ | refine ER.done ?_ | refine ER.move rfl rfl rfl ?_ | refine ER.assign rfl rfl rfl ?_ | refine ER.cmpF rfl rfl rfl rfl rfl (by first | (dsimp only [cmpP]; omega) | exact rfl | exact Int.le_refl _) ?_ | refine EK.condF rfl ?_ | refine EK.ret ?_ | refine EK.exit rfl ?_))
    refine EU.ret1 rfl rfl ⟨rfl, u, rfl, ⟨k.obj.imp fun _ z => z.1, ?_, ?_, fun i hi => k.pst i hi, fun i hi => k.pdu i hi, fun i hi => k.pf i hi, fun j hj => k.cell j (by omega), ?_, ?_⟩, k.obj⟩
    · exact k.pnow
    · exact k.pbusy
    · intro i j _ _ hij; unfold newB at hij; split at hij <;> split at hij <;> omega
    · intro j _; unfold newB; split <;> omega
end
end
section
open Go Go.TJ Go.Proofs
variable [Dm]
section
variable {Γ : Type} {main : Bool} {h : Hp} {δ : Ix Γ} {c : Nat} {B : Nat -> Nat} {vals : Nat -> Int} {fns : Nat -> Value}
structure Acc (main : Bool) (δ : Ix Γ) {σ : Type} (c : Nat) (B : Nat -> Nat) (base : Nat) (m : Int) (vl : σ -> Nat -> Int) (fn : σ -> Nat -> Value) (Inv : σ -> Nat -> Hp -> Prop) : Prop where
  clk : ∀ s r h, Inv s r h -> Clk h c B (vl s) (fn s) /\ base <= h.size
  stab : ∀ s r h h', Inv s r h -> Upd (fun _ => False) h h' -> Inv s r h'
  own : ∀ b, Own c B b -> b < base
  ring : ∀ s r h₀ h i, Inv s r h₀ -> Upd (fun _ => False) h₀ h -> r < 64 -> lk (vl s) m 16 = some i -> 0 <= vl s (2 + 2 * i) /\ vl s (2 + 2 * i) <= 4611686018427387904 /\ ∃ g cap, fn s i = .func (.func g) #[] cap /\ HasBody Try.prog g /\
    CallW Try.prog main NoS g (#[.pointer none] ++ cap) (h.setIfInBounds (B (2 + 2 * i)) (cellO (vl s (2 + 2 * i) + 1))) δ
      (Ret fun _ h' δ' => δ' = δ /\ Upd (fun b => b < h₀.size) h h' /\ (∃ vl' fn', Clk h' c B vl' fn') /\ ∃ s', Inv s' (r + 1) (h'.setIfInBounds (B (2 + 2 * i)) (cellO (vl s (2 + 2 * i) + 2))))
set_option maxHeartbeats 4000000 in
theorem adv_ok {σ : Type} {vl : σ -> Nat -> Int} {fn : σ -> Nat -> Value} {Inv : σ -> Nat -> Hp -> Prop} {base : Nat} {d m : Int} {s0 : σ} (k : Clk h c B vals fns) (hb : vals 1 = 0) (hd : 0 <= d) (h0 : 0 <= vals 0) (h1 : vals 0 <= 4611686018427387904)
    (hm : vals 0 + (if 4611686018427387904 - vals 0 < d then 4611686018427387904 - vals 0 else d) = m) (A : Acc main δ c B base m vl fn Inv) (hi : Inv s0 0 ((h.setIfInBounds (B 1) (cellO 1)).setIfInBounds (B 0) (cellO m))) :
    CallW Try.prog main NoS 13 #[.pointer (some ⟨c, 0, none⟩), .pointer none, .int .i64 d] h δ
      (Ret fun v h' δ' => δ' = δ /\ ∃ s, ∃ r : Nat, ∃ h1, r <= 64 /\ Inv s r h1 /\ (lk (vl s) m 16 = none \/ r = 64) /\ h' = h1.setIfInBounds (B 1) (cellO 0) /\ v = .tuple #[.int .i64 r, .int .i64 0]) := by
  have k1 := k.set (j := 1) (by omega) 1
  have hmb : 0 <= m /\ m <= 4611686018427387904 := by subst hm; split <;> omega
  refine CallW.start (n := 101) rfl rfl ?_
  (repeat (first | refine EK.seq ?_ | refine EK.region ?_ | refine ER.done ?_ | refine ER.move rfl rfl rfl ?_ | refine ER.assign rfl rfl rfl ?_))
  refine ER.callD rfl rfl rfl rfl rfl (made_ok k.pnow) ?_
  (repeat (first | refine EK.seq ?_ | refine EK.region ?_ | refine ER.done ?_ | refine EK.skip ?_ | refine ER.move rfl rfl rfl ?_ | refine ER.nilCheck rfl rfl rfl ?_ | refine ER.fieldAddr rfl rfl rfl ?_ | refine ER.notB rfl rfl rfl ?_ | refine ER.cmpF rfl rfl rfl rfl rfl (by first | (dsimp only [cmpP]; omega) | exact rfl | exact Int.le_refl _) ?_ | refine EK.condF rfl ?_))
  refine ER.load1 rfl rfl rfl k.pbusy ?_
  (repeat refine ER.move rfl rfl rfl ?_)
  refine ER.callD rfl rfl rfl rfl rfl (ccas_yes (hb ▸ k.cell 1 (by omega)) (fun _ x => x)) ?_
  (repeat (first | refine EK.seq ?_ | refine EK.region ?_ | refine ER.done ?_ | refine EK.skip ?_ | refine ER.move rfl rfl rfl ?_ | refine ER.nilCheck rfl rfl rfl ?_ | refine ER.fieldAddr rfl rfl rfl ?_ | refine ER.notB rfl rfl rfl ?_ | refine EK.condF rfl ?_))
  refine ER.load1 rfl rfl rfl k1.pnow ?_
  (repeat refine ER.move rfl rfl rfl ?_)
  refine ER.callD rfl rfl rfl rfl rfl (cload (k1.cell 0 (by omega))) ?_
  have e0 : up vals 1 1 0 = vals 0 := up_ne _ _ (by omega)
  rw [e0]
  (repeat (first | refine EK.seq ?_ | refine EK.region ?_ | refine ER.done ?_ | refine ER.move rfl rfl rfl ?_ | refine ER.assign rfl rfl rfl ?_ | refine ER.sub' (kd := .i64) rfl rfl rfl rfl (i64_in (by omega) (by omega)) ?_))
  refine ER.min rfl rfl rfl rfl rfl ?_
  refine ER.add (kd := .i64) (r := m) rfl rfl rfl rfl (by rw [hm]; exact i64_in (by omega) (by omega)) ?_
  (repeat (first | refine EK.seq ?_ | refine EK.region ?_ | refine ER.done ?_ | refine ER.move rfl rfl rfl ?_ | refine ER.assign rfl rfl rfl ?_ | refine ER.nilCheck rfl rfl rfl ?_ | refine ER.fieldAddr rfl rfl rfl ?_))
  refine ER.load1 rfl rfl rfl k1.pnow ?_
  (repeat refine ER.move rfl rfl rfl ?_)
  refine ER.callD rfl rfl rfl rfl rfl (cstore (x := m) (k1.cell 0 (by omega)) (fun _ x => x)) ?_
  (repeat (first | refine EK.seq ?_ | refine EK.region ?_ | refine ER.done ?_ | refine EK.block ?_ | refine ER.assign rfl rfl rfl ?_))
  refine EK.loopInv (fun s : σ × Nat => [(9, .int .i64 s.2), (0, .pointer (some ⟨c, 0, none⟩)), (1, .pointer none), (8, .int .i64 m)]) (fun s h' δ' => Inv s.1 s.2 h' /\ δ' = δ /\ s.2 <= 64) (fun s => 64 - s.2) (s0, 0) ⟨rfl, rfl, rfl, rfl, trivial⟩ ⟨hi, rfl, by simp⟩ ?_
  rintro ⟨s, r⟩ h2 _ ⟨hI, rfl, hr⟩ again
  dsimp only at hI hr again ⊢
  obtain ⟨k2, hbs⟩ := A.clk _ _ _ hI
  (repeat (first | refine EK.seq ?_ | refine EK.region ?_ | refine EK.block ?_ | refine ER.move rfl rfl rfl ?_))
  refine ER.callR rfl rfl rfl rfl rfl (look_ok k2) ?_
  rintro _ h3 _ ⟨u3, rfl, ⟨hn, rfl⟩ | ⟨i, hn, rfl⟩⟩
  · have hI3 := A.stab _ _ _ _ hI u3
    (repeat (first | refine ER.move rfl rfl rfl ?_ | refine ER.extract rfl rfl rfl rfl ?_ | refine ER.allocA rfl rfl ?_))
    refine ER.storeT2 (get_push_new h3 (timO 0 0)) rfl rfl rfl rfl (by simp [OneCell]) (by simp [OneCell]) (fun _ x => x) ?_
    rw [push_set]
    have hI4 := A.stab _ _ _ _ hI3 (Upd.push (T := fun _ => False) h3 (timO 0 0))
    have k4 := (A.clk _ _ _ hI4).1
    (repeat (first | refine EK.seq ?_ | refine EK.region ?_ | refine ER.done ?_ | refine ER.move rfl rfl rfl ?_ | refine ER.assign rfl rfl rfl ?_ | refine ER.nilCheck rfl rfl rfl ?_ | refine ER.fieldAddr rfl rfl rfl ?_ | refine ER.no rfl rfl ?_ | refine ER.notB rfl rfl rfl ?_ | refine ER.pickT rfl rfl rfl rfl ?_ | refine EK.condT rfl ?_ | refine EK.exit rfl ?_))
    refine ER.load1 rfl rfl rfl k4.pbusy ?_
    (repeat refine ER.move rfl rfl rfl ?_)
    refine ER.callD rfl rfl rfl rfl rfl (cstore (x := 0) (k4.cell 1 (by omega)) (fun _ x => x)) ?_
    (repeat (first | refine EK.seq ?_ | refine EK.region ?_ | refine ER.done ?_ | refine ER.move rfl rfl rfl ?_ | refine ER.assign rfl rfl rfl ?_ | refine EK.ret ?_))
    exact EU.ret2 rfl rfl rfl ⟨rfl, s, r, _, hr, hI4, .inl hn, rfl, rfl⟩
  have hI3 := A.stab _ _ _ _ hI u3
  have hI4 := A.stab _ _ _ _ hI3 (Upd.push (T := fun _ => False) h3 (timO i (vl s (2 + 2 * i))))
  have k4 := (A.clk _ _ _ hI4).1
  obtain ⟨hi16, -, -⟩ := lk_lt hn
  by_cases h64 : r = 64
  · subst h64
    (repeat (first | refine ER.move rfl rfl rfl ?_ | refine ER.extract rfl rfl rfl rfl ?_ | refine ER.allocA rfl rfl ?_))
    refine ER.storeT2 (get_push_new h3 (timO 0 0)) rfl rfl rfl rfl (by simp [OneCell]) (by simp [OneCell]) (fun _ x => x) ?_
    rw [push_set]
    (repeat (first | refine EK.seq ?_ | refine EK.region ?_ | refine ER.done ?_ | refine ER.move rfl rfl rfl ?_ | refine ER.assign rfl rfl rfl ?_ | refine ER.nilCheck rfl rfl rfl ?_ | refine ER.fieldAddr rfl rfl rfl ?_ | refine ER.notB rfl rfl rfl ?_ | refine ER.pickF rfl rfl rfl rfl ?_ | refine ER.cmpT rfl rfl rfl rfl rfl (by first | (dsimp only [cmpP]; omega) | exact rfl | exact Int.le_refl _) ?_ | refine EK.condT rfl ?_ | refine EK.exit rfl ?_))
    refine ER.load1 rfl rfl rfl k4.pbusy ?_
    (repeat refine ER.move rfl rfl rfl ?_)
    refine ER.callD rfl rfl rfl rfl rfl (cstore (x := 0) (k4.cell 1 (by omega)) (fun _ x => x)) ?_
    (repeat (first | refine EK.seq ?_ | refine EK.region ?_ | refine ER.done ?_ | refine ER.move rfl rfl rfl ?_ | refine ER.assign rfl rfl rfl ?_ | refine EK.ret ?_))
    exact EU.ret2 rfl rfl rfl ⟨rfl, s, 64, _, hr, hI4, .inr rfl, rfl, rfl⟩
  obtain ⟨hv0, hv1, g, cap, hfn, hg, hcall⟩ := A.ring _ _ _ _ _ hI3 (Upd.push (T := fun _ => False) h3 (timO i (vl s (2 + 2 * i)))) (by omega) hn
  have hb3 : base <= h3.size := (A.clk _ _ _ hI3).2
  have hlt : B (2 + 2 * i) ≠ h3.size := fun e => by have := A.own _ (.inr ⟨2 + 2 * i, by omega, rfl⟩); omega
  have hcs : c ≠ h3.size := fun e => by have := A.own _ (.inl rfl); omega
  have e0 : hcell (h3.push (timO i (vl s (2 + 2 * i)))) ⟨h3.size, 0, none⟩ = some (.int .i64 i) := hcell_of (get_push_new _ _) rfl
  have e1 : hcell (h3.push (timO i (vl s (2 + 2 * i)))) ⟨h3.size, 1, none⟩ = some (.int .i64 (vl s (2 + 2 * i))) := hcell_of (get_push_new _ _) rfl
  (repeat (first | refine ER.move rfl rfl rfl ?_ | refine ER.extract rfl rfl rfl rfl ?_ | refine ER.allocA rfl rfl ?_))
  refine ER.storeT2 (get_push_new h3 (timO 0 0)) rfl rfl rfl rfl (by simp [OneCell]) (by simp [OneCell]) (fun _ x => x) ?_
  rw [push_set]
  change ER _ _ _ _ _ _ _ _ _ _ (h3.push (timO i (vl s (2 + 2 * i)))) _ _
  generalize h3.push (timO i (vl s (2 + 2 * i))) = h4 at *
  (repeat (first | refine EK.seq ?_ | refine EK.region ?_ | refine ER.done ?_ | refine EK.skip ?_ | refine ER.move rfl rfl rfl ?_ | refine ER.assign rfl rfl rfl ?_ | refine ER.notB rfl rfl rfl ?_ | refine ER.pickF rfl rfl rfl rfl ?_ | refine ER.cmpF rfl rfl rfl rfl rfl (by first | (dsimp only [cmpP]; omega) | exact rfl | exact Int.le_refl _) ?_ | refine EK.condF rfl ?_))
  refine EK.regionAny (fun h' => h' = h4) ?_
  have hZ : h4 = h4 := rfl
  refine EA.tMove 0 rfl (by kernel_rfl) rfl rfl rfl rfl hZ ?_
  refine EA.tField 1 rfl (by kernel_rfl) rfl rfl rfl rfl hZ ?_
  refine EA.tLoad 2 rfl (by kernel_rfl) rfl rfl rfl rfl (fun _ hz => hz ▸ e0) hZ ?_
  refine EA.tNil 3 rfl (by kernel_rfl) rfl rfl rfl rfl hZ ?_
  refine EA.tField 4 rfl (by kernel_rfl) rfl rfl rfl rfl hZ ?_
  refine EA.tIdxA 5 rfl (by kernel_rfl) rfl rfl rfl rfl rfl (by omega) (by omega) hZ ?_
  refine EA.tAssign 6 rfl (by kernel_rfl) rfl rfl rfl rfl hZ ?_
  refine EA.done (by kernel_rfl) ?_
  (repeat refine EK.seq ?_)
  refine EK.regionAny (fun h' => hcell h' ⟨h3.size, 1, none⟩ = some (.int .i64 (vl s (2 + 2 * i))) /\ hcell h' ⟨c, 2 + i * 3, none⟩ = some (.pointer (some ⟨B (2 + 2 * i), 0, none⟩))) ?_
  have hZ := And.intro e1 (k4.pst i hi16)
  refine EA.tMove 0 rfl (by kernel_rfl) rfl rfl rfl rfl hZ ?_
  refine EA.tNil 1 rfl (by kernel_rfl) rfl rfl rfl rfl hZ ?_
  refine EA.tField 2 rfl (by kernel_rfl) rfl rfl rfl rfl hZ ?_
  refine EA.tLoad 3 rfl (by kernel_rfl) rfl rfl rfl rfl (fun _ hz => hz.2) hZ ?_
  refine EA.tMove 4 rfl (by kernel_rfl) rfl rfl rfl rfl hZ ?_
  refine EA.tField 5 rfl (by kernel_rfl) rfl rfl rfl rfl hZ ?_
  refine EA.tLoad 6 rfl (by kernel_rfl) rfl rfl rfl rfl (fun _ hz => hz.1) hZ ?_
  refine EA.tField 7 rfl (by kernel_rfl) rfl rfl rfl rfl hZ ?_
  refine EA.tLoad 8 rfl (by kernel_rfl) rfl rfl rfl rfl (fun _ hz => hz.1) hZ ?_
  refine EA.tAdd (kd := .i64) 9 rfl (by kernel_rfl) rfl rfl rfl rfl rfl (i64_in (by omega) (by omega)) hZ ?_
  refine EA.tSub (kd := .i64) 10 rfl (by kernel_rfl) rfl rfl rfl rfl rfl (i64_in (by omega) (by omega)) hZ ?_
  have ev1 : vl s (2 + 2 * i) + 3 - 2 = vl s (2 + 2 * i) + 1 := by omega
  rw [ev1]
  have k5 := k4.set (j := 2 + 2 * i) (by omega) (vl s (2 + 2 * i) + 1)
  refine EA.callD 11 rfl (by kernel_rfl) rfl rfl rfl rfl rfl rfl (ccas_yes (k4.cell (2 + 2 * i) (by omega)) (fun _ x => x)) ⟨?_, k5.pst i hi16⟩ ?_
  · rw [hcell_set_ne _ hlt]; exact e1
  have hZ : hcell (h4.setIfInBounds (B (2 + 2 * i)) (cellO (vl s (2 + 2 * i) + 1))) ⟨h3.size, 1, none⟩ = some (.int .i64 (vl s (2 + 2 * i))) /\ hcell (h4.setIfInBounds (B (2 + 2 * i)) (cellO (vl s (2 + 2 * i) + 1))) ⟨c, 2 + i * 3, none⟩ = some (.pointer (some ⟨B (2 + 2 * i), 0, none⟩)) := ⟨by rw [hcell_set_ne _ hlt]; exact e1, k5.pst i hi16⟩
  refine EA.tNot 12 rfl (by kernel_rfl) rfl rfl rfl rfl hZ ?_
  refine EA.done (by kernel_rfl) ?_
  (repeat (first | refine EK.seq ?_ | refine EK.region ?_ | refine EK.skip ?_ | refine ER.move rfl rfl rfl ?_ | refine ER.nilCheck rfl rfl rfl ?_ | refine ER.fieldAddr rfl rfl rfl ?_ | refine EK.condF rfl ?_))
  have hpf := k5.pf i hi16
  rw [hfn] at hpf
  refine ER.load1 rfl rfl rfl hpf ?_
  (repeat refine ER.move rfl rfl rfl ?_)
  haveI := hg
  refine ER.callR rfl rfl rfl rfl rfl hcall ?_
  rintro _ h5 _ ⟨rfl, u5, ⟨_, _, k6⟩, s', hI'⟩
  have e2 := u5.hcell e1 (by dsimp only; omega)
  (repeat (first | refine EK.seq ?_ | refine ER.done ?_))
  refine EK.regionAny (fun h' => hcell h' ⟨h3.size, 1, none⟩ = some (.int .i64 (vl s (2 + 2 * i))) /\ hcell h' ⟨c, 2 + i * 3, none⟩ = some (.pointer (some ⟨B (2 + 2 * i), 0, none⟩))) ?_
  have hZ := And.intro e2 (k6.pst i hi16)
  refine EA.tMove 0 rfl (by kernel_rfl) rfl rfl rfl rfl hZ ?_
  refine EA.tNil 1 rfl (by kernel_rfl) rfl rfl rfl rfl hZ ?_
  refine EA.tField 2 rfl (by kernel_rfl) rfl rfl rfl rfl hZ ?_
  refine EA.tLoad 3 rfl (by kernel_rfl) rfl rfl rfl rfl (fun _ hz => hz.2) hZ ?_
  refine EA.tMove 4 rfl (by kernel_rfl) rfl rfl rfl rfl hZ ?_
  refine EA.tField 5 rfl (by kernel_rfl) rfl rfl rfl rfl hZ ?_
  refine EA.tLoad 6 rfl (by kernel_rfl) rfl rfl rfl rfl (fun _ hz => hz.1) hZ ?_
  refine EA.tAdd (kd := .i64) 7 rfl (by kernel_rfl) rfl rfl rfl rfl rfl (i64_in (by omega) (by omega)) hZ ?_
  refine EA.tSub (kd := .i64) 8 rfl (by kernel_rfl) rfl rfl rfl rfl rfl (i64_in (by omega) (by omega)) hZ ?_
  have ev2 : vl s (2 + 2 * i) + 4 - 2 = vl s (2 + 2 * i) + 2 := by omega
  rw [ev2]
  have k7 := k6.set (j := 2 + 2 * i) (by omega) (vl s (2 + 2 * i) + 2)
  refine EA.callD 9 rfl (by kernel_rfl) rfl rfl rfl rfl rfl rfl (cstore (k6.cell (2 + 2 * i) (by omega)) (fun _ x => x)) ⟨?_, k7.pst i hi16⟩ ?_
  · rw [hcell_set_ne _ hlt]; exact e2
  refine EA.done (by kernel_rfl) ?_
  (repeat (first | refine EK.region ?_ | refine ER.done ?_ | refine EK.inBlock ?_ | refine ER.move rfl rfl rfl ?_ | refine ER.assign rfl rfl rfl ?_ | refine ER.add (kd := .i64) rfl rfl rfl rfl (i64_in (by omega) (by omega)) ?_))
  exact EK.back (again (s', r + 1) _ _ (by dsimp only; omega) ⟨hI', rfl, by dsimp only; omega⟩) ⟨rfl, rfl, rfl, rfl, trivial⟩
end
end
section
open Go Go.TJ Go.Proofs
variable [Dm]
section
variable {Γ : Type} {main : Bool} {h : Hp} {δ : Ix Γ} {c : Nat} {B : Nat -> Nat} {vals : Nat -> Int} {fns : Nat -> Value}
theorem Clk.congr {h : Hp} {c : Nat} {B : Nat -> Nat} {vals vals' : Nat -> Int} {fns fns' : Nat -> Value} (k : Clk h c B vals fns) (hv : ∀ j, j < 34 -> vals j = vals' j) (hf : ∀ i, i < 16 -> fns i = fns' i) : Clk h c B vals' fns' :=
  ⟨k.obj, k.pnow, k.pbusy, k.pst, k.pdu, fun i hi => hf i hi ▸ k.pf i hi, fun j hj => hv j hj ▸ k.cell j hj, k.inj, k.cne⟩
theorem lk_one {vals : Nat -> Int} {m : Int} {i : Nat} : ∀ {n : Nat}, i < n -> (vals (2 + 2 * i)).tmod 4 = 2 -> vals (3 + 2 * i) <= m -> (∀ q, q < n -> q ≠ i -> (vals (2 + 2 * q)).tmod 4 ≠ 2) -> lk vals m n = some i
  | 0, h, _, _, _ => by omega
  | n + 1, h, h2, hd, ho => by
    unfold lk
    by_cases e : i = n
    · subst e
      have hn : ∀ k, k <= i -> lk vals m k = none := by
        intro k
        induction k with
        | zero => intro _; rfl
        | succ k ih => intro hk; unfold lk; rw [if_neg (fun x => ho k (by omega) (by omega) x.1)]; exact ih (by omega)
      rw [if_pos ⟨h2, hd, fun b hb => by rw [hn i (Nat.le_refl _)] at hb; cases hb⟩]
    · rw [if_neg (fun x => ho n (by omega) (fun y => e y.symm) x.1)]
      exact lk_one (by omega) h2 hd (fun q hq => ho q (by omega))
theorem lk_none {vals : Nat -> Int} {m : Int} : ∀ {n : Nat}, (∀ q, q < n -> (vals (2 + 2 * q)).tmod 4 ≠ 2 \/ m < vals (3 + 2 * q)) -> lk vals m n = none
  | 0, _ => rfl
  | n + 1, ho => by
    unfold lk
    rw [if_neg (fun x => by rcases ho n (by omega) with y | y; · exact y x.1
                            · exact absurd x.2.1 (by omega))]
    exact lk_none (fun q hq => ho q (by omega))
abbrev intO (x : Int) : Obj := oneO (.int .i64 x) 3
theorem wring {p : Nat} {x : Int} {t : Value} (hb : h[p]? = some (intO x)) (h0 : 0 <= x) (h1 : x <= 1000) : CallW Try.prog main NoS 30 #[t, .pointer (some ⟨p, 0, none⟩)] h δ (Ret (Det (.tuple #[]) (h.setIfInBounds p (intO (x + 1))) δ)) := by
  have e := hset_one (v := .int .i64 (x + 1)) hb
  refine CallW.start (n := 5) rfl rfl ?_
  (repeat (first | refine EK.region ?_ | refine ER.load1 rfl rfl rfl (hcell_of (by assumption) rfl) ?_ | refine ER.add (kd := .i64) rfl rfl rfl rfl (i64_in (by omega) (by omega)) ?_))
  refine ER.store1 rfl rfl rfl (by simp [OneCell]) ⟨_, hcell_of hb rfl⟩ (hfroz_of hb) (fun x => x) ?_
  rw [e]
  (repeat refine ER.done ?_)
  refine EK.done ?_
  exact EU.ret0 rfl det
def wv : Bool -> Nat -> Int
  | b => fun j => if j = 0 then 9 else if j = 1 then 1 else if j = 2 then 4 else if j = 3 then 5 else if j = 4 then (if b then 4 else 2) else if j = 5 then 3 else 0
def wf (p : Nat) : Nat -> Value := fun i => if i = 0 \/ i = 1 then .func (.func 30) #[] #[.pointer (some ⟨p, 0, none⟩)] else .nilFunc
def wI (h0 : Hp) (c : Nat) (B : Nat -> Nat) (base p : Nat) (b : Bool) (r : Nat) (h : Hp) : Prop :=
  r = (if b then 1 else 0) /\ Clk h c B (wv b) (wf p) /\ h[p]? = some (intO (if b then 1 else 0)) /\ base <= h.size /\ Upd (fun _ => False) h0 h
theorem wv_lk : lk (wv false) 9 16 = some 1 /\ lk (wv true) 9 16 = none := by
  constructor
  · refine lk_one (by omega) rfl (by decide) (fun q hq hne => ?_)
    have : q = 0 \/ 2 <= q := by omega
    rcases this with rfl | x
    · decide
    · unfold wv; simp; repeat (rw [if_neg (by omega)])
      decide
  · refine lk_none (fun q hq => .inl ?_)
    have : q = 0 \/ q = 1 \/ 2 <= q := by omega
    rcases this with rfl | rfl | x
    · decide
    · decide
    · unfold wv; simp; repeat (rw [if_neg (by omega)])
      decide
theorem wacc {h0 : Hp} {base p : Nat} (own : ∀ b, Own c B b -> b < base) (hp : p < base) (hpn : ¬ Own c B p) (ho : ∀ b, Own c B b \/ b = p -> h0.size <= b) : Acc main δ c B base 9 wv (fun _ => wf p) (wI h0 c B base p) := by
  refine ⟨fun s r h hi => ⟨hi.2.1, hi.2.2.2.1⟩, fun s r h h' hi u => ⟨hi.1, hi.2.1.upd u (fun _ x => x.elim), u.get hi.2.2.1 (fun x => x), Nat.le_trans hi.2.2.2.1 u.size, hi.2.2.2.2.trans u⟩, own, fun s r h₀ h i hi uu hr hl => ?_⟩
  have hz0 := hi.2.2.2.1
  obtain ⟨h1, k, hg, hz, hf⟩ : wI h0 c B base p s r h := ⟨hi.1, hi.2.1.upd uu (fun _ x => x.elim), uu.get hi.2.2.1 (fun x => x), Nat.le_trans hi.2.2.2.1 uu.size, hi.2.2.2.2.trans uu⟩
  have hs : s = false := by cases s; rfl; rw [wv_lk.2] at hl; cases hl
  subst hs
  rw [wv_lk.1] at hl
  cases hl
  have hlt : B (2 + 2 * 1) ≠ p := fun e => hpn (.inr ⟨_, by omega, e.symm⟩)
  have k1 := k.set (j := 2 + 2 * 1) (by omega) (wv false (2 + 2 * 1) + 1)
  have hg1 : (h.setIfInBounds (B (2 + 2 * 1)) (cellO (wv false (2 + 2 * 1) + 1)))[p]? = some (intO 0) := by rw [get_set_ne _ hlt]; exact hg
  refine ⟨by decide, by decide, _, _, rfl, inferInstance, (wring hg1 (by omega) (by omega)).mono ?_⟩
  rintro (v | p) h' δ' hq
  rotate_left
  · exact hq.elim
  obtain ⟨-, rfl, rfl⟩ := hq
  have u1 : Upd (fun b => b < base) h (h.setIfInBounds (B (2 + 2 * 1)) (cellO (wv false (2 + 2 * 1) + 1))) := Upd.set _ _ _ (own _ (.inr ⟨_, by omega, rfl⟩))
  have u2 := u1.trans (Upd.set (T := fun b => b < base) (h.setIfInBounds (B (2 + 2 * 1)) (cellO (wv false (2 + 2 * 1) + 1))) p (intO (0 + 1)) hp)
  have k2 := k1.upd (Upd.set (T := fun b => b = p) _ p (intO (0 + 1)) rfl) (fun b hb => hb ▸ hpn)
  refine ⟨rfl, u2.mono (fun b _ hb => Nat.lt_of_lt_of_le hb hz0), ⟨_, _, k2⟩, true, (by rw [show r = 0 from h1]; rfl), (k2.set (j := 2 + 2 * 1) (by omega) (wv false (2 + 2 * 1) + 2)).congr (fun j _ => ?_) (fun i _ => rfl), ?_, by simpa using hz, hf.over ((Upd.set (T := fun b => Own c B b \/ b = p) _ _ _ (.inl (.inr ⟨_, by omega, rfl⟩))).trans ((Upd.set _ _ _ (.inr rfl)).trans (Upd.set _ _ _ (.inl (.inr ⟨_, by omega, rfl⟩))))) ho⟩
  · unfold up wv
    by_cases e0 : j = 4
    · subst e0; rfl
    · simp [e0]
  · rw [get_set_ne _ hlt]; exact get_set_same hg1
set_option maxHeartbeats 2000000 in
theorem works_ok : CallW Try.prog main NoS 16 #[] h δ (Ret fun v h' δ' => v = .bool true /\ Upd (fun _ => False) h h' /\ δ' = δ) := by
  refine CallW.start (n := 66) rfl rfl ?_
  (repeat (first | refine EK.seq ?_ | refine EK.region ?_ | refine ER.done ?_ | refine ER.assign rfl rfl rfl ?_))
  refine ER.callR rfl rfl rfl rfl rfl new_ok ?_
  rintro _ h1 _ ⟨rfl, u1, rfl, k1, _⟩
  have hN : h.size + 35 <= h1.size := by have := lt_of_get (k1.cell 33 (by omega)); unfold newB at this; simp at this; omega
  generalize hB : newB h.size = B at k1
  have own : ∀ b, Own (h.size + 2) B b -> h.size <= b /\ b < h.size + 35 := fun b hb => by
    subst hB
    rcases hb with rfl | ⟨j, hj, rfl⟩
    · omega
    · unfold newB; split <;> omega
  generalize hc : h.size + 2 = c at *
  (repeat (first | refine EK.seq ?_ | refine EK.region ?_ | refine ER.done ?_ | refine ER.assign rfl rfl rfl ?_ | refine ER.alloc rfl rfl ?_))
  refine ER.storeNew rfl rfl rfl rfl (by simp [OneCell]) (fun x => x) ?_
  have u2 : Upd (fun _ => False) h1 (h1.push (intO 0)) := Upd.push _ _
  have k2 := k1.upd u2 (fun _ x => x.elim)
  have g2 : (h1.push (intO 0))[h1.size]? = some (intO 0) := get_push_new _ _
  generalize hp : h1.size = p at *
  change ER _ _ _ _ _ _ _ _ _ _ (h1.push (intO 0)) _ _
  have hz2 : (h1.push (intO 0)).size = p + 1 := by simp [hp]
  generalize h1.push (intO 0) = h2 at *
  have hpn : ¬ Own c B p := fun x => by have := own _ x; omega
  (repeat (first | refine EK.seq ?_ | refine EK.region ?_ | refine ER.done ?_))
  refine ER.makeF rfl rfl rfl rfl rfl rfl ?_
  (repeat (first | refine EK.seq ?_ | refine EK.region ?_ | refine ER.done ?_ | refine ER.move rfl rfl rfl ?_ | refine ER.assign rfl rfl rfl ?_))
  refine ER.callR rfl rfl rfl rfl rfl (set_ok (i := 0) k2 (by omega) (by omega) (by omega) (fun q hq => by omega) rfl (by omega) (by omega)) ?_
  rintro _ h3 _ ⟨rfl, u3, rfl, k3⟩
  have g3 := u3.get g2 hpn
  (repeat (first | refine ER.move rfl rfl rfl ?_ | refine ER.extract rfl rfl rfl rfl ?_ | refine ER.allocA rfl rfl ?_))
  refine ER.storeNew2 rfl rfl rfl rfl (by simp [OneCell]) (by simp [OneCell]) (fun _ x => x) ?_
  have u4 : Upd (fun _ => False) h3 (h3.push (timO 0 2)) := Upd.push _ _
  have k4 := k3.upd u4 (fun _ x => x.elim)
  have g4 := u4.get g3 (fun x => x)
  have t4 : (h3.push (timO 0 2))[h3.size]? = some (timO 0 2) := get_push_new _ _
  change ER _ _ _ _ _ _ _ _ _ _ (h3.push (timO 0 2)) _ _
  have hz3 : p + 1 <= h3.size := hz2 ▸ u3.size
  generalize hq : h3.size = q at *
  have hz4 : (h3.push (timO 0 2)).size = q + 1 := by simp [hq]
  generalize h3.push (timO 0 2) = h4 at *
  have hqn : ¬ Own c B q := fun x => by have := own _ x; omega
  (repeat (first | refine EK.seq ?_ | refine EK.region ?_ | refine ER.done ?_ | refine ER.move rfl rfl rfl ?_ | refine ER.assign rfl rfl rfl ?_))
  refine ER.callR rfl rfl rfl rfl rfl (set_ok (i := 1) k4 (by omega) (by omega) (by omega) (fun q hq => by have : q = 0 := by omega
                                                                                                           subst this; decide) rfl (by decide) (by decide)) ?_
  rintro _ h5 _ ⟨rfl, u5, rfl, k5⟩
  have g5 := u5.get g4 hpn
  have t5 := u5.get t4 hqn
  (repeat (first | refine ER.move rfl rfl rfl ?_ | refine ER.extract rfl rfl rfl rfl ?_ | refine ER.allocA rfl rfl ?_))
  refine ER.storeNew2 rfl rfl rfl rfl (by simp [OneCell]) (by simp [OneCell]) (fun _ x => x) ?_
  have u6 : Upd (fun _ => False) h5 (h5.push (timO 1 2)) := Upd.push _ _
  have k6 := k5.upd u6 (fun _ x => x.elim)
  have g6 := u6.get g5 (fun x => x)
  have t6 := u6.get t5 (fun x => x)
  have s6 : (h5.push (timO 1 2))[h5.size]? = some (timO 1 2) := get_push_new _ _
  change ER _ _ _ _ _ _ _ _ _ _ (h5.push (timO 1 2)) _ _
  have hz5 : q + 1 <= h5.size := hz4 ▸ u5.size
  generalize hr : h5.size = r at *
  have hz6 : (h5.push (timO 1 2)).size = r + 1 := by simp [hr]
  generalize h5.push (timO 1 2) = h6 at *
  have hrn : ¬ Own c B r := fun x => by have := own _ x; omega
  (repeat (first | refine EK.seq ?_ | refine EK.region ?_ | refine ER.done ?_ | refine ER.move rfl rfl rfl ?_ | refine ER.assign rfl rfl rfl ?_))
  refine ER.loadN (vs := [.int .i64 0, .int .i64 2]) rfl rfl rfl rfl (hrow2 t6) ?_
  refine ER.callR rfl rfl rfl rfl rfl (stop_yes (s := 0) k6 (by omega) (by decide) (by decide)) ?_
  rintro _ h7 _ ⟨rfl, ⟨hv, -, -⟩ | ⟨-, rfl, u7, k7⟩⟩
  · exact absurd rfl hv
  have k7 := k7 (by decide)
  have g7 := u7.get g6 hpn
  have t7 := u7.get t6 hqn
  have s7 := u7.get s6 hrn
  (repeat (first | refine ER.move rfl rfl rfl ?_ | refine ER.notB rfl rfl rfl ?_))
  refine ER.loadN (vs := [.int .i64 0, .int .i64 2]) rfl rfl rfl rfl (hrow2 t7) ?_
  refine ER.callR rfl rfl rfl rfl rfl (stop_yes (s := 0) k7 (by omega) (by decide) (by decide)) ?_
  rintro _ h8 δ' ⟨hδ, hh⟩
  subst hδ
  obtain ⟨-, rfl, u8⟩ := hh.resolve_right (fun x => absurd x.1 (by decide))
  have k8 := k7.upd u8 (fun _ x => x.elim)
  have g8 := u8.get g7 (fun x => x)
  have s8 := u8.get s7 (fun x => x)
  (repeat (first | refine ER.move rfl rfl rfl ?_ | refine ER.pickF rfl rfl rfl rfl ?_ | refine ER.cmpF rfl rfl rfl rfl rfl (by first | (dsimp only [cmpP]; omega) | exact rfl | exact Int.le_refl _) ?_))
  refine ER.loadN (vs := [.int .i64 1, .int .i64 2]) rfl rfl rfl rfl (hrow2 s8) ?_
  refine ER.buildS (cells := #[.int .i64 1, .int .i64 2]) rfl rfl rfl rfl ?_
  (repeat (first | refine EK.seq ?_ | refine EK.region ?_ | refine ER.done ?_ | refine EK.skip ?_ | refine ER.move rfl rfl rfl ?_ | refine ER.neqA rfl rfl rfl rfl rfl ?_ | refine ER.pickF rfl rfl rfl rfl ?_ | refine EK.condF rfl ?_))
  have hz8 : r < h8.size := lt_of_get s8
  have hbs : ∀ b, Own c B b -> b < h8.size := fun b hb => by have := own _ hb; omega
  have kc : Clk h8 c B (fun j => if j < 2 then 0 else wv false j) (wf p) := k8.congr (fun j _ => by
      unfold up wv
      by_cases e0 : j = 0; · subst e0; rfl
      by_cases e1 : j = 1; · subst e1; rfl
      by_cases e2 : j = 2; · subst e2; rfl
      by_cases e3 : j = 3; · subst e3; rfl
      by_cases e4 : j = 4; · subst e4; rfl
      by_cases e5 : j = 5; · subst e5; rfl
      simp [e0, e1, e2, e3, e4, e5]) (fun i _ => by
      unfold up wf
      by_cases e0 : i = 0; · subst e0; rfl
      by_cases e1 : i = 1; · subst e1; rfl
      simp [e0, e1])
  have ho : ∀ b, Own c B b \/ b = p -> h.size <= b := fun b hb => by
    rcases hb with x | x
    · exact (own _ x).1
    · omega
  have w1 : Upd (fun _ => False) h h3 := (u1.trans u2).over u3 (fun b hb => (own _ hb).1)
  have w2 : Upd (fun _ => False) h h5 := (w1.trans u4).over u5 (fun b hb => (own _ hb).1)
  have w3 : Upd (fun _ => False) h h8 := ((w2.trans u6).over u7 (fun b hb => (own _ hb).1)).trans u8
  have hadv := adv_ok (main := main) (δ := δ') (d := 9) (m := 9) (s0 := false) (vl := wv) (fn := fun _ => wf p) (Inv := wI h c B h8.size p) kc rfl (by omega) (by decide) (by decide) rfl (wacc (h0 := h) (base := h8.size) (p := p) hbs (by omega) hpn ho) (by
    refine ⟨rfl, ((kc.set (j := 1) (by omega) 1).set (j := 0) (by omega) 9).congr (fun j _ => ?_) (fun i _ => rfl), ?_, by simp, w3.over ((Upd.set (T := Own c B) _ _ _ (.inr ⟨_, by omega, rfl⟩)).trans (Upd.set _ _ _ (.inr ⟨_, by omega, rfl⟩))) (fun b hb => (own _ hb).1)⟩
    · unfold up wv
      by_cases e0 : j = 0; · subst e0; rfl
      by_cases e1 : j = 1; · subst e1; rfl
      simp [e0, e1]; intro; omega
    · rw [get_set_ne _ (fun x => hpn (.inr ⟨0, by omega, x.symm⟩)), get_set_ne _ (fun x => hpn (.inr ⟨1, by omega, x.symm⟩))]; exact g8)
  refine ER.callR rfl rfl rfl rfl rfl hadv ?_
  rintro _ h9 _ ⟨rfl, s, r', h10, hr64, ⟨hrs, k10, g10, hz10, w10⟩, hlk, rfl, rfl⟩
  have hs : s = true := by
    cases s
    · rcases hlk with x | x
      · rw [wv_lk.1] at x; cases x
      · simp at hrs; omega
    · rfl
  subst hs
  have hr1 : r' = 1 := hrs
  subst hr1
  have g11 : (h10.setIfInBounds (B 1) (cellO 0))[p]? = some (intO 1) := by rw [get_set_ne _ (fun x => hpn (.inr ⟨1, by omega, x.symm⟩))]; exact g10
  have k11 := k10.set (j := 1) (by omega) 0
  (repeat (first | refine EK.seq ?_ | refine EK.region ?_ | refine ER.done ?_ | refine ER.move rfl rfl rfl ?_ | refine ER.assign rfl rfl rfl ?_ | refine ER.load1 rfl rfl rfl (hcell_of (by assumption) rfl) ?_ | refine ER.pickT rfl rfl rfl rfl ?_ | refine ER.extract rfl rfl rfl rfl ?_ | refine ER.cmpT rfl rfl rfl rfl rfl (by first | (dsimp only [cmpP]; omega) | exact rfl | exact Int.le_refl _) ?_))
  refine ER.callD rfl rfl rfl rfl rfl (now_ok k11) ?_
  (repeat (first | refine ER.done ?_ | refine ER.assign rfl rfl rfl ?_ | refine ER.pickT rfl rfl rfl rfl ?_ | refine ER.cmpT rfl rfl rfl rfl rfl (by first | (dsimp only [cmpP]; omega) | exact rfl | exact Int.le_refl _) ?_ | refine EK.ret ?_))
  exact EU.ret1 rfl rfl ⟨rfl, w10.over (Upd.set (T := Own c B) _ _ _ (.inr ⟨1, by omega, rfl⟩)) (fun b hb => (own _ hb).1), rfl⟩
end
end
end Go.Proofs.Ytndllibjlfpndaa
