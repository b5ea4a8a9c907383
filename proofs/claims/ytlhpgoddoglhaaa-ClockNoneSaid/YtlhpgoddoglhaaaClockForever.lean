/- Package clock, called with no thread: the law's part forever: a timer that sets itself anew. No condition. -/
import Derived.Test.YtlhpgoddoglhaaaClockWorks
namespace Go.Proofs.Ytlhpgoddoglhaaa
open Go Go.TJ Go.Proofs
section
variable {main : Bool} {h : Hp} {δ : Nat} {c : Nat} {B : Nat → Nat}

/-- The clock of forever when R have rung: of the slots 0 and 1 one is set, the other one is free. -/
def fv (m b : Int) (R : Nat) : Nat → Int := fun j => if j = 0 then m else if j = 1 then b else if j = 2 then (if R % 2 = 0 then ((4 * (R / 2) + 2 : Nat) : Int) else ((4 * ((R + 1) / 2) : Nat) : Int)) else if j = 4 then (if R % 2 = 0 then ((4 * (R / 2) : Nat) : Int) else ((4 * (R / 2) + 2 : Nat) : Int)) else 0
def ff (cl : Value) (R : Nat) : Nat → Value := fun i => if i = 0 ∨ (i = 1 ∧ 1 ≤ R) then cl else .nilFunc

theorem ff_pos {cl : Value} {R i : Nat} (h : i = 0 ∨ (i = 1 ∧ 1 ≤ R)) : ff cl R i = cl := if_pos h
theorem ff_neg {cl : Value} {R i : Nat} (h : ¬ (i = 0 ∨ (i = 1 ∧ 1 ≤ R))) : ff cl R i = .nilFunc := if_neg h

theorem tmod4 {x : Nat} : ((x : Int).tmod 4) = ((x % 4 : Nat) : Int) := by
  rw [Int.tmod_eq_emod_of_nonneg (by omega)]; omega

theorem fv_lk {m b : Int} {R : Nat} (hm : 0 ≤ m) : lk (fv m b R) m 16 = some (R % 2) := by
  rcases Nat.mod_two_eq_zero_or_one R with e | e
  · rw [e]
    refine lk_one (by omega) ?_ ?_ (fun q hq hne => ?_)
    · unfold fv; simp [e]; rw [show (4 * ((R : Int) / 2) + 2) = ((4 * (R / 2) + 2 : Nat) : Int) by omega, tmod4]; omega
    · unfold fv; simp [hm]
    · unfold fv
      by_cases e1 : q = 1
      · subst e1; simp [e]
      · rw [if_neg (by omega), if_neg (by omega), if_neg (by omega), if_neg (by omega)]; decide
  · rw [e]
    refine lk_one (by omega) ?_ ?_ (fun q hq hne => ?_)
    · unfold fv; simp [e]; rw [show (4 * ((R : Int) / 2) + 2) = ((4 * (R / 2) + 2 : Nat) : Int) by omega, tmod4]; omega
    · unfold fv; simp [hm]
    · unfold fv
      by_cases e1 : q = 0
      · subst e1; simp [e]
      · rw [if_neg (by omega), if_neg (by omega), if_neg (by omega), if_neg (by omega)]; decide

/-- The variables that forever's function sees. -/
structure Cap (h : Hp) (c p1 p2 p3 p4 : Nat) (cl : Value) (x y : Int) : Prop where
  a1 : h[p1]? = some (oneO (.pointer (some ⟨c, 0, none⟩)) 22)
  a2 : h[p2]? = some (intO y)
  a3 : h[p3]? = some (intO x)
  a4 : h[p4]? = some (oneO cl 24)
  lt : p1 < p2 ∧ p2 < p3 ∧ p3 < p4

theorem Cap.upd {h h' : Hp} {c p1 p2 p3 p4 : Nat} {cl : Value} {x y : Int} (k : Cap h c p1 p2 p3 p4 cl x y) {T : Nat → Prop} (u : Upd T h h') (hT : ∀ b, p1 ≤ b → b ≤ p4 → ¬ T b) : Cap h' c p1 p2 p3 p4 cl x y := by
  have := k.lt
  exact ⟨u.get k.a1 (hT _ (by omega) (by omega)), u.get k.a2 (hT _ (by omega) (by omega)), u.get k.a3 (hT _ (by omega) (by omega)), u.get k.a4 (hT _ (by omega) (by omega)), k.lt⟩
theorem Cap.setX {h : Hp} {c p1 p2 p3 p4 : Nat} {cl : Value} {x y : Int} (k : Cap h c p1 p2 p3 p4 cl x y) (z : Int) : Cap (h.setIfInBounds p3 (intO z)) c p1 p2 p3 p4 cl z y := by
  have := k.lt
  exact ⟨by rw [get_set_ne _ (by omega)]; exact k.a1, by rw [get_set_ne _ (by omega)]; exact k.a2, get_set_same k.a3, by rw [get_set_ne _ (by omega)]; exact k.a4, k.lt⟩
theorem Cap.setY {h : Hp} {c p1 p2 p3 p4 : Nat} {cl : Value} {x y : Int} (k : Cap h c p1 p2 p3 p4 cl x y) (z : Int) : Cap (h.setIfInBounds p2 (intO z)) c p1 p2 p3 p4 cl x z := by
  have := k.lt
  exact ⟨by rw [get_set_ne _ (by omega)]; exact k.a1, get_set_same k.a2, by rw [get_set_ne _ (by omega)]; exact k.a3, by rw [get_set_ne _ (by omega)]; exact k.a4, k.lt⟩

abbrev fcl (p1 p2 p3 p4 : Nat) : Value := .func (.func 26) #[] #[.pointer (some ⟨p3, 0, none⟩), .pointer (some ⟨p1, 0, none⟩), .pointer (some ⟨p4, 0, none⟩), .pointer (some ⟨p2, 0, none⟩)]

/-- The clock while forever's function runs, before it has set the other slot, and after. -/
def fr (m b : Int) (R : Nat) : Nat → Int := up (fv m b R) (2 + 2 * (R % 2)) (fv m b R (2 + 2 * (R % 2)) + 1)
def fs (m b : Int) (R : Nat) : Nat → Int := up (fr m b R) (2 + 2 * (1 - R % 2)) (fv m b R (2 + 2 * (1 - R % 2)) + 2)

theorem fv_cur {m b : Int} {R : Nat} : fv m b R (2 + 2 * (R % 2)) = ((4 * (R / 2) + 2 : Nat) : Int) := by
  rcases Nat.mod_two_eq_zero_or_one R with e | e <;> rw [e] <;> unfold fv <;> simp [e]
theorem fv_oth {m b : Int} {R : Nat} : fv m b R (2 + 2 * (1 - R % 2)) = ((4 * ((R + 1) / 2) : Nat) : Int) := by
  rcases Nat.mod_two_eq_zero_or_one R with e | e <;> rw [e] <;> unfold fv <;> simp [e] <;> omega
theorem fr_oth {m b : Int} {R : Nat} : fr m b R (2 + 2 * (1 - R % 2)) = ((4 * ((R + 1) / 2) : Nat) : Int) := by
  unfold fr; rw [up_ne _ _ (by omega)]; exact fv_oth
theorem fr_cur {m b : Int} {R : Nat} : fr m b R (2 + 2 * (R % 2)) = ((4 * (R / 2) + 3 : Nat) : Int) := by
  unfold fr; rw [up_same, fv_cur]; omega

theorem fring {p1 p2 p3 p4 : Nat} {m : Int} {R : Nat} {t : Value} (hR : R ≤ 200) (k : Clk h c B (fr m 1 R) (ff (fcl p1 p2 p3 p4) R)) (hcap : Cap h c p1 p2 p3 p4 (fcl p1 p2 p3 p4) R R) (hpn : ∀ b, p1 ≤ b → b ≤ p4 → ¬ Own c B b) :
    CallW Try.prog main NoS 26 #[t, .pointer (some ⟨p3, 0, none⟩), .pointer (some ⟨p1, 0, none⟩), .pointer (some ⟨p4, 0, none⟩), .pointer (some ⟨p2, 0, none⟩)] h δ
      (Ret fun _ h' δ' => δ' = δ ∧ Upd (fun b => Own c B b ∨ b = p2 ∨ b = p3) h h' ∧ Clk h' c B (fs m 1 R) (ff (fcl p1 p2 p3 p4) (R + 1)) ∧ Cap h' c p1 p2 p3 p4 (fcl p1 p2 p3 p4) ((R + 1 : Nat) : Int) ((R + 1 : Nat) : Int)) := by
  have hlt := hcap.lt
  have n3 : ∀ b, Own c B b → b ≠ p3 := fun b hb e => hpn b (by omega) (by omega) hb
  have n2 : ∀ b, Own c B b → b ≠ p2 := fun b hb e => hpn b (by omega) (by omega) hb
  refine CallW.start (n := 24) rfl rfl ?_
  (repeat (first | refine EK.seq ?_ | refine EK.region ?_ | refine ER.done ?_ | refine EK.skip ?_ | refine EK.block ?_ | refine EK.inBlock ?_ | refine ER.move rfl rfl rfl ?_ | refine ER.assign rfl rfl rfl ?_ | refine ER.nilCheck rfl rfl rfl ?_ | refine ER.fieldAddr rfl rfl rfl ?_ | refine ER.load1 rfl rfl rfl (hcell_of (by assumption) rfl) ?_ | refine ER.no rfl rfl ?_ | refine ER.noU rfl ?_ | refine ER.eqV rfl rfl rfl rfl rfl ?_ | refine ER.neqV rfl rfl rfl rfl rfl ?_ | refine ER.eqA rfl rfl rfl rfl rfl ?_ | refine ER.neqA rfl rfl rfl rfl rfl ?_ | refine ER.notB rfl rfl rfl ?_ | refine ER.pickT rfl rfl rfl rfl ?_ | refine ER.pickF rfl rfl rfl rfl ?_ | refine ER.extract rfl rfl rfl rfl ?_ | refine ER.cmpT rfl rfl rfl rfl rfl (by first | (dsimp only [cmpP]; omega) | exact rfl | exact Int.le_refl _) ?_ | refine ER.cmpF rfl rfl rfl rfl rfl (by first | (dsimp only [cmpP]; omega) | exact rfl | exact Int.le_refl _) ?_ | refine ER.boxA rfl rfl rfl ?_ | refine ER.box rfl rfl rfl ?_ | refine ER.allocA rfl rfl ?_ | refine ER.alloc rfl rfl ?_ | refine ER.add (kd := .i64) rfl rfl rfl rfl (i64_in (by omega) (by omega)) ?_ | refine ER.sub' (kd := .i64) rfl rfl rfl rfl (i64_in (by omega) (by omega)) ?_ | refine ER.rem (kd := .i64) rfl rfl rfl rfl (by decide) rfl ?_ | refine ER.indexArr rfl rfl rfl rfl (by omega) (by omega) ?_ | refine EK.condT rfl ?_ | refine EK.condF rfl ?_ | refine EK.ret ?_ | refine EK.exit rfl ?_))
  refine ER.load1 rfl rfl rfl (hcell_of (off := 0) hcap.a3 rfl) ?_
  (repeat (first | refine EK.seq ?_ | refine EK.region ?_ | refine ER.done ?_ | refine EK.skip ?_ | refine EK.block ?_ | refine EK.inBlock ?_ | refine ER.move rfl rfl rfl ?_ | refine ER.assign rfl rfl rfl ?_ | refine ER.nilCheck rfl rfl rfl ?_ | refine ER.fieldAddr rfl rfl rfl ?_ | refine ER.load1 rfl rfl rfl (hcell_of (by assumption) rfl) ?_ | refine ER.no rfl rfl ?_ | refine ER.noU rfl ?_ | refine ER.eqV rfl rfl rfl rfl rfl ?_ | refine ER.neqV rfl rfl rfl rfl rfl ?_ | refine ER.eqA rfl rfl rfl rfl rfl ?_ | refine ER.neqA rfl rfl rfl rfl rfl ?_ | refine ER.notB rfl rfl rfl ?_ | refine ER.pickT rfl rfl rfl rfl ?_ | refine ER.pickF rfl rfl rfl rfl ?_ | refine ER.extract rfl rfl rfl rfl ?_ | refine ER.cmpT rfl rfl rfl rfl rfl (by first | (dsimp only [cmpP]; omega) | exact rfl | exact Int.le_refl _) ?_ | refine ER.cmpF rfl rfl rfl rfl rfl (by first | (dsimp only [cmpP]; omega) | exact rfl | exact Int.le_refl _) ?_ | refine ER.boxA rfl rfl rfl ?_ | refine ER.box rfl rfl rfl ?_ | refine ER.allocA rfl rfl ?_ | refine ER.alloc rfl rfl ?_ | refine ER.add (kd := .i64) rfl rfl rfl rfl (i64_in (by omega) (by omega)) ?_ | refine ER.sub' (kd := .i64) rfl rfl rfl rfl (i64_in (by omega) (by omega)) ?_ | refine ER.rem (kd := .i64) rfl rfl rfl rfl (by decide) rfl ?_ | refine ER.indexArr rfl rfl rfl rfl (by omega) (by omega) ?_ | refine EK.condT rfl ?_ | refine EK.condF rfl ?_ | refine EK.ret ?_ | refine EK.exit rfl ?_))
  refine ER.store1O hcap.a3 rfl rfl rfl (by simp [OneCell]) (fun x => x) ?_
  have hx : (R : Int) + 1 = ((R + 1 : Nat) : Int) := by omega
  rw [hx]
  have c1 := hcap.setX ((R + 1 : Nat) : Int)
  have v1 : Upd (fun b => b = p3) h (h.setIfInBounds p3 (intO ((R + 1 : Nat) : Int))) := Upd.set _ _ _ rfl
  have k1 := k.upd v1 (fun b hb x => n3 b x hb)
  (repeat (first | refine EK.seq ?_ | refine EK.region ?_ | refine ER.done ?_ | refine EK.skip ?_ | refine EK.block ?_ | refine EK.inBlock ?_ | refine ER.move rfl rfl rfl ?_ | refine ER.assign rfl rfl rfl ?_ | refine ER.nilCheck rfl rfl rfl ?_ | refine ER.fieldAddr rfl rfl rfl ?_ | refine ER.load1 rfl rfl rfl (hcell_of (by assumption) rfl) ?_ | refine ER.no rfl rfl ?_ | refine ER.noU rfl ?_ | refine ER.eqV rfl rfl rfl rfl rfl ?_ | refine ER.neqV rfl rfl rfl rfl rfl ?_ | refine ER.eqA rfl rfl rfl rfl rfl ?_ | refine ER.neqA rfl rfl rfl rfl rfl ?_ | refine ER.notB rfl rfl rfl ?_ | refine ER.pickT rfl rfl rfl rfl ?_ | refine ER.pickF rfl rfl rfl rfl ?_ | refine ER.extract rfl rfl rfl rfl ?_ | refine ER.cmpT rfl rfl rfl rfl rfl (by first | (dsimp only [cmpP]; omega) | exact rfl | exact Int.le_refl _) ?_ | refine ER.cmpF rfl rfl rfl rfl rfl (by first | (dsimp only [cmpP]; omega) | exact rfl | exact Int.le_refl _) ?_ | refine ER.boxA rfl rfl rfl ?_ | refine ER.box rfl rfl rfl ?_ | refine ER.allocA rfl rfl ?_ | refine ER.alloc rfl rfl ?_ | refine ER.add (kd := .i64) rfl rfl rfl rfl (i64_in (by omega) (by omega)) ?_ | refine ER.sub' (kd := .i64) rfl rfl rfl rfl (i64_in (by omega) (by omega)) ?_ | refine ER.rem (kd := .i64) rfl rfl rfl rfl (by decide) rfl ?_ | refine ER.indexArr rfl rfl rfl rfl (by omega) (by omega) ?_ | refine EK.condT rfl ?_ | refine EK.condF rfl ?_ | refine EK.ret ?_ | refine EK.exit rfl ?_))
  refine ER.load1 rfl rfl rfl (hcell_of (off := 0) c1.a3 rfl) ?_
  (repeat (first | refine EK.seq ?_ | refine EK.region ?_ | refine ER.done ?_ | refine EK.skip ?_ | refine EK.block ?_ | refine EK.inBlock ?_ | refine ER.move rfl rfl rfl ?_ | refine ER.assign rfl rfl rfl ?_ | refine ER.nilCheck rfl rfl rfl ?_ | refine ER.fieldAddr rfl rfl rfl ?_ | refine ER.load1 rfl rfl rfl (hcell_of (by assumption) rfl) ?_ | refine ER.no rfl rfl ?_ | refine ER.noU rfl ?_ | refine ER.eqV rfl rfl rfl rfl rfl ?_ | refine ER.neqV rfl rfl rfl rfl rfl ?_ | refine ER.eqA rfl rfl rfl rfl rfl ?_ | refine ER.neqA rfl rfl rfl rfl rfl ?_ | refine ER.notB rfl rfl rfl ?_ | refine ER.pickT rfl rfl rfl rfl ?_ | refine ER.pickF rfl rfl rfl rfl ?_ | refine ER.extract rfl rfl rfl rfl ?_ | refine ER.cmpT rfl rfl rfl rfl rfl (by first | (dsimp only [cmpP]; omega) | exact rfl | exact Int.le_refl _) ?_ | refine ER.cmpF rfl rfl rfl rfl rfl (by first | (dsimp only [cmpP]; omega) | exact rfl | exact Int.le_refl _) ?_ | refine ER.boxA rfl rfl rfl ?_ | refine ER.box rfl rfl rfl ?_ | refine ER.allocA rfl rfl ?_ | refine ER.alloc rfl rfl ?_ | refine ER.add (kd := .i64) rfl rfl rfl rfl (i64_in (by omega) (by omega)) ?_ | refine ER.sub' (kd := .i64) rfl rfl rfl rfl (i64_in (by omega) (by omega)) ?_ | refine ER.rem (kd := .i64) rfl rfl rfl rfl (by decide) rfl ?_ | refine ER.indexArr rfl rfl rfl rfl (by omega) (by omega) ?_ | refine EK.condT rfl ?_ | refine EK.condF rfl ?_ | refine EK.ret ?_ | refine EK.exit rfl ?_))
  refine ER.load1 rfl rfl rfl (hcell_of (off := 0) c1.a1 rfl) ?_
  refine ER.load1 rfl rfl rfl (hcell_of (off := 0) c1.a4 rfl) ?_
  refine ER.callR rfl rfl rfl rfl rfl (set_ok (i := 1 - R % 2) k1 (by omega) (by omega) (by omega) (fun q hq => ?_) (by rw [fr_oth, tmod4]; omega) (by rw [fr_oth]; omega) (by rw [fr_oth]; omega)) ?_
  · have e : q = R % 2 := by omega
    rw [e, fr_cur, tmod4]; omega
  rintro _ h2 _ ⟨rfl, u2, rfl, k2⟩
  have c2 := c1.upd u2 hpn
  have k2 : Clk h2 c B (fs m 1 R) (ff (fcl p1 p2 p3 p4) (R + 1)) := k2.congr (fun j _ => by
    unfold fs
    rw [fr_oth, fv_oth]
    by_cases e : j = 2 + 2 * (1 - R % 2)
    · rw [e, up_same, up_same]
    · rw [up_ne _ _ e, up_ne _ _ e]
      by_cases e' : j = 3 + 2 * (1 - R % 2)
      · subst e'
        rw [up_same]
        unfold fr
        rw [up_ne _ _ (by omega)]
        unfold fv
        rw [if_neg (by omega), if_neg (by omega), if_neg (by omega), if_neg (by omega)]
      · rw [up_ne _ _ e']) (fun i _ => by
    by_cases e : i = 1 - R % 2
    · rw [e, up_same, ff_pos (by omega)]
    · rw [up_ne _ _ e]
      by_cases e0 : i = 0 ∨ (i = 1 ∧ 1 ≤ R)
      · rw [ff_pos e0, ff_pos (by omega)]
      · rw [ff_neg e0, ff_neg (by omega)])
  (repeat (first | refine EK.seq ?_ | refine EK.region ?_ | refine ER.done ?_ | refine EK.skip ?_ | refine EK.block ?_ | refine EK.inBlock ?_ | refine ER.move rfl rfl rfl ?_ | refine ER.assign rfl rfl rfl ?_ | refine ER.nilCheck rfl rfl rfl ?_ | refine ER.fieldAddr rfl rfl rfl ?_ | refine ER.load1 rfl rfl rfl (hcell_of (by assumption) rfl) ?_ | refine ER.no rfl rfl ?_ | refine ER.noU rfl ?_ | refine ER.eqV rfl rfl rfl rfl rfl ?_ | refine ER.neqV rfl rfl rfl rfl rfl ?_ | refine ER.eqA rfl rfl rfl rfl rfl ?_ | refine ER.neqA rfl rfl rfl rfl rfl ?_ | refine ER.notB rfl rfl rfl ?_ | refine ER.pickT rfl rfl rfl rfl ?_ | refine ER.pickF rfl rfl rfl rfl ?_ | refine ER.extract rfl rfl rfl rfl ?_ | refine ER.cmpT rfl rfl rfl rfl rfl (by first | (dsimp only [cmpP]; omega) | exact rfl | exact Int.le_refl _) ?_ | refine ER.cmpF rfl rfl rfl rfl rfl (by first | (dsimp only [cmpP]; omega) | exact rfl | exact Int.le_refl _) ?_ | refine ER.boxA rfl rfl rfl ?_ | refine ER.box rfl rfl rfl ?_ | refine ER.allocA rfl rfl ?_ | refine ER.alloc rfl rfl ?_ | refine ER.add (kd := .i64) rfl rfl rfl rfl (i64_in (by omega) (by omega)) ?_ | refine ER.sub' (kd := .i64) rfl rfl rfl rfl (i64_in (by omega) (by omega)) ?_ | refine ER.rem (kd := .i64) rfl rfl rfl rfl (by decide) rfl ?_ | refine ER.indexArr rfl rfl rfl rfl (by omega) (by omega) ?_ | refine EK.condT rfl ?_ | refine EK.condF rfl ?_ | refine EK.ret ?_ | refine EK.exit rfl ?_))
  refine ER.load1 rfl rfl rfl (hcell_of (off := 0) c2.a1 rfl) ?_
  (repeat (first | refine EK.seq ?_ | refine EK.region ?_ | refine ER.done ?_ | refine EK.skip ?_ | refine EK.block ?_ | refine EK.inBlock ?_ | refine ER.move rfl rfl rfl ?_ | refine ER.assign rfl rfl rfl ?_ | refine ER.nilCheck rfl rfl rfl ?_ | refine ER.fieldAddr rfl rfl rfl ?_ | refine ER.load1 rfl rfl rfl (hcell_of (by assumption) rfl) ?_ | refine ER.no rfl rfl ?_ | refine ER.noU rfl ?_ | refine ER.eqV rfl rfl rfl rfl rfl ?_ | refine ER.neqV rfl rfl rfl rfl rfl ?_ | refine ER.eqA rfl rfl rfl rfl rfl ?_ | refine ER.neqA rfl rfl rfl rfl rfl ?_ | refine ER.notB rfl rfl rfl ?_ | refine ER.pickT rfl rfl rfl rfl ?_ | refine ER.pickF rfl rfl rfl rfl ?_ | refine ER.extract rfl rfl rfl rfl ?_ | refine ER.cmpT rfl rfl rfl rfl rfl (by first | (dsimp only [cmpP]; omega) | exact rfl | exact Int.le_refl _) ?_ | refine ER.cmpF rfl rfl rfl rfl rfl (by first | (dsimp only [cmpP]; omega) | exact rfl | exact Int.le_refl _) ?_ | refine ER.boxA rfl rfl rfl ?_ | refine ER.box rfl rfl rfl ?_ | refine ER.allocA rfl rfl ?_ | refine ER.alloc rfl rfl ?_ | refine ER.add (kd := .i64) rfl rfl rfl rfl (i64_in (by omega) (by omega)) ?_ | refine ER.sub' (kd := .i64) rfl rfl rfl rfl (i64_in (by omega) (by omega)) ?_ | refine ER.rem (kd := .i64) rfl rfl rfl rfl (by decide) rfl ?_ | refine ER.indexArr rfl rfl rfl rfl (by omega) (by omega) ?_ | refine EK.condT rfl ?_ | refine EK.condF rfl ?_ | refine EK.ret ?_ | refine EK.exit rfl ?_))
  refine ER.callD rfl rfl rfl rfl rfl (adv_busy k2 (by omega) (by unfold fs fr; rw [up_ne _ _ (by omega), up_ne _ _ (by omega)]; simp [fv])) ?_
  (repeat (first | refine EK.seq ?_ | refine EK.region ?_ | refine ER.done ?_ | refine EK.skip ?_ | refine EK.block ?_ | refine EK.inBlock ?_ | refine ER.move rfl rfl rfl ?_ | refine ER.assign rfl rfl rfl ?_ | refine ER.nilCheck rfl rfl rfl ?_ | refine ER.fieldAddr rfl rfl rfl ?_ | refine ER.load1 rfl rfl rfl (hcell_of (by assumption) rfl) ?_ | refine ER.no rfl rfl ?_ | refine ER.noU rfl ?_ | refine ER.eqV rfl rfl rfl rfl rfl ?_ | refine ER.neqV rfl rfl rfl rfl rfl ?_ | refine ER.eqA rfl rfl rfl rfl rfl ?_ | refine ER.neqA rfl rfl rfl rfl rfl ?_ | refine ER.notB rfl rfl rfl ?_ | refine ER.pickT rfl rfl rfl rfl ?_ | refine ER.pickF rfl rfl rfl rfl ?_ | refine ER.extract rfl rfl rfl rfl ?_ | refine ER.cmpT rfl rfl rfl rfl rfl (by first | (dsimp only [cmpP]; omega) | exact rfl | exact Int.le_refl _) ?_ | refine ER.cmpF rfl rfl rfl rfl rfl (by first | (dsimp only [cmpP]; omega) | exact rfl | exact Int.le_refl _) ?_ | refine ER.boxA rfl rfl rfl ?_ | refine ER.box rfl rfl rfl ?_ | refine ER.allocA rfl rfl ?_ | refine ER.alloc rfl rfl ?_ | refine ER.add (kd := .i64) rfl rfl rfl rfl (i64_in (by omega) (by omega)) ?_ | refine ER.sub' (kd := .i64) rfl rfl rfl rfl (i64_in (by omega) (by omega)) ?_ | refine ER.rem (kd := .i64) rfl rfl rfl rfl (by decide) rfl ?_ | refine ER.indexArr rfl rfl rfl rfl (by omega) (by omega) ?_ | refine EK.condT rfl ?_ | refine EK.condF rfl ?_ | refine EK.ret ?_ | refine EK.exit rfl ?_))
  refine ER.load1 rfl rfl rfl (hcell_of (off := 0) c2.a2 rfl) ?_
  (repeat (first | refine EK.seq ?_ | refine EK.region ?_ | refine ER.done ?_ | refine EK.skip ?_ | refine EK.block ?_ | refine EK.inBlock ?_ | refine ER.move rfl rfl rfl ?_ | refine ER.assign rfl rfl rfl ?_ | refine ER.nilCheck rfl rfl rfl ?_ | refine ER.fieldAddr rfl rfl rfl ?_ | refine ER.load1 rfl rfl rfl (hcell_of (by assumption) rfl) ?_ | refine ER.no rfl rfl ?_ | refine ER.noU rfl ?_ | refine ER.eqV rfl rfl rfl rfl rfl ?_ | refine ER.neqV rfl rfl rfl rfl rfl ?_ | refine ER.eqA rfl rfl rfl rfl rfl ?_ | refine ER.neqA rfl rfl rfl rfl rfl ?_ | refine ER.notB rfl rfl rfl ?_ | refine ER.pickT rfl rfl rfl rfl ?_ | refine ER.pickF rfl rfl rfl rfl ?_ | refine ER.extract rfl rfl rfl rfl ?_ | refine ER.cmpT rfl rfl rfl rfl rfl (by first | (dsimp only [cmpP]; omega) | exact rfl | exact Int.le_refl _) ?_ | refine ER.cmpF rfl rfl rfl rfl rfl (by first | (dsimp only [cmpP]; omega) | exact rfl | exact Int.le_refl _) ?_ | refine ER.boxA rfl rfl rfl ?_ | refine ER.box rfl rfl rfl ?_ | refine ER.allocA rfl rfl ?_ | refine ER.alloc rfl rfl ?_ | refine ER.add (kd := .i64) rfl rfl rfl rfl (i64_in (by omega) (by omega)) ?_ | refine ER.sub' (kd := .i64) rfl rfl rfl rfl (i64_in (by omega) (by omega)) ?_ | refine ER.rem (kd := .i64) rfl rfl rfl rfl (by decide) rfl ?_ | refine ER.indexArr rfl rfl rfl rfl (by omega) (by omega) ?_ | refine EK.condT rfl ?_ | refine EK.condF rfl ?_ | refine EK.ret ?_ | refine EK.exit rfl ?_))
  refine ER.store1O c2.a2 rfl rfl rfl (by simp [OneCell]) (fun x => x) ?_
  rw [hx]
  have c3 := c2.setY ((R + 1 : Nat) : Int)
  have v3 : Upd (fun b => b = p2) h2 (h2.setIfInBounds p2 (intO ((R + 1 : Nat) : Int))) := Upd.set _ _ _ rfl
  have k3 := k2.upd v3 (fun b hb x => n2 b x hb)
  (repeat (first | refine EK.seq ?_ | refine EK.region ?_ | refine ER.done ?_ | refine EK.skip ?_ | refine EK.block ?_ | refine EK.inBlock ?_ | refine ER.move rfl rfl rfl ?_ | refine ER.assign rfl rfl rfl ?_ | refine ER.nilCheck rfl rfl rfl ?_ | refine ER.fieldAddr rfl rfl rfl ?_ | refine ER.load1 rfl rfl rfl (hcell_of (by assumption) rfl) ?_ | refine ER.no rfl rfl ?_ | refine ER.noU rfl ?_ | refine ER.eqV rfl rfl rfl rfl rfl ?_ | refine ER.neqV rfl rfl rfl rfl rfl ?_ | refine ER.eqA rfl rfl rfl rfl rfl ?_ | refine ER.neqA rfl rfl rfl rfl rfl ?_ | refine ER.notB rfl rfl rfl ?_ | refine ER.pickT rfl rfl rfl rfl ?_ | refine ER.pickF rfl rfl rfl rfl ?_ | refine ER.extract rfl rfl rfl rfl ?_ | refine ER.cmpT rfl rfl rfl rfl rfl (by first | (dsimp only [cmpP]; omega) | exact rfl | exact Int.le_refl _) ?_ | refine ER.cmpF rfl rfl rfl rfl rfl (by first | (dsimp only [cmpP]; omega) | exact rfl | exact Int.le_refl _) ?_ | refine ER.boxA rfl rfl rfl ?_ | refine ER.box rfl rfl rfl ?_ | refine ER.allocA rfl rfl ?_ | refine ER.alloc rfl rfl ?_ | refine ER.add (kd := .i64) rfl rfl rfl rfl (i64_in (by omega) (by omega)) ?_ | refine ER.sub' (kd := .i64) rfl rfl rfl rfl (i64_in (by omega) (by omega)) ?_ | refine ER.rem (kd := .i64) rfl rfl rfl rfl (by decide) rfl ?_ | refine ER.indexArr rfl rfl rfl rfl (by omega) (by omega) ?_ | refine EK.condT rfl ?_ | refine EK.condF rfl ?_ | refine EK.ret ?_ | refine EK.exit rfl ?_))
  refine EK.done ?_
  exact EU.ret0 rfl ⟨rfl, ((v1.mono (fun b _ hb => .inr (.inr hb))).trans (u2.mono (fun b _ hb => .inl hb))).trans (v3.mono (fun b _ hb => .inr (.inl hb))), k3, c3⟩

theorem fv_far {m b : Int} {R R' j : Nat} (h2 : j ≠ 2) (h4 : j ≠ 4) : fv m b R j = fv m b R' j := by
  unfold fv; rw [if_neg h2, if_neg h4, if_neg h2, if_neg h4]

theorem fs_next {m b : Int} {R j : Nat} : up (fs m b R) (2 + 2 * (R % 2)) (fv m b R (2 + 2 * (R % 2)) + 2) j = fv m b (R + 1) j := by
  by_cases e : j = 2 + 2 * (R % 2)
  · have e' : j = 2 + 2 * (1 - (R + 1) % 2) := by omega
    rw [e, up_same, ← e, e', fv_oth, ← e', e, fv_cur]
    omega
  · rw [up_ne _ _ e]
    unfold fs
    by_cases e1 : j = 2 + 2 * (1 - R % 2)
    · have e' : j = 2 + 2 * ((R + 1) % 2) := by omega
      rw [e1, up_same, ← e1, e', fv_cur, ← e', e1, fv_oth]
      omega
    · rw [up_ne _ _ e1]
      unfold fr
      rw [up_ne _ _ e]
      exact fv_far (by omega) (by omega)

def fI (h0 : Hp) (c : Nat) (B : Nat → Nat) (base p1 p2 p3 p4 : Nat) (m : Int) (R0 : Nat) (R r : Nat) (h : Hp) : Prop :=
  R = R0 + r ∧ Clk h c B (fv m 1 R) (ff (fcl p1 p2 p3 p4) R) ∧ Cap h c p1 p2 p3 p4 (fcl p1 p2 p3 p4) R R ∧ base ≤ h.size ∧ Upd (fun _ => False) h0 h

theorem facc {h0 : Hp} {base p1 p2 p3 p4 : Nat} {m : Int} {R0 : Nat} (own : ∀ b, Own c B b → b < base) (hp : p4 < base) (hpn : ∀ b, p1 ≤ b → b ≤ p4 → ¬ Own c B b) (ho : ∀ b, Own c B b ∨ p1 ≤ b → h0.size ≤ b) (hm : 0 ≤ m) (hR : R0 ≤ 100) :
    Acc main δ c B base m (fun R => fv m 1 R) (fun R => ff (fcl p1 p2 p3 p4) R) (fI h0 c B base p1 p2 p3 p4 m R0) := by
  refine ⟨fun s r h hi => ⟨hi.2.1, hi.2.2.2.1⟩, fun s r h h' hi u => ⟨hi.1, hi.2.1.upd u (fun _ x => x.elim), hi.2.2.1.upd u (fun _ _ _ x => x), Nat.le_trans hi.2.2.2.1 u.size, hi.2.2.2.2.trans u⟩, own, fun R r h i hi hr hl => ?_⟩
  obtain ⟨h1, k, hcap, hz, hf⟩ := hi
  have hlt := hcap.lt
  rw [fv_lk hm] at hl
  cases hl
  have hBn : ∀ j, j < 34 → ∀ b, p1 ≤ b → b ≤ p4 → b ≠ B j := fun j hj b x y e => hpn b x y (.inr ⟨j, hj, e⟩)
  have u1 : Upd (Own c B) h (h.setIfInBounds (B (2 + 2 * (R % 2))) (cellO (fv m 1 R (2 + 2 * (R % 2)) + 1))) := Upd.set _ _ _ (.inr ⟨_, by omega, rfl⟩)
  have k1 := k.set (j := 2 + 2 * (R % 2)) (by omega) (fv m 1 R (2 + 2 * (R % 2)) + 1)
  have c1 := hcap.upd u1 hpn
  refine ⟨by rw [fv_cur]; omega, by rw [fv_cur]; omega, _, _, ff_pos (by omega), inferInstance, (fring (R := R) (m := m) (by omega) k1 c1 hpn).mono ?_⟩
  rintro (v | p) h' δ' hq
  rotate_left
  · exact hq.elim
  obtain ⟨rfl, u2, k2, c2⟩ := hq
  have u3 : Upd (Own c B) h' (h'.setIfInBounds (B (2 + 2 * (R % 2))) (cellO (fv m 1 R (2 + 2 * (R % 2)) + 2))) := Upd.set _ _ _ (.inr ⟨_, by omega, rfl⟩)
  have u2b : Upd (fun b => b < base) (h.setIfInBounds (B (2 + 2 * (R % 2))) (cellO (fv m 1 R (2 + 2 * (R % 2)) + 1))) h' := u2.mono fun b _ hb => by
    rcases hb with x | x | x
    · exact own _ x
    · omega
    · omega
  refine ⟨rfl, (u1.mono (fun b _ hb => own b hb)).trans u2b, ⟨_, _, k2⟩, R + 1, by omega, (k2.set (j := 2 + 2 * (R % 2)) (by omega) (fv m 1 R (2 + 2 * (R % 2)) + 2)).congr (fun j _ => fs_next) (fun i _ => rfl), c2.upd u3 hpn, by have := u1.size; have := u2.size; have := u3.size; omega, ?_⟩
  refine hf.over ((u1.mono (fun b _ hb => ?_)).trans ((u2.mono (fun b _ hb => ?_)).trans (u3.mono (fun b _ hb => ?_)))) ho
  · exact .inl hb
  · rcases hb with x | x | x
    · exact .inl x
    · exact .inr (by omega)
    · exact .inr (by omega)
  · exact .inl hb

set_option maxHeartbeats 2000000 in
theorem forever_ok : CallW Try.prog main NoS 12 #[] h δ (Ret fun v h' δ' => v = .bool true ∧ Upd (fun _ => False) h h' ∧ δ' = δ) := by
  refine CallW.start (n := 53) rfl rfl ?_
  (repeat (first | refine EK.seq ?_ | refine EK.region ?_ | refine ER.done ?_ | refine EK.skip ?_ | refine EK.block ?_ | refine EK.inBlock ?_ | refine ER.move rfl rfl rfl ?_ | refine ER.assign rfl rfl rfl ?_ | refine ER.nilCheck rfl rfl rfl ?_ | refine ER.fieldAddr rfl rfl rfl ?_ | refine ER.load1 rfl rfl rfl (hcell_of (by assumption) rfl) ?_ | refine ER.no rfl rfl ?_ | refine ER.noU rfl ?_ | refine ER.eqV rfl rfl rfl rfl rfl ?_ | refine ER.neqV rfl rfl rfl rfl rfl ?_ | refine ER.eqA rfl rfl rfl rfl rfl ?_ | refine ER.neqA rfl rfl rfl rfl rfl ?_ | refine ER.notB rfl rfl rfl ?_ | refine ER.pickT rfl rfl rfl rfl ?_ | refine ER.pickF rfl rfl rfl rfl ?_ | refine ER.extract rfl rfl rfl rfl ?_ | refine ER.cmpT rfl rfl rfl rfl rfl (by first | (dsimp only [cmpP]; omega) | exact rfl | exact Int.le_refl _) ?_ | refine ER.cmpF rfl rfl rfl rfl rfl (by first | (dsimp only [cmpP]; omega) | exact rfl | exact Int.le_refl _) ?_ | refine ER.boxA rfl rfl rfl ?_ | refine ER.box rfl rfl rfl ?_ | refine ER.allocA rfl rfl ?_ | refine ER.alloc rfl rfl ?_ | refine ER.add (kd := .i64) rfl rfl rfl rfl (i64_in (by omega) (by omega)) ?_ | refine ER.sub' (kd := .i64) rfl rfl rfl rfl (i64_in (by omega) (by omega)) ?_ | refine ER.rem (kd := .i64) rfl rfl rfl rfl (by decide) rfl ?_ | refine ER.indexArr rfl rfl rfl rfl (by omega) (by omega) ?_ | refine EK.condT rfl ?_ | refine EK.condF rfl ?_ | refine EK.ret ?_ | refine EK.exit rfl ?_))
  refine ER.callR rfl rfl rfl rfl rfl new_ok ?_
  rintro _ h1 _ ⟨rfl, u1, rfl, k1⟩
  have hN : h.size + 35 ≤ h1.size := by have := lt_of_get (k1.cell 33 (by omega)); unfold newB at this; simp at this; omega
  generalize hB : newB h.size = B at k1
  have own : ∀ b, Own (h.size + 2) B b → h.size ≤ b ∧ b < h.size + 35 := fun b hb => by
    subst hB
    rcases hb with rfl | ⟨j, hj, rfl⟩
    · omega
    · unfold newB; split <;> omega
  generalize hc : h.size + 2 = c at *
  (repeat (first | refine EK.seq ?_ | refine EK.region ?_ | refine ER.done ?_ | refine EK.skip ?_ | refine EK.block ?_ | refine EK.inBlock ?_ | refine ER.move rfl rfl rfl ?_ | refine ER.assign rfl rfl rfl ?_ | refine ER.nilCheck rfl rfl rfl ?_ | refine ER.fieldAddr rfl rfl rfl ?_ | refine ER.load1 rfl rfl rfl (hcell_of (by assumption) rfl) ?_ | refine ER.no rfl rfl ?_ | refine ER.noU rfl ?_ | refine ER.eqV rfl rfl rfl rfl rfl ?_ | refine ER.neqV rfl rfl rfl rfl rfl ?_ | refine ER.eqA rfl rfl rfl rfl rfl ?_ | refine ER.neqA rfl rfl rfl rfl rfl ?_ | refine ER.notB rfl rfl rfl ?_ | refine ER.pickT rfl rfl rfl rfl ?_ | refine ER.pickF rfl rfl rfl rfl ?_ | refine ER.extract rfl rfl rfl rfl ?_ | refine ER.cmpT rfl rfl rfl rfl rfl (by first | (dsimp only [cmpP]; omega) | exact rfl | exact Int.le_refl _) ?_ | refine ER.cmpF rfl rfl rfl rfl rfl (by first | (dsimp only [cmpP]; omega) | exact rfl | exact Int.le_refl _) ?_ | refine ER.boxA rfl rfl rfl ?_ | refine ER.box rfl rfl rfl ?_ | refine ER.allocA rfl rfl ?_ | refine ER.alloc rfl rfl ?_ | refine ER.add (kd := .i64) rfl rfl rfl rfl (i64_in (by omega) (by omega)) ?_ | refine ER.sub' (kd := .i64) rfl rfl rfl rfl (i64_in (by omega) (by omega)) ?_ | refine ER.rem (kd := .i64) rfl rfl rfl rfl (by decide) rfl ?_ | refine ER.indexArr rfl rfl rfl rfl (by omega) (by omega) ?_ | refine EK.condT rfl ?_ | refine EK.condF rfl ?_ | refine EK.ret ?_ | refine EK.exit rfl ?_))
  refine ER.storeNew rfl rfl rfl rfl (by simp [OneCell]) (fun x => x) ?_
  have v1 : Upd (fun _ => False) h1 (h1.push (oneO (.pointer (some ⟨c, 0, none⟩)) 22)) := Upd.push _ _
  have a1 : (h1.push (oneO (.pointer (some ⟨c, 0, none⟩)) 22))[h1.size]? = some (oneO (.pointer (some ⟨c, 0, none⟩)) 22) := get_push_new _ _
  have z1 : (h1.push (oneO (.pointer (some ⟨c, 0, none⟩)) 22)).size = h1.size + 1 := by simp
  generalize h1.push (oneO (.pointer (some ⟨c, 0, none⟩)) 22) = h2 at *
  (repeat (first | refine EK.seq ?_ | refine EK.region ?_ | refine ER.done ?_ | refine EK.skip ?_ | refine EK.block ?_ | refine EK.inBlock ?_ | refine ER.move rfl rfl rfl ?_ | refine ER.assign rfl rfl rfl ?_ | refine ER.nilCheck rfl rfl rfl ?_ | refine ER.fieldAddr rfl rfl rfl ?_ | refine ER.load1 rfl rfl rfl (hcell_of (by assumption) rfl) ?_ | refine ER.no rfl rfl ?_ | refine ER.noU rfl ?_ | refine ER.eqV rfl rfl rfl rfl rfl ?_ | refine ER.neqV rfl rfl rfl rfl rfl ?_ | refine ER.eqA rfl rfl rfl rfl rfl ?_ | refine ER.neqA rfl rfl rfl rfl rfl ?_ | refine ER.notB rfl rfl rfl ?_ | refine ER.pickT rfl rfl rfl rfl ?_ | refine ER.pickF rfl rfl rfl rfl ?_ | refine ER.extract rfl rfl rfl rfl ?_ | refine ER.cmpT rfl rfl rfl rfl rfl (by first | (dsimp only [cmpP]; omega) | exact rfl | exact Int.le_refl _) ?_ | refine ER.cmpF rfl rfl rfl rfl rfl (by first | (dsimp only [cmpP]; omega) | exact rfl | exact Int.le_refl _) ?_ | refine ER.boxA rfl rfl rfl ?_ | refine ER.box rfl rfl rfl ?_ | refine ER.allocA rfl rfl ?_ | refine ER.alloc rfl rfl ?_ | refine ER.add (kd := .i64) rfl rfl rfl rfl (i64_in (by omega) (by omega)) ?_ | refine ER.sub' (kd := .i64) rfl rfl rfl rfl (i64_in (by omega) (by omega)) ?_ | refine ER.rem (kd := .i64) rfl rfl rfl rfl (by decide) rfl ?_ | refine ER.indexArr rfl rfl rfl rfl (by omega) (by omega) ?_ | refine EK.condT rfl ?_ | refine EK.condF rfl ?_ | refine EK.ret ?_ | refine EK.exit rfl ?_))
  refine ER.storeNew rfl rfl rfl rfl (by simp [OneCell]) (fun x => x) ?_
  have v2 : Upd (fun _ => False) h2 (h2.push (intO 0)) := Upd.push _ _
  have b1 := v2.get a1 (fun x => x)
  have b2 : (h2.push (intO 0))[h2.size]? = some (intO 0) := get_push_new _ _
  have z2 : (h2.push (intO 0)).size = h2.size + 1 := by simp
  change ER _ _ _ _ _ _ _ _ _ _ (h2.push (intO 0)) _ _
  generalize h2.push (intO 0) = h3 at *
  (repeat (first | refine EK.seq ?_ | refine EK.region ?_ | refine ER.done ?_ | refine EK.skip ?_ | refine EK.block ?_ | refine EK.inBlock ?_ | refine ER.move rfl rfl rfl ?_ | refine ER.assign rfl rfl rfl ?_ | refine ER.nilCheck rfl rfl rfl ?_ | refine ER.fieldAddr rfl rfl rfl ?_ | refine ER.load1 rfl rfl rfl (hcell_of (by assumption) rfl) ?_ | refine ER.no rfl rfl ?_ | refine ER.noU rfl ?_ | refine ER.eqV rfl rfl rfl rfl rfl ?_ | refine ER.neqV rfl rfl rfl rfl rfl ?_ | refine ER.eqA rfl rfl rfl rfl rfl ?_ | refine ER.neqA rfl rfl rfl rfl rfl ?_ | refine ER.notB rfl rfl rfl ?_ | refine ER.pickT rfl rfl rfl rfl ?_ | refine ER.pickF rfl rfl rfl rfl ?_ | refine ER.extract rfl rfl rfl rfl ?_ | refine ER.cmpT rfl rfl rfl rfl rfl (by first | (dsimp only [cmpP]; omega) | exact rfl | exact Int.le_refl _) ?_ | refine ER.cmpF rfl rfl rfl rfl rfl (by first | (dsimp only [cmpP]; omega) | exact rfl | exact Int.le_refl _) ?_ | refine ER.boxA rfl rfl rfl ?_ | refine ER.box rfl rfl rfl ?_ | refine ER.allocA rfl rfl ?_ | refine ER.alloc rfl rfl ?_ | refine ER.add (kd := .i64) rfl rfl rfl rfl (i64_in (by omega) (by omega)) ?_ | refine ER.sub' (kd := .i64) rfl rfl rfl rfl (i64_in (by omega) (by omega)) ?_ | refine ER.rem (kd := .i64) rfl rfl rfl rfl (by decide) rfl ?_ | refine ER.indexArr rfl rfl rfl rfl (by omega) (by omega) ?_ | refine EK.condT rfl ?_ | refine EK.condF rfl ?_ | refine EK.ret ?_ | refine EK.exit rfl ?_))
  refine ER.storeNew rfl rfl rfl rfl (by simp [OneCell]) (fun x => x) ?_
  have v3 : Upd (fun _ => False) h3 (h3.push (intO 0)) := Upd.push _ _
  have c1 := v3.get b1 (fun x => x)
  have c2 := v3.get b2 (fun x => x)
  have c3 : (h3.push (intO 0))[h3.size]? = some (intO 0) := get_push_new _ _
  have z3 : (h3.push (intO 0)).size = h3.size + 1 := by simp
  change ER _ _ _ _ _ _ _ _ _ _ (h3.push (intO 0)) _ _
  generalize h3.push (intO 0) = h4 at *
  generalize hp1 : h1.size = p1 at *
  generalize hp2 : h2.size = p2 at *
  generalize hp3 : h3.size = p3 at *
  generalize hp4 : h4.size = p4 at *
  (repeat (first | refine EK.seq ?_ | refine EK.region ?_ | refine ER.done ?_ | refine EK.skip ?_ | refine EK.block ?_ | refine EK.inBlock ?_ | refine ER.move rfl rfl rfl ?_ | refine ER.assign rfl rfl rfl ?_ | refine ER.nilCheck rfl rfl rfl ?_ | refine ER.fieldAddr rfl rfl rfl ?_ | refine ER.load1 rfl rfl rfl (hcell_of (by assumption) rfl) ?_ | refine ER.no rfl rfl ?_ | refine ER.noU rfl ?_ | refine ER.eqV rfl rfl rfl rfl rfl ?_ | refine ER.neqV rfl rfl rfl rfl rfl ?_ | refine ER.eqA rfl rfl rfl rfl rfl ?_ | refine ER.neqA rfl rfl rfl rfl rfl ?_ | refine ER.notB rfl rfl rfl ?_ | refine ER.pickT rfl rfl rfl rfl ?_ | refine ER.pickF rfl rfl rfl rfl ?_ | refine ER.extract rfl rfl rfl rfl ?_ | refine ER.cmpT rfl rfl rfl rfl rfl (by first | (dsimp only [cmpP]; omega) | exact rfl | exact Int.le_refl _) ?_ | refine ER.cmpF rfl rfl rfl rfl rfl (by first | (dsimp only [cmpP]; omega) | exact rfl | exact Int.le_refl _) ?_ | refine ER.boxA rfl rfl rfl ?_ | refine ER.box rfl rfl rfl ?_ | refine ER.allocA rfl rfl ?_ | refine ER.alloc rfl rfl ?_ | refine ER.add (kd := .i64) rfl rfl rfl rfl (i64_in (by omega) (by omega)) ?_ | refine ER.sub' (kd := .i64) rfl rfl rfl rfl (i64_in (by omega) (by omega)) ?_ | refine ER.rem (kd := .i64) rfl rfl rfl rfl (by decide) rfl ?_ | refine ER.indexArr rfl rfl rfl rfl (by omega) (by omega) ?_ | refine EK.condT rfl ?_ | refine EK.condF rfl ?_ | refine EK.ret ?_ | refine EK.exit rfl ?_))
  refine ER.makeF rfl rfl rfl rfl rfl rfl ?_
  rw [hp4]
  refine ER.storeNew rfl ?_ rfl rfl (by simp [OneCell]) (fun x => x) ?_
  · rw [hp4]; rfl
  have v4 : Upd (fun _ => False) h4 (h4.push (oneO (fcl p1 p2 p3 p4) 24)) := Upd.push _ _
  have hcap : Cap (h4.push (oneO (fcl p1 p2 p3 p4) 24)) c p1 p2 p3 p4 (fcl p1 p2 p3 p4) 0 0 := ⟨v4.get c1 (fun x => x), v4.get c2 (fun x => x), v4.get c3 (fun x => x), by rw [← hp4]; exact get_push_new _ _, by omega⟩
  have z4 : (h4.push (oneO (fcl p1 p2 p3 p4) 24)).size = p4 + 1 := by simp [hp4]
  change ER _ _ _ _ _ _ _ _ _ _ (h4.push (oneO (fcl p1 p2 p3 p4) 24)) _ _
  have w5 : Upd (fun _ => False) h (h4.push (oneO (fcl p1 p2 p3 p4) 24)) := u1.trans (v1.trans (v2.trans (v3.trans v4)))
  have k5 := k1.upd (v1.trans (v2.trans (v3.trans v4))) (fun _ x => x.elim)
  generalize h4.push (oneO (fcl p1 p2 p3 p4) 24) = h5 at *
  clear a1 b1 b2 c1 c2 c3 v1 v2 v3 v4
  have hpn : ∀ b, p1 ≤ b → b ≤ p4 → ¬ Own c B b := fun b x y hb => by have := own _ hb; omega
  (repeat (first | refine EK.seq ?_ | refine EK.region ?_ | refine ER.done ?_ | refine EK.skip ?_ | refine EK.block ?_ | refine EK.inBlock ?_ | refine ER.move rfl rfl rfl ?_ | refine ER.assign rfl rfl rfl ?_ | refine ER.nilCheck rfl rfl rfl ?_ | refine ER.fieldAddr rfl rfl rfl ?_ | refine ER.load1 rfl rfl rfl (hcell_of (by assumption) rfl) ?_ | refine ER.no rfl rfl ?_ | refine ER.noU rfl ?_ | refine ER.eqV rfl rfl rfl rfl rfl ?_ | refine ER.neqV rfl rfl rfl rfl rfl ?_ | refine ER.eqA rfl rfl rfl rfl rfl ?_ | refine ER.neqA rfl rfl rfl rfl rfl ?_ | refine ER.notB rfl rfl rfl ?_ | refine ER.pickT rfl rfl rfl rfl ?_ | refine ER.pickF rfl rfl rfl rfl ?_ | refine ER.extract rfl rfl rfl rfl ?_ | refine ER.cmpT rfl rfl rfl rfl rfl (by first | (dsimp only [cmpP]; omega) | exact rfl | exact Int.le_refl _) ?_ | refine ER.cmpF rfl rfl rfl rfl rfl (by first | (dsimp only [cmpP]; omega) | exact rfl | exact Int.le_refl _) ?_ | refine ER.boxA rfl rfl rfl ?_ | refine ER.box rfl rfl rfl ?_ | refine ER.allocA rfl rfl ?_ | refine ER.alloc rfl rfl ?_ | refine ER.add (kd := .i64) rfl rfl rfl rfl (i64_in (by omega) (by omega)) ?_ | refine ER.sub' (kd := .i64) rfl rfl rfl rfl (i64_in (by omega) (by omega)) ?_ | refine ER.rem (kd := .i64) rfl rfl rfl rfl (by decide) rfl ?_ | refine ER.indexArr rfl rfl rfl rfl (by omega) (by omega) ?_ | refine EK.condT rfl ?_ | refine EK.condF rfl ?_ | refine EK.ret ?_ | refine EK.exit rfl ?_))
  refine ER.load1 rfl rfl rfl (hcell_of (off := 0) hcap.a1 rfl) ?_
  refine ER.load1 rfl rfl rfl (hcell_of (off := 0) hcap.a4 rfl) ?_
  refine ER.callR rfl rfl rfl rfl rfl (set_ok (i := 0) k5 (by omega) (by omega) (by omega) (fun q hq => by omega) rfl (by omega) (by omega)) ?_
  rintro _ h6 δ' ⟨rfl, u6, hδ, k6⟩
  subst hδ
  have d6 := hcap.upd u6 hpn
  (repeat (first | refine EK.seq ?_ | refine EK.region ?_ | refine ER.done ?_ | refine EK.skip ?_ | refine EK.block ?_ | refine EK.inBlock ?_ | refine ER.move rfl rfl rfl ?_ | refine ER.assign rfl rfl rfl ?_ | refine ER.nilCheck rfl rfl rfl ?_ | refine ER.fieldAddr rfl rfl rfl ?_ | refine ER.load1 rfl rfl rfl (hcell_of (by assumption) rfl) ?_ | refine ER.no rfl rfl ?_ | refine ER.noU rfl ?_ | refine ER.eqV rfl rfl rfl rfl rfl ?_ | refine ER.neqV rfl rfl rfl rfl rfl ?_ | refine ER.eqA rfl rfl rfl rfl rfl ?_ | refine ER.neqA rfl rfl rfl rfl rfl ?_ | refine ER.notB rfl rfl rfl ?_ | refine ER.pickT rfl rfl rfl rfl ?_ | refine ER.pickF rfl rfl rfl rfl ?_ | refine ER.extract rfl rfl rfl rfl ?_ | refine ER.cmpT rfl rfl rfl rfl rfl (by first | (dsimp only [cmpP]; omega) | exact rfl | exact Int.le_refl _) ?_ | refine ER.cmpF rfl rfl rfl rfl rfl (by first | (dsimp only [cmpP]; omega) | exact rfl | exact Int.le_refl _) ?_ | refine ER.boxA rfl rfl rfl ?_ | refine ER.box rfl rfl rfl ?_ | refine ER.allocA rfl rfl ?_ | refine ER.alloc rfl rfl ?_ | refine ER.add (kd := .i64) rfl rfl rfl rfl (i64_in (by omega) (by omega)) ?_ | refine ER.sub' (kd := .i64) rfl rfl rfl rfl (i64_in (by omega) (by omega)) ?_ | refine ER.rem (kd := .i64) rfl rfl rfl rfl (by decide) rfl ?_ | refine ER.indexArr rfl rfl rfl rfl (by omega) (by omega) ?_ | refine EK.condT rfl ?_ | refine EK.condF rfl ?_ | refine EK.ret ?_ | refine EK.exit rfl ?_))
  refine ER.load1 rfl rfl rfl (hcell_of (off := 0) d6.a1 rfl) ?_
  have k6 : Clk h6 c B (fv 0 0 0) (ff (fcl p1 p2 p3 p4) 0) := k6.congr (fun j _ => by
    by_cases e2 : j = 2
    · subst e2; rfl
    · by_cases e3 : j = 3
      · subst e3; rfl
      · rw [up_ne _ _ e2, up_ne _ _ e3]
        unfold fv
        by_cases e0 : j = 0
        · rw [if_pos e0]
        · by_cases e1 : j = 1
          · rw [if_neg e0, if_pos e1]
          · rw [if_neg e0, if_neg e1, if_neg e2]; simp) (fun i _ => by
    by_cases e : i = 0
    · subst e; rfl
    · rw [up_ne _ _ e, ff_neg (by omega)])
  have hs6 := u6.size
  have ho : ∀ b, Own c B b ∨ p1 ≤ b → h.size ≤ b := fun b hb => by
    rcases hb with x | x
    · exact (own _ x).1
    · omega
  have w6 := w5.over u6 (fun b hb => (own _ hb).1)
  have ob : ∀ b, Own c B b → b < h6.size := fun b hb => by have := own _ hb; omega
  have hw : ∀ (m b : Int) (m' b' : Int) R j, (up (up (fv m b R) 1 b') 0 m') j = fv m' b' R j := fun m b m' b' R j => by
    unfold up fv
    by_cases e0 : j = 0
    · rw [if_pos e0, if_pos e0]
    · by_cases e1 : j = 1
      · rw [if_neg e0, if_pos e1, if_neg e0, if_pos e1]
      · rw [if_neg e0, if_neg e1, if_neg e0, if_neg e1, if_neg e0, if_neg e1]
  have uset : ∀ (h : Hp) (x y : Int), Upd (Own c B) h ((h.setIfInBounds (B 1) (cellO x)).setIfInBounds (B 0) (cellO y)) := fun h x y => (Upd.set _ _ _ (.inr ⟨_, by omega, rfl⟩)).trans (Upd.set _ _ _ (.inr ⟨_, by omega, rfl⟩))
  have hadv := adv_ok (main := main) (d := 0) (m := 0) (s0 := 0) (vl := fun R => fv 0 1 R) (fn := fun R => ff (fcl p1 p2 p3 p4) R) (Inv := fI h c B h6.size p1 p2 p3 p4 0 0) k6 rfl (by omega) (by decide) (by decide) rfl (facc (δ := δ') (h0 := h) (base := h6.size) ob (by omega) hpn ho (by omega) (by omega))
    ⟨rfl, ((k6.set (j := 1) (by omega) 1).set (j := 0) (by omega) 0).congr (fun j _ => hw 0 0 0 1 0 j) (fun i _ => rfl), d6.upd (uset _ _ _) hpn, by simp, w6.over (uset _ _ _) (fun b hb => (own _ hb).1)⟩
  refine ER.callR rfl rfl rfl rfl rfl hadv ?_
  rintro _ h7 δ2 ⟨hδ, s, r, h8, hr64, ⟨hrs, k8, d8, z8, w8⟩, hlk, rfl, rfl⟩
  subst hδ
  have hr : r = 64 := hlk.resolve_left (fun x => by rw [fv_lk (by omega)] at x; cases x)
  subst hr
  have hs : s = 64 := by omega
  subst hs
  have u9 : Upd (Own c B) h8 (h8.setIfInBounds (B 1) (cellO 0)) := Upd.set _ _ _ (.inr ⟨_, by omega, rfl⟩)
  have k9 : Clk (h8.setIfInBounds (B 1) (cellO 0)) c B (fv 0 0 64) (ff (fcl p1 p2 p3 p4) 64) := (k8.set (j := 1) (by omega) 0).congr (fun j _ => by
    have := hw 0 1 0 0 64 j
    by_cases e0 : j = 0
    · subst e0; rfl
    · rw [up_ne _ _ e0] at this; exact this) (fun i _ => rfl)
  have d9 := d8.upd u9 hpn
  have w9 := w8.over u9 (fun b hb => (own _ hb).1)
  have z9 : h6.size ≤ (h8.setIfInBounds (B 1) (cellO 0)).size := by have := u9.size; omega
  generalize h8.setIfInBounds (B 1) (cellO 0) = h9 at *
  (repeat (first | refine EK.seq ?_ | refine EK.region ?_ | refine ER.done ?_ | refine EK.skip ?_ | refine EK.block ?_ | refine EK.inBlock ?_ | refine ER.move rfl rfl rfl ?_ | refine ER.assign rfl rfl rfl ?_ | refine ER.nilCheck rfl rfl rfl ?_ | refine ER.fieldAddr rfl rfl rfl ?_ | refine ER.load1 rfl rfl rfl (hcell_of (by assumption) rfl) ?_ | refine ER.no rfl rfl ?_ | refine ER.noU rfl ?_ | refine ER.eqV rfl rfl rfl rfl rfl ?_ | refine ER.neqV rfl rfl rfl rfl rfl ?_ | refine ER.eqA rfl rfl rfl rfl rfl ?_ | refine ER.neqA rfl rfl rfl rfl rfl ?_ | refine ER.notB rfl rfl rfl ?_ | refine ER.pickT rfl rfl rfl rfl ?_ | refine ER.pickF rfl rfl rfl rfl ?_ | refine ER.extract rfl rfl rfl rfl ?_ | refine ER.cmpT rfl rfl rfl rfl rfl (by first | (dsimp only [cmpP]; omega) | exact rfl | exact Int.le_refl _) ?_ | refine ER.cmpF rfl rfl rfl rfl rfl (by first | (dsimp only [cmpP]; omega) | exact rfl | exact Int.le_refl _) ?_ | refine ER.boxA rfl rfl rfl ?_ | refine ER.box rfl rfl rfl ?_ | refine ER.allocA rfl rfl ?_ | refine ER.alloc rfl rfl ?_ | refine ER.add (kd := .i64) rfl rfl rfl rfl (i64_in (by omega) (by omega)) ?_ | refine ER.sub' (kd := .i64) rfl rfl rfl rfl (i64_in (by omega) (by omega)) ?_ | refine ER.rem (kd := .i64) rfl rfl rfl rfl (by decide) rfl ?_ | refine ER.indexArr rfl rfl rfl rfl (by omega) (by omega) ?_ | refine EK.condT rfl ?_ | refine EK.condF rfl ?_ | refine EK.ret ?_ | refine EK.exit rfl ?_))
  refine ER.load1 rfl rfl rfl (hcell_of (off := 0) d9.a1 rfl) ?_
  have ob9 : ∀ b, Own c B b → b < h9.size := fun b hb => by have := own _ hb; omega
  have hadv := adv_ok (main := main) (d := 3) (m := 3) (s0 := 64) (vl := fun R => fv 3 1 R) (fn := fun R => ff (fcl p1 p2 p3 p4) R) (Inv := fI h c B h9.size p1 p2 p3 p4 3 64) k9 rfl (by omega) (by decide) (by decide) rfl (facc (δ := δ2) (h0 := h) (base := h9.size) ob9 (by omega) hpn ho (by omega) (by omega))
    ⟨rfl, ((k9.set (j := 1) (by omega) 1).set (j := 0) (by omega) 3).congr (fun j _ => hw 0 0 3 1 64 j) (fun i _ => rfl), d9.upd (uset _ _ _) hpn, by simp, w9.over (uset _ _ _) (fun b hb => (own _ hb).1)⟩
  refine ER.callR rfl rfl rfl rfl rfl hadv ?_
  rintro _ h10 _ ⟨rfl, s, r, h11, hr64, ⟨hrs, k11, d11, z11, w11⟩, hlk, rfl, rfl⟩
  have hr : r = 64 := hlk.resolve_left (fun x => by rw [fv_lk (by omega)] at x; cases x)
  subst hr
  have hs : s = 128 := by omega
  subst hs
  have u12 : Upd (Own c B) h11 (h11.setIfInBounds (B 1) (cellO 0)) := Upd.set _ _ _ (.inr ⟨_, by omega, rfl⟩)
  have k12 := k11.set (j := 1) (by omega) 0
  have d12 := d11.upd u12 hpn
  have w12 := w11.over u12 (fun b hb => (own _ hb).1)
  generalize h11.setIfInBounds (B 1) (cellO 0) = h12 at *
  (repeat (first | refine EK.seq ?_ | refine EK.region ?_ | refine ER.done ?_ | refine EK.skip ?_ | refine EK.block ?_ | refine EK.inBlock ?_ | refine ER.move rfl rfl rfl ?_ | refine ER.assign rfl rfl rfl ?_ | refine ER.nilCheck rfl rfl rfl ?_ | refine ER.fieldAddr rfl rfl rfl ?_ | refine ER.load1 rfl rfl rfl (hcell_of (by assumption) rfl) ?_ | refine ER.no rfl rfl ?_ | refine ER.noU rfl ?_ | refine ER.eqV rfl rfl rfl rfl rfl ?_ | refine ER.neqV rfl rfl rfl rfl rfl ?_ | refine ER.eqA rfl rfl rfl rfl rfl ?_ | refine ER.neqA rfl rfl rfl rfl rfl ?_ | refine ER.notB rfl rfl rfl ?_ | refine ER.pickT rfl rfl rfl rfl ?_ | refine ER.pickF rfl rfl rfl rfl ?_ | refine ER.extract rfl rfl rfl rfl ?_ | refine ER.cmpT rfl rfl rfl rfl rfl (by first | (dsimp only [cmpP]; omega) | exact rfl | exact Int.le_refl _) ?_ | refine ER.cmpF rfl rfl rfl rfl rfl (by first | (dsimp only [cmpP]; omega) | exact rfl | exact Int.le_refl _) ?_ | refine ER.boxA rfl rfl rfl ?_ | refine ER.box rfl rfl rfl ?_ | refine ER.allocA rfl rfl ?_ | refine ER.alloc rfl rfl ?_ | refine ER.add (kd := .i64) rfl rfl rfl rfl (i64_in (by omega) (by omega)) ?_ | refine ER.sub' (kd := .i64) rfl rfl rfl rfl (i64_in (by omega) (by omega)) ?_ | refine ER.rem (kd := .i64) rfl rfl rfl rfl (by decide) rfl ?_ | refine ER.indexArr rfl rfl rfl rfl (by omega) (by omega) ?_ | refine EK.condT rfl ?_ | refine EK.condF rfl ?_ | refine EK.ret ?_ | refine EK.exit rfl ?_))
  refine ER.load1 rfl rfl rfl (hcell_of (off := 0) d12.a3 rfl) ?_
  (repeat (first | refine EK.seq ?_ | refine EK.region ?_ | refine ER.done ?_ | refine EK.skip ?_ | refine EK.block ?_ | refine EK.inBlock ?_ | refine ER.move rfl rfl rfl ?_ | refine ER.assign rfl rfl rfl ?_ | refine ER.nilCheck rfl rfl rfl ?_ | refine ER.fieldAddr rfl rfl rfl ?_ | refine ER.load1 rfl rfl rfl (hcell_of (by assumption) rfl) ?_ | refine ER.no rfl rfl ?_ | refine ER.noU rfl ?_ | refine ER.eqV rfl rfl rfl rfl rfl ?_ | refine ER.neqV rfl rfl rfl rfl rfl ?_ | refine ER.eqA rfl rfl rfl rfl rfl ?_ | refine ER.neqA rfl rfl rfl rfl rfl ?_ | refine ER.notB rfl rfl rfl ?_ | refine ER.pickT rfl rfl rfl rfl ?_ | refine ER.pickF rfl rfl rfl rfl ?_ | refine ER.extract rfl rfl rfl rfl ?_ | refine ER.cmpT rfl rfl rfl rfl rfl (by first | (dsimp only [cmpP]; omega) | exact rfl | exact Int.le_refl _) ?_ | refine ER.cmpF rfl rfl rfl rfl rfl (by first | (dsimp only [cmpP]; omega) | exact rfl | exact Int.le_refl _) ?_ | refine ER.boxA rfl rfl rfl ?_ | refine ER.box rfl rfl rfl ?_ | refine ER.allocA rfl rfl ?_ | refine ER.alloc rfl rfl ?_ | refine ER.add (kd := .i64) rfl rfl rfl rfl (i64_in (by omega) (by omega)) ?_ | refine ER.sub' (kd := .i64) rfl rfl rfl rfl (i64_in (by omega) (by omega)) ?_ | refine ER.rem (kd := .i64) rfl rfl rfl rfl (by decide) rfl ?_ | refine ER.indexArr rfl rfl rfl rfl (by omega) (by omega) ?_ | refine EK.condT rfl ?_ | refine EK.condF rfl ?_ | refine EK.ret ?_ | refine EK.exit rfl ?_))
  refine ER.load1 rfl rfl rfl (hcell_of (off := 0) d12.a2 rfl) ?_
  (repeat (first | refine EK.seq ?_ | refine EK.region ?_ | refine ER.done ?_ | refine EK.skip ?_ | refine EK.block ?_ | refine EK.inBlock ?_ | refine ER.move rfl rfl rfl ?_ | refine ER.assign rfl rfl rfl ?_ | refine ER.nilCheck rfl rfl rfl ?_ | refine ER.fieldAddr rfl rfl rfl ?_ | refine ER.load1 rfl rfl rfl (hcell_of (by assumption) rfl) ?_ | refine ER.no rfl rfl ?_ | refine ER.noU rfl ?_ | refine ER.eqV rfl rfl rfl rfl rfl ?_ | refine ER.neqV rfl rfl rfl rfl rfl ?_ | refine ER.eqA rfl rfl rfl rfl rfl ?_ | refine ER.neqA rfl rfl rfl rfl rfl ?_ | refine ER.notB rfl rfl rfl ?_ | refine ER.pickT rfl rfl rfl rfl ?_ | refine ER.pickF rfl rfl rfl rfl ?_ | refine ER.extract rfl rfl rfl rfl ?_ | refine ER.cmpT rfl rfl rfl rfl rfl (by first | (dsimp only [cmpP]; omega) | exact rfl | exact Int.le_refl _) ?_ | refine ER.cmpF rfl rfl rfl rfl rfl (by first | (dsimp only [cmpP]; omega) | exact rfl | exact Int.le_refl _) ?_ | refine ER.boxA rfl rfl rfl ?_ | refine ER.box rfl rfl rfl ?_ | refine ER.allocA rfl rfl ?_ | refine ER.alloc rfl rfl ?_ | refine ER.add (kd := .i64) rfl rfl rfl rfl (i64_in (by omega) (by omega)) ?_ | refine ER.sub' (kd := .i64) rfl rfl rfl rfl (i64_in (by omega) (by omega)) ?_ | refine ER.rem (kd := .i64) rfl rfl rfl rfl (by decide) rfl ?_ | refine ER.indexArr rfl rfl rfl rfl (by omega) (by omega) ?_ | refine EK.condT rfl ?_ | refine EK.condF rfl ?_ | refine EK.ret ?_ | refine EK.exit rfl ?_))
  refine ER.load1 rfl rfl rfl (hcell_of (off := 0) d12.a1 rfl) ?_
  refine ER.callD rfl rfl rfl rfl rfl (now_ok k12) ?_
  (repeat (first | refine EK.seq ?_ | refine EK.region ?_ | refine ER.done ?_ | refine EK.skip ?_ | refine EK.block ?_ | refine EK.inBlock ?_ | refine ER.move rfl rfl rfl ?_ | refine ER.assign rfl rfl rfl ?_ | refine ER.nilCheck rfl rfl rfl ?_ | refine ER.fieldAddr rfl rfl rfl ?_ | refine ER.load1 rfl rfl rfl (hcell_of (by assumption) rfl) ?_ | refine ER.no rfl rfl ?_ | refine ER.noU rfl ?_ | refine ER.eqV rfl rfl rfl rfl rfl ?_ | refine ER.neqV rfl rfl rfl rfl rfl ?_ | refine ER.eqA rfl rfl rfl rfl rfl ?_ | refine ER.neqA rfl rfl rfl rfl rfl ?_ | refine ER.notB rfl rfl rfl ?_ | refine ER.pickT rfl rfl rfl rfl ?_ | refine ER.pickF rfl rfl rfl rfl ?_ | refine ER.extract rfl rfl rfl rfl ?_ | refine ER.cmpT rfl rfl rfl rfl rfl (by first | (dsimp only [cmpP]; omega) | exact rfl | exact Int.le_refl _) ?_ | refine ER.cmpF rfl rfl rfl rfl rfl (by first | (dsimp only [cmpP]; omega) | exact rfl | exact Int.le_refl _) ?_ | refine ER.boxA rfl rfl rfl ?_ | refine ER.box rfl rfl rfl ?_ | refine ER.allocA rfl rfl ?_ | refine ER.alloc rfl rfl ?_ | refine ER.add (kd := .i64) rfl rfl rfl rfl (i64_in (by omega) (by omega)) ?_ | refine ER.sub' (kd := .i64) rfl rfl rfl rfl (i64_in (by omega) (by omega)) ?_ | refine ER.rem (kd := .i64) rfl rfl rfl rfl (by decide) rfl ?_ | refine ER.indexArr rfl rfl rfl rfl (by omega) (by omega) ?_ | refine EK.condT rfl ?_ | refine EK.condF rfl ?_ | refine EK.ret ?_ | refine EK.exit rfl ?_))
  exact EU.ret1 rfl rfl ⟨rfl, w12, rfl⟩
end
end Go.Proofs.Ytlhpgoddoglhaaa
