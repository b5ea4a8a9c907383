/- Package prio: which level goes first; the law's works. Conditions: as each lemma says. -/
import Derived.Test.YtkppboglffdmnaaPrioNew
namespace Go.Proofs.Ytkppboglffdmnaa
open Go Go.TJ Go.Proofs

theorem bst_none {H : Nat → Hd} : ∀ {n : Nat}, (∀ q, q < n → (H q).1 = false) → bst H n = none
  | 0, _ => rfl
  | n + 1, h => by
    unfold bst
    rw [if_neg (fun x => by rw [h n (by omega)] at x; cases x.1)]
    exact bst_none (fun q hq => h q (by omega))
theorem bst_one {H : Nat → Hd} {a : Nat} (ha : (H a).1 = true) : ∀ {n : Nat}, a < n → (∀ q, q < n → q ≠ a → (H q).1 = false) → bst H n = some a
  | 0, h, _ => by omega
  | n + 1, h, hq => by
    unfold bst
    by_cases e : a = n
    · subst e
      have := bst_none (n := a) (fun q hqa => hq q (by omega) (by omega))
      rw [if_pos ⟨ha, fun b hb => by rw [this] at hb; cases hb⟩]
    · rw [if_neg (fun x => by rw [hq n (by omega) (fun y => e y.symm)] at x; cases x.1)]
      exact bst_one ha (by omega) (fun q hqn => hq q (by omega))
theorem bst_two {H : Nat → Hd} {a b : Nat} (hab : a < b) (ha : (H a).1 = true) (hb : (H b).1 = true) : ∀ {n : Nat}, b < n → (∀ q, q < n → q ≠ a → q ≠ b → (H q).1 = false) → bst H n = some (if 64 * ((b : Int) - a) > (H b).2.2 - (H a).2.2 then b else a)
  | 0, h, _ => by omega
  | n + 1, h, hq => by
    unfold bst
    by_cases e : b = n
    · subst e
      have h1 := bst_one ha hab (fun q hqa hqb => hq q (by omega) hqb (by omega))
      by_cases hgo : 64 * ((b : Int) - a) > (H b).2.2 - (H a).2.2
      · rw [if_pos ⟨hb, fun c hc => by rw [h1] at hc; cases hc; exact hgo⟩, if_pos hgo]
      · rw [if_neg (fun x => hgo (x.2 a h1)), if_neg hgo, h1]
    · rw [if_neg (fun x => by rw [hq n (by omega) (by omega) (fun y => e y.symm)] at x; cases x.1)]
      exact bst_two hab ha hb (by omega) (fun q hqn => hq q (by omega))

/-- Tickets are small. -/
def TickB (v : Key → Int) : Prop := ∀ q j, 0 ≤ v (kTick q j) ∧ v (kTick q j) ≤ 1000000
theorem tickB0 : TickB v0 := fun q j => by simp [v0]
theorem TickB.put {v : Key → Int} (t : TickB v) {m i I : Nat} {K x : Int} (h0 : 0 ≤ K) (h1 : K < 1000000) : TickB (putV m v i I K x) := fun q j => by
  unfold putV
  rw [ut_ne _ _ (by simp), ut_ne _ _ (by simp)]
  by_cases e : (kTick q j) = kTick i (I % m)
  · rw [e, ut_same]; omega
  · rw [ut_ne _ _ e, ut_ne _ _ (by simp), ut_ne _ _ (by simp)]; exact t q j
theorem TickB.take {v : Key → Int} (t : TickB v) {m b o : Nat} : TickB (takeV m v b o) := fun q j => by
  unfold takeV
  rw [ut_ne _ _ (by simp), ut_ne _ _ (by simp)]; exact t q j
theorem TickB.b {v : Key → Int} (t : TickB v) (q j : Nat) : -2305843009213693952 ≤ v (kTick q j) ∧ v (kTick q j) ≤ 2305843009213693952 := by
  have := t q j; omega

theorem hdF_fst {G : PG} {v : Key → Int} {oN : Nat → Nat} {q : Nat} : (hdF G v oN 0 q).1 = true ↔ q < G.L ∧ v (kTurn q (oN q % G.m)) = oN q + 1 := by
  unfold hdF
  by_cases h : 0 ≤ q ∧ q < G.L ∧ v (kTurn q (oN q % G.m)) = oN q + 1
  · rw [if_pos h]; simp [h.2]
  · rw [if_neg h]; simp only [Bool.false_eq_true, false_iff]; exact fun x => h ⟨Nat.zero_le _, x⟩
theorem hdF_tick {G : PG} {v : Key → Int} {oN : Nat → Nat} {q : Nat} (h : q < G.L ∧ v (kTurn q (oN q % G.m)) = oN q + 1) : (hdF G v oN 0 q).2.2 = v (kTick q (oN q % G.m)) := by
  unfold hdF
  rw [if_pos ⟨Nat.zero_le _, h⟩]
theorem hdF_not {G : PG} {v : Key → Int} {oN : Nat → Nat} {q : Nat} (h : ¬ (q < G.L ∧ v (kTurn q (oN q % G.m)) = oN q + 1)) : (hdF G v oN 0 q).1 = false := by
  cases e : (hdF G v oN 0 q).1
  · rfl
  · exact absurd (hdF_fst.1 e) h

section
variable {Γ : Type} {main : Bool} {h : Hp} {δ : Ix Γ}

theorem pfree {G : PG} {γ : Γ} : PFree NoS γ G := fun _ _ _ x => x

set_option maxHeartbeats 2000000 in
/-- The law's works: it answers true. -/
theorem works_ok : CallW Try.prog main NoS 67 #[] h δ (Ret fun w h' δ' => w = .bool true ∧ Upd (fun _ => False) h h' ∧ δ' = δ) := by
  refine CallW.start (n := 79) rfl rfl ?_
  (repeat (first | refine EK.seq ?_ | refine EK.region ?_ | refine ER.done ?_ | refine EK.skip ?_ | refine EK.block ?_ | refine EK.inBlock ?_ | refine ER.move rfl rfl rfl ?_ | refine ER.assign rfl rfl rfl ?_ | refine ER.nilCheck rfl rfl rfl ?_ | refine ER.fieldAddr rfl rfl rfl ?_ | refine ER.load1 rfl rfl rfl (hcell_of (by assumption) rfl) ?_ | refine ER.no rfl rfl ?_ | refine ER.noU rfl ?_ | refine ER.eqV rfl rfl rfl rfl rfl ?_ | refine ER.neqV rfl rfl rfl rfl rfl ?_ | refine ER.eqA rfl rfl rfl rfl rfl ?_ | refine ER.neqA rfl rfl rfl rfl rfl ?_ | refine ER.notB rfl rfl rfl ?_ | refine ER.pickT rfl rfl rfl rfl ?_ | refine ER.pickF rfl rfl rfl rfl ?_ | refine ER.extract rfl rfl rfl rfl ?_ | refine ER.cmpT rfl rfl rfl rfl rfl (by first | (dsimp only [cmpP]; omega) | exact rfl | exact Int.le_refl _) ?_ | refine ER.cmpF rfl rfl rfl rfl rfl (by first | (dsimp only [cmpP]; omega) | exact rfl | exact Int.le_refl _) ?_ | refine ER.boxA rfl rfl rfl ?_ | refine ER.box rfl rfl rfl ?_ | refine ER.allocA rfl rfl ?_ | refine ER.alloc rfl rfl ?_ | refine ER.add (kd := .i64) rfl rfl rfl rfl (i64_in (by omega) (by omega)) ?_ | refine ER.sub' (kd := .i64) rfl rfl rfl rfl (i64_in (by omega) (by omega)) ?_ | refine ER.mul (kd := .i64) rfl rfl rfl rfl (i64_in (by omega) (by omega)) ?_ | refine ER.rem (kd := .i64) rfl rfl rfl rfl (by decide) rfl ?_ | refine ER.indexArr rfl rfl rfl rfl (by omega) (by omega) ?_ | refine ER.len1 rfl rfl rfl ?_ | refine ER.indexSl rfl rfl rfl rfl (by omega) (by omega) ?_ | refine EK.condT rfl ?_ | refine EK.condF rfl ?_ | refine EK.ret ?_ | refine EK.exit rfl ?_))
  refine ER.callR rfl rfl rfl rfl rfl (new_ok (L := 2) (m := 2) (e := 1) (by omega) (by omega) rfl (by omega) (by omega) (fun _ _ _ x => x)) ?_
  rintro _ h1 δ1 ⟨rfl, u1, G, rfl, gL, gm, r1, ab⟩
  have own : ∀ {v : Key → Int} b, (priM G v).Own b → h.size ≤ b := fun b hb => by 
                                                                              obtain ⟨k, hk, rfl⟩ := hb
                                                                              have hk' : okP G.L G.m k := hk
                                                                              rw [gL, gm] at hk'
                                                                              exact ab k hk'
  (repeat (first | refine EK.seq ?_ | refine EK.region ?_ | refine ER.done ?_ | refine EK.skip ?_ | refine EK.block ?_ | refine EK.inBlock ?_ | refine ER.move rfl rfl rfl ?_ | refine ER.assign rfl rfl rfl ?_ | refine ER.nilCheck rfl rfl rfl ?_ | refine ER.fieldAddr rfl rfl rfl ?_ | refine ER.load1 rfl rfl rfl (hcell_of (by assumption) rfl) ?_ | refine ER.no rfl rfl ?_ | refine ER.noU rfl ?_ | refine ER.eqV rfl rfl rfl rfl rfl ?_ | refine ER.neqV rfl rfl rfl rfl rfl ?_ | refine ER.eqA rfl rfl rfl rfl rfl ?_ | refine ER.neqA rfl rfl rfl rfl rfl ?_ | refine ER.notB rfl rfl rfl ?_ | refine ER.pickT rfl rfl rfl rfl ?_ | refine ER.pickF rfl rfl rfl rfl ?_ | refine ER.extract rfl rfl rfl rfl ?_ | refine ER.cmpT rfl rfl rfl rfl rfl (by first | (dsimp only [cmpP]; omega) | exact rfl | exact Int.le_refl _) ?_ | refine ER.cmpF rfl rfl rfl rfl rfl (by first | (dsimp only [cmpP]; omega) | exact rfl | exact Int.le_refl _) ?_ | refine ER.boxA rfl rfl rfl ?_ | refine ER.box rfl rfl rfl ?_ | refine ER.allocA rfl rfl ?_ | refine ER.alloc rfl rfl ?_ | refine ER.add (kd := .i64) rfl rfl rfl rfl (i64_in (by omega) (by omega)) ?_ | refine ER.sub' (kd := .i64) rfl rfl rfl rfl (i64_in (by omega) (by omega)) ?_ | refine ER.mul (kd := .i64) rfl rfl rfl rfl (i64_in (by omega) (by omega)) ?_ | refine ER.rem (kd := .i64) rfl rfl rfl rfl (by decide) rfl ?_ | refine ER.indexArr rfl rfl rfl rfl (by omega) (by omega) ?_ | refine ER.len1 rfl rfl rfl ?_ | refine ER.indexSl rfl rfl rfl rfl (by omega) (by omega) ?_ | refine EK.condT rfl ?_ | refine EK.condF rfl ?_ | refine EK.ret ?_ | refine EK.exit rfl ?_))
  refine ER.callR rfl rfl rfl rfl rfl (put_ok (i := 0) (I := 0) (e := 1) (K := 0) (x := 7) r1 (by omega) (by rw [gm]) (by omega) rfl (by omega) (by rw [gm]; rfl) rfl (by omega) (by omega) pfree) ?_
  rintro _ h2 δ2 ⟨rfl, rfl, r2, u2⟩
  have w2 := u1.over u2 own
  rw [gm] at r2
  (repeat (first | refine EK.seq ?_ | refine EK.region ?_ | refine ER.done ?_ | refine EK.skip ?_ | refine EK.block ?_ | refine EK.inBlock ?_ | refine ER.move rfl rfl rfl ?_ | refine ER.assign rfl rfl rfl ?_ | refine ER.nilCheck rfl rfl rfl ?_ | refine ER.fieldAddr rfl rfl rfl ?_ | refine ER.load1 rfl rfl rfl (hcell_of (by assumption) rfl) ?_ | refine ER.no rfl rfl ?_ | refine ER.noU rfl ?_ | refine ER.eqV rfl rfl rfl rfl rfl ?_ | refine ER.neqV rfl rfl rfl rfl rfl ?_ | refine ER.eqA rfl rfl rfl rfl rfl ?_ | refine ER.neqA rfl rfl rfl rfl rfl ?_ | refine ER.notB rfl rfl rfl ?_ | refine ER.pickT rfl rfl rfl rfl ?_ | refine ER.pickF rfl rfl rfl rfl ?_ | refine ER.extract rfl rfl rfl rfl ?_ | refine ER.cmpT rfl rfl rfl rfl rfl (by first | (dsimp only [cmpP]; omega) | exact rfl | exact Int.le_refl _) ?_ | refine ER.cmpF rfl rfl rfl rfl rfl (by first | (dsimp only [cmpP]; omega) | exact rfl | exact Int.le_refl _) ?_ | refine ER.boxA rfl rfl rfl ?_ | refine ER.box rfl rfl rfl ?_ | refine ER.allocA rfl rfl ?_ | refine ER.alloc rfl rfl ?_ | refine ER.add (kd := .i64) rfl rfl rfl rfl (i64_in (by omega) (by omega)) ?_ | refine ER.sub' (kd := .i64) rfl rfl rfl rfl (i64_in (by omega) (by omega)) ?_ | refine ER.mul (kd := .i64) rfl rfl rfl rfl (i64_in (by omega) (by omega)) ?_ | refine ER.rem (kd := .i64) rfl rfl rfl rfl (by decide) rfl ?_ | refine ER.indexArr rfl rfl rfl rfl (by omega) (by omega) ?_ | refine ER.len1 rfl rfl rfl ?_ | refine ER.indexSl rfl rfl rfl rfl (by omega) (by omega) ?_ | refine EK.condT rfl ?_ | refine EK.condF rfl ?_ | refine EK.ret ?_ | refine EK.exit rfl ?_))
  refine ER.callR rfl rfl rfl rfl rfl (put_ok (i := 1) (I := 0) (e := 1) (K := 1) (x := 8) r2 (by omega) (by rw [gm]) (by omega) (by simp [putV, ut, v0]) (by omega) (by rw [gm]; simp [putV, ut, v0]) (by simp [putV, ut, v0]) (by omega) (by omega) pfree) ?_
  rintro _ h3 δ3 ⟨rfl, rfl, r3, u3⟩
  have w3 := w2.over u3 own
  rw [gm] at r3
  (repeat (first | refine EK.seq ?_ | refine EK.region ?_ | refine ER.done ?_ | refine EK.skip ?_ | refine EK.block ?_ | refine EK.inBlock ?_ | refine ER.move rfl rfl rfl ?_ | refine ER.assign rfl rfl rfl ?_ | refine ER.nilCheck rfl rfl rfl ?_ | refine ER.fieldAddr rfl rfl rfl ?_ | refine ER.load1 rfl rfl rfl (hcell_of (by assumption) rfl) ?_ | refine ER.no rfl rfl ?_ | refine ER.noU rfl ?_ | refine ER.eqV rfl rfl rfl rfl rfl ?_ | refine ER.neqV rfl rfl rfl rfl rfl ?_ | refine ER.eqA rfl rfl rfl rfl rfl ?_ | refine ER.neqA rfl rfl rfl rfl rfl ?_ | refine ER.notB rfl rfl rfl ?_ | refine ER.pickT rfl rfl rfl rfl ?_ | refine ER.pickF rfl rfl rfl rfl ?_ | refine ER.extract rfl rfl rfl rfl ?_ | refine ER.cmpT rfl rfl rfl rfl rfl (by first | (dsimp only [cmpP]; omega) | exact rfl | exact Int.le_refl _) ?_ | refine ER.cmpF rfl rfl rfl rfl rfl (by first | (dsimp only [cmpP]; omega) | exact rfl | exact Int.le_refl _) ?_ | refine ER.boxA rfl rfl rfl ?_ | refine ER.box rfl rfl rfl ?_ | refine ER.allocA rfl rfl ?_ | refine ER.alloc rfl rfl ?_ | refine ER.add (kd := .i64) rfl rfl rfl rfl (i64_in (by omega) (by omega)) ?_ | refine ER.sub' (kd := .i64) rfl rfl rfl rfl (i64_in (by omega) (by omega)) ?_ | refine ER.mul (kd := .i64) rfl rfl rfl rfl (i64_in (by omega) (by omega)) ?_ | refine ER.rem (kd := .i64) rfl rfl rfl rfl (by decide) rfl ?_ | refine ER.indexArr rfl rfl rfl rfl (by omega) (by omega) ?_ | refine ER.len1 rfl rfl rfl ?_ | refine ER.indexSl rfl rfl rfl rfl (by omega) (by omega) ?_ | refine EK.condT rfl ?_ | refine EK.condF rfl ?_ | refine EK.ret ?_ | refine EK.exit rfl ?_))
  refine ER.callD rfl rfl rfl rfl rfl (put_arg (on := 2) r3 (.inr (by rw [gL]; decide))) ?_
  have t3 : TickB (putV 2 (putV 2 v0 0 0 0 7) 1 0 1 8) := (tickB0.put (by omega) (by omega)).put (by omega) (by omega)
  obtain ⟨w, hw⟩ : ∃ w, w = putV 2 (putV 2 v0 0 0 0 7) 1 0 1 8 := ⟨_, rfl⟩
  rw [← hw] at r3 t3
  have f0 : w (kTurn 0 0) = 1 := by rw [hw]; simp [putV, ut, v0]
  have f1 : w (kTurn 1 0) = 1 := by rw [hw]; simp [putV, ut, v0]
  have f2 : w (kTick 0 0) = 1 := by rw [hw]; simp [putV, ut, v0]
  have f3 : w (kTick 1 0) = 2 := by rw [hw]; simp [putV, ut, v0]
  have f4 : ∀ q, w (kOut q) = 0 := fun q => by rw [hw]; simp [putV, ut, v0]
  have f5 : w (kSlot 1 0) = 8 := by rw [hw]; simp [putV, ut, v0]
  have f6 : w (kSlot 0 0) = 7 := by rw [hw]; simp [putV, ut, v0]
  have f7 : ∀ q, w (kTurn q 1) = 1 := fun q => by rw [hw]; simp [putV, ut, v0]
  clear hw
  have b1 : bst (hdF G w (fun _ => 0) 0) 8 = some 1 := by
    have h0 : 0 < G.L ∧ w (kTurn 0 (0 % G.m)) = ((0 : Nat) : Int) + 1 := ⟨by omega, by rw [gm]; exact f0⟩
    have h1 : 1 < G.L ∧ w (kTurn 1 (0 % G.m)) = ((0 : Nat) : Int) + 1 := ⟨by omega, by rw [gm]; exact f1⟩
    rw [bst_two (a := 0) (b := 1) (by omega) (hdF_fst.2 h0) (hdF_fst.2 h1) (by omega) (fun q _ h2 h3 => hdF_not (fun x => by have := x.1; omega)), hdF_tick h1, hdF_tick h0, gm]
    rw [show w (kTick 1 (0 % 2)) = 2 from f3, show w (kTick 0 (0 % 2)) = 1 from f2, if_pos (by decide)]
  (repeat (first | refine EK.seq ?_ | refine EK.region ?_ | refine ER.done ?_ | refine EK.skip ?_ | refine EK.block ?_ | refine EK.inBlock ?_ | refine ER.move rfl rfl rfl ?_ | refine ER.assign rfl rfl rfl ?_ | refine ER.nilCheck rfl rfl rfl ?_ | refine ER.fieldAddr rfl rfl rfl ?_ | refine ER.load1 rfl rfl rfl (hcell_of (by assumption) rfl) ?_ | refine ER.no rfl rfl ?_ | refine ER.noU rfl ?_ | refine ER.eqV rfl rfl rfl rfl rfl ?_ | refine ER.neqV rfl rfl rfl rfl rfl ?_ | refine ER.eqA rfl rfl rfl rfl rfl ?_ | refine ER.neqA rfl rfl rfl rfl rfl ?_ | refine ER.notB rfl rfl rfl ?_ | refine ER.pickT rfl rfl rfl rfl ?_ | refine ER.pickF rfl rfl rfl rfl ?_ | refine ER.extract rfl rfl rfl rfl ?_ | refine ER.cmpT rfl rfl rfl rfl rfl (by first | (dsimp only [cmpP]; omega) | exact rfl | exact Int.le_refl _) ?_ | refine ER.cmpF rfl rfl rfl rfl rfl (by first | (dsimp only [cmpP]; omega) | exact rfl | exact Int.le_refl _) ?_ | refine ER.boxA rfl rfl rfl ?_ | refine ER.box rfl rfl rfl ?_ | refine ER.allocA rfl rfl ?_ | refine ER.alloc rfl rfl ?_ | refine ER.add (kd := .i64) rfl rfl rfl rfl (i64_in (by omega) (by omega)) ?_ | refine ER.sub' (kd := .i64) rfl rfl rfl rfl (i64_in (by omega) (by omega)) ?_ | refine ER.mul (kd := .i64) rfl rfl rfl rfl (i64_in (by omega) (by omega)) ?_ | refine ER.rem (kd := .i64) rfl rfl rfl rfl (by decide) rfl ?_ | refine ER.indexArr rfl rfl rfl rfl (by omega) (by omega) ?_ | refine ER.len1 rfl rfl rfl ?_ | refine ER.indexSl rfl rfl rfl rfl (by omega) (by omega) ?_ | refine EK.condT rfl ?_ | refine EK.condF rfl ?_ | refine EK.ret ?_ | refine EK.exit rfl ?_))
  refine ER.callR rfl rfl rfl rfl rfl (take_ok (b := 1) (e := 1) (oN := fun _ => 0) r3 (by rw [gm]) (by omega) (by omega) (by omega) (fun q _ => ⟨by rw [f4]; rfl, by omega⟩) (fun q j _ => t3.b q j) (fun _ _ _ x => x) pfree b1) ?_
  rintro _ h4 δ4 ⟨rfl, rfl, r4, u4⟩
  have w4 := w3.over u4 own
  rw [gm] at r4 ⊢
  rw [show w (kSlot 1 (0 % 2)) = 8 from f5]
  have t4 := t3.take (m := 2) (b := 1) (o := 0)
  have b2 : bst (hdF G (takeV 2 w 1 0) (fun q => if q = 1 then 1 else 0) 0) 8 = some 0 := by
    refine bst_one (hdF_fst.2 ⟨by omega, ?_⟩) (by omega) (fun q _ h0 => hdF_not (fun x => ?_))
    · rw [gm]; simp [takeV, ut]; exact f0
    · obtain ⟨x1, x2⟩ := x
      obtain rfl : q = 1 := by omega
      rw [gm] at x2
      simp [takeV, ut] at x2
      rw [f7] at x2
      omega
  (repeat (first | refine EK.seq ?_ | refine EK.region ?_ | refine ER.done ?_ | refine EK.skip ?_ | refine EK.block ?_ | refine EK.inBlock ?_ | refine ER.move rfl rfl rfl ?_ | refine ER.assign rfl rfl rfl ?_ | refine ER.nilCheck rfl rfl rfl ?_ | refine ER.fieldAddr rfl rfl rfl ?_ | refine ER.load1 rfl rfl rfl (hcell_of (by assumption) rfl) ?_ | refine ER.no rfl rfl ?_ | refine ER.noU rfl ?_ | refine ER.eqV rfl rfl rfl rfl rfl ?_ | refine ER.neqV rfl rfl rfl rfl rfl ?_ | refine ER.eqA rfl rfl rfl rfl rfl ?_ | refine ER.neqA rfl rfl rfl rfl rfl ?_ | refine ER.notB rfl rfl rfl ?_ | refine ER.pickT rfl rfl rfl rfl ?_ | refine ER.pickF rfl rfl rfl rfl ?_ | refine ER.extract rfl rfl rfl rfl ?_ | refine ER.cmpT rfl rfl rfl rfl rfl (by first | (dsimp only [cmpP]; omega) | exact rfl | exact Int.le_refl _) ?_ | refine ER.cmpF rfl rfl rfl rfl rfl (by first | (dsimp only [cmpP]; omega) | exact rfl | exact Int.le_refl _) ?_ | refine ER.boxA rfl rfl rfl ?_ | refine ER.box rfl rfl rfl ?_ | refine ER.allocA rfl rfl ?_ | refine ER.alloc rfl rfl ?_ | refine ER.add (kd := .i64) rfl rfl rfl rfl (i64_in (by omega) (by omega)) ?_ | refine ER.sub' (kd := .i64) rfl rfl rfl rfl (i64_in (by omega) (by omega)) ?_ | refine ER.mul (kd := .i64) rfl rfl rfl rfl (i64_in (by omega) (by omega)) ?_ | refine ER.rem (kd := .i64) rfl rfl rfl rfl (by decide) rfl ?_ | refine ER.indexArr rfl rfl rfl rfl (by omega) (by omega) ?_ | refine ER.len1 rfl rfl rfl ?_ | refine ER.indexSl rfl rfl rfl rfl (by omega) (by omega) ?_ | refine EK.condT rfl ?_ | refine EK.condF rfl ?_ | refine EK.ret ?_ | refine EK.exit rfl ?_))
  refine ER.callR rfl rfl rfl rfl rfl (take_ok (b := 0) (e := 1) (oN := fun q => if q = 1 then 1 else 0) r4 (by rw [gm]) (by omega) (by omega) (by omega) (fun q _ => ⟨?_, ?_⟩) (fun q j _ => t4.b q j) (fun _ _ _ x => x) pfree b2) ?_
  · by_cases e : q = 1
    · subst e; simp [takeV, ut]
    · rw [if_neg e]; simp [takeV, ut, e]; exact f4 q
  · split <;> omega
  rintro _ h5 δ5 ⟨rfl, rfl, r5, u5⟩
  have w5 := w4.over u5 own
  rw [gm] at r5 ⊢
  rw [show takeV 2 w 1 0 (kSlot 0 ((if 0 = 1 then 1 else 0) % 2)) = 7 by simp [takeV, ut]; exact f6]
  have t5 := t4.take (m := 2) (b := 0) (o := 0)
  have b3 : bst (hdF G (takeV 2 (takeV 2 w 1 0) 0 0) (fun _ => 1) 0) 8 = none := by
    refine bst_none (fun q _ => hdF_not (fun x => ?_))
    obtain ⟨x1, x2⟩ := x
    rw [gm] at x2
    simp [takeV, ut] at x2
    rw [f7] at x2
    omega
  (repeat (first | refine EK.seq ?_ | refine EK.region ?_ | refine ER.done ?_ | refine EK.skip ?_ | refine EK.block ?_ | refine EK.inBlock ?_ | refine ER.move rfl rfl rfl ?_ | refine ER.assign rfl rfl rfl ?_ | refine ER.nilCheck rfl rfl rfl ?_ | refine ER.fieldAddr rfl rfl rfl ?_ | refine ER.load1 rfl rfl rfl (hcell_of (by assumption) rfl) ?_ | refine ER.no rfl rfl ?_ | refine ER.noU rfl ?_ | refine ER.eqV rfl rfl rfl rfl rfl ?_ | refine ER.neqV rfl rfl rfl rfl rfl ?_ | refine ER.eqA rfl rfl rfl rfl rfl ?_ | refine ER.neqA rfl rfl rfl rfl rfl ?_ | refine ER.notB rfl rfl rfl ?_ | refine ER.pickT rfl rfl rfl rfl ?_ | refine ER.pickF rfl rfl rfl rfl ?_ | refine ER.extract rfl rfl rfl rfl ?_ | refine ER.cmpT rfl rfl rfl rfl rfl (by first | (dsimp only [cmpP]; omega) | exact rfl | exact Int.le_refl _) ?_ | refine ER.cmpF rfl rfl rfl rfl rfl (by first | (dsimp only [cmpP]; omega) | exact rfl | exact Int.le_refl _) ?_ | refine ER.boxA rfl rfl rfl ?_ | refine ER.box rfl rfl rfl ?_ | refine ER.allocA rfl rfl ?_ | refine ER.alloc rfl rfl ?_ | refine ER.add (kd := .i64) rfl rfl rfl rfl (i64_in (by omega) (by omega)) ?_ | refine ER.sub' (kd := .i64) rfl rfl rfl rfl (i64_in (by omega) (by omega)) ?_ | refine ER.mul (kd := .i64) rfl rfl rfl rfl (i64_in (by omega) (by omega)) ?_ | refine ER.rem (kd := .i64) rfl rfl rfl rfl (by decide) rfl ?_ | refine ER.indexArr rfl rfl rfl rfl (by omega) (by omega) ?_ | refine ER.len1 rfl rfl rfl ?_ | refine ER.indexSl rfl rfl rfl rfl (by omega) (by omega) ?_ | refine EK.condT rfl ?_ | refine EK.condF rfl ?_ | refine EK.ret ?_ | refine EK.exit rfl ?_))
  refine ER.callR rfl rfl rfl rfl rfl (take_none (e := 1) (oN := fun _ => 1) r5 (by rw [gm]) (by omega) (by omega) (by omega) (fun q hq => ⟨?_, by omega⟩) (fun q j _ => t5.b q j) (fun _ _ _ x => x) b3) ?_
  · rcases (show q = 0 ∨ q = 1 by omega) with rfl | rfl <;> simp [takeV, ut]
  rintro _ h6 δ6 ⟨rfl, rfl, u6⟩
  (repeat (first | refine EK.seq ?_ | refine EK.region ?_ | refine ER.done ?_ | refine EK.skip ?_ | refine EK.block ?_ | refine EK.inBlock ?_ | refine ER.move rfl rfl rfl ?_ | refine ER.assign rfl rfl rfl ?_ | refine ER.nilCheck rfl rfl rfl ?_ | refine ER.fieldAddr rfl rfl rfl ?_ | refine ER.load1 rfl rfl rfl (hcell_of (by assumption) rfl) ?_ | refine ER.no rfl rfl ?_ | refine ER.noU rfl ?_ | refine ER.eqV rfl rfl rfl rfl rfl ?_ | refine ER.neqV rfl rfl rfl rfl rfl ?_ | refine ER.eqA rfl rfl rfl rfl rfl ?_ | refine ER.neqA rfl rfl rfl rfl rfl ?_ | refine ER.notB rfl rfl rfl ?_ | refine ER.pickT rfl rfl rfl rfl ?_ | refine ER.pickF rfl rfl rfl rfl ?_ | refine ER.extract rfl rfl rfl rfl ?_ | refine ER.cmpT rfl rfl rfl rfl rfl (by first | (dsimp only [cmpP]; omega) | exact rfl | exact Int.le_refl _) ?_ | refine ER.cmpF rfl rfl rfl rfl rfl (by first | (dsimp only [cmpP]; omega) | exact rfl | exact Int.le_refl _) ?_ | refine ER.boxA rfl rfl rfl ?_ | refine ER.box rfl rfl rfl ?_ | refine ER.allocA rfl rfl ?_ | refine ER.alloc rfl rfl ?_ | refine ER.add (kd := .i64) rfl rfl rfl rfl (i64_in (by omega) (by omega)) ?_ | refine ER.sub' (kd := .i64) rfl rfl rfl rfl (i64_in (by omega) (by omega)) ?_ | refine ER.mul (kd := .i64) rfl rfl rfl rfl (i64_in (by omega) (by omega)) ?_ | refine ER.rem (kd := .i64) rfl rfl rfl rfl (by decide) rfl ?_ | refine ER.indexArr rfl rfl rfl rfl (by omega) (by omega) ?_ | refine ER.len1 rfl rfl rfl ?_ | refine ER.indexSl rfl rfl rfl rfl (by omega) (by omega) ?_ | refine EK.condT rfl ?_ | refine EK.condF rfl ?_ | refine EK.ret ?_ | refine EK.exit rfl ?_))
  exact EU.ret1 rfl rfl ⟨rfl, w5.trans u6, rfl⟩
end
end Go.Proofs.Ytkppboglffdmnaa
