/- Package prio: which level goes first; the law's works; the law PrioAges, its walk. Conditions: as each lemma says. -/
import Derived.Test.YtlhpgoddoglhaaaPrioNew
namespace Go.Proofs.Ytlhpgoddoglhaaa
open Go Go.TJ Go.Proofs

theorem bst_none {H : Nat → Hd} : ∀ {n : Nat}, (∀ q, q < n → (H q).1 = false) → bst H n = none
  | 0, _ => rfl
  | n + 1, h => by
    unfold bst
    rw [if_neg (fun x => by rw [h n (by omega)] at x; cases x.1)]
    exact bst_none (fun q hq => h q (by omega))
theorem bst_one {H : Nat → Hd} {a : Nat} (ha : (H a).1 = true) : ∀ {n : Nat}, a < n → (∀ q, q < n → q ≠ a → (H q).1 = false) → bst H n = some a
  | 0, h, _ => by omega
  | n + 1, h, hq => by
    unfold bst
    by_cases e : a = n
    · subst e
      have := bst_none (n := a) (fun q hqa => hq q (by omega) (by omega))
      rw [if_pos ⟨ha, fun b hb => by rw [this] at hb; cases hb⟩]
    · rw [if_neg (fun x => by rw [hq n (by omega) (fun y => e y.symm)] at x; cases x.1)]
      exact bst_one ha (by omega) (fun q hqn => hq q (by omega))
theorem bst_two {H : Nat → Hd} {a b : Nat} (hab : a < b) (ha : (H a).1 = true) (hb : (H b).1 = true) : ∀ {n : Nat}, b < n → (∀ q, q < n → q ≠ a → q ≠ b → (H q).1 = false) → bst H n = some (if 64 * ((b : Int) - a) > (H b).2.2 - (H a).2.2 then b else a)
  | 0, h, _ => by omega
  | n + 1, h, hq => by
    unfold bst
    by_cases e : b = n
    · subst e
      have h1 := bst_one ha hab (fun q hqa hqb => hq q (by omega) hqb (by omega))
      by_cases hgo : 64 * ((b : Int) - a) > (H b).2.2 - (H a).2.2
      · rw [if_pos ⟨hb, fun c hc => by rw [h1] at hc; cases hc; exact hgo⟩, if_pos hgo]
      · rw [if_neg (fun x => hgo (x.2 a h1)), if_neg hgo, h1]
    · rw [if_neg (fun x => by rw [hq n (by omega) (by omega) (fun y => e y.symm)] at x; cases x.1)]
      exact bst_two hab ha hb (by omega) (fun q hqn => hq q (by omega))

/-- Tickets are small. -/
def TickB (v : Key → Int) : Prop := ∀ q j, 0 ≤ v (kTick q j) ∧ v (kTick q j) ≤ 1000000
theorem tickB0 : TickB v0 := fun q j => by simp [v0]
theorem TickB.put {v : Key → Int} (t : TickB v) {m i I : Nat} {K x : Int} (h0 : 0 ≤ K) (h1 : K < 1000000) : TickB (putV m v i I K x) := fun q j => by
  unfold putV
  rw [ut_ne _ _ (by simp), ut_ne _ _ (by simp)]
  by_cases e : (kTick q j) = kTick i (I % m)
  · rw [e, ut_same]; omega
  · rw [ut_ne _ _ e, ut_ne _ _ (by simp), ut_ne _ _ (by simp)]; exact t q j
theorem TickB.take {v : Key → Int} (t : TickB v) {m b o : Nat} : TickB (takeV m v b o) := fun q j => by
  unfold takeV
  rw [ut_ne _ _ (by simp), ut_ne _ _ (by simp)]; exact t q j
theorem TickB.b {v : Key → Int} (t : TickB v) (q j : Nat) : -2305843009213693952 ≤ v (kTick q j) ∧ v (kTick q j) ≤ 2305843009213693952 := by
  have := t q j; omega

theorem hdF_fst {G : PG} {v : Key → Int} {oN : Nat → Nat} {q : Nat} : (hdF G v oN 0 q).1 = true ↔ q < G.L ∧ v (kTurn q (oN q % G.m)) = oN q + 1 := by
  unfold hdF
  by_cases h : 0 ≤ q ∧ q < G.L ∧ v (kTurn q (oN q % G.m)) = oN q + 1
  · rw [if_pos h]; simp [h.2]
  · rw [if_neg h]; simp only [Bool.false_eq_true, false_iff]; exact fun x => h ⟨Nat.zero_le _, x⟩
theorem hdF_tick {G : PG} {v : Key → Int} {oN : Nat → Nat} {q : Nat} (h : q < G.L ∧ v (kTurn q (oN q % G.m)) = oN q + 1) : (hdF G v oN 0 q).2.2 = v (kTick q (oN q % G.m)) := by
  unfold hdF
  rw [if_pos ⟨Nat.zero_le _, h⟩]
theorem hdF_not {G : PG} {v : Key → Int} {oN : Nat → Nat} {q : Nat} (h : ¬ (q < G.L ∧ v (kTurn q (oN q % G.m)) = oN q + 1)) : (hdF G v oN 0 q).1 = false := by
  cases e : (hdF G v oN 0 q).1
  · rfl
  · exact absurd (hdF_fst.1 e) h

section
variable {Γ : Type} {main : Bool} {h : Hp} {δ : Ix Γ}

theorem pfree {G : PG} {γ : Γ} : PFree NoS γ G := fun _ _ _ x => x

set_option maxHeartbeats 2000000 in
/-- The law's works: it answers true. -/
theorem works_ok : CallW Try.prog main NoS 15 #[] h δ (Ret fun w h' δ' => w = .bool true ∧ Upd (fun _ => False) h h' ∧ δ' = δ) := by
  refine CallW.start (n := 79) rfl rfl ?_
  (repeat (first | refine EK.seq ?_ | refine EK.region ?_ | refine ER.done ?_ | refine EK.skip ?_ | refine EK.block ?_ | refine EK.inBlock ?_ | refine ER.move rfl rfl rfl ?_ | refine ER.assign rfl rfl rfl ?_ | refine ER.nilCheck rfl rfl rfl ?_ | refine ER.fieldAddr rfl rfl rfl ?_ | refine ER.load1 rfl rfl rfl (hcell_of (by assumption) rfl) ?_ | refine ER.no rfl rfl ?_ | refine ER.noU rfl ?_ | refine ER.eqV rfl rfl rfl rfl rfl ?_ | refine ER.neqV rfl rfl rfl rfl rfl ?_ | refine ER.eqA rfl rfl rfl rfl rfl ?_ | refine ER.neqA rfl rfl rfl rfl rfl ?_ | refine ER.notB rfl rfl rfl ?_ | refine ER.pickT rfl rfl rfl rfl ?_ | refine ER.pickF rfl rfl rfl rfl ?_ | refine ER.extract rfl rfl rfl rfl ?_ | refine ER.cmpT rfl rfl rfl rfl rfl (by first | (dsimp only [cmpP]; omega) | exact rfl | exact Int.le_refl _) ?_ | refine ER.cmpF rfl rfl rfl rfl rfl (by first | (dsimp only [cmpP]; omega) | exact rfl | exact Int.le_refl _) ?_ | refine ER.boxA rfl rfl rfl ?_ | refine ER.box rfl rfl rfl ?_ | refine ER.allocA rfl rfl ?_ | refine ER.alloc rfl rfl ?_ | refine ER.add (kd := .i64) rfl rfl rfl rfl (i64_in (by omega) (by omega)) ?_ | refine ER.sub' (kd := .i64) rfl rfl rfl rfl (i64_in (by omega) (by omega)) ?_ | refine ER.mul (kd := .i64) rfl rfl rfl rfl (i64_in (by omega) (by omega)) ?_ | refine ER.rem (kd := .i64) rfl rfl rfl rfl (by decide) rfl ?_ | refine ER.indexArr rfl rfl rfl rfl (by omega) (by omega) ?_ | refine ER.len1 rfl rfl rfl ?_ | refine ER.indexSl rfl rfl rfl rfl (by omega) (by omega) ?_ | refine EK.condT rfl ?_ | refine EK.condF rfl ?_ | refine EK.ret ?_ | refine EK.exit rfl ?_))
  refine ER.callR rfl rfl rfl rfl rfl (new_ok (L := 2) (m := 2) (e := 1) (by omega) (by omega) rfl (by omega) (by omega) (fun _ _ _ x => x)) ?_
  rintro _ h1 δ1 ⟨rfl, u1, G, rfl, gL, gm, r1, ab⟩
  have own : ∀ {v : Key → Int} b, (priM G v).Own b → h.size ≤ b := fun b hb => by 
                                                                              obtain ⟨k, hk, rfl⟩ := hb
                                                                              have hk' : okP G.L G.m k := hk
                                                                              rw [gL, gm] at hk'
                                                                              exact ab k hk'
  (repeat (first | refine EK.seq ?_ | refine EK.region ?_ | refine ER.done ?_ | refine EK.skip ?_ | refine EK.block ?_ | refine EK.inBlock ?_ | refine ER.move rfl rfl rfl ?_ | refine ER.assign rfl rfl rfl ?_ | refine ER.nilCheck rfl rfl rfl ?_ | refine ER.fieldAddr rfl rfl rfl ?_ | refine ER.load1 rfl rfl rfl (hcell_of (by assumption) rfl) ?_ | refine ER.no rfl rfl ?_ | refine ER.noU rfl ?_ | refine ER.eqV rfl rfl rfl rfl rfl ?_ | refine ER.neqV rfl rfl rfl rfl rfl ?_ | refine ER.eqA rfl rfl rfl rfl rfl ?_ | refine ER.neqA rfl rfl rfl rfl rfl ?_ | refine ER.notB rfl rfl rfl ?_ | refine ER.pickT rfl rfl rfl rfl ?_ | refine ER.pickF rfl rfl rfl rfl ?_ | refine ER.extract rfl rfl rfl rfl ?_ | refine ER.cmpT rfl rfl rfl rfl rfl (by first | (dsimp only [cmpP]; omega) | exact rfl | exact Int.le_refl _) ?_ | refine ER.cmpF rfl rfl rfl rfl rfl (by first | (dsimp only [cmpP]; omega) | exact rfl | exact Int.le_refl _) ?_ | refine ER.boxA rfl rfl rfl ?_ | refine ER.box rfl rfl rfl ?_ | refine ER.allocA rfl rfl ?_ | refine ER.alloc rfl rfl ?_ | refine ER.add (kd := .i64) rfl rfl rfl rfl (i64_in (by omega) (by omega)) ?_ | refine ER.sub' (kd := .i64) rfl rfl rfl rfl (i64_in (by omega) (by omega)) ?_ | refine ER.mul (kd := .i64) rfl rfl rfl rfl (i64_in (by omega) (by omega)) ?_ | refine ER.rem (kd := .i64) rfl rfl rfl rfl (by decide) rfl ?_ | refine ER.indexArr rfl rfl rfl rfl (by omega) (by omega) ?_ | refine ER.len1 rfl rfl rfl ?_ | refine ER.indexSl rfl rfl rfl rfl (by omega) (by omega) ?_ | refine EK.condT rfl ?_ | refine EK.condF rfl ?_ | refine EK.ret ?_ | refine EK.exit rfl ?_))
  refine ER.callR rfl rfl rfl rfl rfl (put_ok (i := 0) (I := 0) (e := 1) (K := 0) (x := 7) r1 (by omega) (by rw [gm]) (by omega) rfl (by omega) (by rw [gm]; rfl) rfl (by omega) (by omega) pfree) ?_
  rintro _ h2 δ2 ⟨rfl, rfl, r2, u2⟩
  have w2 := u1.over u2 own
  rw [gm] at r2
  (repeat (first | refine EK.seq ?_ | refine EK.region ?_ | refine ER.done ?_ | refine EK.skip ?_ | refine EK.block ?_ | refine EK.inBlock ?_ | refine ER.move rfl rfl rfl ?_ | refine ER.assign rfl rfl rfl ?_ | refine ER.nilCheck rfl rfl rfl ?_ | refine ER.fieldAddr rfl rfl rfl ?_ | refine ER.load1 rfl rfl rfl (hcell_of (by assumption) rfl) ?_ | refine ER.no rfl rfl ?_ | refine ER.noU rfl ?_ | refine ER.eqV rfl rfl rfl rfl rfl ?_ | refine ER.neqV rfl rfl rfl rfl rfl ?_ | refine ER.eqA rfl rfl rfl rfl rfl ?_ | refine ER.neqA rfl rfl rfl rfl rfl ?_ | refine ER.notB rfl rfl rfl ?_ | refine ER.pickT rfl rfl rfl rfl ?_ | refine ER.pickF rfl rfl rfl rfl ?_ | refine ER.extract rfl rfl rfl rfl ?_ | refine ER.cmpT rfl rfl rfl rfl rfl (by first | (dsimp only [cmpP]; omega) | exact rfl | exact Int.le_refl _) ?_ | refine ER.cmpF rfl rfl rfl rfl rfl (by first | (dsimp only [cmpP]; omega) | exact rfl | exact Int.le_refl _) ?_ | refine ER.boxA rfl rfl rfl ?_ | refine ER.box rfl rfl rfl ?_ | refine ER.allocA rfl rfl ?_ | refine ER.alloc rfl rfl ?_ | refine ER.add (kd := .i64) rfl rfl rfl rfl (i64_in (by omega) (by omega)) ?_ | refine ER.sub' (kd := .i64) rfl rfl rfl rfl (i64_in (by omega) (by omega)) ?_ | refine ER.mul (kd := .i64) rfl rfl rfl rfl (i64_in (by omega) (by omega)) ?_ | refine ER.rem (kd := .i64) rfl rfl rfl rfl (by decide) rfl ?_ | refine ER.indexArr rfl rfl rfl rfl (by omega) (by omega) ?_ | refine ER.len1 rfl rfl rfl ?_ | refine ER.indexSl rfl rfl rfl rfl (by omega) (by omega) ?_ | refine EK.condT rfl ?_ | refine EK.condF rfl ?_ | refine EK.ret ?_ | refine EK.exit rfl ?_))
  refine ER.callR rfl rfl rfl rfl rfl (put_ok (i := 1) (I := 0) (e := 1) (K := 1) (x := 8) r2 (by omega) (by rw [gm]) (by omega) (by simp [putV, ut, v0]) (by omega) (by rw [gm]; simp [putV, ut, v0]) (by simp [putV, ut, v0]) (by omega) (by omega) pfree) ?_
  rintro _ h3 δ3 ⟨rfl, rfl, r3, u3⟩
  have w3 := w2.over u3 own
  rw [gm] at r3
  (repeat (first | refine EK.seq ?_ | refine EK.region ?_ | refine ER.done ?_ | refine EK.skip ?_ | refine EK.block ?_ | refine EK.inBlock ?_ | refine ER.move rfl rfl rfl ?_ | refine ER.assign rfl rfl rfl ?_ | refine ER.nilCheck rfl rfl rfl ?_ | refine ER.fieldAddr rfl rfl rfl ?_ | refine ER.load1 rfl rfl rfl (hcell_of (by assumption) rfl) ?_ | refine ER.no rfl rfl ?_ | refine ER.noU rfl ?_ | refine ER.eqV rfl rfl rfl rfl rfl ?_ | refine ER.neqV rfl rfl rfl rfl rfl ?_ | refine ER.eqA rfl rfl rfl rfl rfl ?_ | refine ER.neqA rfl rfl rfl rfl rfl ?_ | refine ER.notB rfl rfl rfl ?_ | refine ER.pickT rfl rfl rfl rfl ?_ | refine ER.pickF rfl rfl rfl rfl ?_ | refine ER.extract rfl rfl rfl rfl ?_ | refine ER.cmpT rfl rfl rfl rfl rfl (by first | (dsimp only [cmpP]; omega) | exact rfl | exact Int.le_refl _) ?_ | refine ER.cmpF rfl rfl rfl rfl rfl (by first | (dsimp only [cmpP]; omega) | exact rfl | exact Int.le_refl _) ?_ | refine ER.boxA rfl rfl rfl ?_ | refine ER.box rfl rfl rfl ?_ | refine ER.allocA rfl rfl ?_ | refine ER.alloc rfl rfl ?_ | refine ER.add (kd := .i64) rfl rfl rfl rfl (i64_in (by omega) (by omega)) ?_ | refine ER.sub' (kd := .i64) rfl rfl rfl rfl (i64_in (by omega) (by omega)) ?_ | refine ER.mul (kd := .i64) rfl rfl rfl rfl (i64_in (by omega) (by omega)) ?_ | refine ER.rem (kd := .i64) rfl rfl rfl rfl (by decide) rfl ?_ | refine ER.indexArr rfl rfl rfl rfl (by omega) (by omega) ?_ | refine ER.len1 rfl rfl rfl ?_ | refine ER.indexSl rfl rfl rfl rfl (by omega) (by omega) ?_ | refine EK.condT rfl ?_ | refine EK.condF rfl ?_ | refine EK.ret ?_ | refine EK.exit rfl ?_))
  refine ER.callD rfl rfl rfl rfl rfl (put_arg (on := 2) r3 (.inr (by rw [gL]; decide))) ?_
  have t3 : TickB (putV 2 (putV 2 v0 0 0 0 7) 1 0 1 8) := (tickB0.put (by omega) (by omega)).put (by omega) (by omega)
  obtain ⟨w, hw⟩ : ∃ w, w = putV 2 (putV 2 v0 0 0 0 7) 1 0 1 8 := ⟨_, rfl⟩
  rw [← hw] at r3 t3
  have f0 : w (kTurn 0 0) = 1 := by rw [hw]; simp [putV, ut, v0]
  have f1 : w (kTurn 1 0) = 1 := by rw [hw]; simp [putV, ut, v0]
  have f2 : w (kTick 0 0) = 1 := by rw [hw]; simp [putV, ut, v0]
  have f3 : w (kTick 1 0) = 2 := by rw [hw]; simp [putV, ut, v0]
  have f4 : ∀ q, w (kOut q) = 0 := fun q => by rw [hw]; simp [putV, ut, v0]
  have f5 : w (kSlot 1 0) = 8 := by rw [hw]; simp [putV, ut, v0]
  have f6 : w (kSlot 0 0) = 7 := by rw [hw]; simp [putV, ut, v0]
  have f7 : ∀ q, w (kTurn q 1) = 1 := fun q => by rw [hw]; simp [putV, ut, v0]
  clear hw
  have b1 : bst (hdF G w (fun _ => 0) 0) 8 = some 1 := by
    have h0 : 0 < G.L ∧ w (kTurn 0 (0 % G.m)) = ((0 : Nat) : Int) + 1 := ⟨by omega, by rw [gm]; exact f0⟩
    have h1 : 1 < G.L ∧ w (kTurn 1 (0 % G.m)) = ((0 : Nat) : Int) + 1 := ⟨by omega, by rw [gm]; exact f1⟩
    rw [bst_two (a := 0) (b := 1) (by omega) (hdF_fst.2 h0) (hdF_fst.2 h1) (by omega) (fun q _ h2 h3 => hdF_not (fun x => by have := x.1; omega)), hdF_tick h1, hdF_tick h0, gm]
    rw [show w (kTick 1 (0 % 2)) = 2 from f3, show w (kTick 0 (0 % 2)) = 1 from f2, if_pos (by decide)]
  (repeat (first | refine EK.seq ?_ | refine EK.region ?_ | refine ER.done ?_ | refine EK.skip ?_ | refine EK.block ?_ | refine EK.inBlock ?_ | refine ER.move rfl rfl rfl ?_ | refine ER.assign rfl rfl rfl ?_ | refine ER.nilCheck rfl rfl rfl ?_ | refine ER.fieldAddr rfl rfl rfl ?_ | refine ER.load1 rfl rfl rfl (hcell_of (by assumption) rfl) ?_ | refine ER.no rfl rfl ?_ | refine ER.noU rfl ?_ | refine ER.eqV rfl rfl rfl rfl rfl ?_ | refine ER.neqV rfl rfl rfl rfl rfl ?_ | refine ER.eqA rfl rfl rfl rfl rfl ?_ | refine ER.neqA rfl rfl rfl rfl rfl ?_ | refine ER.notB rfl rfl rfl ?_ | refine ER.pickT rfl rfl rfl rfl ?_ | refine ER.pickF rfl rfl rfl rfl ?_ | refine ER.extract rfl rfl rfl rfl ?_ | refine ER.cmpT rfl rfl rfl rfl rfl (by first | (dsimp only [cmpP]; omega) | exact rfl | exact Int.le_refl _) ?_ | refine ER.cmpF rfl rfl rfl rfl rfl (by first | (dsimp only [cmpP]; omega) | exact rfl | exact Int.le_refl _) ?_ | refine ER.boxA rfl rfl rfl ?_ | refine ER.box rfl rfl rfl ?_ | refine ER.allocA rfl rfl ?_ | refine ER.alloc rfl rfl ?_ | refine ER.add (kd := .i64) rfl rfl rfl rfl (i64_in (by omega) (by omega)) ?_ | refine ER.sub' (kd := .i64) rfl rfl rfl rfl (i64_in (by omega) (by omega)) ?_ | refine ER.mul (kd := .i64) rfl rfl rfl rfl (i64_in (by omega) (by omega)) ?_ | refine ER.rem (kd := .i64) rfl rfl rfl rfl (by decide) rfl ?_ | refine ER.indexArr rfl rfl rfl rfl (by omega) (by omega) ?_ | refine ER.len1 rfl rfl rfl ?_ | refine ER.indexSl rfl rfl rfl rfl (by omega) (by omega) ?_ | refine EK.condT rfl ?_ | refine EK.condF rfl ?_ | refine EK.ret ?_ | refine EK.exit rfl ?_))
  refine ER.callR rfl rfl rfl rfl rfl (take_ok (b := 1) (e := 1) (oN := fun _ => 0) r3 (by rw [gm]) (by omega) (by omega) (by omega) (fun q _ => ⟨by rw [f4]; rfl, by omega⟩) (fun q j _ => t3.b q j) (fun _ _ _ x => x) pfree b1) ?_
  rintro _ h4 δ4 ⟨rfl, rfl, r4, u4⟩
  have w4 := w3.over u4 own
  rw [gm] at r4 ⊢
  rw [show w (kSlot 1 (0 % 2)) = 8 from f5]
  have t4 := t3.take (m := 2) (b := 1) (o := 0)
  have b2 : bst (hdF G (takeV 2 w 1 0) (fun q => if q = 1 then 1 else 0) 0) 8 = some 0 := by
    refine bst_one (hdF_fst.2 ⟨by omega, ?_⟩) (by omega) (fun q _ h0 => hdF_not (fun x => ?_))
    · rw [gm]; simp [takeV, ut]; exact f0
    · obtain ⟨x1, x2⟩ := x
      obtain rfl : q = 1 := by omega
      rw [gm] at x2
      simp [takeV, ut] at x2
      rw [f7] at x2
      omega
  (repeat (first | refine EK.seq ?_ | refine EK.region ?_ | refine ER.done ?_ | refine EK.skip ?_ | refine EK.block ?_ | refine EK.inBlock ?_ | refine ER.move rfl rfl rfl ?_ | refine ER.assign rfl rfl rfl ?_ | refine ER.nilCheck rfl rfl rfl ?_ | refine ER.fieldAddr rfl rfl rfl ?_ | refine ER.load1 rfl rfl rfl (hcell_of (by assumption) rfl) ?_ | refine ER.no rfl rfl ?_ | refine ER.noU rfl ?_ | refine ER.eqV rfl rfl rfl rfl rfl ?_ | refine ER.neqV rfl rfl rfl rfl rfl ?_ | refine ER.eqA rfl rfl rfl rfl rfl ?_ | refine ER.neqA rfl rfl rfl rfl rfl ?_ | refine ER.notB rfl rfl rfl ?_ | refine ER.pickT rfl rfl rfl rfl ?_ | refine ER.pickF rfl rfl rfl rfl ?_ | refine ER.extract rfl rfl rfl rfl ?_ | refine ER.cmpT rfl rfl rfl rfl rfl (by first | (dsimp only [cmpP]; omega) | exact rfl | exact Int.le_refl _) ?_ | refine ER.cmpF rfl rfl rfl rfl rfl (by first | (dsimp only [cmpP]; omega) | exact rfl | exact Int.le_refl _) ?_ | refine ER.boxA rfl rfl rfl ?_ | refine ER.box rfl rfl rfl ?_ | refine ER.allocA rfl rfl ?_ | refine ER.alloc rfl rfl ?_ | refine ER.add (kd := .i64) rfl rfl rfl rfl (i64_in (by omega) (by omega)) ?_ | refine ER.sub' (kd := .i64) rfl rfl rfl rfl (i64_in (by omega) (by omega)) ?_ | refine ER.mul (kd := .i64) rfl rfl rfl rfl (i64_in (by omega) (by omega)) ?_ | refine ER.rem (kd := .i64) rfl rfl rfl rfl (by decide) rfl ?_ | refine ER.indexArr rfl rfl rfl rfl (by omega) (by omega) ?_ | refine ER.len1 rfl rfl rfl ?_ | refine ER.indexSl rfl rfl rfl rfl (by omega) (by omega) ?_ | refine EK.condT rfl ?_ | refine EK.condF rfl ?_ | refine EK.ret ?_ | refine EK.exit rfl ?_))
  refine ER.callR rfl rfl rfl rfl rfl (take_ok (b := 0) (e := 1) (oN := fun q => if q = 1 then 1 else 0) r4 (by rw [gm]) (by omega) (by omega) (by omega) (fun q _ => ⟨?_, ?_⟩) (fun q j _ => t4.b q j) (fun _ _ _ x => x) pfree b2) ?_
  · by_cases e : q = 1
    · subst e; simp [takeV, ut]
    · rw [if_neg e]; simp [takeV, ut, e]; exact f4 q
  · split <;> omega
  rintro _ h5 δ5 ⟨rfl, rfl, r5, u5⟩
  have w5 := w4.over u5 own
  rw [gm] at r5 ⊢
  rw [show takeV 2 w 1 0 (kSlot 0 ((if 0 = 1 then 1 else 0) % 2)) = 7 by simp [takeV, ut]; exact f6]
  have t5 := t4.take (m := 2) (b := 0) (o := 0)
  have b3 : bst (hdF G (takeV 2 (takeV 2 w 1 0) 0 0) (fun _ => 1) 0) 8 = none := by
    refine bst_none (fun q _ => hdF_not (fun x => ?_))
    obtain ⟨x1, x2⟩ := x
    rw [gm] at x2
    simp [takeV, ut] at x2
    rw [f7] at x2
    omega
  (repeat (first | refine EK.seq ?_ | refine EK.region ?_ | refine ER.done ?_ | refine EK.skip ?_ | refine EK.block ?_ | refine EK.inBlock ?_ | refine ER.move rfl rfl rfl ?_ | refine ER.assign rfl rfl rfl ?_ | refine ER.nilCheck rfl rfl rfl ?_ | refine ER.fieldAddr rfl rfl rfl ?_ | refine ER.load1 rfl rfl rfl (hcell_of (by assumption) rfl) ?_ | refine ER.no rfl rfl ?_ | refine ER.noU rfl ?_ | refine ER.eqV rfl rfl rfl rfl rfl ?_ | refine ER.neqV rfl rfl rfl rfl rfl ?_ | refine ER.eqA rfl rfl rfl rfl rfl ?_ | refine ER.neqA rfl rfl rfl rfl rfl ?_ | refine ER.notB rfl rfl rfl ?_ | refine ER.pickT rfl rfl rfl rfl ?_ | refine ER.pickF rfl rfl rfl rfl ?_ | refine ER.extract rfl rfl rfl rfl ?_ | refine ER.cmpT rfl rfl rfl rfl rfl (by first | (dsimp only [cmpP]; omega) | exact rfl | exact Int.le_refl _) ?_ | refine ER.cmpF rfl rfl rfl rfl rfl (by first | (dsimp only [cmpP]; omega) | exact rfl | exact Int.le_refl _) ?_ | refine ER.boxA rfl rfl rfl ?_ | refine ER.box rfl rfl rfl ?_ | refine ER.allocA rfl rfl ?_ | refine ER.alloc rfl rfl ?_ | refine ER.add (kd := .i64) rfl rfl rfl rfl (i64_in (by omega) (by omega)) ?_ | refine ER.sub' (kd := .i64) rfl rfl rfl rfl (i64_in (by omega) (by omega)) ?_ | refine ER.mul (kd := .i64) rfl rfl rfl rfl (i64_in (by omega) (by omega)) ?_ | refine ER.rem (kd := .i64) rfl rfl rfl rfl (by decide) rfl ?_ | refine ER.indexArr rfl rfl rfl rfl (by omega) (by omega) ?_ | refine ER.len1 rfl rfl rfl ?_ | refine ER.indexSl rfl rfl rfl rfl (by omega) (by omega) ?_ | refine EK.condT rfl ?_ | refine EK.condF rfl ?_ | refine EK.ret ?_ | refine EK.exit rfl ?_))
  refine ER.callR rfl rfl rfl rfl rfl (take_none (e := 1) (oN := fun _ => 1) r5 (by rw [gm]) (by omega) (by omega) (by omega) (fun q hq => ⟨?_, by omega⟩) (fun q j _ => t5.b q j) (fun _ _ _ x => x) b3) ?_
  · rcases (show q = 0 ∨ q = 1 by omega) with rfl | rfl <;> simp [takeV, ut]
  rintro _ h6 δ6 ⟨rfl, rfl, u6⟩
  (repeat (first | refine EK.seq ?_ | refine EK.region ?_ | refine ER.done ?_ | refine EK.skip ?_ | refine EK.block ?_ | refine EK.inBlock ?_ | refine ER.move rfl rfl rfl ?_ | refine ER.assign rfl rfl rfl ?_ | refine ER.nilCheck rfl rfl rfl ?_ | refine ER.fieldAddr rfl rfl rfl ?_ | refine ER.load1 rfl rfl rfl (hcell_of (by assumption) rfl) ?_ | refine ER.no rfl rfl ?_ | refine ER.noU rfl ?_ | refine ER.eqV rfl rfl rfl rfl rfl ?_ | refine ER.neqV rfl rfl rfl rfl rfl ?_ | refine ER.eqA rfl rfl rfl rfl rfl ?_ | refine ER.neqA rfl rfl rfl rfl rfl ?_ | refine ER.notB rfl rfl rfl ?_ | refine ER.pickT rfl rfl rfl rfl ?_ | refine ER.pickF rfl rfl rfl rfl ?_ | refine ER.extract rfl rfl rfl rfl ?_ | refine ER.cmpT rfl rfl rfl rfl rfl (by first | (dsimp only [cmpP]; omega) | exact rfl | exact Int.le_refl _) ?_ | refine ER.cmpF rfl rfl rfl rfl rfl (by first | (dsimp only [cmpP]; omega) | exact rfl | exact Int.le_refl _) ?_ | refine ER.boxA rfl rfl rfl ?_ | refine ER.box rfl rfl rfl ?_ | refine ER.allocA rfl rfl ?_ | refine ER.alloc rfl rfl ?_ | refine ER.add (kd := .i64) rfl rfl rfl rfl (i64_in (by omega) (by omega)) ?_ | refine ER.sub' (kd := .i64) rfl rfl rfl rfl (i64_in (by omega) (by omega)) ?_ | refine ER.mul (kd := .i64) rfl rfl rfl rfl (i64_in (by omega) (by omega)) ?_ | refine ER.rem (kd := .i64) rfl rfl rfl rfl (by decide) rfl ?_ | refine ER.indexArr rfl rfl rfl rfl (by omega) (by omega) ?_ | refine ER.len1 rfl rfl rfl ?_ | refine ER.indexSl rfl rfl rfl rfl (by omega) (by omega) ?_ | refine EK.condT rfl ?_ | refine EK.condF rfl ?_ | refine EK.ret ?_ | refine EK.exit rfl ?_))
  exact EU.ret1 rfl rfl ⟨rfl, w5.trans u6, rfl⟩

/-- Place: a remainder that is not negative. -/
theorem place_ok {S : Sit Γ} {a n : Int} (hn : 0 < n) (hn1 : n ≤ 1000000) : CallW Try.prog main S 16 #[.int .i64 a, .int .i64 n] h δ (Ret (Det (.int .i64 (a % n)) h δ)) := by
  have h1 : a.tmod n = a - n * a.tdiv n := Int.tmod_def a n
  have h2 : -n < a.tmod n ∧ a.tmod n < n := by
    rcases Int.lt_or_le a 0 with x | x
    · have e : a = -(-a) := by omega
      rw [e, Int.neg_tmod, Int.tmod_eq_emod_of_nonneg (by omega)]
      have := Int.emod_nonneg (-a) (by omega : n ≠ 0)
      have := Int.emod_lt_of_pos (-a) hn
      omega
    · rw [Int.tmod_eq_emod_of_nonneg x]
      have := Int.emod_nonneg a (by omega : n ≠ 0)
      have := Int.emod_lt_of_pos a hn
      omega
  refine CallW.start (n := 15) rfl rfl ?_
  (repeat (first | refine EK.seq ?_ | refine EK.region ?_ | refine ER.done ?_ | refine EK.skip ?_ | refine EK.block ?_ | refine EK.inBlock ?_ | refine ER.move rfl rfl rfl ?_ | refine ER.assign rfl rfl rfl ?_ | refine ER.nilCheck rfl rfl rfl ?_ | refine ER.fieldAddr rfl rfl rfl ?_ | refine ER.load1 rfl rfl rfl (hcell_of (by assumption) rfl) ?_ | refine ER.no rfl rfl ?_ | refine ER.noU rfl ?_ | refine ER.eqV rfl rfl rfl rfl rfl ?_ | refine ER.neqV rfl rfl rfl rfl rfl ?_ | refine ER.eqA rfl rfl rfl rfl rfl ?_ | refine ER.neqA rfl rfl rfl rfl rfl ?_ | refine ER.notB rfl rfl rfl ?_ | refine ER.pickT rfl rfl rfl rfl ?_ | refine ER.pickF rfl rfl rfl rfl ?_ | refine ER.extract rfl rfl rfl rfl ?_ | refine ER.cmpT rfl rfl rfl rfl rfl (by first | (dsimp only [cmpP]; omega) | exact rfl | exact Int.le_refl _) ?_ | refine ER.cmpF rfl rfl rfl rfl rfl (by first | (dsimp only [cmpP]; omega) | exact rfl | exact Int.le_refl _) ?_ | refine ER.boxA rfl rfl rfl ?_ | refine ER.box rfl rfl rfl ?_ | refine ER.allocA rfl rfl ?_ | refine ER.alloc rfl rfl ?_ | refine ER.add (kd := .i64) rfl rfl rfl rfl (i64_in (by omega) (by omega)) ?_ | refine ER.sub' (kd := .i64) rfl rfl rfl rfl (i64_in (by omega) (by omega)) ?_ | refine ER.mul (kd := .i64) rfl rfl rfl rfl (i64_in (by omega) (by omega)) ?_ | refine ER.rem (kd := .i64) rfl rfl rfl rfl (by decide) rfl ?_ | refine ER.indexArr rfl rfl rfl rfl (by omega) (by omega) ?_ | refine ER.len1 rfl rfl rfl ?_ | refine ER.indexSl rfl rfl rfl rfl (by omega) (by omega) ?_ | refine EK.condT rfl ?_ | refine EK.condF rfl ?_ | refine EK.ret ?_ | refine EK.exit rfl ?_))
  refine ER.rem (kd := .i64) rfl rfl rfl rfl (by omega) rfl ?_
  by_cases hneg : a.tmod n < 0
  · have e : a.tmod n + n = a % n := by
      have e1 : (a.tmod n + n) % n = a % n := by
        rw [h1, show a - n * a.tdiv n + n = a + n * (1 - a.tdiv n) by rw [Int.mul_sub, Int.mul_one]; omega, Int.add_mul_emod_self_left]
      rw [← e1, Int.emod_eq_of_lt (by omega) (by omega)]
    rw [← e]
    (repeat (first | refine EK.seq ?_ | refine EK.region ?_ | refine ER.done ?_ | refine EK.skip ?_ | refine EK.block ?_ | refine EK.inBlock ?_ | refine ER.move rfl rfl rfl ?_ | refine ER.assign rfl rfl rfl ?_ | refine ER.nilCheck rfl rfl rfl ?_ | refine ER.fieldAddr rfl rfl rfl ?_ | refine ER.load1 rfl rfl rfl (hcell_of (by assumption) rfl) ?_ | refine ER.no rfl rfl ?_ | refine ER.noU rfl ?_ | refine ER.eqV rfl rfl rfl rfl rfl ?_ | refine ER.neqV rfl rfl rfl rfl rfl ?_ | refine ER.eqA rfl rfl rfl rfl rfl ?_ | refine ER.neqA rfl rfl rfl rfl rfl ?_ | refine ER.notB rfl rfl rfl ?_ | refine ER.pickT rfl rfl rfl rfl ?_ | refine ER.pickF rfl rfl rfl rfl ?_ | refine ER.extract rfl rfl rfl rfl ?_ | refine ER.cmpT rfl rfl rfl rfl rfl (by first | (dsimp only [cmpP]; omega) | exact rfl | exact Int.le_refl _) ?_ | refine ER.cmpF rfl rfl rfl rfl rfl (by first | (dsimp only [cmpP]; omega) | exact rfl | exact Int.le_refl _) ?_ | refine ER.boxA rfl rfl rfl ?_ | refine ER.box rfl rfl rfl ?_ | refine ER.allocA rfl rfl ?_ | refine ER.alloc rfl rfl ?_ | refine ER.add (kd := .i64) rfl rfl rfl rfl (i64_in (by omega) (by omega)) ?_ | refine ER.sub' (kd := .i64) rfl rfl rfl rfl (i64_in (by omega) (by omega)) ?_ | refine ER.mul (kd := .i64) rfl rfl rfl rfl (i64_in (by omega) (by omega)) ?_ | refine ER.rem (kd := .i64) rfl rfl rfl rfl (by decide) rfl ?_ | refine ER.indexArr rfl rfl rfl rfl (by omega) (by omega) ?_ | refine ER.len1 rfl rfl rfl ?_ | refine ER.indexSl rfl rfl rfl rfl (by omega) (by omega) ?_ | refine EK.condT rfl ?_ | refine EK.condF rfl ?_ | refine EK.ret ?_ | refine EK.exit rfl ?_))
    exact EU.ret1 rfl rfl det
  · have e : a.tmod n = a % n := by
      have e1 : (a.tmod n) % n = a % n := by
        rw [h1, show a - n * a.tdiv n = a + n * (- a.tdiv n) by rw [Int.mul_neg]; omega, Int.add_mul_emod_self_left]
      rw [← e1, Int.emod_eq_of_lt (by omega) (by omega)]
    rw [← e]
    (repeat (first | refine EK.seq ?_ | refine EK.region ?_ | refine ER.done ?_ | refine EK.skip ?_ | refine EK.block ?_ | refine EK.inBlock ?_ | refine ER.move rfl rfl rfl ?_ | refine ER.assign rfl rfl rfl ?_ | refine ER.nilCheck rfl rfl rfl ?_ | refine ER.fieldAddr rfl rfl rfl ?_ | refine ER.load1 rfl rfl rfl (hcell_of (by assumption) rfl) ?_ | refine ER.no rfl rfl ?_ | refine ER.noU rfl ?_ | refine ER.eqV rfl rfl rfl rfl rfl ?_ | refine ER.neqV rfl rfl rfl rfl rfl ?_ | refine ER.eqA rfl rfl rfl rfl rfl ?_ | refine ER.neqA rfl rfl rfl rfl rfl ?_ | refine ER.notB rfl rfl rfl ?_ | refine ER.pickT rfl rfl rfl rfl ?_ | refine ER.pickF rfl rfl rfl rfl ?_ | refine ER.extract rfl rfl rfl rfl ?_ | refine ER.cmpT rfl rfl rfl rfl rfl (by first | (dsimp only [cmpP]; omega) | exact rfl | exact Int.le_refl _) ?_ | refine ER.cmpF rfl rfl rfl rfl rfl (by first | (dsimp only [cmpP]; omega) | exact rfl | exact Int.le_refl _) ?_ | refine ER.boxA rfl rfl rfl ?_ | refine ER.box rfl rfl rfl ?_ | refine ER.allocA rfl rfl ?_ | refine ER.alloc rfl rfl ?_ | refine ER.add (kd := .i64) rfl rfl rfl rfl (i64_in (by omega) (by omega)) ?_ | refine ER.sub' (kd := .i64) rfl rfl rfl rfl (i64_in (by omega) (by omega)) ?_ | refine ER.mul (kd := .i64) rfl rfl rfl rfl (i64_in (by omega) (by omega)) ?_ | refine ER.rem (kd := .i64) rfl rfl rfl rfl (by decide) rfl ?_ | refine ER.indexArr rfl rfl rfl rfl (by omega) (by omega) ?_ | refine ER.len1 rfl rfl rfl ?_ | refine ER.indexSl rfl rfl rfl rfl (by omega) (by omega) ?_ | refine EK.condT rfl ?_ | refine EK.condF rfl ?_ | refine EK.ret ?_ | refine EK.exit rfl ?_))
    exact EU.ret1 rfl rfl det

/-- The levels in round n. -/
structure AgI (v : Key → Int) (k n : Nat) : Prop where
  tk : v kTk = (n : Int) + 1
  inn : v (kIn k) = n
  out : v (kOut k) = n
  turn : ∀ p, n ≤ p → p < n + 4 → v (kTurn k (p % 4)) = p
  o0 : v (kOut 0) = 0
  t0 : v (kTurn 0 0) = 1
  k0 : v (kTick 0 0) = 1
  s0 : v (kSlot 0 0) = -1
  mid : ∀ q, 0 < q → q < k → v (kOut q) = 0 ∧ v (kTurn q 0) = 0
  b : TickB v

set_option maxHeartbeats 4000000 in
theorem prioages_ok {a : Int} : CallW Try.prog main NoS 5 #[.int .i64 a] h δ (Ret fun w h' δ' => w = .bool true ∧ Upd (fun _ => False) h h' ∧ δ' = δ) := by
  obtain ⟨k, hk8, hk⟩ : ∃ k : Nat, k < 8 ∧ a % 8 = k := ⟨(a % 8).toNat, by omega, by omega⟩
  refine CallW.start (n := 70) rfl rfl ?_
  (repeat (first | refine EK.seq ?_ | refine EK.region ?_ | refine ER.done ?_ | refine EK.skip ?_ | refine EK.block ?_ | refine EK.inBlock ?_ | refine ER.move rfl rfl rfl ?_ | refine ER.assign rfl rfl rfl ?_ | refine ER.nilCheck rfl rfl rfl ?_ | refine ER.fieldAddr rfl rfl rfl ?_ | refine ER.load1 rfl rfl rfl (hcell_of (by assumption) rfl) ?_ | refine ER.no rfl rfl ?_ | refine ER.noU rfl ?_ | refine ER.eqV rfl rfl rfl rfl rfl ?_ | refine ER.neqV rfl rfl rfl rfl rfl ?_ | refine ER.eqA rfl rfl rfl rfl rfl ?_ | refine ER.neqA rfl rfl rfl rfl rfl ?_ | refine ER.notB rfl rfl rfl ?_ | refine ER.pickT rfl rfl rfl rfl ?_ | refine ER.pickF rfl rfl rfl rfl ?_ | refine ER.extract rfl rfl rfl rfl ?_ | refine ER.cmpT rfl rfl rfl rfl rfl (by first | (dsimp only [cmpP]; omega) | exact rfl | exact Int.le_refl _) ?_ | refine ER.cmpF rfl rfl rfl rfl rfl (by first | (dsimp only [cmpP]; omega) | exact rfl | exact Int.le_refl _) ?_ | refine ER.boxA rfl rfl rfl ?_ | refine ER.box rfl rfl rfl ?_ | refine ER.allocA rfl rfl ?_ | refine ER.alloc rfl rfl ?_ | refine ER.add (kd := .i64) rfl rfl rfl rfl (i64_in (by omega) (by omega)) ?_ | refine ER.sub' (kd := .i64) rfl rfl rfl rfl (i64_in (by omega) (by omega)) ?_ | refine ER.mul (kd := .i64) rfl rfl rfl rfl (i64_in (by omega) (by omega)) ?_ | refine ER.rem (kd := .i64) rfl rfl rfl rfl (by decide) rfl ?_ | refine ER.indexArr rfl rfl rfl rfl (by omega) (by omega) ?_ | refine ER.len1 rfl rfl rfl ?_ | refine ER.indexSl rfl rfl rfl rfl (by omega) (by omega) ?_ | refine EK.condT rfl ?_ | refine EK.condF rfl ?_ | refine EK.ret ?_ | refine EK.exit rfl ?_))
  refine ER.callR rfl rfl rfl rfl rfl works_ok ?_
  rintro _ h0 δ0 ⟨rfl, u0, rfl⟩
  (repeat (first | refine EK.seq ?_ | refine EK.region ?_ | refine ER.done ?_ | refine EK.skip ?_ | refine EK.block ?_ | refine EK.inBlock ?_ | refine ER.move rfl rfl rfl ?_ | refine ER.assign rfl rfl rfl ?_ | refine ER.nilCheck rfl rfl rfl ?_ | refine ER.fieldAddr rfl rfl rfl ?_ | refine ER.load1 rfl rfl rfl (hcell_of (by assumption) rfl) ?_ | refine ER.no rfl rfl ?_ | refine ER.noU rfl ?_ | refine ER.eqV rfl rfl rfl rfl rfl ?_ | refine ER.neqV rfl rfl rfl rfl rfl ?_ | refine ER.eqA rfl rfl rfl rfl rfl ?_ | refine ER.neqA rfl rfl rfl rfl rfl ?_ | refine ER.notB rfl rfl rfl ?_ | refine ER.pickT rfl rfl rfl rfl ?_ | refine ER.pickF rfl rfl rfl rfl ?_ | refine ER.extract rfl rfl rfl rfl ?_ | refine ER.cmpT rfl rfl rfl rfl rfl (by first | (dsimp only [cmpP]; omega) | exact rfl | exact Int.le_refl _) ?_ | refine ER.cmpF rfl rfl rfl rfl rfl (by first | (dsimp only [cmpP]; omega) | exact rfl | exact Int.le_refl _) ?_ | refine ER.boxA rfl rfl rfl ?_ | refine ER.box rfl rfl rfl ?_ | refine ER.allocA rfl rfl ?_ | refine ER.alloc rfl rfl ?_ | refine ER.add (kd := .i64) rfl rfl rfl rfl (i64_in (by omega) (by omega)) ?_ | refine ER.sub' (kd := .i64) rfl rfl rfl rfl (i64_in (by omega) (by omega)) ?_ | refine ER.mul (kd := .i64) rfl rfl rfl rfl (i64_in (by omega) (by omega)) ?_ | refine ER.rem (kd := .i64) rfl rfl rfl rfl (by decide) rfl ?_ | refine ER.indexArr rfl rfl rfl rfl (by omega) (by omega) ?_ | refine ER.len1 rfl rfl rfl ?_ | refine ER.indexSl rfl rfl rfl rfl (by omega) (by omega) ?_ | refine EK.condT rfl ?_ | refine EK.condF rfl ?_ | refine EK.ret ?_ | refine EK.exit rfl ?_))
  refine ER.callD (v := .int .i64 k) rfl rfl rfl rfl rfl ((place_ok (a := a) (n := 8) (by omega) (by omega)).conseq (by rintro _ _ _ ⟨rfl, rfl, rfl⟩; exact ⟨by rw [hk], rfl, rfl⟩)) ?_
  clear hk
  (repeat (first | refine EK.seq ?_ | refine EK.region ?_ | refine ER.done ?_ | refine EK.skip ?_ | refine EK.block ?_ | refine EK.inBlock ?_ | refine ER.move rfl rfl rfl ?_ | refine ER.assign rfl rfl rfl ?_ | refine ER.nilCheck rfl rfl rfl ?_ | refine ER.fieldAddr rfl rfl rfl ?_ | refine ER.load1 rfl rfl rfl (hcell_of (by assumption) rfl) ?_ | refine ER.no rfl rfl ?_ | refine ER.noU rfl ?_ | refine ER.eqV rfl rfl rfl rfl rfl ?_ | refine ER.neqV rfl rfl rfl rfl rfl ?_ | refine ER.eqA rfl rfl rfl rfl rfl ?_ | refine ER.neqA rfl rfl rfl rfl rfl ?_ | refine ER.notB rfl rfl rfl ?_ | refine ER.pickT rfl rfl rfl rfl ?_ | refine ER.pickF rfl rfl rfl rfl ?_ | refine ER.extract rfl rfl rfl rfl ?_ | refine ER.cmpT rfl rfl rfl rfl rfl (by first | (dsimp only [cmpP]; omega) | exact rfl | exact Int.le_refl _) ?_ | refine ER.cmpF rfl rfl rfl rfl rfl (by first | (dsimp only [cmpP]; omega) | exact rfl | exact Int.le_refl _) ?_ | refine ER.boxA rfl rfl rfl ?_ | refine ER.box rfl rfl rfl ?_ | refine ER.allocA rfl rfl ?_ | refine ER.alloc rfl rfl ?_ | refine ER.add (kd := .i64) rfl rfl rfl rfl (i64_in (by omega) (by omega)) ?_ | refine ER.sub' (kd := .i64) rfl rfl rfl rfl (i64_in (by omega) (by omega)) ?_ | refine ER.mul (kd := .i64) rfl rfl rfl rfl (i64_in (by omega) (by omega)) ?_ | refine ER.rem (kd := .i64) rfl rfl rfl rfl (by decide) rfl ?_ | refine ER.indexArr rfl rfl rfl rfl (by omega) (by omega) ?_ | refine ER.len1 rfl rfl rfl ?_ | refine ER.indexSl rfl rfl rfl rfl (by omega) (by omega) ?_ | refine EK.condT rfl ?_ | refine EK.condF rfl ?_ | refine EK.ret ?_ | refine EK.exit rfl ?_))
  refine ER.callR rfl rfl rfl rfl rfl (new_ok (L := k + 1) (m := 4) (e := 2) (by omega) (by omega) rfl (by omega) (by omega) (fun _ _ _ x => x)) ?_
  rintro _ h1 δ1 ⟨rfl, u1, G, rfl, gL, gm, r1, ab⟩
  have own : ∀ {v : Key → Int} b, (priM G v).Own b → h0.size ≤ b := fun b hb => by
    obtain ⟨q, hq, rfl⟩ := hb
    have hq' : okP G.L G.m q := hq
    rw [gL, gm] at hq'
    exact ab q hq'
  (repeat (first | refine EK.seq ?_ | refine EK.region ?_ | refine ER.done ?_ | refine EK.skip ?_ | refine EK.block ?_ | refine EK.inBlock ?_ | refine ER.move rfl rfl rfl ?_ | refine ER.assign rfl rfl rfl ?_ | refine ER.nilCheck rfl rfl rfl ?_ | refine ER.fieldAddr rfl rfl rfl ?_ | refine ER.load1 rfl rfl rfl (hcell_of (by assumption) rfl) ?_ | refine ER.no rfl rfl ?_ | refine ER.noU rfl ?_ | refine ER.eqV rfl rfl rfl rfl rfl ?_ | refine ER.neqV rfl rfl rfl rfl rfl ?_ | refine ER.eqA rfl rfl rfl rfl rfl ?_ | refine ER.neqA rfl rfl rfl rfl rfl ?_ | refine ER.notB rfl rfl rfl ?_ | refine ER.pickT rfl rfl rfl rfl ?_ | refine ER.pickF rfl rfl rfl rfl ?_ | refine ER.extract rfl rfl rfl rfl ?_ | refine ER.cmpT rfl rfl rfl rfl rfl (by first | (dsimp only [cmpP]; omega) | exact rfl | exact Int.le_refl _) ?_ | refine ER.cmpF rfl rfl rfl rfl rfl (by first | (dsimp only [cmpP]; omega) | exact rfl | exact Int.le_refl _) ?_ | refine ER.boxA rfl rfl rfl ?_ | refine ER.box rfl rfl rfl ?_ | refine ER.allocA rfl rfl ?_ | refine ER.alloc rfl rfl ?_ | refine ER.add (kd := .i64) rfl rfl rfl rfl (i64_in (by omega) (by omega)) ?_ | refine ER.sub' (kd := .i64) rfl rfl rfl rfl (i64_in (by omega) (by omega)) ?_ | refine ER.mul (kd := .i64) rfl rfl rfl rfl (i64_in (by omega) (by omega)) ?_ | refine ER.rem (kd := .i64) rfl rfl rfl rfl (by decide) rfl ?_ | refine ER.indexArr rfl rfl rfl rfl (by omega) (by omega) ?_ | refine ER.len1 rfl rfl rfl ?_ | refine ER.indexSl rfl rfl rfl rfl (by omega) (by omega) ?_ | refine EK.condT rfl ?_ | refine EK.condF rfl ?_ | refine EK.ret ?_ | refine EK.exit rfl ?_))
  refine ER.callR rfl rfl rfl rfl rfl (put_ok (i := 0) (I := 0) (e := 2) (K := 0) (x := -1) r1 (by omega) (by rw [gm]) (by omega) rfl (by omega) (by rw [gm]; rfl) rfl (by omega) (by omega) pfree) ?_
  rintro _ h2 δ2 ⟨rfl, rfl, r2, u2⟩
  have w2 := u0.trans (u1.over u2 own)
  rw [gm] at r2
  (repeat (first | refine EK.seq ?_ | refine EK.region ?_ | refine ER.done ?_ | refine EK.skip ?_ | refine EK.block ?_ | refine EK.inBlock ?_ | refine ER.move rfl rfl rfl ?_ | refine ER.assign rfl rfl rfl ?_ | refine ER.nilCheck rfl rfl rfl ?_ | refine ER.fieldAddr rfl rfl rfl ?_ | refine ER.load1 rfl rfl rfl (hcell_of (by assumption) rfl) ?_ | refine ER.no rfl rfl ?_ | refine ER.noU rfl ?_ | refine ER.eqV rfl rfl rfl rfl rfl ?_ | refine ER.neqV rfl rfl rfl rfl rfl ?_ | refine ER.eqA rfl rfl rfl rfl rfl ?_ | refine ER.neqA rfl rfl rfl rfl rfl ?_ | refine ER.notB rfl rfl rfl ?_ | refine ER.pickT rfl rfl rfl rfl ?_ | refine ER.pickF rfl rfl rfl rfl ?_ | refine ER.extract rfl rfl rfl rfl ?_ | refine ER.cmpT rfl rfl rfl rfl rfl (by first | (dsimp only [cmpP]; omega) | exact rfl | exact Int.le_refl _) ?_ | refine ER.cmpF rfl rfl rfl rfl rfl (by first | (dsimp only [cmpP]; omega) | exact rfl | exact Int.le_refl _) ?_ | refine ER.boxA rfl rfl rfl ?_ | refine ER.box rfl rfl rfl ?_ | refine ER.allocA rfl rfl ?_ | refine ER.alloc rfl rfl ?_ | refine ER.add (kd := .i64) rfl rfl rfl rfl (i64_in (by omega) (by omega)) ?_ | refine ER.sub' (kd := .i64) rfl rfl rfl rfl (i64_in (by omega) (by omega)) ?_ | refine ER.mul (kd := .i64) rfl rfl rfl rfl (i64_in (by omega) (by omega)) ?_ | refine ER.rem (kd := .i64) rfl rfl rfl rfl (by decide) rfl ?_ | refine ER.indexArr rfl rfl rfl rfl (by omega) (by omega) ?_ | refine ER.len1 rfl rfl rfl ?_ | refine ER.indexSl rfl rfl rfl rfl (by omega) (by omega) ?_ | refine EK.condT rfl ?_ | refine EK.condF rfl ?_ | refine EK.ret ?_ | refine EK.exit rfl ?_))
  by_cases hk0 : k = 0
  · subst hk0
    refine EK.loop ?_
    (repeat (first | refine EK.seq ?_ | refine EK.region ?_ | refine ER.done ?_ | refine EK.skip ?_ | refine EK.block ?_ | refine EK.inBlock ?_ | refine ER.move rfl rfl rfl ?_ | refine ER.assign rfl rfl rfl ?_ | refine ER.nilCheck rfl rfl rfl ?_ | refine ER.fieldAddr rfl rfl rfl ?_ | refine ER.load1 rfl rfl rfl (hcell_of (by assumption) rfl) ?_ | refine ER.no rfl rfl ?_ | refine ER.noU rfl ?_ | refine ER.eqV rfl rfl rfl rfl rfl ?_ | refine ER.neqV rfl rfl rfl rfl rfl ?_ | refine ER.eqA rfl rfl rfl rfl rfl ?_ | refine ER.neqA rfl rfl rfl rfl rfl ?_ | refine ER.notB rfl rfl rfl ?_ | refine ER.pickT rfl rfl rfl rfl ?_ | refine ER.pickF rfl rfl rfl rfl ?_ | refine ER.extract rfl rfl rfl rfl ?_ | refine ER.cmpT rfl rfl rfl rfl rfl (by first | (dsimp only [cmpP]; omega) | exact rfl | exact Int.le_refl _) ?_ | refine ER.cmpF rfl rfl rfl rfl rfl (by first | (dsimp only [cmpP]; omega) | exact rfl | exact Int.le_refl _) ?_ | refine ER.boxA rfl rfl rfl ?_ | refine ER.box rfl rfl rfl ?_ | refine ER.allocA rfl rfl ?_ | refine ER.alloc rfl rfl ?_ | refine ER.add (kd := .i64) rfl rfl rfl rfl (i64_in (by omega) (by omega)) ?_ | refine ER.sub' (kd := .i64) rfl rfl rfl rfl (i64_in (by omega) (by omega)) ?_ | refine ER.mul (kd := .i64) rfl rfl rfl rfl (i64_in (by omega) (by omega)) ?_ | refine ER.rem (kd := .i64) rfl rfl rfl rfl (by decide) rfl ?_ | refine ER.indexArr rfl rfl rfl rfl (by omega) (by omega) ?_ | refine ER.len1 rfl rfl rfl ?_ | refine ER.indexSl rfl rfl rfl rfl (by omega) (by omega) ?_ | refine EK.condT rfl ?_ | refine EK.condF rfl ?_ | refine EK.ret ?_ | refine EK.exit rfl ?_))
    have ek : (((0 : Nat) : Int) + 1 - 1) = ((0 : Nat) : Int) := by omega
    rw [ek]
    refine ER.callR rfl rfl rfl rfl rfl (put_ok (i := 0) (I := 1) (e := 2) (K := 1) (x := 1) r2 (by omega) (by rw [gm]) (by omega) (by simp [putV, ut, v0]) (by omega) (by rw [gm]; simp [putV, ut, v0]) (by simp [putV, ut, v0]) (by omega) (by omega) pfree) ?_
    rintro _ h3 δ3 ⟨rfl, rfl, r3, u3⟩
    have w3 := w2.over u3 (fun b hb => Nat.le_trans u0.size (own b hb))
    rw [gm] at r3
    have t3 : TickB (putV 4 (putV 4 v0 0 0 0 (-1)) 0 1 1 1) := (tickB0.put (by omega) (by omega)).put (by omega) (by omega)
    have b3 : bst (hdF G (putV 4 (putV 4 v0 0 0 0 (-1)) 0 1 1 1) (fun _ => 0) 0) 8 = some 0 := by
      refine bst_one (hdF_fst.2 ⟨by omega, ?_⟩) (by omega) (fun q _ hq0 => hdF_not (fun x => by have := x.1; omega))
      rw [gm]; simp [putV, ut, v0]
    (repeat (first | refine EK.seq ?_ | refine EK.region ?_ | refine ER.done ?_ | refine EK.skip ?_ | refine EK.block ?_ | refine EK.inBlock ?_ | refine ER.move rfl rfl rfl ?_ | refine ER.assign rfl rfl rfl ?_ | refine ER.nilCheck rfl rfl rfl ?_ | refine ER.fieldAddr rfl rfl rfl ?_ | refine ER.load1 rfl rfl rfl (hcell_of (by assumption) rfl) ?_ | refine ER.no rfl rfl ?_ | refine ER.noU rfl ?_ | refine ER.eqV rfl rfl rfl rfl rfl ?_ | refine ER.neqV rfl rfl rfl rfl rfl ?_ | refine ER.eqA rfl rfl rfl rfl rfl ?_ | refine ER.neqA rfl rfl rfl rfl rfl ?_ | refine ER.notB rfl rfl rfl ?_ | refine ER.pickT rfl rfl rfl rfl ?_ | refine ER.pickF rfl rfl rfl rfl ?_ | refine ER.extract rfl rfl rfl rfl ?_ | refine ER.cmpT rfl rfl rfl rfl rfl (by first | (dsimp only [cmpP]; omega) | exact rfl | exact Int.le_refl _) ?_ | refine ER.cmpF rfl rfl rfl rfl rfl (by first | (dsimp only [cmpP]; omega) | exact rfl | exact Int.le_refl _) ?_ | refine ER.boxA rfl rfl rfl ?_ | refine ER.box rfl rfl rfl ?_ | refine ER.allocA rfl rfl ?_ | refine ER.alloc rfl rfl ?_ | refine ER.add (kd := .i64) rfl rfl rfl rfl (i64_in (by omega) (by omega)) ?_ | refine ER.sub' (kd := .i64) rfl rfl rfl rfl (i64_in (by omega) (by omega)) ?_ | refine ER.mul (kd := .i64) rfl rfl rfl rfl (i64_in (by omega) (by omega)) ?_ | refine ER.rem (kd := .i64) rfl rfl rfl rfl (by decide) rfl ?_ | refine ER.indexArr rfl rfl rfl rfl (by omega) (by omega) ?_ | refine ER.len1 rfl rfl rfl ?_ | refine ER.indexSl rfl rfl rfl rfl (by omega) (by omega) ?_ | refine EK.condT rfl ?_ | refine EK.condF rfl ?_ | refine EK.ret ?_ | refine EK.exit rfl ?_))
    refine ER.callR rfl rfl rfl rfl rfl (take_ok (b := 0) (e := 2) (oN := fun _ => 0) r3 (by rw [gm]) (by omega) (by omega) (by omega) (fun q hq => ⟨by simp [putV, ut, v0], by omega⟩) (fun q j _ => t3.b q j) (fun _ _ _ x => x) pfree b3) ?_
    rintro _ h4 δ4 ⟨rfl, rfl, r4, u4⟩
    have w4 := w3.over u4 (fun b hb => Nat.le_trans u0.size (own b hb))
    rw [show putV 4 (putV 4 v0 0 0 0 (-1)) 0 1 1 1 (kSlot 0 (0 % G.m)) = -1 by rw [gm]; simp [putV, ut, v0]]
    (repeat (first | refine EK.seq ?_ | refine EK.region ?_ | refine ER.done ?_ | refine EK.skip ?_ | refine EK.block ?_ | refine EK.inBlock ?_ | refine ER.move rfl rfl rfl ?_ | refine ER.assign rfl rfl rfl ?_ | refine ER.nilCheck rfl rfl rfl ?_ | refine ER.fieldAddr rfl rfl rfl ?_ | refine ER.load1 rfl rfl rfl (hcell_of (by assumption) rfl) ?_ | refine ER.no rfl rfl ?_ | refine ER.noU rfl ?_ | refine ER.eqV rfl rfl rfl rfl rfl ?_ | refine ER.neqV rfl rfl rfl rfl rfl ?_ | refine ER.eqA rfl rfl rfl rfl rfl ?_ | refine ER.neqA rfl rfl rfl rfl rfl ?_ | refine ER.notB rfl rfl rfl ?_ | refine ER.pickT rfl rfl rfl rfl ?_ | refine ER.pickF rfl rfl rfl rfl ?_ | refine ER.extract rfl rfl rfl rfl ?_ | refine ER.cmpT rfl rfl rfl rfl rfl (by first | (dsimp only [cmpP]; omega) | exact rfl | exact Int.le_refl _) ?_ | refine ER.cmpF rfl rfl rfl rfl rfl (by first | (dsimp only [cmpP]; omega) | exact rfl | exact Int.le_refl _) ?_ | refine ER.boxA rfl rfl rfl ?_ | refine ER.box rfl rfl rfl ?_ | refine ER.allocA rfl rfl ?_ | refine ER.alloc rfl rfl ?_ | refine ER.add (kd := .i64) rfl rfl rfl rfl (i64_in (by omega) (by omega)) ?_ | refine ER.sub' (kd := .i64) rfl rfl rfl rfl (i64_in (by omega) (by omega)) ?_ | refine ER.mul (kd := .i64) rfl rfl rfl rfl (i64_in (by omega) (by omega)) ?_ | refine ER.rem (kd := .i64) rfl rfl rfl rfl (by decide) rfl ?_ | refine ER.indexArr rfl rfl rfl rfl (by omega) (by omega) ?_ | refine ER.len1 rfl rfl rfl ?_ | refine ER.indexSl rfl rfl rfl rfl (by omega) (by omega) ?_ | refine EK.condT rfl ?_ | refine EK.condF rfl ?_ | refine EK.ret ?_ | refine EK.exit rfl ?_))
    refine ER.max (r := 1) rfl rfl rfl rfl (by rw [if_neg (by omega)]) ?_
    (repeat (first | refine EK.seq ?_ | refine EK.region ?_ | refine ER.done ?_ | refine EK.skip ?_ | refine EK.block ?_ | refine EK.inBlock ?_ | refine ER.move rfl rfl rfl ?_ | refine ER.assign rfl rfl rfl ?_ | refine ER.nilCheck rfl rfl rfl ?_ | refine ER.fieldAddr rfl rfl rfl ?_ | refine ER.load1 rfl rfl rfl (hcell_of (by assumption) rfl) ?_ | refine ER.no rfl rfl ?_ | refine ER.noU rfl ?_ | refine ER.eqV rfl rfl rfl rfl rfl ?_ | refine ER.neqV rfl rfl rfl rfl rfl ?_ | refine ER.eqA rfl rfl rfl rfl rfl ?_ | refine ER.neqA rfl rfl rfl rfl rfl ?_ | refine ER.notB rfl rfl rfl ?_ | refine ER.pickT rfl rfl rfl rfl ?_ | refine ER.pickF rfl rfl rfl rfl ?_ | refine ER.extract rfl rfl rfl rfl ?_ | refine ER.cmpT rfl rfl rfl rfl rfl (by first | (dsimp only [cmpP]; omega) | exact rfl | exact Int.le_refl _) ?_ | refine ER.cmpF rfl rfl rfl rfl rfl (by first | (dsimp only [cmpP]; omega) | exact rfl | exact Int.le_refl _) ?_ | refine ER.boxA rfl rfl rfl ?_ | refine ER.box rfl rfl rfl ?_ | refine ER.allocA rfl rfl ?_ | refine ER.alloc rfl rfl ?_ | refine ER.add (kd := .i64) rfl rfl rfl rfl (i64_in (by omega) (by omega)) ?_ | refine ER.sub' (kd := .i64) rfl rfl rfl rfl (i64_in (by omega) (by omega)) ?_ | refine ER.mul (kd := .i64) rfl rfl rfl rfl (i64_in (by omega) (by omega)) ?_ | refine ER.rem (kd := .i64) rfl rfl rfl rfl (by decide) rfl ?_ | refine ER.indexArr rfl rfl rfl rfl (by omega) (by omega) ?_ | refine ER.len1 rfl rfl rfl ?_ | refine ER.indexSl rfl rfl rfl rfl (by omega) (by omega) ?_ | refine EK.condT rfl ?_ | refine EK.condF rfl ?_ | refine EK.ret ?_ | refine EK.exit rfl ?_))
    exact EU.ret1 rfl rfl ⟨rfl, w4, rfl⟩
  · have a0 : AgI (putV 4 v0 0 0 0 (-1)) k 0 := by
      refine ⟨by simp [putV, ut, v0], by simp [putV, ut, v0, hk0], by simp [putV, ut, v0], fun p h1 h2 => ?_, by simp [putV, ut, v0], by simp [putV, ut, v0], by simp [putV, ut, v0], by simp [putV, ut, v0], fun q h1 h2 => ⟨by simp [putV, ut, v0], ?_⟩, tickB0.put (by omega) (by omega)⟩
      · have : p % 4 = p := Nat.mod_eq_of_lt (by omega)
        rw [this]
        simp [putV, ut, v0, hk0]
      · have : q ≠ 0 := by omega
        simp [putV, ut, v0, this]
    generalize putV 4 v0 0 0 0 (-1) = v1 at a0 r2
    have own2 : ∀ {v : Key → Int} b, (priM G v).Own b → h.size ≤ b := fun b hb => Nat.le_trans u0.size (own b hb)
    clear u1 u2 r1
    refine EK.loopInv (fun s : Nat × (Key → Int) => [(6, .int .i64 ((s.1 : Int) + 1)), (0, .int .i64 ((k : Int) + 1)), (4, ptr (G.B kTop))]) (fun s h' δ' => δ' = δ2 ∧ s.1 < 64 * k ∧ Upd (fun _ => False) h h' ∧ Pri h' G s.2 ∧ AgI s.2 k s.1) (fun s => 64 * k - s.1) (0, v1) ⟨rfl, rfl, rfl, trivial⟩ ⟨rfl, by dsimp only; omega, w2, r2, a0⟩ ?_
    clear a0 r2 w2 v1
    rintro ⟨n, v⟩ h2 δ9 ⟨hδ9, hn, w2, r2, ag⟩ again
    dsimp only at hn r2 ag again ⊢
    obtain rfl : δ2 = δ9 := hδ9.symm
    have hkL : k < G.L := by omega
    (repeat (first | refine EK.seq ?_ | refine EK.region ?_ | refine ER.done ?_ | refine EK.skip ?_ | refine EK.block ?_ | refine EK.inBlock ?_ | refine ER.move rfl rfl rfl ?_ | refine ER.assign rfl rfl rfl ?_ | refine ER.nilCheck rfl rfl rfl ?_ | refine ER.fieldAddr rfl rfl rfl ?_ | refine ER.load1 rfl rfl rfl (hcell_of (by assumption) rfl) ?_ | refine ER.no rfl rfl ?_ | refine ER.noU rfl ?_ | refine ER.eqV rfl rfl rfl rfl rfl ?_ | refine ER.neqV rfl rfl rfl rfl rfl ?_ | refine ER.eqA rfl rfl rfl rfl rfl ?_ | refine ER.neqA rfl rfl rfl rfl rfl ?_ | refine ER.notB rfl rfl rfl ?_ | refine ER.pickT rfl rfl rfl rfl ?_ | refine ER.pickF rfl rfl rfl rfl ?_ | refine ER.extract rfl rfl rfl rfl ?_ | refine ER.cmpT rfl rfl rfl rfl rfl (by first | (dsimp only [cmpP]; omega) | exact rfl | exact Int.le_refl _) ?_ | refine ER.cmpF rfl rfl rfl rfl rfl (by first | (dsimp only [cmpP]; omega) | exact rfl | exact Int.le_refl _) ?_ | refine ER.boxA rfl rfl rfl ?_ | refine ER.box rfl rfl rfl ?_ | refine ER.allocA rfl rfl ?_ | refine ER.alloc rfl rfl ?_ | refine ER.add (kd := .i64) rfl rfl rfl rfl (i64_in (by omega) (by omega)) ?_ | refine ER.sub' (kd := .i64) rfl rfl rfl rfl (i64_in (by omega) (by omega)) ?_ | refine ER.mul (kd := .i64) rfl rfl rfl rfl (i64_in (by omega) (by omega)) ?_ | refine ER.rem (kd := .i64) rfl rfl rfl rfl (by decide) rfl ?_ | refine ER.indexArr rfl rfl rfl rfl (by omega) (by omega) ?_ | refine ER.len1 rfl rfl rfl ?_ | refine ER.indexSl rfl rfl rfl rfl (by omega) (by omega) ?_ | refine EK.condT rfl ?_ | refine EK.condF rfl ?_ | refine EK.ret ?_ | refine EK.exit rfl ?_))
    have ek : ((k : Int) + 1 - 1) = (k : Int) := by omega
    rw [ek]
    have hfree : v (kTurn k (n % G.m)) = n := by rw [gm]; exact ag.turn n (Nat.le_refl _) (by omega)
    refine ER.callR rfl rfl rfl rfl rfl (put_ok (i := k) (I := n) (e := 2) (K := (n : Int) + 1) (x := (n : Int) + 1) r2 hkL (by rw [gm]) (by omega) ag.inn (by omega) hfree ag.tk (by omega) (by omega) pfree) ?_
    rintro _ h3 δ3 ⟨rfl, rfl, r3, u3⟩
    have w3 := w2.over u3 own2
    rw [gm] at r3
    have t3 : TickB (putV 4 v k n ((n : Int) + 1) ((n : Int) + 1)) := ag.b.put (by omega) (by omega)
    obtain ⟨v', hv'⟩ : ∃ v', v' = putV 4 v k n ((n : Int) + 1) ((n : Int) + 1) := ⟨_, rfl⟩
    rw [← hv'] at r3 t3
    have hkne : ¬ 0 = k := fun e => hk0 e.symm
    have p0 : v' kTk = (n : Int) + 1 + 1 := by rw [hv']; simp [putV, ut]
    have p1 : v' (kIn k) = (n : Int) + 1 := by rw [hv']; simp [putV, ut]
    have p2 : v' (kOut k) = n := by rw [hv']; simp [putV, ut]; exact ag.out
    have p3 : v' (kTurn k (n % 4)) = (n : Int) + 1 := by rw [hv']; simp [putV, ut]
    have p4 : v' (kTick k (n % 4)) = (n : Int) + 2 := by rw [hv']; simp [putV, ut]; omega
    have p5 : v' (kSlot k (n % 4)) = (n : Int) + 1 := by rw [hv']; simp [putV, ut]
    have p6 : ∀ p, n < p → p < n + 4 → v' (kTurn k (p % 4)) = p := fun p h1 h2 => by
      have hne : ¬ p % 4 = n % 4 := by omega
      rw [hv']; simp [putV, ut, hne]; exact ag.turn p (by omega) h2
    have q0 : v' (kOut 0) = 0 := by rw [hv']; simp [putV, ut]; exact ag.o0
    have q1 : v' (kTurn 0 0) = 1 := by rw [hv']; simp [putV, ut, hkne, hk0]; exact ag.t0
    have q2 : v' (kTick 0 0) = 1 := by rw [hv']; simp [putV, ut, hkne, hk0]; exact ag.k0
    have q3 : v' (kSlot 0 0) = -1 := by rw [hv']; simp [putV, ut, hkne, hk0]; exact ag.s0
    have q4 : ∀ q, 0 < q → q < k → v' (kOut q) = 0 ∧ v' (kTurn q 0) = 0 := fun q h1 h2 => by
      have hne : ¬ q = k := by omega
      rw [hv']; simp [putV, ut, hne]; exact ag.mid q h1 h2
    clear hv'
    obtain ⟨oF, hoK, hoN⟩ : ∃ oF : Nat → Nat, oF k = n ∧ ∀ q, q ≠ k → oF q = 0 := ⟨fun q => if q = k then n else 0, by simp, fun q hq => by simp [hq]⟩
    have ho0 : oF 0 = 0 := hoN 0 hkne
    have hO : ∀ q, q < G.L → v' (kOut q) = (oF q : Int) ∧ oF q < 2305843009213693952 := fun q hq => by
      by_cases e : q = k
      · subst e; rw [hoK]; exact ⟨p2, by omega⟩
      · rw [hoN q e]
        by_cases e0 : q = 0
        · subst e0; exact ⟨q0, by omega⟩
        · exact ⟨(q4 q (by omega) (by omega)).1, by omega⟩
    have hb : bst (hdF G v' oF 0) 8 = some (if 64 * ((k : Int) - (0 : Nat)) > ((n : Int) + 2) - 1 then k else 0) := by
      have g0 : 0 < G.L ∧ v' (kTurn 0 (oF 0 % G.m)) = (oF 0 : Int) + 1 := ⟨by omega, by rw [gm, ho0]; exact q1⟩
      have g1 : k < G.L ∧ v' (kTurn k (oF k % G.m)) = (oF k : Int) + 1 := ⟨hkL, by rw [gm, hoK]; exact p3⟩
      have c0 : (hdF G v' oF 0 0).2.2 = 1 := by rw [hdF_tick g0, gm, ho0]; exact q2
      have c1 : (hdF G v' oF 0 k).2.2 = (n : Int) + 2 := by rw [hdF_tick g1, gm, hoK]; exact p4
      rw [bst_two (a := 0) (b := k) (by omega) (hdF_fst.2 g0) (hdF_fst.2 g1) (by omega) (fun q hq8 h0 h1 => hdF_not (fun x => ?_)), c0, c1]
      obtain ⟨x1, x2⟩ := x
      have := (q4 q (by omega) (by omega)).2
      rw [gm, hoN q h1] at x2
      rw [show (0 : Nat) % 4 = 0 from rfl, this] at x2
      omega
    by_cases hgo : n + 1 < 64 * k
    · rw [if_pos (by omega)] at hb
      (repeat (first | refine EK.seq ?_ | refine EK.region ?_ | refine ER.done ?_ | refine EK.skip ?_ | refine EK.block ?_ | refine EK.inBlock ?_ | refine ER.move rfl rfl rfl ?_ | refine ER.assign rfl rfl rfl ?_ | refine ER.nilCheck rfl rfl rfl ?_ | refine ER.fieldAddr rfl rfl rfl ?_ | refine ER.load1 rfl rfl rfl (hcell_of (by assumption) rfl) ?_ | refine ER.no rfl rfl ?_ | refine ER.noU rfl ?_ | refine ER.eqV rfl rfl rfl rfl rfl ?_ | refine ER.neqV rfl rfl rfl rfl rfl ?_ | refine ER.eqA rfl rfl rfl rfl rfl ?_ | refine ER.neqA rfl rfl rfl rfl rfl ?_ | refine ER.notB rfl rfl rfl ?_ | refine ER.pickT rfl rfl rfl rfl ?_ | refine ER.pickF rfl rfl rfl rfl ?_ | refine ER.extract rfl rfl rfl rfl ?_ | refine ER.cmpT rfl rfl rfl rfl rfl (by first | (dsimp only [cmpP]; omega) | exact rfl | exact Int.le_refl _) ?_ | refine ER.cmpF rfl rfl rfl rfl rfl (by first | (dsimp only [cmpP]; omega) | exact rfl | exact Int.le_refl _) ?_ | refine ER.boxA rfl rfl rfl ?_ | refine ER.box rfl rfl rfl ?_ | refine ER.allocA rfl rfl ?_ | refine ER.alloc rfl rfl ?_ | refine ER.add (kd := .i64) rfl rfl rfl rfl (i64_in (by omega) (by omega)) ?_ | refine ER.sub' (kd := .i64) rfl rfl rfl rfl (i64_in (by omega) (by omega)) ?_ | refine ER.mul (kd := .i64) rfl rfl rfl rfl (i64_in (by omega) (by omega)) ?_ | refine ER.rem (kd := .i64) rfl rfl rfl rfl (by decide) rfl ?_ | refine ER.indexArr rfl rfl rfl rfl (by omega) (by omega) ?_ | refine ER.len1 rfl rfl rfl ?_ | refine ER.indexSl rfl rfl rfl rfl (by omega) (by omega) ?_ | refine EK.condT rfl ?_ | refine EK.condF rfl ?_ | refine EK.ret ?_ | refine EK.exit rfl ?_))
      refine ER.callR rfl rfl rfl rfl rfl (take_ok (b := k) (e := 2) (oN := oF) r3 (by rw [gm]) (by omega) (by omega) (by omega) hO (fun q j _ => t3.b q j) (fun _ _ _ x => x) pfree hb) ?_
      rintro _ h4 δ4 ⟨rfl, rfl, r4, u4⟩
      have w4 := w3.over u4 own2
      rw [show v' (kSlot k (oF k % G.m)) = (n : Int) + 1 by rw [gm, hoK]; exact p5]
      rw [gm, hoK] at r4
      have ag' : AgI (takeV 4 v' k n) k (n + 1) := by
        refine ⟨by simp [takeV, ut]; exact p0, by simp [takeV, ut]; exact p1, by simp [takeV, ut], fun p h1 h2 => ?_, by simp [takeV, ut, hkne, hk0]; exact q0, by simp [takeV, ut, hkne, hk0]; exact q1, by simp [takeV, ut]; exact q2, by simp [takeV, ut]; exact q3, fun q h1 h2 => ?_, t3.take⟩
        · by_cases e : p = n + 4
          · subst e
            have : (n + 4) % 4 = n % 4 := by omega
            rw [this]; simp [takeV, ut]
          · have hne : ¬ p % 4 = n % 4 := by omega
            simp [takeV, ut, hne]; exact p6 p (by omega) (by omega)
        · have hne : ¬ q = k := by omega
          simp [takeV, ut, hne]; exact q4 q h1 h2
      (repeat (first | refine EK.seq ?_ | refine EK.region ?_ | refine ER.done ?_ | refine EK.skip ?_ | refine EK.block ?_ | refine EK.inBlock ?_ | refine ER.move rfl rfl rfl ?_ | refine ER.assign rfl rfl rfl ?_ | refine ER.nilCheck rfl rfl rfl ?_ | refine ER.fieldAddr rfl rfl rfl ?_ | refine ER.load1 rfl rfl rfl (hcell_of (by assumption) rfl) ?_ | refine ER.no rfl rfl ?_ | refine ER.noU rfl ?_ | refine ER.eqV rfl rfl rfl rfl rfl ?_ | refine ER.neqV rfl rfl rfl rfl rfl ?_ | refine ER.eqA rfl rfl rfl rfl rfl ?_ | refine ER.neqA rfl rfl rfl rfl rfl ?_ | refine ER.notB rfl rfl rfl ?_ | refine ER.pickT rfl rfl rfl rfl ?_ | refine ER.pickF rfl rfl rfl rfl ?_ | refine ER.extract rfl rfl rfl rfl ?_ | refine ER.cmpT rfl rfl rfl rfl rfl (by first | (dsimp only [cmpP]; omega) | exact rfl | exact Int.le_refl _) ?_ | refine ER.cmpF rfl rfl rfl rfl rfl (by first | (dsimp only [cmpP]; omega) | exact rfl | exact Int.le_refl _) ?_ | refine ER.boxA rfl rfl rfl ?_ | refine ER.box rfl rfl rfl ?_ | refine ER.allocA rfl rfl ?_ | refine ER.alloc rfl rfl ?_ | refine ER.add (kd := .i64) rfl rfl rfl rfl (i64_in (by omega) (by omega)) ?_ | refine ER.sub' (kd := .i64) rfl rfl rfl rfl (i64_in (by omega) (by omega)) ?_ | refine ER.mul (kd := .i64) rfl rfl rfl rfl (i64_in (by omega) (by omega)) ?_ | refine ER.rem (kd := .i64) rfl rfl rfl rfl (by decide) rfl ?_ | refine ER.indexArr rfl rfl rfl rfl (by omega) (by omega) ?_ | refine ER.len1 rfl rfl rfl ?_ | refine ER.indexSl rfl rfl rfl rfl (by omega) (by omega) ?_ | refine EK.condT rfl ?_ | refine EK.condF rfl ?_ | refine EK.ret ?_ | refine EK.exit rfl ?_))
      exact EK.back (again (n + 1, _) _ _ (by dsimp only; omega) ⟨rfl, hgo, w4, r4, ag'⟩) ⟨rfl, rfl, rfl, trivial⟩
    · rw [if_neg (by omega)] at hb
      (repeat (first | refine EK.seq ?_ | refine EK.region ?_ | refine ER.done ?_ | refine EK.skip ?_ | refine EK.block ?_ | refine EK.inBlock ?_ | refine ER.move rfl rfl rfl ?_ | refine ER.assign rfl rfl rfl ?_ | refine ER.nilCheck rfl rfl rfl ?_ | refine ER.fieldAddr rfl rfl rfl ?_ | refine ER.load1 rfl rfl rfl (hcell_of (by assumption) rfl) ?_ | refine ER.no rfl rfl ?_ | refine ER.noU rfl ?_ | refine ER.eqV rfl rfl rfl rfl rfl ?_ | refine ER.neqV rfl rfl rfl rfl rfl ?_ | refine ER.eqA rfl rfl rfl rfl rfl ?_ | refine ER.neqA rfl rfl rfl rfl rfl ?_ | refine ER.notB rfl rfl rfl ?_ | refine ER.pickT rfl rfl rfl rfl ?_ | refine ER.pickF rfl rfl rfl rfl ?_ | refine ER.extract rfl rfl rfl rfl ?_ | refine ER.cmpT rfl rfl rfl rfl rfl (by first | (dsimp only [cmpP]; omega) | exact rfl | exact Int.le_refl _) ?_ | refine ER.cmpF rfl rfl rfl rfl rfl (by first | (dsimp only [cmpP]; omega) | exact rfl | exact Int.le_refl _) ?_ | refine ER.boxA rfl rfl rfl ?_ | refine ER.box rfl rfl rfl ?_ | refine ER.allocA rfl rfl ?_ | refine ER.alloc rfl rfl ?_ | refine ER.add (kd := .i64) rfl rfl rfl rfl (i64_in (by omega) (by omega)) ?_ | refine ER.sub' (kd := .i64) rfl rfl rfl rfl (i64_in (by omega) (by omega)) ?_ | refine ER.mul (kd := .i64) rfl rfl rfl rfl (i64_in (by omega) (by omega)) ?_ | refine ER.rem (kd := .i64) rfl rfl rfl rfl (by decide) rfl ?_ | refine ER.indexArr rfl rfl rfl rfl (by omega) (by omega) ?_ | refine ER.len1 rfl rfl rfl ?_ | refine ER.indexSl rfl rfl rfl rfl (by omega) (by omega) ?_ | refine EK.condT rfl ?_ | refine EK.condF rfl ?_ | refine EK.ret ?_ | refine EK.exit rfl ?_))
      refine ER.callR rfl rfl rfl rfl rfl (take_ok (b := 0) (e := 2) (oN := oF) r3 (by rw [gm]) (by omega) (by omega) (by omega) hO (fun q j _ => t3.b q j) (fun _ _ _ x => x) pfree hb) ?_
      rintro _ h4 δ4 ⟨rfl, rfl, r4, u4⟩
      have w4 := w3.over u4 own2
      rw [show v' (kSlot 0 (oF 0 % G.m)) = -1 by rw [gm, ho0]; exact q3]
      (repeat (first | refine EK.seq ?_ | refine EK.region ?_ | refine ER.done ?_ | refine EK.skip ?_ | refine EK.block ?_ | refine EK.inBlock ?_ | refine ER.move rfl rfl rfl ?_ | refine ER.assign rfl rfl rfl ?_ | refine ER.nilCheck rfl rfl rfl ?_ | refine ER.fieldAddr rfl rfl rfl ?_ | refine ER.load1 rfl rfl rfl (hcell_of (by assumption) rfl) ?_ | refine ER.no rfl rfl ?_ | refine ER.noU rfl ?_ | refine ER.eqV rfl rfl rfl rfl rfl ?_ | refine ER.neqV rfl rfl rfl rfl rfl ?_ | refine ER.eqA rfl rfl rfl rfl rfl ?_ | refine ER.neqA rfl rfl rfl rfl rfl ?_ | refine ER.notB rfl rfl rfl ?_ | refine ER.pickT rfl rfl rfl rfl ?_ | refine ER.pickF rfl rfl rfl rfl ?_ | refine ER.extract rfl rfl rfl rfl ?_ | refine ER.cmpT rfl rfl rfl rfl rfl (by first | (dsimp only [cmpP]; omega) | exact rfl | exact Int.le_refl _) ?_ | refine ER.cmpF rfl rfl rfl rfl rfl (by first | (dsimp only [cmpP]; omega) | exact rfl | exact Int.le_refl _) ?_ | refine ER.boxA rfl rfl rfl ?_ | refine ER.box rfl rfl rfl ?_ | refine ER.allocA rfl rfl ?_ | refine ER.alloc rfl rfl ?_ | refine ER.add (kd := .i64) rfl rfl rfl rfl (i64_in (by omega) (by omega)) ?_ | refine ER.sub' (kd := .i64) rfl rfl rfl rfl (i64_in (by omega) (by omega)) ?_ | refine ER.mul (kd := .i64) rfl rfl rfl rfl (i64_in (by omega) (by omega)) ?_ | refine ER.rem (kd := .i64) rfl rfl rfl rfl (by decide) rfl ?_ | refine ER.indexArr rfl rfl rfl rfl (by omega) (by omega) ?_ | refine ER.len1 rfl rfl rfl ?_ | refine ER.indexSl rfl rfl rfl rfl (by omega) (by omega) ?_ | refine EK.condT rfl ?_ | refine EK.condF rfl ?_ | refine EK.ret ?_ | refine EK.exit rfl ?_))
      refine ER.max (r := (n : Int) + 1) rfl rfl rfl rfl (by rw [if_pos (by omega)]; omega) ?_
      (repeat (first | refine EK.seq ?_ | refine EK.region ?_ | refine ER.done ?_ | refine EK.skip ?_ | refine EK.block ?_ | refine EK.inBlock ?_ | refine ER.move rfl rfl rfl ?_ | refine ER.assign rfl rfl rfl ?_ | refine ER.nilCheck rfl rfl rfl ?_ | refine ER.fieldAddr rfl rfl rfl ?_ | refine ER.load1 rfl rfl rfl (hcell_of (by assumption) rfl) ?_ | refine ER.no rfl rfl ?_ | refine ER.noU rfl ?_ | refine ER.eqV rfl rfl rfl rfl rfl ?_ | refine ER.neqV rfl rfl rfl rfl rfl ?_ | refine ER.eqA rfl rfl rfl rfl rfl ?_ | refine ER.neqA rfl rfl rfl rfl rfl ?_ | refine ER.notB rfl rfl rfl ?_ | refine ER.pickT rfl rfl rfl rfl ?_ | refine ER.pickF rfl rfl rfl rfl ?_ | refine ER.extract rfl rfl rfl rfl ?_ | refine ER.cmpT rfl rfl rfl rfl rfl (by first | (dsimp only [cmpP]; omega) | exact rfl | exact Int.le_refl _) ?_ | refine ER.cmpF rfl rfl rfl rfl rfl (by first | (dsimp only [cmpP]; omega) | exact rfl | exact Int.le_refl _) ?_ | refine ER.boxA rfl rfl rfl ?_ | refine ER.box rfl rfl rfl ?_ | refine ER.allocA rfl rfl ?_ | refine ER.alloc rfl rfl ?_ | refine ER.add (kd := .i64) rfl rfl rfl rfl (i64_in (by omega) (by omega)) ?_ | refine ER.sub' (kd := .i64) rfl rfl rfl rfl (i64_in (by omega) (by omega)) ?_ | refine ER.mul (kd := .i64) rfl rfl rfl rfl (i64_in (by omega) (by omega)) ?_ | refine ER.rem (kd := .i64) rfl rfl rfl rfl (by decide) rfl ?_ | refine ER.indexArr rfl rfl rfl rfl (by omega) (by omega) ?_ | refine ER.len1 rfl rfl rfl ?_ | refine ER.indexSl rfl rfl rfl rfl (by omega) (by omega) ?_ | refine EK.condT rfl ?_ | refine EK.condF rfl ?_ | refine EK.ret ?_ | refine EK.exit rfl ?_))
      exact EU.ret1 rfl rfl ⟨rfl, w4, rfl⟩
end
end Go.Proofs.Ytlhpgoddoglhaaa
