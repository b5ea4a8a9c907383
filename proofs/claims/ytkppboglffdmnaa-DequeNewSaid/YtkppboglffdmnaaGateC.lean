/- The gate with one body that does not step: begin. Conditions: as each lemma says. -/
import Derived.Test.YtkppboglffdmnaaGateB
namespace Go.Proofs.Ytkppboglffdmnaa
open Go Go.TJ Go.Conc Go.Proofs

theorem ev_sub {e env : Env} (hs : subE e env) {x : Operand} {v : Value} (hx : ev e x = some v) : ev env x = some v := by
  cases x with
  | tmp t => exact subE_look hs hx
  | const c => exact hx
  | global g => exact hx
  | func f => exact hx

theorem Mem.set_same {K : Type} [DecidableEq K] (M : Mem K) (k : K) (o : Obj) : (M.set k o).O k = o := ut_same _ _ _

section
variable {Tb : Nat → Prop} {Qc : Addr → Option Value} {h : Hp} {γ : G1}

set_option maxHeartbeats 2000000 in
set_option maxRecDepth 8000 in
/-- begin: the thread is made, started, let go; it has ended. -/
theorem begin_ok {n0 R mb b : Nat} {bcap : Array Value} [HasBody Try.prog b] (h0 : γ.ph = 0) (hR : h[R]? = some (.cells #[nilS, .map (some mb), nilS, nilS, nilS, nilS, .bool false] 193 (0, 0))) (hn : n0 ≤ R) (hT : ∀ i, Tb i → i < n0) (hQ : ∀ a, (Qc a).isSome = true → a.block < n0)
    (hbody : ∀ h₂ t δ₂, Upd (fun i => n0 ≤ i) h h₂ → h.size ≤ t → (∀ i o, i < n0 → ¬ (SitT Try.prog (X1 Tb Qc) 1).still δ₂.g ⟨i, o, none⟩) → CallW Try.prog false (SitT Try.prog (X1 Tb Qc) 1) b (#[ptr t] ++ bcap) h₂ δ₂ (RetP (fun _ h₃ δ₃ => δ₃ = δ₂ ∧ Upd Tb h₂ h₃ ∧ OfC Qc h₃) (fun _ _ _ => False))) :
    CallW Try.prog true (SitM Try.prog (X1 Tb Qc)) 128 #[ptr R, .func (.func b) #[] bcap] h ⟨0, γ⟩ (Ret fun v h' δ' => ∃ γ', δ' = ⟨0, γ'⟩ ∧ γ'.ph = 3 ∧ v = ptr γ'.t ∧ h.size ≤ γ'.t ∧ Upd (fun i => Tb i ∨ i = R) h h' ∧ OfC Qc h' ∧ hcell h' ⟨γ'.t, 13, none⟩ = some (.bool true) ∧
      ∃ sA sF, h'[R]? = some (.cells #[sA, .map (some mb), nilS, nilS, nilS, sF, .bool false] 193 (0, 0)) ∧ SliceO h' sA 32 1 1 [ptr γ'.t] ∧ SliceO h' sF 4 1 1 [.bool false]) := by
  have hno : ∀ a, ¬ (SitM Try.prog (X1 Tb Qc)).still γ a := by
    rintro a ⟨j, hj, hlt, _⟩
    simp [X1, h0] at hlt
    omega
  refine CallW.start (n := 39) rfl rfl ?_
  (repeat (first | refine EK.seq ?_ | refine EK.region ?_ | refine ER.done ?_ | refine EK.skip ?_ | refine EK.block ?_ | refine EK.inBlock ?_ | refine ER.move rfl rfl rfl ?_ | refine ER.assign rfl rfl rfl ?_ | refine ER.nilCheck rfl rfl rfl ?_ | refine ER.fieldAddr rfl rfl rfl ?_ | refine ER.load1 rfl rfl rfl (hcell_of (by assumption) rfl) ?_ | refine ER.no rfl rfl ?_ | refine ER.noU rfl ?_ | refine ER.eqV rfl rfl rfl rfl rfl ?_ | refine ER.neqV rfl rfl rfl rfl rfl ?_ | refine ER.eqA rfl rfl rfl rfl rfl ?_ | refine ER.neqA rfl rfl rfl rfl rfl ?_ | refine ER.notB rfl rfl rfl ?_ | refine ER.pickT rfl rfl rfl rfl ?_ | refine ER.pickF rfl rfl rfl rfl ?_ | refine ER.extract rfl rfl rfl rfl ?_ | refine ER.cmpT rfl rfl rfl rfl rfl (by first | (dsimp only [cmpP]; omega) | exact rfl | exact Int.le_refl _) ?_ | refine ER.cmpF rfl rfl rfl rfl rfl (by first | (dsimp only [cmpP]; omega) | exact rfl | exact Int.le_refl _) ?_ | refine ER.boxA rfl rfl rfl ?_ | refine ER.box rfl rfl rfl ?_ | refine ER.allocA rfl rfl ?_ | refine ER.alloc rfl rfl ?_ | refine ER.add (kd := .i64) rfl rfl rfl rfl (i64_in (by omega) (by omega)) ?_ | refine ER.sub' (kd := .i64) rfl rfl rfl rfl (i64_in (by omega) (by omega)) ?_ | refine ER.mul (kd := .i64) rfl rfl rfl rfl (i64_in (by omega) (by omega)) ?_ | refine ER.rem (kd := .i64) rfl rfl rfl rfl (by decide) rfl ?_ | refine ER.indexArr rfl rfl rfl rfl (by omega) (by omega) ?_ | refine ER.len1 rfl rfl rfl ?_ | refine ER.indexSl rfl rfl rfl rfl (by omega) (by omega) ?_ | refine EK.condT rfl ?_ | refine EK.condF rfl ?_ | refine EK.ret ?_ | refine EK.exit rfl ?_))
  have hR0 : hcell h ⟨R, 0, none⟩ = some nilS := hcell_of hR rfl
  have hlt := lt_of_get hR
  refine EK.regionAnyL (fun h' => hcell h' ⟨h.size, 0, none⟩ = some (ptr R) ∧ hcell h' ⟨R, 0, none⟩ = some nilS) 11 ?_
  have hZ : hcell ((h.push (.cells (ptr R).cells 189)).push (.cells (Value.func (.func b) #[] bcap).cells 45)) ⟨h.size, 0, none⟩ = some (ptr R) ∧ hcell ((h.push (.cells (ptr R).cells 189)).push (.cells (Value.func (.func b) #[] bcap).cells 45)) ⟨R, 0, none⟩ = some nilS :=
    ⟨hcell_push (hcell_of (get_push_new _ _) rfl), hcell_push (hcell_push hR0)⟩
  refine EA.tLoad 0 rfl (by kernel_rfl) (by kernel_rfl) (by kernel_rfl) rfl rfl rfl rfl (fun _ hz => hz.1) hZ ?_
  refine EA.tLoad 1 rfl (by kernel_rfl) (by kernel_rfl) (by kernel_rfl) rfl rfl rfl rfl (fun _ hz => hz.1) hZ ?_
  (first | refine EA.tMove 2 rfl (by kernel_rfl) (by kernel_rfl) (by kernel_rfl) rfl rfl rfl rfl hZ ?_ | refine EA.tAssign 2 rfl (by kernel_rfl) (by kernel_rfl) (by kernel_rfl) rfl rfl rfl rfl hZ ?_ | refine EA.tNil 2 rfl (by kernel_rfl) (by kernel_rfl) (by kernel_rfl) rfl rfl rfl rfl hZ ?_ | refine EA.tField 2 rfl (by kernel_rfl) (by kernel_rfl) (by kernel_rfl) rfl rfl rfl rfl hZ ?_ | refine EA.tNot 2 rfl (by kernel_rfl) (by kernel_rfl) (by kernel_rfl) rfl rfl rfl rfl hZ ?_ | refine EA.tAdd (kd := .i64) 2 rfl (by kernel_rfl) (by kernel_rfl) (by kernel_rfl) rfl rfl rfl rfl rfl (i64_in (by omega) (by omega)) hZ ?_ | refine EA.tSub (kd := .i64) 2 rfl (by kernel_rfl) (by kernel_rfl) (by kernel_rfl) rfl rfl rfl rfl rfl (i64_in (by omega) (by omega)) hZ ?_ | refine EA.tIdxA 2 rfl (by kernel_rfl) (by kernel_rfl) (by kernel_rfl) rfl rfl rfl rfl rfl (by omega) (by omega) hZ ?_ | refine EA.tIdxS 2 rfl (by kernel_rfl) (by kernel_rfl) (by kernel_rfl) rfl rfl rfl rfl rfl (by omega) (by omega) hZ ?_ | refine EA.tLen1 2 rfl (by kernel_rfl) (by kernel_rfl) (by kernel_rfl) rfl rfl rfl rfl hZ ?_ | refine EA.takeNo 2 rfl (by kernel_rfl) (by kernel_rfl) (by kernel_rfl) rfl rfl rfl hZ ?_ | refine EA.tPickT 2 rfl (by kernel_rfl) (by kernel_rfl) (by kernel_rfl) rfl rfl rfl rfl rfl hZ ?_ | refine EA.tPickF 2 rfl (by kernel_rfl) (by kernel_rfl) (by kernel_rfl) rfl rfl rfl rfl rfl hZ ?_ | refine EA.tCmpT 2 rfl (by kernel_rfl) (by kernel_rfl) (by kernel_rfl) rfl rfl rfl rfl rfl rfl (by first | (dsimp only [cmpP]; omega) | exact rfl | exact Int.le_refl _) hZ ?_ | refine EA.tCmpF 2 rfl (by kernel_rfl) (by kernel_rfl) (by kernel_rfl) rfl rfl rfl rfl rfl rfl (by first | (dsimp only [cmpP]; omega) | exact rfl | exact Int.le_refl _) hZ ?_ | refine EA.tMul (kd := .i64) 2 rfl (by kernel_rfl) (by kernel_rfl) (by kernel_rfl) rfl rfl rfl rfl rfl (i64_in (by omega) (by omega)) hZ ?_)
  (first | refine EA.tMove 3 rfl (by kernel_rfl) (by kernel_rfl) (by kernel_rfl) rfl rfl rfl rfl hZ ?_ | refine EA.tAssign 3 rfl (by kernel_rfl) (by kernel_rfl) (by kernel_rfl) rfl rfl rfl rfl hZ ?_ | refine EA.tNil 3 rfl (by kernel_rfl) (by kernel_rfl) (by kernel_rfl) rfl rfl rfl rfl hZ ?_ | refine EA.tField 3 rfl (by kernel_rfl) (by kernel_rfl) (by kernel_rfl) rfl rfl rfl rfl hZ ?_ | refine EA.tNot 3 rfl (by kernel_rfl) (by kernel_rfl) (by kernel_rfl) rfl rfl rfl rfl hZ ?_ | refine EA.tAdd (kd := .i64) 3 rfl (by kernel_rfl) (by kernel_rfl) (by kernel_rfl) rfl rfl rfl rfl rfl (i64_in (by omega) (by omega)) hZ ?_ | refine EA.tSub (kd := .i64) 3 rfl (by kernel_rfl) (by kernel_rfl) (by kernel_rfl) rfl rfl rfl rfl rfl (i64_in (by omega) (by omega)) hZ ?_ | refine EA.tIdxA 3 rfl (by kernel_rfl) (by kernel_rfl) (by kernel_rfl) rfl rfl rfl rfl rfl (by omega) (by omega) hZ ?_ | refine EA.tIdxS 3 rfl (by kernel_rfl) (by kernel_rfl) (by kernel_rfl) rfl rfl rfl rfl rfl (by omega) (by omega) hZ ?_ | refine EA.tLen1 3 rfl (by kernel_rfl) (by kernel_rfl) (by kernel_rfl) rfl rfl rfl rfl hZ ?_ | refine EA.takeNo 3 rfl (by kernel_rfl) (by kernel_rfl) (by kernel_rfl) rfl rfl rfl hZ ?_ | refine EA.tPickT 3 rfl (by kernel_rfl) (by kernel_rfl) (by kernel_rfl) rfl rfl rfl rfl rfl hZ ?_ | refine EA.tPickF 3 rfl (by kernel_rfl) (by kernel_rfl) (by kernel_rfl) rfl rfl rfl rfl rfl hZ ?_ | refine EA.tCmpT 3 rfl (by kernel_rfl) (by kernel_rfl) (by kernel_rfl) rfl rfl rfl rfl rfl rfl (by first | (dsimp only [cmpP]; omega) | exact rfl | exact Int.le_refl _) hZ ?_ | refine EA.tCmpF 3 rfl (by kernel_rfl) (by kernel_rfl) (by kernel_rfl) rfl rfl rfl rfl rfl rfl (by first | (dsimp only [cmpP]; omega) | exact rfl | exact Int.le_refl _) hZ ?_ | refine EA.tMul (kd := .i64) 3 rfl (by kernel_rfl) (by kernel_rfl) (by kernel_rfl) rfl rfl rfl rfl rfl (i64_in (by omega) (by omega)) hZ ?_)
  refine EA.tLoad 4 rfl (by kernel_rfl) (by kernel_rfl) (by kernel_rfl) rfl rfl rfl rfl (fun _ hz => hz.2) hZ ?_
  (first | refine EA.tMove 5 rfl (by kernel_rfl) (by kernel_rfl) (by kernel_rfl) rfl rfl rfl rfl hZ ?_ | refine EA.tAssign 5 rfl (by kernel_rfl) (by kernel_rfl) (by kernel_rfl) rfl rfl rfl rfl hZ ?_ | refine EA.tNil 5 rfl (by kernel_rfl) (by kernel_rfl) (by kernel_rfl) rfl rfl rfl rfl hZ ?_ | refine EA.tField 5 rfl (by kernel_rfl) (by kernel_rfl) (by kernel_rfl) rfl rfl rfl rfl hZ ?_ | refine EA.tNot 5 rfl (by kernel_rfl) (by kernel_rfl) (by kernel_rfl) rfl rfl rfl rfl hZ ?_ | refine EA.tAdd (kd := .i64) 5 rfl (by kernel_rfl) (by kernel_rfl) (by kernel_rfl) rfl rfl rfl rfl rfl (i64_in (by omega) (by omega)) hZ ?_ | refine EA.tSub (kd := .i64) 5 rfl (by kernel_rfl) (by kernel_rfl) (by kernel_rfl) rfl rfl rfl rfl rfl (i64_in (by omega) (by omega)) hZ ?_ | refine EA.tIdxA 5 rfl (by kernel_rfl) (by kernel_rfl) (by kernel_rfl) rfl rfl rfl rfl rfl (by omega) (by omega) hZ ?_ | refine EA.tIdxS 5 rfl (by kernel_rfl) (by kernel_rfl) (by kernel_rfl) rfl rfl rfl rfl rfl (by omega) (by omega) hZ ?_ | refine EA.tLen1 5 rfl (by kernel_rfl) (by kernel_rfl) (by kernel_rfl) rfl rfl rfl rfl hZ ?_ | refine EA.takeNo 5 rfl (by kernel_rfl) (by kernel_rfl) (by kernel_rfl) rfl rfl rfl hZ ?_ | refine EA.tPickT 5 rfl (by kernel_rfl) (by kernel_rfl) (by kernel_rfl) rfl rfl rfl rfl rfl hZ ?_ | refine EA.tPickF 5 rfl (by kernel_rfl) (by kernel_rfl) (by kernel_rfl) rfl rfl rfl rfl rfl hZ ?_ | refine EA.tCmpT 5 rfl (by kernel_rfl) (by kernel_rfl) (by kernel_rfl) rfl rfl rfl rfl rfl rfl (by first | (dsimp only [cmpP]; omega) | exact rfl | exact Int.le_refl _) hZ ?_ | refine EA.tCmpF 5 rfl (by kernel_rfl) (by kernel_rfl) (by kernel_rfl) rfl rfl rfl rfl rfl rfl (by first | (dsimp only [cmpP]; omega) | exact rfl | exact Int.le_refl _) hZ ?_ | refine EA.tMul (kd := .i64) 5 rfl (by kernel_rfl) (by kernel_rfl) (by kernel_rfl) rfl rfl rfl rfl rfl (i64_in (by omega) (by omega)) hZ ?_)
  refine EA.listed (l' := lst false false false false false) (by kernel_rfl) ?_
  refine EA.chans2 (h0 := (h.push (.cells (ptr R).cells 189)).push (.cells (Value.func (.func b) #[] bcap).cells 45)) (D := fun i => if i = 10 then 5 else i + 6) (e0 := fun i => if i = 2 then some (ptr h.size) else if i = 3 then some (ptr (h.size + 1)) else if i = 6 then some (ptr R) else if i = 11 then some (.int .i64 0) else none) (F := fun _ => none) (tc := 196) (ts := 199) (ta := 32)
    (cells := fun w s => #[ptr R, .int .i64 0, .chan (some w), .chan (some s), .pointer none, .int .i64 0, .int .i8 0, .int .i64 0, .int .i64 0, .int .i64 0, .int .i64 0, .int .i64 0, .bool false, .bool false])
    (by exact rfl) (by exact rfl) (by exact rfl) (by exact rfl) (by exact rfl) ?hr ?hD ?hDn ?he0 ?hZ ?hb ?fin 6 false false false false false _ _ rfl ?inv hZ
  case hr => intro a b c d e; cases a <;> cases b <;> cases c <;> cases d <;> cases e <;> kernel_rfl
  case hD => intro i j a1 a2 a3 a4 e; split at e <;> split at e <;> omega
  case hDn => intro i a1 a2; rcases (show i = 6 ∨ i = 7 ∨ i = 8 ∨ i = 9 ∨ i = 10 by omega) with rfl | rfl | rfl | rfl | rfl <;> rfl
  case he0 => intro i a1 a2; rcases (show i = 6 ∨ i = 7 ∨ i = 8 ∨ i = 9 ∨ i = 10 by omega) with rfl | rfl | rfl | rfl | rfl <;> rfl
  case hZ => exact fun h o x => ⟨hcell_push x.1, hcell_push x.2⟩
  case inv =>
    refine ⟨Made.none _, fun i v e => ?_, fun x => (by cases x), fun x => (by cases x), fun x => (by cases x), fun x => (by cases x), fun x => (by cases x), fun x => (by cases x), fun x => (by cases x)⟩
    split at e
    · rename_i e'; subst e'; exact e
    · split at e
      · rename_i e'; subst e'; rw [← e, show h.size + 1 = (h.push (.cells (ptr R).cells 189)).size by simp]; rfl
      · split at e
        · rename_i e'; subst e'; exact e
        · split at e
          · rename_i e'; subst e'; exact e
          · cases e
  case hb =>
    intro env w s ho hw hs ρ h' Q X hρ hq
    have hsub : subE [(6, ptr R), (11, .int .i64 0), (12, .chan (some w)), (13, .chan (some s))] env := ⟨ho 6 _ rfl, ho 11 _ rfl, hw, hs, trivial⟩
    exact sem_buildS (env := [(6, ptr R), (11, .int .i64 0), (12, .chan (some w)), (13, .chan (some s))]) (fun x v hx => hρ x v (ev_sub hsub hx)) rfl rfl hq
  case fin =>
    intro env h1 F I hz
    obtain ⟨w, s, t, f6, f7, f9, l9⟩ := I.d1 rfl
    obtain ⟨p, f10, l10⟩ := I.e1 rfl
    have hsub : subE [(2, ptr h.size), (3, ptr (h.size + 1)), (5, ptr p), (15, ptr t)] env := ⟨I.old 2 _ rfl, I.old 3 _ rfl, l10, l9, trivial⟩
    refine EA.sub hsub ?_
    obtain ⟨g6, b6⟩ := I.made.has _ _ _ f6
    obtain ⟨g7, b7⟩ := I.made.has _ _ _ f7
    obtain ⟨g9, b9⟩ := I.made.has _ _ _ f9
    obtain ⟨g10, b10⟩ := I.made.has _ _ _ f10
    have n67 : w ≠ s := fun e => absurd (I.made.inj 6 7 _ _ _ f6 (by rw [e]; exact f7)) (by decide)
    have n69 : w ≠ t := fun e => absurd (I.made.inj 6 9 _ _ _ f6 (by rw [e]; exact f9)) (by decide)
    have n610 : w ≠ p := fun e => absurd (I.made.inj 6 10 _ _ _ f6 (by rw [e]; exact f10)) (by decide)
    have n79 : s ≠ t := fun e => absurd (I.made.inj 7 9 _ _ _ f7 (by rw [e]; exact f9)) (by decide)
    have n710 : s ≠ p := fun e => absurd (I.made.inj 7 10 _ _ _ f7 (by rw [e]; exact f10)) (by decide)
    have n910 : t ≠ p := fun e => absurd (I.made.inj 9 10 _ _ _ f9 (by rw [e]; exact f10)) (by decide)
    simp only [Array.size_push] at g6 g7 g9 g10
    have uA : Upd (fun _ => False) h h1 := ((Upd.push h _).trans (Upd.push _ _)).trans I.made.upd
    have c1 : h1[h.size]? = some (.cells #[ptr R] 189 (0, 0)) := I.made.upd.get (get_push _ (get_push_new _ _)) (fun x => x)
    have c2 : h1[h.size + 1]? = some (.cells #[.func (.func b) #[] bcap] 45 (0, 0)) := I.made.upd.get (by
      have := get_push_new (h.push (.cells (ptr R).cells 189)) (.cells (Value.func (.func b) #[] bcap).cells 45)
      rw [Array.size_push] at this
      exact this) (fun x => x)
    have c0 := uA.get hR (fun x => x)
    obtain ⟨M, hM⟩ : ∃ M : Mem Nat, M = ⟨fun k => k < 7, fun k => if k = 0 then R else if k = 1 then h.size else if k = 2 then h.size + 1 else if k = 3 then t else if k = 4 then w else if k = 5 then s else p,
      fun | 0 => .cells #[nilS, .map (some mb), nilS, nilS, nilS, nilS, .bool false] 193 (0, 0) | 1 => .cells #[ptr R] 189 (0, 0) | 2 => .cells #[.func (.func b) #[] bcap] 45 (0, 0)
          | 3 => .cells #[ptr R, .int .i64 0, .chan (some w), .chan (some s), .pointer none, .int .i64 0, .int .i8 0, .int .i64 0, .int .i64 0, .int .i64 0, .int .i64 0, .int .i64 0, .bool false, .bool false] 199 (0, 0)
          | 4 => chan0 | 5 => chan0 | _ => .cells #[ptr t] 32 (0, 0)⟩ := ⟨_, rfl⟩
    refine EA.unitL (h' := hset h1 ⟨p, 0, none⟩ (ptr t)) 11 rfl (by kernel_rfl) rfl rfl rfl (fun ρ Q X hρ hq => sem_store1 (hρ _ _ rfl) (hρ _ _ rfl) ⟨nofun, nofun⟩ ⟨_, hcell_of b10 rfl⟩ (hfroz_of b10) (hno _) hq) ?_
    refine EA.done (by kernel_rfl) ?_
    have rp : Rep (hset h1 ⟨p, 0, none⟩ (ptr t)) M := by
      refine ⟨fun k hk => ?_, fun i j hi hj e => ?_⟩
      · subst hM
        have hk' : k < 7 := hk
        rcases (show k = 0 ∨ k = 1 ∨ k = 2 ∨ k = 3 ∨ k = 4 ∨ k = 5 ∨ k = 6 by omega) with rfl | rfl | rfl | rfl | rfl | rfl | rfl
        · exact (hset_ne _ _ _ (by show p ≠ R; omega)).trans c0
        · exact (hset_ne _ _ _ (by show p ≠ h.size; omega)).trans c1
        · exact (hset_ne _ _ _ (by show p ≠ h.size + 1; omega)).trans c2
        · exact (hset_ne _ _ _ (by show p ≠ t; omega)).trans b9
        · exact (hset_ne _ _ _ (by show p ≠ w; omega)).trans b6
        · exact (hset_ne _ _ _ (by show p ≠ s; omega)).trans b7
        · exact hset_same h1 ⟨p, 0, none⟩ _ b10 rfl
      · subst hM
        have hi' : i < 7 := hi
        have hj' : j < 7 := hj
        change (if i = 0 then R else if i = 1 then h.size else if i = 2 then h.size + 1 else if i = 3 then t else if i = 4 then w else if i = 5 then s else p) = (if j = 0 then R else if j = 1 then h.size else if j = 2 then h.size + 1 else if j = 3 then t else if j = 4 then w else if j = 5 then s else p) at e
        clear f6 f7 f9 f10 l9 l10 hsub
        (repeat' split at e) <;> omega
    have u2 : Upd (fun _ => False) h (hset h1 ⟨p, 0, none⟩ (ptr t)) := uA.over (Upd.hset (T := fun b => b = p) _ _ _ rfl) (fun b hb => by omega)
    have sz2 : (hset h1 ⟨p, 0, none⟩ (ptr t)).size = h1.size := hset_size _ _ _
    have q6 := lt_of_get b6
    have q7 := lt_of_get b7
    have q9 := lt_of_get b9
    have q10 := lt_of_get b10
    generalize hset h1 ⟨p, 0, none⟩ (ptr t) = h2 at rp u2 sz2 ⊢
    clear hz c0 c1 c2 b6 b7 b9 b10 uA I
    -- r.threads
    have M0 : M.O 0 = .cells #[nilS, .map (some mb), nilS, nilS, nilS, nilS, .bool false] 193 (0, 0) := by rw [hM]; rfl
    have M1 : M.O 1 = .cells #[ptr R] 189 (0, 0) := by rw [hM]; rfl
    have M2 : M.O 2 = .cells #[.func (.func b) #[] bcap] 45 (0, 0) := by rw [hM]; rfl
    have M3 : M.O 3 = .cells #[ptr R, .int .i64 0, .chan (some w), .chan (some s), .pointer none, .int .i64 0, .int .i8 0, .int .i64 0, .int .i64 0, .int .i64 0, .int .i64 0, .int .i64 0, .bool false, .bool false] 199 (0, 0) := by rw [hM]; rfl
    have M4 : M.O 4 = chan0 := by rw [hM]; rfl
    have M5 : M.O 5 = chan0 := by rw [hM]; rfl
    have M6 : M.O 6 = .cells #[ptr t] 32 (0, 0) := by rw [hM]; rfl
    have B0 : M.B 0 = R := by rw [hM]; rfl
    have B1 : M.B 1 = h.size := by rw [hM]; rfl
    have B2 : M.B 2 = h.size + 1 := by rw [hM]; rfl
    have B3 : M.B 3 = t := by rw [hM]; rfl
    have B4 : M.B 4 = w := by rw [hM]; rfl
    have B5 : M.B 5 = s := by rw [hM]; rfl
    have B6 : M.B 6 = p := by rw [hM]; rfl
    have ok : ∀ k, k < 7 → M.ok k := fun k hk => by rw [hM]; exact hk
    clear hM
    (repeat (first | refine EK.seq ?_ | refine EK.region ?_ | refine ER.done ?_ | refine EK.skip ?_ | refine EK.block ?_ | refine EK.inBlock ?_ | refine ER.move rfl rfl rfl ?_ | refine ER.assign rfl rfl rfl ?_ | refine ER.nilCheck rfl rfl rfl ?_ | refine ER.fieldAddr rfl rfl rfl ?_ | refine ER.load1 rfl rfl rfl (hcell_of (by assumption) rfl) ?_ | refine ER.no rfl rfl ?_ | refine ER.noU rfl ?_ | refine ER.eqV rfl rfl rfl rfl rfl ?_ | refine ER.neqV rfl rfl rfl rfl rfl ?_ | refine ER.eqA rfl rfl rfl rfl rfl ?_ | refine ER.neqA rfl rfl rfl rfl rfl ?_ | refine ER.notB rfl rfl rfl ?_ | refine ER.pickT rfl rfl rfl rfl ?_ | refine ER.pickF rfl rfl rfl rfl ?_ | refine ER.extract rfl rfl rfl rfl ?_ | refine ER.cmpT rfl rfl rfl rfl rfl (by first | (dsimp only [cmpP]; omega) | exact rfl | exact Int.le_refl _) ?_ | refine ER.cmpF rfl rfl rfl rfl rfl (by first | (dsimp only [cmpP]; omega) | exact rfl | exact Int.le_refl _) ?_ | refine ER.boxA rfl rfl rfl ?_ | refine ER.box rfl rfl rfl ?_ | refine ER.allocA rfl rfl ?_ | refine ER.alloc rfl rfl ?_ | refine ER.add (kd := .i64) rfl rfl rfl rfl (i64_in (by omega) (by omega)) ?_ | refine ER.sub' (kd := .i64) rfl rfl rfl rfl (i64_in (by omega) (by omega)) ?_ | refine ER.mul (kd := .i64) rfl rfl rfl rfl (i64_in (by omega) (by omega)) ?_ | refine ER.rem (kd := .i64) rfl rfl rfl rfl (by decide) rfl ?_ | refine ER.indexArr rfl rfl rfl rfl (by omega) (by omega) ?_ | refine ER.len1 rfl rfl rfl ?_ | refine ER.indexSl rfl rfl rfl rfl (by omega) (by omega) ?_ | refine EK.condT rfl ?_ | refine EK.condF rfl ?_ | refine EK.ret ?_ | refine EK.exit rfl ?_))
    have z1 : hcell h2 ⟨h.size, 0, none⟩ = some (ptr R) := B1 ▸ rp.cell (ok 1 (by omega)) M1 rfl
    have z2 : hcell h2 ⟨R, 0, none⟩ = some nilS := B0 ▸ rp.cell (ok 0 (by omega)) M0 rfl
    have z3 : hcell h2 ⟨p, 0, none⟩ = some (ptr t) := B6 ▸ rp.cell (ok 6 (by omega)) M6 rfl
    refine EK.regionAnyL (fun h' => hcell h' ⟨h.size, 0, none⟩ = some (ptr R) ∧ hcell h' ⟨R, 0, none⟩ = some nilS ∧ hcell h' ⟨p, 0, none⟩ = some (ptr t)) 10 ?_
    have hZ : hcell h2 ⟨h.size, 0, none⟩ = some (ptr R) ∧ hcell h2 ⟨R, 0, none⟩ = some nilS ∧ hcell h2 ⟨p, 0, none⟩ = some (ptr t) := ⟨z1, z2, z3⟩
    refine EA.tLoad 0 rfl (by kernel_rfl) (by kernel_rfl) (by kernel_rfl) rfl rfl rfl rfl (fun _ hz => hz.1) hZ ?_
    refine EA.tLoad 1 rfl (by kernel_rfl) (by kernel_rfl) (by kernel_rfl) rfl rfl rfl rfl (fun _ hz => hz.1) hZ ?_
    (first | refine EA.tMove 2 rfl (by kernel_rfl) (by kernel_rfl) (by kernel_rfl) rfl rfl rfl rfl hZ ?_ | refine EA.tAssign 2 rfl (by kernel_rfl) (by kernel_rfl) (by kernel_rfl) rfl rfl rfl rfl hZ ?_ | refine EA.tNil 2 rfl (by kernel_rfl) (by kernel_rfl) (by kernel_rfl) rfl rfl rfl rfl hZ ?_ | refine EA.tField 2 rfl (by kernel_rfl) (by kernel_rfl) (by kernel_rfl) rfl rfl rfl rfl hZ ?_ | refine EA.tNot 2 rfl (by kernel_rfl) (by kernel_rfl) (by kernel_rfl) rfl rfl rfl rfl hZ ?_ | refine EA.tAdd (kd := .i64) 2 rfl (by kernel_rfl) (by kernel_rfl) (by kernel_rfl) rfl rfl rfl rfl rfl (i64_in (by omega) (by omega)) hZ ?_ | refine EA.tSub (kd := .i64) 2 rfl (by kernel_rfl) (by kernel_rfl) (by kernel_rfl) rfl rfl rfl rfl rfl (i64_in (by omega) (by omega)) hZ ?_ | refine EA.tIdxA 2 rfl (by kernel_rfl) (by kernel_rfl) (by kernel_rfl) rfl rfl rfl rfl rfl (by omega) (by omega) hZ ?_ | refine EA.tIdxS 2 rfl (by kernel_rfl) (by kernel_rfl) (by kernel_rfl) rfl rfl rfl rfl rfl (by omega) (by omega) hZ ?_ | refine EA.tLen1 2 rfl (by kernel_rfl) (by kernel_rfl) (by kernel_rfl) rfl rfl rfl rfl hZ ?_ | refine EA.takeNo 2 rfl (by kernel_rfl) (by kernel_rfl) (by kernel_rfl) rfl rfl rfl hZ ?_ | refine EA.tPickT 2 rfl (by kernel_rfl) (by kernel_rfl) (by kernel_rfl) rfl rfl rfl rfl rfl hZ ?_ | refine EA.tPickF 2 rfl (by kernel_rfl) (by kernel_rfl) (by kernel_rfl) rfl rfl rfl rfl rfl hZ ?_ | refine EA.tCmpT 2 rfl (by kernel_rfl) (by kernel_rfl) (by kernel_rfl) rfl rfl rfl rfl rfl rfl (by first | (dsimp only [cmpP]; omega) | exact rfl | exact Int.le_refl _) hZ ?_ | refine EA.tCmpF 2 rfl (by kernel_rfl) (by kernel_rfl) (by kernel_rfl) rfl rfl rfl rfl rfl rfl (by first | (dsimp only [cmpP]; omega) | exact rfl | exact Int.le_refl _) hZ ?_ | refine EA.tMul (kd := .i64) 2 rfl (by kernel_rfl) (by kernel_rfl) (by kernel_rfl) rfl rfl rfl rfl rfl (i64_in (by omega) (by omega)) hZ ?_)
    (first | refine EA.tMove 3 rfl (by kernel_rfl) (by kernel_rfl) (by kernel_rfl) rfl rfl rfl rfl hZ ?_ | refine EA.tAssign 3 rfl (by kernel_rfl) (by kernel_rfl) (by kernel_rfl) rfl rfl rfl rfl hZ ?_ | refine EA.tNil 3 rfl (by kernel_rfl) (by kernel_rfl) (by kernel_rfl) rfl rfl rfl rfl hZ ?_ | refine EA.tField 3 rfl (by kernel_rfl) (by kernel_rfl) (by kernel_rfl) rfl rfl rfl rfl hZ ?_ | refine EA.tNot 3 rfl (by kernel_rfl) (by kernel_rfl) (by kernel_rfl) rfl rfl rfl rfl hZ ?_ | refine EA.tAdd (kd := .i64) 3 rfl (by kernel_rfl) (by kernel_rfl) (by kernel_rfl) rfl rfl rfl rfl rfl (i64_in (by omega) (by omega)) hZ ?_ | refine EA.tSub (kd := .i64) 3 rfl (by kernel_rfl) (by kernel_rfl) (by kernel_rfl) rfl rfl rfl rfl rfl (i64_in (by omega) (by omega)) hZ ?_ | refine EA.tIdxA 3 rfl (by kernel_rfl) (by kernel_rfl) (by kernel_rfl) rfl rfl rfl rfl rfl (by omega) (by omega) hZ ?_ | refine EA.tIdxS 3 rfl (by kernel_rfl) (by kernel_rfl) (by kernel_rfl) rfl rfl rfl rfl rfl (by omega) (by omega) hZ ?_ | refine EA.tLen1 3 rfl (by kernel_rfl) (by kernel_rfl) (by kernel_rfl) rfl rfl rfl rfl hZ ?_ | refine EA.takeNo 3 rfl (by kernel_rfl) (by kernel_rfl) (by kernel_rfl) rfl rfl rfl hZ ?_ | refine EA.tPickT 3 rfl (by kernel_rfl) (by kernel_rfl) (by kernel_rfl) rfl rfl rfl rfl rfl hZ ?_ | refine EA.tPickF 3 rfl (by kernel_rfl) (by kernel_rfl) (by kernel_rfl) rfl rfl rfl rfl rfl hZ ?_ | refine EA.tCmpT 3 rfl (by kernel_rfl) (by kernel_rfl) (by kernel_rfl) rfl rfl rfl rfl rfl rfl (by first | (dsimp only [cmpP]; omega) | exact rfl | exact Int.le_refl _) hZ ?_ | refine EA.tCmpF 3 rfl (by kernel_rfl) (by kernel_rfl) (by kernel_rfl) rfl rfl rfl rfl rfl rfl (by first | (dsimp only [cmpP]; omega) | exact rfl | exact Int.le_refl _) hZ ?_ | refine EA.tMul (kd := .i64) 3 rfl (by kernel_rfl) (by kernel_rfl) (by kernel_rfl) rfl rfl rfl rfl rfl (i64_in (by omega) (by omega)) hZ ?_)
    refine EA.tLoad 4 rfl (by kernel_rfl) (by kernel_rfl) (by kernel_rfl) rfl rfl rfl rfl (fun _ hz => hz.2.1) hZ ?_
    refine EA.tLoad 5 rfl (by kernel_rfl) (by kernel_rfl) (by kernel_rfl) rfl rfl rfl rfl (fun _ hz => hz.2.2) hZ ?_
    refine EA.val (v := .slice (some ⟨h2.size, 0, none⟩) 1 1) (h' := h2.push (.cells #[ptr t] 32)) 6 rfl (by kernel_rfl) rfl rfl rfl (fun ρ Q X hρ hq => sem_slice1 (sz := 1) hρ rfl (by omega) (by omega) rfl rfl hq) ⟨hcell_push z1, hcell_push z2, hcell_push z3⟩ ?_
    refine EA.append1 (q := 0) (cells := []) (new := [ptr t]) 7 rfl (by kernel_rfl) rfl rfl rfl rfl rfl SliceO.nil (get_push_new _ _) rfl (by simp [OneCell]) (by omega) (by omega) rfl (fun b o hb => by cases hb) ?_
    intro sA h3 sl3 u3 hb3
    have u3' : Upd (fun _ => False) h2 h3 := (Upd.push h2 _).trans (u3.mono fun b _ hb => by cases hb)
    have bA : ∀ b, blk sA = some b → h2.size + 1 ≤ b := fun b hb => by
      rcases hb3 b hb with x | x
      · cases x
      · rw [x, Array.size_push]; exact Nat.le_refl _
    have rp3 := rp.upd0 u3'
    have z1' := u3'.hcell z1 (fun x => x)
    have z2' := u3'.hcell z2 (fun x => x)
    have z3' := u3'.hcell z3 (fun x => x)
    clear u3 hb3
    refine ⟨⟨z1', z2', z3'⟩, ?_⟩
    obtain ⟨aA, kA, eA⟩ := sl3.val
    refine EA.val 8 rfl (by kernel_rfl) rfl rfl rfl (fun ρ Q X hρ hq => sem_nilCheck (hρ _ _ rfl) hq) ⟨z1', z2', z3'⟩ ?_
    have hZ := And.intro z1' (And.intro z2' z3')
    (first | refine EA.tMove 9 rfl (by kernel_rfl) (by kernel_rfl) (by kernel_rfl) rfl rfl rfl rfl hZ ?_ | refine EA.tAssign 9 rfl (by kernel_rfl) (by kernel_rfl) (by kernel_rfl) rfl rfl rfl rfl hZ ?_ | refine EA.tNil 9 rfl (by kernel_rfl) (by kernel_rfl) (by kernel_rfl) rfl rfl rfl rfl hZ ?_ | refine EA.tField 9 rfl (by kernel_rfl) (by kernel_rfl) (by kernel_rfl) rfl rfl rfl rfl hZ ?_ | refine EA.tNot 9 rfl (by kernel_rfl) (by kernel_rfl) (by kernel_rfl) rfl rfl rfl rfl hZ ?_ | refine EA.tAdd (kd := .i64) 9 rfl (by kernel_rfl) (by kernel_rfl) (by kernel_rfl) rfl rfl rfl rfl rfl (i64_in (by omega) (by omega)) hZ ?_ | refine EA.tSub (kd := .i64) 9 rfl (by kernel_rfl) (by kernel_rfl) (by kernel_rfl) rfl rfl rfl rfl rfl (i64_in (by omega) (by omega)) hZ ?_ | refine EA.tIdxA 9 rfl (by kernel_rfl) (by kernel_rfl) (by kernel_rfl) rfl rfl rfl rfl rfl (by omega) (by omega) hZ ?_ | refine EA.tIdxS 9 rfl (by kernel_rfl) (by kernel_rfl) (by kernel_rfl) rfl rfl rfl rfl rfl (by omega) (by omega) hZ ?_ | refine EA.tLen1 9 rfl (by kernel_rfl) (by kernel_rfl) (by kernel_rfl) rfl rfl rfl rfl hZ ?_ | refine EA.takeNo 9 rfl (by kernel_rfl) (by kernel_rfl) (by kernel_rfl) rfl rfl rfl hZ ?_ | refine EA.tPickT 9 rfl (by kernel_rfl) (by kernel_rfl) (by kernel_rfl) rfl rfl rfl rfl rfl hZ ?_ | refine EA.tPickF 9 rfl (by kernel_rfl) (by kernel_rfl) (by kernel_rfl) rfl rfl rfl rfl rfl hZ ?_ | refine EA.tCmpT 9 rfl (by kernel_rfl) (by kernel_rfl) (by kernel_rfl) rfl rfl rfl rfl rfl rfl (by first | (dsimp only [cmpP]; omega) | exact rfl | exact Int.le_refl _) hZ ?_ | refine EA.tCmpF 9 rfl (by kernel_rfl) (by kernel_rfl) (by kernel_rfl) rfl rfl rfl rfl rfl rfl (by first | (dsimp only [cmpP]; omega) | exact rfl | exact Int.le_refl _) hZ ?_ | refine EA.tMul (kd := .i64) 9 rfl (by kernel_rfl) (by kernel_rfl) (by kernel_rfl) rfl rfl rfl rfl rfl (i64_in (by omega) (by omega)) hZ ?_)
    refine EA.unitL (h' := hset h3 ⟨R, 0, none⟩ sA) 10 rfl (by kernel_rfl) rfl rfl rfl (fun ρ Q X hρ hq => sem_store1 (hρ _ _ rfl) (hρ _ _ rfl) (by rw [eA]; exact ⟨nofun, nofun⟩) ⟨_, z2'⟩ (B0 ▸ hfroz_of (rp3.get (ok 0 (by omega)) M0)) (hno _) hq) ?_
    refine EA.done (by kernel_rfl) ?_
    have rp4 := rp3.hset (ok 0 (by omega)) M0 0 sA
    rw [B0] at rp4
    have u4 : Upd (fun b => b = R) h2 (hset h3 ⟨R, 0, none⟩ sA) := (u3'.mono fun _ _ x => x.elim).trans (Upd.hset _ _ _ rfl)
    have sl4 : SliceO (hset h3 ⟨R, 0, none⟩ sA) sA 32 1 1 [ptr t] := sl3.upd (Upd.hset (T := fun b => b = R) _ _ _ rfl) (fun b hb e => by have := bA b hb; omega)
    have sz4 : h2.size ≤ (hset h3 ⟨R, 0, none⟩ sA).size := u4.size
    generalize hset h3 ⟨R, 0, none⟩ sA = h4 at rp4 u4 sl4 sz4 ⊢
    clear hZ z1' z2' z3' rp3 u3' sl3 rp
    -- r.fell
    (repeat (first | refine EK.seq ?_ | refine EK.region ?_ | refine ER.done ?_ | refine EK.skip ?_ | refine EK.block ?_ | refine EK.inBlock ?_ | refine ER.move rfl rfl rfl ?_ | refine ER.assign rfl rfl rfl ?_ | refine ER.nilCheck rfl rfl rfl ?_ | refine ER.fieldAddr rfl rfl rfl ?_ | refine ER.load1 rfl rfl rfl (hcell_of (by assumption) rfl) ?_ | refine ER.no rfl rfl ?_ | refine ER.noU rfl ?_ | refine ER.eqV rfl rfl rfl rfl rfl ?_ | refine ER.neqV rfl rfl rfl rfl rfl ?_ | refine ER.eqA rfl rfl rfl rfl rfl ?_ | refine ER.neqA rfl rfl rfl rfl rfl ?_ | refine ER.notB rfl rfl rfl ?_ | refine ER.pickT rfl rfl rfl rfl ?_ | refine ER.pickF rfl rfl rfl rfl ?_ | refine ER.extract rfl rfl rfl rfl ?_ | refine ER.cmpT rfl rfl rfl rfl rfl (by first | (dsimp only [cmpP]; omega) | exact rfl | exact Int.le_refl _) ?_ | refine ER.cmpF rfl rfl rfl rfl rfl (by first | (dsimp only [cmpP]; omega) | exact rfl | exact Int.le_refl _) ?_ | refine ER.boxA rfl rfl rfl ?_ | refine ER.box rfl rfl rfl ?_ | refine ER.allocA rfl rfl ?_ | refine ER.alloc rfl rfl ?_ | refine ER.add (kd := .i64) rfl rfl rfl rfl (i64_in (by omega) (by omega)) ?_ | refine ER.sub' (kd := .i64) rfl rfl rfl rfl (i64_in (by omega) (by omega)) ?_ | refine ER.mul (kd := .i64) rfl rfl rfl rfl (i64_in (by omega) (by omega)) ?_ | refine ER.rem (kd := .i64) rfl rfl rfl rfl (by decide) rfl ?_ | refine ER.indexArr rfl rfl rfl rfl (by omega) (by omega) ?_ | refine ER.len1 rfl rfl rfl ?_ | refine ER.indexSl rfl rfl rfl rfl (by omega) (by omega) ?_ | refine EK.condT rfl ?_ | refine EK.condF rfl ?_ | refine EK.ret ?_ | refine EK.exit rfl ?_))
    have z1' : hcell h4 ⟨h.size, 0, none⟩ = some (ptr R) := B1 ▸ rp4.cell (k := 1) (ok 1 (by omega)) M1 rfl
    have z2' : hcell h4 ⟨R, 5, none⟩ = some nilS := B0 ▸ rp4.cell (k := 0) (ok 0 (by omega)) (Mem.set_same _ _ _) rfl
    refine EK.regionAnyL (fun h' => hcell h' ⟨h.size, 0, none⟩ = some (ptr R) ∧ hcell h' ⟨R, 5, none⟩ = some nilS) 9 ?_
    have hZ := And.intro z1' z2'
    refine EA.tLoad 0 rfl (by kernel_rfl) (by kernel_rfl) (by kernel_rfl) rfl rfl rfl rfl (fun _ hz => hz.1) hZ ?_
    refine EA.tLoad 1 rfl (by kernel_rfl) (by kernel_rfl) (by kernel_rfl) rfl rfl rfl rfl (fun _ hz => hz.1) hZ ?_
    (first | refine EA.tMove 2 rfl (by kernel_rfl) (by kernel_rfl) (by kernel_rfl) rfl rfl rfl rfl hZ ?_ | refine EA.tAssign 2 rfl (by kernel_rfl) (by kernel_rfl) (by kernel_rfl) rfl rfl rfl rfl hZ ?_ | refine EA.tNil 2 rfl (by kernel_rfl) (by kernel_rfl) (by kernel_rfl) rfl rfl rfl rfl hZ ?_ | refine EA.tField 2 rfl (by kernel_rfl) (by kernel_rfl) (by kernel_rfl) rfl rfl rfl rfl hZ ?_ | refine EA.tNot 2 rfl (by kernel_rfl) (by kernel_rfl) (by kernel_rfl) rfl rfl rfl rfl hZ ?_ | refine EA.tAdd (kd := .i64) 2 rfl (by kernel_rfl) (by kernel_rfl) (by kernel_rfl) rfl rfl rfl rfl rfl (i64_in (by omega) (by omega)) hZ ?_ | refine EA.tSub (kd := .i64) 2 rfl (by kernel_rfl) (by kernel_rfl) (by kernel_rfl) rfl rfl rfl rfl rfl (i64_in (by omega) (by omega)) hZ ?_ | refine EA.tIdxA 2 rfl (by kernel_rfl) (by kernel_rfl) (by kernel_rfl) rfl rfl rfl rfl rfl (by omega) (by omega) hZ ?_ | refine EA.tIdxS 2 rfl (by kernel_rfl) (by kernel_rfl) (by kernel_rfl) rfl rfl rfl rfl rfl (by omega) (by omega) hZ ?_ | refine EA.tLen1 2 rfl (by kernel_rfl) (by kernel_rfl) (by kernel_rfl) rfl rfl rfl rfl hZ ?_ | refine EA.takeNo 2 rfl (by kernel_rfl) (by kernel_rfl) (by kernel_rfl) rfl rfl rfl hZ ?_ | refine EA.tPickT 2 rfl (by kernel_rfl) (by kernel_rfl) (by kernel_rfl) rfl rfl rfl rfl rfl hZ ?_ | refine EA.tPickF 2 rfl (by kernel_rfl) (by kernel_rfl) (by kernel_rfl) rfl rfl rfl rfl rfl hZ ?_ | refine EA.tCmpT 2 rfl (by kernel_rfl) (by kernel_rfl) (by kernel_rfl) rfl rfl rfl rfl rfl rfl (by first | (dsimp only [cmpP]; omega) | exact rfl | exact Int.le_refl _) hZ ?_ | refine EA.tCmpF 2 rfl (by kernel_rfl) (by kernel_rfl) (by kernel_rfl) rfl rfl rfl rfl rfl rfl (by first | (dsimp only [cmpP]; omega) | exact rfl | exact Int.le_refl _) hZ ?_ | refine EA.tMul (kd := .i64) 2 rfl (by kernel_rfl) (by kernel_rfl) (by kernel_rfl) rfl rfl rfl rfl rfl (i64_in (by omega) (by omega)) hZ ?_)
    (first | refine EA.tMove 3 rfl (by kernel_rfl) (by kernel_rfl) (by kernel_rfl) rfl rfl rfl rfl hZ ?_ | refine EA.tAssign 3 rfl (by kernel_rfl) (by kernel_rfl) (by kernel_rfl) rfl rfl rfl rfl hZ ?_ | refine EA.tNil 3 rfl (by kernel_rfl) (by kernel_rfl) (by kernel_rfl) rfl rfl rfl rfl hZ ?_ | refine EA.tField 3 rfl (by kernel_rfl) (by kernel_rfl) (by kernel_rfl) rfl rfl rfl rfl hZ ?_ | refine EA.tNot 3 rfl (by kernel_rfl) (by kernel_rfl) (by kernel_rfl) rfl rfl rfl rfl hZ ?_ | refine EA.tAdd (kd := .i64) 3 rfl (by kernel_rfl) (by kernel_rfl) (by kernel_rfl) rfl rfl rfl rfl rfl (i64_in (by omega) (by omega)) hZ ?_ | refine EA.tSub (kd := .i64) 3 rfl (by kernel_rfl) (by kernel_rfl) (by kernel_rfl) rfl rfl rfl rfl rfl (i64_in (by omega) (by omega)) hZ ?_ | refine EA.tIdxA 3 rfl (by kernel_rfl) (by kernel_rfl) (by kernel_rfl) rfl rfl rfl rfl rfl (by omega) (by omega) hZ ?_ | refine EA.tIdxS 3 rfl (by kernel_rfl) (by kernel_rfl) (by kernel_rfl) rfl rfl rfl rfl rfl (by omega) (by omega) hZ ?_ | refine EA.tLen1 3 rfl (by kernel_rfl) (by kernel_rfl) (by kernel_rfl) rfl rfl rfl rfl hZ ?_ | refine EA.takeNo 3 rfl (by kernel_rfl) (by kernel_rfl) (by kernel_rfl) rfl rfl rfl hZ ?_ | refine EA.tPickT 3 rfl (by kernel_rfl) (by kernel_rfl) (by kernel_rfl) rfl rfl rfl rfl rfl hZ ?_ | refine EA.tPickF 3 rfl (by kernel_rfl) (by kernel_rfl) (by kernel_rfl) rfl rfl rfl rfl rfl hZ ?_ | refine EA.tCmpT 3 rfl (by kernel_rfl) (by kernel_rfl) (by kernel_rfl) rfl rfl rfl rfl rfl rfl (by first | (dsimp only [cmpP]; omega) | exact rfl | exact Int.le_refl _) hZ ?_ | refine EA.tCmpF 3 rfl (by kernel_rfl) (by kernel_rfl) (by kernel_rfl) rfl rfl rfl rfl rfl rfl (by first | (dsimp only [cmpP]; omega) | exact rfl | exact Int.le_refl _) hZ ?_ | refine EA.tMul (kd := .i64) 3 rfl (by kernel_rfl) (by kernel_rfl) (by kernel_rfl) rfl rfl rfl rfl rfl (i64_in (by omega) (by omega)) hZ ?_)
    refine EA.tLoad 4 rfl (by kernel_rfl) (by kernel_rfl) (by kernel_rfl) rfl rfl rfl rfl (fun _ hz => hz.2) hZ ?_
    refine EA.val (v := .slice (some ⟨h4.size, 0, none⟩) 1 1) (h' := h4.push (.cells #[.bool false] 4)) 5 rfl (by kernel_rfl) rfl rfl rfl (fun ρ Q X hρ hq => sem_slice1 (sz := 1) hρ rfl (by omega) (by omega) rfl rfl hq) ⟨hcell_push z1', hcell_push z2'⟩ ?_
    refine EA.append1 (q := 0) (cells := []) (new := [.bool false]) 6 rfl (by kernel_rfl) rfl rfl rfl rfl rfl SliceO.nil (get_push_new _ _) rfl (by simp [OneCell]) (by omega) (by omega) rfl (fun b o hb => by cases hb) ?_
    intro sF h5 sl5 u5 hb5
    have u5' : Upd (fun _ => False) h4 h5 := (Upd.push h4 _).trans (u5.mono fun b _ hb => by cases hb)
    have bF : ∀ b, blk sF = some b → h4.size + 1 ≤ b := fun b hb => by
      rcases hb5 b hb with x | x
      · cases x
      · rw [x, Array.size_push]; exact Nat.le_refl _
    have rp5 := rp4.upd0 u5'
    have z1'' := u5'.hcell z1' (fun x => x)
    have z2'' := u5'.hcell z2' (fun x => x)
    clear u5 hb5
    refine ⟨⟨z1'', z2''⟩, ?_⟩
    obtain ⟨aF, kF, eF⟩ := sl5.val
    refine EA.val 7 rfl (by kernel_rfl) rfl rfl rfl (fun ρ Q X hρ hq => sem_nilCheck (hρ _ _ rfl) hq) ⟨z1'', z2''⟩ ?_
    have hZ := And.intro z1'' z2''
    (first | refine EA.tMove 8 rfl (by kernel_rfl) (by kernel_rfl) (by kernel_rfl) rfl rfl rfl rfl hZ ?_ | refine EA.tAssign 8 rfl (by kernel_rfl) (by kernel_rfl) (by kernel_rfl) rfl rfl rfl rfl hZ ?_ | refine EA.tNil 8 rfl (by kernel_rfl) (by kernel_rfl) (by kernel_rfl) rfl rfl rfl rfl hZ ?_ | refine EA.tField 8 rfl (by kernel_rfl) (by kernel_rfl) (by kernel_rfl) rfl rfl rfl rfl hZ ?_ | refine EA.tNot 8 rfl (by kernel_rfl) (by kernel_rfl) (by kernel_rfl) rfl rfl rfl rfl hZ ?_ | refine EA.tAdd (kd := .i64) 8 rfl (by kernel_rfl) (by kernel_rfl) (by kernel_rfl) rfl rfl rfl rfl rfl (i64_in (by omega) (by omega)) hZ ?_ | refine EA.tSub (kd := .i64) 8 rfl (by kernel_rfl) (by kernel_rfl) (by kernel_rfl) rfl rfl rfl rfl rfl (i64_in (by omega) (by omega)) hZ ?_ | refine EA.tIdxA 8 rfl (by kernel_rfl) (by kernel_rfl) (by kernel_rfl) rfl rfl rfl rfl rfl (by omega) (by omega) hZ ?_ | refine EA.tIdxS 8 rfl (by kernel_rfl) (by kernel_rfl) (by kernel_rfl) rfl rfl rfl rfl rfl (by omega) (by omega) hZ ?_ | refine EA.tLen1 8 rfl (by kernel_rfl) (by kernel_rfl) (by kernel_rfl) rfl rfl rfl rfl hZ ?_ | refine EA.takeNo 8 rfl (by kernel_rfl) (by kernel_rfl) (by kernel_rfl) rfl rfl rfl hZ ?_ | refine EA.tPickT 8 rfl (by kernel_rfl) (by kernel_rfl) (by kernel_rfl) rfl rfl rfl rfl rfl hZ ?_ | refine EA.tPickF 8 rfl (by kernel_rfl) (by kernel_rfl) (by kernel_rfl) rfl rfl rfl rfl rfl hZ ?_ | refine EA.tCmpT 8 rfl (by kernel_rfl) (by kernel_rfl) (by kernel_rfl) rfl rfl rfl rfl rfl rfl (by first | (dsimp only [cmpP]; omega) | exact rfl | exact Int.le_refl _) hZ ?_ | refine EA.tCmpF 8 rfl (by kernel_rfl) (by kernel_rfl) (by kernel_rfl) rfl rfl rfl rfl rfl rfl (by first | (dsimp only [cmpP]; omega) | exact rfl | exact Int.le_refl _) hZ ?_ | refine EA.tMul (kd := .i64) 8 rfl (by kernel_rfl) (by kernel_rfl) (by kernel_rfl) rfl rfl rfl rfl rfl (i64_in (by omega) (by omega)) hZ ?_)
    have okR : (M.set 0 (.cells (#[nilS, .map (some mb), nilS, nilS, nilS, nilS, .bool false].setIfInBounds 0 sA) 193 (0, 0))).ok 0 := ok 0 (by omega)
    refine EA.unitL (h' := hset h5 ⟨R, 5, none⟩ sF) 9 rfl (by kernel_rfl) rfl rfl rfl (fun ρ Q X hρ hq => sem_store1 (hρ _ _ rfl) (hρ _ _ rfl) (by rw [eF]; exact ⟨nofun, nofun⟩) ⟨_, z2''⟩ (B0 ▸ hfroz_of (rp5.get okR (Mem.set_same _ _ _))) (hno _) hq) ?_
    refine EA.done (by kernel_rfl) ?_
    have rp6 := rp5.hset okR (Mem.set_same _ _ _) 5 sF
    rw [show (M.set 0 (.cells (#[nilS, .map (some mb), nilS, nilS, nilS, nilS, .bool false].setIfInBounds 0 sA) 193 (0, 0))).B 0 = R from B0] at rp6
    have u6 : Upd (fun b => b = R) h2 (hset h5 ⟨R, 5, none⟩ sF) := (u4.trans (u5'.mono fun _ _ x => x.elim)).trans (Upd.hset _ _ _ rfl)
    have sl6 : SliceO (hset h5 ⟨R, 5, none⟩ sF) sA 32 1 1 [ptr t] := (sl4.upd u5' (fun _ _ x => x)).upd (Upd.hset (T := fun b => b = R) _ _ _ rfl) (fun b hb e => by have := bA b hb; omega)
    have sl7 : SliceO (hset h5 ⟨R, 5, none⟩ sF) sF 4 1 1 [.bool false] := sl5.upd (Upd.hset (T := fun b => b = R) _ _ _ rfl) (fun b hb e => by have := bF b hb; omega)
    generalize hset h5 ⟨R, 5, none⟩ sF = h6 at rp6 u6 sl6 sl7 ⊢
    clear hZ z1' z2' z1'' z2'' rp4 rp5 u4 u5' sl4 sl5
    have m0 : h6[R]? = some (.cells #[sA, .map (some mb), nilS, nilS, nilS, sF, .bool false] 193 (0, 0)) := B0 ▸ rp6.get (k := 0) (ok 0 (by omega)) (Mem.set_same _ _ _)
    have m2 : h6[h.size + 1]? = some (.cells #[.func (.func b) #[] bcap] 45 (0, 0)) := B2 ▸ rp6.get (k := 2) (ok 2 (by omega)) M2
    have m3 := B3 ▸ rp6.get (k := 3) (ok 3 (by omega)) M3
    have m4 : h6[w]? = some chan0 := B4 ▸ rp6.get (k := 4) (ok 4 (by omega)) M4
    have m5 : h6[s]? = some chan0 := B5 ▸ rp6.get (k := 5) (ok 5 (by omega)) M5
    have m6 : h6[p]? = some (.cells #[ptr t] 32 (0, 0)) := B6 ▸ rp6.get (k := 6) (ok 6 (by omega)) M6
    have uh : Upd (fun b => b = R) h h6 := (u2.mono fun _ _ x => x.elim).trans u6
    clear rp6
    have en : (X1 Tb Qc).num γ = 1 := by simp [X1, h0]
    (repeat (first | refine EK.seq ?_ | refine EK.region ?_ | refine ER.done ?_ | refine EK.skip ?_ | refine EK.block ?_ | refine EK.inBlock ?_ | refine ER.move rfl rfl rfl ?_ | refine ER.assign rfl rfl rfl ?_ | refine ER.nilCheck rfl rfl rfl ?_ | refine ER.fieldAddr rfl rfl rfl ?_ | refine ER.load1 rfl rfl rfl (hcell_of (by assumption) rfl) ?_ | refine ER.no rfl rfl ?_ | refine ER.noU rfl ?_ | refine ER.eqV rfl rfl rfl rfl rfl ?_ | refine ER.neqV rfl rfl rfl rfl rfl ?_ | refine ER.eqA rfl rfl rfl rfl rfl ?_ | refine ER.neqA rfl rfl rfl rfl rfl ?_ | refine ER.notB rfl rfl rfl ?_ | refine ER.pickT rfl rfl rfl rfl ?_ | refine ER.pickF rfl rfl rfl rfl ?_ | refine ER.extract rfl rfl rfl rfl ?_ | refine ER.cmpT rfl rfl rfl rfl rfl (by first | (dsimp only [cmpP]; omega) | exact rfl | exact Int.le_refl _) ?_ | refine ER.cmpF rfl rfl rfl rfl rfl (by first | (dsimp only [cmpP]; omega) | exact rfl | exact Int.le_refl _) ?_ | refine ER.boxA rfl rfl rfl ?_ | refine ER.box rfl rfl rfl ?_ | refine ER.allocA rfl rfl ?_ | refine ER.alloc rfl rfl ?_ | refine ER.add (kd := .i64) rfl rfl rfl rfl (i64_in (by omega) (by omega)) ?_ | refine ER.sub' (kd := .i64) rfl rfl rfl rfl (i64_in (by omega) (by omega)) ?_ | refine ER.mul (kd := .i64) rfl rfl rfl rfl (i64_in (by omega) (by omega)) ?_ | refine ER.rem (kd := .i64) rfl rfl rfl rfl (by decide) rfl ?_ | refine ER.indexArr rfl rfl rfl rfl (by omega) (by omega) ?_ | refine ER.len1 rfl rfl rfl ?_ | refine ER.indexSl rfl rfl rfl rfl (by omega) (by omega) ?_ | refine EK.condT rfl ?_ | refine EK.condF rfl ?_ | refine EK.ret ?_ | refine EK.exit rfl ?_))
    refine ER.makeFunc (fv := #[]) (cv := #[ptr h.size, ptr p, ptr (h.size + 1)]) rfl rfl (fun ρ hρ => ⟨map_ofL hρ (vs := []) rfl, map_ofL hρ (vs := [ptr h.size, ptr p, ptr (h.size + 1)]) rfl⟩) ?_
    refine ER.goes (X := X1 Tb Qc) (γ₁ := ⟨1, t, w, s, p, h6⟩) rfl rfl rfl (by rw [en]; rfl) (fun x hx hlt => by rw [en] at hlt; omega) ?sit ?_
    case sit =>
      rw [en]
      refine child_ok (γ := ⟨1, t, w, s, p, h6⟩) (u0 := .bool false) rfl rfl (hcell_of m6 rfl) (hcell_of m2 rfl) (hcell_of m3 rfl) (hcell_of m3 rfl) (hcell_of m3 rfl) (hfroz_of m3) ⟨0, m4⟩ ⟨0, m5⟩ n67 (fun e => n910 e.symm) (fun a ha e => ?_) ⟨fun x => ?_, fun x => ?_, fun x => ?_, fun x => ?_⟩ (fun h₂ γ₂ hP hR' => ?_)
      · have h1 := hQ a ha
        have h2 : a.block = t := e
        omega
      · have h1 := hT _ x
        have h2 : t < n0 := h1
        omega
      · have h1 := hT _ x
        have h2 : p < n0 := h1
        omega
      · have h1 := hT _ x
        have h2 : s < n0 := h1
        omega
      · have h1 := hT _ x
        have h2 : w < n0 := h1
        omega
      · obtain ⟨e1, e2, e3, e4, e5⟩ := id hR'
        obtain ⟨p1, p2, p3, p4⟩ := id hP
        refine hbody h₂ t ⟨0, γ₂⟩ ?_ (by omega) ?_
        · refine (uh.mono fun b _ e => by rw [e]; exact hn).trans ⟨?_, fun b hb hnb => ?_⟩
          · rw [p2, e5]; exact Nat.le_refl _
          · rw [p3 b (by rw [e2]; show b ≠ w; omega), e5]
        · rintro i o hi ⟨j, hj, hlt, hc, hs⟩
          have e0 : j = 0 := by
            simp [X1, p1] at hlt; omega
          subst e0
          simp only [X1, if_true, c0] at hs
          split at hs
          · rename_i e
            have : i = γ₂.t := congrArg Addr.block e
            rw [e1] at this
            have : i = t := this
            omega
          · cases hs
    (repeat (first | refine EK.seq ?_ | refine EK.region ?_ | refine ER.done ?_ | refine EK.skip ?_ | refine EK.block ?_ | refine EK.inBlock ?_ | refine ER.move rfl rfl rfl ?_ | refine ER.assign rfl rfl rfl ?_ | refine ER.nilCheck rfl rfl rfl ?_ | refine ER.fieldAddr rfl rfl rfl ?_ | refine ER.load1 rfl rfl rfl (hcell_of (by assumption) rfl) ?_ | refine ER.no rfl rfl ?_ | refine ER.noU rfl ?_ | refine ER.eqV rfl rfl rfl rfl rfl ?_ | refine ER.neqV rfl rfl rfl rfl rfl ?_ | refine ER.eqA rfl rfl rfl rfl rfl ?_ | refine ER.neqA rfl rfl rfl rfl rfl ?_ | refine ER.notB rfl rfl rfl ?_ | refine ER.pickT rfl rfl rfl rfl ?_ | refine ER.pickF rfl rfl rfl rfl ?_ | refine ER.extract rfl rfl rfl rfl ?_ | refine ER.cmpT rfl rfl rfl rfl rfl (by first | (dsimp only [cmpP]; omega) | exact rfl | exact Int.le_refl _) ?_ | refine ER.cmpF rfl rfl rfl rfl rfl (by first | (dsimp only [cmpP]; omega) | exact rfl | exact Int.le_refl _) ?_ | refine ER.boxA rfl rfl rfl ?_ | refine ER.box rfl rfl rfl ?_ | refine ER.allocA rfl rfl ?_ | refine ER.alloc rfl rfl ?_ | refine ER.add (kd := .i64) rfl rfl rfl rfl (i64_in (by omega) (by omega)) ?_ | refine ER.sub' (kd := .i64) rfl rfl rfl rfl (i64_in (by omega) (by omega)) ?_ | refine ER.mul (kd := .i64) rfl rfl rfl rfl (i64_in (by omega) (by omega)) ?_ | refine ER.rem (kd := .i64) rfl rfl rfl rfl (by decide) rfl ?_ | refine ER.indexArr rfl rfl rfl rfl (by omega) (by omega) ?_ | refine ER.len1 rfl rfl rfl ?_ | refine ER.indexSl rfl rfl rfl rfl (by omega) (by omega) ?_ | refine EK.condT rfl ?_ | refine EK.condF rfl ?_ | refine EK.ret ?_ | refine EK.exit rfl ?_))
    refine ER.callR rfl rfl rfl rfl rfl (goes_ok (γ := ⟨1, t, w, s, p, h6⟩) rfl rfl (hcell_of m3 rfl) (hcell_of m3 rfl) ⟨0, m4⟩ ⟨0, m5⟩ n67) ?_
    rintro v h7 δ7 ⟨γ', rfl, hR', hP⟩
    obtain ⟨e1, e2, e3, e4, e5⟩ := hR'
    obtain ⟨p1, p2, p3, p4, p5⟩ := hP
    rw [e1, e2, e3, e5] at p2
    rw [e1] at p4
    dsimp only at p2 p4 e1
    have hk : ∀ {x}, n0 ≤ x → x ≠ t → x ≠ w → x ≠ s → ¬ (Tb x ∨ x = t ∨ x = w ∨ x = s) := fun {x} h1 h2 h3 h4 y => by
      rcases y with y | y | y | y
      · have := hT _ y; omega
      · exact h2 y
      · exact h3 y
      · exact h4 y
    have c6 := p2.get m6 (hk (by omega) (fun e => n910 e.symm) (fun e => n610 e.symm) (fun e => n710 e.symm))
    (repeat (first | refine EK.seq ?_ | refine EK.region ?_ | refine ER.done ?_ | refine EK.skip ?_ | refine EK.block ?_ | refine EK.inBlock ?_ | refine ER.move rfl rfl rfl ?_ | refine ER.assign rfl rfl rfl ?_ | refine ER.nilCheck rfl rfl rfl ?_ | refine ER.fieldAddr rfl rfl rfl ?_ | refine ER.load1 rfl rfl rfl (hcell_of (by assumption) rfl) ?_ | refine ER.no rfl rfl ?_ | refine ER.noU rfl ?_ | refine ER.eqV rfl rfl rfl rfl rfl ?_ | refine ER.neqV rfl rfl rfl rfl rfl ?_ | refine ER.eqA rfl rfl rfl rfl rfl ?_ | refine ER.neqA rfl rfl rfl rfl rfl ?_ | refine ER.notB rfl rfl rfl ?_ | refine ER.pickT rfl rfl rfl rfl ?_ | refine ER.pickF rfl rfl rfl rfl ?_ | refine ER.extract rfl rfl rfl rfl ?_ | refine ER.cmpT rfl rfl rfl rfl rfl (by first | (dsimp only [cmpP]; omega) | exact rfl | exact Int.le_refl _) ?_ | refine ER.cmpF rfl rfl rfl rfl rfl (by first | (dsimp only [cmpP]; omega) | exact rfl | exact Int.le_refl _) ?_ | refine ER.boxA rfl rfl rfl ?_ | refine ER.box rfl rfl rfl ?_ | refine ER.allocA rfl rfl ?_ | refine ER.alloc rfl rfl ?_ | refine ER.add (kd := .i64) rfl rfl rfl rfl (i64_in (by omega) (by omega)) ?_ | refine ER.sub' (kd := .i64) rfl rfl rfl rfl (i64_in (by omega) (by omega)) ?_ | refine ER.mul (kd := .i64) rfl rfl rfl rfl (i64_in (by omega) (by omega)) ?_ | refine ER.rem (kd := .i64) rfl rfl rfl rfl (by decide) rfl ?_ | refine ER.indexArr rfl rfl rfl rfl (by omega) (by omega) ?_ | refine ER.len1 rfl rfl rfl ?_ | refine ER.indexSl rfl rfl rfl rfl (by omega) (by omega) ?_ | refine EK.condT rfl ?_ | refine EK.condF rfl ?_ | refine EK.ret ?_ | refine EK.exit rfl ?_))
    refine EU.ret1 rfl rfl ⟨γ', rfl, p1, by rw [e1]; rfl, by omega, ⟨Nat.le_trans uh.size p2.size, fun b hb hnb => ?_⟩, p5, by rw [e1]; exact p4, sA, sF, p2.get m0 (hk hn (by omega) (by omega) (by omega)), ?_, ?_⟩
    · have hb6 : b < h6.size := Nat.lt_of_lt_of_le hb uh.size
      refine (p2.2 b hb6 ?_).trans (uh.2 b hb (fun e => hnb (.inr e)))
      rintro (y | y | y | y)
      · exact hnb (.inl y)
      all_goals omega
    · rw [e1]; exact sl6.upd p2 (fun b hb => hk (by have := bA b hb; omega) (by have := bA b hb; omega) (by have := bA b hb; omega) (by have := bA b hb; omega))
    · exact sl7.upd p2 (fun b hb => hk (by have := bF b hb; omega) (by have := bF b hb; omega) (by have := bF b hb; omega) (by have := bF b hb; omega))
end
end Go.Proofs.Ytkppboglffdmnaa
