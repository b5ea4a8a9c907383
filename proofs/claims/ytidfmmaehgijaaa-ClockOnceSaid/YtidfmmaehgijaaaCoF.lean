/- Steps of the walk and of the plain law (CoR to CoY). Conditions: as each lemma says. -/
import Derived.Test.YtidfmmaehgijaaaCoE
namespace Go.Proofs.Ytidfmmaehgijaaa
section
open Go Go.TJ Go.Conc Go.Proofs
theorem sem_makeSlice1 {Γ : Type} {P : Program} {S : Sit Γ} {h : Hp} {δ : Ix Γ} {ty : TypeId} {pos : String} {af : Array Edge} {g : Option (Nat × Bool)} {t e by_ m : Nat} {z : Value} {x y : Operand} [hinf : Inf P e 1 by_ z] [hu : Und P t (.slice e)] {ρ : Operand -> Value} {dst : Option Nat} {Q : Next -> Hp -> Ix Γ -> Prop} {X : Value -> Hp -> Ix Γ -> Prop}
    (hx : ρ x = .int .i64 m) (hy : ρ y = .int .i64 m) (hfit : by_ * m <= 140737488355328) (hm : m < 1000000000000) (hz : z.cells = #[z])
    (hq : Q (.value (.slice (some ⟨h.size, 0, none⟩) m m)) (h.push (.cells (List.replicate m z).toArray e)) δ) : SemW P S (execOp ρ ⟨dst, .makeSlice t x y, ty, pos, af, g⟩) h δ Q X := by
  show SemW P S (Instr.makeSlice t (ρ x) (ρ y) >>= fun v => pure (.value v)) h δ Q X
  rw [hx, hy]
  refine semW_bind _ _ _ _ _ _ ?_
  obtain ⟨inf, hi1, hi2, hi3, hi4⟩ := hinf.get
  have hwr : IntKind.i64.wrap ((m : Int)) = m := i64_in (by omega) (by omega)
  unfold Instr.makeSlice
  show SemW P S (underlying t >>= _) h δ _ X
  refine semW_underlying hu.out ?_
  refine semW_pureBind ?_
  refine semW_pureBind ?_
  refine semW_typeInfo hi1 ?_
  simp only [hwr, hi3]
  have hc : ¬ ((by_ : Int) * m > 2 ^ 48) := by
    have := Int.ofNat_le.mpr hfit
    rw [Int.natCast_mul] at this
    have e : (2 : Int) ^ 48 = 281474976710656 := by decide
    rw [e]
    omega
  rw [if_neg (by rw [decide_eq_false (by omega : ¬ ((m : Int) < 0)), decide_eq_false hc, decide_eq_false (by omega : ¬ ((m : Int) > m))]; decide)]
  have hroom : ∀ {Q' : Unit -> Hp -> Ix Γ -> Prop}, Q' () h δ -> SemW P S (askRoom (((m : Int)).toNat * by_)) h δ Q' X := fun {Q'} hq' => by
    unfold askRoom
    split
    · exact ⟨nofun, nofun, hq'⟩
    · exact hq'
  refine semW_bind _ _ _ _ _ _ (hroom ?_)
  refine semW_sizeOf hi1 ?_
  rw [hi2]
  have hrow : ∀ zs : Array Value, (m = 0 \/ zs = #[z]) -> Array.map (fun x => zs[x % zs.size]!) (Array.range (((m : Int)).toNat * 1)) = (List.replicate m z).toArray := fun zs hzs => by
    rcases hzs with rfl | rfl
    · simp
    · apply Array.ext'
      simp
      apply List.ext_getElem
      · simp
      · intro i h1 h2; simp [Nat.mod_one]
  split
  · refine semW_pureBind ?_
    rename_i h0
    refine ⟨thawed, ?_⟩
    rw [hrow _ (.inl (by omega))]
    exact hq
  · refine semW_zeroValue hi1 hi4 ?_
    refine semW_pureBind ?_
    refine ⟨thawed, ?_⟩
    rw [hrow _ (.inr hz)]
    exact hq
theorem sem_boxB {Γ : Type} {P : Program} {S : Sit Γ} {h : Hp} {δ : Ix Γ} {ty : TypeId} {pos : String} {af : Array Edge} {g : Option (Nat × Bool)} {t : TypeId} {x : Operand} {cs : Array Value} {ρ : Operand -> Value} {dst : Option Nat} {Q : Next -> Hp -> Ix Γ -> Prop} {X : Value -> Hp -> Ix Γ -> Prop} (hx : ρ x = .agg cs)
    (hq : Q (.value (.pointer (some ⟨h.size, 0, none⟩))) (h.push (.cells cs t)) δ) : SemW P S (execOp ρ ⟨dst, .box t x, ty, pos, af, g⟩) h δ Q X := by
  show SemW P S (Instr.box t (ρ x) >>= fun v => pure (.value v)) h δ Q X
  rw [hx]
  exact ⟨thawed, hq⟩
def worldO (pl : List Value) (a b c : Value) : Obj := .cells (pl ++ [a, b, c]).toArray 46 (0, 0)
abbrev playO (pl : List Value) : Obj := .cells pl.toArray 25 (0, 0)
def handsL (y i : Nat) : List Value := (List.range 64).map fun t => if t < i then ptr (y + 3 + t) else .pointer none
theorem handsL_set {y i : Nat} (hi : i < 64) : (handsL y i).set i (ptr (y + 3 + i)) = handsL y (i + 1) := by
  apply List.ext_getElem?
  intro j
  by_cases e : i = j
  · subst e
    rw [List.getElem?_set_self (by simp [handsL]; exact hi)]
    unfold handsL
    rw [List.getElem?_map, List.getElem?_range hi]
    simp
  · rw [List.getElem?_set_ne e]
    unfold handsL
    rw [List.getElem?_map, List.getElem?_map]
    by_cases hj : j < 64
    · rw [List.getElem?_range hj]
      simp only [Option.map_some]
      by_cases h1 : j < i
      · rw [if_pos h1, if_pos (by omega)]
      · rw [if_neg h1, if_neg (by omega)]
    · rw [List.getElem?_eq_none (by simp; omega)]; rfl
theorem world_set0 {pl : List Value} {a b c v : Value} (hl : pl.length = 13) : (pl ++ [a, b, c]).set 14 v = pl ++ [a, v, c] := by
  rw [List.set_append_right (h := by omega), hl]; rfl
theorem world_set1 {pl : List Value} {a b c v : Value} (hl : pl.length = 13) : (pl ++ [a, b, c]).set 15 v = pl ++ [a, b, v] := by
  rw [List.set_append_right (h := by omega), hl]; rfl
theorem world_get {pl : List Value} {a b c : Value} (hl : pl.length = 13) : (pl ++ [a, b, c])[13]? = some a /\ (pl ++ [a, b, c])[14]? = some b /\ (pl ++ [a, b, c])[15]? = some c := by
  refine ⟨?_, ?_, ?_⟩ <;> rw [List.getElem?_append_right (by omega), hl] <;> rfl
section
variable {Γ : Type} {main : Bool} {h h' : Hp} {δ : Ix Γ}
structure NW (h0 h : Hp) (pl : List Value) (W nK nC : Nat) (hb K C : Nat -> Nat) (B : Nat -> Nat -> Nat) (Hs Ks Cs : Value) : Prop where
  w : h[W]? = some (worldO pl Hs Ks Cs)
  sH : SliceO h Hs 51 1 64 ((List.range 64).map fun t => ptr (hb t))
  hnd : ∀ t, t < 64 -> h[hb t]? = some (handO (.pointer none) nilS)
  hbi : ∀ t t', hb t = hb t' -> t = t'
  sK : SliceO h Ks 77 1 nK ((List.range nK).map fun k => ptr (K k))
  kc : ∀ k, k < nK -> h[K k]? = some (cellO 0)
  sC : SliceO h Cs 57 1 nC ((List.range nC).map fun k => ptr (C k))
  ck : ∀ i, i < nC -> Clk h (C i) (B i) (fun _ => 0) (fun _ => .nilFunc)
  Bi : ∀ i j i' j', i < nC -> j < 34 -> i' < nC -> j' < 34 -> B i j = B i' j' -> i = i' /\ j = j'
  KB : ∀ k i j, k < nK -> i < nC -> j < 34 -> K k ≠ B i j
  Ci : ∀ i j, i < nC -> j < nC -> C i = C j -> i = j
  up : Upd (fun _ => False) h0 h
  lo : h0.size <= W /\ (∀ t, h0.size <= hb t) /\ (∀ k, k < nK -> h0.size <= K k) /\ (∀ i, i < nC -> h0.size <= C i /\ ∀ j, j < 34 -> h0.size <= B i j) /\ (∀ b, blk Hs = some b -> h0.size <= b) /\ (∀ b, blk Ks = some b -> h0.size <= b) /\ ∀ b, blk Cs = some b -> h0.size <= b
set_option maxRecDepth 8000 in
set_option maxHeartbeats 8000000 in
theorem cnewWorld {V K3 K7 K8 K9 K10 K11 K12 : Value} {i1 i2 i5 : Int} {nC nK : Nat} {pl : List Value} (hpl : pl = [V, .int .i64 i1, .int .i64 i2, K3, .int .i64 nC, .int .i64 i5, .int .i64 nK, K7, K8, K9, K10, K11, K12]) (hnC : nC <= 3) (hnK : nK <= 3) :
    CallW Try.prog main (NoS (Γ := Γ)) 10 #[.agg pl.toArray] h δ (Ret fun w h' δ' => δ' = δ /\ ∃ (W : Nat) (hb K C : Nat -> Nat) (B : Nat -> Nat -> Nat) (Hs Ks Cs : Value), w = ptr W /\ NW h h' pl W nK nC hb K C B Hs Ks Cs) := by
  have hl13 : pl.length = 13 := by rw [hpl]; rfl
  obtain ⟨y, hy⟩ : ∃ y, y = h.size := ⟨_, rfl⟩
  have z0 : (h.push (playO pl))[y]? = some (playO pl) := by rw [hy]; exact get_push_new _ _
  refine CallW.start (n := 61) rfl rfl ?_
  refine EK.seq ?_
  refine EK.region ?_
  refine ER.boxA rfl rfl rfl ?_
  (repeat (first | refine EK.seq ?_ | refine ER.done ?_ | refine ER.assign rfl rfl rfl ?_))
  change EK _ _ _ _ _ _ _ _ (h.push (playO pl)) _ _
  have s0 : (h.push (playO pl)).size = y + 1 := by rw [Array.size_push, hy]
  refine EK.regionAny (fun h' => TJ.hrow h' y 0 pl) ?_
  have hZ : TJ.hrow (h.push (playO pl)) y 0 pl := hrow_block (vs := pl) (rest := []) (by rw [List.append_nil]; exact z0)
  refine EA.tLoadN (vs := pl) 0 rfl (by kernel_rfl) rfl rfl rfl (by rw [hy]; rfl) hl13 (fun _ hz => hz) hZ ?_
  have z1 : ((h.push (playO pl)).push (.cells (List.replicate 64 (.pointer none)).toArray 51))[y]? = some (playO pl) := get_push _ z0
  have s1 : ((h.push (playO pl)).push (.cells (List.replicate 64 (.pointer none)).toArray 51)).size = y + 2 := by rw [Array.size_push, s0]
  have g1 : ((h.push (playO pl)).push (.cells (List.replicate 64 (.pointer none)).toArray 51))[y + 1]? = some (.cells (handsL y 0).toArray 51 (0, 0)) := by
    rw [<- s0]; exact get_push_new _ _
  have hr1 : TJ.hrow ((h.push (playO pl)).push (.cells (List.replicate 64 (.pointer none)).toArray 51)) y 0 pl := hrow_block (vs := pl) (rest := []) (by rw [List.append_nil]; exact z1)
  have u1 : Upd (fun _ => False) h ((h.push (playO pl)).push (.cells (List.replicate 64 (.pointer none)).toArray 51)) := (Upd.push _ _).trans (Upd.push _ _)
  refine EA.val (v := .slice (some ⟨y + 1, 0, none⟩) 64 64) (h' := (h.push (playO pl)).push (.cells (List.replicate 64 (.pointer none)).toArray 51)) 1 rfl (by kernel_rfl) rfl rfl rfl (fun ρ Q X hρ hq => by
    rw [<- s0] at hq
    exact sem_makeSlice1 (m := 64) (z := .pointer none) (hρ _ _ rfl) (hρ _ _ rfl) (by omega) (by omega) rfl hq) hr1 ?_
  generalize (h.push (playO pl)).push (.cells (List.replicate 64 (.pointer none)).toArray 51) = h1 at z1 s1 g1 hr1 u1 ⊢
  refine EA.val (v := .agg (pl ++ [.slice (some ⟨y + 1, 0, none⟩) 64 64, nilS, nilS]).toArray) (h' := h1) 2 rfl (by kernel_rfl) rfl rfl rfl (fun ρ Q X hρ hq => sem_buildS (parts := [(0, .agg pl.toArray), (1, .slice (some ⟨y + 1, 0, none⟩) 64 64)]) hρ rfl (by subst hpl; kernel_rfl) hq) hr1 ?_
  have u2 := u1.trans (Upd.push (T := fun _ => False) h1 (worldO pl (.slice (some ⟨y + 1, 0, none⟩) 64 64) nilS nilS))
  have s2 : (h1.push (worldO pl (.slice (some ⟨y + 1, 0, none⟩) 64 64) nilS nilS)).size = y + 3 := by rw [Array.size_push, s1]
  have g2 : (h1.push (worldO pl (.slice (some ⟨y + 1, 0, none⟩) 64 64) nilS nilS))[y + 2]? = some (worldO pl (.slice (some ⟨y + 1, 0, none⟩) 64 64) nilS nilS) := by rw [<- s1]; exact get_push_new _ _
  have z2 := get_push (o := worldO pl (.slice (some ⟨y + 1, 0, none⟩) 64 64) nilS nilS) z1
  have g12 := get_push (o := worldO pl (.slice (some ⟨y + 1, 0, none⟩) 64 64) nilS nilS) g1
  have hZ : TJ.hrow (h1.push (worldO pl (.slice (some ⟨y + 1, 0, none⟩) 64 64) nilS nilS)) y 0 pl := hrow_block (vs := pl) (rest := []) (by rw [List.append_nil]; exact z2)
  refine EA.val (v := ptr (y + 2)) (h' := h1.push (worldO pl (.slice (some ⟨y + 1, 0, none⟩) 64 64) nilS nilS)) 3 rfl (by kernel_rfl) rfl rfl rfl (fun ρ Q X hρ hq => by
    rw [<- s1] at hq
    exact sem_boxB (hρ _ _ rfl) hq) hZ ?_
  generalize h1.push (worldO pl (.slice (some ⟨y + 1, 0, none⟩) 64 64) nilS nilS) = h2 at u2 s2 g2 z2 g12 hZ ⊢
  refine EA.tAssign 4 rfl (by kernel_rfl) rfl rfl rfl rfl hZ ?_
  refine EA.done (by kernel_rfl) ?_
  clear z0 s0 z1 s1 g1 hr1 u1 hZ
  (repeat (first | refine EK.seq ?_ | refine EK.region ?_ | refine ER.done ?_ | refine EK.block ?_ | refine ER.assign rfl rfl rfl ?_))
  rw [<- hy]
  refine EK.loopInv (fun i : Nat => [(4, .int .i64 i), (3, ptr (y + 2)), (1, ptr y)]) (fun i h' δ' => δ' = δ /\ i <= 64 /\ Upd (fun _ => False) h h' /\ h'.size = y + 3 + i /\ h'[y]? = some (playO pl) /\ h'[y + 1]? = some (.cells (handsL y i).toArray 51 (0, 0)) /\ h'[y + 2]? = some (worldO pl (.slice (some ⟨y + 1, 0, none⟩) 64 64) nilS nilS) /\ ∀ t, t < i -> h'[y + 3 + t]? = some (handO (.pointer none) nilS)) (fun i => 64 - i) 0 ⟨rfl, rfl, rfl, trivial⟩ ⟨rfl, Nat.zero_le _, u2, s2, z2, g12, g2, fun t ht => by omega⟩ ?_
  clear u2 s2 g2 z2 g12 h2 h1
  rintro i h2 δ1 ⟨hδ1, hi, u2, s2, z2, g1, g2, gh⟩ again
  obtain rfl : δ = δ1 := hδ1.symm
  have c13 : hcell h2 ⟨y + 2, 13, none⟩ = some (.slice (some ⟨y + 1, 0, none⟩) 64 64) := hcell_of g2 (by simp [(world_get hl13).1])
  by_cases hi6 : i < 64
  · (repeat (first | refine EK.seq ?_ | refine EK.region ?_ | refine ER.done ?_ | refine EK.skip ?_ | refine EK.block ?_ | refine ER.move rfl rfl rfl ?_ | refine ER.nilCheck rfl rfl rfl ?_ | refine ER.fieldAddr rfl rfl rfl ?_ | refine ER.cmpT rfl rfl rfl rfl rfl (by first | (dsimp only [cmpP]; omega) | exact rfl | exact Int.le_refl _) ?_ | refine ER.len1 rfl rfl rfl ?_ | refine EK.condT rfl ?_ | refine ER.load1 rfl rfl rfl (by assumption) ?_))
    refine ER.buildS (cells := #[.pointer none, nilS, nilS]) rfl rfl (by rfl) (by rfl) ?_
    (repeat (first | refine ER.boxA rfl rfl rfl ?_ | refine ER.indexSl rfl rfl rfl rfl (by omega) (by omega) ?_))
    change ER _ _ _ _ _ _ _ _ _ _ (h2.push (handO (.pointer none) nilS)) _ _
    have g1' := get_push (o := handO (.pointer none) nilS) g1
    refine ER.store1 rfl rfl rfl (by simp [OneCell]) ⟨.pointer none, hcell_of g1' (by simp [handsL, hi6])⟩ (hfroz_of g1') (fun x => x) ?_
    rw [hset_block g1']
    change ER _ _ _ _ _ _ _ _ _ _ ((h2.push (handO (.pointer none) nilS)).setIfInBounds (y + 1) (.cells ((handsL y i).toArray.setIfInBounds (0 + i * 1) (ptr h2.size)) 51 (0, 0))) _ _
    have hset9 : (handsL y i).toArray.setIfInBounds (0 + i * 1) (ptr h2.size) = (handsL y (i + 1)).toArray := by
      rw [show (0 : Nat) + i * 1 = i by omega, s2, List.setIfInBounds_toArray, handsL_set (y := y) hi6]
    rw [hset9]
    change ER _ _ _ _ _ _ _ _ _ _ ((h2.push (handO (.pointer none) nilS)).setIfInBounds (y + 1) (.cells (handsL y (i + 1)).toArray 51 (0, 0))) _ _
    have hsz : h.size <= y + 1 := by omega
    (repeat (first | refine EK.region ?_ | refine ER.done ?_ | refine EK.inBlock ?_ | refine ER.move rfl rfl rfl ?_ | refine ER.assign rfl rfl rfl ?_ | refine ER.add (kd := .i64) rfl rfl rfl rfl (i64_in (by omega) (by omega)) ?_))
    refine EK.back (again (i + 1) _ _ (by omega) ⟨rfl, by omega, upd_then (u2.trans (Upd.push _ (handO (.pointer none) nilS))) (Upd.set (T := fun b => b = y + 1) _ _ _ rfl) (fun b hb e => by omega), by rw [Array.size_setIfInBounds, Array.size_push, s2]; omega, ?_, get_set_same g1', ?_, fun t ht => ?_⟩) ⟨rfl, rfl, rfl, trivial⟩
    · rw [get_set_ne _ (by omega)]; exact get_push _ z2
    · rw [get_set_ne _ (by omega)]; exact get_push _ g2
    · rw [get_set_ne _ (by omega)]
      by_cases e : t = i
      · subst e
        rw [<- s2]; exact get_push_new _ _
      · exact get_push _ (gh t (by omega))
  · obtain rfl : i = 64 := by omega
    clear again
    have lo : h.size <= y := by omega
    have f6 : ∀ {h' : Hp}, h'[y]? = some (playO pl) -> hcell h' ⟨y, 6, none⟩ = some (.int .i64 nK) := fun z => hcell_of z (by rw [hpl]; rfl)
    have f4 : ∀ {h' : Hp}, h'[y]? = some (playO pl) -> hcell h' ⟨y, 4, none⟩ = some (.int .i64 nC) := fun z => hcell_of z (by rw [hpl]; rfl)
    have wne : y + 2 ≠ y := by omega
    (repeat (first | refine EK.seq ?_ | refine EK.region ?_ | refine ER.done ?_ | refine EK.block ?_ | refine ER.move rfl rfl rfl ?_ | refine ER.assign rfl rfl rfl ?_ | refine ER.nilCheck rfl rfl rfl ?_ | refine ER.fieldAddr rfl rfl rfl ?_ | refine ER.cmpF rfl rfl rfl rfl rfl (by first | (dsimp only [cmpP]; omega) | exact rfl | exact Int.le_refl _) ?_ | refine ER.len1 rfl rfl rfl ?_ | refine EK.condF rfl ?_ | refine EK.exit rfl ?_ | refine ER.load1 rfl rfl rfl (by assumption) ?_))
    refine EK.loopInv (fun q : Nat × Value × (Nat -> Nat) => [(5, .int .i64 q.1), (3, ptr (y + 2)), (1, ptr y)]) (fun q h' δ' => δ' = δ /\ q.1 <= nK /\ Upd (fun b => b = y + 2) h2 h' /\ h'[y + 2]? = some (worldO pl (.slice (some ⟨y + 1, 0, none⟩) 64 64) q.2.1 nilS) /\ SliceO h' q.2.1 77 1 q.1 ((List.range q.1).map fun k => ptr (q.2.2 k)) /\ (∀ b, blk q.2.1 = some b -> h2.size <= b) /\ ∀ k, k < q.1 -> h2.size <= q.2.2 k /\ h'[q.2.2 k]? = some (cellO 0)) (fun q => nK - q.1) (0, nilS, fun _ => 0) ⟨rfl, rfl, rfl, trivial⟩ ⟨rfl, Nat.zero_le _, Upd.refl _ _, g2, SliceO.nil, fun b e => (by cases e), fun k hk => by omega⟩ ?_
    rintro ⟨q, sK, K⟩ h3 δ1 ⟨hδ2, hq, u3, gw, sl3, fr3, hc3⟩ again
    obtain rfl : δ = δ1 := hδ2.symm
    dsimp only at hq u3 gw sl3 fr3 hc3 again ⊢
    have z3 : h3[y]? = some (playO pl) := u3.get z2 (Ne.symm wne)
    have c6 := f6 z3
    by_cases hqn : q < nK
    · (repeat (first | refine EK.seq ?_ | refine EK.region ?_ | refine ER.done ?_ | refine EK.skip ?_ | refine EK.block ?_ | refine ER.move rfl rfl rfl ?_ | refine ER.fieldAddr rfl rfl rfl ?_ | refine ER.cmpT rfl rfl rfl rfl rfl (by first | (dsimp only [cmpP]; omega) | exact rfl | exact Int.le_refl _) ?_ | refine EK.condT rfl ?_ | refine ER.load1 rfl rfl rfl (by assumption) ?_))
      have c14 : hcell h3 ⟨y + 2, 14, none⟩ = some sK := hcell_of gw (by simp [(world_get hl13).2.1])
      have sz3 := u3.size
      have gwB := get_push (o := .cells #[ptr h3.size] 77 (0, 0)) (get_push (o := cellO 0) gw)
      have slB := (sl3.upd (Upd.push (T := fun _ => False) h3 (cellO 0)) (fun _ _ x => x)).upd (Upd.push (T := fun _ => False) (h3.push (cellO 0)) (.cells #[ptr h3.size] 77)) (fun _ _ x => x)
      refine EK.regionAnyL (fun h' => hcell h' ⟨y + 2, 14, none⟩ = some sK) 10 ?_
      have hZ := c14
      refine EA.tMove 0 rfl (by kernel_rfl) rfl rfl rfl rfl hZ ?_
      refine EA.tMove 1 rfl (by kernel_rfl) rfl rfl rfl rfl hZ ?_
      refine EA.tNil 2 rfl (by kernel_rfl) rfl rfl rfl rfl hZ ?_
      refine EA.tField 3 rfl (by kernel_rfl) rfl rfl rfl rfl hZ ?_
      refine EA.tLoad 4 rfl (by kernel_rfl) rfl rfl rfl rfl (fun _ hz => hz) hZ ?_
      refine EA.callD 5 rfl (by kernel_rfl) rfl rfl rfl rfl rfl rfl cnew (hcell_push hZ) ?_
      refine EA.val (v := .slice (some ⟨(h3.push (cellO 0)).size, 0, none⟩) 1 1) (h' := (h3.push (cellO 0)).push (.cells #[ptr h3.size] 77)) 6 rfl (by kernel_rfl) rfl rfl rfl (fun ρ Q X hρ hq => sem_slice1 (sz := 1) hρ rfl (by omega) (by omega) rfl rfl hq) (hcell_push (hcell_push hZ)) ?_
      refine EA.append1 (new := [ptr h3.size]) 7 rfl (by kernel_rfl) rfl rfl rfl rfl rfl slB (get_push_new _ _) rfl (by simp [OneCell]) (by omega) (by omega) rfl (fun _ _ _ x => x) ?_
      intro s' h5 sl5 u5 hb5
      have gw5 := u5.get gwB (fun x => by have := fr3 _ x; omega)
      have c5 : hcell h5 ⟨y + 2, 14, none⟩ = some sK := hcell_of gw5 (by simp [(world_get hl13).2.1])
      obtain ⟨a5, k5, es5⟩ := sl5.val
      refine ⟨c5, ?_⟩
      refine EA.val 8 rfl (by kernel_rfl) rfl rfl rfl (fun ρ Q X hρ hq => sem_nilCheck (hρ _ _ rfl) hq) c5 ?_
      refine EA.val (v := .pointer (some ⟨y + 2, 14, none⟩)) (h' := h5) 9 rfl (by kernel_rfl) rfl rfl rfl (fun ρ Q X hρ hq => sem_fieldAddr (hρ _ _ rfl) hq) c5 ?_
      refine EA.unitL (h' := hset h5 ⟨y + 2, 14, none⟩ s') 10 rfl (by kernel_rfl) rfl rfl rfl (fun ρ Q X hρ hq => sem_store1 (hρ _ _ rfl) (hρ _ _ rfl) (by rw [es5]; exact ⟨nofun, nofun⟩) ⟨_, c5⟩ (hfroz_of gw5) (fun x => x) hq) ?_
      refine EA.done (by kernel_rfl) ?_
      have e14 : hset h5 ⟨y + 2, 14, none⟩ s' = h5.setIfInBounds (y + 2) (worldO pl (.slice (some ⟨y + 1, 0, none⟩) 64 64) s' nilS) := by
        have earr : (pl ++ [Value.slice (some ⟨y + 1, 0, none⟩) 64 64, sK, nilS]).toArray.setIfInBounds 14 s' = (pl ++ [Value.slice (some ⟨y + 1, 0, none⟩) 64 64, s', nilS]).toArray := by rw [List.setIfInBounds_toArray, world_set0 hl13]
        rw [hset_block gw5]
        unfold worldO
        rw [earr]
      rw [e14]
      have uB : Upd (fun b => b = y + 2) h2 ((h3.push (cellO 0)).push (.cells #[ptr h3.size] 77)) := (u3.trans (Upd.push _ _)).trans (Upd.push _ _)
      have u6 : Upd (fun b => b = y + 2) h2 (h5.setIfInBounds (y + 2) (worldO pl (.slice (some ⟨y + 1, 0, none⟩) 64 64) s' nilS)) := (upd_then uB u5 fun b hb hx => by have := fr3 b hx; omega).trans (Upd.set _ _ _ rfl)
      have hbn : ∀ b, blk s' = some b -> h2.size <= b := fun b hb => by
        rcases hb5 b hb with x | x
        · exact fr3 b x
        · rw [x, Array.size_push, Array.size_push]; omega
      have hcB : ∀ k, k < q + 1 -> h2.size <= ut K q h3.size k /\ ((h3.push (cellO 0)).push (.cells #[ptr h3.size] 77))[ut K q h3.size k]? = some (cellO 0) := fun k hk => by
        by_cases e : k = q
        · subst e
          rw [ut_same]
          exact ⟨sz3, get_push _ (get_push_new _ _)⟩
        · rw [ut_ne _ _ e]
          obtain ⟨x1, x2⟩ := hc3 k (by omega)
          exact ⟨x1, get_push _ (get_push _ x2)⟩
      (repeat (first | refine EK.region ?_ | refine ER.done ?_ | refine EK.inBlock ?_ | refine ER.move rfl rfl rfl ?_ | refine ER.assign rfl rfl rfl ?_ | refine ER.add (kd := .i64) rfl rfl rfl rfl (i64_in (by omega) (by omega)) ?_))
      refine EK.back (again (q + 1, s', ut K q h3.size) _ _ (by dsimp only; omega) ⟨rfl, by dsimp only; omega, u6, get_set_same gw5, ?_, hbn, fun k hk => ⟨(hcB k hk).1, ?_⟩⟩) ⟨rfl, rfl, rfl, trivial⟩
      · have er : (List.range (q + 1)).map (fun k => ptr (ut K q h3.size k)) = (List.range q).map (fun k => ptr (K k)) ++ [ptr h3.size] := by
          rw [List.range_succ, List.map_append]
          congr 1
          · refine List.map_congr_left fun k hk => ?_
            rw [ut_ne _ _ (by have := List.mem_range.1 hk; omega)]
          · simp [ut_same]
        show SliceO _ s' _ 1 (q + 1) ((List.range (q + 1)).map fun k => ptr (ut K q h3.size k))
        rw [er]
        exact sl5.upd (Upd.set (T := fun b => b = y + 2) _ _ _ rfl) fun b hb e => by have := hbn b hb; omega
      · obtain ⟨x1, x2⟩ := hcB k hk
        have x3 := u5.get x2 (fun x => sliceO_ne slB x2 (by decide) _ x rfl)
        show (h5.setIfInBounds _ _)[ut K q h3.size k]? = _
        rw [get_set_ne _ (by omega)]
        exact x3
    · obtain rfl : q = nK := by omega
      clear again
      (repeat (first | refine EK.seq ?_ | refine EK.region ?_ | refine ER.done ?_ | refine EK.block ?_ | refine ER.move rfl rfl rfl ?_ | refine ER.assign rfl rfl rfl ?_ | refine ER.fieldAddr rfl rfl rfl ?_ | refine ER.cmpF rfl rfl rfl rfl rfl (by first | (dsimp only [cmpP]; omega) | exact rfl | exact Int.le_refl _) ?_ | refine EK.condF rfl ?_ | refine EK.exit rfl ?_ | refine ER.load1 rfl rfl rfl (by assumption) ?_))
      refine EK.loopInv (fun q : Nat × Value × (Nat -> Nat) × (Nat -> Nat -> Nat) => [(6, .int .i64 q.1), (3, ptr (y + 2)), (1, ptr y)]) (fun q h' δ' => δ' = δ /\ q.1 <= nC /\ Upd (fun b => b = y + 2) h3 h' /\ h'[y + 2]? = some (worldO pl (.slice (some ⟨y + 1, 0, none⟩) 64 64) sK q.2.1) /\ SliceO h' q.2.1 57 1 q.1 ((List.range q.1).map fun k => ptr (q.2.2.1 k)) /\ (∀ b, blk q.2.1 = some b -> h3.size <= b) /\ (∀ i, i < q.1 -> h3.size <= q.2.2.1 i /\ (∀ j, j < 34 -> h3.size <= q.2.2.2 i j) /\ Clk h' (q.2.2.1 i) (q.2.2.2 i) (fun _ => 0) (fun _ => .nilFunc)) /\ (∀ i j i' j', i < q.1 -> j < 34 -> i' < q.1 -> j' < 34 -> q.2.2.2 i j = q.2.2.2 i' j' -> i = i' /\ j = j') /\ (∀ i i', i < q.1 -> i' < q.1 -> q.2.2.1 i = q.2.2.1 i' -> i = i')) (fun q => nC - q.1) (0, nilS, fun _ => 0, fun _ _ => 0) ⟨rfl, rfl, rfl, trivial⟩ ⟨rfl, Nat.zero_le _, Upd.refl _ _, gw, SliceO.nil, fun b e => (by cases e), fun k hk => by omega, fun i j i' j' hi => by omega, fun i i' hi => by omega⟩ ?_
      rintro ⟨j, sC, C, B⟩ h4 δ1 ⟨hδ3, hj, u4, gw4, sl4, fr4, hk4, bi4, ci4⟩ again
      obtain rfl : δ = δ1 := hδ3.symm
      dsimp only at hj u4 gw4 sl4 fr4 hk4 bi4 ci4 again ⊢
      have sz3 := u3.size
      have sz4 := u4.size
      have z4 : h4[y]? = some (playO pl) := u4.get z3 (Ne.symm wne)
      have c4 := f4 z4
      by_cases hjn : j < nC
      · (repeat (first | refine EK.seq ?_ | refine EK.region ?_ | refine ER.done ?_ | refine EK.skip ?_ | refine EK.block ?_ | refine ER.move rfl rfl rfl ?_ | refine ER.fieldAddr rfl rfl rfl ?_ | refine ER.cmpT rfl rfl rfl rfl rfl (by first | (dsimp only [cmpP]; omega) | exact rfl | exact Int.le_refl _) ?_ | refine EK.condT rfl ?_ | refine ER.load1 rfl rfl rfl (by assumption) ?_))
        have c15 : hcell h4 ⟨y + 2, 15, none⟩ = some sC := hcell_of gw4 (by simp [(world_get hl13).2.2])
        refine EK.regionAnyL (fun h' => hcell h' ⟨y + 2, 15, none⟩ = some sC) 10 ?_
        have hZ := c15
        refine EA.tMove 0 rfl (by kernel_rfl) rfl rfl rfl rfl hZ ?_
        refine EA.tMove 1 rfl (by kernel_rfl) rfl rfl rfl rfl hZ ?_
        refine EA.tNil 2 rfl (by kernel_rfl) rfl rfl rfl rfl hZ ?_
        refine EA.tField 3 rfl (by kernel_rfl) rfl rfl rfl rfl hZ ?_
        refine EA.tLoad 4 rfl (by kernel_rfl) rfl rfl rfl rfl (fun _ hz => hz) hZ ?_
        refine EA.callR 5 rfl (by kernel_rfl) rfl rfl rfl rfl rfl rfl new_ok ?_
        rintro _ h5 δ5 ⟨rfl, u5, rfl, k5⟩
        have gw5 := u5.get gw4 (fun x => x)
        have c5 : hcell h5 ⟨y + 2, 15, none⟩ = some sC := hcell_of gw5 (by simp [(world_get hl13).2.2])
        refine ⟨c5, ?_⟩
        have sl5 := sl4.upd u5 (fun _ _ x => x)
        have hk5 : ∀ i, i < j + 1 -> h3.size <= ut C j (h4.size + 2) i /\ (∀ q, q < 34 -> h3.size <= ut B j (newB h4.size) i q) /\ Clk h5 (ut C j (h4.size + 2) i) (ut B j (newB h4.size) i) (fun _ => 0) (fun _ => .nilFunc) := fun i hi => by
          by_cases e : i = j
          · subst e
            rw [ut_same, ut_same]
            refine ⟨by omega, fun q hq => ?_, k5⟩
            unfold newB; split <;> omega
          · rw [ut_ne _ _ e, ut_ne _ _ e]
            obtain ⟨x1, x2, x3⟩ := hk4 i (by omega)
            exact ⟨x1, x2, x3.upd u5 (fun _ x => x.elim)⟩
        have nB : ∀ q, h4.size <= newB h4.size q := fun q => by unfold newB; split <;> omega
        have bi5 : ∀ i q i' q', i < j + 1 -> q < 34 -> i' < j + 1 -> q' < 34 -> ut B j (newB h4.size) i q = ut B j (newB h4.size) i' q' -> i = i' /\ q = q' := fun i q i' q' hi hq hi' hq' e => by
          by_cases e1 : i = j
          · subst e1
            rw [ut_same] at e
            by_cases e2 : i' = i
            · subst e2
              rw [ut_same] at e
              exact ⟨rfl, k5.inj _ _ hq hq' e⟩
            · rw [ut_ne _ _ e2] at e
              have := lt_of_get ((hk4 i' (by omega)).2.2.cell q' hq')
              have := nB q
              omega
          · rw [ut_ne _ _ e1] at e
            by_cases e2 : i' = j
            · subst e2
              rw [ut_same] at e
              have := lt_of_get ((hk4 i (by omega)).2.2.cell q hq)
              have := nB q'
              omega
            · rw [ut_ne _ _ e2] at e
              exact bi4 i q i' q' (by omega) hq (by omega) hq' e
        have cl : ∀ i, i < j -> C i < h4.size := fun i hi => by
          obtain ⟨cs, hcs⟩ := (hk4 i hi).2.2.obj
          exact lt_of_get hcs
        have ci5 : ∀ i i', i < j + 1 -> i' < j + 1 -> ut C j (h4.size + 2) i = ut C j (h4.size + 2) i' -> i = i' := fun i i' hi hi' e => by
          by_cases e1 : i = j
          · subst e1
            rw [ut_same] at e
            by_cases e2 : i' = i
            · exact e2.symm
            · rw [ut_ne _ _ e2] at e
              have := cl i' (by omega)
              omega
          · rw [ut_ne _ _ e1] at e
            by_cases e2 : i' = j
            · subst e2
              rw [ut_same] at e
              have := cl i (by omega)
              omega
            · rw [ut_ne _ _ e2] at e
              exact ci4 i i' (by omega) (by omega) e
        have er : (List.range (j + 1)).map (fun k => ptr (ut C j (h4.size + 2) k)) = (List.range j).map (fun k => ptr (C k)) ++ [ptr (h4.size + 2)] := by
          rw [List.range_succ, List.map_append]
          congr 1
          · refine List.map_congr_left fun k hk => ?_
            rw [ut_ne _ _ (by have := List.mem_range.1 hk; omega)]
          · simp [ut_same]
        have sz5 := u5.size
        have u35 := u4.trans (u5.mono fun _ _ x => x.elim)
        have slB := sl5.upd (Upd.push (T := fun _ => False) h5 (.cells #[ptr (h4.size + 2)] 57)) (fun _ _ x => x)
        have gwB := get_push (o := .cells #[ptr (h4.size + 2)] 57 (0, 0)) gw5
        refine EA.val (v := .slice (some ⟨h5.size, 0, none⟩) 1 1) (h' := h5.push (.cells #[ptr (h4.size + 2)] 57)) 6 rfl (by kernel_rfl) rfl rfl rfl (fun ρ Q X hρ hq => sem_slice1 (sz := 1) hρ rfl (by omega) (by omega) rfl rfl hq) (hcell_push c5) ?_
        refine EA.append1 (new := [ptr (h4.size + 2)]) 7 rfl (by kernel_rfl) rfl rfl rfl rfl rfl slB (get_push_new _ _) rfl (by simp [OneCell]) (by omega) (by omega) rfl (fun _ _ _ x => x) ?_
        intro s' h6 sl6 u6 hb6
        have gw6 := u6.get gwB (fun x => by have := fr4 _ x; omega)
        have c6' : hcell h6 ⟨y + 2, 15, none⟩ = some sC := hcell_of gw6 (by simp [(world_get hl13).2.2])
        obtain ⟨a6, k6, es6⟩ := sl6.val
        refine ⟨c6', ?_⟩
        refine EA.val 8 rfl (by kernel_rfl) rfl rfl rfl (fun ρ Q X hρ hq => sem_nilCheck (hρ _ _ rfl) hq) c6' ?_
        refine EA.val (v := .pointer (some ⟨y + 2, 15, none⟩)) (h' := h6) 9 rfl (by kernel_rfl) rfl rfl rfl (fun ρ Q X hρ hq => sem_fieldAddr (hρ _ _ rfl) hq) c6' ?_
        refine EA.unitL (h' := hset h6 ⟨y + 2, 15, none⟩ s') 10 rfl (by kernel_rfl) rfl rfl rfl (fun ρ Q X hρ hq => sem_store1 (hρ _ _ rfl) (hρ _ _ rfl) (by rw [es6]; exact ⟨nofun, nofun⟩) ⟨_, c6'⟩ (hfroz_of gw6) (fun x => x) hq) ?_
        refine EA.done (by kernel_rfl) ?_
        have e15 : hset h6 ⟨y + 2, 15, none⟩ s' = h6.setIfInBounds (y + 2) (worldO pl (.slice (some ⟨y + 1, 0, none⟩) 64 64) sK s') := by
          have earr : (pl ++ [Value.slice (some ⟨y + 1, 0, none⟩) 64 64, sK, sC]).toArray.setIfInBounds 15 s' = (pl ++ [Value.slice (some ⟨y + 1, 0, none⟩) 64 64, sK, s']).toArray := by rw [List.setIfInBounds_toArray, world_set1 hl13]
          rw [hset_block gw6]
          unfold worldO
          rw [earr]
        rw [e15]
        have u3B := u35.trans (Upd.push (T := fun b => b = y + 2) h5 (.cells #[ptr (h4.size + 2)] 57))
        have u7 : Upd (fun b => b = y + 2) h3 (h6.setIfInBounds (y + 2) (worldO pl (.slice (some ⟨y + 1, 0, none⟩) 64 64) sK s')) := (upd_then u3B u6 fun b hb hx => by have := fr4 b hx; omega).trans (Upd.set _ _ _ rfl)
        have hbn : ∀ b, blk s' = some b -> h3.size <= b := fun b hb => by
          rcases hb6 b hb with x | x
          · exact fr4 b x
          · rw [x, Array.size_push]; omega
        (repeat (first | refine EK.region ?_ | refine ER.done ?_ | refine EK.inBlock ?_ | refine ER.move rfl rfl rfl ?_ | refine ER.assign rfl rfl rfl ?_ | refine ER.add (kd := .i64) rfl rfl rfl rfl (i64_in (by omega) (by omega)) ?_))
        refine EK.back (again (j + 1, s', ut C j (h4.size + 2), ut B j (newB h4.size)) _ _ (by dsimp only; omega) ⟨rfl, by dsimp only; omega, u7, get_set_same gw6, ?_, hbn, fun i hi => ⟨(hk5 i hi).1, (hk5 i hi).2.1, ?_⟩, bi5, ci5⟩) ⟨rfl, rfl, rfl, trivial⟩
        · show SliceO _ s' _ 1 (j + 1) ((List.range (j + 1)).map fun k => ptr (ut C j (h4.size + 2) k))
          rw [er]
          exact sl6.upd (Upd.set (T := fun b => b = y + 2) _ _ _ rfl) fun b hb e => by have := hbn b hb; omega
        · obtain ⟨x1, x2, x3⟩ := hk5 i hi
          have x4 := x3.upd (Upd.push (T := fun _ => False) h5 (.cells #[ptr (h4.size + 2)] 57)) (fun _ x => x.elim)
          have x5 := x4.upd u6 (fun b hb ho => by
            rcases ho with e | ⟨q, hq, e⟩
            · obtain ⟨cs, hcs⟩ := x4.obj
              exact sliceO_ne slB hcs (by decide) b hb e
            · exact sliceO_ne slB (x4.cell q hq) (by decide) b hb e)
          exact x5.upd (Upd.set (T := fun b => b = y + 2) _ _ _ rfl) (fun b hb ho => by
            rcases ho with e | ⟨q, hq, e⟩
            · have : b = y + 2 := hb
              omega
            · have : b = y + 2 := hb
              have := x2 q hq
              omega)
      · obtain rfl : j = nC := by omega
        clear again
        have lw : h.size <= y + 2 := by omega
        have uT : Upd (fun b => b = y + 2) h2 h4 := u3.trans u4
        (repeat (first | refine EK.seq ?_ | refine EK.region ?_ | refine ER.done ?_ | refine ER.move rfl rfl rfl ?_ | refine ER.assign rfl rfl rfl ?_ | refine ER.fieldAddr rfl rfl rfl ?_ | refine ER.cmpF rfl rfl rfl rfl rfl (by first | (dsimp only [cmpP]; omega) | exact rfl | exact Int.le_refl _) ?_ | refine EK.condF rfl ?_ | refine EK.ret ?_ | refine EK.exit rfl ?_ | refine ER.load1 rfl rfl rfl (by assumption) ?_))
        refine EU.ret1 rfl rfl ⟨rfl, y + 2, fun t => y + 3 + t, K, C, B, .slice (some ⟨y + 1, 0, none⟩) 64 64, sK, sC, rfl, gw4, ?_, fun t ht => uT.get (gh t ht) (by omega), fun t t' e => by have e' : y + 3 + t = y + 3 + t' := e; omega, sl3.upd u4 (fun b hb e => by have := fr3 b hb; omega), fun k hk => u4.get (hc3 k hk).2 (by have := (hc3 k hk).1; omega), sl4, fun i hi => (hk4 i hi).2.2, bi4, fun k i q hk hi hq e => ?_, ci4, ?_, lw, fun t => by show h.size <= y + 3 + t; omega, fun k hk => by have := (hc3 k hk).1; omega, fun i hi => ⟨by have := (hk4 i hi).1; omega, fun q hq => by have := (hk4 i hi).2.1 q hq; omega⟩, fun b e => by have e' : b = y + 1 := (Option.some.inj e).symm; omega, fun b e => by have := fr3 b e; omega, fun b e => by have := fr4 b e; omega⟩
        · have gH := uT.get g1 (by omega)
          refine ⟨by simp, .inr ⟨y + 1, 64, [], rfl, Nat.le_refl _, rfl, ?_⟩⟩
          have e64 : handsL y 64 = (List.range 64).map (fun t => ptr (y + 3 + t)) := by
            unfold handsL
            exact List.map_congr_left fun t ht => if_pos (List.mem_range.1 ht)
          rw [gH, List.append_nil, e64]
        · have := lt_of_get (hc3 k hk).2
          have := (hk4 i hi).2.1 q hq
          omega
        · exact upd_then u2 uT fun b hb e => by omega
end
end
section
open Go Go.TJ Go.Conc Go.Proofs
section
variable {Γ : Type} {main : Bool} {S : Sit Γ} {h h' : Hp} {δ : Ix Γ}
abbrev iV (x : Int) : Value := .int .i64 x
theorem bat_ok {a n : Int} (hn : 0 < n) (hn1 : n <= 1000000) : CallW Try.prog main S 50 #[.int .i64 a, .int .i64 n] h δ (Ret (Det (.int .i64 (a % n)) h δ)) := by
  have h1 : a.tmod n = a - n * a.tdiv n := Int.tmod_def a n
  have h2 : -n < a.tmod n /\ a.tmod n < n := by
    rcases Int.lt_or_le a 0 with x | x
    · have e : a = -(-a) := by omega
      rw [e, Int.neg_tmod, Int.tmod_eq_emod_of_nonneg (by omega)]
      have := Int.emod_nonneg (-a) (by omega : n ≠ 0)
      have := Int.emod_lt_of_pos (-a) hn
      omega
    · rw [Int.tmod_eq_emod_of_nonneg x]
      have := Int.emod_nonneg a (by omega : n ≠ 0)
      have := Int.emod_lt_of_pos a hn
      omega
  refine CallW.start (n := 14) rfl rfl ?_
  (repeat (first | refine EK.seq ?_ | refine EK.region ?_ | refine ER.done ?_ | refine ER.move rfl rfl rfl ?_ | refine ER.assign rfl rfl rfl ?_))
  refine ER.rem (kd := .i64) rfl rfl rfl rfl (by omega) rfl ?_
  by_cases hneg : a.tmod n < 0
  · have e : a.tmod n + n = a % n := by
      have e1 : (a.tmod n + n) % n = a % n := by
        rw [h1, show a - n * a.tdiv n + n = a + n * (1 - a.tdiv n) by rw [Int.mul_sub, Int.mul_one]; omega, Int.add_mul_emod_self_left]
      rw [<- e1, Int.emod_eq_of_lt (by omega) (by omega)]
    rw [<- e]
    (repeat (first | refine EK.seq ?_ | refine EK.region ?_ | refine ER.done ?_ | refine ER.move rfl rfl rfl ?_ | refine ER.assign rfl rfl rfl ?_ | refine ER.cmpT rfl rfl rfl rfl rfl (by first | (dsimp only [cmpP]; omega) | exact rfl | exact Int.le_refl _) ?_ | refine ER.add (kd := .i64) rfl rfl rfl rfl (i64_in (by omega) (by omega)) ?_ | refine EK.condT rfl ?_ | refine EK.ret ?_))
    exact EU.ret1 rfl rfl det
  · have e : a.tmod n = a % n := by
      have e1 : (a.tmod n) % n = a % n := by
        rw [h1, show a - n * a.tdiv n = a + n * (- a.tdiv n) by rw [Int.mul_neg]; omega, Int.add_mul_emod_self_left]
      rw [<- e1, Int.emod_eq_of_lt (by omega) (by omega)]
    rw [<- e]
    (repeat (first | refine EK.seq ?_ | refine EK.region ?_ | refine ER.done ?_ | refine EK.skip ?_ | refine ER.move rfl rfl rfl ?_ | refine ER.assign rfl rfl rfl ?_ | refine ER.cmpF rfl rfl rfl rfl rfl (by first | (dsimp only [cmpP]; omega) | exact rfl | exact Int.le_refl _) ?_ | refine EK.condF rfl ?_ | refine EK.ret ?_))
    exact EU.ret1 rfl rfl det
theorem bplayed_ok {x : Int} : CallW Try.prog main S 66 #[.int .i64 x] h δ (Ret fun w h' δ' => (∃ b, w = .bool b) /\ h' = h /\ δ' = δ) := by
  refine CallW.start (n := 13) rfl rfl ?_
  by_cases h1 : 10 <= x
  · by_cases h2 : x <= 13
    · (repeat (first | refine EK.seq ?_ | refine EK.region ?_ | refine ER.done ?_ | refine ER.move rfl rfl rfl ?_ | refine ER.assign rfl rfl rfl ?_ | refine ER.no rfl rfl ?_ | refine ER.pickT rfl rfl rfl rfl ?_ | refine ER.cmpT rfl rfl rfl rfl rfl (by first | (dsimp only [cmpP]; omega) | exact rfl | exact Int.le_refl _) ?_ | refine EK.ret ?_))
      exact EU.ret1 rfl rfl ⟨⟨_, rfl⟩, rfl, rfl⟩
    · by_cases h3 : 100 <= x
      · (repeat (first | refine EK.seq ?_ | refine EK.region ?_ | refine ER.done ?_ | refine ER.move rfl rfl rfl ?_ | refine ER.assign rfl rfl rfl ?_ | refine ER.pickT rfl rfl rfl rfl ?_ | refine ER.pickF rfl rfl rfl rfl ?_ | refine ER.cmpT rfl rfl rfl rfl rfl (by first | (dsimp only [cmpP]; omega) | exact rfl | exact Int.le_refl _) ?_ | refine ER.cmpF rfl rfl rfl rfl rfl (by first | (dsimp only [cmpP]; omega) | exact rfl | exact Int.le_refl _) ?_ | refine EK.ret ?_))
        exact EU.ret1 rfl rfl ⟨⟨_, rfl⟩, rfl, rfl⟩
      · (repeat (first | refine EK.seq ?_ | refine EK.region ?_ | refine ER.done ?_ | refine ER.move rfl rfl rfl ?_ | refine ER.assign rfl rfl rfl ?_ | refine ER.pickT rfl rfl rfl rfl ?_ | refine ER.pickF rfl rfl rfl rfl ?_ | refine ER.cmpT rfl rfl rfl rfl rfl (by first | (dsimp only [cmpP]; omega) | exact rfl | exact Int.le_refl _) ?_ | refine ER.cmpF rfl rfl rfl rfl rfl (by first | (dsimp only [cmpP]; omega) | exact rfl | exact Int.le_refl _) ?_ | refine EK.ret ?_))
        exact EU.ret1 rfl rfl ⟨⟨_, rfl⟩, rfl, rfl⟩
  · (repeat (first | refine EK.seq ?_ | refine EK.region ?_ | refine ER.done ?_ | refine ER.move rfl rfl rfl ?_ | refine ER.assign rfl rfl rfl ?_ | refine ER.no rfl rfl ?_ | refine ER.pickF rfl rfl rfl rfl ?_ | refine ER.cmpF rfl rfl rfl rfl rfl (by first | (dsimp only [cmpP]; omega) | exact rfl | exact Int.le_refl _) ?_ | refine EK.ret ?_))
    exact EU.ret1 rfl rfl ⟨⟨_, rfl⟩, rfl, rfl⟩
structure NewI (h h' : Hp) (s : Value) (ys : List Int) : Prop where
  sl : SliceO h' s 3 1 ys.length (ys.map iV)
  up : Upd (fun _ => False) h h'
  fr : ∀ b, blk s = some b -> h.size <= b
theorem RdS.at {s : Value} {vs : List Value} (r : RdS h s vs) : ∃ a k, s = .slice a vs.length k /\ ∀ i v, vs[i]? = some v -> ∃ b o, a = some ⟨b, o, none⟩ /\ hcell h ⟨b, o + i * 1, none⟩ = some v := by
  obtain ⟨a, k, e⟩ := r.val
  refine ⟨a, k, e, fun i v hv => ?_⟩
  obtain ⟨b, o, k', e', hc⟩ := r.cell i v hv
  rw [e] at e'
  cases e'
  exact ⟨b, o, rfl, hc⟩
set_option maxRecDepth 8000 in
set_option maxHeartbeats 4000000 in
theorem bcut_ok {s : Value} {vs : List Int} {n : Int} (hv : RdS h s (vs.map iV)) (hbig : vs.length <= 1000000000000000) (hn : n <= 1000000) (hF : ∀ b o, h.size <= b -> ¬ S.still δ.g ⟨b, o, none⟩) : CallW Try.prog main S 67 #[s, .int .i64 n] h δ (Ret fun w h' δ' => δ' = δ /\ ∃ ys, NewI h h' w ys /\ ys.length <= n.toNat) := by
  obtain ⟨a, k, rfl, hc⟩ := hv.at
  rw [List.length_map]
  refine CallW.start (n := 26) rfl rfl ?_
  (repeat (first | refine EK.seq ?_ | refine EK.region ?_ | refine ER.done ?_ | refine EK.block ?_ | refine ER.assign rfl rfl rfl ?_))
  refine EK.loopInv (fun q : Nat × Value => [(6, .int .i64 q.1), (5, q.2), (0, .slice a vs.length k), (1, .int .i64 n)]) (fun q h' δ' => δ' = δ /\ NewI h h' q.2 (vs.take q.1) /\ q.1 <= vs.length /\ (q.1 : Int) <= max n 0) (fun q => vs.length - q.1) (0, nilS) ⟨rfl, rfl, rfl, rfl, trivial⟩ ⟨rfl, ⟨SliceO.nil, Upd.refl _ _, fun b e => by cases e⟩, Nat.zero_le _, by dsimp only; omega⟩ ?_
  rintro ⟨q, sv⟩ h1 _ ⟨rfl, N, hq, hqn⟩ again
  dsimp only at N hq hqn again ⊢
  have hlen : (vs.take q).length = q := by rw [List.length_take]; omega
  have hsl := N.sl
  rw [hlen] at hsl
  obtain ⟨sa, sk, esv⟩ := hsl.val
  by_cases c1 : q < vs.length
  · by_cases c2 : (q : Int) < n
    · obtain ⟨z, hz⟩ : ∃ z, vs[q]? = some z := ⟨_, List.getElem?_eq_getElem c1⟩
      obtain ⟨b, o, rfl, hcq⟩ := hc q (iV z) (by rw [List.getElem?_map, hz]; rfl)
      obtain ⟨cc, ee, ff, hb, -⟩ := hcell_some hcq
      have hlt : b < h.size := lt_of_get hb
      have hc1 := N.up.hcell hcq (fun x => x)
      (repeat (first | refine EK.seq ?_ | refine EK.region ?_ | refine ER.done ?_ | refine EK.skip ?_ | refine EK.block ?_ | refine ER.move rfl rfl rfl ?_ | refine ER.pickT rfl rfl rfl rfl ?_ | refine ER.cmpT rfl rfl rfl rfl rfl (by first | (dsimp only [cmpP]; omega) | exact rfl | exact Int.le_refl _) ?_ | refine ER.len1 rfl rfl rfl ?_ | refine ER.indexSl rfl rfl rfl rfl (by omega) (by omega) ?_ | refine EK.condT rfl ?_ | refine ER.load1 rfl rfl rfl (by assumption) ?_))
      refine ER.slice1 (sz := 1) (z := .int .i64 0) (cells := #[.int .i64 z]) rfl rfl rfl (by omega) (by omega) rfl rfl ?_
      refine ER.append1 (new := [.int .i64 z]) rfl rfl rfl rfl (hsl.upd (Upd.push (T := fun _ => False) h1 (.cells #[.int .i64 z] 3)) (fun _ _ x => x)) (get_push_new _ _) rfl (by simp [OneCell]) (by omega) (by omega) (by rfl) (fun b o hb => hF b o (N.fr b hb)) ?_
      intro s' h5 sl5 u5 hb5
      have hN : NewI h h5 s' (vs.take (q + 1)) := by
        have et : vs.take (q + 1) = vs.take q ++ [z] := by rw [List.take_add_one, hz]; rfl
        have hs1 := N.up.size
        refine ⟨by rw [et, List.map_append, List.length_append, hlen]; exact sl5, ?_, fun b hb => ?_⟩
        · refine upd_then ((N.up).trans (Upd.push _ (.cells #[.int .i64 z] 3))) u5 fun b hb hx => ?_
          have := N.fr b hx
          omega
        · rcases hb5 b hb with x | x
          · exact N.fr b x
          · rw [x, Array.size_push]; omega
      (repeat (first | refine EK.region ?_ | refine ER.done ?_ | refine EK.inBlock ?_ | refine ER.move rfl rfl rfl ?_ | refine ER.assign rfl rfl rfl ?_ | refine ER.add (kd := .i64) rfl rfl rfl rfl (i64_in (by omega) (by omega)) ?_))
      exact EK.back (again (q + 1, s') _ _ (by dsimp only; omega) ⟨rfl, hN, by dsimp only; omega, by dsimp only; omega⟩) ⟨rfl, rfl, rfl, rfl, trivial⟩
    · (repeat (first | refine EK.seq ?_ | refine EK.region ?_ | refine ER.done ?_ | refine ER.move rfl rfl rfl ?_ | refine ER.assign rfl rfl rfl ?_ | refine ER.pickT rfl rfl rfl rfl ?_ | refine ER.cmpT rfl rfl rfl rfl rfl (by first | (dsimp only [cmpP]; omega) | exact rfl | exact Int.le_refl _) ?_ | refine ER.cmpF rfl rfl rfl rfl rfl (by first | (dsimp only [cmpP]; omega) | exact rfl | exact Int.le_refl _) ?_ | refine ER.len1 rfl rfl rfl ?_ | refine EK.condF rfl ?_ | refine EK.ret ?_ | refine EK.exit rfl ?_))
      exact EU.ret1 rfl rfl ⟨rfl, _, N, by omega⟩
  · (repeat (first | refine EK.seq ?_ | refine EK.region ?_ | refine ER.done ?_ | refine ER.move rfl rfl rfl ?_ | refine ER.assign rfl rfl rfl ?_ | refine ER.no rfl rfl ?_ | refine ER.pickF rfl rfl rfl rfl ?_ | refine ER.cmpF rfl rfl rfl rfl rfl (by first | (dsimp only [cmpP]; omega) | exact rfl | exact Int.le_refl _) ?_ | refine ER.len1 rfl rfl rfl ?_ | refine EK.condF rfl ?_ | refine EK.ret ?_ | refine EK.exit rfl ?_))
    exact EU.ret1 rfl rfl ⟨rfl, _, N, by omega⟩
set_option maxRecDepth 8000 in
set_option maxHeartbeats 8000000 in
theorem bups_ok {s : Value} {vs : List Int} {n : Int} {st : Bool} (hv : RdS h s (vs.map iV)) (hbig : vs.length <= 1000000000000000) (hF : ∀ b o, h.size <= b -> ¬ S.still δ.g ⟨b, o, none⟩) : CallW Try.prog main S 68 #[s, .int .i64 n, .bool st] h δ (Ret fun w h' δ' => δ' = δ /\ ∃ ys, NewI h h' w ys /\ ys.length <= 8) := by
  obtain ⟨a, k, rfl, hc⟩ := hv.at
  rw [List.length_map]
  refine CallW.start (n := 44) rfl rfl ?_
  (repeat (first | refine EK.seq ?_ | refine EK.region ?_ | refine ER.done ?_ | refine EK.block ?_ | refine ER.assign rfl rfl rfl ?_))
  refine EK.loopInv (fun q : Nat × Value × List Int => [(8, .int .i64 q.1), (7, q.2.1), (0, .slice a vs.length k), (1, .int .i64 n), (2, .bool st)]) (fun q h' δ' => δ' = δ /\ NewI h h' q.2.1 q.2.2 /\ q.1 <= vs.length /\ q.2.2.length = q.1 /\ q.1 <= 8) (fun q => vs.length - q.1) (0, nilS, []) ⟨rfl, rfl, rfl, rfl, rfl, trivial⟩ ⟨rfl, ⟨SliceO.nil, Upd.refl _ _, fun b e => by cases e⟩, Nat.zero_le _, rfl, by omega⟩ ?_
  rintro ⟨q, sv, ys⟩ h1 _ ⟨rfl, N, hq, hy, hq8⟩ again
  dsimp only at N hq hy hq8 again ⊢
  have hsl := N.sl
  rw [hy] at hsl
  obtain ⟨sa, sk, esv⟩ := hsl.val
  by_cases c1 : q < vs.length
  · by_cases c2 : q < 8
    · obtain ⟨z, hz⟩ : ∃ z, vs[q]? = some z := ⟨_, List.getElem?_eq_getElem c1⟩
      obtain ⟨b, o, rfl, hcq⟩ := hc q (iV z) (by rw [List.getElem?_map, hz]; rfl)
      have hc1 := N.up.hcell hcq (fun x => x)
      by_cases d1 : z < -1
      · skip
        (repeat (first | refine EK.seq ?_ | refine EK.region ?_ | refine ER.done ?_ | refine EK.skip ?_ | refine EK.block ?_ | refine ER.move rfl rfl rfl ?_ | refine ER.assign rfl rfl rfl ?_ | refine ER.no rfl rfl ?_ | refine ER.pickT rfl rfl rfl rfl ?_ | refine ER.cmpT rfl rfl rfl rfl rfl (by first | (dsimp only [cmpP]; omega) | exact rfl | exact Int.le_refl _) ?_ | refine ER.len1 rfl rfl rfl ?_ | refine ER.indexSl rfl rfl rfl rfl (by omega) (by omega) ?_ | refine EK.condT rfl ?_ | refine ER.load1 rfl rfl rfl (by assumption) ?_))
        refine ER.slice1 (sz := 1) (z := .int .i64 0) (cells := #[.int .i64 (-1)]) rfl rfl rfl (by omega) (by omega) rfl rfl ?_
        refine ER.append1 (new := [.int .i64 (-1)]) rfl rfl rfl rfl (hsl.upd (Upd.push (T := fun _ => False) h1 (.cells #[.int .i64 (-1)] 3)) (fun _ _ x => x)) (get_push_new _ _) rfl (by simp [OneCell]) (by omega) (by omega) (by rfl) (fun b o hb => hF b o (N.fr b hb)) ?_
        intro s' h5 sl5 u5 hb5
        have hN : NewI h h5 s' (ys ++ [(-1)]) := by
          have hs1 := N.up.size
          refine ⟨by rw [List.map_append, List.length_append, hy]; exact sl5, ?_, fun b hb => ?_⟩
          · refine upd_then ((N.up).trans (Upd.push _ (.cells #[.int .i64 (-1)] 3))) u5 fun b hb hx => ?_
            have := N.fr b hx
            omega
          · rcases hb5 b hb with x | x
            · exact N.fr b x
            · rw [x, Array.size_push]; omega
        (repeat (first | refine EK.region ?_ | refine ER.done ?_ | refine EK.inBlock ?_ | refine ER.move rfl rfl rfl ?_ | refine ER.assign rfl rfl rfl ?_ | refine ER.add (kd := .i64) rfl rfl rfl rfl (i64_in (by omega) (by omega)) ?_))
        exact EK.back (again (q + 1, s', ys ++ [(-1)]) _ _ (by dsimp only; omega) ⟨rfl, hN, by dsimp only; omega, by dsimp only; rw [List.length_append, hy]; rfl, by dsimp only; omega⟩) ⟨rfl, rfl, rfl, rfl, rfl, trivial⟩
      · by_cases d2 : n <= z
        · skip
          (repeat (first | refine EK.seq ?_ | refine EK.region ?_ | refine ER.done ?_ | refine EK.skip ?_ | refine EK.block ?_ | refine ER.move rfl rfl rfl ?_ | refine ER.assign rfl rfl rfl ?_ | refine ER.no rfl rfl ?_ | refine ER.pickT rfl rfl rfl rfl ?_ | refine ER.pickF rfl rfl rfl rfl ?_ | refine ER.cmpT rfl rfl rfl rfl rfl (by first | (dsimp only [cmpP]; omega) | exact rfl | exact Int.le_refl _) ?_ | refine ER.cmpF rfl rfl rfl rfl rfl (by first | (dsimp only [cmpP]; omega) | exact rfl | exact Int.le_refl _) ?_ | refine ER.len1 rfl rfl rfl ?_ | refine ER.indexSl rfl rfl rfl rfl (by omega) (by omega) ?_ | refine EK.condT rfl ?_ | refine ER.load1 rfl rfl rfl (by assumption) ?_))
          refine ER.slice1 (sz := 1) (z := .int .i64 0) (cells := #[.int .i64 (-1)]) rfl rfl rfl (by omega) (by omega) rfl rfl ?_
          refine ER.append1 (new := [.int .i64 (-1)]) rfl rfl rfl rfl (hsl.upd (Upd.push (T := fun _ => False) h1 (.cells #[.int .i64 (-1)] 3)) (fun _ _ x => x)) (get_push_new _ _) rfl (by simp [OneCell]) (by omega) (by omega) (by rfl) (fun b o hb => hF b o (N.fr b hb)) ?_
          intro s' h5 sl5 u5 hb5
          have hN : NewI h h5 s' (ys ++ [(-1)]) := by
            have hs1 := N.up.size
            refine ⟨by rw [List.map_append, List.length_append, hy]; exact sl5, ?_, fun b hb => ?_⟩
            · refine upd_then ((N.up).trans (Upd.push _ (.cells #[.int .i64 (-1)] 3))) u5 fun b hb hx => ?_
              have := N.fr b hx
              omega
            · rcases hb5 b hb with x | x
              · exact N.fr b x
              · rw [x, Array.size_push]; omega
          (repeat (first | refine EK.region ?_ | refine ER.done ?_ | refine EK.inBlock ?_ | refine ER.move rfl rfl rfl ?_ | refine ER.assign rfl rfl rfl ?_ | refine ER.add (kd := .i64) rfl rfl rfl rfl (i64_in (by omega) (by omega)) ?_))
          exact EK.back (again (q + 1, s', ys ++ [(-1)]) _ _ (by dsimp only; omega) ⟨rfl, hN, by dsimp only; omega, by dsimp only; rw [List.length_append, hy]; rfl, by dsimp only; omega⟩) ⟨rfl, rfl, rfl, rfl, rfl, trivial⟩
        · cases st with
          | false =>
            skip
            (repeat (first | refine EK.seq ?_ | refine EK.region ?_ | refine ER.done ?_ | refine EK.skip ?_ | refine EK.block ?_ | refine ER.move rfl rfl rfl ?_ | refine ER.assign rfl rfl rfl ?_ | refine ER.no rfl rfl ?_ | refine ER.pickT rfl rfl rfl rfl ?_ | refine ER.pickF rfl rfl rfl rfl ?_ | refine ER.cmpT rfl rfl rfl rfl rfl (by first | (dsimp only [cmpP]; omega) | exact rfl | exact Int.le_refl _) ?_ | refine ER.cmpF rfl rfl rfl rfl rfl (by first | (dsimp only [cmpP]; omega) | exact rfl | exact Int.le_refl _) ?_ | refine ER.len1 rfl rfl rfl ?_ | refine ER.indexSl rfl rfl rfl rfl (by omega) (by omega) ?_ | refine EK.condT rfl ?_ | refine EK.condF rfl ?_ | refine ER.load1 rfl rfl rfl (by assumption) ?_))
            refine ER.slice1 (sz := 1) (z := .int .i64 0) (cells := #[.int .i64 z]) rfl rfl rfl (by omega) (by omega) rfl rfl ?_
            refine ER.append1 (new := [.int .i64 z]) rfl rfl rfl rfl (hsl.upd (Upd.push (T := fun _ => False) h1 (.cells #[.int .i64 z] 3)) (fun _ _ x => x)) (get_push_new _ _) rfl (by simp [OneCell]) (by omega) (by omega) (by rfl) (fun b o hb => hF b o (N.fr b hb)) ?_
            intro s' h5 sl5 u5 hb5
            have hN : NewI h h5 s' (ys ++ [z]) := by
              have hs1 := N.up.size
              refine ⟨by rw [List.map_append, List.length_append, hy]; exact sl5, ?_, fun b hb => ?_⟩
              · refine upd_then ((N.up).trans (Upd.push _ (.cells #[.int .i64 z] 3))) u5 fun b hb hx => ?_
                have := N.fr b hx
                omega
              · rcases hb5 b hb with x | x
                · exact N.fr b x
                · rw [x, Array.size_push]; omega
            (repeat (first | refine EK.region ?_ | refine ER.done ?_ | refine EK.inBlock ?_ | refine ER.move rfl rfl rfl ?_ | refine ER.assign rfl rfl rfl ?_ | refine ER.add (kd := .i64) rfl rfl rfl rfl (i64_in (by omega) (by omega)) ?_))
            exact EK.back (again (q + 1, s', ys ++ [z]) _ _ (by dsimp only; omega) ⟨rfl, hN, by dsimp only; omega, by dsimp only; rw [List.length_append, hy]; rfl, by dsimp only; omega⟩) ⟨rfl, rfl, rfl, rfl, rfl, trivial⟩
          | true =>
            by_cases d3 : (q : Int) <= z
            · skip
              (repeat (first | refine EK.seq ?_ | refine EK.region ?_ | refine ER.done ?_ | refine EK.skip ?_ | refine EK.block ?_ | refine ER.move rfl rfl rfl ?_ | refine ER.assign rfl rfl rfl ?_ | refine ER.pickT rfl rfl rfl rfl ?_ | refine ER.pickF rfl rfl rfl rfl ?_ | refine ER.cmpT rfl rfl rfl rfl rfl (by first | (dsimp only [cmpP]; omega) | exact rfl | exact Int.le_refl _) ?_ | refine ER.cmpF rfl rfl rfl rfl rfl (by first | (dsimp only [cmpP]; omega) | exact rfl | exact Int.le_refl _) ?_ | refine ER.len1 rfl rfl rfl ?_ | refine ER.indexSl rfl rfl rfl rfl (by omega) (by omega) ?_ | refine EK.condT rfl ?_ | refine ER.load1 rfl rfl rfl (by assumption) ?_))
              refine ER.slice1 (sz := 1) (z := .int .i64 0) (cells := #[.int .i64 (-1)]) rfl rfl rfl (by omega) (by omega) rfl rfl ?_
              refine ER.append1 (new := [.int .i64 (-1)]) rfl rfl rfl rfl (hsl.upd (Upd.push (T := fun _ => False) h1 (.cells #[.int .i64 (-1)] 3)) (fun _ _ x => x)) (get_push_new _ _) rfl (by simp [OneCell]) (by omega) (by omega) (by rfl) (fun b o hb => hF b o (N.fr b hb)) ?_
              intro s' h5 sl5 u5 hb5
              have hN : NewI h h5 s' (ys ++ [(-1)]) := by
                have hs1 := N.up.size
                refine ⟨by rw [List.map_append, List.length_append, hy]; exact sl5, ?_, fun b hb => ?_⟩
                · refine upd_then ((N.up).trans (Upd.push _ (.cells #[.int .i64 (-1)] 3))) u5 fun b hb hx => ?_
                  have := N.fr b hx
                  omega
                · rcases hb5 b hb with x | x
                  · exact N.fr b x
                  · rw [x, Array.size_push]; omega
              (repeat (first | refine EK.region ?_ | refine ER.done ?_ | refine EK.inBlock ?_ | refine ER.move rfl rfl rfl ?_ | refine ER.assign rfl rfl rfl ?_ | refine ER.add (kd := .i64) rfl rfl rfl rfl (i64_in (by omega) (by omega)) ?_))
              exact EK.back (again (q + 1, s', ys ++ [(-1)]) _ _ (by dsimp only; omega) ⟨rfl, hN, by dsimp only; omega, by dsimp only; rw [List.length_append, hy]; rfl, by dsimp only; omega⟩) ⟨rfl, rfl, rfl, rfl, rfl, trivial⟩
            · skip
              (repeat (first | refine EK.seq ?_ | refine EK.region ?_ | refine ER.done ?_ | refine EK.skip ?_ | refine EK.block ?_ | refine ER.move rfl rfl rfl ?_ | refine ER.assign rfl rfl rfl ?_ | refine ER.pickT rfl rfl rfl rfl ?_ | refine ER.pickF rfl rfl rfl rfl ?_ | refine ER.cmpT rfl rfl rfl rfl rfl (by first | (dsimp only [cmpP]; omega) | exact rfl | exact Int.le_refl _) ?_ | refine ER.cmpF rfl rfl rfl rfl rfl (by first | (dsimp only [cmpP]; omega) | exact rfl | exact Int.le_refl _) ?_ | refine ER.len1 rfl rfl rfl ?_ | refine ER.indexSl rfl rfl rfl rfl (by omega) (by omega) ?_ | refine EK.condT rfl ?_ | refine EK.condF rfl ?_ | refine ER.load1 rfl rfl rfl (by assumption) ?_))
              refine ER.slice1 (sz := 1) (z := .int .i64 0) (cells := #[.int .i64 z]) rfl rfl rfl (by omega) (by omega) rfl rfl ?_
              refine ER.append1 (new := [.int .i64 z]) rfl rfl rfl rfl (hsl.upd (Upd.push (T := fun _ => False) h1 (.cells #[.int .i64 z] 3)) (fun _ _ x => x)) (get_push_new _ _) rfl (by simp [OneCell]) (by omega) (by omega) (by rfl) (fun b o hb => hF b o (N.fr b hb)) ?_
              intro s' h5 sl5 u5 hb5
              have hN : NewI h h5 s' (ys ++ [z]) := by
                have hs1 := N.up.size
                refine ⟨by rw [List.map_append, List.length_append, hy]; exact sl5, ?_, fun b hb => ?_⟩
                · refine upd_then ((N.up).trans (Upd.push _ (.cells #[.int .i64 z] 3))) u5 fun b hb hx => ?_
                  have := N.fr b hx
                  omega
                · rcases hb5 b hb with x | x
                  · exact N.fr b x
                  · rw [x, Array.size_push]; omega
              (repeat (first | refine EK.region ?_ | refine ER.done ?_ | refine EK.inBlock ?_ | refine ER.move rfl rfl rfl ?_ | refine ER.assign rfl rfl rfl ?_ | refine ER.add (kd := .i64) rfl rfl rfl rfl (i64_in (by omega) (by omega)) ?_))
              exact EK.back (again (q + 1, s', ys ++ [z]) _ _ (by dsimp only; omega) ⟨rfl, hN, by dsimp only; omega, by dsimp only; rw [List.length_append, hy]; rfl, by dsimp only; omega⟩) ⟨rfl, rfl, rfl, rfl, rfl, trivial⟩
    · (repeat (first | refine EK.seq ?_ | refine EK.region ?_ | refine ER.done ?_ | refine ER.move rfl rfl rfl ?_ | refine ER.assign rfl rfl rfl ?_ | refine ER.pickT rfl rfl rfl rfl ?_ | refine ER.cmpT rfl rfl rfl rfl rfl (by first | (dsimp only [cmpP]; omega) | exact rfl | exact Int.le_refl _) ?_ | refine ER.cmpF rfl rfl rfl rfl rfl (by first | (dsimp only [cmpP]; omega) | exact rfl | exact Int.le_refl _) ?_ | refine ER.len1 rfl rfl rfl ?_ | refine EK.condF rfl ?_ | refine EK.ret ?_ | refine EK.exit rfl ?_))
      exact EU.ret1 rfl rfl ⟨rfl, _, N, by omega⟩
  · (repeat (first | refine EK.seq ?_ | refine EK.region ?_ | refine ER.done ?_ | refine ER.move rfl rfl rfl ?_ | refine ER.assign rfl rfl rfl ?_ | refine ER.no rfl rfl ?_ | refine ER.pickF rfl rfl rfl rfl ?_ | refine ER.cmpF rfl rfl rfl rfl rfl (by first | (dsimp only [cmpP]; omega) | exact rfl | exact Int.le_refl _) ?_ | refine ER.len1 rfl rfl rfl ?_ | refine EK.condF rfl ?_ | refine EK.ret ?_ | refine EK.exit rfl ?_))
    exact EU.ret1 rfl rfl ⟨rfl, _, N, by omega⟩
end
end
section
open Go Go.TJ Go.Conc Go.Proofs
def sumE (f : TE -> Int) : List TE -> Int
  | [] => 0
  | e :: l => f e + sumE f l
theorem sumE_snoc (f : TE -> Int) (e : TE) : ∀ (l : List TE), sumE f (l ++ [e]) = sumE f l + f e
  | [] => by simp [sumE]
  | x :: l => by
    show f x + sumE f (l ++ [e]) = _
    rw [sumE_snoc f e l]
    show _ = f x + sumE f l + f e
    omega
theorem sumE_le {f : TE -> Int} (h : ∀ e, 0 <= f e /\ f e <= 1) : ∀ (l : List TE), 0 <= sumE f l /\ sumE f l <= l.length
  | [] => ⟨Int.le_refl _, Int.le_refl _⟩
  | x :: l => by
    have h1 := h x
    have h2 := sumE_le h l
    show 0 <= f x + sumE f l /\ f x + sumE f l <= ((l.length + 1 : Nat) : Int)
    omega
theorem cSum_le {f : Nat -> Int} {b : Int} : ∀ {n : Nat}, (∀ j, j < n -> 0 <= f j /\ f j <= b) -> 0 <= cSum f n /\ cSum f n <= n * b
  | 0, _ => ⟨Int.le_refl _, by show (0 : Int) <= (0 : Nat) * b; simp⟩
  | n + 1, h => by
    have h1 := h n (by omega)
    have h2 := cSum_le (n := n) fun j hj => h j (by omega)
    show 0 <= cSum f n + f n /\ cSum f n + f n <= ((n + 1 : Nat) : Int) * b
    rw [Int.natCast_add, Int.add_mul]
    simp only [Int.natCast_one, Int.one_mul]
    omega
theorem take_snoc {α : Type} {l : List α} {j : Nat} {e : α} (h : l[j]? = some e) : l.take (j + 1) = l.take j ++ [e] := by rw [List.take_add_one, h]; rfl
def ringE (e : TE) : Int := if e.at_ < 0 then 1 else 0
theorem ringE_le (e : TE) : 0 <= ringE e /\ ringE e <= 1 := by
  unfold ringE; split <;> omega
def setE (c : CP) (i : Nat) (e : TE) : Int := if e.at_ < 0 then 0 else match c.call e.s e.at_ with
  | some q => if q.a = i /\ q.op = 11 /\ e.kd = 0 then 1 else 0
  | none => 0
def stopE (c : CP) (i : Nat) (e : TE) : Int := if e.at_ < 0 then 0 else match c.call e.s e.at_ with
  | some q => if q.a = i /\ q.op = 12 /\ e.vs = [1] then 1 else 0
  | none => 0
theorem cSum_nil {n : Nat} : cSum (fun _ => 0) n = 0 := by
  induction n with
  | zero => rfl
  | succ n ih =>
    show cSum (fun _ => 0) n + 0 = 0
    rw [ih]; rfl
theorem dltE_split (c : CP) (e : TE) : dltE c e = cSum (fun i => setE c i e - stopE c i e) c.nC - ringE e := by
  unfold dltE ringE setE stopE
  by_cases h : e.at_ < 0
  · simp only [if_pos h]
    rw [show (fun (_ : Nat) => (0 : Int) - 0) = fun _ => 0 from rfl, cSum_nil]; rfl
  · simp only [if_neg h]
    cases hq : c.call e.s e.at_ with
    | none =>
      dsimp only
      rw [show (fun (_ : Nat) => (0 : Int) - 0) = fun _ => 0 from rfl, cSum_nil]; rfl
    | some q =>
      dsimp only
      by_cases hin : 0 <= q.a /\ q.a < c.nC
      · rw [if_pos hin]
        obtain ⟨z, hz⟩ : ∃ z : Nat, q.a = z := ⟨q.a.toNat, by omega⟩
        rw [cSum_set (i := z) (f := fun _ => 0) (n := c.nC) (by omega) fun j hj hne => by
          have h1 : ¬ (q.a = (j : Int)) := by omega
          simp [h1]]
        rw [cSum_nil]
        simp only [hz, true_and]
        by_cases h1 : q.op = 11
        · by_cases h2 : e.kd = 0 <;> simp [h1, h2]
        · by_cases h3 : q.op = 12
          · by_cases h2 : e.vs = [1] <;> simp [h3, h2]
          · simp [h1, h3]
      · rw [if_neg hin, cSum_congr (g := fun _ => 0) fun j hj => by
          have h1 : ¬ (q.a = (j : Int)) := by omega
          simp [h1]]
        rw [cSum_nil]; rfl
theorem cSum_add {f g : Nat -> Int} : ∀ {n : Nat}, cSum (fun i => f i + g i) n = cSum f n + cSum g n
  | 0 => rfl
  | n + 1 => by
    show cSum (fun i => f i + g i) n + (f n + g n) = cSum f n + f n + (cSum g n + g n)
    rw [cSum_add (n := n)]; omega
theorem cSum_sub {f g : Nat -> Int} : ∀ {n : Nat}, cSum (fun i => f i - g i) n = cSum f n - cSum g n
  | 0 => rfl
  | n + 1 => by
    show cSum (fun i => f i - g i) n + (f n - g n) = cSum f n + f n - (cSum g n + g n)
    rw [cSum_sub (n := n)]; omega
theorem cSum_swap {f : Nat -> Nat -> Int} {m : Nat} : ∀ {n : Nat}, cSum (fun t => cSum (fun i => f t i) m) n = cSum (fun i => cSum (fun t => f t i) n) m
  | 0 => (cSum_nil (n := m)).symm
  | n + 1 => by
    show cSum (fun t => cSum (fun i => f t i) m) n + cSum (fun i => f n i) m = cSum (fun i => cSum (fun t => f t i) n + f n i) m
    rw [cSum_swap (n := n), cSum_add]
theorem dlsE_split (c : CP) : ∀ (l : List TE), dlsE c l = cSum (fun i => sumE (setE c i) l - sumE (stopE c i) l) c.nC - sumE ringE l
  | [] => by
    show (0 : Int) = cSum (fun _ => 0 - 0) c.nC - 0
    rw [show (fun (_ : Nat) => (0 : Int) - 0) = fun _ => 0 from rfl, cSum_nil]; rfl
  | e :: l => by
    show dltE c e + dlsE c l = cSum (fun i => (setE c i e + sumE (setE c i) l) - (stopE c i e + sumE (stopE c i) l)) c.nC - (ringE e + sumE ringE l)
    rw [dltE_split, dlsE_split c l, cSum_congr (f := fun i => (setE c i e + sumE (setE c i) l) - (stopE c i e + sumE (stopE c i) l)) (g := fun i => (setE c i e - stopE c i e) + (sumE (setE c i) l - sumE (stopE c i) l)) fun j _ => by omega, cSum_add]
    omega
theorem told_split (c : CP) (told : Nat -> List TE) (n : Nat) : cSum (fun t => dlsE c (told t)) n = cSum (fun i => cSum (fun t => sumE (setE c i) (told t)) n) c.nC - cSum (fun i => cSum (fun t => sumE (stopE c i) (told t)) n) c.nC - cSum (fun t => sumE ringE (told t)) n := by
  rw [cSum_congr (f := fun t => dlsE c (told t)) (g := fun t => cSum (fun i => sumE (setE c i) (told t) - sumE (stopE c i) (told t)) c.nC - sumE ringE (told t)) fun t _ => dlsE_split c (told t), cSum_sub]
  congr 1
  rw [cSum_congr (f := fun t => cSum (fun i => sumE (setE c i) (told t) - sumE (stopE c i) (told t)) c.nC) (g := fun t => cSum (fun i => sumE (setE c i) (told t)) c.nC - cSum (fun i => sumE (stopE c i) (told t)) c.nC) fun t _ => cSum_sub, cSum_sub]
  rw [cSum_swap (f := fun t i => sumE (setE c i) (told t)), cSum_swap (f := fun t i => sumE (stopE c i) (told t))]
structure TolM (h : Hp) (s : Value) (n : Nat) (tv : Nat -> Value) (told : Nat -> List TE) : Prop where
  s : RdS h s ((List.range n).map tv)
  sl : ∀ t, t < n -> SliceO h (tv t) 129 6 (told t).length ((told t).flatMap encE)
  n64 : n <= 64
  le : ∀ t, t < n -> (told t).length <= 2031647
theorem encE_get : ∀ {l : List TE} {k : Nat} {e : TE}, l[k]? = some e -> ∀ j, j < 6 -> (l.flatMap encE)[k * 6 + j]? = (encE e)[j]?
  | [], _, _, h, _, _ => by cases h
  | y :: l, 0, e, h, r, hr => by
    have e' : y = e := by simpa using h
    subst e'
    rw [List.flatMap_cons, List.getElem?_append_left (show 0 * 6 + r < (encE y).length by show _ < 6; omega)]
    congr 1; omega
  | y :: l, j + 1, e, h, r, hr => by
    rw [List.flatMap_cons, List.getElem?_append_right (show (encE y).length <= (j + 1) * 6 + r by show 6 <= _; omega), <- encE_get (l := l) (k := j) (by simpa using h) r hr]
    congr 1
    show (j + 1) * 6 + r - 6 = _
    omega
section
variable {Γ : Type} {main : Bool} {S : Sit Γ} {h : Hp} {δ : Ix Γ}
set_option maxRecDepth 8000 in
set_option maxHeartbeats 8000000 in
theorem crings_ok {s : Value} {n : Nat} {tv : Nat -> Value} {told : Nat -> List TE} (T : TolM h s n tv told) : CallW Try.prog main S 18 #[s] h δ (Ret (Det (.int .i64 (cSum (fun t => sumE ringE (told t)) n)) h δ)) := by
  obtain ⟨a, k, rfl, hc⟩ := T.s.at
  rw [List.length_map, List.length_range]
  have hn := T.n64
  refine CallW.start (n := 33) rfl rfl ?_
  (repeat (first | refine EK.seq ?_ | refine EK.region ?_ | refine ER.done ?_ | refine EK.block ?_ | refine ER.assign rfl rfl rfl ?_))
  refine EK.loopInv (fun q : Nat => [(4, .int .i64 q), (3, .int .i64 (cSum (fun t => sumE ringE (told t)) q)), (0, .slice a n k)]) (fun q h' δ' => h' = h /\ δ' = δ /\ q <= n) (fun q => n - q) 0 ⟨rfl, rfl, rfl, trivial⟩ ⟨rfl, rfl, Nat.zero_le _⟩ ?_
  rintro q h1 δ1 ⟨hh1, hd1, hq⟩ again
  obtain rfl : h = h1 := hh1.symm
  obtain rfl : δ = δ1 := hd1.symm
  by_cases hqn : q < n
  · have hlt := T.le q hqn
    obtain ⟨b, o, rfl, hcq⟩ := hc q (tv q) (by rw [List.getElem?_map, List.getElem?_range hqn]; rfl)
    obtain ⟨ta, tk, etv⟩ := (T.sl q hqn).val
    have hB := cSum_le (f := fun t => sumE ringE (told t)) (b := 2031647) (n := q) fun t ht => by
      have h1 := sumE_le ringE_le (told t)
      have h2 := T.le t (by omega)
      omega
    have hle := sumE_le ringE_le
    have c1 := hcq
    rw [etv] at c1
    obtain ⟨R, hR⟩ : ∃ R : Int, R = cSum (fun t => sumE ringE (told t)) q := ⟨_, rfl⟩
    have hR1 : cSum (fun t => sumE ringE (told t)) (q + 1) = R + sumE ringE (told q) := by rw [hR]; rfl
    have hRb : 0 <= R /\ R <= 64 * 18446744073 := by rw [hR]; omega
    rw [<- hR]
    (repeat (first | refine EK.seq ?_ | refine EK.region ?_ | refine ER.done ?_ | refine EK.skip ?_ | refine EK.block ?_ | refine ER.move rfl rfl rfl ?_ | refine ER.assign rfl rfl rfl ?_ | refine ER.cmpT rfl rfl rfl rfl rfl (by first | (dsimp only [cmpP]; omega) | exact rfl | exact Int.le_refl _) ?_ | refine ER.len1 rfl rfl rfl ?_ | refine EK.condT rfl ?_))
    refine EK.loopInv (fun j : Nat => [(5, .int .i64 j), (4, .int .i64 q), (3, .int .i64 (R + sumE ringE ((told q).take j))), (0, .slice (some ⟨b, o, none⟩) n k)]) (fun j h' δ' => h' = h /\ δ' = δ /\ j <= (told q).length) (fun j => (told q).length - j) 0 ⟨rfl, rfl, by show some _ = some _; rw [show sumE ringE ((told q).take 0) = 0 from rfl, Int.add_zero], rfl, trivial⟩ ⟨rfl, rfl, Nat.zero_le _⟩ ?_
    rintro j h1 δ1 ⟨hh1, hd1, hj⟩ again2
    obtain rfl : h = h1 := hh1.symm
    obtain rfl : δ = δ1 := hd1.symm
    by_cases hjl : j < (told q).length
    · obtain ⟨e, he⟩ : ∃ e, (told q)[j]? = some e := ⟨_, List.getElem?_eq_getElem hjl⟩
      have hs := hle ((told q).take j)
      rw [List.length_take] at hs
      obtain ⟨b2, cap2, e2, hcc, -⟩ := SliceO.cell (T.sl q hqn) (by omega)
      rw [etv] at e2
      cases e2
      have c2 : hcell h ⟨b2, 0 + j * 6 + 1, none⟩ = some (.int .i64 e.at_) := hcc _ _ (by rw [show 0 + j * 6 + 1 = j * 6 + 1 by omega, encE_get he 1 (by omega)]; rfl)
      by_cases hat : e.at_ < 0
      · have hx : R + sumE ringE ((told q).take (j + 1)) = R + sumE ringE ((told q).take j) + 1 := by
          rw [take_snoc he, sumE_snoc, show ringE e = 1 from if_pos hat]; omega
        (repeat (first | refine EK.seq ?_ | refine EK.region ?_ | refine ER.done ?_ | refine EK.skip ?_ | refine EK.block ?_ | refine EK.inBlock ?_ | refine ER.move rfl rfl rfl ?_ | refine ER.assign rfl rfl rfl ?_ | refine ER.fieldAddr rfl rfl rfl ?_ | refine ER.cmpT rfl rfl rfl rfl rfl (by first | (dsimp only [cmpP]; omega) | exact rfl | exact Int.le_refl _) ?_ | refine ER.add (kd := .i64) rfl rfl rfl rfl (i64_in (by omega) (by omega)) ?_ | refine ER.len1 rfl rfl rfl ?_ | refine ER.indexSl rfl rfl rfl rfl (by omega) (by omega) ?_ | refine EK.condT rfl ?_ | refine ER.load1 rfl rfl rfl (by assumption) ?_))
        exact EK.back (again2 (j + 1) _ _ (by omega) ⟨rfl, rfl, by omega⟩) ⟨rfl, rfl, by rw [hx]; rfl, rfl, trivial⟩
      · have hx : R + sumE ringE ((told q).take (j + 1)) = R + sumE ringE ((told q).take j) := by
          rw [take_snoc he, sumE_snoc, show ringE e = 0 from if_neg hat]; omega
        (repeat (first | refine EK.seq ?_ | refine EK.region ?_ | refine ER.done ?_ | refine EK.skip ?_ | refine EK.block ?_ | refine EK.inBlock ?_ | refine ER.move rfl rfl rfl ?_ | refine ER.assign rfl rfl rfl ?_ | refine ER.fieldAddr rfl rfl rfl ?_ | refine ER.cmpT rfl rfl rfl rfl rfl (by first | (dsimp only [cmpP]; omega) | exact rfl | exact Int.le_refl _) ?_ | refine ER.cmpF rfl rfl rfl rfl rfl (by first | (dsimp only [cmpP]; omega) | exact rfl | exact Int.le_refl _) ?_ | refine ER.add (kd := .i64) rfl rfl rfl rfl (i64_in (by omega) (by omega)) ?_ | refine ER.len1 rfl rfl rfl ?_ | refine ER.indexSl rfl rfl rfl rfl (by omega) (by omega) ?_ | refine EK.condT rfl ?_ | refine EK.condF rfl ?_ | refine ER.load1 rfl rfl rfl (by assumption) ?_))
        exact EK.back (again2 (j + 1) _ _ (by omega) ⟨rfl, rfl, by omega⟩) ⟨rfl, rfl, by rw [hx]; rfl, rfl, trivial⟩
    · have ej : j = (told q).length := by omega
      subst ej
      rw [List.take_length, <- hR1]
      (repeat (first | refine EK.seq ?_ | refine EK.region ?_ | refine ER.done ?_ | refine EK.inBlock ?_ | refine ER.move rfl rfl rfl ?_ | refine ER.assign rfl rfl rfl ?_ | refine ER.cmpF rfl rfl rfl rfl rfl (by first | (dsimp only [cmpP]; omega) | exact rfl | exact Int.le_refl _) ?_ | refine ER.add (kd := .i64) rfl rfl rfl rfl (i64_in (by omega) (by omega)) ?_ | refine ER.len1 rfl rfl rfl ?_ | refine ER.indexSl rfl rfl rfl rfl (by omega) (by omega) ?_ | refine EK.condF rfl ?_ | refine EK.exit rfl ?_ | refine ER.load1 rfl rfl rfl (by assumption) ?_))
      exact EK.back (again (q + 1) _ _ (by omega) ⟨rfl, rfl, by omega⟩) ⟨rfl, rfl, rfl, trivial⟩
  · obtain rfl : q = n := by omega
    (repeat (first | refine EK.seq ?_ | refine EK.region ?_ | refine ER.done ?_ | refine ER.move rfl rfl rfl ?_ | refine ER.assign rfl rfl rfl ?_ | refine ER.cmpF rfl rfl rfl rfl rfl (by first | (dsimp only [cmpP]; omega) | exact rfl | exact Int.le_refl _) ?_ | refine ER.len1 rfl rfl rfl ?_ | refine EK.condF rfl ?_ | refine EK.ret ?_ | refine EK.exit rfl ?_))
    exact EU.ret1 rfl rfl det
end
end
section
open Go Go.TJ Go.Conc Go.Proofs
structure ScM (c : CP) (h : Hp) (V : Value) (ws : List Value) : Prop where
  V : RdS h V ws
  sc : ∀ (s : Nat) (l : List CCall), c.sc[s]? = some l -> ∃ v, ws[s]? = some v /\ SliceO h v 120 7 l.length (l.flatMap callE)
  len : ws.length = c.sc.length
  sl : ∀ (s : Nat) (l : List CCall) (q : CCall), c.sc[s]? = some l -> q ∈ l -> ∃ va vl vc, q.l = .slice va vl vc
theorem ScM.upd {c : CP} {h h' : Hp} {V : Value} {ws : List Value} (x : ScM c h V ws) (u : Upd (fun _ => False) h h') : ScM c h' V ws :=
  ⟨x.V.upd u fun _ _ _ z => z, fun s l hl => by
    obtain ⟨v, h1, h2⟩ := x.sc s l hl
    exact ⟨v, h1, h2.upd u fun _ _ z => z⟩, x.len, x.sl⟩
theorem TolM.upd {h h' : Hp} {s : Value} {n : Nat} {tv : Nat -> Value} {told : Nat -> List TE} (x : TolM h s n tv told) (u : Upd (fun _ => False) h h') : TolM h' s n tv told :=
  ⟨x.s.upd u fun _ _ _ z => z, fun t ht => (x.sl t ht).upd u fun _ _ z => z, x.n64, x.le⟩
structure TolK (c : CP) (h : Hp) (n : Nat) (told : Nat -> List TE) (kept : List (Nat × Obj)) : Prop where
  ok : ∀ t e, t < n -> e ∈ told t -> TEOk c kept e
  kept : ∀ q, q ∈ kept -> h[q.1]? = some q.2
theorem TolK.upd {c : CP} {h h' : Hp} {n : Nat} {told : Nat -> List TE} {kept : List (Nat × Obj)} (x : TolK c h n told kept) (u : Upd (fun _ => False) h h') : TolK c h' n told kept :=
  ⟨x.ok, fun q hq => u.get (x.kept q hq) fun z => z⟩
theorem call_some {c : CP} {s k : Int} {q : CCall} (h : c.call s k = some q) : ∃ (a b : Nat) (l : List CCall), s = a /\ k = b /\ c.sc[a]? = some l /\ l[b]? = some q := by
  unfold CP.call at h
  by_cases hs : 0 <= s /\ 0 <= k
  · rw [if_pos hs] at h
    obtain ⟨l, h1, h2⟩ := Option.bind_eq_some_iff.1 h
    exact ⟨s.toNat, k.toNat, l, by omega, by omega, h1, h2⟩
  · rw [if_neg hs] at h; cases h
theorem setE_of {c : CP} {i : Nat} {e : TE} {q : CCall} (h : ¬ e.at_ < 0) (hq : c.call e.s e.at_ = some q) : setE c i e = if q.a = i /\ q.op = 11 /\ e.kd = 0 then 1 else 0 := by
  unfold setE; rw [if_neg h, hq]
theorem stopE_of {c : CP} {i : Nat} {e : TE} {q : CCall} (h : ¬ e.at_ < 0) (hq : c.call e.s e.at_ = some q) : stopE c i e = if q.a = i /\ q.op = 12 /\ e.vs = [1] then 1 else 0 := by
  unfold stopE; rw [if_neg h, hq]
theorem setE_le (c : CP) (i : Nat) (e : TE) : 0 <= setE c i e /\ setE c i e <= 1 := by
  unfold setE; split <;> try omega
  split <;> try omega
theorem stopE_le (c : CP) (i : Nat) (e : TE) : 0 <= stopE c i e /\ stopE c i e <= 1 := by
  unfold stopE; split <;> try omega
  split <;> try omega
abbrev tol0 : List Value := [.int .i64 0, .int .i64 0, nilS, .int .i64 0, .int .i64 0, nilS]
abbrev cal0 : List Value := [.int .i64 0, .int .i64 0, .int .i64 0, .int .i64 0, .int .i64 0, .int .i64 0, nilS]
section
variable {Γ : Type} {main : Bool} {h : Hp} {δ : Ix Γ}
set_option maxRecDepth 8000 in
set_option maxHeartbeats 8000000 in
theorem ccounted_ok {c : CP} {V s : Value} {pl ws : List Value} {n i : Nat} {tv : Nat -> Value} {told : Nat -> List TE} {kept : List (Nat × Obj)} (hpl : pl.head? = some V /\ pl.length = 13) (M : ScM c h V ws) (T : TolM h s n tv told) (K : TolK c h n told kept) :
    CallW Try.prog main (NoS (Γ := Γ)) 15 #[.agg pl.toArray, s, .int .i64 i] h δ (Ret fun w h' δ' => w = .tuple #[.int .i64 (cSum (fun t => sumE (setE c i) (told t)) n), .int .i64 (cSum (fun t => sumE (stopE c i) (told t)) n)] /\ Upd (fun _ => False) h h' /\ δ' = δ) := by
  obtain ⟨a, k, rfl, -⟩ := T.s.at
  rw [List.length_map, List.length_range] at T ⊢
  have hn := T.n64
  obtain ⟨pv, pr, rfl⟩ : ∃ v r, pl = v :: r := by
    cases pl with
    | nil => cases hpl.2
    | cons v r => exact ⟨v, r, rfl⟩
  obtain rfl : pv = V := by simpa using hpl.1
  obtain ⟨Va, Vk, eV⟩ := M.V.val
  refine CallW.start (n := 82) rfl rfl ?_
  refine EK.seq ?_
  refine EK.region ?_
  refine ER.boxA rfl rfl rfl ?_
  obtain ⟨y, hy⟩ : ∃ y, y = h.size := ⟨_, rfl⟩
  refine ER.gen (fun h' => Upd (fun _ => False) h h' /\ h'[y]? = some (.cells (pv :: pr).toArray 25 (0, 0))) ⟨Upd.push _ _, by rw [hy]; exact get_push_new _ _⟩ ?_
  rw [<- hy]
  rintro h1 ⟨u1, gy⟩
  replace M := M.upd u1
  replace T := T.upd u1
  replace K := K.upd u1
  (repeat (first | refine EK.seq ?_ | refine EK.region ?_ | refine ER.done ?_ | refine EK.block ?_ | refine ER.assign rfl rfl rfl ?_))
  refine EK.loopInv (fun q : Nat => [(8, .int .i64 q), (7, .int .i64 (cSum (fun t => sumE (stopE c i) (told t)) q)), (6, .int .i64 (cSum (fun t => sumE (setE c i) (told t)) q)), (3, ptr y), (1, .slice a n k), (2, .int .i64 i)]) (fun q h' δ' => δ' = δ /\ q <= n /\ Upd (fun _ => False) h1 h') (fun q => n - q) 0 ⟨rfl, rfl, rfl, rfl, rfl, rfl, trivial⟩ ⟨rfl, Nat.zero_le _, Upd.refl _ _⟩ ?_
  rintro q h2 δ1 ⟨hd1, hq, u2⟩ again
  obtain rfl : δ = δ1 := hd1.symm
  by_cases hqn : q < n
  · have hlt := T.le q hqn
    have hBA := cSum_le (f := fun t => sumE (setE c i) (told t)) (b := 2031647) (n := q) fun t ht => by
      have h1 := sumE_le (setE_le c i) (told t)
      have h2 := T.le t (by omega)
      omega
    have hBB := cSum_le (f := fun t => sumE (stopE c i) (told t)) (b := 2031647) (n := q) fun t ht => by
      have h1 := sumE_le (stopE_le c i) (told t)
      have h2 := T.le t (by omega)
      omega
    obtain ⟨A, hA⟩ : ∃ R : Int, R = cSum (fun t => sumE (setE c i) (told t)) q := ⟨_, rfl⟩
    obtain ⟨B, hB⟩ : ∃ R : Int, R = cSum (fun t => sumE (stopE c i) (told t)) q := ⟨_, rfl⟩
    have hA2 : cSum (fun t => sumE (setE c i) (told t)) (q + 1) = A + sumE (setE c i) (told q) := by rw [hA]; rfl
    have hB2 : cSum (fun t => sumE (stopE c i) (told t)) (q + 1) = B + sumE (stopE c i) (told q) := by rw [hB]; rfl
    have hAb : 0 <= A /\ A <= 64 * 18446744073 := by rw [hA]; omega
    have hBb : 0 <= B /\ B <= 64 * 18446744073 := by rw [hB]; omega
    rw [<- hA, <- hB]
    clear hA hB hBA hBB
    (repeat (first | refine EK.seq ?_ | refine EK.region ?_ | refine ER.done ?_ | refine EK.skip ?_ | refine EK.block ?_ | refine ER.move rfl rfl rfl ?_ | refine ER.assign rfl rfl rfl ?_ | refine ER.cmpT rfl rfl rfl rfl rfl (by first | (dsimp only [cmpP]; omega) | exact rfl | exact Int.le_refl _) ?_ | refine ER.len1 rfl rfl rfl ?_ | refine EK.condT rfl ?_))
    refine EK.loopInv (fun j : Nat => [(9, .int .i64 j), (8, .int .i64 q), (7, .int .i64 (B + sumE (stopE c i) ((told q).take j))), (6, .int .i64 (A + sumE (setE c i) ((told q).take j))), (3, ptr y), (1, .slice a n k), (2, .int .i64 i)]) (fun j h' δ' => δ' = δ /\ j <= (told q).length /\ Upd (fun _ => False) h1 h') (fun j => (told q).length - j) 0 ⟨rfl, rfl, by show some _ = some _; rw [show sumE (stopE c i) ((told q).take 0) = 0 from rfl, Int.add_zero], by show some _ = some _; rw [show sumE (setE c i) ((told q).take 0) = 0 from rfl, Int.add_zero], rfl, rfl, rfl, trivial⟩ ⟨rfl, Nat.zero_le _, u2⟩ ?_
    clear u2 h2
    rintro j h3 δ1 ⟨hd1, hj, u3⟩ again2
    obtain rfl : δ = δ1 := hd1.symm
    have T3 := T.upd u3
    have M3 := M.upd u3
    have K3 := K.upd u3
    obtain ⟨b, o, k0, e0, hcq⟩ := T3.s.cell q (tv q) (by rw [List.getElem?_map, List.getElem?_range hqn]; rfl)
    rw [List.length_map, List.length_range] at e0
    cases e0
    obtain ⟨ta, tk, etv⟩ := (T3.sl q hqn).val
    have c1 := hcq
    rw [etv] at c1
    by_cases hjl : j < (told q).length
    · obtain ⟨e, he⟩ : ∃ e, (told q)[j]? = some e := ⟨_, List.getElem?_eq_getElem hjl⟩
      have hsA := sumE_le (setE_le c i) ((told q).take j)
      have hsB := sumE_le (stopE_le c i) ((told q).take j)
      rw [List.length_take] at hsA hsB
      obtain ⟨b2, cap2, e2, hcc, -⟩ := SliceO.cell (T3.sl q hqn) (by omega)
      rw [etv] at e2
      cases e2
      have crow : TJ.hrow h3 b2 (0 + j * 6) (encE e) := fun r v hv => by
        rw [show 0 + j * 6 + r = j * 6 + r by omega]
        refine hcc _ _ ?_
        rw [encE_get he r (by have := (List.getElem?_eq_some_iff.1 hv).1; exact this)]
        exact hv
      have eok := K3.ok q e hqn (List.mem_of_getElem? he)
      have evv : ∃ va vl vc, e.vv = .slice va vl vc := by
        rcases eok.vv with ⟨-, z⟩ | ⟨b, z, -⟩
        · exact ⟨_, _, _, z⟩
        · exact ⟨_, _, _, z⟩
      obtain ⟨va, vl, vc, evv⟩ := evv
      have hone := encE_one evv
      (repeat (first | refine EK.seq ?_ | refine EK.region ?_ | refine ER.done ?_ | refine EK.skip ?_ | refine EK.block ?_ | refine ER.move rfl rfl rfl ?_ | refine ER.cmpT rfl rfl rfl rfl rfl (by first | (dsimp only [cmpP]; omega) | exact rfl | exact Int.le_refl _) ?_ | refine ER.len1 rfl rfl rfl ?_ | refine ER.indexSl rfl rfl rfl rfl (by omega) (by omega) ?_ | refine EK.condT rfl ?_ | refine ER.load1 rfl rfl rfl (by assumption) ?_))
      refine ER.loadN (vs := encE e) rfl rfl rfl rfl crow ?_
      (repeat refine ER.allocA rfl rfl ?_)
      change ER _ _ _ _ _ _ _ _ _ _ (h3.push (.cells tol0.toArray 129 (0, 0))) _ _
      refine ER.storeN (vs := encE e) rfl rfl rfl rfl hone (rowAll (c := tol0) (get_push_new _ _) rfl (fun _ x => x)) ?_
      rw [hsetRow_push (c := tol0) (vs := encE e) rfl]
      obtain ⟨yt, hyt⟩ : ∃ y, y = h3.size := ⟨_, rfl⟩
      refine ER.gen (fun h' => Upd (fun _ => False) h3 h' /\ h'[yt]? = some (.cells (encE e).toArray 129 (0, 0))) ⟨Upd.push _ _, by rw [hyt]; exact get_push_new _ _⟩ ?_
      rw [<- hyt]
      clear crow hcc c1 hcq hyt
      rintro h4 ⟨u4, g4⟩
      have u14 := u3.trans u4
      have cat : hcell h4 ⟨yt, 1, none⟩ = some (.int .i64 e.at_) := hcell_of g4 rfl
      by_cases hat : e.at_ < 0
      · have hsE : setE c i e = 0 := if_pos hat
        have htE : stopE c i e = 0 := if_pos hat
        have hA1 : A + sumE (setE c i) ((told q).take (j + 1)) = A + sumE (setE c i) ((told q).take j) + (0) := by rw [take_snoc he, sumE_snoc, hsE]; omega
        have hB1 : B + sumE (stopE c i) ((told q).take (j + 1)) = B + sumE (stopE c i) ((told q).take j) + (0) := by rw [take_snoc he, sumE_snoc, htE]; omega
        (repeat (first | refine EK.seq ?_ | refine EK.region ?_ | refine ER.done ?_ | refine ER.move rfl rfl rfl ?_ | refine ER.assign rfl rfl rfl ?_ | refine ER.fieldAddr rfl rfl rfl ?_ | refine ER.load1 rfl rfl rfl (hcell_of (by assumption) rfl) ?_ | refine ER.cmpT rfl rfl rfl rfl rfl (by first | (dsimp only [cmpP]; omega) | exact rfl | exact Int.le_refl _) ?_ | refine ER.add (kd := .i64) rfl rfl rfl rfl (i64_in (by omega) (by omega)) ?_ | refine EK.condT rfl ?_ | refine EK.exit rfl ?_))
        exact EK.back (again2 (j + 1) _ _ (by omega) ⟨rfl, by omega, u14⟩) ⟨rfl, rfl, by first | (rw [hB1]; rfl) | (rw [hB1, Int.add_zero]; rfl), by first | (rw [hA1]; rfl) | (rw [hA1, Int.add_zero]; rfl), rfl, rfl, rfl, trivial⟩
      · obtain ⟨qc, hqc⟩ : ∃ q, c.call e.s e.at_ = some q := by
          rcases eok.at_ with z | z
          · exact absurd z hat
          · exact z
        obtain ⟨sn, kn, l, hes, hek, hl, hlq⟩ := call_some hqc
        have hsE0 := setE_of (i := i) hat hqc
        have htE0 := stopE_of (i := i) hat hqc
        have M4 := M3.upd u4
        have K4 := K3.upd u4
        obtain ⟨sv, hsv, hsl⟩ := M4.sc sn l hl
        obtain ⟨Vb, Vo, Vk', eV', hcV⟩ := M4.V.cell sn sv hsv
        have hws : sn < ws.length := (List.getElem?_eq_some_iff.1 hsv).1
        have hkl : kn < l.length := (List.getElem?_eq_some_iff.1 hlq).1
        obtain ⟨av, cv, esv⟩ := hsl.val
        obtain ⟨b3, cap3, e3, hcc3, -⟩ := SliceO.cell hsl (by omega)
        have cV : hcell h4 ⟨y, 0, none⟩ = some (.slice (some ⟨Vb, Vo, none⟩) ws.length Vk') := by rw [<- eV']; exact hcell_of (u14.get gy fun x => x) rfl
        rw [e3] at hcV
        have crow : TJ.hrow h4 b3 (0 + kn * 7) (callE qc) := fun r v hv => by
          rw [show 0 + kn * 7 + r = kn * 7 + r by omega]
          refine hcc3 _ _ ?_
          rw [callE_get hlq r (by have := (List.getElem?_eq_some_iff.1 hv).1; exact this)]
          exact hv
        obtain ⟨la, ll, lc, hql⟩ := M4.sl sn l qc hl (List.mem_of_getElem? hlq)
        have cs0 : hcell h4 ⟨yt, 0, none⟩ = some (.int .i64 sn) := hes ▸ hcell_of g4 rfl
        have ck0 : hcell h4 ⟨yt, 1, none⟩ = some (.int .i64 kn) := hek ▸ cat
        (repeat (first | refine EK.seq ?_ | refine EK.region ?_ | refine ER.done ?_ | refine EK.skip ?_ | refine ER.fieldAddr rfl rfl rfl ?_ | refine ER.load1 rfl rfl rfl (hcell_of (by assumption) rfl) ?_ | refine ER.cmpF rfl rfl rfl rfl rfl (by first | (dsimp only [cmpP]; omega) | exact rfl | exact Int.le_refl _) ?_ | refine EK.condF rfl ?_))
        refine EK.regionAnyL (fun h' => Upd (fun _ => False) h4 h') 11 ?_
        have hZ : Upd (fun _ => False) h4 h4 := Upd.refl _ _
        refine EA.tField 0 rfl (by kernel_rfl) rfl rfl rfl rfl hZ ?_
        refine EA.tLoad 1 rfl (by kernel_rfl) rfl rfl rfl rfl (fun _ hz => hz.hcell cV (fun x => x)) hZ ?_
        refine EA.tField 2 rfl (by kernel_rfl) rfl rfl rfl rfl hZ ?_
        refine EA.tLoad 3 rfl (by kernel_rfl) rfl rfl rfl rfl (fun _ hz => hz.hcell cs0 (fun x => x)) hZ ?_
        refine EA.tIdxS 4 rfl (by kernel_rfl) rfl rfl rfl rfl rfl (by omega) (by omega) hZ ?_
        refine EA.tLoad 5 rfl (by kernel_rfl) rfl rfl rfl rfl (fun _ hz => hz.hcell hcV (fun x => x)) hZ ?_
        refine EA.tField 6 rfl (by kernel_rfl) rfl rfl rfl rfl hZ ?_
        refine EA.tLoad 7 rfl (by kernel_rfl) rfl rfl rfl rfl (fun _ hz => hz.hcell ck0 (fun x => x)) hZ ?_
        refine EA.tIdxS 8 rfl (by kernel_rfl) rfl rfl rfl rfl rfl (by omega) (by omega) hZ ?_
        refine EA.tLoadN (vs := callE qc) 9 rfl (by kernel_rfl) rfl rfl rfl rfl rfl (fun _ hz => fun r v hv => hz.hcell (crow r v hv) (fun x => x)) hZ ?_
        have hZ : Upd (fun _ => False) h4 (h4.push (.cells cal0.toArray 120 (0, 0))) := Upd.push _ _
        refine EA.val (v := ptr h4.size) (h' := h4.push (.cells cal0.toArray 120 (0, 0))) 10 rfl (by kernel_rfl) rfl rfl rfl (fun ρ Q X hρ hq => sem_allocA hq) hZ ?_
        refine EA.unitL (h' := h4.push (.cells (callE qc).toArray 120 (0, 0))) 11 rfl (by kernel_rfl) rfl rfl rfl (fun ρ Q X hρ hq => sem_storeN (vs := callE qc) (hρ _ _ rfl) (hρ _ _ rfl) rfl (by rw [callE, hql]; simp [OneCell]) (rowAll (c := cal0) (get_push_new _ _) rfl (fun _ x => x)) (by rw [hsetRow_push (c := cal0) (vs := callE qc) rfl]; exact hq)) ?_
        refine EA.done (by kernel_rfl) ?_
        obtain ⟨yc, hyc⟩ : ∃ y, y = h4.size := ⟨_, rfl⟩
        have u5 : Upd (fun _ => False) h4 (h4.push (.cells (callE qc).toArray 120 (0, 0))) := Upd.push _ _
        have g5 : (h4.push (.cells (callE qc).toArray 120 (0, 0)))[yc]? = some (.cells (callE qc).toArray 120 (0, 0)) := by rw [hyc]; exact get_push_new _ _
        rw [<- hyc]
        clear crow hcc3 hcV cV cs0 ck0 hyc cat hZ
        generalize h4.push (.cells (callE qc).toArray 120 (0, 0)) = h5 at u5 g5 ⊢
        have u15 := u14.trans u5
        have g45 := u5.get g4 fun x => x
        have K5 := K4.upd u5
        have ca : hcell h5 ⟨yc, 1, none⟩ = some (.int .i64 qc.a) := hcell_of g5 rfl
        have cop : hcell h5 ⟨yc, 0, none⟩ = some (.int .i64 qc.op) := hcell_of g5 rfl
        have ckd : hcell h5 ⟨yt, 3, none⟩ = some (.int .i64 e.kd) := hcell_of g45 rfl
        have cvv : hcell h5 ⟨yt, 2, none⟩ = some e.vv := hcell_of g45 rfl
        clear g5 g45 g4
        by_cases hqa : qc.a = i
        case neg =>
          have hsE : setE c i e = 0 := by rw [hsE0, if_neg fun z => hqa z.1]
          have htE : stopE c i e = 0 := by rw [htE0, if_neg fun z => hqa z.1]
          skip
          have hA1 : A + sumE (setE c i) ((told q).take (j + 1)) = A + sumE (setE c i) ((told q).take j) + (0) := by rw [take_snoc he, sumE_snoc, hsE]; omega
          have hB1 : B + sumE (stopE c i) ((told q).take (j + 1)) = B + sumE (stopE c i) ((told q).take j) + (0) := by rw [take_snoc he, sumE_snoc, htE]; omega
          (repeat (first | refine EK.seq ?_ | refine EK.region ?_ | refine ER.done ?_ | refine ER.move rfl rfl rfl ?_ | refine ER.assign rfl rfl rfl ?_ | refine ER.fieldAddr rfl rfl rfl ?_ | refine ER.cmpT rfl rfl rfl rfl rfl (by first | (dsimp only [cmpP]; omega) | exact rfl | exact Int.le_refl _) ?_ | refine ER.add (kd := .i64) rfl rfl rfl rfl (i64_in (by omega) (by omega)) ?_ | refine EK.condT rfl ?_ | refine EK.exit rfl ?_ | refine ER.load1 rfl rfl rfl (by assumption) ?_))
          exact EK.back (again2 (j + 1) _ _ (by omega) ⟨rfl, by omega, u15⟩) ⟨rfl, rfl, by first | (rw [hB1]; rfl) | (rw [hB1, Int.add_zero]; rfl), by first | (rw [hA1]; rfl) | (rw [hA1, Int.add_zero]; rfl), rfl, rfl, rfl, trivial⟩
        rw [hqa] at ca
        by_cases h11 : qc.op = 11
        · have htE : stopE c i e = 0 := by rw [htE0, if_neg fun z => by omega]
          rw [h11] at cop
          by_cases hkd : e.kd = 0
          · have hsE : setE c i e = 1 := by rw [hsE0, if_pos ⟨hqa, h11, hkd⟩]
            rw [hkd] at ckd
            have hA1 : A + sumE (setE c i) ((told q).take (j + 1)) = A + sumE (setE c i) ((told q).take j) + (1) := by rw [take_snoc he, sumE_snoc, hsE]; omega
            have hB1 : B + sumE (stopE c i) ((told q).take (j + 1)) = B + sumE (stopE c i) ((told q).take j) + (0) := by rw [take_snoc he, sumE_snoc, htE]; omega
            (repeat (first | refine EK.seq ?_ | refine EK.region ?_ | refine ER.done ?_ | refine EK.skip ?_ | refine EK.inBlock ?_ | refine ER.move rfl rfl rfl ?_ | refine ER.assign rfl rfl rfl ?_ | refine ER.fieldAddr rfl rfl rfl ?_ | refine ER.no rfl rfl ?_ | refine ER.pickT rfl rfl rfl rfl ?_ | refine ER.pickF rfl rfl rfl rfl ?_ | refine ER.cmpT rfl rfl rfl rfl rfl (by first | (dsimp only [cmpP]; omega) | exact rfl | exact Int.le_refl _) ?_ | refine ER.cmpF rfl rfl rfl rfl rfl (by first | (dsimp only [cmpP]; omega) | exact rfl | exact Int.le_refl _) ?_ | refine ER.add (kd := .i64) rfl rfl rfl rfl (i64_in (by omega) (by omega)) ?_ | refine EK.condT rfl ?_ | refine EK.condF rfl ?_ | refine ER.load1 rfl rfl rfl (by assumption) ?_))
            exact EK.back (again2 (j + 1) _ _ (by omega) ⟨rfl, by omega, u15⟩) ⟨rfl, rfl, by first | (rw [hB1]; rfl) | (rw [hB1, Int.add_zero]; rfl), by first | (rw [hA1]; rfl) | (rw [hA1, Int.add_zero]; rfl), rfl, rfl, rfl, trivial⟩
          · have hsE : setE c i e = 0 := by rw [hsE0, if_neg fun z => hkd z.2.2]
            have hA1 : A + sumE (setE c i) ((told q).take (j + 1)) = A + sumE (setE c i) ((told q).take j) + (0) := by rw [take_snoc he, sumE_snoc, hsE]; omega
            have hB1 : B + sumE (stopE c i) ((told q).take (j + 1)) = B + sumE (stopE c i) ((told q).take j) + (0) := by rw [take_snoc he, sumE_snoc, htE]; omega
            (repeat (first | refine EK.seq ?_ | refine EK.region ?_ | refine ER.done ?_ | refine EK.skip ?_ | refine EK.inBlock ?_ | refine ER.move rfl rfl rfl ?_ | refine ER.assign rfl rfl rfl ?_ | refine ER.fieldAddr rfl rfl rfl ?_ | refine ER.no rfl rfl ?_ | refine ER.pickT rfl rfl rfl rfl ?_ | refine ER.pickF rfl rfl rfl rfl ?_ | refine ER.cmpT rfl rfl rfl rfl rfl (by first | (dsimp only [cmpP]; omega) | exact rfl | exact Int.le_refl _) ?_ | refine ER.cmpF rfl rfl rfl rfl rfl (by first | (dsimp only [cmpP]; omega) | exact rfl | exact Int.le_refl _) ?_ | refine ER.add (kd := .i64) rfl rfl rfl rfl (i64_in (by omega) (by omega)) ?_ | refine EK.condF rfl ?_ | refine ER.load1 rfl rfl rfl (by assumption) ?_))
            exact EK.back (again2 (j + 1) _ _ (by omega) ⟨rfl, by omega, u15⟩) ⟨rfl, rfl, by first | (rw [hB1]; rfl) | (rw [hB1, Int.add_zero]; rfl), by first | (rw [hA1]; rfl) | (rw [hA1, Int.add_zero]; rfl), rfl, rfl, rfl, trivial⟩
        · have hsE : setE c i e = 0 := by rw [hsE0, if_neg fun z => h11 z.2.1]
          by_cases h12 : qc.op = 12
          · rw [h12] at cop
            rcases eok.vv with ⟨z1, z2⟩ | ⟨bv, z2, z3⟩
            · have htE : stopE c i e = 0 := by rw [htE0, if_neg fun z => by rw [z1] at z; exact absurd z.2.2 (by decide)]
              rw [z2] at cvv
              have hA1 : A + sumE (setE c i) ((told q).take (j + 1)) = A + sumE (setE c i) ((told q).take j) + (0) := by rw [take_snoc he, sumE_snoc, hsE]; omega
              have hB1 : B + sumE (stopE c i) ((told q).take (j + 1)) = B + sumE (stopE c i) ((told q).take j) + (0) := by rw [take_snoc he, sumE_snoc, htE]; omega
              (repeat (first | refine EK.seq ?_ | refine EK.region ?_ | refine ER.done ?_ | refine EK.skip ?_ | refine EK.inBlock ?_ | refine ER.move rfl rfl rfl ?_ | refine ER.assign rfl rfl rfl ?_ | refine ER.fieldAddr rfl rfl rfl ?_ | refine ER.no rfl rfl ?_ | refine ER.pickT rfl rfl rfl rfl ?_ | refine ER.pickF rfl rfl rfl rfl ?_ | refine ER.cmpT rfl rfl rfl rfl rfl (by first | (dsimp only [cmpP]; omega) | exact rfl | exact Int.le_refl _) ?_ | refine ER.cmpF rfl rfl rfl rfl rfl (by first | (dsimp only [cmpP]; omega) | exact rfl | exact Int.le_refl _) ?_ | refine ER.add (kd := .i64) rfl rfl rfl rfl (i64_in (by omega) (by omega)) ?_ | refine ER.len1 rfl rfl rfl ?_ | refine EK.condF rfl ?_ | refine ER.load1 rfl rfl rfl (by assumption) ?_))
              exact EK.back (again2 (j + 1) _ _ (by omega) ⟨rfl, by omega, u15⟩) ⟨rfl, rfl, by first | (rw [hB1]; rfl) | (rw [hB1, Int.add_zero]; rfl), by first | (rw [hA1]; rfl) | (rw [hA1, Int.add_zero]; rfl), rfl, rfl, rfl, trivial⟩
            · have gv := K5.kept _ z3
              rw [z2] at cvv
              by_cases hv1 : e.vs.length = 1
              · obtain ⟨z, hz⟩ : ∃ z, e.vs = [z] := List.length_eq_one_iff.1 hv1
                rw [hz] at gv cvv
                have cz : hcell h5 ⟨bv, 0, none⟩ = some (.int .i64 z) := hcell_of gv rfl
                replace cvv : hcell h5 ⟨yt, 2, none⟩ = some (.slice (some ⟨bv, 0, none⟩) 1 1) := cvv
                by_cases hz1 : z = 1
                · have htE : stopE c i e = 1 := by rw [htE0, if_pos ⟨hqa, h12, by rw [hz, hz1]⟩]
                  rw [hz1] at cz
                  have hA1 : A + sumE (setE c i) ((told q).take (j + 1)) = A + sumE (setE c i) ((told q).take j) + (0) := by rw [take_snoc he, sumE_snoc, hsE]; omega
                  have hB1 : B + sumE (stopE c i) ((told q).take (j + 1)) = B + sumE (stopE c i) ((told q).take j) + (1) := by rw [take_snoc he, sumE_snoc, htE]; omega
                  (repeat (first | refine EK.seq ?_ | refine EK.region ?_ | refine ER.done ?_ | refine EK.skip ?_ | refine EK.inBlock ?_ | refine ER.move rfl rfl rfl ?_ | refine ER.assign rfl rfl rfl ?_ | refine ER.fieldAddr rfl rfl rfl ?_ | refine ER.load1 rfl rfl rfl (hcell_of (by assumption) rfl) ?_ | refine ER.no rfl rfl ?_ | refine ER.pickT rfl rfl rfl rfl ?_ | refine ER.pickF rfl rfl rfl rfl ?_ | refine ER.cmpT rfl rfl rfl rfl rfl (by first | (dsimp only [cmpP]; omega) | exact rfl | exact Int.le_refl _) ?_ | refine ER.cmpF rfl rfl rfl rfl rfl (by first | (dsimp only [cmpP]; omega) | exact rfl | exact Int.le_refl _) ?_ | refine ER.add (kd := .i64) rfl rfl rfl rfl (i64_in (by omega) (by omega)) ?_ | refine ER.len1 rfl rfl rfl ?_ | refine ER.indexSl rfl rfl rfl rfl (by omega) (by omega) ?_ | refine EK.condT rfl ?_ | refine EK.condF rfl ?_ | refine ER.load1 rfl rfl rfl (by assumption) ?_))
                  exact EK.back (again2 (j + 1) _ _ (by omega) ⟨rfl, by omega, u15⟩) ⟨rfl, rfl, by first | (rw [hB1]; rfl) | (rw [hB1, Int.add_zero]; rfl), by first | (rw [hA1]; rfl) | (rw [hA1, Int.add_zero]; rfl), rfl, rfl, rfl, trivial⟩
                · have htE : stopE c i e = 0 := by rw [htE0, if_neg fun x => by rw [hz] at x; exact hz1 (by simpa using x.2.2)]
                  have hA1 : A + sumE (setE c i) ((told q).take (j + 1)) = A + sumE (setE c i) ((told q).take j) + (0) := by rw [take_snoc he, sumE_snoc, hsE]; omega
                  have hB1 : B + sumE (stopE c i) ((told q).take (j + 1)) = B + sumE (stopE c i) ((told q).take j) + (0) := by rw [take_snoc he, sumE_snoc, htE]; omega
                  (repeat (first | refine EK.seq ?_ | refine EK.region ?_ | refine ER.done ?_ | refine EK.skip ?_ | refine EK.inBlock ?_ | refine ER.move rfl rfl rfl ?_ | refine ER.assign rfl rfl rfl ?_ | refine ER.fieldAddr rfl rfl rfl ?_ | refine ER.load1 rfl rfl rfl (hcell_of (by assumption) rfl) ?_ | refine ER.no rfl rfl ?_ | refine ER.pickT rfl rfl rfl rfl ?_ | refine ER.pickF rfl rfl rfl rfl ?_ | refine ER.cmpT rfl rfl rfl rfl rfl (by first | (dsimp only [cmpP]; omega) | exact rfl | exact Int.le_refl _) ?_ | refine ER.cmpF rfl rfl rfl rfl rfl (by first | (dsimp only [cmpP]; omega) | exact rfl | exact Int.le_refl _) ?_ | refine ER.add (kd := .i64) rfl rfl rfl rfl (i64_in (by omega) (by omega)) ?_ | refine ER.len1 rfl rfl rfl ?_ | refine ER.indexSl rfl rfl rfl rfl (by omega) (by omega) ?_ | refine EK.condF rfl ?_ | refine ER.load1 rfl rfl rfl (by assumption) ?_))
                  exact EK.back (again2 (j + 1) _ _ (by omega) ⟨rfl, by omega, u15⟩) ⟨rfl, rfl, by first | (rw [hB1]; rfl) | (rw [hB1, Int.add_zero]; rfl), by first | (rw [hA1]; rfl) | (rw [hA1, Int.add_zero]; rfl), rfl, rfl, rfl, trivial⟩
              · have htE : stopE c i e = 0 := by rw [htE0, if_neg fun x => hv1 (by rw [x.2.2]; rfl)]
                have hA1 : A + sumE (setE c i) ((told q).take (j + 1)) = A + sumE (setE c i) ((told q).take j) + (0) := by rw [take_snoc he, sumE_snoc, hsE]; omega
                have hB1 : B + sumE (stopE c i) ((told q).take (j + 1)) = B + sumE (stopE c i) ((told q).take j) + (0) := by rw [take_snoc he, sumE_snoc, htE]; omega
                (repeat (first | refine EK.seq ?_ | refine EK.region ?_ | refine ER.done ?_ | refine EK.skip ?_ | refine EK.inBlock ?_ | refine ER.move rfl rfl rfl ?_ | refine ER.assign rfl rfl rfl ?_ | refine ER.fieldAddr rfl rfl rfl ?_ | refine ER.no rfl rfl ?_ | refine ER.pickT rfl rfl rfl rfl ?_ | refine ER.pickF rfl rfl rfl rfl ?_ | refine ER.cmpT rfl rfl rfl rfl rfl (by first | (dsimp only [cmpP]; omega) | exact rfl | exact Int.le_refl _) ?_ | refine ER.cmpF rfl rfl rfl rfl rfl (by first | (dsimp only [cmpP]; omega) | exact rfl | exact Int.le_refl _) ?_ | refine ER.add (kd := .i64) rfl rfl rfl rfl (i64_in (by omega) (by omega)) ?_ | refine ER.len1 rfl rfl rfl ?_ | refine EK.condF rfl ?_ | refine ER.load1 rfl rfl rfl (by assumption) ?_))
                exact EK.back (again2 (j + 1) _ _ (by omega) ⟨rfl, by omega, u15⟩) ⟨rfl, rfl, by first | (rw [hB1]; rfl) | (rw [hB1, Int.add_zero]; rfl), by first | (rw [hA1]; rfl) | (rw [hA1, Int.add_zero]; rfl), rfl, rfl, rfl, trivial⟩
          · have htE : stopE c i e = 0 := by rw [htE0, if_neg fun z => h12 z.2.1]
            have hA1 : A + sumE (setE c i) ((told q).take (j + 1)) = A + sumE (setE c i) ((told q).take j) + (0) := by rw [take_snoc he, sumE_snoc, hsE]; omega
            have hB1 : B + sumE (stopE c i) ((told q).take (j + 1)) = B + sumE (stopE c i) ((told q).take j) + (0) := by rw [take_snoc he, sumE_snoc, htE]; omega
            (repeat (first | refine EK.seq ?_ | refine EK.region ?_ | refine ER.done ?_ | refine EK.skip ?_ | refine EK.inBlock ?_ | refine ER.move rfl rfl rfl ?_ | refine ER.assign rfl rfl rfl ?_ | refine ER.fieldAddr rfl rfl rfl ?_ | refine ER.no rfl rfl ?_ | refine ER.pickF rfl rfl rfl rfl ?_ | refine ER.cmpF rfl rfl rfl rfl rfl (by first | (dsimp only [cmpP]; omega) | exact rfl | exact Int.le_refl _) ?_ | refine ER.add (kd := .i64) rfl rfl rfl rfl (i64_in (by omega) (by omega)) ?_ | refine EK.condF rfl ?_ | refine ER.load1 rfl rfl rfl (by assumption) ?_))
            exact EK.back (again2 (j + 1) _ _ (by omega) ⟨rfl, by omega, u15⟩) ⟨rfl, rfl, by first | (rw [hB1]; rfl) | (rw [hB1, Int.add_zero]; rfl), by first | (rw [hA1]; rfl) | (rw [hA1, Int.add_zero]; rfl), rfl, rfl, rfl, trivial⟩
    · have ej : j = (told q).length := by omega
      subst ej
      rw [List.take_length, <- hA2, <- hB2]
      (repeat (first | refine EK.seq ?_ | refine EK.region ?_ | refine ER.done ?_ | refine EK.inBlock ?_ | refine ER.move rfl rfl rfl ?_ | refine ER.assign rfl rfl rfl ?_ | refine ER.cmpF rfl rfl rfl rfl rfl (by first | (dsimp only [cmpP]; omega) | exact rfl | exact Int.le_refl _) ?_ | refine ER.add (kd := .i64) rfl rfl rfl rfl (i64_in (by omega) (by omega)) ?_ | refine ER.len1 rfl rfl rfl ?_ | refine ER.indexSl rfl rfl rfl rfl (by omega) (by omega) ?_ | refine EK.condF rfl ?_ | refine EK.exit rfl ?_ | refine ER.load1 rfl rfl rfl (by assumption) ?_))
      exact EK.back (again (q + 1) _ _ (by omega) ⟨rfl, by omega, u3⟩) ⟨rfl, rfl, rfl, rfl, rfl, rfl, trivial⟩
  · obtain rfl : q = n := by omega
    (repeat (first | refine EK.seq ?_ | refine EK.region ?_ | refine ER.done ?_ | refine ER.move rfl rfl rfl ?_ | refine ER.assign rfl rfl rfl ?_ | refine ER.cmpF rfl rfl rfl rfl rfl (by first | (dsimp only [cmpP]; omega) | exact rfl | exact Int.le_refl _) ?_ | refine ER.len1 rfl rfl rfl ?_ | refine EK.condF rfl ?_ | refine EK.ret ?_ | refine EK.exit rfl ?_))
    exact EU.ret2 rfl rfl rfl ⟨rfl, u1.trans u2, rfl⟩
end
end
section
open Go Go.TJ Go.Conc Go.Proofs
def playL (f : Nat -> Value) : List Value := [f 0, f 1, f 2, f 3, f 4, f 5, f 6, f 7, f 8, f 9, f 10, f 11, f 12]
abbrev playF (f : Nat -> Value) : Obj := .cells (playL f).toArray 25 (0, 0)
theorem playL_get (f : Nat -> Value) : ∀ {i : Nat}, i < 13 -> (playL f)[i]? = some (f i)
  | 0, _ => rfl
  | 1, _ => rfl
  | 2, _ => rfl
  | 3, _ => rfl
  | 4, _ => rfl
  | 5, _ => rfl
  | 6, _ => rfl
  | 7, _ => rfl
  | 8, _ => rfl
  | 9, _ => rfl
  | 10, _ => rfl
  | 11, _ => rfl
  | 12, _ => rfl
  | _ + 13, h => by omega
theorem playL_set (f : Nat -> Value) (v : Value) : ∀ {i : Nat}, i < 13 -> (playL f).set i v = playL (ut f i v)
  | 0, _ => rfl
  | 1, _ => rfl
  | 2, _ => rfl
  | 3, _ => rfl
  | 4, _ => rfl
  | 5, _ => rfl
  | 6, _ => rfl
  | 7, _ => rfl
  | 8, _ => rfl
  | 9, _ => rfl
  | 10, _ => rfl
  | 11, _ => rfl
  | 12, _ => rfl
  | _ + 13, h => by omega
theorem playF_cell {h : Hp} {y : Nat} {f : Nat -> Value} (g : h[y]? = some (playF f)) {i : Nat} (hi : i < 13) : hcell h ⟨y, i, none⟩ = some (f i) := by
  refine hcell_of g ?_
  rw [List.getElem?_toArray]
  exact playL_get f hi
structure BQ (h0 : Hp) (y1 y2 y3 : Nat) (f0 f : Nat -> Value) (h : Hp) : Prop where
  gp : h[y1]? = some (playF f0)
  gr : ∃ r, h[y2]? = some (playF r)
  gq : h[y3]? = some (playF f)
  u0 : Upd (fun b => h0.size <= b) h0 h
  n1 : y1 < y3 /\ y2 < y3 /\ h0.size <= y3 /\ y3 < h.size /\ h0.size <= y2
section
variable {h0 h h' : Hp} {y1 y2 y3 : Nat} {f0 f : Nat -> Value}
theorem BQ.up (Q : BQ h0 y1 y2 y3 f0 f h) {T : Nat -> Prop} (u : Upd T h h') (hT : ∀ b, T b -> y3 < b) : BQ h0 y1 y2 y3 f0 f h' := by
  obtain ⟨r, gr⟩ := Q.gr
  have n := Q.n1
  refine ⟨u.get Q.gp fun t => by have := hT _ t; omega, ⟨r, u.get gr fun t => by have := hT _ t; omega⟩, u.get Q.gq fun t => by have := hT _ t; omega, Q.u0.trans ⟨u.size, fun b hb hn => u.same b hb fun t => hn (by have := hT _ t; omega)⟩, by have := u.size; omega⟩
theorem BQ.set (Q : BQ h0 y1 y2 y3 f0 f h) {i : Nat} (hi : i < 13) (v : Value) : BQ h0 y1 y2 y3 f0 (ut f i v) (hset h ⟨y3, i, none⟩ v) := by
  obtain ⟨r, gr⟩ := Q.gr
  have n := Q.n1
  have hu : Upd (fun b => b = y3) h (hset h ⟨y3, i, none⟩ v) := Upd.hset _ _ _ rfl
  refine ⟨hu.get Q.gp (by omega), ⟨r, hu.get gr (by omega)⟩, ?_, Q.u0.trans ⟨hu.size, fun b hb hn => hu.same b hb fun t => hn (by rw [t]; omega)⟩, by rw [hset_size]; exact n⟩
  rw [hset_block Q.gq, get_set_same Q.gq, List.setIfInBounds_toArray, playL_set f v hi]
theorem BQ.cq (Q : BQ h0 y1 y2 y3 f0 f h) {i : Nat} (hi : i < 13) : hcell h ⟨y3, i, none⟩ = some (f i) := playF_cell Q.gq hi
theorem BQ.cp (Q : BQ h0 y1 y2 y3 f0 f h) {i : Nat} (hi : i < 13) : hcell h ⟨y1, i, none⟩ = some (f0 i) := playF_cell Q.gp hi
end
def RdC (h : Hp) (v : Value) (l : List CCall) : Prop := ∃ a k, v = .slice a l.length k /\ ∀ j q, l[j]? = some q -> ∃ b o, a = some ⟨b, o, none⟩ /\ TJ.hrow h b (o + j * 7) (callE q) /\ ∃ xs : List Int, RdS h q.l (xs.map iV) /\ xs.length <= 1000000000000000
structure InP (h : Hp) (V : Value) (ws : List Value) : Prop where
  V : RdS h V ws
  sc : ∀ (s : Nat) (v : Value), ws[s]? = some v -> ∃ l, RdC h v l
theorem RdS.upN {h h' : Hp} {s : Value} {vs : List Value} (x : RdS h s vs) (u : Upd (fun b => h.size <= b) h h') : RdS h' s vs := x.upd u fun hn b hb => by have := x.lt hn b hb; show ¬ h.size <= b; omega
theorem RdC.upN {h h' : Hp} {v : Value} {l : List CCall} (x : RdC h v l) (u : Upd (fun b => h.size <= b) h h') : RdC h' v l := by
  obtain ⟨a, k, e, hc⟩ := x
  refine ⟨a, k, e, fun j q hq => ?_⟩
  obtain ⟨b, o, e2, hr, xs, hx, hl⟩ := hc j q hq
  refine ⟨b, o, e2, fun i w hw => ?_, xs, hx.upN u, hl⟩
  have h1 := hr i w hw
  obtain ⟨cc, ee, ff, hb, -⟩ := hcell_some h1
  exact u.hcell h1 (by show ¬ h.size <= b; have h9 : b < h.size := lt_of_get hb; omega)
theorem InP.upN {h h' : Hp} {V : Value} {ws : List Value} (x : InP h V ws) (u : Upd (fun b => h.size <= b) h h') : InP h' V ws :=
  ⟨x.V.upN u, fun s v hv => by
    obtain ⟨l, hl⟩ := x.sc s v hv
    exact ⟨l, hl.upN u⟩⟩
structure BS (lo : Nat) (h : Hp) (V : Value) (ws : List Value) (sc : List (List CCall)) : Prop where
  sl : SliceO h V 118 1 ws.length ws
  len : ws.length = sc.length
  sc1 : ∀ (s : Nat) (l : List CCall), sc[s]? = some l -> ∃ v, ws[s]? = some v /\ SliceO h v 120 7 l.length (l.flatMap callE) /\ ∀ b, blk v = some b -> lo < b
  nb : ∀ b, blk V = some b -> lo < b
  sl2 : ∀ (s : Nat) (l : List CCall) (q : CCall), sc[s]? = some l -> q ∈ l -> ∃ va vl vc, q.l = .slice va vl vc
  small : ∀ (s : Nat) (l : List CCall), sc[s]? = some l -> l.length <= 30
theorem BS.upd {lo : Nat} {h h' : Hp} {V : Value} {ws : List Value} {sc : List (List CCall)} (x : BS lo h V ws sc) {T : Nat -> Prop} (u : Upd T h h') (hT : ∀ b, lo < b -> b < h.size -> ¬ T b) : BS lo h' V ws sc :=
  ⟨x.sl.upd u fun b hb => hT b (x.nb b hb) (x.sl.lt hb), x.len, fun s l hl => by
    obtain ⟨v, h1, h2, h3⟩ := x.sc1 s l hl
    exact ⟨v, h1, h2.upd u fun b hb => hT b (h3 b hb) (h2.lt hb), h3⟩, x.nb, x.sl2, x.small⟩
theorem BS.app {lo : Nat} {h h' : Hp} {V V' v : Value} {ws : List Value} {sc : List (List CCall)} {l : List CCall} (x : BS lo h V ws sc) (u : Upd (fun b => blk V = some b) h h') (sl' : SliceO h' V' 118 1 (ws.length + 1) (ws ++ [v])) (hb : ∀ b, blk V' = some b -> blk V = some b \/ b = h.size) (hlo : lo < h.size)
    (hv : SliceO h v 120 7 l.length (l.flatMap callE)) (hvb : ∀ b, blk v = some b -> lo < b) (hl : l.length <= 30) (hl2 : ∀ q, q ∈ l -> ∃ va vl vc, q.l = .slice va vl vc) : BS lo h' V' (ws ++ [v]) (sc ++ [l]) := by
  have key : ∀ {w : Value} {l : List CCall}, SliceO h w 120 7 l.length (l.flatMap callE) -> SliceO h' w 120 7 l.length (l.flatMap callE) := fun {w l} z => by
    refine z.upd u fun b hb e => ?_
    obtain ⟨-, ⟨rfl, -⟩ | ⟨b', cap, rest, rfl, -, -, h3⟩⟩ := z
    · cases hb
    · obtain rfl : b' = b := Option.some.inj hb
      exact sliceO_ne x.sl h3 (by decide) _ e rfl
  have hlen := x.len
  refine ⟨by rw [List.length_append]; exact sl', by rw [List.length_append, List.length_append, hlen]; rfl, fun s m hm => ?_, fun b e => (hb b e).elim (x.nb b) fun e => by omega, fun s m q hm hq => ?_, fun s m hm => ?_⟩
  · by_cases hs : s < sc.length
    · rw [List.getElem?_append_left hs] at hm
      obtain ⟨w, h1, h2, h3⟩ := x.sc1 s m hm
      exact ⟨w, by rw [List.getElem?_append_left (by omega)]; exact h1, key h2, h3⟩
    · rw [List.getElem?_append_right (by omega)] at hm
      obtain ⟨hz, e⟩ : s - sc.length = 0 /\ l = m := by
        have := (List.getElem?_eq_some_iff.1 hm).1
        have hz : s - sc.length = 0 := by simpa using this
        rw [hz] at hm
        exact ⟨hz, by simpa using hm⟩
      subst e
      refine ⟨v, ?_, key hv, hvb⟩
      rw [List.getElem?_append_right (by omega), hlen, hz]; rfl
  · by_cases hs : s < sc.length
    · rw [List.getElem?_append_left hs] at hm
      exact x.sl2 s m q hm hq
    · rw [List.getElem?_append_right (by omega)] at hm
      have hz : s - sc.length = 0 := by simpa using (List.getElem?_eq_some_iff.1 hm).1
      rw [hz] at hm
      obtain rfl : l = m := by simpa using hm
      exact hl2 q hq
  · by_cases hs : s < sc.length
    · rw [List.getElem?_append_left hs] at hm
      exact x.small s m hm
    · rw [List.getElem?_append_right (by omega)] at hm
      have hz : s - sc.length = 0 := by simpa using (List.getElem?_eq_some_iff.1 hm).1
      rw [hz] at hm
      obtain rfl : l = m := by simpa using hm
      exact hl
structure Brt (h h' : Hp) (f : Nat -> Value) (V : Value) (ws : List Value) (sc : List (List CCall)) (th tu nC nK : Int) (picks : List Int) : Prop where
  up : Upd (fun _ => False) h h'
  bs : BS h.size h' V ws sc
  f0 : f 0 = V
  f1 : f 1 = .int .i64 th
  f2 : f 2 = .int .i64 tu
  f3 : SliceO h' (f 3) 3 1 picks.length (picks.map iV) /\ ∀ b, blk (f 3) = some b -> h.size < b
  f4 : f 4 = .int .i64 nC
  f6 : f 6 = .int .i64 nK
  fr : f 5 = .int .i64 0 /\ f 7 = nilS /\ f 8 = nilS /\ f 9 = nilS /\ f 10 = nilS /\ f 11 = nilS /\ f 12 = nilS
  n : 1 <= sc.length /\ sc.length <= 16
  th : 1 <= th /\ th <= sc.length /\ th <= 6
  tu : 0 <= tu /\ tu < 8192
  nC : 0 <= nC /\ nC <= 3
  nK : 0 <= nK /\ nK <= 3
  pk : picks.length <= 1500
def plZ : Nat -> Value
  | 0 => nilS
  | 1 => .int .i64 0
  | 2 => .int .i64 0
  | 3 => nilS
  | 4 => .int .i64 0
  | 5 => .int .i64 0
  | 6 => .int .i64 0
  | _ => nilS
theorem playL_one {f : Nat -> Value} (h : ∀ j, j < 13 -> OneCell (f j)) : ∀ v ∈ playL f, OneCell v := by
  intro v hv
  obtain ⟨j, hj⟩ := List.getElem?_of_mem hv
  have hl : j < 13 := (List.getElem?_eq_some_iff.1 hj).1
  rw [playL_get f hl] at hj
  injection hj with hj
  subst hj
  exact h j hl
theorem hrow_play {h : Hp} {y : Nat} {f : Nat -> Value} (g : h[y]? = some (playF f)) : TJ.hrow h y 0 (playL f) := hrow_block (vs := playL f) (rest := []) (by rw [List.append_nil]; exact g)
theorem BS.mono {lo lo' : Nat} {h : Hp} {V : Value} {ws : List Value} {sc : List (List CCall)} (x : BS lo h V ws sc) (hl : lo' <= lo) : BS lo' h V ws sc :=
  ⟨x.sl, x.len, fun s l hs => by
    obtain ⟨v, h1, h2, h3⟩ := x.sc1 s l hs
    exact ⟨v, h1, h2, fun b hb => Nat.lt_of_le_of_lt hl (h3 b hb)⟩, fun b hb => Nat.lt_of_le_of_lt hl (x.nb b hb), x.sl2, x.small⟩
theorem BS.nil {lo : Nat} {h : Hp} : BS lo h nilS [] [] := ⟨SliceO.nil, rfl, fun s l hl => (by cases hl), fun b hb => (by cases hb), fun s l q hl => (by cases hl), fun s l hl => (by cases hl)⟩
structure BP (lo : Nat) (h : Hp) (V : Value) (ws : List Value) (sc : List (List CCall)) (pv : Value) (pk : List Int) : Prop where
  b : BS lo h V ws sc
  p : SliceO h pv 3 1 pk.length (pk.map iV)
  pb : ∀ b, blk pv = some b -> lo < b
theorem BP.upd {lo : Nat} {h h' : Hp} {V : Value} {ws : List Value} {sc : List (List CCall)} {pv : Value} {pk : List Int} (x : BP lo h V ws sc pv pk) {T : Nat -> Prop} (u : Upd T h h') (hT : ∀ b, lo < b -> b < h.size -> ¬ T b) : BP lo h' V ws sc pv pk :=
  ⟨x.b.upd u hT, x.p.upd u fun b hb => hT b (x.pb b hb) (x.p.lt hb), x.pb⟩
section
variable {Γ : Type} {main : Bool} {h : Hp} {δ : Ix Γ}
set_option maxRecDepth 8000 in
set_option maxHeartbeats 40000000 in
theorem cbrought {f0 : Nat -> Value} {V : Value} {ws0 : List Value} {i1 i2 i4 i5 i6 : Int} (e0 : f0 0 = V) (e1 : f0 1 = .int .i64 i1) (e2 : f0 2 = .int .i64 i2) (e4 : f0 4 = .int .i64 i4) (e5 : f0 5 = .int .i64 i5) (e6 : f0 6 = .int .i64 i6)
    (In : InP h V ws0) (hp : ∀ j, j = 3 \/ 7 <= j /\ j <= 12 -> ∃ xs : List Int, RdS h (f0 j) (xs.map iV) /\ xs.length <= 1000000000000000) :
    CallW Try.prog main (NoS (Γ := Γ)) 9 #[.agg (playL f0).toArray] h δ (Ret fun w h' δ' => δ' = δ /\ ∃ (f : Nat -> Value) (V' : Value) (ws : List Value) (sc : List (List CCall)) (th tu nC nK : Int) (picks : List Int), w = .agg (playL f).toArray /\ Brt h h' f V' ws sc th tu nC nK picks) := by
  obtain ⟨Va, Vk, rfl⟩ := In.V.val
  have hone : ∀ j, j < 13 -> OneCell (f0 j) := fun j hj => by
    rcases (show j = 0 \/ j = 1 \/ j = 2 \/ j = 4 \/ j = 5 \/ j = 6 \/ (j = 3 \/ 7 <= j /\ j <= 12) by omega) with rfl | rfl | rfl | rfl | rfl | rfl | z
    · rw [e0]; simp [OneCell]
    · rw [e1]; simp [OneCell]
    · rw [e2]; simp [OneCell]
    · rw [e4]; simp [OneCell]
    · rw [e5]; simp [OneCell]
    · rw [e6]; simp [OneCell]
    · obtain ⟨xs, hx, -⟩ := hp j z
      obtain ⟨a, k, e⟩ := hx.val
      rw [e]; simp [OneCell]
  obtain ⟨y1, hy1⟩ : ∃ y, y = h.size := ⟨_, rfl⟩
  obtain ⟨y2, hy2⟩ : ∃ y, y = y1 + 1 := ⟨_, rfl⟩
  obtain ⟨y3, hy3⟩ : ∃ y, y = y1 + 2 := ⟨_, rfl⟩
  have P2 := push2 h (playF f0) (playF plZ)
  rw [<- hy1, <- hy2] at P2
  refine CallW.start (n := 164) rfl rfl ?_
  refine EK.seq ?_
  refine EK.region ?_
  refine ER.boxA rfl rfl rfl ?_
  refine ER.allocA rfl rfl ?_
  refine ER.gen (fun h' => h' = (h.push (playF f0)).push (playF plZ)) rfl ?_
  rintro h1 hh1
  rw [<- hh1] at P2
  obtain ⟨u1, s1, g1, g2⟩ := P2
  rw [Array.size_push, <- hy1, <- hy2]
  clear hh1
  have s1' : h1.size = y3 := by omega
  (repeat (first | refine EK.seq ?_ | refine EK.region ?_ | refine ER.done ?_))
  refine ER.loadN (vs := playL f0) rfl rfl rfl rfl (hrow_play g1) ?_
  (repeat refine ER.allocA rfl rfl ?_)
  change ER _ _ _ _ _ _ _ _ _ _ (h1.push (.cells (playL plZ).toArray 25 (0, 0))) _ _
  refine ER.storeN (vs := playL f0) rfl rfl rfl rfl (playL_one hone) (rowAll (c := playL plZ) (get_push_new _ _) rfl (fun _ x => x)) ?_
  rw [hsetRow_push (c := playL plZ) (vs := playL f0) rfl]
  rw [s1']
  refine ER.gen (fun h' => BQ h y1 y2 y3 f0 f0 h') ⟨get_push _ g1, ⟨plZ, get_push _ g2⟩, by rw [<- s1']; exact get_push_new _ _, (u1.trans (Upd.push _ _)).mono fun _ _ z => z.elim, by rw [Array.size_push]; omega⟩ ?_
  clear u1 s1 g1 g2 hy1 hy2 hy3 s1' h1
  rintro h1 Q
  (repeat (first | refine EK.seq ?_ | refine EK.region ?_ | refine ER.done ?_ | refine ER.fieldAddr rfl rfl rfl ?_))
  refine ER.store1 rfl rfl rfl (by first | exact ⟨nofun, nofun⟩ | simp [OneCell]) ⟨_, Q.cq (i := 0) (by omega)⟩ (hfroz_of Q.gq) (fun x => x) ?_
  refine ER.gen (fun h' => BQ h y1 y2 y3 f0 (ut _ 0 nilS) h' /\ Upd (fun b => b = y3) _ h') ⟨Q.set (i := 0) (by omega) nilS, Upd.hset _ _ _ rfl⟩ ?_
  clear Q
  rintro h2 ⟨Q, -⟩
  (repeat (first | refine EK.seq ?_ | refine EK.region ?_ | refine ER.done ?_ | refine ER.assign rfl rfl rfl ?_))
  refine EK.fork (fun _ : Value × List Value × List (List CCall) => [(3, ptr y3), (2, ptr y2), (1, ptr y1)]) (fun q h' δ' => δ' = δ /\ BQ h y1 y2 y3 f0 (ut f0 0 q.1) h' /\ BS y3 h' q.1 q.2.1 q.2.2 /\ q.2.2.length <= 16) (fun _ key0 => ?_) ?_
  · (repeat refine EK.block ?_)
    refine EK.loopInv (fun q : Nat × Nat × Value × List Value × List (List CCall) => [(5, .int .i64 q.1), (4, .int .i64 q.2.1), (3, ptr y3), (2, ptr y2), (1, ptr y1)]) (fun q h' δ' => δ' = δ /\ BQ h y1 y2 y3 f0 (ut f0 0 q.2.2.1) h' /\ BS y3 h' q.2.2.1 q.2.2.2.1 q.2.2.2.2 /\ q.1 <= 16 /\ q.2.2.2.2.length = q.1 /\ q.2.1 <= 120) (fun q => 16 - q.1) (0, 0, nilS, [], []) ⟨rfl, rfl, rfl, rfl, rfl, trivial⟩ ⟨rfl, Q, BS.nil, Nat.zero_le _, rfl, Nat.zero_le _⟩ ?_
    clear Q h1 h2
    rintro ⟨i, S0, Vc, ws, sc⟩ h2 δ2 ⟨hδ, Q, B, hi, hsc, hS⟩ again
    dsimp only at hδ Q B hi hsc hS again ⊢
    obtain rfl : δ = δ2 := hδ.symm
    have QN := Q.n1
    have In2 := In.upN Q.u0
    have c0 := Q.cp (i := 0) (by omega)
    rw [e0] at c0
    by_cases c1 : i < ws0.length
    case neg =>
      (repeat (first | refine EK.seq ?_ | refine EK.region ?_ | refine ER.done ?_ | refine ER.move rfl rfl rfl ?_ | refine ER.fieldAddr rfl rfl rfl ?_ | refine ER.no rfl rfl ?_ | refine ER.pickF rfl rfl rfl rfl ?_ | refine ER.cmpF rfl rfl rfl rfl rfl (by first | (dsimp only [cmpP]; omega) | exact rfl | exact Int.le_refl _) ?_ | refine ER.len1 rfl rfl rfl ?_ | refine EK.condF rfl ?_ | refine EK.exit rfl ?_ | refine ER.load1 rfl rfl rfl (by assumption) ?_))
      exact EK.back (key0 (Vc, ws, sc) _ _ ⟨rfl, Q, B, by dsimp only; omega⟩) ⟨rfl, rfl, rfl, trivial⟩
    by_cases c2 : i < 16
    case neg =>
      (repeat (first | refine EK.seq ?_ | refine EK.region ?_ | refine ER.done ?_ | refine ER.move rfl rfl rfl ?_ | refine ER.fieldAddr rfl rfl rfl ?_ | refine ER.pickT rfl rfl rfl rfl ?_ | refine ER.cmpT rfl rfl rfl rfl rfl (by first | (dsimp only [cmpP]; omega) | exact rfl | exact Int.le_refl _) ?_ | refine ER.cmpF rfl rfl rfl rfl rfl (by first | (dsimp only [cmpP]; omega) | exact rfl | exact Int.le_refl _) ?_ | refine ER.len1 rfl rfl rfl ?_ | refine EK.condF rfl ?_ | refine EK.exit rfl ?_ | refine ER.load1 rfl rfl rfl (by assumption) ?_))
      exact EK.back (key0 (Vc, ws, sc) _ _ ⟨rfl, Q, B, by dsimp only; omega⟩) ⟨rfl, rfl, rfl, trivial⟩
    obtain ⟨wv, hwv⟩ : ∃ v, ws0[i]? = some v := ⟨_, List.getElem?_eq_getElem c1⟩
    obtain ⟨l, hl⟩ := In.sc i wv hwv
    obtain ⟨a, k0, rfl, -⟩ := id hl
    obtain ⟨b, o, kx, ex, hcq⟩ := In2.V.cell i _ hwv
    cases ex
    (repeat (first | refine EK.seq ?_ | refine EK.region ?_ | refine ER.done ?_ | refine EK.skip ?_ | refine ER.move rfl rfl rfl ?_ | refine ER.fieldAddr rfl rfl rfl ?_ | refine ER.pickT rfl rfl rfl rfl ?_ | refine ER.cmpT rfl rfl rfl rfl rfl (by first | (dsimp only [cmpP]; omega) | exact rfl | exact Int.le_refl _) ?_ | refine ER.len1 rfl rfl rfl ?_ | refine EK.condT rfl ?_ | refine ER.load1 rfl rfl rfl (by assumption) ?_))
    refine EK.block ?_
    (repeat (first | refine EK.seq ?_ | refine EK.region ?_ | refine ER.done ?_ | refine ER.assign rfl rfl rfl ?_))
    refine EK.fork (fun q : Nat × Value × List CCall => [(6, q.2.1), (5, .int .i64 i), (4, .int .i64 ((S0 + q.1 : Nat) : Int)), (3, ptr y3), (2, ptr y2), (1, ptr y1)]) (fun q h' δ' => δ' = δ /\ Upd (fun _ => False) h2 h' /\ SliceO h' q.2.1 120 7 q.2.2.length (q.2.2.flatMap callE) /\ (∀ b, blk q.2.1 = some b -> h2.size <= b) /\ q.2.2.length = q.1 /\ q.1 <= 30 /\ S0 + q.1 <= 120 /\ ∀ z, z ∈ q.2.2 -> ∃ va vl vc, z.l = .slice va vl vc) (fun _ key1 => ?_) ?_
    · (repeat refine EK.block ?_)
      refine EK.loopInv (fun q : Nat × Value × List CCall => [(7, .int .i64 q.1), (6, q.2.1), (5, .int .i64 i), (4, .int .i64 ((S0 + q.1 : Nat) : Int)), (3, ptr y3), (2, ptr y2), (1, ptr y1)]) (fun q h' δ' => δ' = δ /\ Upd (fun _ => False) h2 h' /\ SliceO h' q.2.1 120 7 q.2.2.length (q.2.2.flatMap callE) /\ (∀ b, blk q.2.1 = some b -> h2.size <= b) /\ q.2.2.length = q.1 /\ q.1 <= 30 /\ S0 + q.1 <= 120 /\ ∀ z, z ∈ q.2.2 -> ∃ va vl vc, z.l = .slice va vl vc) (fun q => 30 - q.1) (0, nilS, []) ⟨rfl, rfl, rfl, rfl, rfl, rfl, rfl, trivial⟩ ⟨rfl, Upd.refl _ _, SliceO.nil, fun b e => (by cases e), rfl, Nat.zero_le _, hS, fun z hz => (by cases hz)⟩ ?_
      rintro ⟨k, lc, cs⟩ h3 δ3 ⟨hδ, u3, sl3, fr3, hcs, hk, hSk, hsl⟩ again2
      dsimp only at hδ u3 sl3 fr3 hcs hk hSk hsl again2 ⊢
      obtain rfl : δ = δ3 := hδ.symm
      have Q3 := Q.up u3 (fun _ z => z.elim)
      have c03 := Q3.cp (i := 0) (by omega)
      rw [e0] at c03
      have hcq3 := u3.hcell hcq (fun x => x)
      clear c0
      by_cases d0 : k < l.length /\ k < 30 /\ S0 + k < 120
      · obtain ⟨d1, d2, d3⟩ := d0
        obtain ⟨q, hq⟩ : ∃ q, l[k]? = some q := ⟨_, List.getElem?_eq_getElem d1⟩
        obtain ⟨a', k', e', hrow⟩ := hl.upN Q3.u0
        cases e'
        obtain ⟨b', o', rfl, crow, xs, hx, hxl⟩ := hrow k q hq
        obtain ⟨qa, qk, eql⟩ := hx.val
        clear hrow
        (repeat (first | refine EK.seq ?_ | refine EK.region ?_ | refine ER.done ?_ | refine EK.skip ?_ | refine EK.block ?_ | refine ER.move rfl rfl rfl ?_ | refine ER.fieldAddr rfl rfl rfl ?_ | refine ER.pickT rfl rfl rfl rfl ?_ | refine ER.cmpT rfl rfl rfl rfl rfl (by first | (dsimp only [cmpP]; omega) | exact rfl | exact Int.le_refl _) ?_ | refine ER.len1 rfl rfl rfl ?_ | refine ER.indexSl rfl rfl rfl rfl (by omega) (by omega) ?_ | refine EK.condT rfl ?_ | refine ER.load1 rfl rfl rfl (by assumption) ?_))
        refine ER.loadN (vs := callE q) rfl rfl rfl rfl crow ?_
        (repeat refine ER.allocA rfl rfl ?_)
        change ER _ _ _ _ _ _ _ _ _ _ (h3.push (.cells cal0.toArray 120 (0, 0))) _ _
        refine ER.storeN (vs := callE q) rfl rfl rfl rfl (by rw [callE, eql]; simp [OneCell]) (rowAll (c := cal0) (get_push_new _ _) rfl (fun _ x => x)) ?_
        rw [hsetRow_push (c := cal0) (vs := callE q) rfl]
        obtain ⟨y8, hy8⟩ : ∃ y, y = h3.size := ⟨_, rfl⟩
        refine ER.gen (fun h' => Upd (fun b => h3.size <= b) h3 h' /\ h'[y8]? = some (callO q)) ⟨Upd.push _ _, by rw [hy8]; exact get_push_new _ _⟩ ?_
        rw [<- hy8]
        rintro h4 ⟨u4, g4⟩
        have c8 : hcell h4 ⟨y8, 0, none⟩ = some (.int .i64 q.op) := hcell_of g4 rfl
        clear crow c03 hcq3
        (repeat (first | refine EK.seq ?_ | refine EK.region ?_ | refine ER.done ?_ | refine ER.fieldAddr rfl rfl rfl ?_ | refine ER.load1 rfl rfl rfl (hcell_of (by assumption) rfl) ?_))
        refine ER.callR rfl rfl rfl rfl rfl bplayed_ok ?_
        rintro _ h5 δ5 ⟨⟨pb, rfl⟩, hh5, hd5⟩
        obtain rfl : h4 = h5 := hh5.symm
        obtain rfl : δ = δ5 := hd5.symm
        refine ER.notB rfl rfl rfl ?_
        (repeat (first | refine ER.done ?_ | refine EK.seq ?_))
        refine EK.fork (fun _ : CCall => [(8, ptr y8), (7, .int .i64 k), (6, lc), (5, .int .i64 i), (4, .int .i64 ((S0 + k : Nat) : Int)), (3, ptr y3), (2, ptr y2), (1, ptr y1)]) (fun z h' δ' => δ' = δ /\ Upd (fun b => y8 <= b) h3 h' /\ h'[y8]? = some (callO z) /\ ∃ xs : List Int, RdS h' z.l (xs.map iV) /\ xs.length <= 1000000000000000) (fun _ key => ?_) ?_
        · cases pb with
          | true =>
            (repeat (first | refine EK.skip ?_ | refine EK.condF rfl ?_))
            exact EK.back (key q _ _ ⟨rfl, u4, g4, xs, hx.upd u4 fun hn b hb => by have := hx.lt hn b hb; omega, hxl⟩) ⟨rfl, rfl, rfl, rfl, rfl, rfl, rfl, rfl, trivial⟩
          | false =>
            (repeat (first | refine EK.region ?_ | refine EK.condT rfl ?_))
            refine ER.buildS (cells := (callE ⟨102, -1, 0, 0, 0, 0, nilS⟩).toArray) rfl rfl (by rfl) (by rfl) ?_
            refine ER.storeN (vs := callE ⟨102, -1, 0, 0, 0, 0, nilS⟩) rfl rfl rfl rfl (by simp [callE, OneCell]) (rowAll (c := callE q) g4 rfl (fun _ x => x)) ?_
            rw [row_set (c := callE q) (vs := callE ⟨102, -1, 0, 0, 0, 0, nilS⟩) g4 rfl]
            (repeat refine ER.done ?_)
            exact EK.back (key ⟨102, -1, 0, 0, 0, 0, nilS⟩ _ _ ⟨rfl, u4.trans (Upd.set _ _ _ (Nat.le_refl _)), get_set_same g4, [], ⟨⟨none, 0, rfl⟩, fun j v hv => (by cases hv)⟩, Nat.zero_le _⟩) ⟨rfl, rfl, rfl, rfl, rfl, rfl, rfl, rfl, trivial⟩
        clear hh5 hd5 u4 g4 c8 hx hxl eql hq h4
        rintro z h4 δ4 ⟨hδ, u4, g4, xs2, hx, hxl⟩
        obtain rfl : δ = δ4 := hδ.symm
        have c6 : hcell h4 ⟨y8, 6, none⟩ = some z.l := hcell_of g4 rfl
        (repeat (first | refine EK.seq ?_ | refine EK.region ?_ | refine ER.fieldAddr rfl rfl rfl ?_ | refine ER.load1 rfl rfl rfl (hcell_of (by assumption) rfl) ?_))
        refine ER.callR rfl rfl rfl rfl rfl (bcut_ok hx hxl (by decide : (6 : Int) <= 1000000) (fun _ _ _ x => x)) ?_
        rintro w h5 δ5 ⟨hd5, ys, N, hys⟩
        obtain rfl : δ = δ5 := hd5.symm
        obtain ⟨aN, kN, rfl⟩ := N.sl.val
        have g5 := N.up.get g4 (fun x => x)
        have u5 := u4.trans (N.up.mono (T' := fun b => y8 <= b) fun _ _ x => x.elim)
        clear c6 hx hxl g4 u4
        (repeat refine ER.fieldAddr rfl rfl rfl ?_)
        refine ER.store1 rfl rfl rfl (by simp [OneCell]) ⟨_, (hcell_of g5 rfl : hcell h5 ⟨y8, 6, none⟩ = some z.l)⟩ (hfroz_of g5) (fun x => x) ?_
        rw [hset_block g5]
        change ER _ _ _ _ _ _ _ _ _ _ (h5.setIfInBounds y8 (callO { z with l := .slice aN ys.length kN })) _ _
        refine ER.gen (fun h' => Upd (fun b => y8 <= b) h3 h' /\ h'[y8]? = some (callO { z with l := .slice aN ys.length kN })) ⟨u5.trans (Upd.set _ _ _ (Nat.le_refl _)), get_set_same g5⟩ ?_
        clear u5 g5 N h5
        rintro h5 ⟨u5, g5⟩
        obtain ⟨z2, hz2⟩ : ∃ z2, z2 = { z with l := .slice aN ys.length kN } := ⟨_, rfl⟩
        have ez2 : z2.l = .slice aN ys.length kN := by rw [hz2]
        rw [<- hz2] at g5
        have sl5 := sl3.upd u5 fun b hb e => by have := sl3.lt hb; omega
        have lc5 : ∀ b, blk lc = some b -> b < y8 := fun b hb => by have := sl3.lt hb; omega
        (repeat (first | refine EK.seq ?_ | refine EK.region ?_ | refine ER.done ?_ | refine ER.move rfl rfl rfl ?_))
        refine ER.loadN (vs := callE z2) rfl rfl rfl rfl (hrow_block (vs := callE z2) (rest := []) (by rw [List.append_nil]; exact g5)) ?_
        refine ER.slice1 (sz := 7) (z := .agg cal0.toArray) (cells := (callE z2).toArray) rfl rfl rfl (by omega) (by omega) rfl (by rfl) ?_
        refine ER.append1 (new := callE z2) rfl rfl rfl rfl (sl5.upd (Upd.push (T := fun _ => False) h5 (.cells (callE z2).toArray 120)) (fun _ _ x => x)) (get_push_new _ _) rfl (by rw [callE, ez2]; simp [OneCell]) (by omega) (by omega) (by rfl) (fun _ _ _ x => x) ?_
        intro s' h6 sl6 u6 hb6
        have hsz := u3.size
        have u56 : Upd (fun b => h2.size <= b) h3 h6 := ((u5.mono (T' := fun b => h2.size <= b) fun b _ hb => by omega).trans (Upd.push _ (.cells (callE z2).toArray 120))).trans (u6.mono fun b _ hb => fr3 b hb)
        have u26 := u3.over u56 (fun b hb => hb)
        have hb7 : ∀ b, blk s' = some b -> h2.size <= b := fun b hb => by
          rcases hb6 b hb with x | x
          · exact fr3 b x
          · have := u5.size
            rw [x, Array.size_push]; omega
        obtain ⟨sa, sk, es⟩ := sl6.val
        (repeat (first | refine EK.region ?_ | refine ER.done ?_ | refine EK.inBlock ?_ | refine ER.move rfl rfl rfl ?_ | refine ER.assign rfl rfl rfl ?_ | refine ER.add (kd := .i64) rfl rfl rfl rfl (i64_in (by omega) (by omega)) ?_))
        refine EK.back (again2 (k + 1, s', cs ++ [z2]) _ _ (by dsimp only; omega) ⟨rfl, u26, ?_, hb7, by dsimp only; rw [List.length_append, hcs]; rfl, by dsimp only; omega, by dsimp only; omega, fun x hx => ?_⟩) ⟨rfl, rfl, rfl, by show some (Value.int .i64 _) = some (Value.int .i64 _); congr 2, rfl, rfl, rfl, trivial⟩
        · dsimp only
          rw [List.length_append, List.flatMap_append]
          simpa using sl6
        · rcases List.mem_append.1 hx with x' | x'
          · exact hsl x x'
          · rw [List.mem_singleton.1 x']; exact ⟨_, _, _, ez2⟩
      · have out : ∀ {α : Prop}, (l.length <= k -> α) -> (30 <= k -> k < l.length -> α) -> (120 <= S0 + k -> k < l.length -> k < 30 -> α) -> α := fun {α} h1 h2 h3 => by
          by_cases d1 : k < l.length
          · by_cases d2 : k < 30
            · exact h3 (by omega) d1 d2
            · exact h2 (by omega) d1
          · exact h1 (by omega)
        refine out (fun d1 => ?_) (fun d1 d2 => ?_) (fun d1 d2 d3 => ?_)
        · (repeat (first | refine EK.seq ?_ | refine EK.region ?_ | refine ER.done ?_ | refine ER.move rfl rfl rfl ?_ | refine ER.fieldAddr rfl rfl rfl ?_ | refine ER.no rfl rfl ?_ | refine ER.pickF rfl rfl rfl rfl ?_ | refine ER.cmpF rfl rfl rfl rfl rfl (by first | (dsimp only [cmpP]; omega) | exact rfl | exact Int.le_refl _) ?_ | refine ER.len1 rfl rfl rfl ?_ | refine ER.indexSl rfl rfl rfl rfl (by omega) (by omega) ?_ | refine EK.condF rfl ?_ | refine EK.exit rfl ?_ | refine ER.load1 rfl rfl rfl (by assumption) ?_))
          exact EK.back (key1 (k, lc, cs) _ _ ⟨rfl, u3, sl3, fr3, hcs, hk, hSk, hsl⟩) ⟨rfl, rfl, rfl, rfl, rfl, rfl, trivial⟩
        · (repeat (first | refine EK.seq ?_ | refine EK.region ?_ | refine ER.done ?_ | refine ER.move rfl rfl rfl ?_ | refine ER.fieldAddr rfl rfl rfl ?_ | refine ER.no rfl rfl ?_ | refine ER.pickT rfl rfl rfl rfl ?_ | refine ER.pickF rfl rfl rfl rfl ?_ | refine ER.cmpT rfl rfl rfl rfl rfl (by first | (dsimp only [cmpP]; omega) | exact rfl | exact Int.le_refl _) ?_ | refine ER.cmpF rfl rfl rfl rfl rfl (by first | (dsimp only [cmpP]; omega) | exact rfl | exact Int.le_refl _) ?_ | refine ER.len1 rfl rfl rfl ?_ | refine ER.indexSl rfl rfl rfl rfl (by omega) (by omega) ?_ | refine EK.condF rfl ?_ | refine EK.exit rfl ?_ | refine ER.load1 rfl rfl rfl (by assumption) ?_))
          exact EK.back (key1 (k, lc, cs) _ _ ⟨rfl, u3, sl3, fr3, hcs, hk, hSk, hsl⟩) ⟨rfl, rfl, rfl, rfl, rfl, rfl, trivial⟩
        · (repeat (first | refine EK.seq ?_ | refine EK.region ?_ | refine ER.done ?_ | refine ER.move rfl rfl rfl ?_ | refine ER.fieldAddr rfl rfl rfl ?_ | refine ER.pickT rfl rfl rfl rfl ?_ | refine ER.cmpT rfl rfl rfl rfl rfl (by first | (dsimp only [cmpP]; omega) | exact rfl | exact Int.le_refl _) ?_ | refine ER.cmpF rfl rfl rfl rfl rfl (by first | (dsimp only [cmpP]; omega) | exact rfl | exact Int.le_refl _) ?_ | refine ER.len1 rfl rfl rfl ?_ | refine ER.indexSl rfl rfl rfl rfl (by omega) (by omega) ?_ | refine EK.condF rfl ?_ | refine EK.exit rfl ?_ | refine ER.load1 rfl rfl rfl (by assumption) ?_))
          exact EK.back (key1 (k, lc, cs) _ _ ⟨rfl, u3, sl3, fr3, hcs, hk, hSk, hsl⟩) ⟨rfl, rfl, rfl, rfl, rfl, rfl, trivial⟩
    · rintro ⟨k, lc, cs⟩ h3 δ3 ⟨hδ, u3, sl3, fr3, hcs, hk, hSk, hsl⟩
      dsimp only at hδ u3 sl3 fr3 hcs hk hSk hsl ⊢
      obtain rfl : δ = δ3 := hδ.symm
      have Q3 := Q.up u3 (fun _ z => z.elim)
      have B3 := B.upd u3 (fun _ _ _ x => x)
      have cq0 := Q3.cq (i := 0) (by omega)
      rw [ut_same] at cq0
      have hBl := B.len
      obtain ⟨la, lk, rfl⟩ := sl3.val
      have QN3 := Q3.n1
      have nlc : ∀ b, blk (.slice la cs.length lk) = some b -> y3 < b := fun b hb => by have := fr3 b hb; omega
      clear c0 hcq Q B
      (repeat (first | refine EK.region ?_ | refine ER.move rfl rfl rfl ?_ | refine ER.fieldAddr rfl rfl rfl ?_ | refine ER.load1 rfl rfl rfl (by assumption) ?_))
      refine ER.slice1 (sz := 1) (z := nilS) (cells := #[.slice la cs.length lk]) rfl rfl rfl (by omega) (by omega) rfl rfl ?_
      have uP : Upd (fun _ => False) h3 (h3.push (.cells #[.slice la cs.length lk] 118 (0, 0))) := Upd.push _ _
      have B4 := B3.upd uP (fun _ _ _ x => x)
      have sl4 := sl3.upd uP (fun _ _ x => x)
      have Q4 := Q3.up uP (fun _ z => z.elim)
      refine ER.append1 (new := [.slice la cs.length lk]) rfl rfl rfl rfl B4.sl (get_push_new _ _) rfl (by simp [OneCell]) (by omega) (by omega) rfl (fun _ _ _ x => x) ?_
      intro s' h4 sl5 u5 hb5
      have B5 := B4.app u5 sl5 hb5 (by rw [Array.size_push]; omega) sl4 nlc (by omega) hsl
      have Q := Q4.up u5 (fun b hb => B4.nb b hb)
      obtain ⟨sa, sk, rfl⟩ := sl5.val
      clear B4 sl4 Q4 uP B3 Q3 cq0 sl5 u5 hb5
      (repeat refine ER.fieldAddr rfl rfl rfl ?_)
      refine ER.store1 rfl rfl rfl (by first | exact ⟨nofun, nofun⟩ | simp [OneCell]) ⟨_, Q.cq (i := 0) (by omega)⟩ (hfroz_of Q.gq) (fun x => x) ?_
      refine ER.gen (fun h' => BQ h y1 y2 y3 f0 (ut _ 0 (.slice sa (ws.length + 1) sk)) h' /\ Upd (fun b => b = y3) _ h') ⟨Q.set (i := 0) (by omega) (.slice sa (ws.length + 1) sk), Upd.hset _ _ _ rfl⟩ ?_
      clear Q
      rintro hN ⟨Q, uN⟩
      rw [ut_ut] at Q
      have B := B5.upd uN fun b hb _ e => by omega
      (repeat (first | refine EK.region ?_ | refine ER.done ?_ | refine EK.inBlock ?_ | refine ER.move rfl rfl rfl ?_ | refine ER.assign rfl rfl rfl ?_ | refine ER.add (kd := .i64) rfl rfl rfl rfl (i64_in (by omega) (by omega)) ?_))
      exact EK.back (again (i + 1, S0 + k, .slice sa (ws.length + 1) sk, ws ++ [.slice la cs.length lk], sc ++ [cs]) _ _ (by dsimp only; omega) ⟨rfl, Q, B, by dsimp only; omega, by dsimp only; rw [List.length_append, hsc]; rfl, hSk⟩) ⟨rfl, rfl, rfl, rfl, rfl, trivial⟩
  rintro ⟨V, ws, sc⟩ h2 δ2 ⟨hδ, Q, B, hsc⟩
  dsimp only at hδ Q B hsc ⊢
  obtain rfl : δ = δ2 := hδ.symm
  have QN := Q.n1
  have cq0 := Q.cq (i := 0) (by omega)
  rw [ut_same] at cq0
  obtain ⟨Va', Vk', rfl⟩ := B.sl.val
  have hBl := B.len
  (repeat (first | refine EK.seq ?_ | refine EK.region ?_ | refine ER.fieldAddr rfl rfl rfl ?_ | refine ER.len1 rfl rfl rfl ?_ | refine ER.load1 rfl rfl rfl (by assumption) ?_))
  refine ER.cmpB rfl rfl rfl rfl rfl rfl ?_
  (repeat (first | refine ER.done ?_ | refine EK.seq ?_))
  refine EK.fork (fun _ : Value × List Value × List (List CCall) => [(3, ptr y3), (2, ptr y2), (1, ptr y1)]) (fun q h' δ' => δ' = δ /\ BQ h y1 y2 y3 f0 (ut f0 0 q.1) h' /\ BS y3 h' q.1 q.2.1 q.2.2 /\ 1 <= q.2.2.length /\ q.2.2.length <= 16) (fun _ key => ?_) ?_
  · refine EK.condS rfl (fun e => ?_) (fun e => ?_)
    · (repeat refine EK.region ?_)
      refine ER.slice1 (sz := 1) (z := nilS) (cells := #[nilS]) rfl rfl rfl (by omega) (by omega) rfl rfl ?_
      have Bn : BS y3 (h2.push (.cells #[nilS] 118)) (.slice (some ⟨h2.size, 0, none⟩) 1 1) [nilS] [[]] := by
        refine ⟨⟨rfl, .inr ⟨h2.size, 1, [], rfl, Nat.le_refl _, rfl, get_push_new _ _⟩⟩, rfl, fun s l hl => ?_, fun b hb => ?_, fun s l q hl hq => ?_, fun s l hl => ?_⟩
        · match s, hl with
          | 0, hl =>
            obtain rfl := Option.some.inj hl
            exact ⟨nilS, rfl, SliceO.nil, fun b hb => by cases hb⟩
          | s + 1, hl => cases hl
        · obtain rfl : h2.size = b := Option.some.inj hb
          omega
        · match s, hl with
          | 0, hl => obtain rfl := Option.some.inj hl; cases hq
          | s + 1, hl => cases hl
        · match s, hl with
          | 0, hl => obtain rfl := Option.some.inj hl; exact Nat.zero_le _
          | s + 1, hl => cases hl
      replace Q := Q.up (Upd.push (T := fun _ => False) h2 (.cells #[nilS] 118)) (fun _ z => z.elim)
      (repeat refine ER.fieldAddr rfl rfl rfl ?_)
      refine ER.store1 rfl rfl rfl (by first | exact ⟨nofun, nofun⟩ | simp [OneCell]) ⟨_, Q.cq (i := 0) (by omega)⟩ (hfroz_of Q.gq) (fun x => x) ?_
      refine ER.gen (fun h' => BQ h y1 y2 y3 f0 (ut _ 0 (.slice (some ⟨h2.size, 0, none⟩) 1 1)) h' /\ Upd (fun b => b = y3) _ h') ⟨Q.set (i := 0) (by omega) (.slice (some ⟨h2.size, 0, none⟩) 1 1), Upd.hset _ _ _ rfl⟩ ?_
      clear Q
      rintro hN ⟨Q, uN⟩
      rw [ut_ut] at Q
      (repeat refine ER.done ?_)
      exact EK.back (key (.slice (some ⟨h2.size, 0, none⟩) 1 1, [nilS], [[]]) _ _ ⟨rfl, Q, Bn.upd uN (fun b hb _ e => by have e' : b = y3 := e; omega), Nat.le_refl _, by show 1 <= 16; omega⟩) ⟨rfl, rfl, rfl, trivial⟩
    · have e' : ¬ ((ws.length : Int) = 0) := of_decide_eq_false e
      (repeat refine EK.skip ?_)
      exact EK.back (key (.slice Va' ws.length Vk', ws, sc) _ _ ⟨rfl, Q, B, by dsimp only; omega, hsc⟩) ⟨rfl, rfl, rfl, trivial⟩
  clear Q B QN cq0 hsc hBl Va' Vk' ws sc h2
  rintro ⟨V, ws, sc⟩ h2 δ2 ⟨hδ, Q, B0, hsc1, hsc⟩
  dsimp only at hδ Q B0 hsc1 hsc ⊢
  obtain rfl : δ = δ2 := hδ.symm
  obtain ⟨Vb, Vkb, rfl⟩ := B0.sl.val
  have hBl := B0.len
  have B : BP y3 h2 (.slice Vb ws.length Vkb) ws sc nilS [] := ⟨B0, SliceO.nil, fun b hb => by cases hb⟩
  clear B0
  have cth := Q.cp (i := 1) (by omega)
  rw [e1] at cth
  have cq0 := Q.cq (i := 0) (by omega)
  rw [ut_same] at cq0
  obtain ⟨m6, hm6⟩ : ∃ m : Int, (if (6 : Int) < (ws.length : Int) then 6 else (ws.length : Int)) = m := ⟨_, rfl⟩
  have hm6b : 1 <= m6 /\ m6 <= 6 /\ m6 <= sc.length := by rw [<- hm6]; split <;> omega
  (repeat (first | refine EK.seq ?_ | refine EK.region ?_ | refine ER.fieldAddr rfl rfl rfl ?_ | refine ER.len1 rfl rfl rfl ?_ | refine ER.load1 rfl rfl rfl (by assumption) ?_))
  refine ER.min (r := m6) rfl rfl rfl rfl hm6 ?_
  skip
  refine ER.callD rfl rfl rfl rfl rfl (bat_ok (a := i1) (n := m6) (by omega) (by omega)) ?_
  have hem1 := Int.emod_nonneg i1 (b := m6) (by omega)
  have hem2 := Int.emod_lt_of_pos i1 (b := m6) (by omega)
  obtain ⟨t0, ht0⟩ : ∃ t, t = i1 % m6 := ⟨_, rfl⟩
  rw [<- ht0] at hem1 hem2 ⊢
  (repeat (first | refine ER.fieldAddr rfl rfl rfl ?_ | refine ER.add (kd := .i64) rfl rfl rfl rfl (i64_in (by omega) (by omega)) ?_))
  refine ER.store1 rfl rfl rfl (by first | exact ⟨nofun, nofun⟩ | simp [OneCell]) ⟨_, Q.cq (i := 1) (by omega)⟩ (hfroz_of Q.gq) (fun x => x) ?_
  refine ER.gen (fun h' => BQ h y1 y2 y3 f0 (ut _ 1 (.int .i64 (1 + t0))) h' /\ Upd (fun b => b = y3) _ h') ⟨Q.set (i := 1) (by omega) (.int .i64 (1 + t0)), Upd.hset _ _ _ rfl⟩ ?_
  clear Q
  clear cth cq0
  rintro hN ⟨Q, uN⟩
  replace B := B.upd uN fun b hb _ e => by have e' : b = y3 := e; omega
  clear uN
  have ca := Q.cp (i := 2) (by omega)
  rw [e2] at ca
  (repeat (first | refine EK.seq ?_ | refine EK.region ?_ | refine ER.done ?_ | refine ER.fieldAddr rfl rfl rfl ?_ | refine ER.load1 rfl rfl rfl (by assumption) ?_))
  refine ER.callD rfl rfl rfl rfl rfl (bat_ok (a := i2) (n := 8192) (by omega) (by omega)) ?_
  (repeat refine ER.fieldAddr rfl rfl rfl ?_)
  refine ER.store1 rfl rfl rfl (by first | exact ⟨nofun, nofun⟩ | simp [OneCell]) ⟨_, Q.cq (i := 2) (by omega)⟩ (hfroz_of Q.gq) (fun x => x) ?_
  refine ER.gen (fun h' => BQ h y1 y2 y3 f0 (ut _ 2 (.int .i64 (Int.emod i2 8192))) h' /\ Upd (fun b => b = y3) _ h') ⟨Q.set (i := 2) (by omega) (.int .i64 (Int.emod i2 8192)), Upd.hset _ _ _ rfl⟩ ?_
  clear Q
  clear ca
  rintro hN ⟨Q, uN⟩
  replace B := B.upd uN fun b hb _ e => by have e' : b = y3 := e; omega
  clear uN
  have ca := Q.cp (i := 3) (by omega)
  obtain ⟨xs, hx, hxl⟩ := hp 3 (by omega)
  replace hx := hx.upN Q.u0
  have QN := Q.n1
  (repeat (first | refine EK.seq ?_ | refine EK.region ?_ | refine ER.done ?_ | refine ER.fieldAddr rfl rfl rfl ?_ | refine ER.load1 rfl rfl rfl (by assumption) ?_))
  refine ER.callR rfl rfl rfl rfl rfl (bcut_ok (n := 1500) hx hxl (by decide) (fun _ _ _ x => x)) ?_
  rintro w hM δM ⟨hδM, ys3, N, hys3⟩
  obtain rfl : δ = δM := hδM.symm
  obtain ⟨a3, k3, rfl⟩ := N.sl.val
  replace Q := Q.up N.up fun _ z => z.elim
  replace B := B.upd N.up fun b hb _ z => z
  have nN : ∀ b, blk (.slice a3 ys3.length k3) = some b -> y3 < b := fun b hb => by have := N.fr b hb; have := QN.2.2.2; omega
  have slN := N.sl
  clear ca hx hxl N
  (repeat refine ER.fieldAddr rfl rfl rfl ?_)
  refine ER.store1 rfl rfl rfl (by first | exact ⟨nofun, nofun⟩ | simp [OneCell]) ⟨_, Q.cq (i := 3) (by omega)⟩ (hfroz_of Q.gq) (fun x => x) ?_
  refine ER.gen (fun h' => BQ h y1 y2 y3 f0 (ut _ 3 (.slice a3 ys3.length k3)) h' /\ Upd (fun b => b = y3) _ h') ⟨Q.set (i := 3) (by omega) (.slice a3 ys3.length k3), Upd.hset _ _ _ rfl⟩ ?_
  clear Q
  rintro hN ⟨Q, uN⟩
  replace B := B.upd uN fun b hb _ e => by have e' : b = y3 := e; omega
  replace slN := slN.upd uN fun b hb e => by have e' : b = y3 := e; have := nN b hb; omega
  clear uN QN
  replace B : BP y3 hN (.slice Vb ws.length Vkb) ws sc (.slice a3 ys3.length k3) ys3 := ⟨B.b, slN, nN⟩
  clear slN nN
  have ca := Q.cp (i := 4) (by omega)
  rw [e4] at ca
  (repeat (first | refine EK.seq ?_ | refine EK.region ?_ | refine ER.done ?_ | refine ER.fieldAddr rfl rfl rfl ?_ | refine ER.load1 rfl rfl rfl (by assumption) ?_))
  refine ER.callD rfl rfl rfl rfl rfl (bat_ok (a := i4) (n := 4) (by omega) (by omega)) ?_
  (repeat refine ER.fieldAddr rfl rfl rfl ?_)
  refine ER.store1 rfl rfl rfl (by first | exact ⟨nofun, nofun⟩ | simp [OneCell]) ⟨_, Q.cq (i := 4) (by omega)⟩ (hfroz_of Q.gq) (fun x => x) ?_
  refine ER.gen (fun h' => BQ h y1 y2 y3 f0 (ut _ 4 (.int .i64 (Int.emod i4 4))) h' /\ Upd (fun b => b = y3) _ h') ⟨Q.set (i := 4) (by omega) (.int .i64 (Int.emod i4 4)), Upd.hset _ _ _ rfl⟩ ?_
  clear Q
  clear ca
  rintro hN ⟨Q, uN⟩
  replace B := B.upd uN fun b hb _ e => by have e' : b = y3 := e; omega
  clear uN
  have ca := Q.cp (i := 5) (by omega)
  rw [e5] at ca
  (repeat (first | refine EK.seq ?_ | refine EK.region ?_ | refine ER.done ?_ | refine ER.fieldAddr rfl rfl rfl ?_ | refine ER.load1 rfl rfl rfl (by assumption) ?_))
  refine ER.callD rfl rfl rfl rfl rfl (bat_ok (a := i5) (n := 8) (by omega) (by omega)) ?_
  (repeat refine ER.fieldAddr rfl rfl rfl ?_)
  refine ER.store1 rfl rfl rfl (by first | exact ⟨nofun, nofun⟩ | simp [OneCell]) ⟨_, Q.cq (i := 5) (by omega)⟩ (hfroz_of Q.gq) (fun x => x) ?_
  refine ER.gen (fun h' => BQ h y1 y2 y3 f0 (ut _ 5 (.int .i64 (Int.emod i5 8))) h' /\ Upd (fun b => b = y3) _ h') ⟨Q.set (i := 5) (by omega) (.int .i64 (Int.emod i5 8)), Upd.hset _ _ _ rfl⟩ ?_
  clear Q
  clear ca
  rintro hN ⟨Q, uN⟩
  replace B := B.upd uN fun b hb _ e => by have e' : b = y3 := e; omega
  clear uN
  have ca := Q.cp (i := 6) (by omega)
  rw [e6] at ca
  (repeat (first | refine EK.seq ?_ | refine EK.region ?_ | refine ER.done ?_ | refine ER.fieldAddr rfl rfl rfl ?_ | refine ER.load1 rfl rfl rfl (by assumption) ?_))
  refine ER.callD rfl rfl rfl rfl rfl (bat_ok (a := i6) (n := 4) (by omega) (by omega)) ?_
  (repeat refine ER.fieldAddr rfl rfl rfl ?_)
  refine ER.store1 rfl rfl rfl (by first | exact ⟨nofun, nofun⟩ | simp [OneCell]) ⟨_, Q.cq (i := 6) (by omega)⟩ (hfroz_of Q.gq) (fun x => x) ?_
  refine ER.gen (fun h' => BQ h y1 y2 y3 f0 (ut _ 6 (.int .i64 (Int.emod i6 4))) h' /\ Upd (fun b => b = y3) _ h') ⟨Q.set (i := 6) (by omega) (.int .i64 (Int.emod i6 4)), Upd.hset _ _ _ rfl⟩ ?_
  clear Q
  clear ca
  rintro hN ⟨Q, uN⟩
  replace B := B.upd uN fun b hb _ e => by have e' : b = y3 := e; omega
  clear uN
  have ca := Q.cp (i := 7) (by omega)
  obtain ⟨xs, hx, hxl⟩ := hp 7 (by omega)
  replace hx := hx.upN Q.u0
  have QN := Q.n1
  (repeat (first | refine EK.seq ?_ | refine EK.region ?_ | refine ER.done ?_ | refine ER.fieldAddr rfl rfl rfl ?_ | refine ER.load1 rfl rfl rfl (by assumption) ?_))
  refine ER.callR rfl rfl rfl rfl rfl (bcut_ok (n := 6) hx hxl (by decide) (fun _ _ _ x => x)) ?_
  rintro w hM δM ⟨hδM, ys7, N, hys7⟩
  obtain rfl : δ = δM := hδM.symm
  obtain ⟨a7, k7, rfl⟩ := N.sl.val
  replace Q := Q.up N.up fun _ z => z.elim
  replace B := B.upd N.up fun b hb _ z => z
  have nN : ∀ b, blk (.slice a7 ys7.length k7) = some b -> y3 < b := fun b hb => by have := N.fr b hb; have := QN.2.2.2; omega
  have slN := N.sl
  clear ca hx hxl N
  (repeat refine ER.fieldAddr rfl rfl rfl ?_)
  refine ER.store1 rfl rfl rfl (by first | exact ⟨nofun, nofun⟩ | simp [OneCell]) ⟨_, Q.cq (i := 7) (by omega)⟩ (hfroz_of Q.gq) (fun x => x) ?_
  refine ER.gen (fun h' => BQ h y1 y2 y3 f0 (ut _ 7 (.slice a7 ys7.length k7)) h' /\ Upd (fun b => b = y3) _ h') ⟨Q.set (i := 7) (by omega) (.slice a7 ys7.length k7), Upd.hset _ _ _ rfl⟩ ?_
  clear Q
  rintro hN ⟨Q, uN⟩
  replace B := B.upd uN fun b hb _ e => by have e' : b = y3 := e; omega
  replace slN := slN.upd uN fun b hb e => by have e' : b = y3 := e; have := nN b hb; omega
  clear uN QN
  clear slN nN
  have ca := Q.cp (i := 11) (by omega)
  obtain ⟨xs, hx, hxl⟩ := hp 11 (by omega)
  replace hx := hx.upN Q.u0
  have QN := Q.n1
  (repeat (first | refine EK.seq ?_ | refine EK.region ?_ | refine ER.done ?_ | refine ER.fieldAddr rfl rfl rfl ?_ | refine ER.load1 rfl rfl rfl (by assumption) ?_))
  refine ER.callR rfl rfl rfl rfl rfl (bcut_ok (n := 4) hx hxl (by decide) (fun _ _ _ x => x)) ?_
  rintro w hM δM ⟨hδM, ys11, N, hys11⟩
  obtain rfl : δ = δM := hδM.symm
  obtain ⟨a11, k11, rfl⟩ := N.sl.val
  replace Q := Q.up N.up fun _ z => z.elim
  replace B := B.upd N.up fun b hb _ z => z
  have nN : ∀ b, blk (.slice a11 ys11.length k11) = some b -> y3 < b := fun b hb => by have := N.fr b hb; have := QN.2.2.2; omega
  have slN := N.sl
  clear ca hx hxl N
  (repeat refine ER.fieldAddr rfl rfl rfl ?_)
  refine ER.store1 rfl rfl rfl (by first | exact ⟨nofun, nofun⟩ | simp [OneCell]) ⟨_, Q.cq (i := 11) (by omega)⟩ (hfroz_of Q.gq) (fun x => x) ?_
  refine ER.gen (fun h' => BQ h y1 y2 y3 f0 (ut _ 11 (.slice a11 ys11.length k11)) h' /\ Upd (fun b => b = y3) _ h') ⟨Q.set (i := 11) (by omega) (.slice a11 ys11.length k11), Upd.hset _ _ _ rfl⟩ ?_
  clear Q
  rintro hN ⟨Q, uN⟩
  replace B := B.upd uN fun b hb _ e => by have e' : b = y3 := e; omega
  replace slN := slN.upd uN fun b hb e => by have e' : b = y3 := e; have := nN b hb; omega
  clear uN QN
  clear slN nN
  have ca := Q.cp (i := 8) (by omega)
  obtain ⟨xs, hx, hxl⟩ := hp 8 (by omega)
  replace hx := hx.upN Q.u0
  have QN := Q.n1
  (repeat (first | refine EK.seq ?_ | refine EK.region ?_ | refine ER.done ?_ | refine ER.fieldAddr rfl rfl rfl ?_ | refine ER.load1 rfl rfl rfl (by assumption) ?_))
  refine ER.callR rfl rfl rfl rfl rfl (bups_ok hx hxl (fun _ _ _ x => x)) ?_
  rintro w hM δM ⟨hδM, ys8, N, hys8⟩
  obtain rfl : δ = δM := hδM.symm
  obtain ⟨a8, k8, rfl⟩ := N.sl.val
  replace Q := Q.up N.up fun _ z => z.elim
  replace B := B.upd N.up fun b hb _ z => z
  have nN : ∀ b, blk (.slice a8 ys8.length k8) = some b -> y3 < b := fun b hb => by have := N.fr b hb; have := QN.2.2.2; omega
  have slN := N.sl
  clear ca hx hxl N
  (repeat refine ER.fieldAddr rfl rfl rfl ?_)
  refine ER.store1 rfl rfl rfl (by first | exact ⟨nofun, nofun⟩ | simp [OneCell]) ⟨_, Q.cq (i := 8) (by omega)⟩ (hfroz_of Q.gq) (fun x => x) ?_
  refine ER.gen (fun h' => BQ h y1 y2 y3 f0 (ut _ 8 (.slice a8 ys8.length k8)) h' /\ Upd (fun b => b = y3) _ h') ⟨Q.set (i := 8) (by omega) (.slice a8 ys8.length k8), Upd.hset _ _ _ rfl⟩ ?_
  clear Q
  rintro hN ⟨Q, uN⟩
  replace B := B.upd uN fun b hb _ e => by have e' : b = y3 := e; omega
  replace slN := slN.upd uN fun b hb e => by have e' : b = y3 := e; have := nN b hb; omega
  clear uN QN
  clear slN nN
  have c8 : hcell hN ⟨y3, 8, none⟩ = some (.slice a8 ys8.length k8) := Q.cq (i := 8) (by omega)
  have ca := Q.cp (i := 9) (by omega)
  obtain ⟨xs, hx, hxl⟩ := hp 9 (by omega)
  replace hx := hx.upN Q.u0
  have QN := Q.n1
  (repeat (first | refine EK.seq ?_ | refine EK.region ?_ | refine ER.done ?_ | refine ER.fieldAddr rfl rfl rfl ?_ | refine ER.len1 rfl rfl rfl ?_ | refine ER.load1 rfl rfl rfl (by assumption) ?_))
  refine ER.callR rfl rfl rfl rfl rfl (bups_ok hx hxl (fun _ _ _ x => x)) ?_
  rintro w hM δM ⟨hδM, ys9, N, hys9⟩
  obtain rfl : δ = δM := hδM.symm
  obtain ⟨a9, k9, rfl⟩ := N.sl.val
  replace Q := Q.up N.up fun _ z => z.elim
  replace B := B.upd N.up fun b hb _ z => z
  have nN : ∀ b, blk (.slice a9 ys9.length k9) = some b -> y3 < b := fun b hb => by have := N.fr b hb; have := QN.2.2.2; omega
  have slN := N.sl
  clear ca hx hxl N
  (repeat refine ER.fieldAddr rfl rfl rfl ?_)
  refine ER.store1 rfl rfl rfl (by first | exact ⟨nofun, nofun⟩ | simp [OneCell]) ⟨_, Q.cq (i := 9) (by omega)⟩ (hfroz_of Q.gq) (fun x => x) ?_
  refine ER.gen (fun h' => BQ h y1 y2 y3 f0 (ut _ 9 (.slice a9 ys9.length k9)) h' /\ Upd (fun b => b = y3) _ h') ⟨Q.set (i := 9) (by omega) (.slice a9 ys9.length k9), Upd.hset _ _ _ rfl⟩ ?_
  clear Q
  rintro hN ⟨Q, uN⟩
  replace B := B.upd uN fun b hb _ e => by have e' : b = y3 := e; omega
  replace slN := slN.upd uN fun b hb e => by have e' : b = y3 := e; have := nN b hb; omega
  clear uN QN
  clear slN nN c8
  have c8 : hcell hN ⟨y3, 8, none⟩ = some (.slice a8 ys8.length k8) := Q.cq (i := 8) (by omega)
  have ca := Q.cp (i := 12) (by omega)
  obtain ⟨xs, hx, hxl⟩ := hp 12 (by omega)
  replace hx := hx.upN Q.u0
  have QN := Q.n1
  (repeat (first | refine EK.seq ?_ | refine EK.region ?_ | refine ER.done ?_ | refine ER.fieldAddr rfl rfl rfl ?_ | refine ER.len1 rfl rfl rfl ?_ | refine ER.load1 rfl rfl rfl (by assumption) ?_))
  refine ER.callR rfl rfl rfl rfl rfl (bups_ok hx hxl (fun _ _ _ x => x)) ?_
  rintro w hM δM ⟨hδM, ys12, N, hys12⟩
  obtain rfl : δ = δM := hδM.symm
  obtain ⟨a12, k12, rfl⟩ := N.sl.val
  replace Q := Q.up N.up fun _ z => z.elim
  replace B := B.upd N.up fun b hb _ z => z
  have nN : ∀ b, blk (.slice a12 ys12.length k12) = some b -> y3 < b := fun b hb => by have := N.fr b hb; have := QN.2.2.2; omega
  have slN := N.sl
  clear ca hx hxl N
  (repeat refine ER.fieldAddr rfl rfl rfl ?_)
  refine ER.store1 rfl rfl rfl (by first | exact ⟨nofun, nofun⟩ | simp [OneCell]) ⟨_, Q.cq (i := 12) (by omega)⟩ (hfroz_of Q.gq) (fun x => x) ?_
  refine ER.gen (fun h' => BQ h y1 y2 y3 f0 (ut _ 12 (.slice a12 ys12.length k12)) h' /\ Upd (fun b => b = y3) _ h') ⟨Q.set (i := 12) (by omega) (.slice a12 ys12.length k12), Upd.hset _ _ _ rfl⟩ ?_
  clear Q
  rintro hN ⟨Q, uN⟩
  replace B := B.upd uN fun b hb _ e => by have e' : b = y3 := e; omega
  replace slN := slN.upd uN fun b hb e => by have e' : b = y3 := e; have := nN b hb; omega
  clear uN QN
  clear slN nN c8
  (repeat (first | refine EK.seq ?_ | refine EK.region ?_ | refine ER.done ?_ | refine ER.fieldAddr rfl rfl rfl ?_))
  refine ER.store1 rfl rfl rfl (by first | exact ⟨nofun, nofun⟩ | simp [OneCell]) ⟨_, Q.cq (i := 10) (by omega)⟩ (hfroz_of Q.gq) (fun x => x) ?_
  refine ER.gen (fun h' => BQ h y1 y2 y3 f0 (ut _ 10 nilS) h' /\ Upd (fun b => b = y3) _ h') ⟨Q.set (i := 10) (by omega) nilS, Upd.hset _ _ _ rfl⟩ ?_
  clear Q
  rintro hL ⟨Q, uN⟩
  replace B := B.upd uN fun b hb _ e => by have e' : b = y3 := e; omega
  clear uN
  obtain ⟨FB, Q, a0, a1, a2, a3', a4, a6, a9'⟩ : ∃ FB, BQ h y1 y2 y3 f0 (ut FB 10 nilS) hL /\ FB 0 = .slice Vb ws.length Vkb /\ FB 1 = .int .i64 (1 + t0) /\ FB 2 = .int .i64 (i2 % 8192) /\ FB 3 = .slice a3 ys3.length k3 /\ FB 4 = .int .i64 (i4 % 4) /\ FB 6 = .int .i64 (i6 % 4) /\ FB 9 = .slice a9 ys9.length k9 := ⟨_, Q, rfl, rfl, rfl, rfl, rfl, rfl, rfl⟩
  obtain ⟨xs, hx, hxl⟩ := hp 10 (by omega)
  obtain ⟨ra, rk, er⟩ := hx.val
  rw [List.length_map] at er
  (repeat (first | refine EK.seq ?_ | refine EK.region ?_ | refine ER.done ?_ | refine ER.assign rfl rfl rfl ?_))
  refine EK.fork (fun _ : Value => [(3, ptr y3), (2, ptr y2), (1, ptr y1)]) (fun q h' δ' => δ' = δ /\ BQ h y1 y2 y3 f0 (ut FB 10 q) h' /\ BP y3 h' (.slice Vb ws.length Vkb) ws sc (.slice a3 ys3.length k3) ys3) (fun _ key => ?_) ?_
  · (repeat refine EK.block ?_)
    refine EK.loopInv (fun q : Nat × Value × List Int => [(9, .int .i64 q.1), (3, ptr y3), (2, ptr y2), (1, ptr y1)]) (fun q h' δ' => δ' = δ /\ BQ h y1 y2 y3 f0 (ut FB 10 q.2.1) h' /\ Upd (fun b => b = y3 \/ hL.size <= b) hL h' /\ SliceO h' q.2.1 3 1 q.2.2.length (q.2.2.map iV) /\ (∀ b, blk q.2.1 = some b -> hL.size <= b) /\ q.2.2.length = q.1 /\ q.1 <= ys9.length) (fun q => ys9.length - q.1) (0, nilS, []) ⟨rfl, rfl, rfl, rfl, trivial⟩ ⟨rfl, Q, Upd.refl _ _, SliceO.nil, fun b hb => (by cases hb), rfl, Nat.zero_le _⟩ ?_
    have QNL := Q.n1
    clear Q
    rintro ⟨i, R, ys⟩ h3 δ3 ⟨hδ, Q3, u3, sl3, fr3, hy, hi⟩ again
    dsimp only at hδ Q3 u3 sl3 fr3 hy hi again ⊢
    obtain rfl : δ = δ3 := hδ.symm
    have c9 := Q3.cq (i := 9) (by omega)
    rw [ut_ne _ _ (by decide), a9'] at c9
    have c10 := Q3.cq (i := 10) (by omega)
    rw [ut_same] at c10
    have cR := Q3.cp (i := 10) (by omega)
    rw [er] at cR
    by_cases c1 : i < ys9.length
    · by_cases c2 : i < xs.length
      · obtain ⟨z, hz⟩ : ∃ z, xs[i]? = some z := ⟨_, List.getElem?_eq_getElem c2⟩
        obtain ⟨b, o, kx, ex, hcx⟩ := (hx.upN Q3.u0).cell i (iV z) (by rw [List.getElem?_map, hz]; rfl)
        rw [er, List.length_map] at ex
        cases ex
        have Q := Q3
        (repeat (first | refine EK.seq ?_ | refine EK.region ?_ | refine ER.done ?_ | refine EK.skip ?_ | refine EK.block ?_ | refine ER.move rfl rfl rfl ?_ | refine ER.assign rfl rfl rfl ?_ | refine ER.fieldAddr rfl rfl rfl ?_ | refine ER.cmpT rfl rfl rfl rfl rfl (by first | (dsimp only [cmpP]; omega) | exact rfl | exact Int.le_refl _) ?_ | refine ER.len1 rfl rfl rfl ?_ | refine ER.indexSl rfl rfl rfl rfl (by omega) (by omega) ?_ | refine EK.condT rfl ?_ | refine ER.load1 rfl rfl rfl (by assumption) ?_))
        refine ER.slice1 (sz := 1) (z := .int .i64 0) (cells := #[.int .i64 z]) rfl rfl rfl (by omega) (by omega) rfl rfl ?_
        refine ER.append1 (new := [.int .i64 z]) rfl rfl rfl rfl (sl3.upd (Upd.push (T := fun _ => False) h3 (.cells #[.int .i64 z] 3)) (fun _ _ x => x)) (get_push_new _ _) rfl (by simp [OneCell]) (by omega) (by omega) (by rfl) (fun _ _ _ x => x) ?_
        intro s' h4 sl4 u4 hb4
        have hsz := u3.size
        have QN := Q3.n1
        replace Q := (Q3.up (Upd.push (T := fun _ => False) h3 (.cells #[.int .i64 z] 3)) (fun _ z => z.elim)).up u4 (fun b hb => by have := fr3 b hb; omega)
        have u34 : Upd (fun b => b = y3 \/ hL.size <= b) hL h4 := (u3.trans (Upd.push _ (.cells #[.int .i64 z] 3))).trans (u4.mono fun b _ hb => .inr (fr3 b hb))
        have fr4 : ∀ b, blk s' = some b -> hL.size <= b := fun b hb => by
          rcases hb4 b hb with x | x
          · exact fr3 b x
          · rw [x, Array.size_push]; omega
        obtain ⟨sa, sk, es⟩ := sl4.val
        rw [es] at sl4 fr4
        rw [es]
        (repeat refine ER.fieldAddr rfl rfl rfl ?_)
        refine ER.store1 rfl rfl rfl (by first | exact ⟨nofun, nofun⟩ | simp [OneCell]) ⟨_, Q.cq (i := 10) (by omega)⟩ (hfroz_of Q.gq) (fun x => x) ?_
        refine ER.gen (fun h' => BQ h y1 y2 y3 f0 (ut _ 10 (.slice sa (ys.length + 1) sk)) h' /\ Upd (fun b => b = y3) _ h') ⟨Q.set (i := 10) (by omega) (.slice sa (ys.length + 1) sk), Upd.hset _ _ _ rfl⟩ ?_
        clear Q
        rintro hN ⟨Q, uN⟩
        rw [ut_ut] at Q
        have u5 := u34.trans (uN.mono fun b _ e => .inl e)
        have sl5 := sl4.upd uN fun b hb e => by have e' : b = y3 := e; have := fr4 b hb; omega
        (repeat (first | refine EK.region ?_ | refine ER.done ?_ | refine EK.inBlock ?_ | refine ER.move rfl rfl rfl ?_ | refine ER.assign rfl rfl rfl ?_ | refine ER.add (kd := .i64) rfl rfl rfl rfl (i64_in (by omega) (by omega)) ?_))
        exact EK.back (again (i + 1, .slice sa (ys.length + 1) sk, ys ++ [z]) _ _ (by dsimp only; omega) ⟨rfl, Q, u5, by dsimp only; rw [List.length_append, List.map_append]; exact sl5, fr4, by dsimp only; rw [List.length_append, hy]; rfl, by dsimp only; omega⟩) ⟨rfl, rfl, rfl, rfl, trivial⟩
      · have Q := Q3
        (repeat (first | refine EK.seq ?_ | refine EK.region ?_ | refine ER.done ?_ | refine EK.skip ?_ | refine EK.block ?_ | refine ER.move rfl rfl rfl ?_ | refine ER.assign rfl rfl rfl ?_ | refine ER.fieldAddr rfl rfl rfl ?_ | refine ER.cmpT rfl rfl rfl rfl rfl (by first | (dsimp only [cmpP]; omega) | exact rfl | exact Int.le_refl _) ?_ | refine ER.cmpF rfl rfl rfl rfl rfl (by first | (dsimp only [cmpP]; omega) | exact rfl | exact Int.le_refl _) ?_ | refine ER.len1 rfl rfl rfl ?_ | refine EK.condT rfl ?_ | refine EK.condF rfl ?_ | refine ER.load1 rfl rfl rfl (by assumption) ?_))
        refine ER.slice1 (sz := 1) (z := .int .i64 0) (cells := #[.int .i64 (-1)]) rfl rfl rfl (by omega) (by omega) rfl rfl ?_
        refine ER.append1 (new := [.int .i64 (-1)]) rfl rfl rfl rfl (sl3.upd (Upd.push (T := fun _ => False) h3 (.cells #[.int .i64 (-1)] 3)) (fun _ _ x => x)) (get_push_new _ _) rfl (by simp [OneCell]) (by omega) (by omega) (by rfl) (fun _ _ _ x => x) ?_
        intro s' h4 sl4 u4 hb4
        have hsz := u3.size
        have QN := Q3.n1
        replace Q := (Q3.up (Upd.push (T := fun _ => False) h3 (.cells #[.int .i64 (-1)] 3)) (fun _ z => z.elim)).up u4 (fun b hb => by have := fr3 b hb; omega)
        have u34 : Upd (fun b => b = y3 \/ hL.size <= b) hL h4 := (u3.trans (Upd.push _ (.cells #[.int .i64 (-1)] 3))).trans (u4.mono fun b _ hb => .inr (fr3 b hb))
        have fr4 : ∀ b, blk s' = some b -> hL.size <= b := fun b hb => by
          rcases hb4 b hb with x | x
          · exact fr3 b x
          · rw [x, Array.size_push]; omega
        obtain ⟨sa, sk, es⟩ := sl4.val
        rw [es] at sl4 fr4
        rw [es]
        (repeat refine ER.fieldAddr rfl rfl rfl ?_)
        refine ER.store1 rfl rfl rfl (by first | exact ⟨nofun, nofun⟩ | simp [OneCell]) ⟨_, Q.cq (i := 10) (by omega)⟩ (hfroz_of Q.gq) (fun x => x) ?_
        refine ER.gen (fun h' => BQ h y1 y2 y3 f0 (ut _ 10 (.slice sa (ys.length + 1) sk)) h' /\ Upd (fun b => b = y3) _ h') ⟨Q.set (i := 10) (by omega) (.slice sa (ys.length + 1) sk), Upd.hset _ _ _ rfl⟩ ?_
        clear Q
        rintro hN ⟨Q, uN⟩
        rw [ut_ut] at Q
        have u5 := u34.trans (uN.mono fun b _ e => .inl e)
        have sl5 := sl4.upd uN fun b hb e => by have e' : b = y3 := e; have := fr4 b hb; omega
        (repeat (first | refine EK.region ?_ | refine ER.done ?_ | refine EK.inBlock ?_ | refine ER.move rfl rfl rfl ?_ | refine ER.assign rfl rfl rfl ?_ | refine ER.add (kd := .i64) rfl rfl rfl rfl (i64_in (by omega) (by omega)) ?_))
        exact EK.back (again (i + 1, .slice sa (ys.length + 1) sk, ys ++ [(-1)]) _ _ (by dsimp only; omega) ⟨rfl, Q, u5, by dsimp only; rw [List.length_append, List.map_append]; exact sl5, fr4, by dsimp only; rw [List.length_append, hy]; rfl, by dsimp only; omega⟩) ⟨rfl, rfl, rfl, rfl, trivial⟩
    · (repeat (first | refine EK.seq ?_ | refine EK.region ?_ | refine ER.done ?_ | refine ER.move rfl rfl rfl ?_ | refine ER.fieldAddr rfl rfl rfl ?_ | refine ER.cmpF rfl rfl rfl rfl rfl (by first | (dsimp only [cmpP]; omega) | exact rfl | exact Int.le_refl _) ?_ | refine ER.len1 rfl rfl rfl ?_ | refine EK.condF rfl ?_ | refine EK.exit rfl ?_ | refine ER.load1 rfl rfl rfl (by assumption) ?_))
      exact EK.back (key R _ _ ⟨rfl, Q3, B.upd u3 fun b hb hl e => by omega⟩) ⟨rfl, rfl, rfl, trivial⟩
  clear Q B hx hxl er ra rk xs
  rintro R h3 δ3 ⟨hδ, Q, B⟩
  obtain rfl : δ = δ3 := hδ.symm
  (repeat (first | refine EK.seq ?_ | refine EK.region ?_ | refine ER.fieldAddr rfl rfl rfl ?_))
  refine ER.store1 rfl rfl rfl (by first | exact ⟨nofun, nofun⟩ | simp [OneCell]) ⟨_, Q.cq (i := 5) (by omega)⟩ (hfroz_of Q.gq) (fun x => x) ?_
  refine ER.gen (fun h' => BQ h y1 y2 y3 f0 (ut _ 5 (.int .i64 0)) h' /\ Upd (fun b => b = y3) _ h') ⟨Q.set (i := 5) (by omega) (.int .i64 0), Upd.hset _ _ _ rfl⟩ ?_
  clear Q
  rintro hN ⟨Q, uN⟩
  replace B := B.upd uN fun b hb _ e => by have e' : b = y3 := e; omega
  clear uN
  (repeat (first | refine EK.seq ?_ | refine EK.region ?_ | refine ER.done ?_ | refine ER.fieldAddr rfl rfl rfl ?_))
  refine ER.store1 rfl rfl rfl (by first | exact ⟨nofun, nofun⟩ | simp [OneCell]) ⟨_, Q.cq (i := 7) (by omega)⟩ (hfroz_of Q.gq) (fun x => x) ?_
  refine ER.gen (fun h' => BQ h y1 y2 y3 f0 (ut _ 7 nilS) h' /\ Upd (fun b => b = y3) _ h') ⟨Q.set (i := 7) (by omega) nilS, Upd.hset _ _ _ rfl⟩ ?_
  clear Q
  rintro hN ⟨Q, uN⟩
  replace B := B.upd uN fun b hb _ e => by have e' : b = y3 := e; omega
  clear uN
  (repeat refine ER.fieldAddr rfl rfl rfl ?_)
  refine ER.store1 rfl rfl rfl (by first | exact ⟨nofun, nofun⟩ | simp [OneCell]) ⟨_, Q.cq (i := 11) (by omega)⟩ (hfroz_of Q.gq) (fun x => x) ?_
  refine ER.gen (fun h' => BQ h y1 y2 y3 f0 (ut _ 11 nilS) h' /\ Upd (fun b => b = y3) _ h') ⟨Q.set (i := 11) (by omega) nilS, Upd.hset _ _ _ rfl⟩ ?_
  clear Q
  rintro hN ⟨Q, uN⟩
  replace B := B.upd uN fun b hb _ e => by have e' : b = y3 := e; omega
  clear uN
  (repeat refine ER.fieldAddr rfl rfl rfl ?_)
  refine ER.store1 rfl rfl rfl (by first | exact ⟨nofun, nofun⟩ | simp [OneCell]) ⟨_, Q.cq (i := 8) (by omega)⟩ (hfroz_of Q.gq) (fun x => x) ?_
  refine ER.gen (fun h' => BQ h y1 y2 y3 f0 (ut _ 8 nilS) h' /\ Upd (fun b => b = y3) _ h') ⟨Q.set (i := 8) (by omega) nilS, Upd.hset _ _ _ rfl⟩ ?_
  clear Q
  rintro hN ⟨Q, uN⟩
  replace B := B.upd uN fun b hb _ e => by have e' : b = y3 := e; omega
  clear uN
  (repeat refine ER.fieldAddr rfl rfl rfl ?_)
  refine ER.store1 rfl rfl rfl (by first | exact ⟨nofun, nofun⟩ | simp [OneCell]) ⟨_, Q.cq (i := 9) (by omega)⟩ (hfroz_of Q.gq) (fun x => x) ?_
  refine ER.gen (fun h' => BQ h y1 y2 y3 f0 (ut _ 9 nilS) h' /\ Upd (fun b => b = y3) _ h') ⟨Q.set (i := 9) (by omega) nilS, Upd.hset _ _ _ rfl⟩ ?_
  clear Q
  rintro hN ⟨Q, uN⟩
  replace B := B.upd uN fun b hb _ e => by have e' : b = y3 := e; omega
  clear uN
  (repeat refine ER.fieldAddr rfl rfl rfl ?_)
  refine ER.store1 rfl rfl rfl (by first | exact ⟨nofun, nofun⟩ | simp [OneCell]) ⟨_, Q.cq (i := 10) (by omega)⟩ (hfroz_of Q.gq) (fun x => x) ?_
  refine ER.gen (fun h' => BQ h y1 y2 y3 f0 (ut _ 10 nilS) h' /\ Upd (fun b => b = y3) _ h') ⟨Q.set (i := 10) (by omega) nilS, Upd.hset _ _ _ rfl⟩ ?_
  clear Q
  rintro hN ⟨Q, uN⟩
  replace B := B.upd uN fun b hb _ e => by have e' : b = y3 := e; omega
  clear uN
  (repeat refine ER.fieldAddr rfl rfl rfl ?_)
  refine ER.store1 rfl rfl rfl (by first | exact ⟨nofun, nofun⟩ | simp [OneCell]) ⟨_, Q.cq (i := 12) (by omega)⟩ (hfroz_of Q.gq) (fun x => x) ?_
  refine ER.gen (fun h' => BQ h y1 y2 y3 f0 (ut _ 12 nilS) h' /\ Upd (fun b => b = y3) _ h') ⟨Q.set (i := 12) (by omega) nilS, Upd.hset _ _ _ rfl⟩ ?_
  clear Q
  rintro hN ⟨Q, uN⟩
  replace B := B.upd uN fun b hb _ e => by have e' : b = y3 := e; omega
  clear uN
  obtain ⟨FF, Q, b0, b1, b2, b3, b4, b6, b5, b7, b8, b9, b10, b11, b12⟩ : ∃ FF, BQ h y1 y2 y3 f0 FF hN /\ FF 0 = .slice Vb ws.length Vkb /\ FF 1 = .int .i64 (1 + t0) /\ FF 2 = .int .i64 (i2 % 8192) /\ FF 3 = .slice a3 ys3.length k3 /\ FF 4 = .int .i64 (i4 % 4) /\ FF 6 = .int .i64 (i6 % 4) /\ FF 5 = .int .i64 0 /\ FF 7 = nilS /\ FF 8 = nilS /\ FF 9 = nilS /\ FF 10 = nilS /\ FF 11 = nilS /\ FF 12 = nilS := ⟨_, Q, a0, a1, a2, a3', a4, a6, rfl, rfl, rfl, rfl, rfl, rfl, rfl⟩
  have honeF : ∀ j, j < 13 -> OneCell (FF j) := fun j hj => by
    rcases (show j = 0 \/ j = 1 \/ j = 2 \/ j = 3 \/ j = 4 \/ j = 5 \/ j = 6 \/ j = 7 \/ j = 8 \/ j = 9 \/ j = 10 \/ j = 11 \/ j = 12 by omega) with rfl | rfl | rfl | rfl | rfl | rfl | rfl | rfl | rfl | rfl | rfl | rfl | rfl
    · rw [b0]; simp [OneCell]
    · rw [b1]; simp [OneCell]
    · rw [b2]; simp [OneCell]
    · rw [b3]; simp [OneCell]
    · rw [b4]; simp [OneCell]
    · rw [b5]; simp [OneCell]
    · rw [b6]; simp [OneCell]
    · rw [b7]; simp [OneCell]
    · rw [b8]; simp [OneCell]
    · rw [b9]; simp [OneCell]
    · rw [b10]; simp [OneCell]
    · rw [b11]; simp [OneCell]
    · rw [b12]; simp [OneCell]
  have QN := Q.n1
  (repeat (first | refine EK.seq ?_ | refine EK.region ?_ | refine ER.done ?_))
  refine ER.loadN (vs := playL FF) rfl rfl rfl rfl (hrow_play Q.gq) ?_
  obtain ⟨r, gr⟩ := Q.gr
  refine ER.storeN (vs := playL FF) rfl rfl rfl rfl (playL_one honeF) (rowAll (c := playL r) gr rfl (fun _ x => x)) ?_
  rw [row_set (c := playL r) (vs := playL FF) gr rfl]
  have uN : Upd (fun b => b = y2) hN (hN.setIfInBounds y2 (playF FF)) := Upd.set _ _ _ rfl
  replace B := B.upd uN fun b hb _ e => by have e' : b = y2 := e; omega
  have u0 := Q.u0.trans (uN.mono fun b _ e => by have e' : b = y2 := e; show h.size <= b; omega)
  have em1 := Int.emod_nonneg i2 (b := 8192) (by omega)
  have em2 := Int.emod_lt_of_pos i2 (b := 8192) (by omega)
  have em3 := Int.emod_nonneg i4 (b := 4) (by omega)
  have em4 := Int.emod_lt_of_pos i4 (b := 4) (by omega)
  have em5 := Int.emod_nonneg i6 (b := 4) (by omega)
  have em6 := Int.emod_lt_of_pos i6 (b := 4) (by omega)
  (repeat (first | refine ER.done ?_ | refine EK.ret ?_))
  exact EU.retCell1 (vs := playL FF) rfl rfl rfl (hrow_play (get_set_same gr)) ⟨rfl, FF, _, ws, sc, 1 + t0, i2 % 8192, i4 % 4, i6 % 4, ys3, rfl, ⟨u0.size, fun b hb _ => u0.same b hb (by show ¬ h.size <= b; omega)⟩, B.b.mono QN.2.2.1, b0, b1, b2, ⟨by rw [b3]; exact B.p, fun b hb => by rw [b3] at hb; have := B.pb b hb; omega⟩, b4, b6, ⟨b5, b7, b8, b9, b10, b11, b12⟩, ⟨hsc1, hsc⟩, ⟨by omega, by omega, by omega⟩, ⟨em1, em2⟩, ⟨em3, by omega⟩, ⟨em5, by omega⟩, hys3⟩
end
end
section
open Go Go.TJ Go.Conc Go.Proofs
structure EndM (c : CP) (kept : List (Nat × Obj)) (yv : Nat) (h : Hp) : Prop where
  w0 : hcell h ⟨c.w, 0, none⟩ = some (.slice (some ⟨yv, 0, none⟩) c.sc.length c.sc.length)
  vs : h[yv]? = some (.cells (List.replicate c.sc.length nilS).toArray 118 (0, 0))
  kept : ∀ q, q ∈ kept -> h[q.1]? = some q.2
theorem EndM.upd {c : CP} {kept : List (Nat × Obj)} {yv : Nat} {h h' : Hp} (x : EndM c kept yv h) {T : Nat -> Prop} (u : Upd T h h') (h1 : ¬ T c.w) (h2 : ¬ T yv) (h3 : ∀ q, q ∈ kept -> ¬ T q.1) : EndM c kept yv h' :=
  ⟨u.hcell x.w0 h1, u.get x.vs h2, fun q hq => u.get (x.kept q hq) (h3 q hq)⟩
section
variable {Γ : Type} {main : Bool} {h : Hp} {δ : Ix Γ} {c : CP} {kept : List (Nat × Obj)} {yv : Nat}
theorem cnumber_nil : CallW Try.prog main (NoS (Γ := Γ)) 105 #[.pointer none] h δ (Ret (Det (.int .i64 (-1)) h δ)) := by
  refine CallW.start (n := 10) rfl rfl ?_
  (repeat (first | refine EK.seq ?_ | refine EK.region ?_ | refine ER.done ?_ | refine ER.move rfl rfl rfl ?_ | refine ER.assign rfl rfl rfl ?_))
  refine ER.callD rfl rfl rfl rfl rfl live_nil ?_
  (repeat (first | refine EK.seq ?_ | refine EK.region ?_ | refine ER.done ?_ | refine ER.assign rfl rfl rfl ?_ | refine ER.notB rfl rfl rfl ?_ | refine EK.condT rfl ?_ | refine EK.ret ?_))
  exact EU.ret1 rfl rfl det
theorem chand_nil {W : Nat} : CallW Try.prog main (NoS (Γ := Γ)) 69 #[ptr W, .pointer none] h δ (Ret (Det (ptr h.size) (h.push (handO (.pointer none) nilS)) δ)) := by
  refine CallW.start (n := 35) rfl rfl ?_
  (repeat (first | refine EK.seq ?_ | refine EK.region ?_ | refine ER.done ?_ | refine ER.move rfl rfl rfl ?_ | refine ER.assign rfl rfl rfl ?_))
  refine ER.callD rfl rfl rfl rfl rfl cnumber_nil ?_
  (repeat (first | refine EK.seq ?_ | refine EK.region ?_ | refine ER.done ?_ | refine ER.move rfl rfl rfl ?_ | refine ER.assign rfl rfl rfl ?_ | refine ER.no rfl rfl ?_ | refine ER.pickT rfl rfl rfl rfl ?_ | refine ER.cmpT rfl rfl rfl rfl rfl (by first | (dsimp only [cmpP]; omega) | exact rfl | exact Int.le_refl _) ?_ | refine EK.condT rfl ?_))
  refine ER.buildS (cells := #[.pointer none, nilS, nilS]) rfl rfl (by rfl) (by rfl) ?_
  (repeat (first | refine ER.done ?_ | refine ER.assign rfl rfl rfl ?_ | refine ER.boxA rfl rfl rfl ?_ | refine EK.ret ?_))
  exact EU.ret1 rfl rfl det
set_option maxRecDepth 8000 in
set_option maxHeartbeats 8000000 in
theorem cdoes_nil (M : EndM c kept yv h) {s : Nat} (hs : s < c.sc.length) : CallW Try.prog main (NoS (Γ := Γ)) 12 #[ptr c.w, .pointer none, .int .i64 s, .int .i64 0, .nilIface, .bool false, .bool true] h δ (Ret fun _ h' δ' => Upd (fun _ => False) h h' /\ δ' = δ) := by
  refine CallW.start (n := 108) rfl rfl ?_
  (repeat (first | refine EK.seq ?_ | refine EK.region ?_ | refine ER.done ?_ | refine ER.move rfl rfl rfl ?_ | refine ER.assign rfl rfl rfl ?_))
  refine ER.callD rfl rfl rfl rfl rfl chand_nil ?_
  obtain ⟨yh, hyh⟩ : ∃ y, y = h.size := ⟨_, rfl⟩
  refine ER.gen (fun h' => Upd (fun _ => False) h h' /\ h'[yh]? = some (handO (.pointer none) nilS)) ⟨Upd.push _ _, by rw [hyh]; exact get_push_new _ _⟩ ?_
  rw [<- hyh]
  rintro h1 ⟨u01, gh⟩
  refine ER.assign rfl rfl rfl ?_
  (repeat (first | refine ER.done ?_ | refine EK.seq ?_ | refine EK.region ?_))
  refine ER.move rfl rfl rfl ?_
  (repeat (first | refine ER.done ?_ | refine EK.seq ?_))
  refine EK.fork (fun _ : Unit => [(0, ptr c.w), (2, .int .i64 s)]) (fun _ h' δ' => δ' = δ /\ Upd (fun _ => False) h h') (fun _ key => ?_) ?_
  · (repeat refine EK.condT rfl ?_)
    refine EK.regionAnyL (fun h' => Upd (fun _ => False) h1 h') 15 ?_
    have hZ : Upd (fun _ => False) h1 h1 := Upd.refl _ _
    have ch : hcell h1 ⟨yh, 2, none⟩ = some nilS := hcell_of gh rfl
    refine EA.tMove 0 rfl (by kernel_rfl) rfl rfl rfl rfl hZ ?_
    refine EA.tMove 1 rfl (by kernel_rfl) rfl rfl rfl rfl hZ ?_
    refine EA.tNil 2 rfl (by kernel_rfl) rfl rfl rfl rfl hZ ?_
    refine EA.tField 3 rfl (by kernel_rfl) rfl rfl rfl rfl hZ ?_
    refine EA.tLoad 4 rfl (by kernel_rfl) rfl rfl rfl rfl (fun _ hz => hz.hcell ch (fun x => x)) hZ ?_
    refine EA.tMove 5 rfl (by kernel_rfl) rfl rfl rfl rfl hZ ?_
    refine EA.tMove 6 rfl (by kernel_rfl) rfl rfl rfl rfl hZ ?_
    refine EA.tMove 8 rfl (by kernel_rfl) rfl rfl rfl rfl hZ ?_
    refine EA.alt2 7 9 (by kernel_rfl) ?_ ?_
    · have z2 : Upd (fun _ => False) h1 (h1.push (vsO [0])) := Upd.push _ _
      refine EAi.val (i := 7) (v := .slice (some ⟨h1.size, 0, none⟩) 1 1) (h' := h1.push (vsO [0])) rfl rfl rfl rfl (fun ρ Q X hρ hq => sem_slice1 (sz := 1) (z := .int .i64 0) hρ rfl (by omega) (by omega) rfl rfl hq) z2 ?_
      refine EA.callR 9 rfl (by kernel_rfl) rfl rfl rfl rfl rfl rfl (coerr_nil fun o x => x) ?_
      rintro _ h3 δ3 ⟨rfl, u3, hδ⟩
      obtain rfl : δ = δ3 := hδ.symm
      have u13 := z2.trans u3
      refine ⟨u13, ?_⟩
      have hZ : Upd (fun _ => False) h1 h3 := u13
      refine EA.val (v := .agg (tolS s (-1) (.slice (some ⟨h1.size, 0, none⟩) 1 1) 0).toArray) (h' := h3) 10 rfl (by kernel_rfl) rfl rfl rfl (fun ρ Q X hρ hq => sem_buildS (parts := [(0, .int .i64 s), (1, .int .i64 (-1)), (2, .slice (some ⟨h1.size, 0, none⟩) 1 1), (3, .agg (errC 0).toArray)]) hρ rfl (by rfl) hq) hZ ?_
      have hZ : Upd (fun _ => False) h1 (h3.push (tolO (tolS s (-1) (.slice (some ⟨h1.size, 0, none⟩) 1 1) 0))) := u13.trans (Upd.push _ _)
      refine EA.val (v := .slice (some ⟨h3.size, 0, none⟩) 1 1) (h' := h3.push (tolO (tolS s (-1) (.slice (some ⟨h1.size, 0, none⟩) 1 1) 0))) 11 rfl (by kernel_rfl) rfl rfl rfl (fun ρ Q X hρ hq => sem_slice1 (sz := 6) (parts := [(0, .agg (tolS s (-1) (.slice (some ⟨h1.size, 0, none⟩) 1 1) 0).toArray)]) hρ rfl (by omega) (by omega) rfl rfl hq) hZ ?_
      refine EA.append1 (new := tolS s (-1) (.slice (some ⟨h1.size, 0, none⟩) 1 1) 0) 12 rfl (by kernel_rfl) rfl rfl rfl rfl rfl (SliceO.nil (e := 129) (sz := 6)) (get_push_new _ _) tolS_len tolS_one (by omega) (by omega) rfl (fun _ _ _ x => x) ?_
      intro s' h5 sl5 u5 hb5
      have u15 : Upd (fun _ => False) h1 h5 := hZ.trans (u5.mono fun b _ e => by cases e)
      refine ⟨u15, ?_⟩
      have hZ := u15
      refine EA.val (v := ptr yh) (h' := h5) 13 rfl (by kernel_rfl) rfl rfl rfl (fun ρ Q X hρ hq => sem_nilCheck (hρ _ _ rfl) hq) hZ ?_
      refine EA.val (v := .pointer (some ⟨yh, 2, none⟩)) (h' := h5) 14 rfl (by kernel_rfl) rfl rfl rfl (fun ρ Q X hρ hq => sem_fieldAddr (hρ _ _ rfl) hq) hZ ?_
      obtain ⟨av, cv, es⟩ := sl5.val
      have g5 := u15.get gh (fun x => x)
      refine EA.unitL (h' := hset h5 ⟨yh, 2, none⟩ s') 15 rfl (by kernel_rfl) rfl rfl rfl (fun ρ Q X hρ hq => sem_store1 (hρ _ _ rfl) (hρ _ _ rfl) (by rw [es]; simp [OneCell]) ⟨_, hcell_of g5 rfl⟩ (hfroz_of g5) (fun x => x) hq) ?_
      refine EA.done (by kernel_rfl) ?_
      have u6 : Upd (fun b => b = yh) h1 (hset h5 ⟨yh, 2, none⟩ s') := (u15.mono fun _ _ x => x.elim).trans (Upd.hset _ _ _ rfl)
      have u06 := u01.over u6 fun b e => by have e' : b = yh := e; omega
      exact EK.back (key () _ _ ⟨rfl, u06⟩) ⟨rfl, rfl, trivial⟩
    · refine eaiCallR (i := 9) rfl rfl rfl rfl rfl rfl rfl (coerr_nil fun o x => x) ?_
      rintro _ h2 δ3 ⟨rfl, u2, hδ⟩
      obtain rfl : δ = δ3 := hδ.symm
      refine ⟨u2, ?_⟩
      obtain ⟨h3, hh3⟩ : ∃ h3, h3 = h2.push (vsO [0]) := ⟨_, rfl⟩
      have u13 : Upd (fun _ => False) h1 h3 := by rw [hh3]; exact u2.trans (Upd.push _ _)
      refine EA.val (v := .slice (some ⟨h2.size, 0, none⟩) 1 1) (h' := h3) 7 rfl (by kernel_rfl) rfl rfl rfl (fun ρ Q X hρ hq => sem_slice1 (sz := 1) (z := .int .i64 0) hρ rfl (by omega) (by omega) rfl rfl (hh3 ▸ hq)) u13 ?_
      have hZ : Upd (fun _ => False) h1 h3 := u13
      refine EA.val (v := .agg (tolS s (-1) (.slice (some ⟨h2.size, 0, none⟩) 1 1) 0).toArray) (h' := h3) 10 rfl (by kernel_rfl) rfl rfl rfl (fun ρ Q X hρ hq => sem_buildS (parts := [(0, .int .i64 s), (1, .int .i64 (-1)), (2, .slice (some ⟨h2.size, 0, none⟩) 1 1), (3, .agg (errC 0).toArray)]) hρ rfl (by rfl) hq) hZ ?_
      have hZ : Upd (fun _ => False) h1 (h3.push (tolO (tolS s (-1) (.slice (some ⟨h2.size, 0, none⟩) 1 1) 0))) := u13.trans (Upd.push _ _)
      refine EA.val (v := .slice (some ⟨h3.size, 0, none⟩) 1 1) (h' := h3.push (tolO (tolS s (-1) (.slice (some ⟨h2.size, 0, none⟩) 1 1) 0))) 11 rfl (by kernel_rfl) rfl rfl rfl (fun ρ Q X hρ hq => sem_slice1 (sz := 6) (parts := [(0, .agg (tolS s (-1) (.slice (some ⟨h2.size, 0, none⟩) 1 1) 0).toArray)]) hρ rfl (by omega) (by omega) rfl rfl hq) hZ ?_
      refine EA.append1 (new := tolS s (-1) (.slice (some ⟨h2.size, 0, none⟩) 1 1) 0) 12 rfl (by kernel_rfl) rfl rfl rfl rfl rfl (SliceO.nil (e := 129) (sz := 6)) (get_push_new _ _) tolS_len tolS_one (by omega) (by omega) rfl (fun _ _ _ x => x) ?_
      intro s' h5 sl5 u5 hb5
      have u15 : Upd (fun _ => False) h1 h5 := hZ.trans (u5.mono fun b _ e => by cases e)
      refine ⟨u15, ?_⟩
      have hZ := u15
      refine EA.val (v := ptr yh) (h' := h5) 13 rfl (by kernel_rfl) rfl rfl rfl (fun ρ Q X hρ hq => sem_nilCheck (hρ _ _ rfl) hq) hZ ?_
      refine EA.val (v := .pointer (some ⟨yh, 2, none⟩)) (h' := h5) 14 rfl (by kernel_rfl) rfl rfl rfl (fun ρ Q X hρ hq => sem_fieldAddr (hρ _ _ rfl) hq) hZ ?_
      obtain ⟨av, cv, es⟩ := sl5.val
      have g5 := u15.get gh (fun x => x)
      refine EA.unitL (h' := hset h5 ⟨yh, 2, none⟩ s') 15 rfl (by kernel_rfl) rfl rfl rfl (fun ρ Q X hρ hq => sem_store1 (hρ _ _ rfl) (hρ _ _ rfl) (by rw [es]; simp [OneCell]) ⟨_, hcell_of g5 rfl⟩ (hfroz_of g5) (fun x => x) hq) ?_
      refine EA.done (by kernel_rfl) ?_
      have u6 : Upd (fun b => b = yh) h1 (hset h5 ⟨yh, 2, none⟩ s') := (u15.mono fun _ _ x => x.elim).trans (Upd.hset _ _ _ rfl)
      have u06 := u01.over u6 fun b e => by have e' : b = yh := e; omega
      exact EK.back (key () _ _ ⟨rfl, u06⟩) ⟨rfl, rfl, trivial⟩
  · rintro - h3 δ3 ⟨hδ, u3⟩
    obtain rfl : δ = δ3 := hδ.symm
    have c0 := u3.hcell M.w0 (fun x => x)
    have c1 : hcell h3 ⟨yv, 0 + s * 1, none⟩ = some nilS := hcell_of (u3.get M.vs (fun x => x)) (by simp [hs])
    (repeat (first | refine EK.seq ?_ | refine EK.region ?_ | refine ER.done ?_ | refine EK.block ?_ | refine ER.assign rfl rfl rfl ?_))
    refine EK.loop ?_
    (repeat (first | refine EK.seq ?_ | refine EK.region ?_ | refine ER.done ?_ | refine ER.move rfl rfl rfl ?_ | refine ER.assign rfl rfl rfl ?_ | refine ER.nilCheck rfl rfl rfl ?_ | refine ER.fieldAddr rfl rfl rfl ?_ | refine ER.cmpF rfl rfl rfl rfl rfl (by first | (dsimp only [cmpP]; omega) | exact rfl | exact Int.le_refl _) ?_ | refine ER.len1 rfl rfl rfl ?_ | refine ER.indexSl rfl rfl rfl rfl (by omega) (by omega) ?_ | refine EK.condF rfl ?_ | refine EK.ret ?_ | refine EK.exit rfl ?_ | refine ER.load1 rfl rfl rfl (by assumption) ?_))
    exact EU.ret2 rfl rfl rfl ⟨u3, rfl⟩
theorem cring_nil (M : EndM c kept yv h) {f : Value} (hf : FnOk c kept f) : ∃ g cap, f = .func (.func g) #[] cap /\ HasBody Try.prog g /\ CallW Try.prog main (NoS (Γ := Γ)) g (#[.pointer none] ++ cap) h δ (Ret fun _ h' δ' => Upd (fun _ => False) h h' /\ δ' = δ) := by
  obtain ⟨b1, b2, s, rfl, h1, h2, hs⟩ := hf
  refine ⟨_, _, rfl, inferInstance, ?_⟩
  have c1 : hcell h ⟨b1, 0, none⟩ = some (ptr c.w) := hcell_of (M.kept _ h1) rfl
  have c2 : hcell h ⟨b2, 0, none⟩ = some (.int .i64 s) := hcell_of (M.kept _ h2) rfl
  show CallW Try.prog main NoS 154 #[.pointer none, ptr b1, ptr b2] h δ _
  refine CallW.start (n := 8) rfl rfl ?_
  (repeat (first | refine EK.region ?_ | refine ER.move rfl rfl rfl ?_ | refine ER.load1 rfl rfl rfl (by assumption) ?_))
  refine ER.callR rfl rfl rfl rfl rfl (cdoes_nil M hs) ?_
  rintro _ h3 δ3 ⟨u3, hδ⟩
  obtain rfl : δ = δ3 := hδ.symm
  (repeat refine ER.done ?_)
  exact EK.done (EU.ret0 rfl ⟨u3, rfl⟩)
end
theorem lk_some {vals : Nat -> Int} {m : Int} : ∀ {n q : Nat}, q < n -> (vals (2 + 2 * q)).tmod 4 = 2 -> vals (3 + 2 * q) <= m -> lk vals m n ≠ none
  | 0, q, h, _, _ => by omega
  | n + 1, q, h, h1, h2 => by
    intro hn
    unfold lk at hn
    split at hn
    · cases hn
    · rename_i hc
      by_cases e : q = n
      · subst e
        exact hc ⟨h1, h2, fun b hb => by rw [hn] at hb; cases hb⟩
      · exact lk_some (by omega) h1 h2 hn
def kc (s : Nat -> Int) : Int := cSum (fun j => kind2 (s (2 + 2 * j))) 16
theorem kind2_le (x : Int) : 0 <= kind2 x /\ kind2 x <= 1 := by unfold kind2; split <;> omega
theorem kc_le (s : Nat -> Int) : 0 <= kc s /\ kc s <= 16 := by
  have := cSum_le (f := fun j => kind2 (s (2 + 2 * j))) (b := 1) (n := 16) fun j _ => kind2_le _
  unfold kc; omega
theorem cSum_all0 {f : Nat -> Int} : ∀ {n : Nat}, (∀ i, i < n -> f i = 0) -> cSum f n = 0
  | 0, _ => rfl
  | n + 1, h => by
    show cSum f n + f n = 0
    rw [cSum_all0 (n := n) fun i hi => h i (by omega), h n (by omega)]; rfl
theorem tmod4 {x : Int} (h : 0 <= x) : x.tmod 4 = x % 4 := Int.tmod_eq_emod_of_nonneg h
structure CkV (c : CP) (kept : List (Nat × Obj)) (s : Nat -> Int) (fns : Nat -> Value) (top : Int) : Prop where
  st : ∀ j, j < 16 -> 0 <= s (2 + 2 * j) /\ s (2 + 2 * j) <= top /\ (s (2 + 2 * j) % 4 = 0 \/ s (2 + 2 * j) % 4 = 2)
  du : ∀ j, j < 16 -> s (3 + 2 * j) <= 4611686018427387904
  fn : ∀ j, j < 16 -> s (2 + 2 * j) % 4 ≠ 0 -> FnOk c kept (fns j)
section
variable {Γ : Type} {main : Bool} {h : Hp} {δ : Ix Γ} {c : CP} {kept : List (Nat × Obj)} {yv C : Nat} {B : Nat -> Nat} {s fr : Nat -> Int} {fns : Nat -> Value} {top : Int}
theorem CkV.ring (V : CkV c kept s fns top) {i : Nat} (hi : i < 16) (h2 : s (2 + 2 * i) % 4 = 2) : CkV c kept (up s (2 + 2 * i) (s (2 + 2 * i) + 2)) fns (top + 2) /\ kc (up s (2 + 2 * i) (s (2 + 2 * i) + 2)) = kc s - 1 := by
  have e : ∀ j, j ≠ i -> up s (2 + 2 * i) (s (2 + 2 * i) + 2) (2 + 2 * j) = s (2 + 2 * j) := fun j hj => up_ne _ _ (by omega)
  refine ⟨⟨fun j hj => ?_, fun j hj => ?_, fun j hj hm => ?_⟩, ?_⟩
  · have := V.st j hj
    by_cases ej : j = i
    · subst ej; rw [up_same]; omega
    · rw [e j ej]; omega
  · rw [up_ne _ _ (by omega)]; exact V.du j hj
  · by_cases ej : j = i
    · subst ej; rw [up_same] at hm; omega
    · rw [e j ej] at hm; exact V.fn j hj hm
  · unfold kc
    rw [cSum_set (i := i) (f := fun j => kind2 (s (2 + 2 * j))) hi fun j _ hj => by rw [e j hj]]
    rw [up_same]
    unfold kind2
    rw [if_pos h2, if_neg (by omega)]
    omega
structure AdvI (c : CP) (kept : List (Nat × Obj)) (C : Nat) (B : Nat -> Nat) (fns : Nat -> Value) (hb : Hp) (K top : Int) (s : Nat -> Int) (r : Nat) (h : Hp) : Prop where
  clk : Clk h C B s fns
  v : CkV c kept s fns (top + 2 * r)
  k : kc s + r = K
  now : s 0 = 4611686018427387904 /\ s 1 = 1
  u : Upd (fun b => Own C B b) hb h
set_option maxRecDepth 8000 in
set_option maxHeartbeats 4000000 in
theorem cadv_acc (M : EndM c kept yv h) (hown : ∀ b, Own C B b -> b < h.size) (hw : ¬ Own C B c.w) (hy : ¬ Own C B yv) (hk : ∀ q, q ∈ kept -> ¬ Own C B q.1) {K : Int} (ht : 0 <= top /\ top <= 1000000000) :
    Acc main δ C B h.size 4611686018427387904 (fun s : Nat -> Int => s) (fun _ => fns) (AdvI c kept C B fns h K top) := by
  refine ⟨fun s r h' I => ⟨I.clk, I.u.size⟩, fun s r h1 h2 I u => ⟨I.clk.upd u (fun _ x => x.elim), I.v, I.k, I.now, I.u.trans (u.mono fun _ _ x => x.elim)⟩, hown, fun s r h₀ h1 i I u hr hl => ?_⟩
  obtain ⟨hi, hm, -⟩ := lk_lt hl
  have I1 : AdvI c kept C B fns h K top s r h1 := ⟨I.clk.upd u (fun _ x => x.elim), I.v, I.k, I.now, I.u.trans (u.mono fun _ _ x => x.elim)⟩
  have hv := I.v.st i hi
  have hm2 : s (2 + 2 * i) % 4 = 2 := by rw [<- tmod4 hv.1]; exact hm
  have hf := I.v.fn i hi (by omega)
  have u2 : Upd (fun b => Own C B b) h1 (h1.setIfInBounds (B (2 + 2 * i)) (cellO (s (2 + 2 * i) + 1))) := Upd.set _ _ _ (.inr ⟨_, by omega, rfl⟩)
  have M2 := M.upd (I1.u.trans u2) hw hy hk
  obtain ⟨g, cap, e, hb, hc⟩ := cring_nil (main := main) (δ := δ) M2 hf
  refine ⟨hv.1, by have := hv.2.1; omega, g, cap, e, hb, hc.mono ?_⟩
  rintro (v | p) h3 δ3 hq
  rotate_left
  · exact hq.elim
  obtain ⟨u3, rfl⟩ := hq
  have k2 := I1.clk.set (j := 2 + 2 * i) (by omega) (s (2 + 2 * i) + 1)
  have k3 := k2.upd u3 (fun _ x => x.elim)
  have hlow : ∀ b, Own C B b -> b < h₀.size := fun b hb => Nat.lt_of_lt_of_le (hown b hb) I.u.size
  obtain ⟨V', hK'⟩ := I.v.ring hi hm2
  have k4 := k3.set (j := 2 + 2 * i) (by omega) (s (2 + 2 * i) + 2)
  refine ⟨rfl, (u2.trans (u3.mono fun _ _ x => x.elim)).mono fun b _ hb => hlow b hb, ⟨_, _, k3⟩, up s (2 + 2 * i) (s (2 + 2 * i) + 2), k4.congr (fun j _ => ?_) (fun _ _ => rfl), ?_, ?_, ⟨?_, ?_⟩, ((I1.u.trans u2).trans (u3.mono fun _ _ x => x.elim)).trans (Upd.set _ _ _ (.inr ⟨_, by omega, rfl⟩))⟩
  · by_cases ej : j = 2 + 2 * i
    · subst ej; rw [up_same, up_same]
    · rw [up_ne _ _ ej, up_ne _ _ ej, up_ne _ _ ej]
  · have : top + 2 * (r : Int) + 2 = top + 2 * ((r + 1 : Nat) : Int) := by omega
    rw [<- this]; exact V'
  · rw [hK']; have := I.k; omega
  · rw [up_ne _ _ (by omega)]; exact I.now.1
  · rw [up_ne _ _ (by omega)]; exact I.now.2
theorem cadv_end (M : EndM c kept yv h) (k : Clk h C B s fns) (hown : ∀ b, Own C B b -> b < h.size) (hw : ¬ Own C B c.w) (hy : ¬ Own C B yv) (hk : ∀ q, q ∈ kept -> ¬ Own C B q.1) (ht : 0 <= top /\ top <= 1000000000) (V : CkV c kept s fns top) (h0 : 0 <= s 0 /\ s 0 <= 4611686018427387904) (h1 : s 1 = 0) :
    CallW Try.prog main (NoS (Γ := Γ)) 16 #[ptr C, .pointer none, .int .i64 4611686018427387904] h δ (Ret fun v h' δ' => δ' = δ /\ v = .tuple #[.int .i64 (kc s), .int .i64 0] /\ Upd (fun b => Own C B b) h h' /\ ∃ s', Clk h' C B s' fns /\ CkV c kept s' fns (top + 128) /\ s' 0 = 4611686018427387904 /\ s' 1 = 0 /\ kc s' = 0) := by
  have k1 := (k.set (j := 1) (by omega) 1).set (j := 0) (by omega) 4611686018427387904
  have e1 : ∀ j, up (up s 1 1) 0 4611686018427387904 (2 + 2 * j) = s (2 + 2 * j) := fun j => by rw [up_ne _ _ (by omega), up_ne _ _ (by omega)]
  have e2 : ∀ j, up (up s 1 1) 0 4611686018427387904 (3 + 2 * j) = s (3 + 2 * j) := fun j => by rw [up_ne _ _ (by omega), up_ne _ _ (by omega)]
  have hkc := kc_le s
  have I0 : AdvI c kept C B fns h (kc s) top (up (up s 1 1) 0 4611686018427387904) 0 ((h.setIfInBounds (B 1) (cellO 1)).setIfInBounds (B 0) (cellO 4611686018427387904)) := by
    refine ⟨k1, ⟨fun j hj => ?_, fun j hj => ?_, fun j hj hm => ?_⟩, ?_, ⟨up_same _ _ _, by rw [up_ne _ _ (by omega), up_same]⟩, (Upd.set _ _ _ (.inr ⟨_, by omega, rfl⟩)).trans (Upd.set _ _ _ (.inr ⟨_, by omega, rfl⟩))⟩
    · rw [e1]; have := V.st j hj; omega
    · rw [e2]; exact V.du j hj
    · rw [e1] at hm; exact V.fn j hj hm
    · unfold kc
      simp only [e1]
      omega
  refine (adv_ok k h1 (by omega) h0.1 h0.2 (by split <;> omega) (cadv_acc (K := kc s) M hown hw hy hk ht) I0).mono ?_
  rintro (v | p) h' δ' hq
  rotate_left
  · exact hq.elim
  obtain ⟨rfl, s', r, h2, hr, I, hlk, rfl, rfl⟩ := hq
  have hkc' := kc_le s'
  have hIk := I.k
  have hnone : lk s' 4611686018427387904 16 = none := by
    rcases hlk with z | z
    · exact z
    · omega
  have hall : ∀ j, j < 16 -> s' (2 + 2 * j) % 4 ≠ 2 := fun j hj hm => lk_some (n := 16) hj (by rw [tmod4 (I.v.st j hj).1]; exact hm) (I.v.du j hj) hnone
  have hz : kc s' = 0 := cSum_all0 fun j hj => if_neg (hall j hj)
  have e3 : ∀ j, up s' 1 0 (2 + 2 * j) = s' (2 + 2 * j) := fun j => up_ne _ _ (by omega)
  refine ⟨rfl, by rw [show kc s = r by omega], I.u.trans (Upd.set _ _ _ (.inr ⟨_, by omega, rfl⟩)), up s' 1 0, I.clk.set (by omega) 0, ⟨fun j hj => ?_, fun j hj => ?_, fun j hj hm => ?_⟩, by rw [up_ne _ _ (by omega)]; exact I.now.1, up_same _ _ _, ?_⟩
  · rw [e3]; have := I.v.st j hj; omega
  · rw [up_ne _ _ (by omega)]; exact I.v.du j hj
  · rw [e3] at hm; exact I.v.fn j hj hm
  · exact (cSum_congr fun j _ => by rw [e3]).trans hz
end
end
section
open Go Go.TJ Go.Conc Go.Proofs
theorem cSum_split {f : Nat -> Int} {a : Nat} : ∀ {b : Nat}, cSum f (a + b) = cSum f a + cSum (fun j => f (a + j)) b
  | 0 => by show cSum f a = cSum f a + 0; omega
  | b + 1 => by
    show cSum f (a + b) + f (a + b) = cSum f a + (cSum (fun j => f (a + j)) b + f (a + b))
    rw [cSum_split (b := b)]; omega
theorem cSum_tail {f : Nat -> Int} {n m : Nat} (h : n <= m) (hz : ∀ j, n <= j -> f j = 0) : cSum f m = cSum f n := by
  obtain ⟨k, rfl⟩ : ∃ k, m = n + k := ⟨m - n, by omega⟩
  rw [cSum_split, cSum_all0 (n := k) fun j _ => hz _ (by omega)]; omega
theorem cnt_split (c : CP) (v : Nat -> Int) : c.cnt v = cSum (fun i => kc fun j => v (c.B i j)) c.nC := by
  unfold CP.cnt
  have key : ∀ n, cSum (fun m => kind2 (v (c.S m))) (16 * n) = cSum (fun i => kc fun j => v (c.B i j)) n := fun n => by
    induction n with
    | zero => rfl
    | succ n ih =>
      rw [show 16 * (n + 1) = 16 * n + 16 by omega, cSum_split, ih]
      show _ = cSum (fun i => kc fun j => v (c.B i j)) n + kc fun j => v (c.B n j)
      congr 1
      unfold kc
      exact cSum_congr fun j hj => by rw [CP.S_eq hj]
  exact key c.nC
theorem cLaw {c : CP} {n : Nat} {u : CU} {v : Nat -> Int} (I : CInv c 0 n u v) (h64 : c.nT <= 64) :
    cSum (fun i => cSum (fun t => sumE (setE c i) (u.told t)) 64) c.nC = cSum (fun i => cSum (fun t => sumE (stopE c i) (u.told t)) 64) c.nC + cSum (fun t => sumE ringE (u.told t)) 64 + cSum (fun i => kc fun j => v (c.B i j)) c.nC := by
  have h1 := I.sum
  rw [told_split, cnt_split] at h1
  have e : ∀ f : TE -> Int, cSum (fun t => sumE f (u.told t)) 64 = cSum (fun t => sumE f (u.told t)) c.nT := fun f => cSum_tail h64 fun t ht => by
    show sumE f (u.told t) = 0
    rw [I.out t ht]; rfl
  simp only [e]
  omega
theorem ScM.updT {c : CP} {h h' : Hp} {V : Value} {ws : List Value} (x : ScM c h V ws) {T : Nat -> Prop} (u : Upd T h h') (hV : ∀ b, blk V = some b -> ¬ T b) (hw : ∀ (s : Nat) (v : Value), ws[s]? = some v -> ∀ b, blk v = some b -> ¬ T b) : ScM c h' V ws :=
  ⟨x.V.upd u fun _ => hV, fun s l hl => by
    obtain ⟨v, h1, h2⟩ := x.sc s l hl
    exact ⟨v, h1, h2.upd u fun b hb => hw s v h1 b hb⟩, x.len, x.sl⟩
theorem TolM.updT {h h' : Hp} {s : Value} {n : Nat} {tv : Nat -> Value} {told : Nat -> List TE} (x : TolM h s n tv told) {T : Nat -> Prop} (u : Upd T h h') (hs : ∀ b, blk s = some b -> ¬ T b) (ht : ∀ t, t < n -> ∀ b, blk (tv t) = some b -> ¬ T b) : TolM h' s n tv told :=
  ⟨x.s.upd u fun _ => hs, fun t h1 => (x.sl t h1).upd u fun b hb => ht t h1 b hb, x.n64, x.le⟩
theorem TolK.updT {c : CP} {h h' : Hp} {n : Nat} {told : Nat -> List TE} {kept : List (Nat × Obj)} (x : TolK c h n told kept) {T : Nat -> Prop} (u : Upd T h h') (hk : ∀ q, q ∈ kept -> ¬ T q.1) : TolK c h' n told kept :=
  ⟨x.ok, fun q hq => u.get (x.kept q hq) (hk q hq)⟩
theorem ClkP.clk {h : Hp} {c : Nat} {B : Nat -> Nat} {fns : Nat -> Value} {vals : Nat -> Int} (k : ClkP h c B fns) (hc : ∀ j, j < 34 -> h[B j]? = some (cellO (vals j))) (hi : ∀ i j, i < 34 -> j < 34 -> B i = B j -> i = j) (hn : ∀ j, j < 34 -> B j ≠ c) : Clk h c B vals fns :=
  ⟨k.obj, k.pnow, k.pbusy, k.pst, k.pdu, k.pf, hc, hi, hn⟩
theorem Clk.toP {h : Hp} {c : Nat} {B : Nat -> Nat} {fns : Nat -> Value} {vals : Nat -> Int} (k : Clk h c B vals fns) : ClkP h c B fns := ⟨k.obj, k.pnow, k.pbusy, k.pst, k.pdu, k.pf⟩
theorem CInv.ckv {c : CP} {n : Nat} {u : CU} {v : Nat -> Int} (I : CInv c 0 n u v) (hn : n <= 65536) (hold : ∀ t, t < c.nT -> u.hold t = []) {i : Nat} (hi : i < c.nC) : CkV c u.kept (fun j => v (c.B i j)) (u.fns i) 262144 /\ v (c.B i 1) = 0 := by
  refine ⟨⟨fun j hj => ?_, fun j hj => (I.due i j hi hj).2, fun j hj hm => I.fn i j hi hj hm⟩, ?_⟩
  · have h1 := I.st i j hi hj
    refine ⟨h1.1, by omega, ?_⟩
    apply Classical.byContradiction
    intro hc
    obtain ⟨t, ht, hq⟩ := I.own i j hi hj (by omega)
    rw [hold t ht] at hq
    cases hq
  · rcases I.busy i hi with z | z
    · exact z
    · obtain ⟨t, ht, hq⟩ := I.ownB i hi z
      rw [hold t ht] at hq
      cases hq
theorem oldT {d : CD} {y : Nat} {a : Array Value} {t : TypeId} (hbv : ∀ b, d.ex b -> ∃ a f, d.hN[b]? = some (.cells a 35 f)) (hcel : ∀ b, d.isC b -> ∃ x, d.hN[b]? = some (cellO x)) (hclk : ∀ i, i < d.c.nC -> ∃ cs, d.hN[d.c.C i]? = some (.cells cs 151 (0, 0)))
    (hh : ∀ t, t < 64 -> d.hN[d.hb t]? = some (handO (.pointer none) nilS)) (hy : d.hN[y]? = some (.cells a t (0, 0))) (h1 : t ≠ 174) (h2 : t ≠ 35) (h3 : t ≠ 151) (h4 : t ≠ 50) : d.old y := by
  refine ⟨⟨lt_of_get hy, fun hc => ?_, fun he => ?_⟩, fun i hi e => ?_, fun k hk e => ?_⟩
  · obtain ⟨x, hx⟩ := hcel y hc
    rw [hy] at hx
    injection hx with hx
    injection hx with _ hx _
    exact h1 hx
  · obtain ⟨a', f', hx⟩ := hbv y he
    rw [hy] at hx
    injection hx with hx
    injection hx with _ hx _
    exact h2 hx
  · obtain ⟨cs, hx⟩ := hclk i hi
    rw [<- e, hy] at hx
    injection hx with hx
    injection hx with _ hx _
    exact h3 hx
  · have hx := hh k hk
    rw [<- e, hy] at hx
    injection hx with hx
    injection hx with _ hx _
    exact h4 hx
theorem SliceO.typed {h : Hp} {s : Value} {e sz n : Nat} {cells : List Value} (x : SliceO h s e sz n cells) {b : Nat} (hb : blk s = some b) : ∃ a, h[b]? = some (.cells a e (0, 0)) := by
  obtain ⟨-, ⟨rfl, -⟩ | ⟨b', cap, rest, rfl, -, -, h3⟩⟩ := x
  · cases hb
  · obtain rfl : b' = b := Option.some.inj hb
    exact ⟨_, h3⟩
end
section
open Go Go.TJ Go.Conc Go.Proofs
abbrev cdOf (sc : List (List CCall)) (nC nK nT W : Nat) (C : Nat -> Nat) (B : Nat -> Nat -> Nat) (K : Nat -> Nat) (hN : Hp) (bv : Value) (hb : Nat -> Nat) : CD := ⟨⟨sc, nC, nK, nT, W, C, B, K⟩, hN, fun b => blk bv = some b, hb, fun _ => 0⟩
section
variable {h0 h4 hN : Hp} {f : Nat -> Value} {V Hs Ks Cs bv : Value} {ws : List Value} {sc : List (List CCall)} {W nK nC nT lo b3 : Nat} {hb K C b5 : Nat -> Nat} {B : Nat -> Nat -> Nat} {picks : List Int}
theorem cpre_of (N : NW h0 h4 (playL f) W nK nC hb K C B Hs Ks Cs) (u : Upd (fun _ => False) h4 hN) (bs : BS lo h0 V ws sc) (fV : f 0 = V) (pk : SliceO h0 (f 3) 3 1 picks.length (picks.map iV)) (hnC : nC <= 3) (hnT : nT <= sc.length /\ nT <= 6)
    (g3 : hN[b3]? = some (.cells #[ptr W] 27 (0, 0))) (g5 : ∀ i, i < nT -> hN[b5 i]? = some (.cells #[.int .i64 i] 3 (0, 0))) (bods : SliceO hN bv 35 1 nT ((cbodV b3 b5 nT).map fun q => .func (.func q.1) #[] q.2)) :
    CPre (cdOf sc nC nK nT W C B K hN bv hb) ⟨V, Hs, Ks, Cs, ws, 64⟩ b3 b5 bv (f 3) picks := by
  have u0 := N.up.trans u
  have hw : hN[W]? = some (worldO (playL f) Hs Ks Cs) := u.get N.w (fun x => x)
  have hck : ∀ i, i < nC -> Clk hN (C i) (B i) (fun _ => 0) (fun _ => .nilFunc) := fun i hi => (N.ck i hi).upd u (fun _ x => x.elim)
  have hcel : ∀ b, (cdOf sc nC nK nT W C B K hN bv hb).isC b -> hN[b]? = some (cellO 0) := fun b hc => by
    rcases hc with ⟨i, j, hi, hj, rfl⟩ | ⟨k, hk, rfl⟩
    · exact (hck i hi).cell j hj
    · exact u.get (N.kc k hk) (fun x => x)
  have hbv : ∀ b, blk bv = some b -> ∃ a g, hN[b]? = some (.cells a 35 g) := fun b hb => by
    obtain ⟨a, e⟩ := SliceO.typed bods hb
    exact ⟨a, _, e⟩
  have hclk : ∀ i, i < nC -> ∃ cs, hN[C i]? = some (.cells cs 151 (0, 0)) := fun i hi => (hck i hi).obj
  have hhd : ∀ t, t < 64 -> hN[hb t]? = some (handO (.pointer none) nilS) := fun t ht => u.get (N.hnd t ht) (fun x => x)
  have old : ∀ {y : Nat} {a : Array Value} {t : TypeId}, hN[y]? = some (.cells a t (0, 0)) -> t ≠ 174 -> t ≠ 35 -> t ≠ 151 -> t ≠ 50 -> (cdOf sc nC nK nT W C B K hN bv hb).old y := fun hy h1 h2 h3 h4 =>
    oldT (d := cdOf sc nC nK nT W C B K hN bv hb) hbv (fun b hc => ⟨0, hcel b hc⟩) hclk hhd hy h1 h2 h3 h4
  have olS : ∀ {h' : Hp} {s : Value} {e sz n : Nat} {cells : List Value}, SliceO h' s e sz n cells -> Upd (fun _ => False) h' hN -> e ≠ 174 -> e ≠ 35 -> e ≠ 151 -> e ≠ 50 -> ∀ b, blk s = some b -> (cdOf sc nC nK nT W C B K hN bv hb).old b := fun x ux h1 h2 h3 h4 b hb => by
    obtain ⟨a, e⟩ := SliceO.typed (x.upd ux (fun _ _ z => z)) hb
    exact old e h1 h2 h3 h4
  have base : ∀ {y : Nat} {a : Array Value} {t : TypeId}, hN[y]? = some (.cells a t (0, 0)) -> t ≠ 174 -> t ≠ 35 -> (cdOf sc nC nK nT W C B K hN bv hb).base y := fun {y a t} hy h1 h2 => by
    refine ⟨lt_of_get hy, fun hc => ?_, fun he => ?_⟩
    · have hx := hcel y hc
      rw [hy] at hx
      injection hx with hx
      injection hx with _ hx _
      exact h1 hx
    · obtain ⟨a', f', hx⟩ := hbv y he
      rw [hy] at hx
      injection hx with hx
      injection hx with _ hx _
      exact h2 hx
  have hl13 : (playL f).length = 13 := rfl
  have hwg := world_get (a := Hs) (b := Ks) (c := Cs) hl13
  have E : WdOk (cdOf sc nC nK nT W C B K hN bv hb) ⟨V, Hs, Ks, Cs, ws, 64⟩ := by
    refine ⟨⟨⟨N.Bi, N.KB, hnC⟩, fun i hi => ?_, fun t ht => base (hhd t ht) (by decide) (by decide), N.Ci, fun i j _ _ e => N.hbi i j e, fun i t hi ht e => ?_, by show nT <= 64; omega⟩, old hw (by decide) (by decide) (by decide) (by decide), ⟨⟨?_, ?_, ?_, ?_⟩, SliceO.rds (bs.sl.upd u0 (fun _ _ x => x)), fun s l hl => ?_, SliceO.rds (N.sH.upd u (fun _ _ x => x)), SliceO.rds (N.sK.upd u (fun _ _ x => x)), SliceO.rds (N.sC.upd u (fun _ _ x => x))⟩, olS bs.sl u0 (by decide) (by decide) (by decide) (by decide), bs.len, fun s v hv => ?_, olS N.sH u (by decide) (by decide) (by decide) (by decide), olS N.sK u (by decide) (by decide) (by decide) (by decide), olS N.sC u (by decide) (by decide) (by decide) (by decide), ⟨Nat.le_refl _, by show nT <= 64; omega⟩, bs.small, bs.sl2⟩
    · obtain ⟨cs, hcs⟩ := hclk i hi
      exact base hcs (by decide) (by decide)
    · obtain ⟨cs, hcs⟩ := hclk i hi
      have hx := hhd t ht
      have e' : C i = hb t := e
      rw [<- e', hcs] at hx
      injection hx with hx
      injection hx with _ hx _
      exact absurd hx (by decide)
    · exact hcell_of hw (by simp [playL, fV])
    · exact hcell_of hw (by simpa using hwg.1)
    · exact hcell_of hw (by simpa using hwg.2.1)
    · exact hcell_of hw (by simpa using hwg.2.2)
    · obtain ⟨v, h1, h2, -⟩ := bs.sc1 s l hl
      exact ⟨v, h1, h2.upd u0 (fun _ _ x => x)⟩
    · have hs : s < sc.length := by rw [<- bs.len]; exact (List.getElem?_eq_some_iff.1 hv).1
      obtain ⟨w, h1, h2, -⟩ := bs.sc1 s _ (List.getElem?_eq_getElem hs)
      have hv' : ws[s]? = some v := hv
      rw [hv'] at h1
      obtain rfl := Option.some.inj h1
      exact olS h2 u0 (by decide) (by decide) (by decide) (by decide)
  exact ⟨E, fun _ => Iff.rfl, fun i hi => (hck i hi).toP, hcel, hhd, ⟨SliceO.rds (pk.upd u0 (fun _ _ x => x)), olS pk u0 (by decide) (by decide) (by decide) (by decide)⟩, ⟨old g3 (by decide) (by decide) (by decide) (by decide), g3⟩, fun i hi => ⟨old (g5 i hi) (by decide) (by decide) (by decide) (by decide), g5 i hi⟩, hnT.1, bods⟩
end
end
section
open Go Go.TJ Go.Conc Go.Proofs
theorem NW.lo' {h0 h : Hp} {pl : List Value} {W nK nC : Nat} {hb K C : Nat -> Nat} {B : Nat -> Nat -> Nat} {Hs Ks Cs : Value} (N : NW h0 h pl W nK nC hb K C B Hs Ks Cs) {bv : Value} {sc : List (List CCall)} {nT : Nat} {hN : Hp} (hbv : ∀ b, blk bv = some b -> h0.size <= b) {b : Nat} (hlt : b < h0.size) (hs : h0.size <= hN.size) : (cdOf sc nC nK nT W C B K hN bv hb).old b := by
  obtain ⟨l1, l2, l3, l4, -⟩ := N.lo
  refine ⟨⟨Nat.lt_of_lt_of_le hlt hs, fun hc => ?_, fun he => ?_⟩, fun i hi e => ?_, fun t ht e => ?_⟩
  · rcases hc with ⟨i, j, hi, hj, e⟩ | ⟨k, hk, e⟩
    · have := (l4 i hi).2 j hj
      have e' : b = B i j := e
      omega
    · have := l3 k hk
      have e' : b = K k := e
      omega
  · have := hbv b he; omega
  · have := (l4 i hi).1
    have e' : b = C i := e
    omega
  · have := l2 t
    have e' : b = hb t := e
    omega
set_option maxRecDepth 8000 in
set_option maxHeartbeats 40000000 in
theorem conce_ok {h : Hp} {f0 : Nat -> Value} {V0 : Value} {ws0 : List Value} {i1 i2 i4 i5 i6 : Int} (e0 : f0 0 = V0) (e1 : f0 1 = .int .i64 i1) (e2 : f0 2 = .int .i64 i2) (e4 : f0 4 = .int .i64 i4) (e5 : f0 5 = .int .i64 i5) (e6 : f0 6 = .int .i64 i6)
    (In : InP h V0 ws0) (hp : ∀ j, j = 3 \/ 7 <= j /\ j <= 12 -> ∃ xs : List Int, RdS h (f0 j) (xs.map iV) /\ xs.length <= 1000000000000000) :
    CallW Try.prog true (SwS Try.prog) 3 #[.agg (playL f0).toArray] h ⟨0, 1⟩ (Ret fun v h' δ' => δ'.d = 0 /\ v = .bool true /\ Upd (fun _ => False) h h') := by
  have no : ∀ a, ¬ (SwS Try.prog).still 1 a := fun a x => x
  obtain ⟨bx, hbx⟩ : ∃ bx, bx = h.size := ⟨_, rfl⟩
  refine CallW.start (n := 155) rfl rfl ?_
  refine EK.seq ?_
  refine EK.region ?_
  refine ER.boxA rfl rfl rfl ?_
  refine ER.gen (fun h' => Upd (fun _ => False) h h' /\ h'[bx]? = some (playF f0) /\ bx < h'.size) ⟨Upd.push _ _, by rw [hbx]; exact get_push_new _ _, by rw [hbx, Array.size_push]; omega⟩ ?_
  rw [<- hbx]
  have hbx0 : h.size <= bx := by omega
  rintro h1 ⟨uu, gx, lx⟩
  clear hbx
  (repeat (first | refine EK.seq ?_ | refine EK.region ?_ | refine ER.done ?_ | refine ER.assign rfl rfl rfl ?_))
  refine ER.loadN (vs := playL f0) rfl rfl rfl rfl (hrow_play gx) ?_
  have up1 : Upd (fun b => h.size <= b) h h1 := uu.mono fun _ _ x => x.elim
  have hB := cbrought (Γ := Nat) (main := true) (δ := ⟨0, 1⟩) e0 e1 e2 e4 e5 e6 (In.upN up1) (fun j hj => by obtain ⟨xs, hx, hl⟩ := hp j hj; exact ⟨xs, hx.upN up1, hl⟩)
  refine ER.callR rfl rfl rfl rfl rfl (hB.noS no) ?_
  rintro _ h2 δ2 ⟨rfl, f, V, ws, sc, th, tu, nC, nK, picks, rfl, Br⟩
  have gx2 := Br.up.get gx (fun x => x)
  have hone : ∀ j, j < 13 -> OneCell (f j) := fun j hj => by
    obtain ⟨f5, f7, f8, f9, f10, f11, f12⟩ := Br.fr
    rcases (show j = 0 \/ j = 1 \/ j = 2 \/ j = 3 \/ j = 4 \/ j = 5 \/ j = 6 \/ j = 7 \/ j = 8 \/ j = 9 \/ j = 10 \/ j = 11 \/ j = 12 by omega) with rfl | rfl | rfl | rfl | rfl | rfl | rfl | rfl | rfl | rfl | rfl | rfl | rfl
    · obtain ⟨a, k, e⟩ := Br.bs.sl.val
      rw [Br.f0, e]; simp [OneCell]
    · rw [Br.f1]; simp [OneCell]
    · rw [Br.f2]; simp [OneCell]
    · obtain ⟨a, k, e⟩ := Br.f3.1.val
      rw [e]; simp [OneCell]
    · rw [Br.f4]; simp [OneCell]
    · rw [f5]; simp [OneCell]
    · rw [Br.f6]; simp [OneCell]
    · rw [f7]; simp [OneCell]
    · rw [f8]; simp [OneCell]
    · rw [f9]; simp [OneCell]
    · rw [f10]; simp [OneCell]
    · rw [f11]; simp [OneCell]
    · rw [f12]; simp [OneCell]
  refine ER.storeN (vs := playL f) rfl rfl rfl rfl (playL_one hone) (rowAll (c := playL f0) gx2 rfl (fun _ => no _)) ?_
  rw [row_set (c := playL f0) (vs := playL f) gx2 rfl]
  refine ER.gen (fun h' => Upd (fun b => b = bx) h2 h' /\ h'[bx]? = some (playF f)) ⟨Upd.set _ _ _ rfl, get_set_same gx2⟩ ?_
  clear gx hB hone
  rintro h3 ⟨u3, gx⟩
  have uu3 := (uu.trans Br.up).over u3 fun b e => by have e' : b = bx := e; omega
  have sz12 := Br.up.size
  have sz23 := u3.size
  have bs : BS bx h3 V ws sc := (Br.bs.mono (Nat.le_of_lt lx)).upd u3 fun b hb _ e => by have e' : b = bx := e; omega
  have pk : SliceO h3 (f 3) 3 1 picks.length (picks.map iV) := Br.f3.1.upd u3 fun b hb e => by have e' : b = bx := e; have := Br.f3.2 b hb; omega
  have fV := Br.f0
  have f1 := Br.f1
  have f2 := Br.f2
  have f4 := Br.f4
  obtain ⟨hth1, hth2, hth3⟩ := Br.th
  obtain ⟨htu1, htu2⟩ := Br.tu
  obtain ⟨hnC1, hnC2⟩ := Br.nC
  obtain ⟨hnK1, hnK2⟩ := Br.nK
  have hsc := Br.n
  obtain ⟨nT, rfl⟩ : ∃ n : Nat, th = n := ⟨th.toNat, by omega⟩
  obtain ⟨nC, rfl⟩ : ∃ n : Nat, nC = n := ⟨nC.toNat, by omega⟩
  obtain ⟨nK, rfl⟩ : ∃ n : Nat, nK = n := ⟨nK.toNat, by omega⟩
  have hpl : playL f = [V, .int .i64 nT, .int .i64 tu, f 3, .int .i64 nC, f 5, .int .i64 nK, f 7, f 8, f 9, f 10, f 11, f 12] := by
    unfold playL; rw [Br.f0, Br.f1, Br.f2, Br.f4, Br.f6]
  rw [Br.fr.1] at hpl
  clear Br uu u3 gx2 up1
  (repeat (first | refine EK.seq ?_ | refine EK.region ?_ | refine ER.done ?_))
  refine ER.loadN (vs := playL f) rfl rfl rfl rfl (hrow_play gx) ?_
  refine ER.callR rfl rfl rfl rfl rfl ((cnewWorld (Γ := Nat) (main := true) (δ := ⟨0, 1⟩) hpl (by omega) (by omega)).noS no) ?_
  rintro _ h4 δ4 ⟨rfl, W, hb, K, C, B, Hs, Ks, Cs, rfl, N⟩
  have gx4 := N.up.get gx (fun x => x)
  have uu4 := uu3.trans N.up
  (repeat refine ER.alloc rfl rfl ?_)
  refine ER.storeNew rfl rfl rfl rfl ⟨nofun, nofun⟩ (no _) ?_
  obtain ⟨b3, hb3⟩ : ∃ b3, b3 = h4.size := ⟨_, rfl⟩
  refine ER.gen (fun h' => Upd (fun _ => False) h4 h' /\ h'[b3]? = some (.cells #[ptr W] 27 (0, 0))) ⟨Upd.push _ _, by rw [hb3]; exact get_push_new _ _⟩ ?_
  rw [<- hb3]
  rintro h5 ⟨u5, g3⟩
  (repeat (first | refine EK.seq ?_ | refine EK.region ?_ | refine ER.done ?_ | refine ER.assign rfl rfl rfl ?_ | refine ER.alloc rfl rfl ?_))
  refine ER.storeNew rfl rfl rfl rfl ⟨nofun, nofun⟩ (no _) ?_
  obtain ⟨y5, hy5⟩ : ∃ y, y = h5.size := ⟨_, rfl⟩
  refine ER.gen (fun h' => Upd (fun _ => False) h5 h' /\ h'[y5]? = some (.cells #[.int .i64 0] 3 (0, 0))) ⟨Upd.push _ _, by rw [hy5]; exact get_push_new _ _⟩ ?_
  rw [<- hy5]
  rintro h6 ⟨u6, g5⟩
  have sz45 := u5.size
  (repeat refine ER.done ?_)
  refine EK.fork (fun q : Value × (Nat -> Nat) => [(4, q.1), (3, ptr b3), (1, ptr bx)]) (fun q h' δ' => δ' = ⟨0, 1⟩ /\ Upd (fun _ => False) h5 h' /\ SliceO h' q.1 35 1 nT ((cbodV b3 q.2 nT).map fun q => .func (.func q.1) #[] q.2) /\ (∀ b, blk q.1 = some b -> h4.size <= b) /\ ∀ k, k < nT -> h'[q.2 k]? = some (.cells #[.int .i64 k] 3 (0, 0))) (fun _ key => ?_) ?_
  · (repeat refine EK.block ?_)
    refine EK.loopInv (fun q : Nat × Nat × Value × (Nat -> Nat) => [(5, ptr q.2.1), (4, q.2.2.1), (3, ptr b3), (1, ptr bx)]) (fun q h' δ' => δ' = ⟨0, 1⟩ /\ q.1 <= nT /\ Upd (fun _ => False) h5 h' /\ h5.size <= q.2.1 /\ h'[q.2.1]? = some (.cells #[.int .i64 q.1] 3 (0, 0)) /\ SliceO h' q.2.2.1 35 1 q.1 ((cbodV b3 q.2.2.2 q.1).map fun q => .func (.func q.1) #[] q.2) /\ (∀ b, blk q.2.2.1 = some b -> h5.size <= b) /\ ∀ k, k < q.1 -> h5.size <= q.2.2.2 k /\ q.2.2.2 k ≠ q.2.1 /\ h'[q.2.2.2 k]? = some (.cells #[.int .i64 k] 3 (0, 0))) (fun q => nT - q.1) (0, y5, nilS, fun _ => 0) ⟨rfl, rfl, rfl, rfl, trivial⟩ ⟨rfl, Nat.zero_le _, u6, by dsimp only; omega, g5, SliceO.nil, fun b e => (by cases e), fun k hk => by omega⟩ ?_
    clear u6 g5 hy5 y5 h6
    rintro ⟨i, y5, bv, b5⟩ h6 δ6 ⟨hδ, hi, u6, hy5, g5, slb, frb, hk5⟩ again
    dsimp only at hδ hi u6 hy5 g5 slb frb hk5 again ⊢
    obtain rfl := hδ
    have c5 : hcell h6 ⟨y5, 0, none⟩ = some (.int .i64 i) := hcell_of g5 rfl
    have c1 := playF_cell (i := 1) (u6.get (u5.get gx4 (fun x => x)) (fun x => x)) (by omega)
    rw [f1] at c1
    by_cases hin : i < nT
    case neg =>
      obtain rfl : i = nT := by omega
      (repeat (first | refine EK.seq ?_ | refine EK.region ?_ | refine ER.done ?_ | refine ER.fieldAddr rfl rfl rfl ?_ | refine ER.load1 rfl rfl rfl (hcell_of (by assumption) rfl) ?_ | refine ER.cmpF rfl rfl rfl rfl rfl (by first | (dsimp only [cmpP]; omega) | exact rfl | exact Int.le_refl _) ?_ | refine EK.condF rfl ?_ | refine EK.exit rfl ?_ | refine ER.load1 rfl rfl rfl (by assumption) ?_))
      exact EK.back (key (bv, b5) _ _ ⟨rfl, u6, slb, fun b hb => by have := frb b hb; omega, fun k hk => (hk5 k hk).2.2⟩) ⟨rfl, rfl, rfl, trivial⟩
    (repeat (first | refine EK.seq ?_ | refine EK.region ?_ | refine ER.done ?_ | refine EK.skip ?_ | refine EK.block ?_ | refine ER.move rfl rfl rfl ?_ | refine ER.fieldAddr rfl rfl rfl ?_ | refine ER.load1 rfl rfl rfl (hcell_of (by assumption) rfl) ?_ | refine ER.cmpT rfl rfl rfl rfl rfl (by first | (dsimp only [cmpP]; omega) | exact rfl | exact Int.le_refl _) ?_ | refine EK.condT rfl ?_ | refine ER.load1 rfl rfl rfl (by assumption) ?_))
    refine ER.makeFunc (fv := #[]) (cv := #[ptr b3, ptr y5]) rfl rfl (fun ρ hρ => ⟨map_ofL hρ (vs := []) rfl, map_ofL hρ (vs := [ptr b3, ptr y5]) rfl⟩) ?_
    refine ER.slice1 (sz := 1) (z := .nilFunc) (cells := #[.func (.func 11) #[] #[ptr b3, ptr y5]]) rfl rfl rfl (by omega) (by omega) rfl rfl ?_
    have uP : Upd (fun _ => False) h6 (h6.push (.cells #[.func (.func 11) #[] #[ptr b3, ptr y5]] 35 (0, 0))) := Upd.push _ _
    refine ER.append1 (new := [.func (.func 11) #[] #[ptr b3, ptr y5]]) rfl rfl rfl rfl (slb.upd uP (fun _ _ x => x)) (get_push_new _ _) rfl (by simp [OneCell]) (by omega) (by omega) rfl (fun _ _ _ => no _) ?_
    intro s' h7 sl7 u7 hb7
    have u67 : Upd (fun b => blk bv = some b) h6 h7 := (uP.mono fun _ _ x => x.elim).trans u7
    have nb : ∀ {y : Nat} {k : Int}, h6[y]? = some (.cells #[.int .i64 k] 3 (0, 0)) -> blk bv ≠ some y := fun {y k} g e => sliceO_ne slb g (by decide) _ e rfl
    have g57 := u67.get g5 (nb g5)
    have c57 : hcell h7 ⟨y5, 0, none⟩ = some (.int .i64 i) := hcell_of g57 rfl
    have u57 : Upd (fun _ => False) h5 h7 := u6.over u67 fun b hb => frb b hb
    have hk7 : ∀ k, k < i -> h7[b5 k]? = some (.cells #[.int .i64 k] 3 (0, 0)) := fun k hk => u67.get (hk5 k hk).2.2 (nb (hk5 k hk).2.2)
    have fr7 : ∀ b, blk s' = some b -> h5.size <= b := fun b hb => by
      rcases hb7 b hb with x | x
      · exact frb b x
      · have := u6.size
        rw [x, Array.size_push]; omega
    have sl7' : SliceO h7 s' 35 1 (i + 1) ((cbodV b3 (ut b5 i y5) (i + 1)).map fun q => .func (.func q.1) #[] q.2) := by
      have e : (cbodV b3 (ut b5 i y5) (i + 1)).map (fun q => Value.func (.func q.1) #[] q.2) = (cbodV b3 b5 i).map (fun q => Value.func (.func q.1) #[] q.2) ++ [.func (.func 11) #[] #[ptr b3, ptr y5]] := by
        unfold cbodV
        rw [List.range_succ, List.map_append, List.map_append]
        congr 1
        · rw [List.map_map, List.map_map]
          refine List.map_congr_left fun k hk => ?_
          have : k ≠ i := by have := List.mem_range.1 hk; omega
          simp [ut_ne _ _ this]
        · simp [ut_same]
      rw [e]; exact sl7
    have h57 := lt_of_get g57
    clear c5 c1 g5 sl7 hb7 uP u7 u67 nb
    (repeat (first | refine EK.seq ?_ | refine EK.region ?_ | refine ER.done ?_ | refine EK.inBlock ?_ | refine ER.assign rfl rfl rfl ?_ | refine ER.load1 rfl rfl rfl (hcell_of (by assumption) rfl) ?_ | refine ER.alloc rfl rfl ?_))
    refine ER.storeNew rfl rfl rfl rfl ⟨nofun, nofun⟩ (no _) ?_
    obtain ⟨y6, hy6⟩ : ∃ y, y = h7.size := ⟨_, rfl⟩
    refine ER.gen (fun h' => Upd (fun _ => False) h7 h' /\ h'[y6]? = some (.cells #[.int .i64 i] 3 (0, 0))) ⟨Upd.push _ _, by rw [hy6]; exact get_push_new _ _⟩ ?_
    rw [<- hy6]
    rintro h8 ⟨u8, g6⟩
    have c6 : hcell h8 ⟨y6, 0, none⟩ = some (.int .i64 i) := hcell_of g6 rfl
    (repeat (first | refine EK.region ?_ | refine ER.done ?_ | refine ER.load1 rfl rfl rfl (hcell_of (by assumption) rfl) ?_ | refine ER.add (kd := .i64) rfl rfl rfl rfl (i64_in (by omega) (by omega)) ?_))
    refine ER.store1 rfl rfl rfl (by simp [OneCell]) ⟨_, c6⟩ (hfroz_of g6) (no _) ?_
    rw [hset_block g6]
    change ER _ _ _ _ _ _ _ _ _ _ (h8.setIfInBounds y6 (.cells #[.int .i64 ((i : Int) + 1)] 3 (0, 0))) _ _
    have u9 : Upd (fun b => b = y6) h7 (h8.setIfInBounds y6 (.cells #[.int .i64 ((i : Int) + 1)] 3 (0, 0))) := (u8.mono fun _ _ x => x.elim).trans (Upd.set _ _ _ rfl)
    have s57 := u57.size
    (repeat refine ER.done ?_)
    refine EK.back (again (i + 1, y6, s', ut b5 i y5) _ _ (by dsimp only; omega) ⟨rfl, by dsimp only; omega, u57.over u9 fun b e => by have e' : b = y6 := e; omega, by dsimp only; omega, get_set_same g6, sl7'.upd u9 fun b hb e => by have e' : b = y6 := e; have := sl7'.lt hb; omega, fr7, fun k hk => ?_⟩) ⟨rfl, rfl, rfl, rfl, trivial⟩
    dsimp only
    by_cases e : k = i
    · subst e
      rw [ut_same]
      exact ⟨hy5, by omega, u9.get g57 (by show ¬ y5 = y6; omega)⟩
    · rw [ut_ne _ _ e]
      have hk' := hk7 k (by omega)
      have := lt_of_get hk'
      exact ⟨(hk5 k (by omega)).1, by omega, u9.get hk' (by show ¬ b5 k = y6; omega)⟩
  clear g5 u6 hy5 h6 y5
  rintro ⟨bv, b5⟩ h6 δ6 ⟨hδ, u56, slb, frb, hk5⟩
  dsimp only at hδ u56 slb frb hk5 ⊢
  obtain rfl := hδ
  have u46 := u5.trans u56
  have P := cpre_of (K := K) (nK := nK) N u46 bs fV pk (by omega) ⟨by omega, by omega⟩ (u56.get g3 (fun x => x)) hk5 slb
  have sz34 := N.up.size
  have sz46 := u46.size
  have low : ∀ b, b < h3.size -> (cdOf sc nC nK nT W C B K h6 bv hb).old b := fun b hl => N.lo' (fun b' hb' => by have := frb b' hb'; omega) hl (by omega)
  have uu6 := uu4.trans u46
  have gx6 := u46.get gx4 (fun x => x)
  have c3 := playF_cell (i := 3) gx6 (by omega)
  have c2 := playF_cell (i := 2) gx6 (by omega)
  rw [f2] at c2
  have hrun := crun_ok P (most := tu) htu1 (by omega)
  change CallW Try.prog true (SwS Try.prog) 13 #[f 3, .int .i64 tu, bv] h6 ⟨0, 1⟩ _ at hrun
  have gW : ∃ r, r = playF f /\ h6[bx]? = some r := ⟨_, rfl, gx6⟩
  clear g3 u5 u56 sz45 gx6
  (repeat (first | refine EK.seq ?_ | refine EK.region ?_ | refine ER.move rfl rfl rfl ?_ | refine ER.fieldAddr rfl rfl rfl ?_ | refine ER.load1 rfl rfl rfl (by assumption) ?_))
  refine ER.callR rfl rfl rfl rfl rfl hrun ?_
  rintro _ h7 δ7 ⟨⟨m, rfl⟩, fin, lL, lW, lY, lV, nl, u, cv, rfl, ⟨⟨aL, nL, kL, eL⟩, ⟨aW, nW, kW, eW⟩, ⟨aY, nY, kY, eY⟩, ⟨aV, nV, kV, eV⟩⟩, E, sz7⟩
  subst eL eW eY eV
  clear hrun c2 c3
  have hold : ∀ b, (cdOf sc nC nK nT W C B K h6 bv hb).old b -> h7[b]? = h6[b]? := E.I.old
  have N7 := P.E.now E.I.old
  have sz67 : h6.size <= h7.size := sz7
  have gx7 : ∃ r, r = playF f /\ h7[bx]? = some r := by
    obtain ⟨r, er, gx6⟩ := gW
    exact ⟨r, er, (hold bx (low bx (by omega))).trans gx6⟩
  have g37 := (hold b3 P.h3.1).trans P.h3.2
  have uu7 : Upd (fun _ => False) h h7 := ⟨by have := uu6.size; omega, fun b hb' _ => (hold b (low b (by have := uu3.size; omega))).trans (uu6.same b hb' (fun x => x))⟩
  have no7 : ∀ a, ¬ (SwS Try.prog).still m a := fun a x => x
  clear gW uu6
  (repeat refine ER.allocA rfl rfl ?_)
  refine ER.storeN (vs := repL (if fin then 1 else 2) nl (.slice aL nL kL) (.slice aW nW kW) (.slice aY nY kY) (.slice aV nV kV)) rfl rfl rfl rfl (by simp [OneCell]) (fun j hj => ⟨?_, hfroz_of (get_push_new _ _), no7 _⟩) ?_
  · have hj' : j < 7 := hj
    rcases (show j = 0 \/ j = 1 \/ j = 2 \/ j = 3 \/ j = 4 \/ j = 5 \/ j = 6 by omega) with rfl | rfl | rfl | rfl | rfl | rfl | rfl <;> exact ⟨_, hcell_of (get_push_new _ _) rfl⟩
  rw [hsetRow_push (c := [.int .i8 0, .int .i64 0, nilS, nilS, nilS, nilS, nilS]) (vs := repL (if fin then 1 else 2) nl (.slice aL nL kL) (.slice aW nW kW) (.slice aY nY kY) (.slice aV nV kV)) rfl]
  obtain ⟨rB, hrB⟩ : ∃ rB, rB = h7.size := ⟨_, rfl⟩
  refine ER.gen (fun h' => Upd (fun _ => False) h7 h' /\ h'[rB]? = some (.cells (repL (if fin then 1 else 2) nl (.slice aL nL kL) (.slice aW nW kW) (.slice aY nY kY) (.slice aV nV kV)).toArray 39 (0, 0))) ⟨Upd.push _ _, by rw [hrB]; exact get_push_new _ _⟩ ?_
  rw [<- hrB]
  rintro h8 ⟨u8, gr⟩
  obtain ⟨Ha, Hk, eH⟩ : ∃ a k, Hs = .slice a 64 k := by
    obtain ⟨a, k, e⟩ := N7.H.val
    exact ⟨a, k, by simpa using e⟩
  (repeat (first | refine EK.seq ?_ | refine EK.region ?_ | refine ER.done ?_ | refine ER.assign rfl rfl rfl ?_))
  refine EK.fork (fun q : Value => [(7, q), (6, ptr rB), (3, ptr b3), (1, ptr bx)]) (fun q h' δ' => δ' = ⟨0, m⟩ /\ Upd (fun _ => False) h8 h' /\ SliceO h' q 48 1 64 ((List.range 64).map u.tv) /\ ∀ b, blk q = some b -> h8.size <= b) (fun _ key => ?_) ?_
  · (repeat refine EK.block ?_)
    refine EK.loopInv (fun q : Nat × Value => [(8, .int .i64 q.1), (7, q.2), (6, ptr rB), (3, ptr b3), (1, ptr bx)]) (fun q h' δ' => δ' = ⟨0, m⟩ /\ q.1 <= 64 /\ Upd (fun _ => False) h8 h' /\ SliceO h' q.2 48 1 q.1 ((List.range q.1).map u.tv) /\ ∀ b, blk q.2 = some b -> h8.size <= b) (fun q => 64 - q.1) (0, nilS) ⟨rfl, rfl, rfl, rfl, rfl, trivial⟩ ⟨rfl, Nat.zero_le _, Upd.refl _ _, SliceO.nil, fun b e => (by cases e)⟩ ?_
    rintro ⟨i, tl⟩ h9 δ9 ⟨hδ, hi, u9, slt, frt⟩ again
    dsimp only at hδ hi u9 slt frt again ⊢
    obtain rfl := hδ
    have u79 := u8.trans u9
    have c3 : hcell h9 ⟨b3, 0, none⟩ = some (ptr W) := hcell_of (u79.get g37 (fun x => x)) rfl
    have c13 : hcell h9 ⟨W, 13, none⟩ = some Hs := u79.hcell N7.w.2.1 (fun x => x)
    by_cases hi6 : i < 64
    · obtain ⟨b, o, k, e, hc⟩ := (N7.H.upd u79 (fun _ _ _ x => x)).cell i (ptr (hb i)) (by rw [List.getElem?_map, List.getElem?_range hi6]; rfl)
      have e' : Hs = .slice (some ⟨b, o, none⟩) 64 k := by simpa using e
      rw [e'] at c13
      have chi : hcell h9 ⟨hb i, 2, none⟩ = some (u.tv i) := u79.hcell (hcell_of (E.I.hnd i hi6) rfl) (fun x => x)
      obtain ⟨av, kv, ev⟩ := (E.I.sl i hi6).val
      rw [ev] at chi
      clear e
      (repeat (first | refine EK.seq ?_ | refine EK.region ?_ | refine ER.done ?_ | refine EK.skip ?_ | refine EK.block ?_ | refine ER.move rfl rfl rfl ?_ | refine ER.nilCheck rfl rfl rfl ?_ | refine ER.fieldAddr rfl rfl rfl ?_ | refine ER.cmpT rfl rfl rfl rfl rfl (by first | (dsimp only [cmpP]; omega) | exact rfl | exact Int.le_refl _) ?_ | refine ER.len1 rfl rfl rfl ?_ | refine ER.indexSl rfl rfl rfl rfl (by omega) (by omega) ?_ | refine EK.condT rfl ?_ | refine ER.load1 rfl rfl rfl (by assumption) ?_))
      refine ER.slice1 (sz := 1) (z := nilS) (cells := #[.slice av (u.told i).length kv]) rfl rfl rfl (by omega) (by omega) rfl rfl ?_
      have uP : Upd (fun _ => False) h9 (h9.push (.cells #[.slice av (u.told i).length kv] 48 (0, 0))) := Upd.push _ _
      refine ER.append1 (new := [.slice av (u.told i).length kv]) rfl rfl rfl rfl (slt.upd uP (fun _ _ x => x)) (get_push_new _ _) rfl (by simp [OneCell]) (by omega) (by omega) rfl (fun _ _ _ => no7 _) ?_
      intro s' h10 sl10 u10 hb10
      have u810 : Upd (fun _ => False) h8 h10 := u9.over ((uP.mono fun _ _ x => x.elim).trans u10) fun b hb => frt b hb
      have sl10' : SliceO h10 s' 48 1 (i + 1) ((List.range (i + 1)).map u.tv) := by
        rw [List.range_succ, List.map_append, List.map_singleton, ev]; exact sl10
      have s89 := u9.size
      clear slt c3 c13 hc chi
      (repeat (first | refine EK.region ?_ | refine ER.done ?_ | refine EK.inBlock ?_ | refine ER.move rfl rfl rfl ?_ | refine ER.assign rfl rfl rfl ?_ | refine ER.add (kd := .i64) rfl rfl rfl rfl (i64_in (by omega) (by omega)) ?_))
      exact EK.back (again (i + 1, s') _ _ (by dsimp only; omega) ⟨rfl, by dsimp only; omega, u810, sl10', fun b hb => by
        rcases hb10 b hb with x | x
        · exact frt b x
        · rw [x, Array.size_push]; omega⟩) ⟨rfl, rfl, rfl, rfl, rfl, trivial⟩
    · obtain rfl : i = 64 := by omega
      rw [eH] at c13
      (repeat (first | refine EK.seq ?_ | refine EK.region ?_ | refine ER.done ?_ | refine ER.move rfl rfl rfl ?_ | refine ER.nilCheck rfl rfl rfl ?_ | refine ER.fieldAddr rfl rfl rfl ?_ | refine ER.cmpF rfl rfl rfl rfl rfl (by first | (dsimp only [cmpP]; omega) | exact rfl | exact Int.le_refl _) ?_ | refine ER.len1 rfl rfl rfl ?_ | refine EK.condF rfl ?_ | refine EK.exit rfl ?_ | refine ER.load1 rfl rfl rfl (by assumption) ?_))
      exact EK.back (key tl _ _ ⟨rfl, u9, slt, frt⟩) ⟨rfl, rfl, rfl, rfl, trivial⟩
  rintro tl h9 δ9 ⟨hδ, u9, slt, frt⟩
  obtain rfl := hδ
  have u79 := u8.trans u9
  have ce : hcell h9 ⟨rB, 0, none⟩ = some (.int .i8 (if fin then 1 else 2)) := hcell_of (u9.get gr (fun x => x)) rfl
  have uu9 := uu7.trans u79
  cases fin with
  | false =>
    replace ce : hcell h9 ⟨rB, 0, none⟩ = some (.int .i8 2) := ce
    (repeat (first | refine EK.seq ?_ | refine EK.region ?_ | refine ER.done ?_ | refine ER.move rfl rfl rfl ?_ | refine ER.fieldAddr rfl rfl rfl ?_ | refine ER.cmpT rfl rfl rfl rfl rfl (by first | (dsimp only [cmpP]; omega) | exact rfl | exact Int.le_refl _) ?_ | refine EK.condT rfl ?_ | refine ER.load1 rfl rfl rfl (by assumption) ?_))
    refine ER.callR rfl rfl rfl rfl rfl (works_ok.noS no7) ?_
    rintro _ h10 δ10 ⟨rfl, u10, rfl⟩
    (repeat (first | refine ER.done ?_ | refine ER.assign rfl rfl rfl ?_ | refine ER.pickT rfl rfl rfl rfl ?_ | refine EK.ret ?_))
    exact EU.ret1 rfl rfl ⟨rfl, rfl, uu9.trans u10⟩
  | true =>
    replace ce : hcell h9 ⟨rB, 0, none⟩ = some (.int .i8 1) := ce
    (repeat (first | refine EK.seq ?_ | refine EK.region ?_ | refine ER.done ?_ | refine EK.skip ?_ | refine ER.assign rfl rfl rfl ?_ | refine ER.fieldAddr rfl rfl rfl ?_ | refine ER.cmpF rfl rfl rfl rfl rfl (by first | (dsimp only [cmpP]; omega) | exact rfl | exact Int.le_refl _) ?_ | refine EK.condF rfl ?_ | refine ER.load1 rfl rfl rfl (by assumption) ?_))
    obtain ⟨Va, Vk, eV⟩ := bs.sl.val
    have hlen := bs.len
    have hNlo := N.lo
    have hW6 : h6[W]? = some (worldO (playL f) Hs Ks Cs) := u46.get N.w (fun x => x)
    have hW9 : h9[W]? = some (worldO (playL f) Hs Ks Cs) := u79.get ((hold W P.E.w).trans hW6) (fun x => x)
    have c3 : hcell h9 ⟨b3, 0, none⟩ = some (ptr W) := hcell_of (u79.get g37 (fun x => x)) rfl
    have cV : hcell h9 ⟨bx, 0, none⟩ = some (.slice Va sc.length Vk) := by
      obtain ⟨r, er, g⟩ := gx7
      subst er
      have := playF_cell (i := 0) (u79.get g (fun x => x)) (by omega)
      rw [this, fV, eV, hlen]
    have cW15 : hcell h9 ⟨W, 15, none⟩ = some Cs := u79.hcell N7.w.2.2.2 (fun x => x)
    have s69 : h6.size <= h9.size := Nat.le_trans sz67 u79.size
    have hWl : W < h6.size := lt_of_get hW6
    refine EK.regionAnyL (fun h' => Upd (fun _ => False) h9 h') 8 ?_
    have hZ : Upd (fun _ => False) h9 h9 := Upd.refl _ _
    refine EA.tLoad 0 rfl (by kernel_rfl) rfl rfl rfl rfl (fun _ hz => hz.hcell c3 (fun x => x)) hZ ?_
    refine EA.tField 1 rfl (by kernel_rfl) rfl rfl rfl rfl hZ ?_
    refine EA.tLoad 2 rfl (by kernel_rfl) rfl rfl rfl rfl (fun _ hz => hz.hcell cV (fun x => x)) hZ ?_
    refine EA.tLen1 3 rfl (by kernel_rfl) rfl rfl rfl rfl hZ ?_
    obtain ⟨yv, hyv⟩ : ∃ y, y = h9.size := ⟨_, rfl⟩
    obtain ⟨hA, hhA⟩ : ∃ hA, hA = h9.push (.cells (List.replicate sc.length nilS).toArray 118 (0, 0)) := ⟨_, rfl⟩
    have hZ : Upd (fun _ => False) h9 hA := by rw [hhA]; exact Upd.push _ _
    have gyv : hA[yv]? = some (.cells (List.replicate sc.length nilS).toArray 118 (0, 0)) := by rw [hhA, hyv]; exact get_push_new _ _
    have gWA := hZ.get hW9 (fun x => x)
    have cWA : hcell hA ⟨W, 0, none⟩ = some (f 0) := hcell_of gWA (by simp [playL])
    refine EA.val (v := .slice (some ⟨yv, 0, none⟩) sc.length sc.length) (h' := hA) 4 rfl (by kernel_rfl) rfl rfl rfl (fun ρ Q X hρ hq => by
      rw [hhA, hyv] at hq
      exact sem_makeSlice1 (m := sc.length) (z := nilS) (hρ _ _ rfl) (hρ _ _ rfl) (by omega) (by omega) rfl hq) hZ ?_
    refine EA.val (v := ptr W) (h' := hA) 5 rfl (by kernel_rfl) rfl rfl rfl (fun ρ Q X hρ hq => sem_nilCheck (hρ _ _ rfl) hq) hZ ?_
    refine EA.val (v := .pointer (some ⟨W, 0, none⟩)) (h' := hA) 6 rfl (by kernel_rfl) rfl rfl rfl (fun ρ Q X hρ hq => sem_fieldAddr (hρ _ _ rfl) hq) hZ ?_
    refine EA.val (v := .pointer (some ⟨W, 0, none⟩)) (h' := hA) 7 rfl (by kernel_rfl) rfl rfl rfl (fun ρ Q X hρ hq => sem_fieldAddr (hρ _ _ rfl) hq) hZ ?_
    refine EA.unitL (h' := hset hA ⟨W, 0, none⟩ (.slice (some ⟨yv, 0, none⟩) sc.length sc.length)) 8 rfl (by kernel_rfl) rfl rfl rfl (fun ρ Q X hρ hq => sem_store1 (hρ _ _ rfl) (hρ _ _ rfl) (by simp [OneCell]) ⟨_, cWA⟩ (hfroz_of gWA) (no7 _) hq) ?_
    refine EA.done (by kernel_rfl) ?_
    refine EK.gen (fun h' => Upd (fun b => b = W) h9 h' /\ h'[yv]? = some (.cells (List.replicate sc.length nilS).toArray 118 (0, 0)) /\ hcell h' ⟨W, 0, none⟩ = some (.slice (some ⟨yv, 0, none⟩) sc.length sc.length) /\ hcell h' ⟨W, 15, none⟩ = some Cs) ⟨(hZ.mono fun _ _ x => x.elim).trans (Upd.hset _ _ _ rfl), ?_, hcell_hset_same cWA, ?_⟩ ?_
    · rw [hset_ne _ _ _ (by show W ≠ yv; omega)]; exact gyv
    · have hZ15 := hZ.hcell cW15 (fun x => x)
      exact (hset_cell_ne hA ⟨W, 0, none⟩ ⟨W, 15, none⟩ (.slice (some ⟨yv, 0, none⟩) sc.length sc.length) (by simp) ⟨_, cWA⟩).trans hZ15
    clear c3 cV cW15 hZ gyv gWA cWA hW9 hhA hA
    rintro hA ⟨uA, gyv, cW0, cW15⟩
    have u7A : Upd (fun b => b = W) h7 hA := (u79.mono fun _ _ x => x.elim).trans uA
    have isC_lt : ∀ b, (cdOf sc nC nK nT W C B K h6 bv hb).isC b -> b < h6.size := fun b hc => lt_of_get (P.cel b hc)
    let T1 : Nat -> Prop := fun b => ∃ i, i < nC /\ Own (C i) (B i) b
    have hT1o : ∀ y, (cdOf sc nC nK nT W C B K h6 bv hb).old y -> ¬ T1 y := fun y ho => by
      rintro ⟨i, hi, e | ⟨j, hj, e⟩⟩
      · exact ho.2.1 i hi e
      · exact ho.1.2.1 (.inl ⟨i, j, hi, hj, e⟩)
    have hT1n : ∀ y, ¬ (cdOf sc nC nK nT W C B K h6 bv hb).isC y /\ ¬ (cdOf sc nC nK nT W C B K h6 bv hb).base y -> ¬ T1 y := fun y ho => by
      rintro ⟨i, hi, e | ⟨j, hj, e⟩⟩
      · exact ho.2 (e ▸ P.E.ok.C i hi)
      · exact ho.1 (.inl ⟨i, j, hi, hj, e⟩)
    have hT1l : ∀ y, T1 y -> y < h6.size := by
      rintro y ⟨i, hi, e | ⟨j, hj, e⟩⟩
      · rw [e]; exact (P.E.ok.C i hi).1
      · exact isC_lt y (.inl ⟨i, j, hi, hj, e⟩)
    have hWb := P.E.w
    have nW : ∀ y, ¬ (cdOf sc nC nK nT W C B K h6 bv hb).isC y /\ ¬ (cdOf sc nC nK nT W C B K h6 bv hb).base y -> y ≠ W := fun y ho e => ho.2 (e ▸ hWb.1)
    have hVW : ∀ b, blk V = some b -> b < h3.size := fun b hb' => bs.sl.lt hb'
    have hwsW : ∀ (s : Nat) (v : Value), ws[s]? = some v -> ∀ b, blk v = some b -> b < h3.size := fun s v hv b hb' => by
      have hs : s < sc.length := by rw [<- bs.len]; exact (List.getElem?_eq_some_iff.1 hv).1
      obtain ⟨w, h1, h2, -⟩ := bs.sc1 s _ (List.getElem?_eq_getElem hs)
      rw [hv] at h1
      obtain rfl := Option.some.inj h1
      exact h2.lt hb'
    have lowT : ∀ b, b < h3.size -> ¬ T1 b := fun b hl => hT1o b (low b hl)
    have MA : EndM (cdOf sc nC nK nT W C B K h6 bv hb).c u.kept yv hA := ⟨cW0, gyv, fun q hq => u7A.get (E.I.kept q hq) (nW _ (E.I.newk q hq))⟩
    have SA : ScM (cdOf sc nC nK nT W C B K h6 bv hb).c hA V ws := ScM.updT ⟨N7.V, N7.sc, P.E.len, P.E.sl⟩ u7A (fun b hb' e => by have := hVW b hb'; omega) (fun s v hv b hb' e => by have := hwsW s v hv b hb'; omega)
    have hover := E.over rfl
    have hout := E.inv.out
    have h89 : h8.size <= h9.size := u9.size
    have h78 : h7.size <= h8.size := u8.size
    have TA : TolM hA tl 64 u.tv u.told := by
      refine ⟨(SliceO.rds slt).upd uA fun _ b hb' e => by have := frt b hb'; omega, fun t ht => (E.I.sl t ht).upd u7A fun b hb' e => nW b (E.I.newt t b ht hb') e, Nat.le_refl _, fun t ht => ?_⟩
      by_cases htn : t < nT
      · exact (hover t htn).2
      · rw [hout t (by show nT <= t; omega)]; exact Nat.zero_le _
    have KA : TolK (cdOf sc nC nK nT W C B K h6 bv hb).c hA 64 u.told u.kept := ⟨fun t e _ he => E.inv.tok t e he, fun q hq => u7A.get (E.I.kept q hq) (nW _ (E.I.newk q hq))⟩
    have CA : ∀ i, i < nC -> Clk hA (C i) (B i) (fun j => cv (B i j)) (u.fns i) := fun i hi => by
      have hCW : C i ≠ W := fun e => hWb.2.1 i hi e.symm
      have hBW : ∀ j, j < 34 -> B i j ≠ W := fun j hj e => hWb.1.2.1 (.inl ⟨i, j, hi, hj, e.symm⟩)
      refine ClkP.clk ((E.I.clk i hi).same ?_) (fun j hj => u7A.get (E.cel _ (.inl ⟨i, j, hi, hj, rfl⟩)) (hBW j hj)) (fun a b ha hb' e => (N.Bi i a i b hi ha hi hb' e).2) (fun j hj e => ?_)
      · obtain ⟨cs, hcs⟩ := (E.I.clk i hi).obj
        exact (u7A.get hcs hCW).trans hcs.symm
      · exact (P.E.ok.C i hi).2.1 (.inl ⟨i, j, hi, hj, e.symm⟩)
    have RA : RdS hA Cs ((List.range nC).map fun j => ptr (C j)) := N7.C.upd u7A fun _ b hb' e => sliceO_ne N.sC N.w (by decide) b hb' e
    have hRW : ∀ b, blk Cs = some b -> ¬ T1 b := fun b hb' => hT1o b (P.E.C b hb')
    have ckv : ∀ i, i < nC -> CkV (cdOf sc nC nK nT W C B K h6 bv hb).c u.kept (fun j => cv (B i j)) (u.fns i) 262144 /\ cv (B i 1) = 0 := fun i hi => E.inv.ckv (Nat.le_refl _) (fun t ht => (hover t ht).1) hi
    have law := cLaw E.inv (show nT <= 64 by omega)
    have gxA : ∃ r, r = playF f /\ hA[bx]? = some r := by
      obtain ⟨r, er, g⟩ := gx7
      exact ⟨r, er, u7A.get g (by omega)⟩
    have g3A : hA[b3]? = some (.cells #[ptr W] 27 (0, 0)) := u7A.get g37 (by intro e; rw [e] at g37; have := (hold W P.E.w).trans hW6; rw [this] at g37; simp [worldO] at g37)
    have uuA : Upd (fun _ => False) h hA := uu9.over uA fun b e => by have e' : b = W := e; have := uu3.size; omega
    have hW1 : ¬ T1 W := hT1o W hWb
    have hy1 : ¬ T1 yv := fun x => by have := hT1l _ x; omega
    have hk1 : ∀ q, q ∈ u.kept -> ¬ T1 q.1 := fun q hq => hT1n _ (E.I.newk q hq)
    have htl1 : ∀ b, blk tl = some b -> ¬ T1 b := fun b hb' x => by have := hT1l _ x; have := frt b hb'; omega
    have htv1 : ∀ t, t < 64 -> ∀ b, blk (u.tv t) = some b -> ¬ T1 b := fun t ht b hb' => hT1n _ (E.I.newt t b ht hb')
    have hbx1 : ¬ T1 bx := lowT bx (by omega)
    have hb31 : ¬ T1 b3 := hT1o b3 P.h3.1
    have now0 := E.inv.now
    have T1s : ∀ b, T1 b -> h.size <= b := by
      rintro b ⟨i, hi, e | ⟨j, hj, e⟩⟩
      · have := (hNlo.2.2.2.1 i hi).1; have := uu3.size; omega
      · have := (hNlo.2.2.2.1 i hi).2 j hj; have := uu3.size; omega
    have cWA15 := cW15
    have hBi := N.Bi
    have hCi := N.Ci
    have hCB : ∀ i i' j, i < nC -> i' < nC -> j < 34 -> C i ≠ B i' j := fun i i' j hi hi' hj e => (P.E.ok.C i hi).2.1 (.inl ⟨i', j, hi', hj, e⟩)
    obtain ⟨SS, hSS⟩ : ∃ SS : Nat -> Int, SS = fun i => cSum (fun t => sumE (setE (cdOf sc nC nK nT W C B K h6 bv hb).c i) (u.told t)) 64 := ⟨_, rfl⟩
    obtain ⟨PS, hPS⟩ : ∃ PS : Nat -> Int, PS = fun i => cSum (fun t => sumE (stopE (cdOf sc nC nK nT W C B K h6 bv hb).c i) (u.told t)) 64 := ⟨_, rfl⟩
    obtain ⟨LS, hLS⟩ : ∃ LS : Nat -> Int, LS = fun i => kc fun j => cv (B i j) := ⟨_, rfl⟩
    have hSSi : ∀ i, cSum (fun t => sumE (setE (cdOf sc nC nK nT W C B K h6 bv hb).c i) (u.told t)) 64 = SS i := fun i => by rw [hSS]
    have hPSi : ∀ i, cSum (fun t => sumE (stopE (cdOf sc nC nK nT W C B K h6 bv hb).c i) (u.told t)) 64 = PS i := fun i => by rw [hPS]
    have bS : ∀ i, 0 <= SS i /\ SS i <= 200000000 := fun i => by
      have := cSum_le (f := fun t => sumE (setE (cdOf sc nC nK nT W C B K h6 bv hb).c i) (u.told t)) (b := 2031647) (n := 64) fun t ht => by
        have h1 := sumE_le (setE_le (cdOf sc nC nK nT W C B K h6 bv hb).c i) (u.told t)
        have h2 := TA.le t ht
        omega
      rw [<- hSSi i]; omega
    have bP : ∀ i, 0 <= PS i /\ PS i <= 200000000 := fun i => by
      have := cSum_le (f := fun t => sumE (stopE (cdOf sc nC nK nT W C B K h6 bv hb).c i) (u.told t)) (b := 2031647) (n := 64) fun t ht => by
        have h1 := sumE_le (stopE_le (cdOf sc nC nK nT W C B K h6 bv hb).c i) (u.told t)
        have h2 := TA.le t ht
        omega
      rw [<- hPSi i]; omega
    have bL : ∀ i, 0 <= LS i /\ LS i <= 16 := fun i => by rw [hLS]; exact kc_le _
    have bSs : ∀ n, n <= 3 -> 0 <= cSum SS n /\ cSum SS n <= 600000000 := fun n hn => by
      have := cSum_le (f := SS) (b := 200000000) (n := n) fun i _ => bS i
      omega
    have bPs : ∀ n, n <= 3 -> 0 <= cSum PS n /\ cSum PS n <= 600000000 := fun n hn => by
      have := cSum_le (f := PS) (b := 200000000) (n := n) fun i _ => bP i
      omega
    have bLs : ∀ n, n <= 3 -> 0 <= cSum LS n /\ cSum LS n <= 48 := fun n hn => by
      have := cSum_le (f := LS) (b := 16) (n := n) fun i _ => bL i
      omega
    have law' : cSum SS nC = cSum PS nC + cSum (fun t => sumE ringE (u.told t)) 64 + cSum LS nC := by rw [hSS, hPS, hLS]; exact law
    have bR : 0 <= cSum (fun t => sumE ringE (u.told t)) 64 /\ cSum (fun t => sumE ringE (u.told t)) 64 <= 200000000 := by
      have := cSum_le (f := fun t => sumE ringE (u.told t)) (b := 2031647) (n := 64) fun t ht => by
        have h1 := sumE_le ringE_le (u.told t)
        have h2 := TA.le t ht
        omega
      omega
    have hLSi : ∀ i, kc (fun j => cv (B i j)) = LS i := fun i => by rw [hLS]
    clear law hSS hPS hLS slt frt u9 u79 u8 gr ce uu9 uA u7A gyv cW0 cW15 hold N7 E gx7 g37 uu7 hover hout low
    (repeat (first | refine EK.seq ?_ | refine EK.region ?_ | refine ER.done ?_ | refine EK.block ?_ | refine ER.assign rfl rfl rfl ?_))
    refine EK.loopInv (fun q : Nat => [(12, .int .i64 q), (11, .int .i64 (cSum LS q)), (10, .int .i64 (cSum PS q)), (9, .int .i64 (cSum SS q)), (7, tl), (3, ptr b3), (1, ptr bx)]) (fun q h' δ' => δ' = ⟨0, m⟩ /\ q <= nC /\ Upd (fun b => ∃ i, i < q /\ Own (C i) (B i) b) hA h') (fun q => nC - q) 0 ⟨rfl, rfl, rfl, rfl, rfl, rfl, rfl, trivial⟩ ⟨rfl, Nat.zero_le _, Upd.refl _ _⟩ ?_
    rintro q h11 δ11 ⟨hδ, hq, u11⟩ again
    obtain rfl := hδ
    have uT : Upd T1 hA h11 := u11.mono fun b _ ⟨i, hi, ho⟩ => ⟨i, by omega, ho⟩
    have S11 := SA.updT uT (fun b hb' => lowT b (hVW b hb')) (fun s v hv b hb' => lowT b (hwsW s v hv b hb'))
    have T11 := TA.updT uT htl1 htv1
    have K11 := KA.updT uT hk1
    have c3 : hcell h11 ⟨b3, 0, none⟩ = some (ptr W) := hcell_of (uT.get g3A hb31) rfl
    have c4 : hcell h11 ⟨bx, 4, none⟩ = some (.int .i64 nC) := by
      obtain ⟨r, er, g⟩ := gxA
      subst er
      have := playF_cell (i := 4) (uT.get g hbx1) (by omega)
      rw [this, f4]
    have sS := bSs q (by omega)
    have sP := bPs q (by omega)
    have sL := bLs q (by omega)
    by_cases hqn : q < nC
    · have hcnt := ccounted_ok (Γ := Nat) (main := true) (δ := ⟨0, m⟩) (i := q) (pl := playL f) ⟨by show some (f 0) = _; rw [fV], rfl⟩ S11 T11 K11
      rw [hSSi, hPSi] at hcnt
      have sS1 := bS q
      have sP1 := bP q
      have sL1 := bL q
      have hrow11 : TJ.hrow h11 bx 0 (playL f) := by
        obtain ⟨r, er, g⟩ := gxA
        subst er
        exact hrow_play (uT.get g hbx1)
      have M11 := MA.upd uT hW1 hy1 hk1
      have k11 := (CA q hqn).upd u11 (fun b ⟨i, hi, ho⟩ ho' => by
        rcases ho with e | ⟨j, hj, e⟩ <;> rcases ho' with e' | ⟨j', hj', e'⟩
        · have := hCi i q (by omega) hqn (e.symm.trans e'); omega
        · exact hCB i q j' (by omega) hqn hj' (e.symm.trans e')
        · exact hCB q i j hqn (by omega) hj (e'.symm.trans e)
        · have := (hBi i j q j' (by omega) hj hqn hj' (e.symm.trans e')).1; omega)
      have hTq : ∀ b, Own (C q) (B q) b -> T1 b := fun b ho => ⟨q, hqn, ho⟩
      have s11 := u11.size
      have sA : h6.size <= hA.size := by have := lt_of_get MA.vs; omega
      obtain ⟨b, o, k, eC, hcC⟩ := (RA.upd uT fun _ => hRW).cell q (ptr (C q)) (by rw [List.getElem?_map, List.getElem?_range hqn]; rfl)
      rw [List.length_map, List.length_range] at eC
      have cW15 : hcell h11 ⟨W, 15, none⟩ = some (.slice (some ⟨b, o, none⟩) nC k) := by rw [<- eC]; exact uT.hcell cWA15 hW1
      (repeat (first | refine EK.seq ?_ | refine EK.region ?_ | refine ER.done ?_ | refine EK.skip ?_ | refine EK.block ?_ | refine ER.move rfl rfl rfl ?_ | refine ER.fieldAddr rfl rfl rfl ?_ | refine ER.cmpT rfl rfl rfl rfl rfl (by first | (dsimp only [cmpP]; omega) | exact rfl | exact Int.le_refl _) ?_ | refine EK.condT rfl ?_ | refine ER.load1 rfl rfl rfl (by assumption) ?_))
      refine ER.loadN (vs := playL f) rfl rfl rfl rfl hrow11 ?_
      (repeat refine ER.move rfl rfl rfl ?_)
      refine ER.callR rfl rfl rfl rfl rfl (hcnt.noS no7) ?_
      rintro _ h12 δ12 ⟨rfl, u12, rfl⟩
      have c3' := u12.hcell c3 (fun x => x)
      have cW15' := u12.hcell cW15 (fun x => x)
      have hcC' := u12.hcell hcC (fun x => x)
      have s12 := u12.size
      have k12 := k11.upd u12 (fun _ x => x.elim)
      have M12 := M11.upd u12 (fun x => x) (fun x => x) (fun _ _ x => x)
      obtain ⟨V12, hb0⟩ := ckv q hqn
      have hadv := cadv_end (Γ := Nat) (main := true) (δ := ⟨0, m⟩) M12 k12 (fun b ho => by have := hT1l b (hTq b ho); omega) (fun x => hW1 (hTq _ x)) (fun x => hy1 (hTq _ x)) (fun q' hq' x => hk1 q' hq' (hTq _ x)) (top := 262144) (by omega) V12 (now0 q hqn) hb0
      rw [hLSi] at hadv
      clear c3 c4 cW15 hcC k11 M11 hrow11 hcnt S11 T11 K11
      (repeat (first | refine EK.seq ?_ | refine EK.region ?_ | refine ER.done ?_ | refine ER.move rfl rfl rfl ?_ | refine ER.assign rfl rfl rfl ?_ | refine ER.nilCheck rfl rfl rfl ?_ | refine ER.fieldAddr rfl rfl rfl ?_ | refine ER.extract rfl rfl rfl rfl ?_ | refine ER.add (kd := .i64) rfl rfl rfl rfl (i64_in (by omega) (by omega)) ?_ | refine ER.indexSl rfl rfl rfl rfl (by omega) (by omega) ?_ | refine ER.load1 rfl rfl rfl (by assumption) ?_))
      refine ER.callR rfl rfl rfl rfl rfl (hadv.noS no7) ?_
      rintro _ h13 δ13 ⟨rfl, rfl, u13, s13, k13, V13, n13, b13, z13⟩
      have c3 := u13.hcell c3' (fun x => hb31 (hTq _ x))
      have cW15 := u13.hcell cW15' (fun x => hW1 (hTq _ x))
      have hcC := u13.hcell hcC' (fun x => hRW b (by rw [eC]; rfl) (hTq _ x))
      have s13' := u13.size
      have M13 := M12.upd u13 (fun x => hW1 (hTq _ x)) (fun x => hy1 (hTq _ x)) (fun q' hq' x => hk1 q' hq' (hTq _ x))
      have hadv2 := cadv_end (Γ := Nat) (main := true) (δ := ⟨0, m⟩) M13 k13 (fun b ho => by have := hT1l b (hTq b ho); omega) (fun x => hW1 (hTq _ x)) (fun x => hy1 (hTq _ x)) (fun q' hq' x => hk1 q' hq' (hTq _ x)) (by omega) V13 (by rw [n13]; decide) b13
      rw [z13] at hadv2
      clear c3' cW15' hcC' k12 M12 hadv
      (repeat (first | refine EK.seq ?_ | refine EK.region ?_ | refine ER.done ?_ | refine ER.move rfl rfl rfl ?_ | refine ER.assign rfl rfl rfl ?_ | refine ER.nilCheck rfl rfl rfl ?_ | refine ER.fieldAddr rfl rfl rfl ?_ | refine ER.extract rfl rfl rfl rfl ?_ | refine ER.indexSl rfl rfl rfl rfl (by omega) (by omega) ?_ | refine ER.load1 rfl rfl rfl (by assumption) ?_))
      refine ER.callR rfl rfl rfl rfl rfl (hadv2.noS no7) ?_
      rintro _ h14 δ14 ⟨rfl, rfl, u14, s14, k14, V14, n14, b14, z14⟩
      have c3' := u14.hcell c3 (fun x => hb31 (hTq _ x))
      have cW15' := u14.hcell cW15 (fun x => hW1 (hTq _ x))
      have hcC' := u14.hcell hcC (fun x => hRW b (by rw [eC]; rfl) (hTq _ x))
      have hnow := now_ok (Γ := Nat) (main := true) (δ := ⟨0, m⟩) k14
      rw [n14] at hnow
      clear c3 cW15 hcC M13 hadv2
      have uF : Upd (fun b => ∃ i, i < q + 1 /\ Own (C i) (B i) b) hA h14 := (((u11.mono fun b _ ⟨i, hi, ho⟩ => ⟨i, by omega, ho⟩).trans (u12.mono fun _ _ x => x.elim)).trans (u13.mono fun b _ ho => ⟨q, by omega, ho⟩)).trans (u14.mono fun b _ ho => ⟨q, by omega, ho⟩)
      (repeat (first | refine EK.seq ?_ | refine EK.region ?_ | refine ER.done ?_ | refine ER.move rfl rfl rfl ?_ | refine ER.assign rfl rfl rfl ?_ | refine ER.nilCheck rfl rfl rfl ?_ | refine ER.fieldAddr rfl rfl rfl ?_ | refine ER.pickF rfl rfl rfl rfl ?_ | refine ER.extract rfl rfl rfl rfl ?_ | refine ER.cmpF rfl rfl rfl rfl rfl (by first | (dsimp only [cmpP]; omega) | exact rfl | exact Int.le_refl _) ?_ | refine ER.indexSl rfl rfl rfl rfl (by omega) (by omega) ?_ | refine ER.load1 rfl rfl rfl (by assumption) ?_))
      refine ER.callD rfl rfl rfl rfl rfl (hnow.noS no7) ?_
      (repeat (first | refine EK.region ?_ | refine ER.done ?_ | refine EK.skip ?_ | refine EK.inBlock ?_ | refine ER.move rfl rfl rfl ?_ | refine ER.assign rfl rfl rfl ?_ | refine ER.pickF rfl rfl rfl rfl ?_ | refine ER.cmpF rfl rfl rfl rfl rfl (by first | (dsimp only [cmpP]; omega) | exact rfl | exact Int.le_refl _) ?_ | refine ER.add (kd := .i64) rfl rfl rfl rfl (i64_in (by omega) (by omega)) ?_ | refine EK.condF rfl ?_))
      exact EK.back (again (q + 1) _ _ (by omega) ⟨rfl, by omega, uF⟩) ⟨rfl, rfl, rfl, rfl, rfl, rfl, rfl, trivial⟩
    · obtain rfl : q = nC := by omega
      obtain ⟨RR, hRR⟩ : ∃ R : Int, R = cSum (fun t => sumE ringE (u.told t)) 64 := ⟨_, rfl⟩
      have hri := crings_ok (main := true) (S := SwS Try.prog) (δ := ⟨0, m⟩) T11
      rw [<- hRR] at hri law' bR
      (repeat (first | refine EK.seq ?_ | refine EK.region ?_ | refine ER.done ?_ | refine ER.move rfl rfl rfl ?_ | refine ER.fieldAddr rfl rfl rfl ?_ | refine ER.cmpF rfl rfl rfl rfl rfl (by first | (dsimp only [cmpP]; omega) | exact rfl | exact Int.le_refl _) ?_ | refine EK.condF rfl ?_ | refine EK.exit rfl ?_ | refine ER.load1 rfl rfl rfl (by assumption) ?_))
      refine ER.callD rfl rfl rfl rfl rfl hri ?_
      (repeat (first | refine ER.move rfl rfl rfl ?_ | refine ER.cmpT rfl rfl rfl rfl rfl (by first | (dsimp only [cmpP]; omega) | exact rfl | exact Int.le_refl _) ?_ | refine ER.add (kd := .i64) rfl rfl rfl rfl (i64_in (by omega) (by omega)) ?_))
      refine ER.callR rfl rfl rfl rfl rfl (works_ok.noS no7) ?_
      rintro _ h15 δ15 ⟨rfl, u15, rfl⟩
      (repeat (first | refine ER.done ?_ | refine ER.assign rfl rfl rfl ?_ | refine ER.pickT rfl rfl rfl rfl ?_ | refine EK.ret ?_))
      exact EU.ret1 rfl rfl ⟨rfl, rfl, (uuA.over uT fun b x => T1s b x).trans u15⟩
end
end Go.Proofs.Ytidfmmaehgijaaa
