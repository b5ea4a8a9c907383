/- Steps of the walk and of the plain law (CfH to TjGR). Conditions: as each lemma says. -/
import Derived.Test.YtndllibjlfpndaaCKF
set_option linter.unusedSectionVars false
set_option linter.unusedVariables false
set_option linter.unusedSimpArgs false
namespace Go.Proofs.Ytndllibjlfpndaa
section
open Go Go.TJ Go.Proofs
variable [Dm]
section
variable {Y : Type} {L : Law Y}
theorem tfreed_mu {γ : Gf Y} {H : Hp} (hI : InvF TT L γ H) (hd : AllDn γ) {b : Nat} (hb : b ∈ L.cls γ.y) : H[b]? = some (cellO (L.val γ.y b)) := by
  have hc : ∀ j, j < γ.num -> (γ.ph j).c = 0 := fun j hj => Classical.byContradiction fun h => by
    obtain ⟨j0, _, hw⟩ := hI.j.wh j hj h
    have := (hd j j0 hj).1
    omega
  have hz : ∀ x, x ≠ 0 -> ct γ.ph γ.num b x = 0 := fun x hx => ct_zero fun j hj _ e => hx (by rw [<- e, hc j hj])
  obtain ⟨i1, i2, i3, i4, i5, i6, i7⟩ := hI.j.mi b hb
  rw [hz 6 (by omega)] at i4
  rw [hz 9 (by omega), hz 5 (by omega), hz 3 (by omega), hz 8 (by omega), hz 2 (by omega), hz 4 (by omega)] at i5
  rw [hz 2 (by omega), hz 8 (by omega), hz 3 (by omega), hz 4 (by omega), hz 5 (by omega), hz 9 (by omega)] at i6
  have hc := hI.cell b hb
  generalize γ.mu b = m at i1 i2 i3 i4 i5 i6 i7 hc
  obtain ⟨mb, mk, ms, mn, mz⟩ := m
  simp only at i1 i2 i3 i4 i5 i6
  obtain ⟨rfl, rfl, rfl, rfl, rfl⟩ : mb = 0 /\ mk = 0 /\ ms = 0 /\ mn = 0 /\ mz = 0 := by omega
  exact hc
theorem freed3 {y₀ : Y} {h h' : Hp} {n : Nat} {γ' : Gf Y} (x : Freed L y₀ h n h' γ') (hW : h.size + 2 ∉ L.cls y₀ /\ L.arrT y₀ (h.size + 2) = none /\ L.atT y₀ (h.size + 2) = none) {tF : TypeId} (hF : L.arrT y₀ h.size = some tF) :
    ∃ y₁, LRel L 0 y₀ y₁ /\ L.J y₁ /\ (∀ j, 0 < j -> j <= n -> ∃ hf, L.fin y₁ j hf) /\ (∀ b o, h[b]? = some o -> o ≠ dum -> b ∉ L.cls y₀ -> L.arrT y₀ b = none -> L.atT y₀ b = none -> h'[b]? = some o) /\ (∀ b, b ∈ L.cls y₀ -> h'[b]? = some (cellO (L.val y₁ b))) /\ (∀ b t, L.arrT y₀ b = some t -> h'[b]? = some (.cells (L.arr y₁ b) t (0, 0))) /\
      (∀ b t, L.atT y₀ b = some t -> h'[b]? = some (.cells #[.int .i64 (L.atv y₁ b)] t (0, 0))) /\ (∀ b, b ∈ L.cls y₀ -> ∀ x o, (L.bag y₁ b)[x]? = some o -> o ≠ dum -> x ≠ h.size + 2 -> h'[x]? = some o) /\ h.size < h'.size := by
  obtain ⟨γ₁, H, h1, h2, h3, h4, h5, h6, h7, rfl⟩ := x.out
  have hlt : ∀ b o, h[b]? = some o -> b < h.size := fun b o hb => (Array.getElem?_eq_some_iff.1 hb).1
  have harr : ∀ b t, L.arrT y₀ b = some t -> (H.setIfInBounds (h.size + 2) dum)[b]? = some (.cells (L.arr γ₁.y b) t (0, 0)) := fun b t hb => by
    rw [Array.getElem?_setIfInBounds_ne (fun e => by rw [<- e, hW.2.1] at hb; cases hb)]
    rw [<- h1.stat.arrT] at hb
    exact h4.arr b t hb
  refine ⟨γ₁.y, h1, h4.j.law, fun j j0 hj => ?_, fun b o hb hd hc ha ht => ?_, fun b hb => ?_, harr, fun b t hb => ?_, fun b hb x o hx hd hne => ?_, (Array.getElem?_eq_some_iff.1 (harr _ _ hF)).1⟩
  · obtain ⟨_, hs⟩ := h3 j j0 (by omega)
    obtain ⟨hf, hf'⟩ := Option.isSome_iff_exists.1 hs
    exact ⟨hf, h4.j.fin j hf j0 (by omega) hf'⟩
  · have := hlt b o hb
    rw [Array.getElem?_setIfInBounds_ne (by omega)]
    exact h5 b o (frH_old hb) hd hc ha ht (by omega)
  · rw [Array.getElem?_setIfInBounds_ne (fun e => by subst e; exact hW.1 hb)]
    have hb' : b ∈ L.cls γ₁.y := by rw [h1.stat.cls]; exact hb
    exact tfreed_mu h4 h3 hb'
  · rw [Array.getElem?_setIfInBounds_ne (fun e => by rw [<- e, hW.2.2] at hb; cases hb)]
    rw [<- h1.stat.atT] at hb
    exact h4.atm b t hb
  · rw [Array.getElem?_setIfInBounds_ne (fun e => hne e.symm)]
    exact (h7 b (by rw [h1.stat.cls]; exact hb)).get x o hx hd
end
theorem clk_cs {h : Hp} {kb : Nat} {B : Nat -> Nat} {vals : Nat -> Int} {fns : Nat -> Value} {cs : Array Value} {c : TmC} (k : Clk h kb B vals fns) (hc : h[kb]? = some (.cells cs 54 (0, 0))) (hs : cs.size = 50) (hB : c.B = B) : cs = clkA c fns := by
  have key : ∀ {o : Nat} {v : Value}, hcell h ⟨kb, o, none⟩ = some v -> cs[o]? = some v := fun {o v} hv => by
    obtain ⟨c', e, f, h1, _, h4⟩ := hcell_some hv
    rw [hc] at h1
    injection h1 with h1
    injection h1 with h1 _ _
    subst h1
    exact h4
  refine Array.ext_getElem? fun o => ?_
  rcases Nat.lt_or_ge o 50 with ho | ho
  · rcases Nat.lt_or_ge o 2 with h2 | h2
    · rw [clkA_now h2, hB]
      have : o = 0 \/ o = 1 := by omega
      rcases this with rfl | rfl
      · exact key k.pnow
      · exact key k.pbusy
    · have h3 : (o - 2) % 3 = 0 \/ (o - 2) % 3 = 1 \/ (o - 2) % 3 = 2 := by omega
      have hq : (o - 2) / 3 < 16 := by omega
      rcases h3 with h3 | h3 | h3
      · have e : o = 2 + (o - 2) / 3 * 3 := by omega
        generalize (o - 2) / 3 = q at e hq
        subst e
        rw [clkA_st hq, hB]; exact key (k.pst q hq)
      · have e : o = 2 + (o - 2) / 3 * 3 + 1 := by omega
        generalize (o - 2) / 3 = q at e hq
        subst e
        rw [clkA_du hq, hB]; exact key (k.pdu q hq)
      · have e : o = 2 + (o - 2) / 3 * 3 + 2 := by omega
        generalize (o - 2) / 3 = q at e hq
        subst e
        rw [show 2 + q * 3 + 2 = fOff q from rfl, clkA_f hq]; exact key (k.pf q hq)
  · rw [Array.getElem?_eq_none (by omega), clkA_get, if_neg (by omega)]
theorem newB_inj {N : Nat} : ∀ i j, newB N i = newB N j -> i = j := fun i j e => by unfold newB at e; split at e <;> split at e <;> omega
structure Te where
  n : Nat
  e : Nat
  N : Nat
  vE : Nat
  cv : Nat
  a : Nat
  vi : Nat -> Nat
structure Tst (h : Hp) (x : Te) (h' : Hp) : Prop where
  u : Upd (fun _ => False) h h'
  E : h'[x.vE]? = some (.cells #[.int .i64 x.e] 3 (0, 0))
  C : h'[x.cv]? = some (.cells #[ptr (x.N + 2)] 23 (0, 0))
  A : ∀ q, q < 4 -> h'[x.a + q]? = some (.cells #[.int .i64 0] 29 (0, 0))
  K : Clk h' (x.N + 2) (newB x.N) (fun _ => 0) (fun _ => .nilFunc)
  K5 : ∃ cs, h'[x.N + 2]? = some (.cells cs 54 (0, 0)) /\ cs.size = 50
  lN : h.size <= x.N
  la : h.size <= x.a
  n1 : x.n <= 6
  e1 : x.e <= 19
theorem Tst.upd {h h1 h2 : Hp} {x : Te} (k : Tst h x h1) (u : Upd (fun _ => False) h1 h2) : Tst h x h2 := ⟨k.u.trans u, u.get k.E fun z => z, u.get k.C fun z => z, fun q hq => u.get (k.A q hq) fun z => z, k.K.upd u fun _ z => z.elim, let ⟨cs, h1, h2⟩ := k.K5; ⟨cs, u.get h1 fun z => z, h2⟩, k.lN, k.la, k.n1, k.e1⟩
def Te.cl (x : Te) : List Nat := (List.range 34).map (newB x.N)
def tmC (x : Te) (hF : Hp) : TmC where
  n := x.n
  e := x.e
  B := newB x.N
  kb := x.N + 2
  fb := hF.size
  A q := x.a + q
  cv := x.cv
  top := hF.size + 3
  ro b := b < hF.size + 2 /\ b ∉ x.cl /\ b ≠ x.N + 2 /\ b ≠ hF.size /\ (∀ q, q < 4 -> b ≠ x.a + q) /\ ∃ c e f, (frH hF (x.n + 1))[b]? = some (.cells c e f) /\ Pres (frH hF (x.n + 1)) b
def tmY0 (c : TmC) : TmY := ⟨c, fun _ => 0, fun _ => 0, fun _ => .nilFunc, fun _ => 0, fun _ => 0, fun _ => #[], fun _ => 0, fun _ => 0, fun _ => 0, fun _ => 0, fun i => if i = c.n + 1 then 195 * (2 * c.e) else 6 * c.e⟩
theorem tcells_ne {hF : Hp} {b b' : Nat} {c c' : Array Value} {e e' : TypeId} (h1 : hF[b]? = some (.cells c e (0, 0))) (h2 : hF[b']? = some (.cells c' e' (0, 0))) (he : e ≠ e') : b ≠ b' := by
  rintro rfl
  rw [h1] at h2
  injection h2 with h2
  injection h2 with _ h2 _
  exact he h2
theorem nsum_leM : ∀ (n M : Nat) (f : Nat -> Nat), (∀ j, j < n -> f j <= M) -> nsum n f <= n * M
  | 0, _, _, _ => by simp [nsum]
  | n + 1, M, f, h => by
    have h1 := nsum_leM n M f fun j hj => h j (by omega)
    have h2 := h n (by omega)
    rw [nsum, Nat.succ_mul]
    omega
section
variable {h hF : Hp} {x : Te}
theorem Tst.cls (k : Tst h x hF) {b : Nat} (hb : b ∈ x.cl) : h.size <= b /\ b < hF.size /\ hF[b]? = some (cellO 0) := by
  obtain ⟨j, hj, rfl⟩ := List.mem_map.1 hb
  have hc := k.K.cell j (List.mem_range.1 hj)
  have := k.lN
  refine ⟨?_, lt_of_get hc, hc⟩
  unfold newB; split <;> omega
theorem Tst.ncls (k : Tst h x hF) {b : Nat} {c : Array Value} {e : TypeId} (hb : hF[b]? = some (.cells c e (0, 0))) (he : e ≠ 79) : b ∉ x.cl := fun hm => by
  obtain ⟨_, _, hv⟩ := k.cls hm
  exact tcells_ne hb (e' := 79) hv he rfl
theorem Tst.roOf (k : Tst h x hF) {b : Nat} {c : Array Value} {e : TypeId} (hb : hF[b]? = some (.cells c e (0, 0))) (hc : c ≠ #[]) (h1 : e ≠ 79) (h2 : e ≠ 54) (h3 : e ≠ 29) : (tmC x hF).ro b := by
  have hlt := lt_of_get hb
  obtain ⟨cs, hcs, _⟩ := k.K5
  exact ⟨by omega, k.ncls hb h1, tcells_ne hb hcs h2, by omega, fun q hq => tcells_ne hb (k.A q hq) h3, _, _, _, frH_old hb, pres_of (frH_old hb) (by unfold dum; intro z; injection z with z; exact hc z)⟩
theorem tsum0 (n : Nat) (f : Nat -> Nat) (h : ∀ j, f j = 0) : nsum n f = 0 := nsum_zero _ _ fun j _ => h j
theorem Tst.kbd (k : Tst h x hF) : nsum (x.n + 2) (tmY0 (tmC x hF)).bd <= 60000 := by
  have h1 := k.n1
  have h2 := k.e1
  have := nsum_leM (x.n + 2) 7410 (tmY0 (tmC x hF)).bd fun j _ => by
    show (if j = x.n + 1 then 195 * (2 * x.e) else 6 * x.e) <= 7410
    split <;> omega
  have h3 : (x.n + 2) * 7410 <= 8 * 7410 := Nat.mul_le_mul_right _ (by omega)
  omega
theorem Tst.kJ (k : Tst h x hF) : TmJ (tmY0 (tmC x hF)) where
  inj := newB_inj
  ck j hj := by
    have hm : newB x.N j ∈ x.cl := List.mem_map.2 ⟨j, List.mem_range.2 hj, rfl⟩
    obtain ⟨cs, hcs, _⟩ := k.K5
    refine ⟨fun e => k.ncls hcs (by decide) ((show newB x.N j = x.N + 2 from e) ▸ hm), fun e => ?_, fun q hq e => k.ncls (k.A q hq) (by decide) ((show newB x.N j = x.a + q from e) ▸ hm)⟩
    have := (k.cls hm).2.1
    have e' : newB x.N j = hF.size := e
    omega
  ad := by
    obtain ⟨cs, hcs, _⟩ := k.K5
    exact ⟨Nat.ne_of_lt (lt_of_get hcs), fun q hq => ⟨tcells_ne (k.A q hq) hcs (by decide), Nat.ne_of_lt (lt_of_get (k.A q hq))⟩⟩
  ai p q _ _ e := by
    have e' : x.a + p = x.a + q := e
    omega
  n1 := k.n1
  e1 := k.e1
  rob b hb := by
    have := hb.1
    show b < hF.size + 3
    omega
  sv _ _ := rfl
  bnd j hj := by
    have := k.kbd
    show 0 + 2 * nsum (x.n + 2) (tmY0 (tmC x hF)).bd <= 200000
    omega
  o0 _ _ _ := .inl rfl
  o1 _ _ z := absurd z (Nat.lt_irrefl 0)
  set j _ z := by
    have z' : 0 % 4 = 2 := z
    omega
  emp _ _ := rfl
  nw := ⟨Int.le_refl 0, by show (0 : Int) <= 4611686018427387904; omega⟩
  av _ _ := rfl
  a3 := rfl
  kb q _ := by
    have := k.kbd
    show 0 + nsum (x.n + 2) (tmY0 (tmC x hF)).bd <= 200000
    omega
  sum := by
    show 0 + nsum _ (fun _ => 0) = 0 + nsum _ (fun _ => 0) + 0 + nsum 16 (fun _ => occ 0 0)
    rw [tsum0 (_ + 2) _ fun _ => rfl, tsum0 16 (fun _ => occ 0 0) fun _ => rfl]
  p0 := ⟨rfl, rfl⟩
theorem tarrT_eq {c : TmC} {b : Nat} : tmL.arrT (tmY0 c) b = if b = c.kb then some 54 else if b = c.fb then some 4 else none := rfl
theorem tatT_eq {c : TmC} {b : Nat} : tmL.atT (tmY0 c) b = if b = c.A 0 \/ b = c.A 1 \/ b = c.A 2 \/ b = c.A 3 then some 29 else none := rfl
theorem Tst.arrN (_ : Tst h x hF) {b : Nat} (h1 : b ≠ x.N + 2) (h3 : b ≠ hF.size) : tmL.arrT (tmY0 (tmC x hF)) b = none := by
  rw [tarrT_eq]
  exact (if_neg h1).trans (if_neg h3)
theorem Tst.atN (_ : Tst h x hF) {b : Nat} (h1 : ∀ q, q < 4 -> b ≠ x.a + q) : tmL.atT (tmY0 (tmC x hF)) b = none := by
  rw [tatT_eq]
  refine if_neg fun z => ?_
  rcases z with z | z | z | z
  · exact h1 0 (by omega) z
  · exact h1 1 (by omega) z
  · exact h1 2 (by omega) z
  · exact h1 3 (by omega) z
theorem Tst.arrF (k : Tst h x hF) : tmL.arrT (tmY0 (tmC x hF)) hF.size = some 4 := by
  obtain ⟨cs, hcs, _⟩ := k.K5
  rw [tarrT_eq]
  exact (if_neg (show ¬ hF.size = x.N + 2 from fun e => by have := lt_of_get hcs; omega)).trans (if_pos rfl)
theorem Tst.aN (k : Tst h x hF) {b : Nat} (hb : hF.size <= b) : ∀ q, q < 4 -> b ≠ x.a + q := fun q hq e => by
  have := lt_of_get (k.A q hq)
  omega
theorem Tst.kN (k : Tst h x hF) {b : Nat} (hb : hF.size <= b) : b ≠ x.N + 2 := fun e => by
  obtain ⟨cs, hcs, _⟩ := k.K5
  have := lt_of_get hcs
  omega
theorem Tst.starts (k : Tst h x hF) : Starts TT tmL (tmY0 (tmC x hF)) (hF.size + 2) (frH hF (x.n + 1)) where
  cell b hb := by
    obtain ⟨j, hj, rfl⟩ := List.mem_map.1 hb
    exact frH_old (k.K.cell j (List.mem_range.1 hj))
  arr b t hb := by
    rw [tarrT_eq] at hb
    obtain ⟨cs, hcs, hs⟩ := k.K5
    by_cases e : b = (tmC x hF).kb
    · rw [if_pos e] at hb
      cases hb
      have e2 := clk_cs (c := tmC x hF) k.K hcs hs rfl
      subst e
      show _ = some (Obj.cells (if (tmC x hF).kb = (tmC x hF).kb then clkA (tmC x hF) (fun _ => Value.nilFunc) else _) _ _)
      rw [if_pos rfl, <- e2]
      exact frH_old hcs
    · rw [if_neg e] at hb
      by_cases e2 : b = (tmC x hF).fb
      · rw [if_pos e2] at hb
        cases hb
        subst e2
        show _ = some (Obj.cells (if (tmC x hF).fb = (tmC x hF).kb then _ else Array.replicate (x.n + 1) (Value.bool false)) _ _)
        rw [if_neg e, <- List.toArray_replicate]
        exact (frH_at hF (x.n + 1)).1
      · rw [if_neg e2] at hb; cases hb
  ne b t hb := by
    rw [tarrT_eq] at hb
    by_cases e : b = (tmC x hF).kb
    · subst e
      show (if (tmC x hF).kb = (tmC x hF).kb then clkA (tmC x hF) (fun _ => Value.nilFunc) else _) ≠ #[]
      rw [if_pos rfl]
      intro z
      have := congrArg Array.size z
      simp [clkA] at this
    · show (if b = (tmC x hF).kb then _ else Array.replicate (x.n + 1) (Value.bool false)) ≠ #[]
      rw [if_neg e]
      intro z
      have := congrArg Array.size z
      simp at this
  atm b t hb := by
    rw [tatT_eq] at hb
    split at hb
    · rename_i z
      cases hb
      have hq : ∃ q, q < 4 /\ b = x.a + q := by
        rcases z with z | z | z | z
        · exact ⟨0, by omega, z⟩
        · exact ⟨1, by omega, z⟩
        · exact ⟨2, by omega, z⟩
        · exact ⟨3, by omega, z⟩
      obtain ⟨q, hq, rfl⟩ := hq
      exact frH_old (k.A q hq)
    · cases hb
  bag _ := rfl
  wg := (frH_at hF (x.n + 1)).2.2
  wc := ⟨fun hm => absurd (k.cls hm).2.1 (by omega), k.arrN (k.kN (by omega)) (by omega), k.atN (k.aN (by omega))⟩
  J := k.kJ
  ro b hb := hb.2.2.2.2.2
set_option maxHeartbeats 4000000 in
theorem Tst.free (k : Tst h x hF) {γ₀ : Gf TmY} (hst : γ₀.st = 0) (hnum : γ₀.num = 1) {B cap : Nat} (hvi : ∀ j, j < x.n -> hF[x.vi j]? = some (.cells #[.int .i64 j] 3 (0, 0))) (hBn : ∃ c f, hF[B]? = some (.cells c 39 f))
    (hB : ∀ j, j < x.n + 1 -> hcell hF ⟨B, j, none⟩ = some (.func (.func (tmF (tmC x hF) j)) #[] (tmCap (tmC x hF) x.vE x.vi j))) :
    CallW Try.prog true (SitM Try.prog (XF TT tmL)) 14 #[.slice (some ⟨B, 0, none⟩) (x.n + 1 : Nat) cap] hF ⟨0, γ₀⟩ (Ret fun v h' δ' => v = .slice none 0 0 /\ δ'.d = 0 /\ Freed tmL (tmY0 (tmC x hF)) hF (x.n + 1) h' δ'.g) := by
  have n1 := k.n1
  obtain ⟨cB, fB, hBc⟩ := hBn
  obtain ⟨cs, hcs, _⟩ := k.K5
  have hBlt := lt_of_get hBc
  have nt : ∀ {b' : Nat} {c' : Array Value} {e' : TypeId} {f' : Nat × Nat}, hF[b']? = some (.cells c' e' f') -> e' ≠ 39 -> B ≠ b' := fun {b' c' e' f'} hb he z => by
    subst z
    rw [hBc] at hb
    injection hb with hb
    injection hb with _ hb _
    exact he hb.symm
  have rV : (tmC x hF).ro (hF.size + 1) := ⟨by omega, fun hm => absurd (k.cls hm).2.1 (by omega), k.kN (by omega), by omega, k.aN (by omega), _, _, _, (frH_at hF (x.n + 1)).2.1, pres_of (frH_at hF (x.n + 1)).2.1 (by unfold dum; simp)⟩
  refine free_ok tmL_ok (bf := tmF (tmC x hF)) (bcap := tmCap (tmC x hF) x.vE x.vi) (hbf := fun j => tmF_body _ _) hst hnum (by omega) hB k.starts ⟨fun hm => ?_, k.arrN (nt hcs (by decide)) (by omega), k.atN fun q hq => nt (k.A q hq) (by decide)⟩ k.arrF (fun y hJ hr => ?_) rV (fun b hb => ⟨hb.2.1, k.arrN hb.2.2.1 hb.2.2.2.1, k.atN hb.2.2.2.2.1, hb.1⟩) ?_
  · exact nt (f' := (0, 0)) (k.cls hm).2.2 (by decide) rfl
  · have e : y.c = tmC x hF := hr.law.c
    have := (tm_fall hJ (w := 0) (Nat.succ_pos _)).2.1
    rw [e] at this
    exact this
  · refine tbody_ok (c := tmC x hF) rfl k.e1 n1 rfl rfl (fun b hb => by have := hb.1; show b < hF.size + 3; omega) (hcell_of k.E rfl) (k.roOf k.E (by simp) (by decide) (by decide) (by decide)) (hcell_of k.C rfl) (k.roOf k.C (by simp) (by decide) (by decide) (by decide)) (fun j hj => ⟨hcell_of (hvi j hj) rfl, k.roOf (hvi j hj) (by simp) (by decide) (by decide) (by decide)⟩) rV k.kJ.ad.1 (fun j hj => ?_) ?_
    · have hj' : j < x.n := hj
      exact ⟨rfl, by show 6 * x.e <= if j + 1 = x.n + 1 then _ else 6 * x.e; rw [if_neg (by omega)]; exact Nat.le_refl _, rfl, rfl⟩
    · exact ⟨rfl, ⟨rfl, by show 195 * (2 * x.e) <= if x.n + 1 = x.n + 1 then 195 * (2 * x.e) else _; rw [if_pos rfl]; exact Nat.le_refl _, rfl, rfl⟩, rfl, rfl, fun j hj _ e => by have e' : 0 = x.n + 1 := e; omega⟩
end
end
section
open Go Go.TJ Go.Proofs
variable [Dm]
abbrev cntO (z : Int) : Obj := .cells #[.int .i64 z] 29 (0, 0)
def cntS (s : Nat -> Nat) : Nat := nsum 16 fun k => if s k % 4 = 2 then 1 else 0
structure Ten (h : Hp) (x : Te) (v : Nat -> Int) (s : Nat -> Nat) (fv : Nat -> Value) (d : Nat -> Nat) (a0 a1 a2 : Nat) (h' : Hp) : Prop where
  u : Upd (fun _ => False) h h'
  C : h'[x.cv]? = some (.cells #[ptr (x.N + 2)] 23 (0, 0))
  K : Clk h' (x.N + 2) (newB x.N) v fv
  A0 : h'[x.a + 0]? = some (cntO a0)
  A1 : h'[x.a + 1]? = some (cntO a1)
  A2 : h'[x.a + 2]? = some (cntO a2)
  A3 : h'[x.a + 3]? = some (cntO 0)
  sv : ∀ k, k < 16 -> v (2 + 2 * k) = s k
  sb : ∀ k, k < 16 -> s k <= 200000
  s3 : ∀ k, k < 16 -> s k % 4 ≠ 3
  set : ∀ k, k < 16 -> s k % 4 = 2 -> h'[d k]? = some (dueO (v (3 + 2 * k))) /\ fv k = (tmC x #[]).clos (d k) /\ v (3 + 2 * k) <= 4611686018427387904
  nw : 0 <= v 0 /\ v 0 <= 4611686018427387904
  bz : v 1 = 0
  lN : h.size <= x.N
  la : h.size <= x.a
  sum : a0 = a1 + a2 + cntS s
  ab : a0 <= 200000
section
variable {h hF h' : Hp} {x : Te}
set_option maxHeartbeats 4000000 in
theorem Tst.fin (k : Tst h x hF) (hnd : ∀ (b : Nat) (o : Obj), h[b]? = some o -> o ≠ dum) {γ' : Gf TmY} (f : Freed tmL (tmY0 (tmC x hF)) hF (x.n + 1) h' γ') : ∃ v s fv d a0 a1 a2, Ten h x v s fv d a0 a1 a2 h' := by
  obtain ⟨cs, hcs, hs⟩ := k.K5
  obtain ⟨y, hr, hJ, hfin, old, cel, ar, atm, bag, hsz⟩ := freed3 f ⟨fun hm => absurd (k.cls hm).2.1 (by omega), k.arrN (k.kN (by omega)) (by omega), k.atN (k.aN (by omega))⟩ k.arrF
  have hc : y.c = tmC x hF := hr.law.c
  have key : ∀ (b : Nat) (c : Array Value) (e : TypeId), hF[b]? = some (.cells c e (0, 0)) -> c ≠ #[] -> e ≠ 79 -> e ≠ 54 -> e ≠ 29 -> h'[b]? = some (.cells c e (0, 0)) := fun b c e hb h0 h1 h2 h3 =>
    old b _ hb (by unfold dum; intro z; injection z with z; exact h0 z) (k.ncls hb h1) (k.arrN (tcells_ne hb hcs h2) (Nat.ne_of_lt (lt_of_get hb))) (k.atN fun q hq => tcells_ne hb (k.A q hq) h3)
  have fn : ∀ i, 0 < i -> i <= x.n + 1 -> y.ps i = 0 /\ y.pt i = 0 /\ (i = x.n + 1 -> y.bz = 0 /\ ∀ q, q < 16 -> y.ow q ≠ i) := fun i i0 hi => by
    obtain ⟨hf, hq⟩ := hfin i i0 hi
    have := hq i0
    rw [hc] at this
    exact this
  have cell : ∀ j, j < 34 -> h'[newB x.N j]? = some (cellO (y.v (newB x.N j))) := fun j hj => cel _ (List.mem_map.2 ⟨j, List.mem_range.2 hj, rfl⟩)
  have karr := ar (x.N + 2) 54 (by rw [tarrT_eq]; exact if_pos rfl)
  have ekarr : tmL.arr y (x.N + 2) = clkA y.c y.fv := by
    show (if x.N + 2 = y.c.kb then clkA y.c y.fv else _ : Array Value) = _
    rw [hc]; exact if_pos rfl
  rw [ekarr] at karr
  have hcB : y.c.B = newB x.N := by rw [hc]; rfl
  have atq : ∀ q, q < 4 -> h'[x.a + q]? = some (cntO (y.a (x.a + q))) := fun q hq => atm (x.a + q) _ (by
    rw [tatT_eq]
    refine if_pos ?_
    have : q = 0 \/ q = 1 \/ q = 2 \/ q = 3 := by omega
    rcases this with rfl | rfl | rfl | rfl
    · exact .inl rfl
    · exact .inr (.inl rfl)
    · exact .inr (.inr (.inl rfl))
    · exact .inr (.inr (.inr rfl)))
  have av : ∀ q, q < 3 -> y.a (x.a + q) = y.k q := fun q hq => by
    have := hJ.av q hq
    rw [hc] at this
    exact this
  have a3 : y.a (x.a + 3) = 0 := by
    have := hJ.a3
    rw [hc] at this
    exact this
  obtain ⟨bz, now_⟩ := (fn (x.n + 1) (by omega) (Nat.le_refl _)).2.2 rfl
  have hs3 : ∀ q, q < 16 -> y.s q % 4 ≠ 3 := fun q hq e => by
    rcases Nat.eq_zero_or_pos (y.ow q) with z | z
    · have := hJ.o0 q hq z; omega
    · rcases hJ.o1 q hq z with ⟨z1, _⟩ | ⟨_, z2⟩
      · omega
      · rw [hc] at z2; exact now_ q hq z2
  have hset : ∀ q, q < 16 -> y.s q % 4 = 2 -> ∃ d, y.bg (newB x.N (2 + 2 * q)) = bagH d (y.v (newB x.N (3 + 2 * q))) /\ y.fv q = (tmC x hF).clos d /\ hF.size + 3 <= d /\ y.v (newB x.N (3 + 2 * q)) <= 4611686018427387904 := fun q hq e => by
    obtain ⟨⟨d, q1, q2, q3⟩, _, q4⟩ := hJ.set q hq e
    unfold TmY.st TmY.du at q1
    unfold TmY.du at q4
    rw [hcB] at q1 q4
    rw [hc] at q2 q3
    exact ⟨d, q1, q2, q3, q4⟩
  obtain ⟨d, hd⟩ : ∃ d : Nat -> Nat, ∀ q, q < 16 -> y.s q % 4 = 2 -> y.bg (newB x.N (2 + 2 * q)) = bagH (d q) (y.v (newB x.N (3 + 2 * q))) /\ y.fv q = (tmC x hF).clos (d q) /\ hF.size + 3 <= d q /\ y.v (newB x.N (3 + 2 * q)) <= 4611686018427387904 := by
    refine ⟨fun q => if hq : q < 16 /\ y.s q % 4 = 2 then Classical.choose (hset q hq.1 hq.2) else 0, fun q h1 h2 => ?_⟩
    simp only [dif_pos (And.intro h1 h2)]
    exact Classical.choose_spec (hset q h1 h2)
  refine ⟨fun j => y.v (newB x.N j), y.s, y.fv, d, y.k 0, y.k 1, y.k 2, ⟨Nat.le_trans k.u.size (Nat.le_of_lt hsz), fun b hb _ => ?_⟩, key _ _ _ k.C (by simp) (by decide) (by decide) (by decide), ⟨⟨_, karr⟩, ?_, ?_, fun i hi => ?_, fun i hi => ?_, fun i hi => ?_, cell, fun i j _ _ e => newB_inj i j e, k.K.cne⟩, ?_, ?_, ?_, ?_, fun q hq => ?_, fun q hq => ?_, hs3, fun q hq e => ?_, ?_, ?_, k.lN, k.la, ?_, ?_⟩
  · obtain ⟨o, ho⟩ : ∃ o, h[b]? = some o := ⟨_, Array.getElem?_eq_getElem hb⟩
    have e1 := k.lN
    have e2 := k.la
    have e3 := k.u.size
    rw [ho]
    exact old b o (k.u.get ho fun z => z) (hnd b o ho) (fun hm => absurd (k.cls hm).1 (by omega)) (k.arrN (by omega) (by omega)) (k.atN fun q hq => by omega)
  · refine hcell_of karr ?_
    rw [clkA_now (by omega), hcB]
  · refine hcell_of karr ?_
    rw [clkA_now (by omega), hcB]
  · refine hcell_of karr ?_
    rw [clkA_st hi, hcB]
  · refine hcell_of karr ?_
    rw [clkA_du hi, hcB]
  · exact hcell_of karr (clkA_f hi)
  · rw [atq 0 (by omega), av 0 (by omega)]
  · rw [atq 1 (by omega), av 1 (by omega)]
  · rw [atq 2 (by omega), av 2 (by omega)]
  · rw [atq 3 (by omega), a3]
  · have := hJ.sv q hq
    unfold TmY.st at this
    rw [hcB] at this
    exact this
  · have := hJ.bnd q hq
    omega
  · obtain ⟨q1, q2, q3, q4⟩ := hd q hq e
    have hb := bag (newB x.N (2 + 2 * q)) (List.mem_map.2 ⟨2 + 2 * q, List.mem_range.2 (by omega), rfl⟩) (d q) (dueO (y.v (newB x.N (3 + 2 * q)))) (by rw [show tmL.bag y = y.bg from rfl, q1]; exact bagH_at _ _) (dueO_ne _) (by omega)
    exact ⟨hb, q2, q4⟩
  · have := hJ.nw
    unfold TmY.nw at this
    rw [hcB] at this
    exact this
  · unfold TmY.bz at bz
    rw [hcB] at bz
    exact bz
  · have h0 := hJ.sum
    have e1 : nsum (y.c.n + 2) y.ps = 0 := nsum_zero _ _ fun j hj => by
      rcases Nat.eq_zero_or_pos j with z | z
      · rw [z]; exact hJ.p0.1
      · exact (fn j z (by rw [hc] at hj; have : j < x.n + 2 := hj; omega)).1
    have e2 : nsum (y.c.n + 2) y.pt = 0 := nsum_zero _ _ fun j hj => by
      rcases Nat.eq_zero_or_pos j with z | z
      · rw [z]; exact hJ.p0.2
      · exact (fn j z (by rw [hc] at hj; have : j < x.n + 2 := hj; omega)).2.1
    have e3 : (nsum 16 fun q => occ (y.s q) (y.rr q)) = cntS y.s := nsum_congr _ _ _ fun q hq => by
      unfold occ
      rw [if_neg (hs3 q hq)]
    rw [e1, e2, e3] at h0
    omega
  · have := hJ.kb 0 (by omega)
    omega
end
theorem lk_none' {vals : Nat -> Int} {m : Int} : ∀ {n : Nat}, lk vals m n = none -> ∀ q, q < n -> ¬ ((vals (2 + 2 * q)).tmod 4 = 2 /\ vals (3 + 2 * q) <= m)
  | 0, _, q, hq => by omega
  | n + 1, h, q, hq => by
    unfold lk at h
    split at h
    · cases h
    · rename_i hn
      by_cases e : q = n
      · subst e
        exact fun z => hn ⟨z.1, z.2, fun b hb => by rw [h] at hb; cases hb⟩
      · exact lk_none' h q (by omega)
section
variable {Γ : Type} {main : Bool} {h : Hp} {δ : Ix Γ} {c : TmC}
theorem ring_ok {B : Nat -> Nat} {vals : Nat -> Int} {fns : Nat -> Value} {a d : Nat} {u z : Int} (k : Clk h c.kb B vals fns) (hcv : h[c.cv]? = some (.cells #[ptr c.kb] 23 (0, 0))) (ha : h[c.A 2]? = some (cntO a)) (hd : h[d]? = some (dueO u)) (hz : vals 0 = z) (huz : u <= z) (hab : a <= 1000000) (hA : ¬ Own c.kb B (c.A 2)) :
    CallW Try.prog main NoS 8 #[.pointer none, ptr (c.A 2), ptr c.cv, ptr d, ptr (c.A 3)] h δ (Ret fun _ h' δ' => δ' = δ /\ h' = h.setIfInBounds (c.A 2) (cntO ((a + 1 : Nat) : Int))) := by
  subst hz
  have hv : IntKind.i64.wrap ((a : Int) + 1) = ((a + 1 : Nat) : Int) := by rw [i64_in (by omega) (by omega)]; rfl
  have es : hset h ⟨c.A 2, 0, none⟩ (.int .i64 ((a + 1 : Nat) : Int)) = h.setIfInBounds (c.A 2) (cntO ((a + 1 : Nat) : Int)) := hset_one (v := .int .i64 ((a + 1 : Nat) : Int)) ha
  have ne1 : c.A 2 ≠ c.cv := fun e => by
    rw [<- e, ha] at hcv
    injection hcv with hcv
    injection hcv with _ hcv _
    exact absurd hcv (by decide)
  have ne2 : c.A 2 ≠ d := fun e => by
    rw [<- e, ha] at hd
    injection hd with hd
    injection hd with _ hd _
    exact absurd hd (by decide)
  refine CallW.start (n := 12) rfl rfl ?_
  (repeat (first | refine EK.seq ?_ | refine EK.region ?_))
  refine ER.callD rfl rfl rfl rfl rfl (aadd_ok hv (hcell_of ha rfl) (hfroz_of ha) (fun x => x)) ?_
  rw [es]
  have hcv2 : (h.setIfInBounds (c.A 2) (cntO ((a + 1 : Nat) : Int)))[c.cv]? = some (.cells #[ptr c.kb] 23 (0, 0)) := by rw [get_set_ne _ ne1]; exact hcv
  have hd2 : (h.setIfInBounds (c.A 2) (cntO ((a + 1 : Nat) : Int)))[d]? = some (dueO u) := by rw [get_set_ne _ ne2]; exact hd
  have k2 : Clk (h.setIfInBounds (c.A 2) (cntO ((a + 1 : Nat) : Int))) c.kb B vals fns := k.upd (Upd.set (T := fun b => b = c.A 2) _ _ _ rfl) fun b hb => hb ▸ hA
  generalize h.setIfInBounds (c.A 2) (cntO ((a + 1 : Nat) : Int)) = h2 at hcv2 hd2 k2 ⊢
  (repeat (first | refine EK.seq ?_ | refine ER.done ?_))
  refine EK.regionAny (fun h' => hcell h' ⟨c.cv, 0, none⟩ = some (ptr c.kb) /\ hcell h' ⟨d, 0, none⟩ = some (.int .i64 u)) ?_
  have hZ : hcell h2 ⟨c.cv, 0, none⟩ = some (ptr c.kb) /\ hcell h2 ⟨d, 0, none⟩ = some (.int .i64 u) := ⟨hcell_of hcv2 rfl, hcell_of hd2 rfl⟩
  refine EA.tLoad 0 rfl (by kernel_rfl) rfl rfl rfl rfl (fun _ hz => hz.1) hZ ?_
  refine EA.tLoad 2 rfl (by kernel_rfl) rfl rfl rfl rfl (fun _ hz => hz.2) hZ ?_
  refine EA.callD 1 rfl (by kernel_rfl) rfl rfl rfl rfl rfl rfl (now_ok k2) hZ ?_
  have hnl : ¬ (vals 0 < u) := by omega
  refine EA.tCmpF 3 rfl (by kernel_rfl) rfl rfl rfl rfl rfl rfl (by first | (dsimp only [cmpP]; omega) | exact rfl | exact Int.le_refl _) hZ ?_
  refine EA.done (by kernel_rfl) ?_
  (repeat (first | refine EK.skip ?_ | refine EK.condF rfl ?_))
  refine EK.done ?_
  exact EU.ret0 rfl ⟨rfl, rfl⟩
def lastV (v : Nat -> Int) (m : Int) (s : Nat -> Nat) : Nat -> Int := fun j => if j = 0 then m else if j = 1 then 1 else if j % 2 = 0 then s ((j - 2) / 2) else v j
theorem lastV_st {v : Nat -> Int} {m : Int} {s : Nat -> Nat} (k : Nat) : lastV v m s (2 + 2 * k) = s k := by
  unfold lastV
  rw [if_neg (by omega), if_neg (by omega), if_pos (by omega), show (2 + 2 * k - 2) / 2 = k by omega]
theorem lastV_du {v : Nat -> Int} {m : Int} {s : Nat -> Nat} (k : Nat) : lastV v m s (3 + 2 * k) = v (3 + 2 * k) := by
  unfold lastV
  rw [if_neg (by omega), if_neg (by omega), if_neg (by omega)]
structure LastI (h0 : Hp) (x : Te) (v : Nat -> Int) (fv : Nat -> Value) (d : Nat -> Nat) (a0 a1 a2 T base : Nat) (s : Nat -> Nat) (r : Nat) (h : Hp) : Prop where
  u : Upd (fun _ => False) h0 h
  K : Clk h (x.N + 2) (newB x.N) (lastV v 4611686018427387904 s) fv
  C : h[x.cv]? = some (.cells #[ptr (x.N + 2)] 23 (0, 0))
  A0 : h[x.a + 0]? = some (cntO a0)
  A1 : h[x.a + 1]? = some (cntO a1)
  A2 : h[x.a + 2]? = some (cntO ((a2 + r : Nat) : Int))
  A3 : h[x.a + 3]? = some (cntO 0)
  base : base <= h.size
  sb : ∀ k, k < 16 -> s k % 4 = 2 -> s k <= 200000
  set : ∀ k, k < 16 -> s k % 4 = 2 -> h[d k]? = some (dueO (v (3 + 2 * k))) /\ fv k = (tmC x #[]).clos (d k) /\ v (3 + 2 * k) <= 4611686018427387904
  cnt : r + cntS s = T
theorem cntS_upd {s : Nat -> Nat} {k x : Nat} (hk : k < 16) (h2 : s k % 4 = 2) (hx : x % 4 ≠ 2) : cntS (t1 s k x) + 1 = cntS s := by
  have := nsum_upd 16 (fun j => if t1 s k x j % 4 = 2 then 1 else 0) (fun j => if s j % 4 = 2 then 1 else 0) k hk fun j _ hj => by rw [t1_ne hj]
  simp only [t1_same, if_pos h2, if_neg hx] at this
  exact this
theorem cntS_le (s : Nat -> Nat) : cntS s <= 16 := nsum_le _ _ fun j _ => by split <;> omega
theorem LastI.upd {h0 : Hp} {x : Te} {v : Nat -> Int} {fv : Nat -> Value} {d : Nat -> Nat} {a0 a1 a2 T base : Nat} {s : Nat -> Nat} {r : Nat} {h h' : Hp} (i : LastI h0 x v fv d a0 a1 a2 T base s r h) (u : Upd (fun _ => False) h h') : LastI h0 x v fv d a0 a1 a2 T base s r h' :=
  ⟨i.u.trans u, i.K.upd u fun _ z => z.elim, u.get i.C fun z => z, u.get i.A0 fun z => z, u.get i.A1 fun z => z, u.get i.A2 fun z => z, u.get i.A3 fun z => z, Nat.le_trans i.base u.size, i.sb, fun k hk e => let ⟨q1, q2⟩ := i.set k hk e; ⟨u.get q1 fun z => z, q2⟩, i.cnt⟩
theorem tcell_ne {hF : Hp} {b b' : Nat} {c c' : Array Value} {e e' : TypeId} {f f' : Nat × Nat} (h1 : hF[b]? = some (.cells c e f)) (h2 : hF[b']? = some (.cells c' e' f')) (he : e ≠ e') : b ≠ b' := by
  rintro rfl
  rw [h1] at h2
  injection h2 with h2
  injection h2 with _ h2 _
  exact he h2
theorem own_ne {x : Te} {vals : Nat -> Int} {fns : Nat -> Value} {b : Nat} {c : Array Value} {e : TypeId} {f : Nat × Nat} (k : Clk h (x.N + 2) (newB x.N) vals fns) (hb : h[b]? = some (.cells c e f)) (h1 : e ≠ 79) (h2 : e ≠ 54) : ¬ Own (x.N + 2) (newB x.N) b := by
  rintro (z | ⟨j, hj, z⟩)
  · obtain ⟨cs, hcs⟩ := k.obj
    exact tcell_ne hb hcs h2 z
  · exact tcell_ne (e' := 79) hb (k.cell j hj) h1 z
theorem last_acc {h0 : Hp} {x : Te} {v : Nat -> Int} {fv : Nat -> Value} {d : Nat -> Nat} {a0 a1 a2 T base : Nat} (hN : h0.size <= x.N) (ha : h0.size <= x.a) (hab : a2 + T <= 400000) (hT : T <= 16) (own : ∀ b, Own (x.N + 2) (newB x.N) b -> b < base) (hA : x.a + 2 < base) :
    Acc main δ (x.N + 2) (newB x.N) base 4611686018427387904 (lastV v 4611686018427387904) (fun _ => fv) (LastI h0 x v fv d a0 a1 a2 T base) := by
  refine ⟨fun s r h i => ⟨i.K, i.base⟩, fun s r h h' i u => i.upd u, own, fun s r h₀ h i I u0 hr hl => ?_⟩
  have hz0 := I.base
  have I1 := I.upd u0
  obtain ⟨hi16, hm, hdu⟩ := lk_lt hl
  rw [lastV_st, tm4] at hm
  have hs2 : s i % 4 = 2 := by omega
  rw [lastV_du] at hdu
  have hsb := I1.sb i hi16 hs2
  obtain ⟨q1, q2, q3⟩ := I1.set i hi16 hs2
  have hcnt := I1.cnt
  have hru : r + 1 <= T := by
    have := cntS_upd (x := 0) hi16 hs2 (by omega)
    omega
  have k1 := I1.K.set (j := 2 + 2 * i) (by omega) (lastV v 4611686018427387904 s (2 + 2 * i) + 1)
  have nb : ∀ {b : Nat} {c : Array Value} {e : TypeId} {f : Nat × Nat}, h[b]? = some (.cells c e f) -> e ≠ 79 -> newB x.N (2 + 2 * i) ≠ b := fun {b c e f} hb he => tcell_ne (e := 79) (I1.K.cell (2 + 2 * i) (by omega)) hb (fun z => he z.symm)
  have nA : x.a + 2 ≠ newB x.N (2 + 2 * i) := (nb I1.A2 (by decide)).symm
  have hAn := own_ne I1.K I1.A2 (by decide) (by decide)
  rw [lastV_st] at k1 ⊢
  refine ⟨by omega, by omega, _, _, q2, inferInstance, (ring_ok (c := tmC x #[]) (u := v (3 + 2 * i)) (d := d i) (a := a2 + r) (z := 4611686018427387904) k1 ?_ ?_ ?_ ((up_ne _ _ (by omega)).trans (if_pos rfl)) q3 (by omega) hAn).mono ?_⟩
  · exact (get_set_ne _ (nb I1.C (by decide))).trans I1.C
  · exact (get_set_ne _ (nb I1.A2 (by decide))).trans I1.A2
  · rw [get_set_ne _ (nb q1 (by decide))]; exact q1
  rintro (w | p) h' δ' hq
  rotate_left
  · exact hq.elim
  obtain ⟨rfl, eh⟩ := hq
  replace eh : h' = (h.setIfInBounds (newB x.N (2 + 2 * i)) (cellO ((s i : Int) + 1))).setIfInBounds (x.a + 2) (cntO ((a2 + r + 1 : Nat) : Int)) := eh
  subst eh
  have u1 : Upd (fun b => b < base) h (h.setIfInBounds (newB x.N (2 + 2 * i)) (cellO ((s i : Int) + 1))) := Upd.set _ _ _ (own _ (.inr ⟨_, by omega, rfl⟩))
  have u2 := u1.trans (Upd.set (T := fun b => b < base) (h.setIfInBounds (newB x.N (2 + 2 * i)) (cellO ((s i : Int) + 1))) (x.a + 2) (cntO ((a2 + r + 1 : Nat) : Int)) hA)
  have k2 := k1.upd (Upd.set (T := fun b => b = x.a + 2) _ (x.a + 2) (cntO ((a2 + r + 1 : Nat) : Int)) rfl) (fun b hb => hb ▸ hAn)
  refine ⟨rfl, u2.mono (fun b _ hb => Nat.lt_of_lt_of_le hb hz0), ⟨_, _, k2⟩, t1 s i (s i + 2), ?_⟩
  have k3 := k2.set (j := 2 + 2 * i) (by omega) ((s i : Int) + 2)
  have hg : ∀ {b : Nat} {c : Array Value} {e : TypeId} {f : Nat × Nat}, h[b]? = some (.cells c e f) -> e ≠ 79 -> b ≠ x.a + 2 -> (((h.setIfInBounds (newB x.N (2 + 2 * i)) (cellO ((s i : Int) + 1))).setIfInBounds (x.a + 2) (cntO ((a2 + r + 1 : Nat) : Int))).setIfInBounds (newB x.N (2 + 2 * i)) (cellO ((s i : Int) + 2)))[b]? = some (.cells c e f) := fun {b c e f} hb he hn => by
    rw [get_set_ne _ (nb hb he), get_set_ne _ (fun z => hn z.symm), get_set_ne _ (nb hb he)]; exact hb
  refine ⟨?_, k3.congr (fun j hj => ?_) (fun _ _ => rfl), hg I1.C (by decide) (tcell_ne I1.C I1.A2 (by decide)), hg I1.A0 (by decide) (by omega), hg I1.A1 (by decide) (by omega), ?_, hg I1.A3 (by decide) (by omega), by simp; exact I1.base, fun j hj e => ?_, fun j hj e => ?_, ?_⟩
  · have T3 := (u2.trans (Upd.set (T := fun b => b < base) ((h.setIfInBounds (newB x.N (2 + 2 * i)) (cellO ((s i : Int) + 1))).setIfInBounds (x.a + 2) (cntO ((a2 + r + 1 : Nat) : Int))) (newB x.N (2 + 2 * i)) (cellO ((s i : Int) + 2)) (own _ (.inr ⟨_, by omega, rfl⟩))))
    refine ⟨Nat.le_trans I1.u.size T3.size, fun b hb _ => ?_⟩
    have hbN : newB x.N (2 + 2 * i) ≠ b := by unfold newB; split <;> omega
    rw [get_set_ne _ hbN, get_set_ne _ (by omega), get_set_ne _ hbN]
    exact I1.u.same b hb fun z => z
  · unfold up lastV
    by_cases e0 : j = 2 + 2 * i
    · subst e0
      rw [if_pos rfl, if_neg (by omega), if_neg (by omega), if_pos (by omega), show (2 + 2 * i - 2) / 2 = i by omega, t1_same]
      rfl
    · rw [if_neg e0, if_neg e0]
      by_cases e1 : j = 0
      · rw [if_pos e1, if_pos e1]
      · by_cases e2 : j = 1
        · rw [if_neg e1, if_pos e2, if_neg e1, if_pos e2]
        · rw [if_neg e1, if_neg e2, if_neg e1, if_neg e2]
          by_cases e3 : j % 2 = 0
          · rw [if_pos e3, if_pos e3, t1_ne (by omega)]
          · rw [if_neg e3, if_neg e3]
  · rw [get_set_ne _ (nb I1.A2 (by decide))]
    have g := get_set_same (o' := cntO ((a2 + r + 1 : Nat) : Int)) ((get_set_ne (cellO ((s i : Int) + 1)) (nb I1.A2 (by decide))).trans I1.A2)
    rw [Nat.add_assoc] at g
    exact g
  · by_cases e' : j = i
    · subst e'; rw [t1_same] at e; omega
    · rw [t1_ne e'] at e ⊢; exact I1.sb j hj e
  · by_cases e' : j = i
    · subst e'; rw [t1_same] at e; omega
    · rw [t1_ne e'] at e
      obtain ⟨g1, g2⟩ := I1.set j hj e
      refine ⟨hg g1 (by decide) (tcell_ne g1 I1.A2 (by decide)), g2⟩
  · have := cntS_upd (x := s i + 2) hi16 hs2 (by omega)
    omega
end
end
section
open Go Go.TJ Go.Proofs
variable [Dm]
section
variable {Γ : Type} {main : Bool} {h : Hp} {δ : Ix Γ}
theorem tat_ok {x : Int} {n : Nat} (hn : 0 < n) (hn2 : n <= 1000) : CallW Try.prog main NoS 4 #[.int .i64 x, .int .i64 n] h δ (Ret (Det (.int .i64 (x % (n : Int))) h δ)) := by
  have h1 := Int.lt_tmod_of_pos x (b := (n : Int)) (by omega)
  have h2 := Int.tmod_lt_of_pos x (b := (n : Int)) (by omega)
  have e1 : x.tmod n < 0 -> x % (n : Int) = x.tmod n + n := fun hx => by
    have a := Int.mul_tdiv_add_tmod x n
    have b : x % (n : Int) = (x.tmod n + n) % n := by
      rw [Int.add_emod_right]
      conv => lhs; rw [<- a]
      rw [Int.add_comm, Int.add_mul_emod_self_left]
    rw [b, Int.emod_eq_of_lt (by omega) (by omega)]
  have e2 : 0 <= x.tmod n -> x % (n : Int) = x.tmod n := fun hx => by
    have a := Int.mul_tdiv_add_tmod x n
    have b : x % (n : Int) = (x.tmod n) % n := by
      conv => lhs; rw [<- a]
      rw [Int.add_comm, Int.add_mul_emod_self_left]
    rw [b, Int.emod_eq_of_lt (by omega) (by omega)]
  refine CallW.start (n := 14) rfl rfl ?_
  (repeat (first | refine EK.seq ?_ | refine EK.region ?_ | refine ER.done ?_ | refine ER.move rfl rfl rfl ?_ | refine ER.assign rfl rfl rfl ?_))
  refine ER.rem (kd := .i64) rfl rfl rfl rfl (by omega) rfl ?_
  generalize x.tmod (n : Int) = r at h1 h2 e1 e2 ⊢
  rcases Int.lt_or_le r 0 with y | y
  · (repeat (first | refine EK.seq ?_ | refine EK.region ?_ | refine ER.done ?_ | refine ER.move rfl rfl rfl ?_ | refine ER.assign rfl rfl rfl ?_ | refine ER.cmpT rfl rfl rfl rfl rfl (by first | (dsimp only [cmpP]; omega) | exact rfl | exact Int.le_refl _) ?_ | refine ER.add (kd := .i64) rfl rfl rfl rfl (i64_in (by omega) (by omega)) ?_ | refine EK.condT rfl ?_ | refine EK.ret ?_))
    exact EU.ret1 rfl rfl ⟨by rw [e1 y], rfl, rfl⟩
  · (repeat (first | refine EK.seq ?_ | refine EK.region ?_ | refine ER.done ?_ | refine EK.skip ?_ | refine ER.move rfl rfl rfl ?_ | refine ER.assign rfl rfl rfl ?_ | refine ER.cmpF rfl rfl rfl rfl rfl (by first | (dsimp only [cmpP]; omega) | exact rfl | exact Int.le_refl _) ?_ | refine EK.condF rfl ?_ | refine EK.ret ?_))
    exact EU.ret1 rfl rfl ⟨by rw [e2 y], rfl, rfl⟩
end
theorem tsl_ne {h : Hp} {s : Value} {e sz n : Nat} {cells : List Value} (x : SliceO h s e sz n cells) {R : Nat} {c : Array Value} {e' : TypeId} {f : Nat × Nat} (hR : h[R]? = some (.cells c e' f)) (hne : e ≠ e') : ¬ blk s = some R := by
  intro hb
  obtain ⟨_, ⟨rfl, _⟩ | ⟨b', cap, rest, rfl, h1, h2, h3⟩⟩ := x
  · cases hb
  · cases hb
    rw [h3] at hR
    injection hR with hR
    injection hR with _ hR _
    exact hne hR
def bodyV (vE cv a : Nat) (vi : Nat -> Nat) (j : Nat) : Value := .func (.func 6) #[] #[ptr vE, ptr cv, ptr (a + 2), ptr (a + 3), ptr a, ptr (vi j), ptr (a + 1)]
theorem body_congr {vE cv a k cb : Nat} {vi : Nat -> Nat} : ((List.range k).map (bodyV vE cv a fun j => if j = k then cb else vi j)) = (List.range k).map (bodyV vE cv a vi) := List.map_congr_left fun j hj => by
  have := List.mem_range.1 hj
  unfold bodyV
  show Value.func _ _ #[_, _, _, _, _, ptr (if j = k then cb else vi j), _] = _
  rw [if_neg (by omega)]
set_option maxRecDepth 8000 in
set_option maxHeartbeats 16000000 in
theorem tlaw_ok {w s : Int} {h : Hp} {γ₀ : Gf TmY} (hst : γ₀.st = 0) (hnum : γ₀.num = 1) (hnd : ∀ (b : Nat) (o : Obj), h[b]? = some o -> o ≠ dum) :
    CallW Try.prog true (SitM Try.prog (XF TT tmL)) 3 #[.int .i64 w, .int .i64 s] h ⟨0, γ₀⟩ (Ret fun v h' δ' => v = .bool true /\ δ'.d = 0 /\ Upd (fun _ => False) h h' /\ ((XF TT tmL).jn δ'.g \/ ((XF TT tmL).lone δ'.g /\ δ'.g.num = 1))) := by
  have hlo : (SitM Try.prog (XF TT tmL)).lone γ₀ := ⟨by omega, fun j j0 hj => by have hj' : j < γ₀.num := hj; omega⟩
  have hsl : ∀ a, ¬ (SitM Try.prog (XF TT tmL)).still γ₀ a := fun a z => by have : γ₀.st = 1 := z.1; omega
  have lft : ∀ {f : FuncId} {args : Array Value} {hh : Hp} {R : Post (Gf TmY)}, CallW Try.prog true NoS f args hh ⟨0, γ₀⟩ R -> CallW Try.prog true (SitM Try.prog (XF TT tmL)) f args hh ⟨0, γ₀⟩ R := fun hc => hc.noS hsl hlo (fun z => z)
  obtain ⟨n0, hn, n5⟩ : ∃ n : Nat, w % ((6 : Nat) : Int) = n /\ n <= 5 := ⟨(w % 6).toNat, by omega, by omega⟩
  obtain ⟨e, he, e1⟩ : ∃ e : Nat, s % ((20 : Nat) : Int) = e /\ e <= 19 := ⟨(s % 20).toNat, by omega, by omega⟩
  obtain ⟨n, en⟩ : ∃ n : Nat, n = n0 + 1 := ⟨_, rfl⟩
  refine CallW.start (n := 52) rfl rfl ?_
  (repeat (first | refine EK.seq ?_ | refine EK.region ?_ | refine ER.done ?_ | refine ER.move rfl rfl rfl ?_ | refine ER.assign rfl rfl rfl ?_ | refine ER.box rfl rfl rfl ?_))
  refine ER.gen (fun h' => Upd (fun _ => False) h h' /\ h'[h.size]? = some (.cells #[.int .i64 s] 3 (0, 0))) ⟨Upd.push _ _, get_push_new _ _⟩ ?_
  rintro h1 ⟨u1, E1⟩
  generalize hvE : h.size = vE at E1 ⊢
  skip
  refine ER.callD rfl rfl rfl rfl rfl (lft (tat_ok (n := 6) (by omega) (by omega))) ?_
  rw [hn]
  (repeat (first | refine EK.seq ?_ | refine EK.region ?_ | refine ER.done ?_ | refine ER.assign rfl rfl rfl ?_ | refine ER.load1 rfl rfl rfl (hcell_of (by assumption) rfl) ?_ | refine ER.add (kd := .i64) rfl rfl rfl rfl (i64_in (by omega) (by omega)) ?_))
  refine ER.callD rfl rfl rfl rfl rfl (lft (tat_ok (n := 20) (by omega) (by omega))) ?_
  rw [he]
  skip
  refine ER.store1 rfl rfl rfl (by simp [OneCell]) ⟨_, hcell_of E1 rfl⟩ (hfroz_of E1) (hsl _) ?_
  have E2 : (hset h1 ⟨vE, 0, none⟩ (.int .i64 e))[vE]? = some (.cells #[.int .i64 e] 3 (0, 0)) := by rw [hset_get, if_pos rfl, E1]; rfl
  have u2 : Upd (fun _ => False) h (hset h1 ⟨vE, 0, none⟩ (.int .i64 e)) := u1.over (Upd.hset (T := fun b => b = vE) _ _ _ rfl) fun b hb => by omega
  generalize hset h1 ⟨vE, 0, none⟩ (.int .i64 e) = h2 at E2 u2 ⊢
  clear u1 E1
  (repeat (first | refine EK.seq ?_ | refine EK.region ?_ | refine ER.done ?_))
  refine ER.callR rfl rfl rfl rfl rfl (lft new_ok) ?_
  rintro _ h3 δ3 ⟨rfl, u3, rfl, K, K5⟩
  have lN : h.size <= h2.size := u2.size
  generalize h2.size = N at K K5 lN ⊢
  have E3 := u3.get E2 fun z => z
  have uu3 := u2.trans u3
  (repeat refine ER.alloc rfl rfl ?_)
  refine ER.storeNew rfl rfl rfl rfl (by simp [OneCell]) (hsl _) ?_
  refine ER.gen (fun h' => Upd (fun _ => False) h3 h' /\ h'[h3.size]? = some (.cells #[ptr (N + 2)] 23 (0, 0))) ⟨Upd.push _ _, get_push_new _ _⟩ ?_
  generalize h3.size = cv
  rintro h4 ⟨u4, C4⟩
  have hC4 := hcell_of (off := 0) C4 rfl
  (repeat (first | refine EK.seq ?_ | refine EK.region ?_ | refine ER.done ?_ | refine EK.skip ?_ | refine ER.assign rfl rfl rfl ?_ | refine ER.load1 rfl rfl rfl (hcell_of (by assumption) rfl) ?_ | refine ER.eqV rfl rfl rfl rfl rfl ?_ | refine ER.allocA rfl rfl ?_ | refine ER.alloc rfl rfl ?_ | refine EK.condF rfl ?_))
  have z1 : (h4.push (.cells #[.int .i64 0] 29)).size = h4.size + 1 := by simp
  have z2 : ((h4.push (.cells #[.int .i64 0] 29)).push (.cells #[.int .i64 0] 29)).size = h4.size + 2 := by simp
  have z3 : (((h4.push (.cells #[.int .i64 0] 29)).push (.cells #[.int .i64 0] 29)).push (.cells #[.int .i64 0] 29)).size = h4.size + 3 := by simp
  have z4 : ((((h4.push (.cells #[.int .i64 0] 29)).push (.cells #[.int .i64 0] 29)).push (.cells #[.int .i64 0] 29)).push (.cells #[.int .i64 0] 29)).size = h4.size + 4 := by simp
  refine ER.storeNew rfl rfl rfl rfl (by simp [OneCell]) (hsl _) ?_
  rw [z4, z3, z2, z1]
  refine ER.gen (fun h' => Upd (fun _ => False) h4 h' /\ (∀ q, q < 4 -> h'[h4.size + q]? = some (cntO 0)) /\ h'[h4.size + 4]? = some (.cells #[.int .i64 0] 3 (0, 0))) ⟨((((Upd.push _ _).trans (Upd.push _ _)).trans (Upd.push _ _)).trans (Upd.push _ _)).trans (Upd.push _ _), fun q hq => ?_, ?_⟩ ?_
  · have : q = 0 \/ q = 1 \/ q = 2 \/ q = 3 := by omega
    rcases this with rfl | rfl | rfl | rfl
    · exact get_push _ (get_push _ (get_push _ (get_push _ (get_push_new _ _))))
    · rw [<- z1]; exact get_push _ (get_push _ (get_push _ (get_push_new _ _)))
    · rw [<- z2]; exact get_push _ (get_push _ (get_push_new _ _))
    · rw [<- z3]; exact get_push _ (get_push_new _ _)
  · rw [<- z4]; exact get_push_new _ _
  clear z1 z2 z3 z4
  have la : h.size <= h4.size := by
    have := (uu3.trans u4).size
    exact this
  generalize h4.size = a at la ⊢
  rintro h5 ⟨u5, A5, I5⟩
  rw [show (1 : Int) + (n0 : Int) = ((n : Nat) : Int) by omega]
  have KT : Tst h ⟨n, e, N, vE, cv, a, fun _ => 0⟩ h5 := ⟨(uu3.trans u4).trans u5, u5.get (u4.get E3 fun z => z) fun z => z, u5.get C4 fun z => z, A5, (K.upd u4 fun _ z => z.elim).upd u5 fun _ z => z.elim, let ⟨cs, q1, q2⟩ := K5; ⟨cs, u5.get (u4.get q1 fun z => z) fun z => z, q2⟩, lN, la, by show n <= 6; omega, e1⟩
  clear uu3 u4 u5 E3 C4 A5 K K5 u2 u3 E2 hC4
  (repeat (first | refine ER.done ?_ | refine EK.block ?_))
  refine EK.loopInv (fun s : Nat × Value × Nat × (Nat -> Nat) => [(10, s.2.1), (11, ptr s.2.2.1), (0, .int .i64 n), (3, ptr vE), (5, ptr cv), (6, ptr a), (7, ptr (a + 1)), (8, ptr (a + 2)), (9, ptr (a + 3))])
    (fun s h' δ' => δ' = ⟨0, γ₀⟩ /\ s.1 <= n /\ Upd (fun _ => False) h5 h' /\ h'[s.2.2.1]? = some (.cells #[.int .i64 s.1] 3 (0, 0)) /\
      SliceO h' s.2.1 39 1 s.1 ((List.range s.1).map (bodyV vE cv a s.2.2.2)) /\ (∀ b, blk s.2.1 = some b -> h5.size <= b) /\
      ∀ k, k < s.1 -> h'[s.2.2.2 k]? = some (.cells #[.int .i64 k] 3 (0, 0)))
    (fun s => n - s.1) (0, .slice none 0 0, a + 4, fun _ => 0) ⟨rfl, rfl, rfl, rfl, rfl, rfl, rfl, rfl, rfl, trivial⟩ ⟨rfl, Nat.zero_le _, Upd.refl _ _, I5, SliceO.nil, fun b hb => by (cases hb), fun k hk => absurd hk (Nat.not_lt_zero _)⟩ ?_
  clear I5
  rintro ⟨k, s, cb, ib⟩ h2 δ2 ⟨rfl, hk, u2, kc, sl, hab, hib⟩ again
  dsimp only at hk u2 kc sl hab hib again ⊢
  have hs0 := u2.size
  rcases Nat.lt_or_ge k n with hlt | hge
  · have hkc := hcell_of (off := 0) kc rfl
    (repeat (first | refine EK.seq ?_ | refine EK.region ?_ | refine ER.done ?_ | refine EK.skip ?_ | refine EK.block ?_ | refine ER.move rfl rfl rfl ?_ | refine ER.load1 rfl rfl rfl (hcell_of (by assumption) rfl) ?_ | refine ER.cmpT rfl rfl rfl rfl rfl (by first | (dsimp only [cmpP]; omega) | exact rfl | exact Int.le_refl _) ?_ | refine EK.condT rfl ?_))
    refine ER.makeF rfl rfl rfl rfl rfl rfl ?_
    refine ER.slice1 (sz := 1) (z := .nilFunc) (cells := #[bodyV vE cv a (fun _ => cb) 0]) rfl rfl rfl (by omega) (by omega) rfl rfl ?_
    refine ER.append1 (new := [bodyV vE cv a (fun _ => cb) 0]) rfl rfl rfl rfl (sl.upd (Upd.push (T := fun _ => False) h2 _) (fun _ _ x => x)) (get_push_new _ _) rfl (by unfold bodyV; simp [OneCell]) (by omega) (by omega) (by rfl) (fun b o hb => hsl _) ?_
    intro s' h6 sl6 u6 hb6
    have up := Upd.push (T := fun _ => False) h2 (.cells #[bodyV vE cv a (fun _ => cb) 0] 39)
    have ha6 : ∀ b, blk s' = some b -> h5.size <= b := fun b hb => by
      rcases hb6 b hb with z | z
      · exact hab b z
      · rw [z, Array.size_push]; omega
    have hsz6 : h2.size + 1 <= h6.size := by have := u6.size; rwa [Array.size_push] at this
    have uu : Upd (fun _ => False) h5 h6 := (u2.trans up).over u6 hab
    have mv : ∀ (x : Nat) (t : TypeId) (v : Value), h2[x]? = some (.cells #[v] t (0, 0)) -> 39 ≠ t -> h6[x]? = some (.cells #[v] t (0, 0)) := fun x t v hx ht => u6.get (up.get hx fun z => z) (tsl_ne sl hx ht)
    have kc6 := mv _ _ _ kc (by decide)
    have hib6 : ∀ j, j < k -> h6[ib j]? = some (.cells #[.int .i64 j] 3 (0, 0)) := fun j hj => mv _ _ _ (hib j hj) (by decide)
    have hkc6 := hcell_of (off := 0) kc6 rfl
    clear mv up u6 hb6 hib kc sl hab u2
    (repeat (first | refine EK.seq ?_ | refine EK.region ?_ | refine ER.done ?_ | refine EK.inBlock ?_ | refine ER.assign rfl rfl rfl ?_ | refine ER.load1 rfl rfl rfl (hcell_of (by assumption) rfl) ?_ | refine ER.alloc rfl rfl ?_))
    refine ER.storeNew rfl rfl rfl rfl (by simp [OneCell]) (hsl _) ?_
    refine ER.gen (fun h7 => Upd (fun _ => False) h6 h7 /\ h7[h6.size]? = some (.cells #[.int .i64 k] 3 (0, 0))) ⟨Upd.push _ _, get_push_new _ _⟩ ?_
    rintro h7 ⟨u7, n7⟩
    have hn7 := hcell_of (off := 0) n7 rfl
    (repeat (first | refine EK.region ?_ | refine ER.done ?_ | refine ER.load1 rfl rfl rfl (hcell_of (by assumption) rfl) ?_ | refine ER.add (kd := .i64) rfl rfl rfl rfl (i64_in (by omega) (by omega)) ?_))
    refine ER.store1 rfl rfl rfl (by simp [OneCell]) ⟨_, hcell_of n7 rfl⟩ (hfroz_of n7) (hsl _) ?_
    have n8 : (hset h7 ⟨h6.size, 0, none⟩ (.int .i64 ((k : Int) + 1)))[h6.size]? = some (.cells #[.int .i64 ((k : Int) + 1)] 3 (0, 0)) := by rw [hset_get, if_pos rfl, n7]; rfl
    have u8 : Upd (fun b => b = h6.size) h7 (hset h7 ⟨h6.size, 0, none⟩ (.int .i64 ((k : Int) + 1))) := Upd.hset _ _ _ rfl
    generalize hset h7 ⟨h6.size, 0, none⟩ (.int .i64 ((k : Int) + 1)) = h8 at n8 u8 ⊢
    have mv : ∀ (x : Nat) (o : Obj), h6[x]? = some o -> h8[x]? = some o := fun x o ho => u8.get (u7.get ho fun z => z) (by have := lt_of_get ho; omega)
    (repeat refine ER.done ?_)
    refine EK.back (again (k + 1, s', h6.size, fun j => if j = k then cb else ib j) _ _ (by dsimp only; omega) ⟨rfl, hlt, (uu.trans u7).over u8 (fun b hb => by omega), n8, ?_, ha6, fun j hj => ?_⟩) ⟨rfl, rfl, rfl, rfl, rfl, rfl, rfl, rfl, rfl, trivial⟩
    · have := (sl6.upd u7 (fun _ _ z => z)).upd u8 fun b hb => by have := sl6.lt hb; omega
      dsimp only
      rw [List.range_succ, List.map_append, List.map_singleton, body_congr]
      have e : bodyV vE cv a (fun j => if j = k then cb else ib j) k = bodyV vE cv a (fun _ => cb) 0 := by
        unfold bodyV
        show Value.func _ _ #[_, _, _, _, _, ptr (if k = k then cb else ib k), _] = _
        rw [if_pos rfl]
      rw [e]
      exact this
    · dsimp only
      by_cases e : j = k
      · subst e
        rw [if_pos rfl]
        exact mv _ _ kc6
      · rw [if_neg e]
        exact mv _ _ (hib6 j (by dsimp only at hj; omega))
  · obtain rfl : k = n := by omega
    clear again
    have hkc := hcell_of (off := 0) kc rfl
    (repeat (first | refine EK.seq ?_ | refine EK.region ?_ | refine ER.done ?_ | refine ER.move rfl rfl rfl ?_ | refine ER.load1 rfl rfl rfl (hcell_of (by assumption) rfl) ?_ | refine ER.cmpF rfl rfl rfl rfl rfl (by first | (dsimp only [cmpP]; omega) | exact rfl | exact Int.le_refl _) ?_ | refine EK.condF rfl ?_ | refine EK.exit rfl ?_))
    refine ER.makeF rfl rfl rfl rfl rfl rfl ?_
    refine ER.slice1 (sz := 1) (z := .nilFunc) (cells := #[.func (.func 12) #[] #[ptr vE, ptr cv]]) rfl rfl rfl (by omega) (by omega) rfl rfl ?_
    refine ER.append1 (new := [.func (.func 12) #[] #[ptr vE, ptr cv]]) rfl rfl rfl rfl (sl.upd (Upd.push (T := fun _ => False) h2 _) (fun _ _ x => x)) (get_push_new _ _) rfl (by simp [OneCell]) (by omega) (by omega) (by rfl) (fun b o hb => hsl _) ?_
    intro s' h6 sl6 u6 hb6
    have up := Upd.push (T := fun _ => False) h2 (.cells #[.func (.func 12) #[] #[ptr vE, ptr cv]] 39)
    have uu : Upd (fun _ => False) h5 h6 := (u2.trans up).over u6 hab
    have mv : ∀ (x : Nat) (t : TypeId) (v : Value), h2[x]? = some (.cells #[v] t (0, 0)) -> 39 ≠ t -> h6[x]? = some (.cells #[v] t (0, 0)) := fun x t v hx ht => u6.get (up.get hx fun z => z) (tsl_ne sl hx ht)
    have hib6 : ∀ j, j < k -> h6[ib j]? = some (.cells #[.int .i64 j] 3 (0, 0)) := fun j hj => mv _ _ _ (hib j hj) (by decide)
    clear mv up u6 hb6 hib kc sl hab u2 hkc
    have KT6 := KT.upd uu
    have KV : Tst h ⟨k, e, N, vE, cv, a, ib⟩ h6 := ⟨KT6.u, KT6.E, KT6.C, KT6.A, KT6.K, KT6.K5, KT6.lN, KT6.la, KT6.n1, KT6.e1⟩
    clear KT KT6 uu
    obtain ⟨hl, ⟨_, hz⟩ | ⟨B, cap, rest, rfl, c1, c2, c3⟩⟩ := sl6
    · omega
    (repeat (first | refine EK.seq ?_ | refine EK.region ?_ | refine ER.done ?_ | refine ER.move rfl rfl rfl ?_ | refine ER.assign rfl rfl rfl ?_))
    refine ER.callR rfl rfl rfl rfl rfl (KV.free (x := ⟨k, e, N, vE, cv, a, ib⟩) hst hnum (B := B) (cap := cap) hib6 ⟨_, _, c3⟩ fun j hj => hcell_of c3 ?_) ?_
    · have hj' : j < k + 1 := hj
      rw [List.getElem?_toArray, List.getElem?_append_left (by rw [hl]; omega)]
      by_cases ej : j = k
      · subst ej
        rw [List.getElem?_append_right (by simp)]
        simp [tmF, tmCap, tmC]
      · rw [List.getElem?_append_left (by simp; omega), List.getElem?_map, List.getElem?_range (by omega)]
        simp [tmF, tmCap, tmC, bodyV, ej]
    rintro _ hz ⟨dz, γz⟩ ⟨rfl, ed, fr⟩
    simp only at ed fr
    subst ed
    obtain ⟨v, sf, fv, d, a0, a1, a2, E⟩ := KV.fin hnd fr
    have hjn := fr.jn
    have hst2 := fr.st
    clear fr KV lft hlo hsl hst hnum c1 c2 c3 hl hib6
    have hlo : (SitM Try.prog (XF TT tmL)).lone γz := (xf_ok TT tmL tmL_ok).jl _ hjn
    have hsl : ∀ a, ¬ (SitM Try.prog (XF TT tmL)).still γz a := fun a z => by have : γz.st = 1 := z.1; omega
    have lft : ∀ {f : FuncId} {args : Array Value} {hh : Hp} {R : Post (Gf TmY)}, CallW Try.prog true NoS f args hh ⟨0, γz⟩ R -> CallW Try.prog true (SitM Try.prog (XF TT tmL)) f args hh ⟨0, γz⟩ R := fun hc => hc.noS hsl hlo (fun z => z)
    have hC := hcell_of (off := 0) E.C rfl
    have hN1 := E.lN
    have hN2 := E.la
    (repeat (first | refine EK.seq ?_ | refine EK.region ?_ | refine ER.done ?_ | refine EK.skip ?_ | refine ER.cmpF rfl rfl rfl rfl rfl (by first | (dsimp only [cmpP]; omega) | exact rfl | exact Int.le_refl _) ?_ | refine ER.len1 rfl rfl rfl ?_ | refine EK.condF rfl ?_ | refine ER.load1 rfl rfl rfl (by assumption) ?_))
    have hcs := cntS_le sf
    have hsum := E.sum
    have hab := E.ab
    have hbz : ∀ b, Own (N + 2) (newB N) b -> b < hz.size := fun b hb => by
      rcases hb with rfl | ⟨j, hj, rfl⟩
      · obtain ⟨cs, q⟩ := E.K.obj
        exact lt_of_get q
      · exact lt_of_get (E.K.cell j hj)
    have nwb := E.nw
    have hadv := adv_ok (main := true) (δ := (⟨0, γz⟩ : Ix (Gf TmY))) (d := 4611686018427387904) (m := 4611686018427387904) (s0 := sf) (vl := lastV v 4611686018427387904) (fn := fun _ => fv) (Inv := LastI h ⟨k, e, N, vE, cv, a, ib⟩ v fv d a0 a1 a2 (cntS sf) hz.size) E.K E.bz (by omega) nwb.1 nwb.2 (by split <;> omega) (last_acc (x := ⟨k, e, N, vE, cv, a, ib⟩) hN1 hN2 (by omega) hcs hbz (lt_of_get E.A2)) (by
      have nb : ∀ {b : Nat} {c : Array Value} {ty : TypeId} {f : Nat × Nat} {j : Nat}, j < 34 -> hz[b]? = some (.cells c ty f) -> ty ≠ 79 -> newB N j ≠ b := fun {b c ty f j} hj hb hty => tcell_ne (e := 79) (E.K.cell j hj) hb (fun z => hty z.symm)
      have hg : ∀ {b : Nat} {c : Array Value} {ty : TypeId} {f : Nat × Nat}, hz[b]? = some (.cells c ty f) -> ty ≠ 79 -> ((hz.setIfInBounds (newB N 1) (cellO 1)).setIfInBounds (newB N 0) (cellO 4611686018427387904))[b]? = some (.cells c ty f) := fun {b c ty f} hb hty => by
        rw [get_set_ne _ (nb (by omega) hb hty), get_set_ne _ (nb (by omega) hb hty)]; exact hb
      have k3 := (E.K.set (j := 1) (by omega) 1).set (j := 0) (by omega) 4611686018427387904
      refine ⟨⟨?_, fun b hb _ => ?_⟩, k3.congr (fun j hj => ?_) fun _ _ => rfl, hg E.C (by decide), hg E.A0 (by decide), hg E.A1 (by decide), hg E.A2 (by decide), hg E.A3 (by decide), by simp, fun q hq _ => E.sb q hq, fun q hq h2 => ?_, by omega⟩
      · simp; exact E.u.size
      · have h0 : ∀ j, newB N j ≠ b := fun j => by
          have hN1' : h.size <= N := hN1
          unfold newB; split <;> omega
        rw [get_set_ne _ (h0 _), get_set_ne _ (h0 _)]
        exact E.u.same b hb fun z => z
      · unfold up lastV
        by_cases e0 : j = 0
        · subst e0; rfl
        · by_cases e1 : j = 1
          · subst e1; rfl
          · rw [if_neg e0, if_neg e1, if_neg e0, if_neg e1]
            by_cases e2 : j % 2 = 0
            · rw [if_pos e2]
              have := E.sv ((j - 2) / 2) (by omega)
              rw [show 2 + 2 * ((j - 2) / 2) = j by omega] at this
              exact this
            · rw [if_neg e2]
      · obtain ⟨q1, q2, q3⟩ := E.set q hq h2
        exact ⟨hg q1 (by decide), q2, q3⟩)
    refine ER.callR rfl rfl rfl rfl rfl (lft hadv) ?_
    rintro _ h9 _ ⟨rfl, s9, r9, h10, hr64, I, hlk, rfl, rfl⟩
    have hcnt := I.cnt
    have hlk' : lk (lastV v 4611686018427387904 s9) 4611686018427387904 16 = none := hlk.resolve_right fun z => by omega
    have hno := lk_none' hlk'
    have hc0 : cntS s9 = 0 := nsum_zero _ _ fun q hq => if_neg fun e2 => by
      obtain ⟨_, _, q3⟩ := I.set q hq e2
      have := hno q hq
      rw [lastV_st, lastV_du, tm4] at this
      exact this ⟨by omega, q3⟩
    have nb1 : ∀ {b : Nat} {c : Array Value} {ty : TypeId} {f : Nat × Nat}, h10[b]? = some (.cells c ty f) -> ty ≠ 79 -> (h10.setIfInBounds (newB N 1) (cellO 0))[b]? = some (.cells c ty f) := fun {b c ty f} hb hty => by
      rw [get_set_ne _ (tcell_ne (e := 79) (I.K.cell 1 (by omega)) hb (fun z => hty z.symm))]; exact hb
    have B0 := nb1 I.A0 (by decide)
    have B1 := nb1 I.A1 (by decide)
    have B2 := nb1 I.A2 (by decide)
    have B3 := nb1 I.A3 (by decide)
    have uF : Upd (fun _ => False) h (h10.setIfInBounds (newB N 1) (cellO 0)) := I.u.over (Upd.set (T := fun b => b = newB N 1) _ _ _ rfl) fun b hb => by
      rw [hb]
      have hN1' : h.size <= N := hN1
      unfold newB; split <;> omega
    generalize h10.setIfInBounds (newB N 1) (cellO 0) = h11 at B0 B1 B2 B3 uF ⊢
    clear I nb1 hadv
    (repeat (first | refine EK.seq ?_ | refine EK.region ?_ | refine ER.done ?_))
    refine ER.callD rfl rfl rfl rfl rfl (lft (aload_ok (hcell_of B0 rfl))) ?_
    refine ER.callD rfl rfl rfl rfl rfl (lft (aload_ok (hcell_of B1 rfl))) ?_
    refine ER.callD rfl rfl rfl rfl rfl (lft (aload_ok (hcell_of B2 rfl))) ?_
    have he0 : (a0 : Int) = (a1 : Int) + ((a2 + r9 : Nat) : Int) := by omega
    (repeat (first | refine ER.move rfl rfl rfl ?_ | refine ER.cmpT rfl rfl rfl rfl rfl (by first | (dsimp only [cmpP]; omega) | exact rfl | exact Int.le_refl _) ?_ | refine ER.add (kd := .i64) rfl rfl rfl rfl (i64_in (by omega) (by omega)) ?_))
    refine ER.callD rfl rfl rfl rfl rfl (lft (aload_ok (hcell_of B3 rfl))) ?_
    (repeat (first | refine ER.move rfl rfl rfl ?_ | refine ER.pickT rfl rfl rfl rfl ?_ | refine ER.cmpT rfl rfl rfl rfl rfl (by first | (dsimp only [cmpP]; omega) | exact rfl | exact Int.le_refl _) ?_))
    refine ER.callR rfl rfl rfl rfl rfl (lft works_ok) ?_
    rintro _ h12 _ ⟨rfl, u12, rfl⟩
    (repeat (first | refine ER.done ?_ | refine ER.assign rfl rfl rfl ?_ | refine ER.pickT rfl rfl rfl rfl ?_ | refine EK.ret ?_))
    exact EU.ret1 rfl rfl ⟨rfl, rfl, uF.trans u12, .inl hjn⟩
end
end Go.Proofs.Ytndllibjlfpndaa
namespace Go.TJ
section
variable [Dm]
open Go Go.Conc
open Go.ConcN (upd upd_ne upd_same)
open Go.ConcM (OsLater)
variable {Γ : Type}
theorem company_runG {P : Program} {X : Fp Γ} (hX : X.Ok) {f : FuncId} {args : Array Value} {W : World} {γ₀ : Γ} {R : Value -> Hp -> Prop} (hini : P.inits.idxOf? f = none) (hn : X.num γ₀ = 1) (hj : ¬ X.jn γ₀) (hinv : X.Inv γ₀ W.heap) (hcf : ∀ b, ¬ (X.cf γ₀).shb b /\ ¬ (X.cf γ₀).ro b) (hfin : ∀ i, X.fin γ₀ i = none) (hbg : ∀ a, X.bag γ₀ a = #[])
    (hc : CallW P true (SitM P X) f args W.heap ⟨0, γ₀⟩ fun
      | .ret v, h', δ' => δ'.d = 0 /\ (X.jn δ'.g \/ (X.lone δ'.g /\ X.num δ'.g = 1)) /\ ∀ H, Part True h' H -> R v H
      | .pan _, _, _ => False) :
    ∃ M last o w' t', runNT P (M + 1) (solo (G (Frame.enter P f args .normal) []) W) #[] = (.ended o w', t') /\ runN P M (solo (G (Frame.enter P f args .normal) []) W) = .next last /\ step P last = .ended o w' /\
      Conc.Good P (fun v W' => R v W'.heap /\ SameL W W') last o w' t' := by
  obtain ⟨N, m, T, hr, γ, gs, w, hs, γs, ts, sl, g', rfl, C, hg, hs', a, todo, mode, fn, rfl, hda, hf, hend⟩ := companyF hX (hc .normal (by simp) ⟨[], calm_normal []⟩) (sl := none) (cfg_one (g := G (Frame.enter P f args .normal) []) hX hn hj hinv hcf hfin hbg) (if_pos rfl) rfl rfl
  rcases hend with ⟨rfl, v, hv, hd0, hjn, hR⟩ | ⟨_, _, hp⟩
  · obtain ⟨N₂, m₁, T₂, γ₂, gs₂, w₂, hs₂, γs₂, ts₂, sl₂, hr₂, hst, C₂, K₂, hg₂, ⟨hmg, hmt⟩, _⟩ := turns hX (g0 := G { (fb f .normal).at a todo with mode := .returning } []) rfl (Done := fun _ _ _ _ _ _ _ _ => True) (fun _ _ _ _ _ _ _ _ _ _ _ => .inr trivial) ts γ gs w T hs γs sl C ⟨rfl, rfl, rfl, SameL.refl w, rfl⟩ ⟨_, hg, .inl rfl⟩
    have M₂ := C₂.mi
    have hpos := M₂.pos
    have hcfs := hX.cfR _ _ _ (M₂.rel 0 hpos (fun z => absurd z (Nat.lt_irrefl _)))
    have hP := M₂.part 0 hpos
    rw [K₂.h] at hP
    obtain ⟨es, hrun, hes⟩ := hv w₂ hP.weak
    have hstep := stepG_last (w := w₂) (todo := todo) hda hf hini hrun
    have hrt := runT_many_ended (P := P) (sl := sl₂) (i := 0) hg₂ hstep
    obtain ⟨hseen, _⟩ := seen_reads (Γ := Γ) (P := P) (S := fun ad : Addr => (X.cf γ₂).ro ad.block) (f := f) hes
    have hl : X.lone (γs₂ 0) := by rw [K₂.γ]; exact hjn.elim (hX.jl _) fun z => z.1
    have hγ : γ₂ = γs₂ 0 := M₂.lone hl
    have hjn₂ : X.jn γ₂ \/ X.num γ₂ = 1 := by rw [hγ, K₂.γ]; exact hjn.imp id fun z => z.2
    have M₃ := M₂.own hX hpos (fun z => absurd z (Nat.lt_irrefl _)) f (G { (fb f .normal).at a todo with mode := .returning } []).frame.place (L := True) (S := fun ad : Addr => (X.cf γ₂).ro ad.block) (hv := hs 0) (h' := hs 0) (H' := w₂.heap) (es := seen P f es) (fun _ => Iff.rfl) (fun _ => trivial) (fun b => by rw [K₂.h])
      (Chg.refl ⟨hP.get, hP.size, fun _ => hP.same ⟨rfl, hl⟩⟩) hseen (fun z => absurd z (Nat.lt_irrefl _))
    have hdone : ∀ i, 0 < i -> i < gs₂.size -> X.done i γ₂ := fun i h0 hi => hX.lone γ₂ i (by rw [hγ]; exact hl) h0 (by rw [M₂.num]; exact hi)
    have hq : ∀ i x, 0 < i -> gs₂[i]? = some x -> ∃ n, QuitsD P n (Deaf T₂ i) x := fun i x h0 hi => by
      have hlt := (Array.getElem?_eq_some_iff.1 hi).1
      obtain ⟨g0, h1, h2⟩ := C₂.wk i x h0 hi
      have hd := hdone i h0 hlt
      rw [M₂.back i h0 hlt (hX.fin i γ₂ h0 hd)] at h1
      rcases h2 with rfl | ⟨_, _, hb⟩
      · exact runsN_quits h0 _ _ _ _ ((M₂.dn i h0 hlt).1 hd) h1
      · exact absurd hb (hX.blkd i γ₂ h0 hd)
    refine ⟨N + N₂, _, .done v, w₂, _, runNT_succ_end (runNT_then hr hr₂) (hst.trans hrt), runN_of_runNT _ _ _ _ _ (runNT_then hr hr₂), ?_, v, rfl, ⟨hR w₂.heap ⟨hP.get, hP.size, fun _ => hP.same ⟨rfl, hl⟩⟩, hs'.trans K₂.w⟩, M₃.tf.clean, hjn₂.elim M₃.tf.over fun z => M₃.tf.overLone (M₂.num.symm.trans z), ⟨fun x hx => ?_, ?_⟩, fun j x hx hj => ?_⟩
    · rw [step, hst, hrt]
    · rw [hmg] at hx
      obtain ⟨j, hj⟩ := List.mem_iff_getElem?.1 hx
      rw [List.getElem?_drop] at hj
      obtain ⟨n, hn⟩ := hq (1 + j) x (by omega) (by simpa using hj)
      exact ⟨n, hn.leaves⟩
    · rw [hmt]; rfl
    · rw [hmg] at hx
      obtain ⟨n, hn⟩ := hq j x (by omega) hx
      refine ⟨n, ?_⟩
      have e : (T₂ ++ MemOp.ofEvents 0 f (G { (fb f .normal).at a todo with mode := .returning } []).frame.place (seen P f es)).deaf j (T₂ ++ MemOp.ofEvents 0 f (G { (fb f .normal).at a todo with mode := .returning } []).frame.place (seen P f es)).size = Deaf T₂ j :=
        Deaf_other T₂ (g := j) (g' := 0) (Ne.symm hj) _ fun op hop => by obtain ⟨e, _, rfl⟩ := Go.Conc.mem_ofEvents hop; rfl
      rw [show (G { (fb f .normal).at a todo with mode := .returning } []).frame.fn = f from rfl, e]
      exact hn.hears _
  · exact hp.elim
end
end Go.TJ
