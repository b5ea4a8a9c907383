/- Steps of the walk and of the plain law (TjGB to Cell). Conditions: as each lemma says. -/
import Derived.Test.YtndllibjlfpndaaCKB
set_option linter.unusedSectionVars false
set_option linter.unusedVariables false
set_option linter.unusedSimpArgs false
namespace Go.TJ
section
variable [Dm]
open Go Go.Conc
open Go.ConcN (upd upd_ne upd_same)
structure Law (Y : Type) where
  cls : Y -> List Nat
  arrT : Y -> Nat -> Option TypeId
  ro : Y -> Nat -> Prop
  val : Y -> Nat -> Int
  arr : Y -> Nat -> Array Value
  may : Y -> Nat -> Addr -> Bool -> Prop
  pairs : Y -> Nat
  R : Nat -> Y -> Y -> Prop
  J : Y -> Prop
  fin : Y -> Nat -> Hp -> Prop
  atT : Y -> Nat -> Option TypeId
  atv : Y -> Nat -> Int
  bag : Y -> Nat -> Hp
  bmay : Y -> Nat -> Addr -> Prop
variable {Y : Type}
structure Law.Ok (L : Law Y) : Prop where
  refl : ∀ i y, L.R i y y
  trans : ∀ i a b c, L.R i a b -> L.R i b c -> L.R i a c
  mayx : ∀ y i j a w, L.may y i a true -> L.may y j a w -> i = j
  nodup : ∀ y, L.J y -> (L.cls y).Nodup
  dj : ∀ y b, L.J y -> b ∈ L.cls y -> L.arrT y b = none
  dja : ∀ y b, L.J y -> (L.atT y b).isSome = true -> L.arrT y b = none /\ b ∉ L.cls y
  bmx : ∀ y b a i w, L.bmay y b a -> ¬ L.may y i a w
  bm2 : ∀ y b b' a, L.bmay y b a -> L.bmay y b' a -> b = b'
structure Stt (L : Law Y) (y y' : Y) : Prop where
  cls : L.cls y' = L.cls y
  arrT : L.arrT y' = L.arrT y
  ro : L.ro y' = L.ro y
  atT : L.atT y' = L.atT y
theorem Stt.refl (L : Law Y) (y : Y) : Stt L y y := ⟨rfl, rfl, rfl, rfl⟩
theorem Stt.trans {L : Law Y} {a b c : Y} (x : Stt L a b) (y : Stt L b c) : Stt L a c := ⟨y.cls.trans x.cls, y.arrT.trans x.arrT, y.ro.trans x.ro, y.atT.trans x.atT⟩
structure Tids where
  cell : TypeId
  wg : TypeId
structure Gf (Y : Type) where
  st : Nat
  num : Nat
  ph : Nat -> Pc
  mu : Nat -> Mu
  wg : Nat
  wv : Nat
  ww : Nat
  wz : Nat
  wp : Nat -> Nat
  fn : Nat -> Option Hp
  y : Y
def cellM (T : Tids) (v : Int) (m : Mu) : Obj := .cells #[.int .i64 v, .bool true, .int .i32 m.word, .int .u32 m.z, .chan none] T.cell (0, 0)
def wgO (T : Tids) (v w z : Nat) : Obj := .cells #[.int .u64 (v * 4294967296 + w : Nat), .int .u32 z] T.wg (0, 0)
def Gf.dn (γ : Gf Y) (i : Nat) : Prop := γ.wp i = 3 /\ (γ.fn i).isSome = true
def ct (ph : Nat -> Pc) (n b c : Nat) : Nat := nsum n fun j => if (ph j).b = b /\ (ph j).c = c then 1 else 0
def cw (γ : Gf Y) (p : Nat) : Nat := nsum γ.num fun j => if 0 < j /\ γ.wp j = p then 1 else 0
def pot (L : Law Y) (γ : Gf Y) : Nat := nsum γ.num (fun j => wt (γ.ph j).c) + lsum (L.cls γ.y) (fun b => 4 * (γ.mu b).z) + 14 * L.pairs γ.y
structure Ro (L : Law Y) (i : Nat) (γ γ' : Gf Y) : Prop where
  st : γ'.st = γ.st
  wg : γ'.wg = γ.wg
  num : γ.num <= γ'.num
  stat : Stt L γ.y γ'.y
  pot : pot L γ' <= pot L γ
  same : TJ.pot L γ' = TJ.pot L γ -> γ'.mu = γ.mu /\ L.val γ'.y = L.val γ.y
  pairs : L.pairs γ'.y <= L.pairs γ.y
  vals : L.pairs γ'.y = L.pairs γ.y -> L.val γ'.y = L.val γ.y
  law : L.R i γ.y γ'.y
structure Rr (L : Law Y) (i : Nat) (γ γ' : Gf Y) : Prop extends Ro L i γ γ' where
  ph : γ'.ph i = γ.ph i
  wp : γ'.wp i = γ.wp i
  fn : 0 < i -> γ'.fn i = γ.fn i
  nm : i = 0 -> γ'.num = γ.num
  dn : i = 0 -> ∀ j, γ.dn j -> γ'.dn j
  off : γ.st ≠ 1 -> γ' = γ
  wv : i = 0 -> γ'.wv <= γ.wv
  un : i = 0 -> ∀ j, γ.num <= j -> L.R j γ.y γ'.y
theorem Ro.refl {L : Law Y} (hL : L.Ok) (i : Nat) (γ : Gf Y) : Ro L i γ γ := ⟨rfl, rfl, Nat.le_refl _, Stt.refl _ _, Nat.le_refl _, fun _ => ⟨rfl, rfl⟩, Nat.le_refl _, fun _ => rfl, hL.refl _ _⟩
theorem Ro.trans {L : Law Y} (hL : L.Ok) {i : Nat} {a b c : Gf Y} (x : Ro L i a b) (y : Ro L i b c) : Ro L i a c :=
  ⟨y.st.trans x.st, y.wg.trans x.wg, Nat.le_trans x.num y.num, x.stat.trans y.stat, Nat.le_trans y.pot x.pot, fun e => by
    have h1 := x.pot
    have h2 := y.pot
    have e1 : TJ.pot L b = TJ.pot L a := by omega
    have e2 : TJ.pot L c = TJ.pot L b := by omega
    exact ⟨(y.same e2).1.trans (x.same e1).1, (y.same e2).2.trans (x.same e1).2⟩, Nat.le_trans y.pairs x.pairs, fun e => by
    have h1 := x.pairs
    have h2 := y.pairs
    have e1 : L.pairs b.y = L.pairs a.y := by omega
    have e2 : L.pairs c.y = L.pairs b.y := by omega
    exact (y.vals e2).trans (x.vals e1), hL.trans _ _ _ _ x.law y.law⟩
theorem Rr.refl {L : Law Y} (hL : L.Ok) (i : Nat) (γ : Gf Y) : Rr L i γ γ := ⟨Ro.refl hL i γ, rfl, rfl, fun _ => rfl, fun _ => rfl, fun _ _ x => x, fun _ => rfl, fun _ => Nat.le_refl _, fun _ _ _ => hL.refl _ _⟩
theorem Rr.trans {L : Law Y} (hL : L.Ok) {i : Nat} {a b c : Gf Y} (x : Rr L i a b) (y : Rr L i b c) : Rr L i a c :=
  ⟨x.toRo.trans hL y.toRo, y.ph.trans x.ph, y.wp.trans x.wp, fun h => (y.fn h).trans (x.fn h), fun h => (y.nm h).trans (x.nm h), fun h j z => y.dn h j (x.dn h j z), fun h => by
    have := x.off h
    subst this
    exact y.off h, fun h => Nat.le_trans (y.wv h) (x.wv h), fun h j hj => hL.trans _ _ _ _ (x.un h j hj) (y.un h j (by rw [x.nm h]; exact hj))⟩
structure JW (γ : Gf Y) : Prop where
  v : γ.wv = cw γ 0 + cw γ 1 + (if γ.wp 0 = 1 then 1 else 0)
  m0 : γ.wp 0 <= 1 -> γ.ww = 0 /\ γ.wz = 0 /\ cw γ 2 = 0 /\ cw γ 4 = 0
  m2 : γ.wp 0 = 2 -> (0 < γ.wv -> γ.ww = 1 /\ γ.wz = 0 /\ cw γ 2 = 0 /\ cw γ 4 = 0) /\ (γ.wv = 0 -> cw γ 2 + cw γ 4 + γ.wz = 1 /\ γ.ww = cw γ 2)
  m3 : γ.wp 0 = 3 -> γ.wv = 0 /\ γ.ww = 0 /\ γ.wz = 0 /\ cw γ 2 = 0 /\ cw γ 4 = 0
  le0 : γ.wp 0 <= 3
  le : ∀ j, γ.wp j <= 4
  fn : ∀ j, 0 < j -> j < γ.num -> (γ.wp j = 0 ↔ γ.fn j = none)
structure JJ (L : Law Y) (γ : Gf Y) : Prop where
  mi : ∀ b, b ∈ L.cls γ.y -> MI (γ.mu b) (ct γ.ph γ.num b)
  sn : ∀ j, j < γ.num -> (γ.ph j).c = 5 -> 1 <= (γ.ph j).q /\ (γ.ph j).q <= (γ.mu (γ.ph j).b).n
  wh : ∀ j, j < γ.num -> (γ.ph j).c ≠ 0 -> 0 < j /\ (γ.ph j).b ∈ L.cls γ.y /\ γ.wp j = 0
  wi : JW γ
  wc : γ.wg ∉ L.cls γ.y /\ L.arrT γ.y γ.wg = none /\ L.atT γ.y γ.wg = none
  le : γ.num <= 65
  law : L.J γ.y
  fin : ∀ j hf, 0 < j -> j < γ.num -> γ.fn j = some hf -> L.fin γ.y j hf
  out : ∀ j, γ.num <= j -> γ.fn j = none
structure InvF (T : Tids) (L : Law Y) (γ : Gf Y) (H : Hp) : Prop where
  cell : ∀ b, b ∈ L.cls γ.y -> H[b]? = some (cellM T (L.val γ.y b) (γ.mu b))
  arr : ∀ b t, L.arrT γ.y b = some t -> H[b]? = some (.cells (L.arr γ.y b) t (0, 0))
  atm : ∀ b t, L.atT γ.y b = some t -> H[b]? = some (.cells #[.int .i64 (L.atv γ.y b)] t (0, 0))
  wg : H[γ.wg]? = some (wgO T γ.wv γ.ww γ.wz)
  j : JJ L γ
def Stands (n i j : Nat) : Prop := (i = 0 /\ (j = 0 \/ n <= j)) \/ (0 < i /\ i < n /\ j = i)
def XF (T : Tids) (L : Law Y) : Fp (Gf Y) where
  num γ := γ.num
  cf γ := ⟨fun b => (γ.st = 1 /\ (b ∈ L.cls γ.y \/ (L.arrT γ.y b).isSome = true \/ (L.atT γ.y b).isSome = true)) \/ (γ.st ≠ 0 /\ b = γ.wg),
    fun b => γ.st = 1 /\ L.ro γ.y b /\ b ∉ L.cls γ.y /\ L.arrT γ.y b = none /\ L.atT γ.y b = none /\ b ≠ γ.wg,
    fun a => (γ.st ≠ 0 /\ a.block = γ.wg) \/ (γ.st = 1 /\ a.block ∈ L.cls γ.y /\ (a.off = 0 \/ a.off = 2 \/ a.off = 3)) \/ (γ.st = 1 /\ (L.atT γ.y a.block).isSome = true /\ a.block ∉ L.cls γ.y), γ.wg⟩
  R := Rr L
  Inv γ H := 0 < γ.num /\ (γ.st = 1 -> InvF T L γ H)
  may i γ a w := γ.st = 1 /\ a.block ≠ γ.wg /\ ((a.block ∈ L.cls γ.y /\ (a.off = 1 \/ a.off = 4) /\ w = false) \/ (a.block ∉ L.cls γ.y /\ (L.arrT γ.y a.block).isSome = true /\ L.atT γ.y a.block = none /\ ∃ j, Stands γ.num i j /\ L.may γ.y j a w))
  fin γ i := if i = 0 then none else γ.fn i
  done i γ := γ.dn i
  blk i γ := γ.st = 1 /\ ((i = 0 /\ γ.wp 0 = 2 /\ γ.wz = 0) \/ (0 < i /\ γ.wp i = 0 /\ (γ.ph i).c = 3 /\ (γ.mu (γ.ph i).b).z = 0))
  lone γ := γ.st ≠ 1 /\ ∀ j, 0 < j -> j < γ.num -> γ.dn j
  jn γ := γ.st = 2 /\ ∀ j, 0 < j -> j < γ.num -> γ.dn j
  bag γ a := if γ.st = 1 /\ a.block ∈ L.cls γ.y /\ a = ⟨a.block, 0, none⟩ then L.bag γ.y a.block else #[]
  bmay γ a l := γ.st = 1 /\ (a.block ∈ L.cls γ.y /\ a = ⟨a.block, 0, none⟩) /\ l.block ≠ γ.wg /\ l.block ∉ L.cls γ.y /\ (L.arrT γ.y l.block).isSome = true /\ L.atT γ.y l.block = none /\ L.bmay γ.y a.block l
theorem stands_uniq {n i i' j : Nat} (h : Stands n i j) (h' : Stands n i' j) : i = i' := by
  rcases h with ⟨rfl, h⟩ | ⟨h1, h2, rfl⟩ <;> rcases h' with ⟨rfl, h'⟩ | ⟨h1', h2', e⟩ <;> omega
theorem ct_pos {ph : Nat -> Pc} {n b c i : Nat} (hi : i < n) (hb : (ph i).b = b) (hc : (ph i).c = c) : 0 < ct ph n b c := by
  have := nsum_pos n (fun j => if (ph j).b = b /\ (ph j).c = c then 1 else 0) i hi
  simp only [hb, hc, and_self, if_true] at this
  exact this
theorem ct_zero {ph : Nat -> Pc} {n b c : Nat} (h : ∀ j, j < n -> (ph j).b = b -> (ph j).c ≠ c) : ct ph n b c = 0 :=
  nsum_zero _ _ fun j hj => if_neg fun ⟨h1, h2⟩ => h j hj h1 h2
theorem xf_ok (T : Tids) (L : Law Y) (hL : L.Ok) : (XF T L).Ok where
  refl := Rr.refl hL
  trans _ _ _ _ := Rr.trans hL
  cfR i a b h := by
    simp only [XF]
    rw [h.st, h.wg, h.stat.cls, h.stat.arrT, h.stat.ro, h.stat.atT]
  doneR a b i h := h.dn rfl i
  numR a b h := h.nm rfl
  rosh γ b := by
    rintro ⟨h1, _, h2, h3, h3', h4⟩ (⟨_, h | h | h⟩ | ⟨_, h⟩)
    · exact h2 h
    · rw [h3] at h; cases h
    · rw [h3'] at h; cases h
    · exact h4 h
  loneR a b h := by
    constructor
    · rintro ⟨h1, h2⟩
      rw [h.st] at h1
      have := h.off h1
      subst this
      exact ⟨h1, h2⟩
    · rintro ⟨h1, h2⟩
      have := h.off h1
      subst this
      exact ⟨h1, h2⟩
  finR i a b h0 h := by
    show (if i = 0 then none else b.fn i) = if i = 0 then none else a.fn i
    rw [h.fn h0]
  inv γ H H' hs := by
    rintro ⟨h0, h⟩
    refine ⟨h0, fun h1 => ?_⟩
    obtain ⟨a, b, b', c, d⟩ := h h1
    exact ⟨fun x hx => by rw [hs x (.inl ⟨h1, .inl hx⟩)]; exact a x hx, fun x t hx => by rw [hs x (.inl ⟨h1, .inr (.inl (by rw [hx]; rfl))⟩)]; exact b x t hx, fun x t hx => by rw [hs x (.inl ⟨h1, .inr (.inr (by rw [hx]; rfl))⟩)]; exact b' x t hx, by rw [hs γ.wg (.inr ⟨by omega, rfl⟩)]; exact c, d⟩
  mayx i j γ a w := by
    rintro ⟨_, _, ⟨_, _, h⟩ | ⟨h1, _, _, x, h2, h3⟩⟩ ⟨_, _, ⟨k1, _⟩ | ⟨_, _, _, y, k2, k3⟩⟩
    · cases h
    · cases h
    · exact absurd k1 h1
    · have := hL.mayx _ _ _ _ _ h3 k3
      subst this
      exact stands_uniq h2 k2
  mayat i γ a w := by
    rintro ⟨_, h1, h2⟩ (⟨_, k⟩ | ⟨_, k1, k2⟩ | ⟨_, k1, k2⟩)
    · exact h1 k
    · rcases h2 with ⟨_, h2, _⟩ | ⟨h2, _⟩
      · omega
      · exact h2 k1
    · rcases h2 with ⟨h2, _, _⟩ | ⟨_, _, h2, _⟩
      · exact k2 h2
      · rw [h2] at k1; cases k1
  maysh i γ a w := by
    rintro ⟨h0, h1, ⟨h2, _⟩ | ⟨_, h2, _⟩⟩
    · exact .inl ⟨h0, .inl h2⟩
    · exact .inl ⟨h0, .inr (.inl h2)⟩
  atsh γ a := by
    rintro (h | ⟨h1, h2, _⟩ | ⟨h1, h2, _⟩)
    · exact .inr h
    · exact .inl ⟨h1, .inl h2⟩
    · exact .inl ⟨h1, .inr (.inr h2)⟩
  bmx γ a l i w := by
    rintro ⟨_, _, h1, h2, h3, h4, h5⟩ ⟨_, _, ⟨k1, _⟩ | ⟨_, _, _, x, _, k3⟩⟩
    · exact h2 k1
    · exact hL.bmx _ _ _ _ _ h5 k3
  bm2 γ a a' l := by
    rintro ⟨_, ⟨_, e⟩, _, _, _, _, h⟩ ⟨_, ⟨_, e'⟩, _, _, _, _, h'⟩
    rw [e, e', hL.bm2 _ _ _ _ h h']
  bmat γ a l := by
    rintro ⟨_, _, h1, h2, h3, h4, h5⟩ (⟨_, k⟩ | ⟨_, k1, k2⟩ | ⟨_, k1, k2⟩)
    · exact h1 k
    · exact h2 k1
    · rw [h4] at k1; cases k1
  bmsh γ a l := by
    rintro ⟨h0, _, h1, h2, h3, h4, h5⟩
    exact .inl ⟨h0, .inr (.inl h3)⟩
  bat γ a h := by
    refine Classical.byContradiction fun hn => h ⟨fun b hb => ?_, fun l => ?_⟩
    · have hb' : Pres (if γ.st = 1 /\ a.block ∈ L.cls γ.y /\ a = ⟨a.block, 0, none⟩ then L.bag γ.y a.block else #[]) b := hb
      split at hb'
      · rename_i hc
        refine hn (.inr (.inl ⟨hc.1, hc.2.1, .inl ?_⟩))
        rw [hc.2.2]
      · exact absurd hb' (not_pres_empty b)
    · rintro ⟨h0, ⟨h1, h2⟩, _⟩
      refine hn (.inr (.inl ⟨h0, h1, .inl ?_⟩))
      rw [h2]
  fin i γ h0 h := by
    show (if i = 0 then none else γ.fn i).isSome = true
    rw [if_neg (by omega)]; exact h.2
  jl γ h := ⟨by rw [h.1]; omega, h.2⟩
  blkd i γ h0 h := by
    rintro ⟨_, ⟨h1, _⟩ | ⟨_, h1, _⟩⟩
    · omega
    · rw [h.1] at h1; omega
  fin0 γ := rfl
  live γ H h hall := by
    obtain ⟨h0, h⟩ := h
    obtain ⟨hs, hb⟩ : γ.st = 1 /\ γ.wp 0 = 2 /\ γ.wz = 0 := by
      rcases hall 0 h0 with ⟨h1, ⟨_, h2⟩ | ⟨h2, _⟩⟩ | ⟨h1, _⟩
      · exact ⟨h1, h2⟩
      · omega
      · omega
    have I := (h hs).j
    have hd : ∀ i, 0 < i -> i < γ.num -> γ.wp i = 3 \/ (γ.wp i = 0 /\ (γ.ph i).c = 3 /\ (γ.mu (γ.ph i).b).z = 0) := fun i i0 hi => by
      rcases hall i hi with ⟨_, ⟨h1, _⟩ | ⟨_, h1⟩⟩ | ⟨_, h1⟩
      · omega
      · exact .inr h1
      · exact .inl h1.1
    by_cases hw : ∃ i, 0 < i /\ i < γ.num /\ γ.wp i ≠ 3
    · obtain ⟨i, i0, hi, h3⟩ := hw
      obtain ⟨h4, h5, h6⟩ := (hd i i0 hi).resolve_left h3
      obtain ⟨_, hc, _⟩ := I.wh i hi (by omega)
      have M := I.mi _ hc
      have z : ∀ c, c ≠ 0 -> c ≠ 3 -> ct γ.ph γ.num (γ.ph i).b c = 0 := fun c hc0 hc3 => ct_zero fun j hj _ e => by
        obtain ⟨j0, _, jw⟩ := I.wh j hj (by omega)
        rcases hd j j0 hj with k | ⟨_, k, _⟩
        · omega
        · omega
      have hp := ct_pos (ph := γ.ph) hi rfl h5
      obtain ⟨i1, i2, i3, i4, i5, i6, i7⟩ := M
      have z2 := z 2 (by omega) (by omega)
      have z4 := z 4 (by omega) (by omega)
      have z5 := z 5 (by omega) (by omega)
      have z6 := z 6 (by omega) (by omega)
      have z7 := z 7 (by omega) (by omega)
      have z8 := z 8 (by omega) (by omega)
      have z9 := z 9 (by omega) (by omega)
      have hs' : (γ.mu (γ.ph i).b).s = 0 \/ (γ.mu (γ.ph i).b).s = 1 := by omega
      rcases hs' with e | e
      · obtain ⟨j1, j2, j3, j4⟩ := i5 e
        omega
      · obtain ⟨j1, j2, j3, j4, j5, j6, j7⟩ := i6 e
        omega
    · have z : ∀ p, p ≠ 3 -> cw γ p = 0 := fun p hp => nsum_zero _ _ fun j hj => if_neg fun ⟨j0, e⟩ => hw ⟨j, j0, hj, by omega⟩
      obtain ⟨w1, w2, w3, _⟩ := I.wi
      have k0 := z 0 (by omega)
      have k1 := z 1 (by omega)
      have k2 := z 2 (by omega)
      have k4 := z 4 (by omega)
      rw [if_neg (by omega)] at w1
      have := ((w3 hb.1).2 (by omega)).1
      omega
  lone γ i h := h.2 i
end
section
variable [Dm]
open Go Go.Conc
open Go.ConcN (upd upd_ne upd_same)
variable {Y : Type} {T : Tids} {L : Law Y}
structure Stp0 (L : Law Y) (i : Nat) (γ γ' : Gf Y) : Prop where
  on : γ.st = 1
  hi : i < γ.num
  st : γ'.st = γ.st
  wg : γ'.wg = γ.wg
  num : γ'.num = γ.num
  stat : Stt L γ.y γ'.y
  pot : pot L γ' <= pot L γ
  same : TJ.pot L γ' = TJ.pot L γ -> γ'.mu = γ.mu /\ L.val γ'.y = L.val γ.y
  pairs : L.pairs γ'.y <= L.pairs γ.y
  vals : L.pairs γ'.y = L.pairs γ.y -> L.val γ'.y = L.val γ.y
  law : ∀ j, j ≠ i -> L.R j γ.y γ'.y
  ph : ∀ j, j ≠ i -> γ'.ph j = γ.ph j
  wp : ∀ j, j ≠ i -> γ'.wp j = γ.wp j
  fn : ∀ j, j ≠ i -> γ'.fn j = γ.fn j
  dn : γ.dn i -> γ'.dn i
  wv : i ≠ 0 -> γ'.wv <= γ.wv
structure Stp (L : Law Y) (i : Nat) (γ γ' : Gf Y) : Prop extends Stp0 L i γ γ' where
  may : ∀ j a w, L.may γ'.y j a w -> L.may γ.y j a w
  bag : L.bag γ'.y = L.bag γ.y
  bmay : ∀ b a, L.bmay γ'.y b a -> L.bmay γ.y b a
theorem Stp0.rr {i j : Nat} {γ γ' : Gf Y} (s : Stp0 L i γ γ') (hj : j ≠ i) : Rr L j γ γ' :=
  ⟨⟨s.st, s.wg, Nat.le_of_eq s.num.symm, s.stat, s.pot, s.same, s.pairs, s.vals, s.law j hj⟩, s.ph j hj, s.wp j hj, fun _ => s.fn j hj, fun _ => s.num, fun _ x hx => by
    by_cases e : x = i
    · subst e; exact s.dn hx
    · unfold Gf.dn; rw [s.wp x e, s.fn x e]; exact hx, fun z => absurd s.on z, fun z => s.wv (fun e => hj (z.trans e.symm)), fun _ j' hj' => s.law j' (fun e => by have := s.hi; omega)⟩
theorem Stp.ro {i j : Nat} {γ γ' : Gf Y} (s : Stp L i γ γ') (h : L.R j γ.y γ'.y) : Ro L j γ γ' := ⟨s.st, s.wg, Nat.le_of_eq s.num.symm, s.stat, s.pot, s.same, s.pairs, s.vals, h⟩
theorem Stp.mv {i : Nat} {γ γ' : Gf Y} (s : Stp L i γ γ') : Mv (XF T L) i γ γ' where
  num := s.num
  cf := by
    simp only [XF]
    rw [s.st, s.wg, s.stat.cls, s.stat.arrT, s.stat.ro, s.stat.atT]
  R j hj hn hd := ⟨s.ro (s.law j hj), s.ph j hj, s.wp j hj, fun _ => s.fn j hj, fun _ => s.num, fun _ x hx => by
    by_cases e : x = i
    · subst e; exact s.dn hx
    · unfold Gf.dn; rw [s.wp x e, s.fn x e]; exact hx, fun z => absurd s.on z, fun z => s.wv (fun e => hj (z.trans e.symm)), fun _ j' hj' => s.law j' (fun e => by have := s.hi; omega)⟩
  fin j hj := by
    show (if j = 0 then none else γ'.fn j) = if j = 0 then none else γ.fn j
    rw [s.fn j hj]
  done j hj := by
    show γ'.dn j ↔ γ.dn j
    unfold Gf.dn; rw [s.wp j hj, s.fn j hj]
  may j a w := by
    show γ'.st = 1 /\ _ -> γ.st = 1 /\ _
    rw [s.st, s.wg, s.stat.cls, s.stat.arrT, s.stat.atT, s.num]
    exact fun ⟨h1, h2, h3⟩ => ⟨h1, h2, h3.imp id fun ⟨k1, k2, k3, x, k4, k5⟩ => ⟨k1, k2, k3, x, k4, s.may _ _ _ k5⟩⟩
  bag := by
    funext a
    show (if γ'.st = 1 /\ a.block ∈ L.cls γ'.y /\ _ then L.bag γ'.y a.block else #[]) = if γ.st = 1 /\ a.block ∈ L.cls γ.y /\ _ then L.bag γ.y a.block else #[]
    rw [s.st, s.stat.cls, s.bag]
  bmay a l := by
    show γ'.st = 1 /\ _ -> γ.st = 1 /\ _
    rw [s.st, s.wg, s.stat.cls, s.stat.arrT, s.stat.atT]
    exact fun ⟨h1, h2, h3, h4, h5, h6, h7⟩ => ⟨h1, h2, h3, h4, h5, h6, s.bmay _ _ h7⟩
  jn := by
    show (γ'.st = 2 /\ _) ↔ (γ.st = 2 /\ _)
    rw [s.st, s.on]
    constructor <;> (rintro ⟨h, _⟩; omega)
theorem gh_of {i : Nat} {γ γ' : Gf Y} {H' : Hp} (s : Stp L i γ γ') (hp : 0 < γ.num) (hf : γ'.fn i = γ.fn i) (hI : InvF T L γ' H') : Gh (XF T L) i γ γ' H' where
  inv := ⟨by rw [s.num]; exact hp, fun _ => hI⟩
  mv := s.mv
  fin := by
    show (if i = 0 then none else γ'.fn i) = if i = 0 then none else γ.fn i
    rw [hf]
  lone := by
    show (γ'.st ≠ 1 /\ _) ↔ (γ.st ≠ 1 /\ _)
    rw [s.st, s.on]
    constructor <;> (rintro ⟨h, _⟩; omega)
structure At (L : Law Y) (i : Nat) (p : Pc) (γ : Gf Y) : Prop where
  on : γ.st = 1
  i0 : 0 < i
  hi : i < γ.num
  ph : γ.ph i = p
  wp : γ.wp i = 0
  fn : γ.fn i = none
theorem At.rr {i : Nat} {p : Pc} {γ γ' : Gf Y} (h : At L i p γ) (r : Rr L i γ γ') : At L i p γ' :=
  ⟨r.st.trans h.on, h.i0, Nat.lt_of_lt_of_le h.hi r.num, r.ph.trans h.ph, r.wp.trans h.wp, (r.fn h.i0).trans h.fn⟩
theorem At.nd {i : Nat} {p : Pc} {γ : Gf Y} (h : At L i p γ) : ¬ γ.dn i := fun z => by have := z.1; rw [h.wp] at this; omega
def muMove (γ : Gf Y) (i b : Nat) (m' : Mu) (c' q' : Nat) : Gf Y := { γ with ph := upd γ.ph i ⟨b, c', q'⟩, mu := upd γ.mu b m' }
theorem ct_upd {ph : Nat -> Pc} {n i b c q c' q' : Nat} (hi : i < n) (hp : ph i = ⟨b, c, q⟩) (x : Nat) : ct (upd ph i ⟨b, c', q'⟩) n b x + (if c = x then 1 else 0) = ct ph n b x + (if c' = x then 1 else 0) := by
  have := nsum_upd n (fun j => if (upd ph i ⟨b, c', q'⟩ j).b = b /\ (upd ph i ⟨b, c', q'⟩ j).c = x then 1 else 0) (fun j => if (ph j).b = b /\ (ph j).c = x then 1 else 0) i hi fun j _ hj => by rw [upd_ne ph _ hj]
  simp only [upd_same, hp, true_and] at this
  exact this
theorem ct_other {ph : Nat -> Pc} {n i b c q c' q' b' : Nat} (hp : ph i = ⟨b, c, q⟩) (hb : b' ≠ b) (x : Nat) : ct (upd ph i ⟨b, c', q'⟩) n b' x = ct ph n b' x := by
  refine nsum_congr _ _ _ fun j _ => ?_
  by_cases e : j = i
  · subst e
    simp only [upd_same, hp]
    rw [if_neg (fun z => hb z.1.symm), if_neg (fun z => hb z.1.symm)]
  · rw [upd_ne ph _ e]
theorem mu_move (hL : L.Ok) {γ : Gf Y} {i b c q c' q' : Nat} {m' : Mu} {H H' : Hp} (hA : At L i ⟨b, c, q⟩ γ) (hI : InvF T L γ H) (hc : c ≠ 0) (hT : Tr (γ.mu b) c q m' c' q') (hH : H'[b]? = some (cellM T (L.val γ.y b) m')) (hne : ∀ x, x ≠ b -> H'[x]? = H[x]?) :
    InvF T L (muMove γ i b m' c' q') H' /\ Stp L i γ (muMove γ i b m' c' q') /\ Ro L i γ (muMove γ i b m' c' q') /\ At L i ⟨b, c', q'⟩ (muMove γ i b m' c' q') := by
  have J := hI.j
  have hpi : (γ.ph i).b = b /\ (γ.ph i).c = c /\ (γ.ph i).q = q := by rw [hA.ph]; exact ⟨rfl, rfl, rfl⟩
  obtain ⟨_, hb, _⟩ := J.wh i hA.hi (by rw [hpi.2.1]; exact hc)
  rw [hpi.1] at hb
  have hM := J.mi b hb
  have hnd := hL.nodup _ J.law
  have hq : c = 5 -> 1 <= q /\ q <= (γ.mu b).n := fun e => by
    have := J.sn i hA.hi (by rw [hpi.2.1, e])
    rwa [hpi.1, hpi.2.2] at this
  have hpot : pot L (muMove γ i b m' c' q') + (wt c + 4 * (γ.mu b).z) = pot L γ + (wt c' + 4 * m'.z) := by
    have h1 := nsum_upd γ.num (fun j => wt (upd γ.ph i ⟨b, c', q'⟩ j).c) (fun j => wt (γ.ph j).c) i hA.hi fun j _ hj => by rw [upd_ne γ.ph _ hj]
    have h2 := lsum_upd (L.cls γ.y) (fun x => 4 * (upd γ.mu b m' x).z) (fun x => 4 * (γ.mu x).z) b hnd hb fun x hx => by rw [upd_ne γ.mu _ hx]
    simp only [upd_same, hpi.2.1] at h1 h2
    unfold pot muMove
    simp only
    omega
  have hpt := hT.pot
  have hsame : (upd γ.mu b (γ.mu b)) = γ.mu := by
    funext x
    by_cases e : x = b
    · subst e; rw [upd_same]
    · rw [upd_ne γ.mu _ e]
  have S : Stp L i γ (muMove γ i b m' c' q') := by
    refine ⟨⟨hA.on, hA.hi, rfl, rfl, rfl, Stt.refl _ _, by omega, fun e => ?_, Nat.le_refl _, fun _ => rfl, fun j _ => hL.refl _ _, fun j hj => upd_ne γ.ph _ hj, fun _ _ => rfl, fun _ _ => rfl, id, fun _ => Nat.le_refl _⟩, fun _ _ _ z => z, rfl, fun _ _ z => z⟩
    rcases hpt.2 with rfl | h
    · exact ⟨hsame, rfl⟩
    · omega
  refine ⟨⟨fun x hx => ?_, fun x t hx => ?_, fun x t hx => ?_, ?_, ?_⟩, S, S.ro (hL.refl _ _), ⟨hA.on, hA.i0, hA.hi, upd_same _ _ _, hA.wp, hA.fn⟩⟩
  · by_cases e : x = b
    · subst e
      rw [hH]; simp [muMove, upd_same]
    · rw [hne x e]
      show _ = some (cellM T (L.val γ.y x) (upd γ.mu b m' x))
      rw [upd_ne γ.mu _ e]
      exact hI.cell x hx
  · have : x ≠ b := fun z => by subst z; have := hL.dj _ _ J.law hb; simp only [muMove] at hx; rw [this] at hx; cases hx
    rw [hne x this]
    exact hI.arr x t hx
  · have : x ≠ b := fun z => by subst z; exact (hL.dja _ _ J.law (by rw [show L.atT γ.y x = some t from hx]; rfl)).2 hb
    rw [hne x this]
    exact hI.atm x t hx
  · rw [hne _ (fun z => J.wc.1 (by have z' : γ.wg = b := z; rw [z']; exact hb))]
    exact hI.wg
  · refine ⟨fun x hx => ?_, fun j hj h5 => ?_, fun j hj h0 => ?_, ?_, J.wc, J.le, J.law, J.fin, J.out⟩
    · by_cases e : x = b
      · subst e
        show MI (upd γ.mu x m' x) _
        rw [upd_same]
        exact hT.keep hM (fun y => ct_upd hA.hi hA.ph y) hq
      · show MI (upd γ.mu b m' x) (ct (upd γ.ph i ⟨b, c', q'⟩) γ.num x)
        rw [upd_ne γ.mu _ e, show ct (upd γ.ph i ⟨b, c', q'⟩) γ.num x = ct γ.ph γ.num x from funext fun y => ct_other hA.ph e y]
        exact J.mi x hx
    · by_cases e : j = i
      · subst e
        simp only [muMove, upd_same] at h5 ⊢
        exact hT.seen hM h5
      · simp only [muMove, upd_ne γ.ph _ e] at h5 ⊢
        have h1 := J.sn j hj h5
        by_cases e2 : (γ.ph j).b = b
        · rw [e2, upd_same]
          rw [e2] at h1
          have hp := ct_pos (ph := γ.ph) hA.hi hpi.1 hpi.2.1
          have h55 : (if c = 5 then 1 else 0) < ct γ.ph γ.num b 5 := by
            by_cases e5 : c = 5
            · rw [if_pos e5]
              have hjp := ct_upd (c' := 0) (q' := 0) hA.hi hA.ph 5
              rw [if_pos e5] at hjp
              have hj1 : 0 < ct (upd γ.ph i ⟨b, 0, 0⟩) γ.num b 5 := ct_pos (i := j) hj (by rw [upd_ne γ.ph _ e]; exact e2) (by rw [upd_ne γ.ph _ e]; exact h5)
              simp at hjp
              omega
            · rw [if_neg e5]; exact ct_pos hj e2 h5
          have := hT.seenO hM hp h55
          omega
        · rw [upd_ne γ.mu _ e2]; exact h1
    · by_cases e : j = i
      · subst e
        simp only [muMove, upd_same]
        exact ⟨hA.i0, hb, hA.wp⟩
      · simp only [muMove, upd_ne γ.ph _ e] at h0 ⊢
        exact J.wh j hj h0
    · obtain ⟨w1, w2, w3, w4, w5, w6, w7⟩ := J.wi
      exact ⟨w1, w2, w3, w4, w5, w6, w7⟩
theorem Tr.no3 {m m' : Mu} {q c' q' : Nat} (h : Tr m 3 q m' c' q') : m' ≠ m := by
  generalize hc : 3 = c at h
  cases h <;> simp at hc
  rename_i hz
  intro e
  have := congrArg Mu.z e
  simp only at this
  omega
theorem Mu.word_inj {m m' : Mu} (hb : m.b <= 1) (hk : m.k <= 1) (hs : m.s <= 1) (hb' : m'.b <= 1) (hk' : m'.k <= 1) (hs' : m'.s <= 1) (h : m.word = m'.word) : m.b = m'.b /\ m.k = m'.k /\ m.s = m'.s /\ m.n = m'.n := by
  unfold Mu.word at h
  omega
theorem cellM_cell {H : Hp} {b : Nat} {v : Int} {m : Mu} (h : H[b]? = some (cellM T v m)) : hcell H ⟨b, 0, none⟩ = some (.int .i64 v) /\ hcell H ⟨b, 1, none⟩ = some (.bool true) /\ hcell H ⟨b, 2, none⟩ = some (.int .i32 m.word) /\ hcell H ⟨b, 3, none⟩ = some (.int .u32 m.z) /\ hcell H ⟨b, 4, none⟩ = some (.chan none) /\ ∀ o, hfroz H ⟨b, o, none⟩ = false :=
  ⟨hcell_of h rfl, hcell_of h rfl, hcell_of h rfl, hcell_of h rfl, hcell_of h rfl, fun _ => hfroz_of h⟩
theorem cellM_set {H : Hp} {b : Nat} {v : Int} {m m' : Mu} {o : Nat} {x : Value} (h : H[b]? = some (cellM T v m)) (v' : Int) (hx : (o = 0 /\ x = .int .i64 v' /\ m' = m) \/ (o = 2 /\ v' = v /\ x = .int .i32 m'.word /\ m'.z = m.z) \/ (o = 3 /\ v' = v /\ x = .int .u32 m'.z /\ m'.word = m.word)) : (hset H ⟨b, o, none⟩ x)[b]? = some (cellM T v' m') := by
  rw [hset_get, if_pos rfl, h]
  rcases hx with ⟨rfl, rfl, rfl⟩ | ⟨rfl, rfl, rfl, e⟩ | ⟨rfl, rfl, rfl, e⟩
  · rfl
  · show some (Obj.cells _ _ _) = some (Obj.cells _ _ _)
    rw [e]; rfl
  · show some (Obj.cells _ _ _) = some (Obj.cells _ _ _)
    rw [e]; rfl
section
variable {P : Program} {f : FuncId} {n : Nat} {k : List Item} {env : Env} {ds : List Deferred} {h : Hp} {δ : Ix (Gf Y)} {R : Post (Gf Y)} {ops : Array Oper} {l : List Oper} {i b c q d : Nat}
variable {x : Operand} {args : Array Operand} {ats : Array TypeId} {ty : TypeId} {pos : String} {af : Array Edge} {g : Option (Nat × Bool)} {cc : FuncId}
theorem opp_w : ∀ g h δ Yy, Opp P false (XF T L) i g h δ Yy -> (SitW P (XF T L) i).yld g h δ Yy := fun _ _ _ _ z => .inr (.inl z)
theorem atok_cell {γ : Gf Y} {p : Pc} {dd o : Nat} (hA : At L i p γ) (hb : b ∈ L.cls γ.y) (ho : o = 0 \/ o = 2 \/ o = 3) : AtOk (XF T L) i γ dd ⟨b, o, none⟩ :=
  ⟨.inr (.inl ⟨hA.on, hb, ho⟩), fun h0 hf => by
    have : (if i = 0 then none else γ.fn i) = none := by rw [hA.fn]; split <;> rfl
    rw [show (XF T L).fin γ i = (if i = 0 then none else γ.fn i) from rfl, this] at hf
    cases hf⟩
theorem nobag_of {γ : Gf Y} {a : Addr} (h : ¬ (a.block ∈ L.cls γ.y /\ a = ⟨a.block, 0, none⟩)) : NoBag (XF T L) γ a := by
  refine ⟨fun x hx => ?_, fun l hl => h hl.2.1⟩
  have hx' : Pres (if γ.st = 1 /\ a.block ∈ L.cls γ.y /\ a = ⟨a.block, 0, none⟩ then L.bag γ.y a.block else #[]) x := hx
  rw [if_neg (fun z => h z.2)] at hx'
  exact absurd hx' (not_pres_empty x)
def LNoBag (L : Law Y) (y : Y) (b : Nat) : Prop := (∀ x, ¬ Pres (L.bag y b) x) /\ ∀ a, ¬ L.bmay y b a
theorem nobag_cell {γ : Gf Y} {b : Nat} (h : LNoBag L γ.y b) : NoBag (XF T L) γ ⟨b, 0, none⟩ := by
  refine ⟨fun x hx => ?_, fun l hl => h.2 l hl.2.2.2.2.2.2⟩
  have hx' : Pres (if γ.st = 1 /\ b ∈ L.cls γ.y /\ _ then L.bag γ.y b else #[]) x := hx
  split at hx'
  · exact h.1 x hx'
  · exact absurd hx' (not_pres_empty x)
theorem atokW_cell {γ : Gf Y} {p : Pc} {dd o : Nat} (hA : At L i p γ) (hb : b ∈ L.cls γ.y) (ho : o = 2 \/ o = 3) : AtOkW (XF T L) i γ dd ⟨b, o, none⟩ :=
  ⟨atok_cell hA hb (.inr ho), nobag_of fun z => by
    have := congrArg Addr.off z.2
    simp only at this
    omega⟩
theorem mu_gh (hL : L.Ok) {γ : Gf Y} {c' q' o : Nat} {m' : Mu} {w : World} {v : Value} (hA : At L i ⟨b, c, q⟩ γ) (hI : (XF T L).Inv γ w.heap) (hc : c ≠ 0) (hT : Tr (γ.mu b) c q m' c' q') (ho : (o = 2 /\ v = .int .i32 m'.word /\ m'.z = (γ.mu b).z) \/ (o = 3 /\ v = .int .u32 m'.z /\ m'.word = (γ.mu b).word)) :
    Gh (XF T L) i γ (muMove γ i b m' c' q') (hset w.heap ⟨b, o, none⟩ v) /\ Ro L i γ (muMove γ i b m' c' q') /\ At L i ⟨b, c', q'⟩ (muMove γ i b m' c' q') := by
  have hF := hI.2 hA.on
  have hb : b ∈ L.cls γ.y := by
    have := (hF.j.wh i hA.hi (by rw [hA.ph]; exact hc)).2.1
    rwa [hA.ph] at this
  obtain ⟨h1, h2, h3, h4⟩ := mu_move (H' := hset w.heap ⟨b, o, none⟩ v) hL hA hF hc hT (cellM_set (hF.cell b hb) _ (by
    rcases ho with ⟨rfl, rfl, e⟩ | ⟨rfl, rfl, e⟩
    · exact .inr (.inl ⟨rfl, rfl, rfl, e⟩)
    · exact .inr (.inr ⟨rfl, rfl, rfl, e⟩))) fun y hy => hset_ne w.heap _ _ (fun z => hy z.symm)
  exact ⟨gh_of h2 hI.1 rfl h1, h3, h4⟩
theorem mu_gh0 (hL : L.Ok) {γ : Gf Y} {c' q' : Nat} {H : Hp} (hA : At L i ⟨b, c, q⟩ γ) (hI : (XF T L).Inv γ H) (hc : c ≠ 0) (hT : Tr (γ.mu b) c q (γ.mu b) c' q') :
    Gh (XF T L) i γ (muMove γ i b (γ.mu b) c' q') H /\ Ro L i γ (muMove γ i b (γ.mu b) c' q') /\ At L i ⟨b, c', q'⟩ (muMove γ i b (γ.mu b) c' q') := by
  have hF := hI.2 hA.on
  have hb : b ∈ L.cls γ.y := by
    have := (hF.j.wh i hA.hi (by rw [hA.ph]; exact hc)).2.1
    rwa [hA.ph] at this
  obtain ⟨h1, h2, h3, h4⟩ := mu_move (H' := H) hL hA hF hc hT (hF.cell b hb) fun _ _ => rfl
  exact ⟨gh_of h2 hI.1 rfl h1, h3, h4⟩
theorem muMove_mu {γ : Gf Y} {m' : Mu} {c' q' : Nat} : (muMove γ i b m' c' q').mu b = m' := upd_same _ _ _
theorem at_cls {γ : Gf Y} {H : Hp} (hA : At L i ⟨b, c, q⟩ γ) (hI : (XF T L).Inv γ H) (hc : c ≠ 0) : b ∈ L.cls γ.y /\ MI (γ.mu b) (ct γ.ph γ.num b) /\ 0 < ct γ.ph γ.num b c /\ γ.num <= 65 /\ (c = 5 -> 1 <= q /\ q <= (γ.mu b).n) := by
  have hF := hI.2 hA.on
  have h1 := (hF.j.wh i hA.hi (by rw [hA.ph]; exact hc)).2.1
  rw [hA.ph] at h1
  refine ⟨h1, hF.j.mi b h1, ct_pos hA.hi (by rw [hA.ph]) (by rw [hA.ph]), hF.j.le, fun e => ?_⟩
  have := hF.j.sn i hA.hi (by rw [hA.ph]; exact e)
  rwa [hA.ph] at this
theorem ER.casM (hL : L.Ok) {y nv : Int} [ExtFn P cc (Extern.Atomic.casT (.int .i32))] (hw : wantE ops env g = some true) (hd : Nat.blt d n = true) (hx : ev env x = some (.func (.func cc) #[] #[])) (ha : evL env args.toList = some [.pointer (some ⟨b, 2, none⟩), .int .i32 y, .int .i32 nv]) (hA : At L i ⟨b, c, q⟩ δ.g) (hc : c ≠ 0)
    (hop : ∀ γ₁, Ro L i δ.g γ₁ -> At L i ⟨b, c, q⟩ γ₁ -> MI (γ₁.mu b) (ct γ₁.ph γ₁.num b) -> 0 < ct γ₁.ph γ₁.num b c -> γ₁.num <= 65 ->
      ((γ₁.mu b).word = y -> ∃ m' c' q', m'.word = nv /\ m'.z = (γ₁.mu b).z /\ Tr (γ₁.mu b) c q m' c' q' /\ ∀ γ₂, Ro L i δ.g γ₂ -> At L i ⟨b, c', q'⟩ γ₂ -> γ₂.mu b = m' -> ER P false (SitW P (XF T L) i) f n ops l k ((d, .bool true) :: env) ds h ⟨δ.d, γ₂⟩ R) /\
      ((γ₁.mu b).word ≠ y -> ER P false (SitW P (XF T L) i) f n ops l k ((d, .bool false) :: env) ds h ⟨δ.d, γ₁⟩ R)) :
    ER P false (SitW P (XF T L) i) f n ops (⟨some d, .call { callee := .value x, args, argTypes := ats }, ty, pos, af, g⟩ :: l) k env ds h δ R := by
  refine ER.acasS (xf_ok T L hL) opp_w hw hd hx ha (fun _ => hA.nd) fun γ₁ w hR hI hP => ?_
  have hA1 := hA.rr hR
  obtain ⟨hb, hM, hct, hle, _⟩ := at_cls hA1 hI hc
  have hcell := (hI.2 hA1.on).cell b hb
  obtain ⟨k1, k2⟩ := hop γ₁ hR.toRo hA1 hM hct hle
  refine ⟨(γ₁.mu b).word, (cellM_cell hcell).2.2.1, (cellM_cell hcell).2.2.2.2.2 2, atokW_cell hA1 hb (by simp), ?_⟩
  by_cases e : (γ₁.mu b).word = y
  · obtain ⟨m', c', q', e1, e2, e3, e4⟩ := k1 e
    obtain ⟨g1, g2, g3⟩ := mu_gh (v := .int .i32 nv) (o := 2) hL hA1 hI hc e3 (.inl ⟨rfl, by rw [e1], e2⟩)
    exact .inl ⟨e, _, g1, e4 _ (hR.toRo.trans hL g2) g3 muMove_mu⟩
  · have hX := xf_ok T L hL
    exact .inr ⟨e, γ₁, ⟨hI, Mv.refl' hX i γ₁, rfl, Iff.rfl⟩, k2 e⟩
theorem ER.addM (hL : L.Ok) {y : Int} [ExtFn P cc (Extern.Atomic.update (Op.intArith .add) .i32 true)] (hw : wantE ops env g = some true) (hd : Nat.blt d n = true) (hx : ev env x = some (.func (.func cc) #[] #[])) (ha : evL env args.toList = some [.pointer (some ⟨b, 2, none⟩), .int .i32 y]) (hA : At L i ⟨b, c, q⟩ δ.g) (hc : c ≠ 0)
    (hop : ∀ γ₁, Ro L i δ.g γ₁ -> At L i ⟨b, c, q⟩ γ₁ -> MI (γ₁.mu b) (ct γ₁.ph γ₁.num b) -> 0 < ct γ₁.ph γ₁.num b c -> γ₁.num <= 65 -> (c = 5 -> 1 <= q /\ q <= (γ₁.mu b).n) ->
      ∃ m' c' q', IntKind.i32.wrap ((γ₁.mu b).word + y) = m'.word /\ m'.z = (γ₁.mu b).z /\ Tr (γ₁.mu b) c q m' c' q' /\ ∀ γ₂, Ro L i δ.g γ₂ -> At L i ⟨b, c', q'⟩ γ₂ -> γ₂.mu b = m' -> ER P false (SitW P (XF T L) i) f n ops l k ((d, .int .i32 m'.word) :: env) ds h ⟨δ.d, γ₂⟩ R) :
    ER P false (SitW P (XF T L) i) f n ops (⟨some d, .call { callee := .value x, args, argTypes := ats }, ty, pos, af, g⟩ :: l) k env ds h δ R := by
  refine ER.aaddS (xf_ok T L hL) opp_w hw hd hx ha (fun _ => hA.nd) fun γ₁ w hR hI hP => ?_
  have hA1 := hA.rr hR
  obtain ⟨hb, hM, hct, hle, hq⟩ := at_cls hA1 hI hc
  have hcell := (hI.2 hA1.on).cell b hb
  obtain ⟨m', c', q', e1, e2, e3, e4⟩ := hop γ₁ hR.toRo hA1 hM hct hle hq
  obtain ⟨g1, g2, g3⟩ := mu_gh (v := .int .i32 m'.word) (o := 2) hL hA1 hI hc e3 (.inl ⟨rfl, rfl, e2⟩)
  refine ⟨(γ₁.mu b).word, _, (cellM_cell hcell).2.2.1, (cellM_cell hcell).2.2.2.2.2 2, atokW_cell hA1 hb (by simp), by rw [e1]; exact g1, ?_⟩
  rw [e1]
  exact e4 _ (hR.toRo.trans hL g2) g3 muMove_mu
theorem ER.loadM (hL : L.Ok) {t : TypeId} [Scal P t] (hq : (P.funcs[f]?).any (·.norace) = true) (hw : wantE ops env g = some true) (hd : Nat.blt d n = true) (hx : ev env x = some (.pointer (some ⟨b, 2, none⟩))) (hA : At L i ⟨b, c, q⟩ δ.g) (hc : c ≠ 0)
    (hop : ∀ γ₁, Ro L i δ.g γ₁ -> At L i ⟨b, c, q⟩ γ₁ -> MI (γ₁.mu b) (ct γ₁.ph γ₁.num b) -> 0 < ct γ₁.ph γ₁.num b c -> γ₁.num <= 65 ->
      (∃ c' q', Tr (γ₁.mu b) c q (γ₁.mu b) c' q' /\ ∀ γ₂, Ro L i δ.g γ₂ -> At L i ⟨b, c', q'⟩ γ₂ -> γ₂.mu b = γ₁.mu b -> TJ.pot L γ₂ <= TJ.pot L γ₁ -> γ₂.num = γ₁.num -> ER P false (SitW P (XF T L) i) f n ops l k ((d, .int .i32 (γ₁.mu b).word) :: env) ds h ⟨δ.d, γ₂⟩ R) \/
      ER P false (SitW P (XF T L) i) f n ops l k ((d, .int .i32 (γ₁.mu b).word) :: env) ds h ⟨δ.d, γ₁⟩ R) :
    ER P false (SitW P (XF T L) i) f n ops (⟨some d, .load t x, ty, pos, af, g⟩ :: l) k env ds h δ R := by
  have hX := xf_ok T L hL
  refine ER.opp opp_w rfl hd hw (fun _ => hA.nd) fun ρ hρ γ₁ w hR hI hP => .inr ?_
  have hA1 := hA.rr hR
  obtain ⟨hb, hM, hct, hle, _⟩ := at_cls hA1 hI hc
  have hcell := (cellM_cell ((hI.2 hA1.on).cell b hb)).2.2.1
  have hrun : (execOp ρ ⟨some d, .load t x, ty, pos, af, g⟩).runT P w #[] = (.ok (.value (.int .i32 (γ₁.mu b).word)) w, #[⟨.cell ⟨b, 2, none⟩, false, false⟩]) := by
    show ((Instr.sureAddr (ρ x) >>= fun a => loadVar t a) >>= fun v => pure (Next.value v)).runT P w #[] = _
    rw [hρ x _ hx]
    show (loadVar t ⟨b, 2, none⟩ >>= fun v => pure (Next.value v)).runT P w #[] = _
    rw [runT_bindOk (runT_loadVar1 hcell)]
    rfl
  rcases hop γ₁ hR.toRo hA1 hM hct hle with ⟨c', q', hT, hn⟩ | hn
  · obtain ⟨g1, g2, g3⟩ := mu_gh0 hL hA1 hI hc hT
    refine ⟨_, w, _, muMove γ₁ i b (γ₁.mu b) c' q', hrun, .inr fun j hj => ?_, ?_, by rw [seen_quiet hq]; exact hn _ (hR.toRo.trans hL g2) g3 muMove_mu g2.pot rfl⟩
    · obtain ⟨h1, h2⟩ := hj
      refine ⟨h1, h2.imp id fun ⟨k0, k1, k2, k3⟩ => ?_⟩
      have hij : j ≠ i := fun e => by
        subst e
        rw [hA1.ph] at k2
        simp only at k2
        subst k2
        exact Tr.no3 hT rfl
      refine ⟨k0, k1, ?_, ?_⟩
      · show (upd γ₁.ph i _ j).c = 3
        rw [upd_ne γ₁.ph _ hij]; exact k2
      · show (upd γ₁.mu b _ (upd γ₁.ph i _ j).b).z = 0
        rw [upd_ne γ₁.ph _ hij]
        by_cases e : (γ₁.ph j).b = b
        · rw [e, upd_same]; rw [e] at k3; exact k3
        · rw [upd_ne γ₁.mu _ e]; exact k3
    · rw [seen_quiet hq]
      exact ⟨SameL.refl w, fun _ _ => rfl, rfl, g1.inv, g1.mv, g1.fin, by simp, fun _ _ j e hj => by simp at hj, g1.lone⟩
  · refine ⟨_, w, _, γ₁, hrun, .inr fun _ z => z, ?_, by rw [seen_quiet hq]; exact hn⟩
    rw [seen_quiet hq]
    exact ⟨SameL.refl w, fun _ _ => rfl, rfl, hI, Mv.refl' hX i γ₁, rfl, by simp, fun _ _ j e hj => by simp at hj, Iff.rfl⟩
theorem ER.semacqM (hL : L.Ok) {vs : List Value} [ExtFn P cc Extern.Sync.semacquire] (hw : wantE ops env g = some true) (hd : Nat.blt d n = true) (hx : ev env x = some (.func (.func cc) #[] #[])) (ha : evL env args.toList = some (.pointer (some ⟨b, 3, none⟩) :: vs)) (hA : At L i ⟨b, 3, q⟩ δ.g)
    (hop : ∀ γ₂, Ro L i δ.g γ₂ -> TJ.pot L γ₂ < TJ.pot L δ.g -> At L i ⟨b, 4, 0⟩ γ₂ -> ER P false (SitW P (XF T L) i) f n ops l k ((d, .tuple #[]) :: env) ds h ⟨δ.d, γ₂⟩ R) :
    ER P false (SitW P (XF T L) i) f n ops (⟨some d, .call { callee := .value x, args, argTypes := ats }, ty, pos, af, g⟩ :: l) k env ds h δ R := by
  refine ER.semacqS (xf_ok T L hL) opp_w hw hd hx ha (fun _ => hA.nd) fun γ₁ w hR hI hP => ?_
  have hA1 := hA.rr hR
  obtain ⟨hb, hM, hct, hle, _⟩ := at_cls hA1 hI (by omega)
  have hcell := (cellM_cell ((hI.2 hA1.on).cell b hb))
  refine ⟨((γ₁.mu b).z : Int), hcell.2.2.2.1, hcell.2.2.2.2.2 3, atokW_cell hA1 hb (by simp), ?_⟩
  rcases Nat.eq_zero_or_pos (γ₁.mu b).z with e | e
  · exact .inl ⟨by omega, hA1.on, .inr ⟨hA1.i0, hA1.wp, by rw [hA1.ph], by rw [hA1.ph]; exact e⟩⟩
  · have hT : Tr (γ₁.mu b) 3 q { γ₁.mu b with z := (γ₁.mu b).z - 1 } 4 0 := .grant e
    obtain ⟨g1, g2, g3⟩ := mu_gh (v := .int .u32 ((γ₁.mu b).z - 1 : Int)) (o := 3) hL hA1 hI (by omega) hT (.inr ⟨rfl, by simp only; congr 1; omega, rfl⟩)
    refine .inr ⟨by omega, _, g1, hop _ (hR.toRo.trans hL g2) (Nat.lt_of_lt_of_le (Nat.lt_of_le_of_ne g2.pot fun z => ?_) hR.pot) g3⟩
    have h1 := congrFun (g2.same z).1 b
    rw [muMove_mu] at h1
    have h2 := congrArg Mu.z h1
    simp only at h2
    omega
theorem ER.semrelM (hL : L.Ok) {vs : List Value} [ExtFn P cc Extern.Sync.semrelease] (hw : wantE ops env g = some true) (hd : Nat.blt d n = true) (hx : ev env x = some (.func (.func cc) #[] #[])) (ha : evL env args.toList = some (.pointer (some ⟨b, 3, none⟩) :: vs)) (hA : At L i ⟨b, c, q⟩ δ.g) (hc : c = 8 \/ c = 9)
    (hop : ∀ γ₂, Ro L i δ.g γ₂ -> At L i ⟨b, 0, 0⟩ γ₂ -> ER P false (SitW P (XF T L) i) f n ops l k ((d, .tuple #[]) :: env) ds h ⟨δ.d, γ₂⟩ R) :
    ER P false (SitW P (XF T L) i) f n ops (⟨some d, .call { callee := .value x, args, argTypes := ats }, ty, pos, af, g⟩ :: l) k env ds h δ R := by
  have hc0 : c ≠ 0 := by omega
  refine ER.semrelS (xf_ok T L hL) opp_w hw hd hx ha (fun _ => hA.nd) fun γ₁ w hR hI hP => ?_
  have hA1 := hA.rr hR
  obtain ⟨hb, hM, hct, hle, _⟩ := at_cls hA1 hI hc0
  have hcell := (cellM_cell ((hI.2 hA1.on).cell b hb))
  have hT : Tr (γ₁.mu b) c q { γ₁.mu b with z := (γ₁.mu b).z + 1 } 0 0 := by
    rcases hc with rfl | rfl
    · exact .rel
    · exact .relS
  have hz : (γ₁.mu b).z <= 1 := by
    have hs : (γ₁.mu b).s = 0 \/ (γ₁.mu b).s = 1 := by have := hM.s1; omega
    have hbb : (γ₁.mu b).b = 0 \/ (γ₁.mu b).b = 1 := by have := hM.b1; omega
    have := hM.k1
    rcases hs with e | e
    · have := hM.n0 e; omega
    · have := hM.n1 e; omega
  have hwr : IntKind.u32.wrap (((γ₁.mu b).z : Int) + 1) = (((γ₁.mu b).z + 1 : Nat) : Int) := by
    simp only [IntKind.wrap, IntKind.signed, IntKind.bits]
    simp
    omega
  obtain ⟨g1, g2, g3⟩ := mu_gh (v := .int .u32 (((γ₁.mu b).z + 1 : Nat) : Int)) (o := 3) hL hA1 hI hc0 hT (.inr ⟨rfl, rfl, rfl⟩)
  exact ⟨((γ₁.mu b).z : Int), _, hcell.2.2.2.1, hcell.2.2.2.2.2 3, atokW_cell hA1 hb (by simp), by rw [hwr]; exact g1, hop _ (hR.toRo.trans hL g2) g3⟩
end
end
section
variable [Dm]
open Go Go.Conc
theorem i32_nat {x : Nat} (h : x < 2147483648) : IntKind.i32.wrap ((x : Nat) : Int) = (x : Int) := i32_in (by omega) (by omega)
theorem bv_nat {x : Nat} : (BitVec.ofInt IntKind.i32.bits ((x : Nat) : Int)) = BitVec.ofNat 32 x := by
  apply BitVec.eq_of_toInt_eq
  simp [IntKind.bits]
theorem bits_nat {x c : Nat} (hx : x < 2147483648) (hc : c < 2147483648) : bits .and .i32 x c = ((x &&& c : Nat) : Int) /\ bits .or .i32 x c = ((x ||| c : Nat) : Int) := by
  have e1 : x % 4294967296 = x := Nat.mod_eq_of_lt (by omega)
  have e2 : c % 4294967296 = c := Nat.mod_eq_of_lt (by omega)
  constructor
  · unfold bits
    simp only [bv_nat]
    have e : (BitVec.ofNat 32 x &&& BitVec.ofNat 32 c).toNat = x &&& c := by simp [BitVec.toNat_and, e1, e2]
    show IntKind.i32.wrap ((BitVec.ofNat 32 x &&& BitVec.ofNat 32 c).toNat : Int) = _
    rw [e]
    exact i32_nat (Nat.lt_of_le_of_lt Nat.and_le_left hx)
  · unfold bits
    simp only [bv_nat]
    have e : (BitVec.ofNat 32 x ||| BitVec.ofNat 32 c).toNat = x ||| c := by simp [BitVec.toNat_or, e1, e2]
    show IntKind.i32.wrap ((BitVec.ofNat 32 x ||| BitVec.ofNat 32 c).toNat : Int) = _
    rw [e]
    have : x ||| c < 2 ^ 31 := Nat.or_lt_two_pow (by simpa using hx) (by simpa using hc)
    exact i32_nat (by simpa using this)
theorem and8 {n r c : Nat} (hr : r < 8) (hc : c < 8) : (8 * n + r) &&& c = r &&& c := by
  have h7 : c = 7 &&& c := by
    have : c = 0 \/ c = 1 \/ c = 2 \/ c = 3 \/ c = 4 \/ c = 5 \/ c = 6 \/ c = 7 := by omega
    rcases this with rfl | rfl | rfl | rfl | rfl | rfl | rfl | rfl <;> rfl
  rw [h7, <- Nat.and_assoc, <- Nat.and_assoc]
  have m := fun x => Nat.and_two_pow_sub_one_eq_mod x 3
  simp only [show (2 : Nat) ^ 3 - 1 = 7 from rfl, show (2 : Nat) ^ 3 = 8 from rfl] at m
  rw [m, m]
  congr 1
  omega
theorem or8 {n r c : Nat} (hr : r < 8) (hc : c < 8) : (8 * n + r) ||| c = 8 * n + (r ||| c) := by
  have h := fun b (hb : b < 2 ^ 3) => Nat.two_pow_add_eq_or_of_lt hb n
  simp only [show (2 : Nat) ^ 3 = 8 from rfl] at h
  have : r ||| c < 8 := Nat.or_lt_two_pow (n := 3) hr hc
  rw [h r hr, h _ this, Nat.or_assoc]
def W (b k s n : Nat) : Int := ((b + 2 * k + 4 * s + 8 * n : Nat) : Int)
theorem Mu.word_eq (m : Mu) : m.word = W m.b m.k m.s m.n := rfl
section
variable {b k s n : Nat}
theorem W_form : b + 2 * k + 4 * s + 8 * n = 8 * n + (b + 2 * k + 4 * s) := by omega
theorem W_and (hb : b <= 1) (hk : k <= 1) (hs : s <= 1) (hn : n <= 1000) : bits .and .i32 (W b k s n) 5 = ((b + 4 * s : Nat) : Int) /\ bits .and .i32 (W b k s n) 1 = (b : Int) /\ bits .and .i32 (W b k s n) 2 = ((2 * k : Nat) : Int) /\ bits .and .i32 (W b k s n) 4 = ((4 * s : Nat) : Int) /\ bits .and .i32 (W b k s n) 3 = ((b + 2 * k : Nat) : Int) /\
    bits .and .i32 (W b k s n) 7 = ((b + 2 * k + 4 * s : Nat) : Int) := by
  have key : ∀ c : Nat, c < 8 -> bits .and .i32 (W b k s n) (c : Int) = (((b + 2 * k + 4 * s) &&& c : Nat) : Int) := fun c hc => by
    unfold W
    rw [(bits_nat (by omega) (by omega)).1, W_form, and8 (by omega) hc]
  have hb' : b = 0 \/ b = 1 := by omega
  have hk' : k = 0 \/ k = 1 := by omega
  have hs' : s = 0 \/ s = 1 := by omega
  refine ⟨(key 5 (by omega)).trans ?_, (key 1 (by omega)).trans ?_, (key 2 (by omega)).trans ?_, (key 4 (by omega)).trans ?_, (key 3 (by omega)).trans ?_, (key 7 (by omega)).trans ?_⟩ <;>
    (rcases hb' with rfl | rfl <;> rcases hk' with rfl | rfl <;> rcases hs' with rfl | rfl <;> rfl)
theorem W_or (hb : b <= 1) (hk : k <= 1) (hs : s <= 1) (hn : n <= 1000) : bits .or .i32 (W b k s n) 1 = W 1 k s n /\ bits .or .i32 (W b k s n) 2 = W b 1 s n /\ bits .or .i32 (W b k s n) 4 = W b k 1 n := by
  have key : ∀ c : Nat, c < 8 -> bits .or .i32 (W b k s n) (c : Int) = ((8 * n + ((b + 2 * k + 4 * s) ||| c) : Nat) : Int) := fun c hc => by
    unfold W
    rw [(bits_nat (by omega) (by omega)).2, W_form, or8 (by omega) hc]
  have hb' : b = 0 \/ b = 1 := by omega
  have hk' : k = 0 \/ k = 1 := by omega
  have hs' : s = 0 \/ s = 1 := by omega
  refine ⟨(key 1 (by omega)).trans ?_, (key 2 (by omega)).trans ?_, (key 4 (by omega)).trans ?_⟩ <;> unfold W <;> rw [W_form] <;>
    (rcases hb' with rfl | rfl <;> rcases hk' with rfl | rfl <;> rcases hs' with rfl | rfl <;> rfl)
theorem bv_andNot {w : Nat} {y t : BitVec w} (h : y &&& t = 0#w) : (y ||| t) &&& ~~~t = y := by
  apply BitVec.eq_of_getLsbD_eq
  intro i hi
  have := congrArg (fun z => z.getLsbD i) h
  simp at this
  simp [hi]
  cases h1 : y.getLsbD i <;> cases h2 : t.getLsbD i <;> simp_all
theorem W_andNot (hb : b <= 1) (hs : s <= 1) (hn : n <= 1000) : bits .andNot .i32 (W b 1 s n) 2 = W b 0 s n := by
  have e0 : ∀ x y : Nat, x < 8000 + 8 -> y < 8 -> x % 4294967296 = x := fun x _ h _ => Nat.mod_eq_of_lt (by omega)
  have hb' : b = 0 \/ b = 1 := by omega
  have hs' : s = 0 \/ s = 1 := by omega
  have h1 : (b + 2 * 1 + 4 * s + 8 * n) = (b + 2 * 0 + 4 * s + 8 * n) ||| 2 := by
    have hf : b + 2 * 0 + 4 * s + 8 * n = 8 * n + (b + 4 * s) := by omega
    rw [hf, or8 (by omega) (by omega)]
    rcases hb' with rfl | rfl <;> rcases hs' with rfl | rfl <;> simp <;> omega
  have h2 : (b + 2 * 0 + 4 * s + 8 * n) &&& 2 = 0 := by
    have hf : b + 2 * 0 + 4 * s + 8 * n = 8 * n + (b + 4 * s) := by omega
    rw [hf, and8 (by omega) (by omega)]
    rcases hb' with rfl | rfl <;> rcases hs' with rfl | rfl <;> rfl
  unfold bits W
  simp only []
  rw [show ((2 : Int)) = (((2 : Nat)) : Int) from rfl, bv_nat, bv_nat]
  have h3 : BitVec.ofNat 32 (b + 2 * 1 + 4 * s + 8 * n) = BitVec.ofNat 32 (b + 2 * 0 + 4 * s + 8 * n) ||| BitVec.ofNat 32 2 := by
    rw [h1]
    apply BitVec.eq_of_toNat_eq
    rw [BitVec.toNat_or]
    simp only [BitVec.toNat_ofNat]
    rw [Nat.mod_eq_of_lt (a := b + 2 * 0 + 4 * s + 8 * n) (by omega), Nat.mod_eq_of_lt (by omega : 2 < 2 ^ 32), Nat.mod_eq_of_lt (Nat.or_lt_two_pow (by omega) (by omega))]
  have h4 : BitVec.ofNat 32 (b + 2 * 0 + 4 * s + 8 * n) &&& BitVec.ofNat 32 2 = 0#32 := by
    apply BitVec.eq_of_toNat_eq
    rw [BitVec.toNat_and]
    simp only [BitVec.toNat_ofNat]
    rw [Nat.mod_eq_of_lt (by omega), Nat.mod_eq_of_lt (by omega : 2 < 2 ^ 32), h2]
  have h5 := bv_andNot h4
  rw [<- h3] at h5
  have h6 : (BitVec.ofNat 32 (b + 2 * 1 + 4 * s + 8 * n) &&& ~~~ BitVec.ofNat 32 2) = BitVec.ofNat 32 (b + 2 * 0 + 4 * s + 8 * n) := h5
  have h7 : (BitVec.ofNat 32 (b + 2 * 0 + 4 * s + 8 * n)).toNat = b + 2 * 0 + 4 * s + 8 * n := by
    simp only [BitVec.toNat_ofNat]
    exact Nat.mod_eq_of_lt (by omega)
  show IntKind.i32.wrap ((BitVec.ofNat 32 (b + 2 * 1 + 4 * s + 8 * n) &&& ~~~ BitVec.ofNat 32 2).toNat : Int) = _
  rw [h6, h7]
  exact i32_nat (by omega)
theorem binOp_andN {t : TypeId} {kd : IntKind} {a c : Int} : binOp .andNot t (.int kd a) (.int kd c) = pure (.int kd (bits .andNot kd a c)) := by simp [binOp, Op.intBits, bits]
theorem W_shr {t : TypeId} (hb : b <= 1) (hk : k <= 1) (hs : s <= 1) : binOp .shr t (.int .i32 (W b k s n)) (.int .u64 3) = pure (.int .i32 (n : Int)) := by
  have : (W b k s n).fdiv (2 ^ 3) = (n : Int) := by
    unfold W
    rw [Int.fdiv_eq_ediv_of_nonneg _ (by decide)]
    omega
  have e : (2 : Int) ^ 3 = 8 := by decide
  rw [e] at this
  simp [binOp, Op.shift, IntKind.bits, this]
theorem W_add8 (hb : b <= 1) (hk : k <= 1) (hs : s <= 1) (hn : n <= 1000) : IntKind.i32.wrap (W b k s n + 8) = W b k s (n + 1) := by
  unfold W
  rw [show ((b + 2 * k + 4 * s + 8 * n : Nat) : Int) + 8 = ((b + 2 * k + 4 * s + 8 * (n + 1) : Nat) : Int) by omega]
  exact i32_nat (by omega)
theorem W_sub8 (hb : b <= 1) (hk : k <= 1) (hs : s <= 1) (hn : n <= 1000) (h0 : n ≠ 0) : IntKind.i32.wrap (W b k s n - 8) = W b k s (n - 1) := by
  unfold W
  rw [show ((b + 2 * k + 4 * s + 8 * n : Nat) : Int) - 8 = ((b + 2 * k + 4 * s + 8 * (n - 1) : Nat) : Int) by omega]
  exact i32_nat (by omega)
end
theorem ER.binI2 {Γ : Type} {P : Program} {main : Bool} {S : Sit Γ} {f : FuncId} {n : Nat} {k : List Item} {env : Env} {ds : List Deferred} {h : Hp} {δ : Ix Γ} {R : Post Γ} {ops : Array Oper} {l : List Oper} {d : Nat} {ty : TypeId} {pos : String} {af : Array Edge} {g : Option (Nat × Bool)}
    {op : BinOp} {t t2 : TypeId} {x y : Operand} {kd ky : IntKind} {a b : Int} {v : Value} (hw : wantE ops env g = some true) (hd : Nat.blt d n = true) (hx : ev env x = some (.int kd a)) (hy : ev env y = some (.int ky b))
    (hv : binOp op t (.int kd a) (.int ky b) = pure v)
    (hn : ER P main S f n ops l k ((d, v) :: env) ds h δ R) : ER P main S f n ops (⟨some d, .binOp op t x y t2, ty, pos, af, g⟩ :: l) k env ds h δ R :=
  ER.to hw hd (fun ρ Q X hρ hq => semW_binOp (by
    rw [hρ x _ hx, hρ y _ hy, eqGuard_int, hv]
    exact hq)) hn
end
section
variable [Dm]
open Go Go.Conc
theorem runT_toUnsafe {P : Program} {src dst t sz by_ : Nat} {z : Value} [hs : Und P src (.pointer t)] [hdt : Und P dst .unsafePointer] [i : Inf P t sz by_ z] {a : Addr} {v : Value} {w : World} (hsz : sz ≠ 0) (hc : hcell w.heap a = some v) : (convert src dst (.pointer (some a))).runT P w #[] = (.ok (.pointer (some a)) w, #[]) := by
  unfold convert
  rw [runT_bindOk (runT_underlying hs.out), runT_bindOk (runT_underlying hdt.out)]
  show (Conv.unsafePointer src dst (.pointer (some a))).runT P w #[] = _
  unfold Conv.unsafePointer
  rw [runT_bindOk (runT_underlying hs.out), runT_bindOk (runT_underlying hdt.out)]
  obtain ⟨c, e, f, hb, hs', hv⟩ := hcell_some hc
  have h1 : w.shape? a.block = some (e, c.size) := by rw [shape?_eq]; simp [hshape, hb]
  obtain ⟨inf, g1, g2, g3, g4⟩ := i.get
  have hlt : a.off < c.size := by
    rcases Nat.lt_or_ge a.off c.size with y | y
    · exact y
    · simp [Array.getElem?_eq_none y] at hv
  have hseen : (Conv.seenAt a).runT P w #[] = (.ok a w, #[]) := by
    unfold Conv.seenAt
    change (Sem.bind (Sem.bind (Sem.shape a.block Sem.pure) _) _).runT P w #[] = _
    simp only [Sem.bind, Sem.runT, h1, Option.isSome]
    rfl
  show (Conv.seenAt a >>= _).runT P w #[] = _
  rw [runT_bindOk hseen]
  have hin : (cellsIn a.block).runT P w #[] = (.ok (some c.size) w, #[]) := by
    unfold cellsIn
    change (Sem.bind (Sem.shape a.block Sem.pure) _).runT P w #[] = _
    simp only [Sem.bind, Sem.runT, h1]
    rfl
  show (cellsIn a.block >>= _).runT P w #[] = _
  rw [runT_bindOk hin]
  have h2 : ¬ (inf.size = 0) := by rw [g2]; exact hsz
  have h3 : ¬ (a.off ≥ c.size) := by omega
  show (sizeOf t >>= _).runT P w #[] = _
  rw [runT_bindOk (runT_sizeOf g1)]
  simp only [h2, h3, decide_false, Bool.false_and, Bool.or_self, Bool.false_eq_true, if_false]
  rfl
section
variable {Γ : Type} {P : Program} {main : Bool} {S : Sit Γ} {f : FuncId} {n : Nat} {k : List Item} {env : Env} {ds : List Deferred} {h : Hp} {δ : Ix Γ} {R : Post Γ}
variable {ops : Array Oper} {l : List Oper} {d : Nat} {ty : TypeId} {pos : String} {af : Array Edge} {g : Option (Nat × Bool)}
theorem ER.toUnsafeS {X : Fp Γ} (hX : X.Ok) {i : Nat} {src dst t sz by_ : Nat} {z : Value} [hs : Und P src (.pointer t)] [hdt : Und P dst .unsafePointer] [Inf P t sz by_ z] {x : Operand} {a : Addr} (hS : ∀ g h δ Y, Opp P main X i g h δ Y -> S.yld g h δ Y) (hw : wantE ops env g = some true) (hd : Nat.blt d n = true) (hx : ev env x = some (.pointer (some a))) (hsz : sz ≠ 0) (hnd : 0 < i -> ¬ X.done i δ.g)
    (hop : ∀ γ₁ (w : World), X.R i δ.g γ₁ -> X.Inv γ₁ w.heap -> Part False h w.heap -> ∃ v, hcell w.heap a = some v /\ ER P main S f n ops l k ((d, .pointer (some a)) :: env) ds h ⟨δ.d, γ₁⟩ R) :
    ER P main S f n ops (⟨some d, .convert src dst x, ty, pos, af, g⟩ :: l) k env ds h δ R := by
  refine ER.opp hS rfl hd hw hnd fun ρ hρ γ₁ w hR hI hP => .inr ?_
  obtain ⟨v, hc, hn⟩ := hop γ₁ w hR hI hP
  refine ⟨.pointer (some a), w, #[], γ₁, ?_, .inr fun _ z => z, ?_, by rw [seen_none]; exact hn⟩
  · show (convert src dst (ρ x) >>= fun v => pure (Next.value v)).runT P w #[] = _
    rw [hρ x _ hx, runT_bindOk (runT_toUnsafe hsz hc)]
    rfl
  · rw [seen_none]
    exact ⟨SameL.refl w, fun _ _ => rfl, rfl, hI, Mv.refl' hX i γ₁, rfl, by simp, fun _ _ j e hj => by simp at hj, Iff.rfl⟩
theorem ER.spin {c : FuncId} [ExtFn P c Extern.Sync.canSpin] {x : Operand} {args : Array Operand} {ats : Array TypeId} {kd : IntKind} {m : Int} (hw : wantE ops env g = some true) (hd : Nat.blt d n = true) (hx : ev env x = some (.func (.func c) #[] #[])) (ha : evL env args.toList = some [.int kd m]) (hdu : ¬ S.dull δ.g)
    (hn : ∀ b : Bool, (b = true -> m < 4) -> ER P main S f n ops l k ((d, .bool b) :: env) ds h δ R) :
    ER P main S f n ops (⟨some d, .call { callee := .value x, args, argTypes := ats }, ty, pos, af, g⟩ :: l) k env ds h δ R :=
  ER.val (Q := fun v h' δ' => ∃ b : Bool, (b = true -> m < 4) /\ v = .bool b /\ h' = h /\ δ' = δ) hw hd (fun ρ hρ => by
    refine semW_ext (c := c) rfl (hρ x _ hx) (map_ofL hρ ha) ?_
    show SemW P S (if m ≥ 4 then pure (Value.bool false) else do pure (Value.bool ((<- choose (.extern "runtime_canSpin" 2)) = 1))) _ _ _ _
    by_cases e : m ≥ 4
    · rw [if_pos e]
      exact ⟨_, rfl, false, (fun z => by cases z), rfl, rfl, rfl⟩
    · rw [if_neg e]
      refine ⟨hdu, fun q _ => ?_⟩
      exact ⟨_, rfl, _, fun _ => by omega, rfl, rfl, rfl⟩) (by rintro _ _ _ ⟨b, hb, rfl, rfl, rfl⟩; exact hn b hb)
end
end
section
variable [Dm]
open Go Go.Conc
theorem EK.cut {Γ : Type} {P : Program} {main : Bool} {S : Sit Γ} {f : FuncId} {n : Nat} {k : List Item} {env : Env} {ds : List Deferred} {h : Hp} {δ : Ix Γ} {R : Post Γ} (m : Nat) {σ : Type} (E : σ -> Env) (I : σ -> Hp -> Ix Γ -> Prop)
    (h2 : ∀ s h' δ', I s h' δ' -> EK P main S f n (k.drop m) (E s) ds h' δ' R) (h1 : (∀ s h' δ', I s h' δ' -> EK P main S f n (k.drop m) (E s) ds h' δ' R) -> EK P main S f n k env ds h δ R) : EK P main S f n k env ds h δ R := h1 h2
theorem EK.cutK {Γ : Type} {P : Program} {main : Bool} {S : Sit Γ} {f : FuncId} {n : Nat} {k : List Item} {env : Env} {ds : List Deferred} {h : Hp} {δ : Ix Γ} {R : Post Γ} {K : List Item} {σ : Type} (E : σ -> Env) (I : σ -> Hp -> Ix Γ -> Prop)
    (h1 : (∀ s h' δ', I s h' δ' -> EK P main S f n K (E s) ds h' δ' R) -> EK P main S f n k env ds h δ R) (h2 : ∀ s h' δ', I s h' δ' -> EK P main S f n K (E s) ds h' δ' R) : EK P main S f n k env ds h δ R := h1 h2
section
variable {Y : Type} {T : Tids} {L : Law Y} {P : Program} {f : FuncId} {n : Nat} {k : List Item} {env : Env} {ds : List Deferred} {h : Hp} {δ : Ix (Gf Y)} {R : Post (Gf Y)} {ops : Array Oper} {l : List Oper} {i b c q d : Nat}
variable {x : Operand} {args : Array Operand} {ats : Array TypeId} {ty : TypeId} {pos : String} {af : Array Edge} {g : Option (Nat × Bool)} {cc : FuncId}
theorem ER.unsafeM (hL : L.Ok) {src dst t sz by_ : Nat} {z : Value} [Und P src (.pointer t)] [Und P dst .unsafePointer] [Inf P t sz by_ z] (hw : wantE ops env g = some true) (hd : Nat.blt d n = true) (hx : ev env x = some (.pointer (some ⟨b, 2, none⟩))) (hsz : sz ≠ 0) (hA : At L i ⟨b, c, q⟩ δ.g) (hc : c ≠ 0)
    (hop : ∀ γ₁, Ro L i δ.g γ₁ -> At L i ⟨b, c, q⟩ γ₁ -> ER P false (SitW P (XF T L) i) f n ops l k ((d, .pointer (some ⟨b, 2, none⟩)) :: env) ds h ⟨δ.d, γ₁⟩ R) :
    ER P false (SitW P (XF T L) i) f n ops (⟨some d, .convert src dst x, ty, pos, af, g⟩ :: l) k env ds h δ R :=
  ER.toUnsafeS (xf_ok T L hL) opp_w hw hd hx hsz (fun _ => hA.nd) fun γ₁ w hR hI hP => by
    have hA1 := hA.rr hR
    obtain ⟨hb, hM, hct, hle, _⟩ := at_cls hA1 hI hc
    exact ⟨_, (cellM_cell ((hI.2 hA1.on).cell b hb)).2.2.1, hop γ₁ hR.toRo hA1⟩
theorem ER.nanoM (hL : L.Ok) [ExtFn P cc Extern.OsHooks.nano] {p : Pc} (hq : (P.funcs[cc]?).any (·.norace) = true) (hw : wantE ops env g = some true) (hd : Nat.blt d n = true) (hx : ev env x = some (.func (.func cc) #[] #[])) (ha : evL env args.toList = some []) (hA : At L i p δ.g)
    (hop : ∀ γ₁ (z : Int), Ro L i δ.g γ₁ -> At L i p γ₁ -> ER P false (SitW P (XF T L) i) f n ops l k ((d, .int .i64 z) :: env) ds h ⟨δ.d, γ₁⟩ R) :
    ER P false (SitW P (XF T L) i) f n ops (⟨some d, .call { callee := .value x, args, argTypes := ats }, ty, pos, af, g⟩ :: l) k env ds h δ R :=
  ER.nanoS (xf_ok T L hL) hq opp_w hw hd hx ha (fun _ => hA.nd) fun γ₁ z hR => hop γ₁ z hR.toRo (hA.rr hR)
end
end
end Go.TJ
namespace Go.Proofs.Ytndllibjlfpndaa
section
open Go Go.TJ Go.Proofs
variable [Dm]
instance : ExtFn Try.prog 71 (Extern.Sync.canSpin) := ⟨_, Try.func71, by kernel_rfl, by kernel_rfl, by kernel_rfl, by kernel_rfl⟩
instance : ExtFn Try.prog 72 (Extern.Sync.nothing) := ⟨_, Try.func72, by kernel_rfl, by kernel_rfl, by kernel_rfl, by kernel_rfl⟩
instance : ExtFn Try.prog 74 (Extern.OsHooks.nano) := ⟨_, Try.func74, by kernel_rfl, by kernel_rfl, by kernel_rfl, by kernel_rfl⟩
instance : ExtFn Try.prog 75 (Extern.Sync.semacquire) := ⟨_, Try.func75, by kernel_rfl, by kernel_rfl, by kernel_rfl, by kernel_rfl⟩
instance : ExtFn Try.prog 77 (Extern.Sync.semrelease) := ⟨_, Try.func77, by kernel_rfl, by kernel_rfl, by kernel_rfl, by kernel_rfl⟩
instance : ExtFn Try.prog 49 (Extern.Sync.semrelease) := ⟨_, Try.func49, by kernel_rfl, by kernel_rfl, by kernel_rfl, by kernel_rfl⟩
instance : ExtFn Try.prog 54 (Extern.Sync.semacquire) := ⟨_, Try.func54, by kernel_rfl, by kernel_rfl, by kernel_rfl, by kernel_rfl⟩
instance : ExtFn Try.prog 45 (Extern.Race.marked .read) := ⟨_, Try.func45, by kernel_rfl, by kernel_rfl, by kernel_rfl, by kernel_rfl⟩
instance : ExtFn Try.prog 53 (Extern.Race.marked .write) := ⟨_, Try.func53, by kernel_rfl, by kernel_rfl, by kernel_rfl, by kernel_rfl⟩
instance : ExtFn Try.prog 40 (fun _ => pure (.bool false)) := ⟨_, Try.func40, by kernel_rfl, by kernel_rfl, by kernel_rfl, by kernel_rfl⟩
instance : ExtFn Try.prog 62 (Extern.Atomic.loadT (.int .u64)) := ⟨_, Try.func62, by kernel_rfl, by kernel_rfl, by kernel_rfl, by kernel_rfl⟩
instance : ExtFn Try.prog 63 (Extern.Atomic.storeT) := ⟨_, Try.func63, by kernel_rfl, by kernel_rfl, by kernel_rfl, by kernel_rfl⟩
instance : ExtFn Try.prog 61 (Extern.Atomic.update (Op.intArith .add) .u64 true) := ⟨_, Try.func61, by kernel_rfl, by kernel_rfl, by kernel_rfl, by kernel_rfl⟩
instance : ExtFn Try.prog 64 (Extern.Atomic.casT (.int .u64)) := ⟨_, Try.func64, by kernel_rfl, by kernel_rfl, by kernel_rfl, by kernel_rfl⟩
theorem norace_lockSlow : (Try.prog.funcs[68]?).any (·.norace) = true := by kernel_rfl
theorem norace_unlockSlow : (Try.prog.funcs[70]?).any (·.norace) = true := by kernel_rfl
theorem norace_unlock : (Try.prog.funcs[66]?).any (·.norace) = true := by kernel_rfl
theorem norace_nano : (Try.prog.funcs[74]?).any (·.norace) = true := by kernel_rfl
end
section
open Go Go.TJ Go.Proofs
variable [Dm]
section
variable {Γ : Type} {main : Bool} {S : Sit Γ} {h : Hp} {δ : Ix Γ}
theorem ilock_free {b o : Nat} (hc : hcell h ⟨b, o, none⟩ = some (.int .i32 0)) (hz : hfroz h ⟨b, o, none⟩ = false) (hS : ¬ S.still δ.g ⟨b, o, none⟩) (hDu : ¬ S.dull δ.g := by first | exact (fun x => x) | assumption) :
    CallW Try.prog main S 65 #[.pointer (some ⟨b, o, none⟩)] h δ (Ret (Det (.tuple #[]) (hset h ⟨b, o, none⟩ (.int .i32 1)) δ)) := by
  refine CallW.start (n := 13) rfl rfl ?_
  (repeat (first | refine EK.seq ?_ | refine EK.region ?_))
  refine ER.ext rfl rfl rfl rfl (fun Q X hq => semW_mark0 (vs := #[]) (by simp) (by simp) hq) ?_
  (repeat (first | refine EK.seq ?_ | refine EK.region ?_ | refine ER.done ?_ | refine ER.move rfl rfl rfl ?_ | refine ER.nilCheck rfl rfl rfl ?_ | refine ER.fieldAddr rfl rfl rfl ?_))
  refine ER.ext rfl rfl rfl rfl (fun Q X hq => semW_acas (by simp [OneCell]) hc hz hS (by rw [if_pos rfl]; exact hq)) ?_
  (repeat (first | refine EK.seq ?_ | refine EK.region ?_ | refine ER.done ?_ | refine EK.condT rfl ?_))
  refine ER.ext rfl rfl rfl rfl (fun Q X hq => semW_mark0 (vs := #[]) (by simp) (by simp) hq) ?_
  (repeat (first | refine EK.region ?_ | refine ER.done ?_ | refine ER.move rfl rfl rfl ?_))
  refine ER.toUnsafe rfl rfl rfl (by decide) (hcell_hset_same hc) ?_
  refine ER.ext rfl rfl rfl rfl (fun Q X hq => semW_marked (by simp) (by simp) hq (hDu := hDu)) ?_
  (repeat (first | refine ER.done ?_ | refine EK.ret ?_))
  exact EU.ret0 rfl det
theorem iunlock_held {b o : Nat} (hc : hcell h ⟨b, o, none⟩ = some (.int .i32 1)) (hz : hfroz h ⟨b, o, none⟩ = false) (hS : ¬ S.still δ.g ⟨b, o, none⟩) (hDu : ¬ S.dull δ.g := by first | exact (fun x => x) | assumption) :
    CallW Try.prog main S 66 #[.pointer (some ⟨b, o, none⟩)] h δ (Ret (Det (.tuple #[]) (hset h ⟨b, o, none⟩ (.int .i32 0)) δ)) := by
  refine CallW.start (n := 21) rfl rfl ?_
  (repeat (first | refine EK.seq ?_ | refine EK.region ?_ | refine ER.move rfl rfl rfl ?_ | refine ER.nilCheck rfl rfl rfl ?_ | refine ER.fieldAddr rfl rfl rfl ?_ | refine EK.condT rfl ?_))
  refine ER.load1 rfl rfl rfl hc ?_
  (repeat (first | refine EK.seq ?_ | refine EK.region ?_ | refine ER.done ?_ | refine ER.move rfl rfl rfl ?_))
  refine ER.toUnsafe rfl rfl rfl (by decide) hc ?_
  refine ER.ext rfl rfl rfl rfl (fun Q X hq => semW_marked (by simp) (by simp) hq (hDu := hDu)) ?_
  (repeat (first | refine EK.region ?_ | refine ER.done ?_))
  refine ER.ext rfl rfl rfl rfl (fun Q X hq => semW_mark0 (vs := #[]) (by simp) (by simp) hq) ?_
  (repeat (first | refine EK.seq ?_ | refine EK.region ?_ | refine ER.done ?_ | refine ER.move rfl rfl rfl ?_ | refine ER.nilCheck rfl rfl rfl ?_ | refine ER.fieldAddr rfl rfl rfl ?_))
  refine ER.ext rfl rfl rfl rfl (fun Q X hq => semW_aadd (r := 0) hc hz hS (i32_in (by omega) (by omega)) hq) ?_
  (repeat (first | refine EK.seq ?_ | refine EK.region ?_ | refine ER.done ?_ | refine EK.skip ?_ | refine ER.move rfl rfl rfl ?_ | refine ER.assign rfl rfl rfl ?_ | refine ER.cmpF rfl rfl rfl rfl rfl (by first | (dsimp only [cmpP]; omega) | exact rfl | exact Int.le_refl _) ?_ | refine EK.condF rfl ?_))
  refine ER.ext rfl rfl rfl rfl (fun Q X hq => semW_mark0 (vs := #[]) (by simp) (by simp) hq) ?_
  (repeat refine ER.done ?_)
  refine EK.done ?_
  exact EU.ret0 rfl det
theorem lock_free {b o : Nat} (hc : hcell h ⟨b, o, none⟩ = some (.int .i32 0)) (hz : hfroz h ⟨b, o, none⟩ = false) (hS : ¬ S.still δ.g ⟨b, o, none⟩) (hDu : ¬ S.dull δ.g := by first | exact (fun x => x) | assumption) :
    CallW Try.prog main S 58 #[.pointer (some ⟨b, o, none⟩)] h δ (Ret (Det (.tuple #[]) (hset h ⟨b, o, none⟩ (.int .i32 1)) δ)) := by
  refine CallW.start (n := 6) rfl rfl ?_
  (repeat (first | refine EK.region ?_ | refine ER.move rfl rfl rfl ?_ | refine ER.nilCheck rfl rfl rfl ?_ | refine ER.fieldAddr rfl rfl rfl ?_))
  refine ER.callD rfl rfl rfl rfl rfl (ilock_free hc hz hS) ?_
  (repeat refine ER.done ?_)
  refine EK.done ?_
  exact EU.ret0 rfl det
theorem unlock_held {b o : Nat} (hc : hcell h ⟨b, o, none⟩ = some (.int .i32 1)) (hz : hfroz h ⟨b, o, none⟩ = false) (hS : ¬ S.still δ.g ⟨b, o, none⟩) (hDu : ¬ S.dull δ.g := by first | exact (fun x => x) | assumption) :
    CallW Try.prog main S 59 #[.pointer (some ⟨b, o, none⟩)] h δ (Ret (Det (.tuple #[]) (hset h ⟨b, o, none⟩ (.int .i32 0)) δ)) := by
  refine CallW.start (n := 6) rfl rfl ?_
  (repeat (first | refine EK.region ?_ | refine ER.move rfl rfl rfl ?_ | refine ER.nilCheck rfl rfl rfl ?_ | refine ER.fieldAddr rfl rfl rfl ?_))
  refine ER.callD rfl rfl rfl rfl rfl (iunlock_held hc hz hS) ?_
  (repeat refine ER.done ?_)
  refine EK.done ?_
  exact EU.ret0 rfl det
def cellO (v : Int) : Obj := .cells #[.int .i64 v, .bool true, .int .i32 0, .int .u32 0, .chan none] 79 (0, 0)
theorem cellO_set {b : Nat} {v : Int} (hb : h[b]? = some (cellO v)) (x : Int) : hset h ⟨b, 0, none⟩ (.int .i64 x) = h.setIfInBounds b (cellO x) := by
  have hlt : b < h.size := by
    rcases Nat.lt_or_ge b h.size with y | y
    · exact y
    · simp [Array.getElem?_eq_none y] at hb
  apply Array.ext_getElem?
  intro i
  rw [hset_get]
  by_cases e : b = i
  · subst e
    rw [if_pos rfl, hb, Array.getElem?_setIfInBounds_self_of_lt hlt]
    rfl
  · rw [if_neg e, Array.getElem?_setIfInBounds_ne e]
theorem cellO_at {b : Nat} {v : Int} (hb : h[b]? = some (cellO v)) (x : Int) : (h.setIfInBounds b (cellO x))[b]? = some (cellO x) := by
  have hlt : b < h.size := by
    rcases Nat.lt_or_ge b h.size with y | y
    · exact y
    · simp [Array.getElem?_eq_none y] at hb
  exact Array.getElem?_setIfInBounds_self_of_lt hlt
theorem none_ok {b : Nat} {v : Int} (hb : h[b]? = some (cellO v)) : CallW Try.prog main S 32 #[.pointer (some ⟨b, 0, none⟩)] h δ (Ret (Det (.bool false) h δ)) := by
  unfold cellO at hb
  refine CallW.start (n := 12) rfl rfl ?_
  (repeat (first | refine EK.seq ?_ | refine EK.region ?_ | refine ER.done ?_ | refine ER.move rfl rfl rfl ?_ | refine ER.assign rfl rfl rfl ?_ | refine ER.nilCheck rfl rfl rfl ?_ | refine ER.fieldAddr rfl rfl rfl ?_ | refine ER.load1 rfl rfl rfl (hcell_of (by assumption) rfl) ?_ | refine ER.eqV rfl rfl rfl rfl rfl ?_ | refine ER.notB rfl rfl rfl ?_ | refine ER.pickF rfl rfl rfl rfl ?_ | refine EK.ret ?_))
  exact EU.ret1 rfl rfl det
theorem live_nil : CallW Try.prog main S 33 #[.pointer none] h δ (Ret (Det (.bool false) h δ)) := by
  refine CallW.start (n := 19) rfl rfl ?_
  (repeat (first | refine EK.seq ?_ | refine EK.region ?_ | refine ER.done ?_ | refine ER.move rfl rfl rfl ?_ | refine ER.assign rfl rfl rfl ?_ | refine ER.no rfl rfl ?_ | refine ER.neqV rfl rfl rfl rfl rfl ?_ | refine ER.pickF rfl rfl rfl rfl ?_ | refine EK.ret ?_))
  exact EU.ret1 rfl rfl det
theorem aload_ok {b o : Nat} {v : Int} (hc : hcell h ⟨b, o, none⟩ = some (.int .i64 v)) : CallW Try.prog main S 15 #[.pointer (some ⟨b, o, none⟩)] h δ (Ret (Det (.int .i64 v) h δ)) := by
  refine CallW.start (n := 7) rfl rfl ?_
  (repeat (first | refine EK.seq ?_ | refine EK.region ?_ | refine ER.done ?_ | refine ER.move rfl rfl rfl ?_ | refine ER.assign rfl rfl rfl ?_ | refine ER.nilCheck rfl rfl rfl ?_ | refine ER.fieldAddr rfl rfl rfl ?_))
  refine ER.ext rfl rfl rfl rfl (fun Q X hq => semW_aload hc hq) ?_
  (repeat (first | refine ER.done ?_ | refine ER.assign rfl rfl rfl ?_ | refine EK.ret ?_))
  exact EU.ret1 rfl rfl det
theorem astore_ok {b o : Nat} {v x : Int} (hc : hcell h ⟨b, o, none⟩ = some (.int .i64 v)) (hz : hfroz h ⟨b, o, none⟩ = false) (hS : ¬ S.still δ.g ⟨b, o, none⟩) : CallW Try.prog main S 31 #[.pointer (some ⟨b, o, none⟩), .int .i64 x] h δ (Ret (Det (.tuple #[]) (hset h ⟨b, o, none⟩ (.int .i64 x)) δ)) := by
  refine CallW.start (n := 9) rfl rfl ?_
  (repeat (first | refine EK.region ?_ | refine ER.move rfl rfl rfl ?_ | refine ER.nilCheck rfl rfl rfl ?_ | refine ER.fieldAddr rfl rfl rfl ?_))
  refine ER.ext rfl rfl rfl rfl (fun Q X hq => semW_astore (by simp [OneCell]) hc hz hS hq) ?_
  (repeat refine ER.done ?_)
  refine EK.done ?_
  exact EU.ret0 rfl det
theorem acas_yes {b o : Nat} {v x : Int} (hc : hcell h ⟨b, o, none⟩ = some (.int .i64 v)) (hz : hfroz h ⟨b, o, none⟩ = false) (hS : ¬ S.still δ.g ⟨b, o, none⟩) : CallW Try.prog main S 35 #[.pointer (some ⟨b, o, none⟩), .int .i64 v, .int .i64 x] h δ (Ret (Det (.bool true) (hset h ⟨b, o, none⟩ (.int .i64 x)) δ)) := by
  refine CallW.start (n := 13) rfl rfl ?_
  (repeat (first | refine EK.seq ?_ | refine EK.region ?_ | refine ER.done ?_ | refine ER.move rfl rfl rfl ?_ | refine ER.assign rfl rfl rfl ?_ | refine ER.nilCheck rfl rfl rfl ?_ | refine ER.fieldAddr rfl rfl rfl ?_))
  refine ER.ext rfl rfl rfl rfl (fun Q X hq => semW_acas (by simp [OneCell]) hc hz hS (by rw [if_pos rfl]; exact hq)) ?_
  (repeat (first | refine ER.done ?_ | refine ER.assign rfl rfl rfl ?_ | refine EK.ret ?_))
  exact EU.ret1 rfl rfl det
theorem acas_no {b o : Nat} {v y x : Int} (hne : v ≠ y) (hc : hcell h ⟨b, o, none⟩ = some (.int .i64 v)) (hz : hfroz h ⟨b, o, none⟩ = false) (hS : ¬ S.still δ.g ⟨b, o, none⟩) : CallW Try.prog main S 35 #[.pointer (some ⟨b, o, none⟩), .int .i64 y, .int .i64 x] h δ (Ret (Det (.bool false) h δ)) := by
  refine CallW.start (n := 13) rfl rfl ?_
  (repeat (first | refine EK.seq ?_ | refine EK.region ?_ | refine ER.done ?_ | refine ER.move rfl rfl rfl ?_ | refine ER.assign rfl rfl rfl ?_ | refine ER.nilCheck rfl rfl rfl ?_ | refine ER.fieldAddr rfl rfl rfl ?_))
  refine ER.ext rfl rfl rfl rfl (fun Q X hq => semW_acas (by simp [OneCell]) hc hz hS (by rw [if_neg hne]; exact hq)) ?_
  (repeat (first | refine ER.done ?_ | refine ER.assign rfl rfl rfl ?_ | refine EK.ret ?_))
  exact EU.ret1 rfl rfl det
theorem aadd_ok {b o : Nat} {v x r : Int} (hr : IntKind.i64.wrap (v + x) = r) (hc : hcell h ⟨b, o, none⟩ = some (.int .i64 v)) (hz : hfroz h ⟨b, o, none⟩ = false) (hS : ¬ S.still δ.g ⟨b, o, none⟩) : CallW Try.prog main S 9 #[.pointer (some ⟨b, o, none⟩), .int .i64 x] h δ (Ret (Det (.int .i64 r) (hset h ⟨b, o, none⟩ (.int .i64 r)) δ)) := by
  refine CallW.start (n := 10) rfl rfl ?_
  (repeat (first | refine EK.seq ?_ | refine EK.region ?_ | refine ER.done ?_ | refine ER.move rfl rfl rfl ?_ | refine ER.assign rfl rfl rfl ?_ | refine ER.nilCheck rfl rfl rfl ?_ | refine ER.fieldAddr rfl rfl rfl ?_))
  refine ER.ext rfl rfl rfl rfl (fun Q X hq => semW_aadd hc hz hS hr hq) ?_
  (repeat (first | refine ER.done ?_ | refine ER.assign rfl rfl rfl ?_ | refine EK.ret ?_))
  exact EU.ret1 rfl rfl det
theorem wakes_ok {b : Nat} {v : Int} (hb : h[b]? = some (cellO v)) (hS : ¬ S.still δ.g ⟨b, 2, none⟩) (hDu : ¬ S.dull δ.g := by first | exact (fun x => x) | assumption) : CallW Try.prog main S 36 #[.pointer (some ⟨b, 0, none⟩)] h δ (Ret (Det (.tuple #[]) h δ)) := by
  unfold cellO at hb
  have hc : hcell h ⟨b, 2, none⟩ = some (.int .i32 0) := hcell_of hb rfl
  have h4 : hcell h ⟨b, 4, none⟩ = some (.chan none) := hcell_of hb rfl
  have hz : hfroz h ⟨b, 2, none⟩ = false := hfroz_of hb
  refine CallW.start (n := 21) rfl rfl ?_
  (repeat (first | refine EK.seq ?_ | refine EK.region ?_ | refine ER.move rfl rfl rfl ?_ | refine ER.nilCheck rfl rfl rfl ?_ | refine ER.fieldAddr rfl rfl rfl ?_))
  refine ER.callD rfl rfl rfl rfl rfl (lock_free hc hz hS) ?_
  (repeat (first | refine EK.seq ?_ | refine EK.region ?_ | refine ER.done ?_ | refine ER.move rfl rfl rfl ?_ | refine ER.nilCheck rfl rfl rfl ?_ | refine ER.fieldAddr rfl rfl rfl ?_))
  refine ER.defer rfl rfl rfl ?_
  (repeat (first | refine EK.seq ?_ | refine EK.region ?_ | refine ER.done ?_ | refine ER.move rfl rfl rfl ?_ | refine ER.nilCheck rfl rfl rfl ?_ | refine ER.fieldAddr rfl rfl rfl ?_))
  refine ER.load1 rfl rfl rfl (v := .chan none) (by rw [hset_cell_ne _ _ _ _ (by simp) ⟨_, hc⟩]; exact h4) ?_
  (repeat (first | refine ER.done ?_ | refine EK.skip ?_ | refine ER.neqV rfl rfl rfl rfl rfl ?_ | refine EK.condF rfl ?_))
  refine EK.done ?_
  refine EU.deferD rfl (unlock_held (hcell_hset_same hc) (by rw [hfroz_hset]; exact hz) hS) ?_
  rw [hset_hset, hset_self hc]
  exact EU.ret0 rfl det
theorem cload {b : Nat} {v : Int} (hb : h[b]? = some (cellO v)) : CallW Try.prog main S 19 #[.pointer (some ⟨b, 0, none⟩), .pointer none] h δ (Ret (Det (.int .i64 v) h δ)) := by
  refine CallW.start (n := 26) rfl rfl ?_
  (repeat (first | refine EK.seq ?_ | refine EK.region ?_ | refine ER.done ?_ | refine ER.move rfl rfl rfl ?_ | refine ER.assign rfl rfl rfl ?_))
  refine ER.callD rfl rfl rfl rfl rfl (none_ok hb) ?_
  (repeat (first | refine EK.seq ?_ | refine EK.region ?_ | refine ER.done ?_ | refine EK.skip ?_ | refine ER.move rfl rfl rfl ?_ | refine EK.condF rfl ?_))
  refine ER.callD rfl rfl rfl rfl rfl live_nil ?_
  (repeat (first | refine EK.seq ?_ | refine EK.region ?_ | refine ER.done ?_ | refine EK.skip ?_ | refine ER.move rfl rfl rfl ?_ | refine ER.nilCheck rfl rfl rfl ?_ | refine ER.fieldAddr rfl rfl rfl ?_ | refine EK.condF rfl ?_))
  refine ER.callD rfl rfl rfl rfl rfl (aload_ok (v := v) (hcell_of hb rfl)) ?_
  (repeat (first | refine ER.done ?_ | refine ER.assign rfl rfl rfl ?_ | refine EK.ret ?_))
  exact EU.ret1 rfl rfl det
theorem cstore {b : Nat} {v x : Int} (hb : h[b]? = some (cellO v)) (hS : ∀ o, ¬ S.still δ.g ⟨b, o, none⟩) (hDu : ¬ S.dull δ.g := by first | exact (fun x => x) | assumption) : CallW Try.prog main S 21 #[.pointer (some ⟨b, 0, none⟩), .pointer none, .int .i64 x] h δ (Ret (Det (.tuple #[]) (h.setIfInBounds b (cellO x)) δ)) := by
  refine CallW.start (n := 23) rfl rfl ?_
  (repeat (first | refine EK.seq ?_ | refine EK.region ?_ | refine ER.move rfl rfl rfl ?_))
  refine ER.callD rfl rfl rfl rfl rfl (none_ok hb) ?_
  (repeat (first | refine EK.seq ?_ | refine EK.region ?_ | refine ER.done ?_ | refine EK.skip ?_ | refine ER.move rfl rfl rfl ?_ | refine EK.condF rfl ?_))
  refine ER.callD rfl rfl rfl rfl rfl live_nil ?_
  (repeat (first | refine EK.seq ?_ | refine EK.region ?_ | refine ER.done ?_ | refine EK.skip ?_ | refine ER.move rfl rfl rfl ?_ | refine ER.nilCheck rfl rfl rfl ?_ | refine ER.fieldAddr rfl rfl rfl ?_ | refine EK.condF rfl ?_))
  refine ER.callD rfl rfl rfl rfl rfl (astore_ok (v := v) (hcell_of hb rfl) (hfroz_of hb) (hS 0)) ?_
  (repeat (first | refine EK.region ?_ | refine ER.done ?_ | refine ER.move rfl rfl rfl ?_))
  rw [cellO_set hb]
  refine ER.callD rfl rfl rfl rfl rfl (wakes_ok (cellO_at hb x) (hS 2)) ?_
  (repeat refine ER.done ?_)
  refine EK.done ?_
  exact EU.ret0 rfl det
theorem ccas_yes {b : Nat} {v x : Int} (hb : h[b]? = some (cellO v)) (hS : ∀ o, ¬ S.still δ.g ⟨b, o, none⟩) (hDu : ¬ S.dull δ.g := by first | exact (fun x => x) | assumption) : CallW Try.prog main S 20 #[.pointer (some ⟨b, 0, none⟩), .pointer none, .int .i64 v, .int .i64 x] h δ (Ret (Det (.bool true) (h.setIfInBounds b (cellO x)) δ)) := by
  refine CallW.start (n := 39) rfl rfl ?_
  (repeat (first | refine EK.seq ?_ | refine EK.region ?_ | refine ER.done ?_ | refine ER.move rfl rfl rfl ?_ | refine ER.assign rfl rfl rfl ?_))
  refine ER.callD rfl rfl rfl rfl rfl (none_ok hb) ?_
  (repeat (first | refine EK.seq ?_ | refine EK.region ?_ | refine ER.done ?_ | refine EK.skip ?_ | refine ER.move rfl rfl rfl ?_ | refine EK.condF rfl ?_))
  refine ER.callD rfl rfl rfl rfl rfl live_nil ?_
  (repeat (first | refine EK.seq ?_ | refine EK.region ?_ | refine ER.done ?_ | refine EK.skip ?_ | refine ER.move rfl rfl rfl ?_ | refine ER.nilCheck rfl rfl rfl ?_ | refine ER.fieldAddr rfl rfl rfl ?_ | refine EK.condF rfl ?_))
  refine ER.callD rfl rfl rfl rfl rfl (acas_yes (hcell_of hb rfl) (hfroz_of hb) (hS 0)) ?_
  (repeat (first | refine EK.seq ?_ | refine EK.region ?_ | refine ER.done ?_ | refine ER.move rfl rfl rfl ?_ | refine ER.assign rfl rfl rfl ?_ | refine EK.condT rfl ?_))
  rw [cellO_set hb]
  refine ER.callD rfl rfl rfl rfl rfl (wakes_ok (cellO_at hb x) (hS 2)) ?_
  (repeat (first | refine EK.seq ?_ | refine EK.region ?_ | refine ER.done ?_ | refine ER.move rfl rfl rfl ?_ | refine ER.assign rfl rfl rfl ?_ | refine EK.ret ?_))
  exact EU.ret1 rfl rfl det
theorem ccas_no {b : Nat} {v y x : Int} (hne : v ≠ y) (hb : h[b]? = some (cellO v)) (hS : ∀ o, ¬ S.still δ.g ⟨b, o, none⟩) : CallW Try.prog main S 20 #[.pointer (some ⟨b, 0, none⟩), .pointer none, .int .i64 y, .int .i64 x] h δ (Ret (Det (.bool false) h δ)) := by
  refine CallW.start (n := 39) rfl rfl ?_
  (repeat (first | refine EK.seq ?_ | refine EK.region ?_ | refine ER.done ?_ | refine ER.move rfl rfl rfl ?_ | refine ER.assign rfl rfl rfl ?_))
  refine ER.callD rfl rfl rfl rfl rfl (none_ok hb) ?_
  (repeat (first | refine EK.seq ?_ | refine EK.region ?_ | refine ER.done ?_ | refine EK.skip ?_ | refine ER.move rfl rfl rfl ?_ | refine EK.condF rfl ?_))
  refine ER.callD rfl rfl rfl rfl rfl live_nil ?_
  (repeat (first | refine EK.seq ?_ | refine EK.region ?_ | refine ER.done ?_ | refine EK.skip ?_ | refine ER.move rfl rfl rfl ?_ | refine ER.nilCheck rfl rfl rfl ?_ | refine ER.fieldAddr rfl rfl rfl ?_ | refine EK.condF rfl ?_))
  refine ER.callD rfl rfl rfl rfl rfl (acas_no hne (hcell_of hb rfl) (hfroz_of hb) (hS 0)) ?_
  (repeat (first | refine EK.seq ?_ | refine EK.region ?_ | refine ER.done ?_ | refine EK.skip ?_ | refine ER.move rfl rfl rfl ?_ | refine ER.assign rfl rfl rfl ?_ | refine EK.condF rfl ?_ | refine EK.ret ?_))
  exact EU.ret1 rfl rfl det
theorem astore_new {v : Int} (hS : ¬ S.still δ.g ⟨h.size, 0, none⟩) : CallW Try.prog main S 31 #[.pointer (some ⟨h.size, 0, none⟩), .int .i64 v] (h.push (cellO 0)) δ (Ret (Det (.tuple #[]) (h.push (cellO v)) δ)) := by
  have hb : (h.push (cellO 0))[h.size]? = some (cellO 0) := get_push_new h _
  have := astore_ok (main := main) (S := S) (δ := δ) (o := 0) (v := 0) (x := v) (hcell_of hb rfl) (hfroz_of hb) hS
  rwa [cellO_set hb, push_set] at this
theorem cnewS {v : Int} (hS : ¬ S.still δ.g ⟨h.size, 0, none⟩) (hLo : S.lone δ.g := by first | exact trivial | assumption) : CallW Try.prog main S 17 #[.int .i64 v] h δ (Ret (Det (.pointer (some ⟨h.size, 0, none⟩)) (h.push (cellO v)) δ)) := by
  refine CallW.start (n := 12) rfl rfl ?_
  (repeat (first | refine EK.seq ?_ | refine EK.region ?_ | refine ER.done ?_ | refine ER.assign rfl rfl rfl ?_))
  refine ER.buildS (cells := #[.int .i64 0, .bool true, .int .i32 0, .int .u32 0, .chan none]) rfl rfl rfl rfl ?_
  (repeat (first | refine EK.seq ?_ | refine EK.region ?_ | refine ER.done ?_ | refine ER.move rfl rfl rfl ?_ | refine ER.assign rfl rfl rfl ?_ | refine ER.nilCheck rfl rfl rfl ?_ | refine ER.fieldAddr rfl rfl rfl ?_ | refine ER.boxA rfl rfl rfl ?_))
  refine ER.callD (h' := h.push (cellO v)) rfl rfl rfl rfl rfl (astore_new hS) ?_
  (repeat (first | refine EK.seq ?_ | refine EK.region ?_ | refine ER.done ?_ | refine ER.move rfl rfl rfl ?_ | refine ER.assign rfl rfl rfl ?_ | refine EK.ret ?_))
  exact EU.ret1 rfl rfl det
theorem cnew {v : Int} : CallW Try.prog main NoS 17 #[.int .i64 v] h δ (Ret (Det (.pointer (some ⟨h.size, 0, none⟩)) (h.push (cellO v)) δ)) := cnewS (fun x => x)
end
end
end Go.Proofs.Ytndllibjlfpndaa
