/- Steps of the walk and of the plain law (PwM to PwQ). Conditions: as each lemma says. -/
import Derived.Deep.SlicePairs
import Derived.OpenShut
import Derived.WalkKit
import Derived.ProofKit
import Derived.Test.YthkpbenhchkkoaaPwZD
namespace Go.Proofs.Ythkpbenhchkkoaa
section
open Go Go.TJ Go.Conc Go.Proofs
inductive PNm where
  | ts | there | last | wrong
  deriving DecidableEq
def lastC (f : Nat -> Int) : List Value := (List.range 8).map fun i => .int .i64 (f i)
theorem lastC_get (f : Nat -> Int) {i : Nat} (hi : i < 8) : (lastC f)[i]? = some (.int .i64 (f i)) := by
  unfold lastC
  rw [List.getElem?_map, List.getElem?_range hi]; rfl
theorem lastC_set (f : Nat -> Int) {i : Nat} (hi : i < 8) (x : Int) : (lastC f).set i (.int .i64 x) = lastC (ut f i x) := by
  rcases lt8 hi with rfl | rfl | rfl | rfl | rfl | rfl | rfl | rfl <;> rfl
structure QW where
  m : Value
  there : Int
  last : Nat -> Int
  wrong : Bool
def wO (q : QW) : PNm -> Obj
  | .ts => .cells #[q.m] 61 (0, 0)
  | .there => .cells #[.int .i64 q.there] 3 (0, 0)
  | .last => .cells (lastC q.last).toArray 62 (0, 0)
  | .wrong => .cells #[.bool q.wrong] 4 (0, 0)
def wMem (D : PNm -> Nat) (q : QW) : Mem PNm := ⟨fun _ => True, D, wO q⟩
def QW.of (s : WS) (m : Value) : QW := ⟨m, s.there, s.last, false⟩
section
variable {h : Hp} {D : PNm -> Nat} {q q' : QW}
theorem wwrite (r : Rep h (wMem D q)) (k : PNm) {c : Array Value} {e : TypeId} {f : Nat × Nat} (ho : wO q k = .cells c e f) (i : Nat) (v : Value) (h1 : wO q' k = .cells (c.setIfInBounds i v) e f) (h2 : ∀ j, j ≠ k -> wO q' j = wO q j) : Rep (hset h ⟨D k, i, none⟩ v) (wMem D q') := by
  refine (r.hset (k := k) trivial ho i v).congr (fun _ x => x) (fun _ _ => rfl) fun j _ => ?_
  show wO q' j = ut (wO q) k _ j
  by_cases e : j = k
  · subst e; rw [ut_same]; exact h1
  · rw [ut_ne _ _ e]; exact h2 j e
theorem wcell (r : Rep h (wMem D q)) (k : PNm) {c : Array Value} {e : TypeId} {f : Nat × Nat} (ho : wO q k = .cells c e f) {i : Nat} {v : Value} (hv : c[i]? = some v) : hcell h ⟨D k, i, none⟩ = some v := r.cell (k := k) trivial ho hv
theorem wfroz (r : Rep h (wMem D q)) (k : PNm) {c : Array Value} {e : TypeId} (ho : wO q k = .cells c e (0, 0)) {i : Nat} : hfroz h ⟨D k, i, none⟩ = false := hfroz_of (r.get (k := k) trivial ho)
end
def encT (x : Thg) : List Value := [.int .i64 x.lv, .int .i64 x.th, .int .i64 x.sn, .bool x.tk]
theorem encT_len : ∀ (l : List Thg), (l.flatMap encT).length = l.length * 4
  | [] => rfl
  | x :: l => by
    rw [List.flatMap_cons, List.length_append, encT_len l, List.length_cons]
    show 4 + _ = _
    omega
theorem encT_get : ∀ {l : List Thg} {j : Nat} {x : Thg}, l[j]? = some x -> ∀ r, r < 4 -> (l.flatMap encT)[j * 4 + r]? = (encT x)[r]?
  | [], _, _, h, _, _ => by cases h
  | y :: l, 0, x, h, r, hr => by
    have e : y = x := by simpa using h
    subst e
    rw [List.flatMap_cons, List.getElem?_append_left (show 0 * 4 + r < (encT y).length by show _ < 4; omega)]
    congr 1; omega
  | y :: l, j + 1, x, h, r, hr => by
    rw [List.flatMap_cons, List.getElem?_append_right (show (encT y).length <= (j + 1) * 4 + r by show 4 <= _; omega), <- encT_get (l := l) (j := j) (by simpa using h) r hr]
    congr 1
    show (j + 1) * 4 + r - 4 = _
    omega
theorem encT_set : ∀ {l : List Thg} {j : Nat} {x y : Thg} {r : Nat} {v : Value}, l[j]? = some x -> r < 4 -> (encT x).set r v = encT y -> (l.flatMap encT).set (j * 4 + r) v = (l.set j y).flatMap encT
  | [], _, _, _, _, _, h, _, _ => by cases h
  | z :: l, 0, x, y, r, v, h, hr, he => by
    have e : z = x := by simpa using h
    subst e
    rw [List.flatMap_cons, List.set_append_left (h := show 0 * 4 + r < (encT z).length by show _ < 4; omega), show 0 * 4 + r = r by omega, he]; rfl
  | z :: l, j + 1, x, y, r, v, h, hr, he => by
    rw [List.flatMap_cons, List.set_append_right (h := show (encT z).length <= (j + 1) * 4 + r by show 4 <= _; omega)]
    have e : (j + 1) * 4 + r - (encT z).length = j * 4 + r := by
      show (j + 1) * 4 + r - 4 = _
      omega
    rw [e, encT_set (l := l) (j := j) (by simpa using h) hr he]; rfl
theorem gone_eq : ∀ {l : List Thg} {j : Nat} {x : Thg}, l[j]? = some x -> gone l j = (l.set j { x with tk := true }).map bump
  | [], _, _, h => by cases h
  | y :: l, 0, x, h => by
    have e : y = x := by simpa using h
    subst e
    simp [gone, bump]
  | y :: l, j + 1, x, h => by
    simp only [gone, List.set_cons_succ, List.map_cons]
    rw [gone_eq (l := l) (j := j) (by simpa using h)]
def mixT (l : List Thg) (i : Nat) : List Thg := (l.take i).map bump ++ l.drop i
theorem mixT_zero (l : List Thg) : mixT l 0 = l := by simp [mixT]
theorem mixT_all (l : List Thg) : mixT l l.length = l.map bump := by simp [mixT]
theorem mixT_len (l : List Thg) (i : Nat) : (mixT l i).length = l.length := by simp [mixT]; omega
theorem mixT_get {l : List Thg} {i : Nat} {x : Thg} (h : l[i]? = some x) : (mixT l i)[i]? = some x := by
  have hi := (List.getElem?_eq_some_iff.1 h).1
  unfold mixT
  rw [List.getElem?_append_right (by simp; omega)]
  simp [Nat.min_eq_left (Nat.le_of_lt hi), h]
theorem mixT_succ {l : List Thg} {i : Nat} {x : Thg} (h : l[i]? = some x) : mixT l (i + 1) = (mixT l i).set i (bump x) := by
  have hi := (List.getElem?_eq_some_iff.1 h).1
  unfold mixT
  rw [List.set_append_right (h := by simp; omega)]
  have e : i - ((l.take i).map bump).length = 0 := by simp; omega
  rw [e, List.drop_eq_getElem_cons hi, List.set_cons_zero, List.take_succ_eq_append_getElem hi, List.map_append, List.append_assoc]
  have e2 : l[i] = x := by rw [List.getElem?_eq_getElem hi] at h; injection h
  rw [e2]; rfl
theorem mixT_same {l : List Thg} {i : Nat} {x : Thg} (h : l[i]? = some x) (hx : x.tk = true) : mixT l (i + 1) = mixT l i := by
  have hb : bump x = x := by unfold bump; rw [if_pos hx]
  have hg := mixT_get h
  rw [mixT_succ h, hb]
  apply List.ext_getElem?
  intro j
  by_cases e : i = j
  · subst e
    rw [List.getElem?_set_self (List.getElem?_eq_some_iff.1 hg).1, hg]
  · rw [List.getElem?_set_ne e]
theorem wne {h : Hp} {D : PNm -> Nat} {q : QW} {y : Nat} {a : Array Value} {t : TypeId} (r : Rep h (wMem D q)) (hy : h[y]? = some (.cells a t (0, 0))) (t1 : t ≠ 61) (t2 : t ≠ 3) (t3 : t ≠ 62) (t4 : t ≠ 4) (k : PNm) : y ≠ D k := by
  rintro rfl
  have h1 := r.has k trivial
  change h[D k]? = _ at h1
  rw [hy] at h1
  injection h1 with h1
  cases k <;> (injection h1 with _ h1 _; first | exact t1 h1 | exact t2 h1 | exact t3 h1 | exact t4 h1)
structure WM (D : PNm -> Nat) (s : WS) (m : Value) (h : Hp) : Prop where
  rep : Rep h (wMem D (QW.of s m))
  sl : SliceO h m 66 4 s.ts.length (s.ts.flatMap encT)
  nb : ∀ b, blk m = some b -> ∀ k, b ≠ D k
abbrev wOwn (D : PNm -> Nat) (m : Value) : Nat -> Prop := fun b => (∃ k, b = D k) \/ blk m = some b
section
variable {Γ : Type} {main : Bool} {S : Sit Γ} {δ : Ix Γ} {h h' : Hp}
theorem wplace_ok {a n : Int} (hn : 0 < n) (hn1 : n <= 1000000) : CallW Try.prog main S 21 #[.int .i64 a, .int .i64 n] h δ (Ret (Det (.int .i64 (a % n)) h δ)) := by
  have h1 : a.tmod n = a - n * a.tdiv n := Int.tmod_def a n
  have h2 : -n < a.tmod n /\ a.tmod n < n := by
    rcases Int.lt_or_le a 0 with x | x
    · have e : a = -(-a) := by omega
      rw [e, Int.neg_tmod, Int.tmod_eq_emod_of_nonneg (by omega)]
      have := Int.emod_nonneg (-a) (by omega : n ≠ 0)
      have := Int.emod_lt_of_pos (-a) hn
      omega
    · rw [Int.tmod_eq_emod_of_nonneg x]
      have := Int.emod_nonneg a (by omega : n ≠ 0)
      have := Int.emod_lt_of_pos a hn
      omega
  refine CallW.start (n := 15) rfl rfl ?_
  (repeat (first | refine EK.seq ?_ | refine EK.region ?_ | refine ER.done ?_ | refine ER.move rfl rfl rfl ?_ | refine ER.assign rfl rfl rfl ?_))
  refine ER.rem (kd := .i64) rfl rfl rfl rfl (by omega) rfl ?_
  by_cases hneg : a.tmod n < 0
  · have e : a.tmod n + n = a % n := by
      have e1 : (a.tmod n + n) % n = a % n := by
        rw [h1, show a - n * a.tdiv n + n = a + n * (1 - a.tdiv n) by rw [Int.mul_sub, Int.mul_one]; omega, Int.add_mul_emod_self_left]
      rw [<- e1, Int.emod_eq_of_lt (by omega) (by omega)]
    rw [<- e]
    (repeat (first | refine EK.seq ?_ | refine EK.region ?_ | refine ER.done ?_ | refine ER.move rfl rfl rfl ?_ | refine ER.assign rfl rfl rfl ?_ | refine ER.cmpT rfl rfl rfl rfl rfl (by first | (dsimp only [cmpP]; omega) | exact rfl | exact Int.le_refl _) ?_ | refine ER.add (kd := .i64) rfl rfl rfl rfl (i64_in (by omega) (by omega)) ?_ | refine EK.condT rfl ?_ | refine EK.ret ?_))
    exact EU.ret1 rfl rfl det
  · have e : a.tmod n = a % n := by
      have e1 : (a.tmod n) % n = a % n := by
        rw [h1, show a - n * a.tdiv n = a + n * (- a.tdiv n) by rw [Int.mul_neg]; omega, Int.add_mul_emod_self_left]
      rw [<- e1, Int.emod_eq_of_lt (by omega) (by omega)]
    rw [<- e]
    (repeat (first | refine EK.seq ?_ | refine EK.region ?_ | refine ER.done ?_ | refine EK.skip ?_ | refine ER.move rfl rfl rfl ?_ | refine ER.assign rfl rfl rfl ?_ | refine ER.cmpF rfl rfl rfl rfl rfl (by first | (dsimp only [cmpP]; omega) | exact rfl | exact Int.le_refl _) ?_ | refine EK.condF rfl ?_ | refine EK.ret ?_))
    exact EU.ret1 rfl rfl det
structure WGot (S : Sit Γ) (D : PNm -> Nat) (by_ L : Nat) (m4 takes : Value) (pS kS : Value) (s : WS) (mv : Value) (v l : Int) (i : Nat) (δ : Ix Γ) (h : Hp) : Prop where
  ok : wok L s (i, .tk v l true)
  M : WM D s mv h
  y : h[by_]? = some (.cells #[.int .i64 L, m4, pS, takes, kS] 54 (0, 0))
  fr : ∀ k o, ¬ S.still δ.g ⟨D k, o, none⟩
  fm : ∀ b o, blk mv = some b -> ¬ S.still δ.g ⟨b, o, none⟩
  L8 : L <= 8
set_option maxRecDepth 8000 in
set_option maxHeartbeats 8000000 in
theorem wtake_ok {top bp by_ L i : Nat} {tv m4 takes pS kS : Value} {D : PNm -> Nat} {Q QT : Value -> Hp -> Ix Γ -> Prop} {Y : List PanicEntry -> Hp -> Ix Γ -> Prop} (hp : hcell h ⟨bp, 0, none⟩ = some (ptr top))
    (hT : CallW Try.prog main S 17 #[ptr top, tv] h δ (RetP QT Y))
    (hQ : ∀ w h' δ', QT w h' δ' -> ∃ v l is, w = .tuple #[.int .i64 v, .int .i64 l, .bool is] /\ (is = false -> Q (.bool false) h' δ') /\ (is = true -> ∃ s mv, WGot S D by_ L m4 takes pS kS s mv v l i δ' h' /\ ∀ h'', Upd (wOwn D mv) h' h'' -> WM D (wstep s (i, .tk v l true)) mv h'' -> Q (.bool true) h'' δ')) :
    CallW Try.prog main S 16 #[tv, ptr bp, ptr (D .ts), ptr (D .last), ptr (D .wrong), ptr by_, ptr (D .there)] h δ (RetP Q Y) := by
  refine CallW.start (n := 108) rfl rfl ?_
  (repeat (first | refine EK.seq ?_ | refine EK.region ?_ | refine ER.done ?_ | refine ER.move rfl rfl rfl ?_ | refine ER.assign rfl rfl rfl ?_ | refine ER.load1 rfl rfl rfl (by assumption) ?_))
  refine ER.callP rfl rfl rfl rfl rfl hT (fun _ _ _ y => y) ?_
  clear hT hp
  intro w h1 δ1 hqt
  obtain ⟨v, l, is, rfl, hno, hyes⟩ := hQ w h1 δ1 hqt
  clear hqt hQ
  cases is with
  | false =>
    (repeat (first | refine EK.seq ?_ | refine EK.region ?_ | refine ER.done ?_ | refine ER.move rfl rfl rfl ?_ | refine ER.assign rfl rfl rfl ?_ | refine ER.notB rfl rfl rfl ?_ | refine ER.extract rfl rfl rfl rfl ?_ | refine EK.condT rfl ?_ | refine EK.ret ?_))
    exact EU.ret1 rfl rfl (hno rfl)
  | true =>
    obtain ⟨s, mv, ⟨hok, M, hy, fr, fm, L8⟩, fin⟩ := hyes rfl
    clear hno hyes
    obtain ⟨wb, w, b, x, rfl, rfl, hbL, hw1, hx, hxt, hxl, hlast, hwait⟩ := hok rfl
    have hlen := wb.len
    have hthr := wb.there
    have hwl : w - 1 < s.ts.length := (List.getElem?_eq_some_iff.1 hx).1
    obtain ⟨bM, kM, rfl, cM, fzM⟩ := M.sl.cell (by omega)
    have r := M.rep
    have sl := M.sl
    have nbM := M.nb bM rfl
    have cts : hcell h1 ⟨D .ts, 0, none⟩ = some (.slice (some ⟨bM, 0, none⟩) s.ts.length kM) := wcell r .ts rfl (i := 0) rfl
    have ex : ∀ q, q < 4 -> hcell h1 ⟨bM, 0 + ((w : Int) - 1).toNat * 4 + q, none⟩ = (encT x)[q]? := fun q hq => by
      rw [show 0 + ((w : Int) - 1).toNat * 4 + q = (w - 1) * 4 + q by omega]
      have := encT_get hx q hq
      have hlt : q < (encT x).length := hq
      rw [List.getElem?_eq_getElem hlt] at this ⊢
      exact cM _ _ this
    have c3 : hcell h1 ⟨bM, 0 + ((w : Int) - 1).toNat * 4 + 3, none⟩ = some (.bool false) := by rw [ex 3 (by omega)]; show some (Value.bool x.tk) = _; rw [hxt]
    have c0 : hcell h1 ⟨bM, 0 + ((w : Int) - 1).toNat * 4 + 0, none⟩ = some (.int .i64 (b : Int)) := by rw [ex 0 (by omega)]; show some (Value.int .i64 (x.lv : Int)) = _; rw [hxl]
    have cl : hcell h1 ⟨D .last, 0 + ((b : Int)).toNat * 1, none⟩ = some (.int .i64 (s.last b)) := by
      rw [show 0 + ((b : Int)).toNat * 1 = b by omega]
      exact wcell r .last rfl (by simp only [List.getElem?_toArray]; exact lastC_get _ (by omega))
    (repeat (first | refine EK.seq ?_ | refine EK.region ?_ | refine ER.done ?_ | refine EK.skip ?_ | refine ER.move rfl rfl rfl ?_ | refine ER.assign rfl rfl rfl ?_ | refine ER.nilCheck rfl rfl rfl ?_ | refine ER.fieldAddr rfl rfl rfl ?_ | refine ER.notB rfl rfl rfl ?_ | refine ER.pickF rfl rfl rfl rfl ?_ | refine ER.extract rfl rfl rfl rfl ?_ | refine ER.cmpF rfl rfl rfl rfl rfl (by first | (dsimp only [cmpP]; omega) | exact rfl | exact Int.le_refl _) ?_ | refine ER.sub' (kd := .i64) rfl rfl rfl rfl (i64_in (by omega) (by omega)) ?_ | refine ER.indexArr rfl rfl rfl rfl (by omega) (by omega) ?_ | refine ER.len1 rfl rfl rfl ?_ | refine ER.indexSl rfl rfl rfl rfl (by omega) (by omega) ?_ | refine EK.condF rfl ?_ | refine ER.load1 rfl rfl rfl (by assumption) ?_))
    refine ER.store1 (v := .bool true) rfl rfl rfl ⟨nofun, nofun⟩ ⟨_, c3⟩ (fzM _) (fm _ _ rfl) ?_
    have hxset : (encT x).set 3 (.bool true) = encT { x with tk := true } := rfl
    have sl2 := sl.set (j := (w - 1) * 4 + 3) (by rw [encT_len]; omega) (.bool true)
    rw [encT_set hx (by omega) hxset, show (w - 1) * 4 + 3 = 0 + ((w : Int) - 1).toNat * 4 + 3 by omega] at sl2
    have u2 := Upd.hset (T := wOwn D (.slice (some ⟨bM, 0, none⟩) s.ts.length kM)) h1 ⟨bM, 0 + ((w : Int) - 1).toNat * 4 + 3, none⟩ (.bool true) (.inr rfl)
    have r2 := r.upd (Upd.hset (T := fun b => b = bM) h1 ⟨bM, 0 + ((w : Int) - 1).toNat * 4 + 3, none⟩ (.bool true) rfl) fun k _ e => nbM k e.symm
    have nby : by_ ≠ bM := fun e => sliceO_ne sl hy (by decide) by_ (by rw [e]; rfl) rfl
    have nbD := wne r hy (by decide) (by decide) (by decide) (by decide)
    have hown : ∀ {b}, wOwn D (.slice (some ⟨bM, 0, none⟩) s.ts.length kM) b -> b ≠ by_ := fun {b} z e => z.elim (fun ⟨k, e'⟩ => nbD k (e ▸ e')) fun e' => nby (by have e2 : some bM = some b := e'; injection e2 with e2; rw [e2, e])
    have hxs : (s.ts.set (w - 1) { x with tk := true })[w - 1]? = some { x with tk := true } := by rw [List.getElem?_set_self hwl]
    have hsl : (s.ts.set (w - 1) { x with tk := true }).length = s.ts.length := List.length_set
    clear cts c3 c0 cl ex cM
    generalize hset h1 ⟨bM, 0 + ((w : Int) - 1).toNat * 4 + 3, none⟩ (.bool true) = h2 at sl2 u2 r2 ⊢
    have eb : 0 + ((b : Int)).toNat * 1 = b := by omega
    have cl : hcell h2 ⟨D .last, 0 + ((b : Int)).toNat * 1, none⟩ = some (.int .i64 (s.last b)) := by
      rw [eb]
      exact wcell r2 .last rfl (by simp only [List.getElem?_toArray]; exact lastC_get _ (by omega))
    (repeat (first | refine EK.seq ?_ | refine EK.region ?_ | refine ER.done ?_ | refine ER.move rfl rfl rfl ?_ | refine ER.indexArr rfl rfl rfl rfl (by omega) (by omega) ?_))
    refine ER.store1 (v := .int .i64 (w : Int)) rfl rfl rfl ⟨nofun, nofun⟩ ⟨_, cl⟩ (wfroz r2 .last rfl) (fr .last _) ?_
    rw [eb]
    have r3 := wwrite r2 .last rfl b (.int .i64 (w : Int)) (q' := { QW.of s (.slice (some ⟨bM, 0, none⟩) s.ts.length kM) with last := ut s.last b w }) (by
      show Obj.cells (lastC (ut s.last b w)).toArray _ _ = Obj.cells ((lastC s.last).toArray.setIfInBounds b _) _ _
      rw [<- lastC_set s.last (by omega)]
      simp) (fun j hj => by cases j <;> first | rfl | exact absurd rfl hj)
    have u3 := u2.trans (Upd.hset (T := wOwn D (.slice (some ⟨bM, 0, none⟩) s.ts.length kM)) h2 ⟨D .last, b, none⟩ (.int .i64 (w : Int)) (.inl ⟨_, rfl⟩))
    have sl3 := sl2.upd (Upd.hset (T := fun b => ∃ k, b = D k) h2 ⟨D .last, b, none⟩ (.int .i64 (w : Int)) ⟨_, rfl⟩) fun b hb ⟨k, e⟩ => M.nb b hb k e
    clear cl sl2 u2 r2
    generalize hset h2 ⟨D .last, b, none⟩ (.int .i64 (w : Int)) = h3 at r3 u3 sl3 ⊢
    rw [<- hsl] at sl3
    obtain ⟨bM', kM', eM, cM3, fz3⟩ := sl3.cell (by omega)
    cases eM
    have ex : ∀ q, q < 4 -> hcell h3 ⟨bM, 0 + ((w : Int) - 1).toNat * 4 + q, none⟩ = (encT { x with tk := true })[q]? := fun q hq => by
      rw [show 0 + ((w : Int) - 1).toNat * 4 + q = (w - 1) * 4 + q by omega]
      have := encT_get hxs q hq
      have hlt : q < (encT { x with tk := true }).length := hq
      rw [List.getElem?_eq_getElem hlt] at this ⊢
      exact cM3 _ _ this
    have c2 : hcell h3 ⟨bM, 0 + ((w : Int) - 1).toNat * 4 + 2, none⟩ = some (.int .i64 x.sn) := by rw [ex 2 (by omega)]; rfl
    have c1 : hcell h3 ⟨bM, 0 + ((w : Int) - 1).toNat * 4 + 1, none⟩ = some (.int .i64 x.th) := by rw [ex 1 (by omega)]; rfl
    have cw : hcell h3 ⟨D .wrong, 0, none⟩ = some (.bool false) := wcell r3 .wrong rfl (i := 0) rfl
    have cy : hcell h3 ⟨by_, 0, none⟩ = some (.int .i64 L) := hcell_of (u3.get hy fun z => hown z rfl) rfl
    have hth := wb.th x (List.mem_of_getElem? hx)
    (repeat (first | refine EK.seq ?_ | refine ER.done ?_))
    refine EK.regionAnyL (fun h' => h' = h3) 20 ?_
    have hZ : h3 = h3 := rfl
    refine EA.tLoad 0 rfl (by kernel_rfl) rfl rfl rfl rfl (fun _ hz => hz ▸ cw) hZ ?_
    refine EA.tMove 1 rfl (by kernel_rfl) rfl rfl rfl rfl hZ ?_
    refine EA.tMove 2 rfl (by kernel_rfl) rfl rfl rfl rfl hZ ?_
    refine EA.tNil 3 rfl (by kernel_rfl) rfl rfl rfl rfl hZ ?_
    refine EA.tField 4 rfl (by kernel_rfl) rfl rfl rfl rfl hZ ?_
    refine EA.tLoad 5 rfl (by kernel_rfl) rfl rfl rfl rfl (fun _ hz => hz ▸ c2) hZ ?_
    refine EA.tMove 6 rfl (by kernel_rfl) rfl rfl rfl rfl hZ ?_
    refine EA.tNil 7 rfl (by kernel_rfl) rfl rfl rfl rfl hZ ?_
    refine EA.tField 8 rfl (by kernel_rfl) rfl rfl rfl rfl hZ ?_
    refine EA.tLoad 9 rfl (by kernel_rfl) rfl rfl rfl rfl (fun _ hz => hz ▸ c1) hZ ?_
    refine EA.tField 10 rfl (by kernel_rfl) rfl rfl rfl rfl hZ ?_
    refine EA.tField 11 rfl (by kernel_rfl) rfl rfl rfl rfl hZ ?_
    refine EA.tLoad 12 rfl (by kernel_rfl) rfl rfl rfl rfl (fun _ hz => hz ▸ cy) hZ ?_
    refine EA.tSub (kd := .i64) 13 rfl (by kernel_rfl) rfl rfl rfl rfl rfl (i64_in (by omega) (by omega)) hZ ?_
    refine EA.tMove 14 rfl (by kernel_rfl) rfl rfl rfl rfl hZ ?_
    refine EA.tSub (kd := .i64) 15 rfl (by kernel_rfl) rfl rfl rfl rfl rfl (i64_in (by omega) (by omega)) hZ ?_
    refine EA.tMul (kd := .i64) 16 rfl (by kernel_rfl) rfl rfl rfl rfl rfl (i64_in (by omega) (by omega)) hZ ?_
    refine EA.tAdd (kd := .i64) 17 rfl (by kernel_rfl) rfl rfl rfl rfl rfl (i64_in (by omega) (by omega)) hZ ?_
    refine EA.tCmpF 18 rfl (by kernel_rfl) rfl rfl rfl rfl rfl rfl (by first | (dsimp only [cmpP]; omega) | exact rfl | exact Int.le_refl _) hZ ?_
    refine EA.tPickF 19 rfl (by kernel_rfl) rfl rfl rfl rfl rfl hZ ?_
    refine EA.unitL (h' := hset h3 ⟨D .wrong, 0, none⟩ (.bool false)) 20 rfl (by kernel_rfl) rfl rfl rfl (fun ρ Q X hρ hq => sem_store1 (hρ _ _ rfl) (hρ _ _ rfl) ⟨nofun, nofun⟩ ⟨_, cw⟩ (wfroz r3 .wrong rfl) (fr .wrong _) hq) ?_
    refine EA.done (by kernel_rfl) ?_
    have r4 := wwrite r3 .wrong rfl 0 (.bool false) (q' := { QW.of s (.slice (some ⟨bM, 0, none⟩) s.ts.length kM) with last := ut s.last b w }) rfl (fun j hj => by cases j <;> first | rfl | exact absurd rfl hj)
    have u4 := u3.trans (Upd.hset (T := wOwn D (.slice (some ⟨bM, 0, none⟩) s.ts.length kM)) h3 ⟨D .wrong, 0, none⟩ (.bool false) (.inl ⟨_, rfl⟩))
    have sl4 := sl3.upd (Upd.hset (T := fun b => ∃ k, b = D k) h3 ⟨D .wrong, 0, none⟩ (.bool false) ⟨_, rfl⟩) fun b hb ⟨k, e⟩ => nbM k (by injection hb with hb; rw [<- e, <- hb])
    clear cw c1 c2 cy ex cM3 hZ r3 u3 sl3 fz3
    generalize hset h3 ⟨D .wrong, 0, none⟩ (.bool false) = h4 at r4 u4 sl4 ⊢
    obtain ⟨tX, htX⟩ : ∃ tX, tX = s.ts.set (w - 1) { x with tk := true } := ⟨_, rfl⟩
    rw [<- htX] at sl4 hsl hxs
    have hgo : tX.map bump = gone s.ts (w - 1) := by rw [htX]; exact (gone_eq hx).symm
    have hsn : ∀ z, z ∈ tX -> z.tk = false -> -1000 <= z.sn /\ z.sn <= 1000 := fun z hz ht => by
      rw [htX] at hz
      rcases List.mem_or_eq_of_mem_set hz with y | y
      · exact wb.sn z y ht
      · rw [y] at ht; cases ht
    rw [hsl] at sl4
    clear htX hxs hwait
    (repeat (first | refine EK.seq ?_ | refine EK.region ?_ | refine ER.done ?_ | refine EK.block ?_ | refine ER.assign rfl rfl rfl ?_))
    refine EK.loopInv (fun q : Nat => [(13, .int .i64 q), (6, ptr (D .there)), (2, ptr (D .ts))]) (fun q h' δ' => δ' = δ1 /\ q <= s.ts.length /\ Rep h' (wMem D { QW.of s (.slice (some ⟨bM, 0, none⟩) s.ts.length kM) with last := ut s.last b w }) /\ SliceO h' (.slice (some ⟨bM, 0, none⟩) s.ts.length kM) 66 4 s.ts.length ((mixT tX q).flatMap encT) /\ Upd (wOwn D (.slice (some ⟨bM, 0, none⟩) s.ts.length kM)) h1 h') (fun q => s.ts.length - q) 0 ⟨rfl, rfl, rfl, trivial⟩ ⟨rfl, Nat.zero_le _, r4, by rw [mixT_zero]; exact sl4, u4⟩ ?_
    clear r4 sl4 u4
    rintro q h5 δ5 ⟨hδ, hq, r5, sl5, u5⟩ again
    subst hδ
    have cts : hcell h5 ⟨D .ts, 0, none⟩ = some (.slice (some ⟨bM, 0, none⟩) s.ts.length kM) := wcell r5 .ts rfl (i := 0) rfl
    by_cases hql : q < s.ts.length
    · obtain ⟨z, hz⟩ : ∃ z, tX[q]? = some z := ⟨_, List.getElem?_eq_getElem (by omega)⟩
      have hzm := mixT_get hz
      obtain ⟨bM', kM', eM, cM5, fz5⟩ := sl5.cell (by omega)
      cases eM
      have ex : ∀ p, p < 4 -> hcell h5 ⟨bM, 0 + ((q : Int)).toNat * 4 + p, none⟩ = (encT z)[p]? := fun p hp => by
        rw [show 0 + ((q : Int)).toNat * 4 + p = q * 4 + p by omega]
        have := encT_get hzm p hp
        have hlt : p < (encT z).length := hp
        rw [List.getElem?_eq_getElem hlt] at this ⊢
        exact cM5 _ _ this
      have c3 : hcell h5 ⟨bM, 0 + ((q : Int)).toNat * 4 + 3, none⟩ = some (.bool z.tk) := by rw [ex 3 (by omega)]; rfl
      have c2 : hcell h5 ⟨bM, 0 + ((q : Int)).toNat * 4 + 2, none⟩ = some (.int .i64 z.sn) := by rw [ex 2 (by omega)]; rfl
      cases hzt : z.tk with
      | true =>
        rw [hzt] at c3
        (repeat (first | refine EK.seq ?_ | refine EK.region ?_ | refine ER.done ?_ | refine EK.skip ?_ | refine EK.block ?_ | refine EK.inBlock ?_ | refine ER.move rfl rfl rfl ?_ | refine ER.assign rfl rfl rfl ?_ | refine ER.fieldAddr rfl rfl rfl ?_ | refine ER.notB rfl rfl rfl ?_ | refine ER.cmpT rfl rfl rfl rfl rfl (by first | (dsimp only [cmpP]; omega) | exact rfl | exact Int.le_refl _) ?_ | refine ER.add (kd := .i64) rfl rfl rfl rfl (i64_in (by omega) (by omega)) ?_ | refine ER.len1 rfl rfl rfl ?_ | refine ER.indexSl rfl rfl rfl rfl (by omega) (by omega) ?_ | refine EK.condT rfl ?_ | refine EK.condF rfl ?_ | refine ER.load1 rfl rfl rfl (by assumption) ?_))
        exact EK.back (again (q + 1) _ _ (by omega) ⟨rfl, by omega, r5, by rw [mixT_same hz hzt]; exact sl5, u5⟩) ⟨rfl, rfl, rfl, trivial⟩
      | false =>
        rw [hzt] at c3
        have hb := hsn z (List.mem_of_getElem? hz) hzt
        (repeat (first | refine EK.seq ?_ | refine EK.region ?_ | refine ER.done ?_ | refine EK.skip ?_ | refine EK.block ?_ | refine ER.move rfl rfl rfl ?_ | refine ER.fieldAddr rfl rfl rfl ?_ | refine ER.notB rfl rfl rfl ?_ | refine ER.cmpT rfl rfl rfl rfl rfl (by first | (dsimp only [cmpP]; omega) | exact rfl | exact Int.le_refl _) ?_ | refine ER.add (kd := .i64) rfl rfl rfl rfl (i64_in (by omega) (by omega)) ?_ | refine ER.len1 rfl rfl rfl ?_ | refine ER.indexSl rfl rfl rfl rfl (by omega) (by omega) ?_ | refine EK.condT rfl ?_ | refine ER.load1 rfl rfl rfl (by assumption) ?_))
        refine ER.store1 (v := .int .i64 (z.sn + 1)) rfl rfl rfl ⟨nofun, nofun⟩ ⟨_, c2⟩ (fz5 _) (fm _ _ rfl) ?_
        have hzset : (encT z).set 2 (.int .i64 (z.sn + 1)) = encT (bump z) := by rw [show bump z = { z with sn := z.sn + 1 } from if_neg (by simp [hzt])]; rfl
        have sl6 := sl5.set (j := q * 4 + 2) (by rw [encT_len, mixT_len]; omega) (.int .i64 (z.sn + 1))
        rw [encT_set hzm (by omega) hzset, <- mixT_succ hz, show q * 4 + 2 = 0 + ((q : Int)).toNat * 4 + 2 by omega] at sl6
        have u6 := u5.trans (Upd.hset (T := wOwn D (.slice (some ⟨bM, 0, none⟩) s.ts.length kM)) h5 ⟨bM, 0 + ((q : Int)).toNat * 4 + 2, none⟩ (.int .i64 (z.sn + 1)) (.inr rfl))
        have r6 := r5.upd (Upd.hset (T := fun b => b = bM) h5 ⟨bM, 0 + ((q : Int)).toNat * 4 + 2, none⟩ (.int .i64 (z.sn + 1)) rfl) fun k _ e => nbM k e.symm
        clear cts c3 c2 ex cM5
        (repeat (first | refine EK.region ?_ | refine ER.done ?_ | refine EK.inBlock ?_ | refine ER.move rfl rfl rfl ?_ | refine ER.assign rfl rfl rfl ?_ | refine ER.add (kd := .i64) rfl rfl rfl rfl (i64_in (by omega) (by omega)) ?_))
        exact EK.back (again (q + 1) _ _ (by omega) ⟨rfl, by omega, r6, sl6, u6⟩) ⟨rfl, rfl, rfl, trivial⟩
    · obtain rfl : q = s.ts.length := by omega
      rw [<- hsl, mixT_all, hgo, hsl] at sl5
      have ct : hcell h5 ⟨D .there, 0, none⟩ = some (.int .i64 s.there) := wcell r5 .there rfl (i := 0) rfl
      clear again hq hql
      (repeat (first | refine EK.seq ?_ | refine EK.region ?_ | refine ER.done ?_ | refine ER.move rfl rfl rfl ?_ | refine ER.cmpF rfl rfl rfl rfl rfl (by first | (dsimp only [cmpP]; omega) | exact rfl | exact Int.le_refl _) ?_ | refine ER.sub' (kd := .i64) rfl rfl rfl rfl (i64_in (by omega) (by omega)) ?_ | refine ER.len1 rfl rfl rfl ?_ | refine EK.condF rfl ?_ | refine EK.exit rfl ?_ | refine ER.load1 rfl rfl rfl (by assumption) ?_))
      refine ER.store1 (v := .int .i64 (s.there - 1)) rfl rfl rfl ⟨nofun, nofun⟩ ⟨_, ct⟩ (wfroz r5 .there rfl) (fr .there _) ?_
      have r6 := wwrite r5 .there rfl 0 (.int .i64 (s.there - 1)) (q' := QW.of (wstep s (i, .tk w b true)) (.slice (some ⟨bM, 0, none⟩) s.ts.length kM)) (by simp [wO, QW.of, wstep]) (fun j hj => by cases j <;> first | rfl | exact absurd rfl hj)
      have u6 := u5.trans (Upd.hset (T := wOwn D (.slice (some ⟨bM, 0, none⟩) s.ts.length kM)) h5 ⟨D .there, 0, none⟩ (.int .i64 (s.there - 1)) (.inl ⟨_, rfl⟩))
      have sl6 := sl5.upd (Upd.hset (T := fun b => ∃ k, b = D k) h5 ⟨D .there, 0, none⟩ (.int .i64 (s.there - 1)) ⟨_, rfl⟩) fun b hb ⟨k, e⟩ => M.nb b hb k e
      clear ct cts
      (repeat (first | refine EK.seq ?_ | refine EK.region ?_ | refine ER.done ?_ | refine ER.assign rfl rfl rfl ?_ | refine EK.ret ?_))
      refine EU.ret1 rfl rfl (fin _ u6 ⟨r6, ?_, M.nb⟩)
      have e1 : (wstep s (i, .tk w b true)).ts = gone s.ts (w - 1) := by simp [wstep]
      rw [e1, gone_len]
      exact sl6
end
end
section
open Go Go.TJ Go.Conc Go.Proofs
structure W1 where
  c : PP
  hN : Hp
  ex : Nat -> Prop
  D : PNm -> Nat
  v0 : Nat -> Int
def W1.isC (d : W1) (b : Nat) : Prop := ∃ k, okP d.c.G.L d.c.G.m k /\ isV k /\ b = d.c.G.B k
def W1.old (d : W1) (b : Nat) : Prop := b < d.hN.size /\ ¬ d.isC b /\ ¬ d.ex b /\ ∀ k, b ≠ d.D k
structure WMI (d : W1) (g : List (Nat × PE)) (mv : Value) (h : Hp) : Prop where
  old : ∀ b, d.old b -> h[b]? = d.hN[b]?
  M : WM d.D (wfold g) mv h
  new : ∀ b, blk mv = some b -> ¬ d.old b /\ ¬ d.isC b
def gcW (d : W1) : GC PE Value where
  isC := d.isC
  P := d.c.P
  v0 := d.v0
  Dom := fun m b => d.old b \/ (∃ k, b = d.D k) \/ (¬ d.isC b /\ blk m = some b)
  I := WMI d
  JV := fun _ => True
abbrev XW (d : W1) : Us := UsN (gcW d)
abbrev wtold (d : W1) : (XW d).U -> Nat -> List PE := fun u i => toldOf i u.1
section
variable {d : W1} {g : List (Nat × PE)} {mv mv' : Value} {h h' : Hp} {i : Nat} {γ γ' : GG (XW d)} {u : (XW d).U}
theorem SliceO.same4 {h h' : Hp} {s : Value} {e sz n : Nat} {cells : List Value} (x : SliceO h s e sz n cells) (hb : ∀ b, blk s = some b -> h'[b]? = h[b]?) : SliceO h' s e sz n cells := by
  refine ⟨x.1, x.2.imp id ?_⟩
  rintro ⟨b, cap, rest, rfl, h1, h2, h3⟩
  exact ⟨b, cap, rest, rfl, h1, h2, (hb b rfl).trans h3⟩
theorem gcW_ok (hD : ∀ k, ¬ d.isC (d.D k)) : (XW d).Ok :=
  usN_ok (fun _g _m _h _h' hb I => ⟨fun b h1 => (hb b (.inl h1)).trans (I.old b h1), ⟨⟨fun k hk => (hb _ (.inr (.inl ⟨k, rfl⟩))).trans (I.M.rep.has k hk), I.M.rep.inj⟩, SliceO.same4 I.M.sl fun b hbb => hb b (.inr (.inr ⟨(I.new b hbb).2, hbb⟩)), I.M.nb⟩, I.new⟩)
    (fun _m _b hd hc => hd.elim (fun y => y.2.1 hc) fun y => y.elim (fun ⟨k, e⟩ => hD k (e ▸ hc)) fun y => y.1 hc)
theorem WMI.oldlt (I : WMI d g mv h) {b : Nat} (hb : d.old b) : b < h.size := by
  have := I.old b hb
  rw [Array.getElem?_eq_getElem hb.1] at this
  exact lt_of_get this
theorem wcl {L : List (Nat × Obj)} (T : Thr (XW d) i γ u L h) : ∀ b, d.isC b -> b < h.size := fun b hb => by
  obtain ⟨s, M, g⟩ := T.gi
  exact lt_of_get (g.cel b hb).1
theorem wput (hD : ∀ k, ¬ d.isC (d.D k)) (T : Thr (XW d) i γ u [] h) {a : PE} (up : Upd (wOwn d.D u.2) h h') (M : WM d.D (wfold (u.1 ++ [(i, a)])) mv' h') (hb : ∀ b, blk mv' = some b -> blk u.2 = some b \/ h.size <= b) : Thr (XW d) i γ (u.1 ++ [(i, a)], mv') [] h' := by
  have I : WMI d u.1 u.2 h := T.I
  let u' : (XW d).U := (u.1 ++ [(i, a)], mv')
  have hs := up.size
  have hnew : ∀ b, blk mv' = some b -> ¬ d.old b /\ ¬ d.isC b := fun b hbb => by
    rcases hb b hbb with y | y
    · exact I.new b y
    · exact ⟨fun z => by have := I.oldlt z; omega, fun z => by have := wcl T b z; omega⟩
  show Thr (XW d) i γ u' [] _
  refine T.user (gcW_ok hD) (u' := u') (L' := []) (up.mono fun b _ x => .inl (.inr (x.imp id fun y => ⟨(I.new b y).2, y⟩))) (fun b hb' => ?_) (fun q hq => by cases hq) ⟨fun b h1 => ?_, M, hnew⟩ fun x hx => ⟨[(i, a)], rfl, fun y hy => by rw [List.mem_singleton.1 hy]; exact Ne.symm hx⟩
  · rcases hb' with y | ⟨k, e⟩ | ⟨y1, y2⟩
    · exact ⟨.inl (.inl y), by have := I.oldlt y; omega⟩
    · refine ⟨.inl (.inr (.inl ⟨k, e⟩)), ?_⟩
      have := M.rep.lt (k := k) trivial
      change d.D k < _ at this
      omega
    · refine ⟨?_, SliceO.lt M.sl y2⟩
      rcases hb b y2 with z | z
      · exact .inl (.inr (.inr ⟨y1, z⟩))
      · exact .inr z
  · rw [up.2 b (I.oldlt h1) (fun x => x.elim (fun ⟨k, e⟩ => h1.2.2.2 k e) fun x => (I.new b x).1 h1)]
    exact I.old b h1
theorem wsay (hD : ∀ k, ¬ d.isC (d.D k)) (T : Thr (XW d) i γ u [] h) {a : PE} (e : wfold (u.1 ++ [(i, a)]) = wfold u.1) : Thr (XW d) i γ (u.1 ++ [(i, a)], u.2) [] h := by
  have I : WMI d u.1 u.2 h := T.I
  exact wput hD T (Upd.refl _ _) (by rw [e]; exact I.M) fun b hb => .inl hb
end
abbrev takeF (d : W1) (bp by_ : Nat) : Value := .func (.func 16) #[] #[ptr bp, ptr (d.D .ts), ptr (d.D .last), ptr (d.D .wrong), ptr by_, ptr (d.D .there)]
structure WEn (d : W1) (e by_ bp bt : Nat) (takes : Int) (pS kS : Value) (ps : List Nat) : Prop where
  ok : d.c.Ok
  hD : ∀ k, ¬ d.isC (d.D k)
  K : CodX (XW d) d.c.P (wtold d) (JPr d.c.G) (PriH d.c.G)
  DK : PriK (XW d) e d.c.G
  F : 65537 <= d.c.F
  z : PW0 d.c d.v0
  y : d.old by_ /\ d.hN[by_]? = some (.cells #[.int .i64 d.c.G.L, .int .i64 d.c.G.m, pS, .int .i64 takes, kS] 54 (0, 0))
  p : d.old bp /\ d.hN[bp]? = some (.cells #[ptr (d.c.G.B kTop)] 58 (0, 0))
  take : d.old bt /\ d.hN[bt]? = some (.cells #[takeF d bp by_] 68 (0, 0))
  puts : RdS d.hN pS (ps.map fun (x : Nat) => .int .u8 x) /\ (ps ≠ [] -> ∀ b, blk pS = some b -> d.old b)
  pe : d.c.puts = ps.map fun x => x % d.c.G.L
  u8 : ∀ x, x ∈ ps -> x < 256
  tak : d.c.tak = (takes % 400).toNat
section
variable {d : W1} {e by_ bp bt : Nat} {takes : Int} {pS kS : Value} {ps : List Nat} {h : Hp} {i : Nat} {γ γ' : GG (XW d)} {u : (XW d).U}
theorem wnext (E : WEn d e by_ bp bt takes pS kS ps) {a : PE} {k : Pr PE} (x : AtP (XW d) d.c.P (wtold d) i γ u [] h (.emit a k)) : wok d.c.G.L (wfold u.1) (i, a) := by
  obtain ⟨S, R⟩ := usN_reach x.thr x.res x.ext
  obtain ⟨A, pc, tc, I⟩ := pinv_all E.ok E.z R
  exact I.ok u.1 (i, a) ((norm k).1.map fun e => (i, e)) rfl
structure WNow (d : W1) (by_ bp bt : Nat) (takes : Int) (pS kS : Value) (ps : List Nat) (h : Hp) : Prop where
  y : h[by_]? = some (.cells #[.int .i64 d.c.G.L, .int .i64 d.c.G.m, pS, .int .i64 takes, kS] 54 (0, 0))
  p : hcell h ⟨bp, 0, none⟩ = some (ptr (d.c.G.B kTop))
  take : hcell h ⟨bt, 0, none⟩ = some (takeF d bp by_)
  puts : RdS h pS (ps.map fun (x : Nat) => .int .u8 x)
theorem wrds_low {h h' : Hp} {s : Value} {vs : List Value} (x : RdS h s vs) (hb : vs ≠ [] -> ∀ b, blk s = some b -> h'[b]? = h[b]?) : RdS h' s vs := by
  refine ⟨x.val, fun i v hv => ?_⟩
  obtain ⟨b, o, k, e, hc⟩ := x.cell i v hv
  refine ⟨b, o, k, e, ?_⟩
  unfold TJ.hcell at hc ⊢
  rw [hb (fun y => by rw [y] at hv; cases hv) b (by rw [e]; rfl)]
  exact hc
theorem WEn.now (E : WEn d e by_ bp bt takes pS kS ps) {h' : Hp} (hh : ∀ b, d.old b -> h'[b]? = d.hN[b]?) : WNow d by_ bp bt takes pS kS ps h' :=
  ⟨(hh _ E.y.1).trans E.y.2, hcell_of ((hh _ E.p.1).trans E.p.2) rfl, hcell_of ((hh _ E.take.1).trans E.take.2) rfl, wrds_low E.puts.1 fun hv b hb => hh b (E.puts.2 (fun e => hv (by rw [e]; rfl)) b hb)⟩
structure WCall (d : W1) (i : Nat) (γ γ' : GG (XW d)) (u' : (XW d).U) (h' : Hp) (p : Pr PE) : Prop where
  al : Along (XW d) i γ.p γ'.p
  at_ : AtP (XW d) d.c.P (wtold d) i γ' u' [] h' p
theorem wtells {a : PE} {k : Pr PE} (x : AtP (XW d) d.c.P (wtold d) i γ u [] h (.emit a k)) {mv : Value} {h' : Hp} (T : Thr (XW d) i γ (u.1 ++ [(i, a)], mv) [] h') : AtP (XW d) d.c.P (wtold d) i γ (u.1 ++ [(i, a)], mv) [] h' k := by
  refine ⟨T, ?_, ?_⟩
  · have := x.res.tell
    show Goes i _ _ (toldOf i (u.1 ++ [(i, a)])) k
    rw [toldOf_app, show [(i, a)] = [a].map (fun a => (i, a)) from rfl, toldOf_own]
    exact this
  · obtain ⟨es, he⟩ := x.ext
    refine ⟨es ++ [a], ?_⟩
    have he' : u.1 = γ.p.u.1 ++ es.map fun a => (i, a) := he
    show u.1 ++ [(i, a)] = _
    rw [he', List.map_append, List.append_assoc]; rfl
theorem wfold_no {g : List (Nat × PE)} {i : Nat} {v l : Int} : wfold (g ++ [(i, .tk v l false)]) = wfold g := wfold_snoc
theorem wone_T (E : WEn d e by_ bp bt takes pS kS ps) {n : Nat} (a : AtP (XW d) d.c.P (wtold d) i γ u [] h (takeP d.c.G (kTak d.c.G d.c.F n) d.c.F)) {t : Nat} (ht : t = γ.p.tb i) :
    CallW Try.prog false (SitT Try.prog (PX (XW d)) (i + 1)) 16 #[ptr t, ptr bp, ptr (d.D .ts), ptr (d.D .last), ptr (d.D .wrong), ptr by_, ptr (d.D .there)] h ⟨0, γ⟩ (RetP (fun w h' δ' => ∃ (γ' : GG (XW d)) (u' : (XW d).U) (b : Bool), δ' = ⟨0, γ'⟩ /\ w = .bool b /\ WCall d i γ γ' u' h' (takerP d.c.G d.c.F n)) (Halt (XW d) i γ.p)) := by
  have I0 : WMI d u.1 u.2 h := a.thr.I
  have hF := E.F
  refine wtake_ok (i := i) (L := d.c.G.L) (m4 := .int .i64 d.c.G.m) (takes := .int .i64 takes) (pS := pS) (kS := kS) (E.now I0.old).p (take_T E.K E.DK a (by omega) ht) ?_
  rintro w h1 δ1 ⟨γ1, u1, v, l, is, rfl, rfl, c⟩
  have a1 : AtP (XW d) d.c.P (wtold d) i γ1 u1 [] h1 (.emit (.tk v l is) (takerP d.c.G d.c.F n)) := c.at_
  have I1 : WMI d u1.1 u1.2 h1 := a1.thr.I
  refine ⟨v, l, is, rfl, fun e => ?_, fun e => ?_⟩
  · subst e
    exact ⟨γ1, _, false, rfl, rfl, c.al, wtells a1 (wsay E.hD a1.thr wfold_no)⟩
  · subst e
    refine ⟨wfold u1.1, u1.2, ⟨wnext E a1, I1.M, (E.now I1.old).y, fun k o => a1.thr.free (.inl (.inr (.inl ⟨k, rfl⟩))), fun b o hb => a1.thr.free (.inl (.inr (.inr ⟨(I1.new b hb).2, hb⟩))), E.DK.hL⟩, fun h2 u2 M2 => ?_⟩
    have T2 := wput E.hD a1.thr (a := .tk v l true) u2 (by rw [wfold_snoc]; exact M2) fun b hb => .inl hb
    exact ⟨γ1, _, true, rfl, rfl, c.al, wtells a1 T2⟩
set_option maxRecDepth 8000 in
set_option maxHeartbeats 4000000 in
theorem wtaker_T (E : WEn d e by_ bp bt takes pS kS ps) (a : AtP (XW d) d.c.P (wtold d) i γ u [] h (takerP d.c.G d.c.F d.c.tak)) {t : Nat} (ht : t = γ.p.tb i) :
    CallW Try.prog false (SitT Try.prog (PX (XW d)) (i + 1)) 20 #[ptr t, ptr by_, ptr bt] h ⟨0, γ⟩ (RetP (fun w h' δ' => ∃ (γ' : GG (XW d)) (u' : (XW d).U), δ' = ⟨0, γ'⟩ /\ w = .tuple #[] /\ WCall d i γ γ' u' h' .done) (Halt (XW d) i γ.p)) := by
  subst ht
  have htak := E.tak
  have hpl : (takes % 400) = (d.c.tak : Int) := by omega
  refine CallW.start (n := 15) rfl rfl ?_
  (repeat (first | refine EK.seq ?_ | refine EK.region ?_ | refine ER.done ?_ | refine EK.block ?_ | refine ER.assign rfl rfl rfl ?_))
  refine EK.loopInv (fun q : GG (XW d) × (XW d).U × Nat => [(4, .int .i64 q.2.2), (2, ptr bt), (1, ptr by_), (0, ptr (γ.p.tb i))]) (fun q h' δ' => δ' = ⟨0, q.1⟩ /\ WCall d i γ q.1 q.2.1 h' (takerP d.c.G d.c.F (d.c.tak - q.2.2)) /\ q.2.2 <= d.c.tak) (fun q => d.c.tak - q.2.2) (γ, u, 0) ⟨rfl, rfl, rfl, rfl, trivial⟩ ⟨rfl, ⟨Along.refl _ _, a⟩, Nat.zero_le _⟩ ?_
  clear a
  rintro ⟨γ1, u1, k⟩ h1 δ1 ⟨hδ, ⟨al, a1⟩, hk⟩ again
  dsimp only at hδ al a1 hk again ⊢
  subst hδ
  have I1 : WMI d u1.1 u1.2 h1 := a1.thr.I
  have N1 := E.now I1.old
  have c3 : hcell h1 ⟨by_, 3, none⟩ = some (.int .i64 takes) := hcell_of N1.y rfl
  (repeat (first | refine EK.seq ?_ | refine EK.region ?_ | refine ER.move rfl rfl rfl ?_ | refine ER.fieldAddr rfl rfl rfl ?_ | refine ER.load1 rfl rfl rfl (by assumption) ?_))
  refine ER.callD rfl rfl rfl rfl rfl (wplace_ok (by omega) (by omega)) ?_
  rw [hpl]
  by_cases hlt : k < d.c.tak
  · have a2 : AtP (XW d) d.c.P (wtold d) i γ1 u1 [] h1 (takeP d.c.G (kTak d.c.G d.c.F (d.c.tak - k - 1)) d.c.F) := by
      have e : d.c.tak - k = (d.c.tak - k - 1) + 1 := by omega
      rw [e] at a1
      exact a1
    have ct := N1.take
    clear c3
    (repeat (first | refine EK.seq ?_ | refine EK.region ?_ | refine ER.done ?_ | refine EK.skip ?_ | refine EK.block ?_ | refine ER.move rfl rfl rfl ?_ | refine ER.cmpT rfl rfl rfl rfl rfl (by first | (dsimp only [cmpP]; omega) | exact rfl | exact Int.le_refl _) ?_ | refine EK.condT rfl ?_ | refine ER.load1 rfl rfl rfl (by assumption) ?_))
    refine ER.callP rfl rfl rfl rfl rfl (wone_T E a2 al.tb.symm) (fun _ _ _ y => y.along al) ?_
    rintro _ h2 δ2 ⟨γ2, u2, b, rfl, rfl, c⟩
    clear ct
    (repeat (first | refine EK.region ?_ | refine ER.done ?_ | refine EK.inBlock ?_ | refine ER.move rfl rfl rfl ?_ | refine ER.assign rfl rfl rfl ?_ | refine ER.add (kd := .i64) rfl rfl rfl rfl (i64_in (by omega) (by omega)) ?_))
    exact EK.back (again (γ2, u2, k + 1) _ _ (by dsimp only; omega) ⟨rfl, ⟨al.trans c.al, by dsimp only; rw [show d.c.tak - (k + 1) = d.c.tak - k - 1 by omega]; exact c.at_⟩, by dsimp only; omega⟩) ⟨rfl, rfl, rfl, rfl, trivial⟩
  · obtain rfl : k = d.c.tak := by omega
    rw [Nat.sub_self] at a1
    clear again
    (repeat (first | refine ER.done ?_ | refine ER.cmpF rfl rfl rfl rfl rfl (by first | (dsimp only [cmpP]; omega) | exact rfl | exact Int.le_refl _) ?_ | refine EK.condF rfl ?_ | refine EK.exit rfl ?_))
    exact EK.done (EU.ret0 rfl ⟨γ1, u1, rfl, rfl, al, a1⟩)
end
end
section
open Go Go.TJ Go.Conc Go.Proofs
theorem slice_cutN {h : Hp} {s : Value} {e sz m : Nat} {cells new : List Value} (hn : new.length = sz) (x : SliceO h s e sz (m + 1) (cells ++ new)) : ∃ b cap, s = .slice (some ⟨b, 0, none⟩) (m + 1) cap /\ m + 1 <= cap /\ SliceO h (.slice (some ⟨b, 0, none⟩) m cap) e sz m cells := by
  obtain ⟨hl, ⟨h0, h1⟩ | ⟨b, cap, rest, rfl, h1, h2, h3⟩⟩ := x
  · omega
  · rw [List.length_append, hn, Nat.add_mul, Nat.one_mul] at hl
    refine ⟨b, cap, rfl, h1, by omega, .inr ⟨b, cap, new ++ rest, rfl, by omega, ?_, ?_⟩⟩
    · rw [List.length_append, hn, h2, show cap - m = (cap - (m + 1)) + 1 by omega, Nat.add_mul, Nat.one_mul]; omega
    · rw [h3]
      simp
theorem rem_nat {a b : Nat} : ((a : Int)).tmod (b : Int) = ((a % b : Nat) : Int) := by
  rw [Int.tmod_eq_emod_of_nonneg (by omega)]; simp
section
variable {d : W1} {e by_ bp bt : Nat} {takes : Int} {pS kS : Value} {ps : List Nat} {h : Hp} {i : Nat} {γ γ' : GG (XW d)} {u : (XW d).U}
set_option maxRecDepth 8000 in
set_option maxHeartbeats 8000000 in
theorem wputter_T (E : WEn d e by_ bp bt takes pS kS ps) (a : AtP (XW d) d.c.P (wtold d) i γ u [] h (putterP d.c.G d.c.F d.c.puts 0)) {t : Nat} (ht : t = γ.p.tb i) :
    CallW Try.prog false (SitT Try.prog (PX (XW d)) (i + 1)) 18 #[ptr t, ptr by_, ptr (d.D .ts), ptr (d.D .there), ptr bp, ptr (d.D .wrong)] h ⟨0, γ⟩ (RetP (fun w h' δ' => ∃ (γ' : GG (XW d)) (u' : (XW d).U), δ' = ⟨0, γ'⟩ /\ w = .tuple #[] /\ WCall d i γ γ' u' h' .done) (Halt (XW d) i γ.p)) := by
  subst ht
  obtain ⟨aP, kP, eP⟩ := E.puts.1.val
  rw [List.length_map] at eP
  subst eP
  have hpl : ps.length <= 400 := by have := E.ok.puts; rw [E.pe, List.length_map] at this; exact this
  have hL1 := E.DK.hL1
  have hL8 := E.DK.hL
  have hF := E.F
  refine CallW.start (n := 54) rfl rfl ?_
  (repeat (first | refine EK.seq ?_ | refine EK.region ?_ | refine ER.done ?_ | refine EK.block ?_ | refine ER.assign rfl rfl rfl ?_))
  refine EK.loopInv (fun q : GG (XW d) × (XW d).U × Nat × Nat => [(7, .int .i64 q.2.2.1), (5, ptr (d.D .wrong)), (4, ptr bp), (3, ptr (d.D .there)), (2, ptr (d.D .ts)), (1, ptr by_), (0, ptr (γ.p.tb i))]) (fun q h' δ' => δ' = ⟨0, q.1⟩ /\ WCall d i γ q.1 q.2.1 h' (putterP d.c.G d.c.F ((ps.drop q.2.2.1).map fun x => x % d.c.G.L) q.2.2.2) /\ q.2.2.1 <= ps.length) (fun q => ps.length - q.2.2.1) (γ, u, 0, 0) ⟨rfl, rfl, rfl, rfl, rfl, rfl, rfl, trivial⟩ ⟨rfl, ⟨Along.refl _ _, by rw [E.pe] at a; exact a⟩, Nat.zero_le _⟩ ?_
  clear a
  rintro ⟨γ1, u1, k, nk⟩ h1 δ1 ⟨hδ, ⟨al, a1⟩, hk⟩ again
  dsimp only at hδ al a1 hk again ⊢
  subst hδ
  have I1 : WMI d u1.1 u1.2 h1 := a1.thr.I
  have N1 := E.now I1.old
  have c2 : hcell h1 ⟨by_, 2, none⟩ = some (.slice aP ps.length kP) := hcell_of N1.y rfl
  by_cases hlt : k < ps.length
  · obtain ⟨x, hx⟩ : ∃ x, ps[k]? = some x := ⟨_, List.getElem?_eq_getElem hlt⟩
    have hx8 := E.u8 x (List.mem_of_getElem? hx)
    obtain ⟨bP, oP, kP', eP, cP⟩ := N1.puts.cell k (.int .u8 x) (by rw [List.getElem?_map, hx]; rfl)
    injection eP with e1 _ e3
    subst e1 e3
    have hd : ps.drop k = x :: ps.drop (k + 1) := by
      rw [List.drop_eq_getElem_cons hlt]
      rw [List.getElem?_eq_getElem hlt] at hx
      injection hx with hx
      rw [hx]
    rw [hd, List.map_cons] at a1
    have a1' : AtP (XW d) d.c.P (wtold d) i γ1 u1 [] h1 (.emit (.app (x % d.c.G.L) (nk + 1)) (putP d.c.G (x % d.c.G.L) ((nk + 1 : Nat) : Int) (kPut d.c.G d.c.F ((ps.drop (k + 1)).map fun x => x % d.c.G.L) nk) d.c.F)) := a1
    obtain ⟨wb, hnk⟩ : WB (wfold u1.1) /\ nk + 1 = (wfold u1.1).ts.length + 1 := wnext E a1'
    obtain rfl : nk = (wfold u1.1).ts.length := by omega
    have hlen := wb.len
    have hthr := wb.there
    have hlL : x % d.c.G.L < d.c.G.L := Nat.mod_lt _ (by omega)
    obtain ⟨lv, hlv⟩ : ∃ lv, lv = x % d.c.G.L := ⟨_, rfl⟩
    have c0 : hcell h1 ⟨by_, 0, none⟩ = some (.int .i64 d.c.G.L) := hcell_of N1.y rfl
    (repeat (first | refine EK.seq ?_ | refine EK.region ?_ | refine ER.done ?_ | refine EK.skip ?_ | refine EK.block ?_ | refine ER.move rfl rfl rfl ?_ | refine ER.fieldAddr rfl rfl rfl ?_ | refine ER.cmpT rfl rfl rfl rfl rfl (by first | (dsimp only [cmpP]; omega) | exact rfl | exact Int.le_refl _) ?_ | refine ER.len1 rfl rfl rfl ?_ | refine EK.condT rfl ?_ | refine ER.load1 rfl rfl rfl (by assumption) ?_))
    refine EK.regionAny (fun h' => h' = h1) ?_
    have hZ : h1 = h1 := rfl
    refine EA.tField 0 rfl (by kernel_rfl) rfl rfl rfl rfl hZ ?_
    refine EA.tLoad 1 rfl (by kernel_rfl) rfl rfl rfl rfl (fun _ hz => hz ▸ c2) hZ ?_
    refine EA.tMove 2 rfl (by kernel_rfl) rfl rfl rfl rfl hZ ?_
    refine EA.tIdxS 3 rfl (by kernel_rfl) rfl rfl rfl rfl rfl (by omega) (by omega) hZ ?_
    refine EA.tLoad 4 rfl (by kernel_rfl) rfl rfl rfl rfl (fun _ hz => hz ▸ cP) hZ ?_
    refine EA.tConv (r := (x : Int)) 5 rfl (by kernel_rfl) rfl rfl rfl rfl (i64_in (by omega) (by omega)) hZ ?_
    refine EA.tField 6 rfl (by kernel_rfl) rfl rfl rfl rfl hZ ?_
    refine EA.tField 7 rfl (by kernel_rfl) rfl rfl rfl rfl hZ ?_
    refine EA.tLoad 8 rfl (by kernel_rfl) rfl rfl rfl rfl (fun _ hz => hz ▸ c0) hZ ?_
    refine EA.tBinI (kd := .i64) (v := .int .i64 (lv : Int)) 9 rfl (by kernel_rfl) rfl rfl rfl rfl rfl ((Go.TJ.binOp_rem (by omega)).trans (by rw [rem_nat, hlv])) hZ ?_
    refine EA.tAssign 10 rfl (by kernel_rfl) rfl rfl rfl rfl hZ ?_
    refine EA.done (by kernel_rfl) ?_
    clear hZ
    rw [<- hlv] at a1' hlL
    obtain ⟨aS, kS', eS⟩ := I1.M.sl.val
    have cts : hcell h1 ⟨d.D .ts, 0, none⟩ = some (.slice aS (wfold u1.1).ts.length kS') := by rw [<- eS]; exact wcell I1.M.rep .ts rfl (i := 0) rfl
    have cth : hcell h1 ⟨d.D .there, 0, none⟩ = some (.int .i64 (wfold u1.1).there) := wcell I1.M.rep .there rfl (i := 0) rfl
    (repeat (first | refine EK.seq ?_ | refine EK.region ?_ | refine ER.move rfl rfl rfl ?_ | refine ER.add (kd := .i64) rfl rfl rfl rfl (i64_in (by omega) (by omega)) ?_ | refine ER.load1 rfl rfl rfl (by assumption) ?_))
    refine ER.buildS (cells := #[.int .i64 (lv : Int), .int .i64 ((wfold u1.1).there + 1), .int .i64 0, .bool false]) rfl rfl (by rfl) (by rfl) ?_
    refine ER.slice1 (sz := 4) (z := .agg #[.int .i64 0, .int .i64 0, .int .i64 0, .bool false]) (cells := #[.int .i64 (lv : Int), .int .i64 ((wfold u1.1).there + 1), .int .i64 0, .bool false]) rfl rfl rfl (by omega) (by omega) (by rfl) rfl ?_
    have u2 := Upd.push (T := fun _ => False) h1 (.cells #[.int .i64 (lv : Int), .int .i64 ((wfold u1.1).there + 1), .int .i64 0, .bool false] 66)
    have r2 := I1.M.rep.upd0 u2
    have l2 := I1.M.sl.upd u2 (fun _ _ x => x)
    rw [eS] at l2
    refine ER.append1 (new := [.int .i64 (lv : Int), .int .i64 ((wfold u1.1).there + 1), .int .i64 0, .bool false]) rfl rfl rfl rfl l2 (get_push_new _ _) rfl (by simp [OneCell]) (by omega) (by omega) (by rfl) (fun b o hb => a1.thr.free (.inl (.inr (.inr ⟨(I1.new b (by rw [eS]; exact hb)).2, by rw [eS]; exact hb⟩)))) ?_
    clear cts cth c2 c0 cP
    generalize h1.push (.cells #[.int .i64 (lv : Int), .int .i64 ((wfold u1.1).there + 1), .int .i64 0, .bool false] 66) = h2 at u2 r2 l2 ⊢
    intro s3 h3 l3 u3 hb3
    rw [<- eS] at u3 hb3
    have r3 := r2.upd u3 fun k _ hk => I1.M.nb _ hk k rfl
    have v3 : Upd (wOwn d.D u1.2) h1 h3 := (u2.mono fun b _ x => x.elim).trans (u3.mono fun b _ x => .inr x)
    have n3 : ∀ b, blk s3 = some b -> blk u1.2 = some b \/ h1.size <= b := fun b hb => (hb3 b hb).imp id fun e => by have := u2.size; omega
    have d3 : ∀ b, blk s3 = some b -> ∀ k, b ≠ d.D k := fun b hb k e => by
      rcases n3 b hb with y | y
      · exact I1.M.nb b y k e
      · have := I1.M.rep.lt (k := k) trivial
        change d.D k < _ at this
        omega
    obtain ⟨a3, k3, e3⟩ := l3.val
    have hS : ∀ k o, ¬ (SitT Try.prog (PX (XW d)) (i + 1)).still γ1 ⟨d.D k, o, none⟩ := fun k o => a1.thr.free (.inl (.inr (.inl ⟨k, rfl⟩)))
    refine ER.store1 (v := s3) rfl rfl rfl (by rw [e3]; exact ⟨nofun, nofun⟩) ⟨_, wcell r3 .ts rfl rfl⟩ (wfroz r3 .ts rfl) (hS .ts _) ?_
    have u4 := Upd.hset (T := fun b => ∃ k, b = d.D k) h3 ⟨d.D .ts, 0, none⟩ s3 ⟨_, rfl⟩
    have ef : wfold (u1.1 ++ [(i, .app lv ((wfold u1.1).ts.length + 1))]) = { wfold u1.1 with ts := (wfold u1.1).ts ++ [⟨lv, (wfold u1.1).there + 1, 0, false⟩] } := wfold_snoc
    have r4 := wwrite r3 .ts rfl 0 s3 (q' := QW.of (wfold (u1.1 ++ [(i, .app lv ((wfold u1.1).ts.length + 1))])) s3) rfl (fun j hj => by rw [ef]; cases j <;> first | rfl | exact absurd rfl hj)
    have M4 : WM d.D (wfold (u1.1 ++ [(i, .app lv ((wfold u1.1).ts.length + 1))])) s3 (hset h3 ⟨d.D .ts, 0, none⟩ s3) := ⟨r4, by
      rw [ef]
      show SliceO _ s3 _ 4 (((wfold u1.1).ts ++ [_]).length) (((wfold u1.1).ts ++ [_]).flatMap encT)
      rw [List.flatMap_append, List.length_append]
      exact l3.upd u4 fun b hb ⟨k, e⟩ => d3 b hb k e, d3⟩
    have T4 := wput E.hD a1.thr (v3.trans (u4.mono fun b _ x => .inl x)) M4 n3
    have a4 := wtells a1' T4
    have I4 : WMI d (u1.1 ++ [(i, .app lv ((wfold u1.1).ts.length + 1))]) s3 (hset h3 ⟨d.D .ts, 0, none⟩ s3) := T4.I
    have hle4 : (wfold (u1.1 ++ [(i, .app lv ((wfold u1.1).ts.length + 1))])).ts.length = (wfold u1.1).ts.length + 1 := by rw [ef]; simp
    generalize (wfold u1.1).ts.length = nk at hlen a4 I4 hle4 e3 l3 ⊢
    generalize u1.1 ++ [(i, .app lv (nk + 1))] = g4 at a4 I4 hle4 ⊢
    clear r4 M4 T4 ef v3 u4 l3 u3 hb3 r3 n3 d3 u2 r2 l2 wb hnk hthr a1 a1' I1 N1 eS hS
    generalize hset h3 ⟨d.D .ts, 0, none⟩ s3 = h4 at a4 I4 ⊢
    have N4 := E.now I4.old
    have c4 := N4.p
    have cts : hcell h4 ⟨d.D .ts, 0, none⟩ = some (.slice a3 (nk + 1) k3) := by rw [<- e3]; exact wcell I4.M.rep .ts rfl (i := 0) rfl
    (repeat (first | refine EK.seq ?_ | refine EK.region ?_ | refine ER.done ?_ | refine ER.move rfl rfl rfl ?_ | refine ER.len1 rfl rfl rfl ?_ | refine ER.load1 rfl rfl rfl (by assumption) ?_))
    refine ER.callP rfl rfl rfl rfl rfl (put_T E.K E.DK hlL a4 (by omega) al.tb.symm) (fun _ _ _ y => y.along al) ?_
    rintro _ h5 δ5 ⟨γ3, ev, rfl, rfl, nx⟩
    have al3 := al.trans nx.al
    have a6 : AtP (XW d) d.c.P (wtold d) i γ3 γ3.p.u [] h5 (.emit (.put ev) (putterP d.c.G d.c.F ((ps.drop (k + 1)).map fun x => x % d.c.G.L) (if ev = 0 then nk + 1 else nk))) := nx.at_
    clear nx a4 I4 N4 c4 cts
    obtain ⟨wb, hne, hev⟩ : WB (wfold γ3.p.u.1) /\ (wfold γ3.p.u.1).ts ≠ [] /\ (ev = 0 \/ ev = 12) := wnext E a6
    have hlen := wb.len
    have hthr := wb.there
    have I6 : WMI d γ3.p.u.1 γ3.p.u.2 h5 := a6.thr.I
    have hS : ∀ k o, ¬ (SitT Try.prog (PX (XW d)) (i + 1)).still γ3 ⟨d.D k, o, none⟩ := fun k o => a6.thr.free (.inl (.inr (.inl ⟨k, rfl⟩)))
    rcases hev with rfl | rfl
    · have cth : hcell h5 ⟨d.D .there, 0, none⟩ = some (.int .i64 (wfold γ3.p.u.1).there) := wcell I6.M.rep .there rfl (i := 0) rfl
      (repeat (first | refine EK.seq ?_ | refine EK.region ?_ | refine ER.done ?_ | refine EK.skip ?_ | refine ER.move rfl rfl rfl ?_ | refine ER.assign rfl rfl rfl ?_ | refine ER.cmpF rfl rfl rfl rfl rfl (by first | (dsimp only [cmpP]; omega) | exact rfl | exact Int.le_refl _) ?_ | refine ER.add (kd := .i64) rfl rfl rfl rfl (i64_in (by omega) (by omega)) ?_ | refine EK.condF rfl ?_ | refine ER.load1 rfl rfl rfl (by assumption) ?_))
      refine ER.store1 (v := .int .i64 ((wfold γ3.p.u.1).there + 1)) rfl rfl rfl ⟨nofun, nofun⟩ ⟨_, cth⟩ (wfroz I6.M.rep .there rfl) (hS .there _) ?_
      have ef : wfold (γ3.p.u.1 ++ [(i, .put 0)]) = { wfold γ3.p.u.1 with there := (wfold γ3.p.u.1).there + 1 } := wfold_snoc
      have u7 := Upd.hset (T := fun b => ∃ k, b = d.D k) h5 ⟨d.D .there, 0, none⟩ (.int .i64 ((wfold γ3.p.u.1).there + 1)) ⟨_, rfl⟩
      have r7 := wwrite I6.M.rep .there rfl 0 (.int .i64 ((wfold γ3.p.u.1).there + 1)) (q' := QW.of (wfold (γ3.p.u.1 ++ [(i, .put 0)])) γ3.p.u.2) (by rw [ef]; rfl) (fun j hj => by rw [ef]; cases j <;> first | rfl | exact absurd rfl hj)
      have T7 := wput E.hD a6.thr (a := .put 0) (mv' := γ3.p.u.2) (u7.mono fun b _ x => .inl x) ⟨r7, by rw [ef]; exact I6.M.sl.upd u7 fun b hb ⟨k, e⟩ => I6.M.nb b hb k e, I6.M.nb⟩ (fun b hb => .inl hb)
      have a5 := wtells a6 T7
      rw [if_pos rfl] at a5
      clear u7 r7 cth T7
      (repeat (first | refine EK.region ?_ | refine ER.done ?_ | refine EK.inBlock ?_ | refine ER.move rfl rfl rfl ?_ | refine ER.assign rfl rfl rfl ?_ | refine ER.add (kd := .i64) rfl rfl rfl rfl (i64_in (by omega) (by omega)) ?_))
      exact EK.back (again (γ3, (γ3.p.u.1 ++ [(i, .put 0)], γ3.p.u.2), k + 1, nk + 1) _ _ (by dsimp only; omega) ⟨rfl, ⟨al3, by dsimp only; exact a5⟩, by dsimp only; omega⟩) ⟨rfl, rfl, rfl, rfl, rfl, rfl, rfl, trivial⟩
    · obtain ⟨t0, y, hty⟩ : ∃ t0 y, (wfold γ3.p.u.1).ts = t0 ++ [y] := by
        rcases List.eq_nil_or_concat (wfold γ3.p.u.1).ts with e | ⟨t0, y, e⟩
        · exact absurd e hne
        · exact ⟨t0, y, by rw [e, List.concat_eq_append]⟩
      have hsl : (wfold γ3.p.u.1).ts.length = t0.length + 1 := by rw [hty]; simp
      have l6 := I6.M.sl
      rw [hsl, hty, List.flatMap_append] at l6
      obtain ⟨bC, kC, eC, hC, lC⟩ := slice_cutN (new := [y].flatMap encT) rfl l6
      have cts : hcell h5 ⟨d.D .ts, 0, none⟩ = some (.slice (some ⟨bC, 0, none⟩) (t0.length + 1) kC) := by rw [<- eC]; exact wcell I6.M.rep .ts rfl (i := 0) rfl
      have cw : hcell h5 ⟨d.D .wrong, 0, none⟩ = some (.bool false) := wcell I6.M.rep .wrong rfl (i := 0) rfl
      (repeat (first | refine EK.seq ?_ | refine EK.region ?_ | refine ER.done ?_ | refine ER.move rfl rfl rfl ?_ | refine ER.assign rfl rfl rfl ?_ | refine ER.cmpT rfl rfl rfl rfl rfl (by first | (dsimp only [cmpP]; omega) | exact rfl | exact Int.le_refl _) ?_ | refine ER.sub' (kd := .i64) rfl rfl rfl rfl (i64_in (by omega) (by omega)) ?_ | refine ER.len1 rfl rfl rfl ?_ | refine EK.condT rfl ?_ | refine ER.load1 rfl rfl rfl (by assumption) ?_))
      refine ER.sliceTo (hi := t0.length) rfl rfl rfl (by show some (Value.int .i64 (((t0.length + 1 : Nat) : Int) - 1)) = _; rw [show (((t0.length + 1 : Nat) : Int) - 1) = (t0.length : Int) by omega]) (by omega) ?_
      rw [if_neg (by omega)]
      refine ER.store1 (v := .slice (some ⟨bC, 0, none⟩) t0.length kC) rfl rfl rfl ⟨nofun, nofun⟩ ⟨_, cts⟩ (wfroz I6.M.rep .ts rfl) (hS .ts _) ?_
      have u7 := Upd.hset (T := fun b => ∃ k, b = d.D k) h5 ⟨d.D .ts, 0, none⟩ (.slice (some ⟨bC, 0, none⟩) t0.length kC) ⟨_, rfl⟩
      have r7 := wwrite I6.M.rep .ts rfl 0 (.slice (some ⟨bC, 0, none⟩) t0.length kC) (q' := { QW.of (wfold γ3.p.u.1) γ3.p.u.2 with m := .slice (some ⟨bC, 0, none⟩) t0.length kC }) rfl (fun j hj => by cases j <;> first | rfl | exact absurd rfl hj)
      have nbC : ∀ b, blk (.slice (some ⟨bC, 0, none⟩) t0.length kC) = some b -> blk γ3.p.u.2 = some b := fun b hb => by rw [eC]; exact hb
      have l7 := lC.upd u7 fun b hb ⟨k, e⟩ => I6.M.nb b (nbC b hb) k e
      clear cts cw l6 lC
      generalize hset h5 ⟨d.D .ts, 0, none⟩ (.slice (some ⟨bC, 0, none⟩) t0.length kC) = h7 at u7 r7 l7 ⊢
      have cw : hcell h7 ⟨d.D .wrong, 0, none⟩ = some (.bool false) := wcell r7 .wrong rfl (i := 0) rfl
      (repeat (first | refine EK.seq ?_ | refine EK.region ?_ | refine ER.done ?_ | refine ER.move rfl rfl rfl ?_ | refine ER.pickF rfl rfl rfl rfl ?_ | refine ER.cmpF rfl rfl rfl rfl rfl (by first | (dsimp only [cmpP]; omega) | exact rfl | exact Int.le_refl _) ?_ | refine ER.load1 rfl rfl rfl (by assumption) ?_))
      refine ER.store1 (v := .bool false) rfl rfl rfl ⟨nofun, nofun⟩ ⟨_, cw⟩ (wfroz r7 .wrong rfl) (hS .wrong _) ?_
      have ef : wfold (γ3.p.u.1 ++ [(i, .put 12)]) = { wfold γ3.p.u.1 with ts := t0 } := by
        refine wfold_snoc.trans ?_
        have e : wstep (wfold γ3.p.u.1) (i, .put 12) = { wfold γ3.p.u.1 with ts := (wfold γ3.p.u.1).ts.dropLast } := by simp [wstep]
        rw [e, hty, List.dropLast_concat]
      have u8 := u7.trans (Upd.hset (T := fun b => ∃ k, b = d.D k) h7 ⟨d.D .wrong, 0, none⟩ (.bool false) ⟨_, rfl⟩)
      have r8 := wwrite r7 .wrong rfl 0 (.bool false) (q' := QW.of (wfold (γ3.p.u.1 ++ [(i, .put 12)])) (.slice (some ⟨bC, 0, none⟩) t0.length kC)) rfl (fun j hj => by rw [ef]; cases j <;> first | rfl | exact absurd rfl hj)
      have l8 := l7.upd (Upd.hset (T := fun b => ∃ k, b = d.D k) h7 ⟨d.D .wrong, 0, none⟩ (.bool false) ⟨_, rfl⟩) fun b hb ⟨k, e⟩ => I6.M.nb b (nbC b hb) k e
      have T7 := wput E.hD a6.thr (a := .put 12) (mv' := .slice (some ⟨bC, 0, none⟩) t0.length kC) (u8.mono fun b _ x => .inl x) ⟨r8, by rw [ef]; exact l8, fun b hb => I6.M.nb b (nbC b hb)⟩ (fun b hb => .inl (nbC b hb))
      have a5 := wtells a6 T7
      rw [if_neg (by decide)] at a5
      clear u8 r8 l8 u7 r7 l7 cw T7
      (repeat (first | refine EK.region ?_ | refine ER.done ?_ | refine ER.move rfl rfl rfl ?_ | refine ER.assign rfl rfl rfl ?_ | refine ER.add (kd := .i64) rfl rfl rfl rfl (i64_in (by omega) (by omega)) ?_ | refine EK.exit rfl ?_))
      exact EK.back (again (γ3, (γ3.p.u.1 ++ [(i, .put 12)], .slice (some ⟨bC, 0, none⟩) t0.length kC), k + 1, nk) _ _ (by dsimp only; omega) ⟨rfl, ⟨al3, by dsimp only; exact a5⟩, by dsimp only; omega⟩) ⟨rfl, rfl, rfl, rfl, rfl, rfl, rfl, trivial⟩
  · obtain rfl : k = ps.length := by omega
    rw [List.drop_length] at a1
    clear again
    (repeat (first | refine EK.seq ?_ | refine EK.region ?_ | refine ER.done ?_ | refine ER.move rfl rfl rfl ?_ | refine ER.fieldAddr rfl rfl rfl ?_ | refine ER.cmpF rfl rfl rfl rfl rfl (by first | (dsimp only [cmpP]; omega) | exact rfl | exact Int.le_refl _) ?_ | refine ER.len1 rfl rfl rfl ?_ | refine EK.condF rfl ?_ | refine EK.exit rfl ?_ | refine ER.load1 rfl rfl rfl (by assumption) ?_))
    exact EK.done (EU.ret0 rfl ⟨γ1, u1, rfl, rfl, al, a1⟩)
end
end
section
open Go Go.TJ Go.Proofs
def Ext (M M' : Mem Key) (p : Key -> Prop) : Prop := ∀ k, ¬ p k -> (M'.ok k ↔ M.ok k) /\ M'.B k = M.B k /\ M'.O k = M.O k
theorem Ext.put (M : Mem Key) (k : Key) (b : Nat) (o : Obj) : Ext M (M.put k b o) (fun j => j = k) := fun _ hj => ⟨⟨fun x => x.resolve_left hj, .inr⟩, ut_ne _ _ hj, ut_ne _ _ hj⟩
theorem Ext.set (M : Mem Key) (k : Key) (o : Obj) : Ext M (M.set k o) (fun j => j = k) := fun _ hj => ⟨Iff.rfl, rfl, ut_ne _ _ hj⟩
theorem Ext.trans {M M' M'' : Mem Key} {p q : Key -> Prop} (x : Ext M M' p) (y : Ext M' M'' q) : Ext M M'' (fun k => p k \/ q k) := fun k hk => by
  obtain ⟨a, b, c⟩ := x k (fun z => hk (.inl z))
  obtain ⟨a', b', c'⟩ := y k (fun z => hk (.inr z))
  exact ⟨a'.trans a, b'.trans b, c'.trans c⟩
theorem Ext.mono {M M' : Mem Key} {p q : Key -> Prop} (x : Ext M M' p) (h : ∀ k, p k -> q k) : Ext M M' q := fun k hk => x k (fun z => hk (h k z))
theorem Ext.refl (M : Mem Key) (p : Key -> Prop) : Ext M M p := fun _ _ => ⟨Iff.rfl, rfl, rfl⟩
structure LevP (M : Mem Key) (q j : Nat) (s : Value) : Prop where
  lev : M.ok (kLev q) /\ M.O (kLev q) = .cells #[ptr (M.B (kIn q)), ptr (M.B (kOut q)), s] 137 (0, 0)
  inn : M.ok (kIn q) /\ M.O (kIn q) = cellO 0
  out : M.ok (kOut q) /\ M.O (kOut q) = cellO 0
  sl : M.Sl (kPls q) s 139 3 j ((List.range j).flatMap fun j => [ptr (M.B (kTurn q j)), ptr (M.B (kTick q j)), ptr (M.B (kSlot q j))])
  val : ∀ j', j' < j -> (M.ok (kTurn q j') /\ M.O (kTurn q j') = cellO j') /\ (M.ok (kTick q j') /\ M.O (kTick q j') = cellO 0) /\ (M.ok (kSlot q j') /\ M.O (kSlot q j') = cellO 0)
def LevUse (q j : Nat) (k : Key) : Prop := k.2.1 = q + 1 /\ (k.1 < 7 \/ k.2.2 < j)
theorem LevP.congr {M M' : Mem Key} {p : Key -> Prop} {q j : Nat} {s : Value} (x : LevP M q j s) (e : Ext M M' p) (hp : ∀ k, LevUse q j k -> ¬ p k) : LevP M' q j s := by
  have h := fun (k : Key) (hk : LevUse q j k) => e k (hp k hk)
  have tr : ∀ (k : Key) (o : Obj), LevUse q j k -> M.ok k /\ M.O k = o -> M'.ok k /\ M'.O k = o := fun k o hk y => ⟨(h k hk).1.mpr y.1, (h k hk).2.2.trans y.2⟩
  have u1 : LevUse q j (kLev q) := ⟨rfl, .inl (by show 2 < 7; omega)⟩
  have u2 : LevUse q j (kIn q) := ⟨rfl, .inl (by show 5 < 7; omega)⟩
  have u3 : LevUse q j (kOut q) := ⟨rfl, .inl (by show 6 < 7; omega)⟩
  have u4 : LevUse q j (kPls q) := ⟨rfl, .inl (by show 3 < 7; omega)⟩
  have u5 : ∀ t j', j' < j -> LevUse q j (t, q + 1, j') := fun t j' hj => ⟨rfl, .inr hj⟩
  refine ⟨?_, tr _ _ u2 x.inn, tr _ _ u3 x.out, ?_, fun j' hj' => ⟨tr _ _ (u5 _ _ hj') (x.val j' hj').1, tr _ _ (u5 _ _ hj') (x.val j' hj').2.1, tr _ _ (u5 _ _ hj') (x.val j' hj').2.2⟩⟩
  · have := tr _ _ u1 x.lev
    rw [(h (kIn q) u2).2.1, (h (kOut q) u3).2.1]
    exact this
  · have e1 : (List.range j).flatMap (fun j => [ptr (M'.B (kTurn q j)), ptr (M'.B (kTick q j)), ptr (M'.B (kSlot q j))]) = (List.range j).flatMap (fun j => [ptr (M.B (kTurn q j)), ptr (M.B (kTick q j)), ptr (M.B (kSlot q j))]) := by
      rw [List.flatMap_def, List.flatMap_def]
      congr 1
      refine List.map_congr_left fun j' hj' => ?_
      have hj := List.mem_range.mp hj'
      rw [(h (kTurn q j') (u5 _ _ hj)).2.1, (h (kTick q j') (u5 _ _ hj)).2.1, (h (kSlot q j') (u5 _ _ hj)).2.1]
    rw [e1]
    exact x.sl.congr (h (kPls q) u4).1 (h (kPls q) u4).2.1 (h (kPls q) u4).2.2
theorem LevP.round {M M4 : Mem Key} {q j bt bk bs b : Nat} {o : Obj} {s s' : Value} (x : LevP M q j s) (e4 : M4 = (((M.put (kTurn q j) bt (cellO j)).put (kTick q j) bk (cellO 0)).put (kSlot q j) bs (cellO 0)).put (kPls q) b o)
    (hs : M4.Sl (kPls q) s' 139 3 (j + 1) (((List.range j).flatMap fun j => [ptr (M.B (kTurn q j)), ptr (M.B (kTick q j)), ptr (M.B (kSlot q j))]) ++ [ptr bt, ptr bk, ptr bs])) :
    LevP (M4.set (kLev q) (.cells #[ptr (M.B (kIn q)), ptr (M.B (kOut q)), s'] 137 (0, 0))) q (j + 1) s' := by
  have e : Ext M (M4.set (kLev q) (.cells #[ptr (M.B (kIn q)), ptr (M.B (kOut q)), s'] 137 (0, 0))) (fun k => ((((k = kTurn q j \/ k = kTick q j) \/ k = kSlot q j) \/ k = kPls q) \/ k = kLev q)) := by
    subst e4
    exact ((((Ext.put _ _ _ _).trans (Ext.put _ _ _ _)).trans (Ext.put _ _ _ _)).trans (Ext.put _ _ _ _)).trans (Ext.set _ _ _)
  have hval : ∀ t j', j' < j -> (7 <= t) -> ¬ ((((((t, q + 1, j') : Key) = kTurn q j \/ ((t, q + 1, j') : Key) = kTick q j) \/ ((t, q + 1, j') : Key) = kSlot q j) \/ ((t, q + 1, j') : Key) = kPls q) \/ ((t, q + 1, j') : Key) = kLev q) := by
    intro t j' hj ht hx
    simp only [Prod.mk.injEq] at hx
    omega
  have tr : ∀ (t j' : Nat) (ob : Obj), j' < j -> 7 <= t -> M.ok (t, q + 1, j') /\ M.O (t, q + 1, j') = ob -> _ := fun t j' ob hj ht y => (⟨(e _ (hval t j' hj ht)).1.mpr y.1, (e _ (hval t j' hj ht)).2.2.trans y.2⟩ : (M4.set (kLev q) (.cells #[ptr (M.B (kIn q)), ptr (M.B (kOut q)), s'] 137 (0, 0))).ok (t, q + 1, j') /\ (M4.set (kLev q) (.cells #[ptr (M.B (kIn q)), ptr (M.B (kOut q)), s'] 137 (0, 0))).O (t, q + 1, j') = ob)
  have ein := e (kIn q) (by simp)
  have eout := e (kOut q) (by simp)
  refine ⟨⟨?_, ?_⟩, ⟨ein.1.mpr x.inn.1, ein.2.2.trans x.inn.2⟩, ⟨eout.1.mpr x.out.1, eout.2.2.trans x.out.2⟩, ?_, fun j' hj' => ?_⟩
  · subst e4
    exact .inr (.inr (.inr (.inr x.lev.1)))
  · rw [ein.2.1, eout.2.1]
    exact ut_same _ _ _
  · have e1 : (List.range (j + 1)).flatMap (fun j' => [ptr ((M4.set (kLev q) (.cells #[ptr (M.B (kIn q)), ptr (M.B (kOut q)), s'] 137 (0, 0))).B (kTurn q j')), ptr ((M4.set (kLev q) (.cells #[ptr (M.B (kIn q)), ptr (M.B (kOut q)), s'] 137 (0, 0))).B (kTick q j')), ptr ((M4.set (kLev q) (.cells #[ptr (M.B (kIn q)), ptr (M.B (kOut q)), s'] 137 (0, 0))).B (kSlot q j'))])
        = ((List.range j).flatMap fun j => [ptr (M.B (kTurn q j)), ptr (M.B (kTick q j)), ptr (M.B (kSlot q j))]) ++ [ptr bt, ptr bk, ptr bs] := by
      rw [List.range_succ, List.flatMap_append]
      congr 1
      · rw [List.flatMap_def, List.flatMap_def]
        congr 1
        refine List.map_congr_left fun j' hj' => ?_
        have hj := List.mem_range.mp hj'
        rw [(e _ (hval 7 j' hj (by omega))).2.1, (e _ (hval 8 j' hj (by omega))).2.1, (e _ (hval 9 j' hj (by omega))).2.1]
      · subst e4
        simp [Mem.set, Mem.put, ut]
    rw [e1]
    exact hs.set (by simp) _
  · by_cases hj : j' < j
    · exact ⟨tr 7 j' _ hj (by omega) (x.val j' hj).1, tr 8 j' _ hj (by omega) (x.val j' hj).2.1, tr 9 j' _ hj (by omega) (x.val j' hj).2.2⟩
    · obtain rfl : j' = j := by omega
      subst e4
      refine ⟨⟨.inr (.inr (.inr (.inl rfl))), ?_⟩, ⟨.inr (.inr (.inl rfl)), ?_⟩, ⟨.inr (.inl rfl), ?_⟩⟩ <;> simp [Mem.set, Mem.put, ut]
structure NewI (h0 h : Hp) (M : Mem Key) (T m i i' : Nat) (sL : Value) : Prop where
  rep : Rep h M
  upd : Upd (fun _ => False) h0 h
  above : ∀ k, M.ok k -> h0.size <= M.B k
  top : M.ok kTop /\ M.O kTop = .cells #[ptr (M.B kTk), sL] 133 (0, 0)
  topB : M.B kTop = T
  tk : M.ok kTk /\ M.O kTk = cellO 0
  sl : M.Sl kLvs sL 134 1 i ((List.range i).map fun q => ptr (M.B (kLev q)))
  levs : ∀ q, q < i -> ∃ s, LevP M q m s
  rest : ∀ q, i' <= q -> ¬ M.ok (kPls q)
theorem NewI.ext {h0 h h' : Hp} {M M' : Mem Key} {T m i i' : Nat} {sL : Value} {p : Key -> Prop} (x : NewI h0 h M T m i i' sL) (e : Ext M M' p) (hp : ∀ k, p k -> k.2.1 = i + 1) (r : Rep h' M') (u : Upd (fun _ => False) h0 h') (ha : ∀ k, p k -> M'.ok k -> h0.size <= M'.B k) (hr : i < i') : NewI h0 h' M' T m i i' sL := by
  have key : ∀ k : Key, k.2.1 ≠ i + 1 -> ¬ p k := fun k hk y => hk (hp k y)
  have tr : ∀ (k : Key) (o : Obj), k.2.1 ≠ i + 1 -> M.ok k /\ M.O k = o -> M'.ok k /\ M'.O k = o := fun k o hk y => ⟨(e k (key k hk)).1.mpr y.1, (e k (key k hk)).2.2.trans y.2⟩
  have n0 : ∀ t j, ((t, 0, j) : Key).2.1 ≠ i + 1 := fun t j => by simp
  have nl := e kLvs (key _ (n0 _ _))
  refine ⟨r, u, fun k hk => ?_, ?_, (e kTop (key _ (n0 _ _))).2.1.trans x.topB, tr _ _ (n0 _ _) x.tk, ?_, fun q hq => ?_, fun q hq => ?_⟩
  · by_cases hpk : p k
    · exact ha k hpk hk
    · rw [(e k hpk).2.1]; exact x.above k ((e k hpk).1.mp hk)
  · rw [(e kTk (key _ (n0 _ _))).2.1]; exact tr _ _ (n0 _ _) x.top
  · have e1 : (List.range i).map (fun q => ptr (M'.B (kLev q))) = (List.range i).map (fun q => ptr (M.B (kLev q))) := by
      refine List.map_congr_left fun q hq => ?_
      have := List.mem_range.mp hq
      rw [(e (kLev q) (key _ (by show q + 1 ≠ i + 1; omega))).2.1]
    rw [e1]
    exact x.sl.congr nl.1 nl.2.1 nl.2.2
  · obtain ⟨s, hs⟩ := x.levs q hq
    exact ⟨s, hs.congr e (fun k hk y => by have h1 := hk.1; have h2 := hp k y; omega)⟩
  · intro y
    exact x.rest q hq ((e (kPls q) (key _ (by show q + 1 ≠ i + 1; omega))).1.mp y)
structure NS where
  i : Nat
  M : Mem Key
  sL : Value
structure NS2 where
  j : Nat
  M : Mem Key
  s : Value
def v0 : Key -> Int
  | (7, _, j) => j
  | _ => 0
theorem okP_cases {L m : Nat} {k : Key} (h : okP L m k) : k = kTop \/ k = kLvs \/ k = kTk \/ (∃ q, q < L /\ (k = kLev q \/ k = kPls q \/ k = kIn q \/ k = kOut q)) \/ (∃ q j, q < L /\ j < m /\ (k = kTurn q j \/ k = kTick q j \/ k = kSlot q j)) := by
  unfold okP at h
  split at h
  · exact .inl rfl
  · exact .inr (.inl rfl)
  · exact .inr (.inr (.inr (.inl ⟨_, h, .inl rfl⟩)))
  · exact .inr (.inr (.inr (.inl ⟨_, h, .inr (.inl rfl)⟩)))
  · exact .inr (.inr (.inl rfl))
  · exact .inr (.inr (.inr (.inl ⟨_, h, .inr (.inr (.inl rfl))⟩)))
  · exact .inr (.inr (.inr (.inl ⟨_, h, .inr (.inr (.inr rfl))⟩)))
  · exact .inr (.inr (.inr (.inr ⟨_, _, h.1, h.2, .inl rfl⟩)))
  · exact .inr (.inr (.inr (.inr ⟨_, _, h.1, h.2, .inr (.inl rfl)⟩)))
  · exact .inr (.inr (.inr (.inr ⟨_, _, h.1, h.2, .inr (.inr rfl)⟩)))
  · exact h.elim
section
variable {Γ : Type} {main : Bool} {S : Sit Γ} {h : Hp} {δ : Ix Γ}
set_option maxRecDepth 8000 in
set_option maxHeartbeats 4000000 in
theorem new_ok {L m e : Nat} (hL1 : 1 <= L) (hL : L <= 8) (hm : m = 2 ^ e) (he1 : 1 <= e) (he : e <= 12) (hF : ∀ b o, h.size <= b -> ¬ S.still δ.g ⟨b, o, none⟩) :
    CallW Try.prog main S 15 #[.int .i64 L, .int .i64 m] h δ
      (Ret fun w h' δ' => δ' = δ /\ Upd (fun _ => False) h h' /\ ∃ G : PG, w = .tuple #[ptr (G.B kTop), .int .i64 0] /\ G.L = L /\ G.m = m /\ Pri h' G v0 /\ ∀ k, okP L m k -> h.size <= G.B k) := by
  have hm2 : 2 <= m := by have := Nat.pow_le_pow_right (n := 2) (by decide) he1; omega
  have hm1 : m <= 4096 := by have := Nat.pow_le_pow_right (n := 2) (by decide) he; omega
  have hbits : bits .and .i64 (m : Int) ((m : Int) - 1) = 0 := by
    rw [mask hm (by omega) (by omega), Nat.mod_self]; rfl
  refine CallW.start (n := 71) rfl rfl ?_
  (repeat (first | refine EK.seq ?_ | refine EK.region ?_ | refine ER.done ?_ | refine ER.move rfl rfl rfl ?_ | refine ER.assign rfl rfl rfl ?_ | refine ER.pickF rfl rfl rfl rfl ?_ | refine ER.cmpF rfl rfl rfl rfl rfl (by first | (dsimp only [cmpP]; omega) | exact rfl | exact Int.le_refl _) ?_ | refine ER.sub' (kd := .i64) rfl rfl rfl rfl (i64_in (by omega) (by omega)) ?_))
  refine ER.andI rfl rfl rfl rfl hbits ?_
  (repeat (first | refine EK.seq ?_ | refine EK.region ?_ | refine ER.done ?_ | refine EK.skip ?_ | refine ER.pickF rfl rfl rfl rfl ?_ | refine ER.cmpF rfl rfl rfl rfl rfl (by first | (dsimp only [cmpP]; omega) | exact rfl | exact Int.le_refl _) ?_ | refine EK.condF rfl ?_))
  refine ER.callD rfl rfl rfl rfl rfl (cnewS (hF _ _ (Nat.le_refl _))) ?_
  refine ER.buildS (cells := #[ptr h.size, .slice none 0 0]) rfl rfl rfl rfl ?_
  (repeat (first | refine EK.seq ?_ | refine EK.region ?_ | refine ER.done ?_ | refine EK.block ?_ | refine ER.move rfl rfl rfl ?_ | refine ER.assign rfl rfl rfl ?_ | refine ER.boxA rfl rfl rfl ?_))
  have x0 : NewI h ((h.push (cellO 0)).push (.cells #[ptr h.size, .slice none 0 0] 133)) ((Mem.emp.put kTk h.size (cellO 0)).put kTop (h.push (cellO 0)).size (.cells #[ptr h.size, .slice none 0 0] 133 (0, 0))) (h.push (cellO 0)).size m 0 0 (.slice none 0 0) := by
    refine ⟨(Rep.emp.put _ _).put _ _, (Upd.push _ _).trans (Upd.push _ _), fun k hk => ?_, ⟨.inl rfl, ?_⟩, by simp [Mem.put, ut], ⟨.inr (.inl rfl), ?_⟩, Mem.Sl.nil ?_, fun q hq => by omega, fun q _ hk => ?_⟩
    · rcases hk with rfl | rfl | hk
      · simp [Mem.put, ut]
      · simp [Mem.put, ut]
      · exact hk.elim
    · simp [Mem.put, ut]
    · simp [Mem.put, ut]
    · simp [Mem.put, Mem.emp]
    · simp [Mem.put, Mem.emp] at hk
  generalize hT : (h.push (cellO 0)).size = T at x0 ⊢
  change EK _ _ _ _ _ _ _ _ ((h.push (cellO 0)).push (.cells #[ptr h.size, .slice none 0 0] 133)) _ _
  generalize (h.push (cellO 0)).push (.cells #[ptr h.size, .slice none 0 0] 133) = h1 at x0 ⊢
  generalize ((Mem.emp.put kTk h.size (cellO 0)).put kTop T (.cells #[ptr h.size, .slice none 0 0] 133 (0, 0)) : Mem Key) = M1 at x0
  skip
  refine EK.loopInv (fun s : NS => [(34, .int .i64 s.i), (33, .int .i64 L), (0, .int .i64 L), (1, .int .i64 m), (6, ptr T)]) (fun s h' δ' => δ' = δ /\ s.i <= L /\ NewI h h' s.M T m s.i s.i s.sL) (fun s => L - s.i) ⟨0, M1, .slice none 0 0⟩ ⟨rfl, rfl, rfl, rfl, rfl, trivial⟩ ⟨rfl, Nat.zero_le _, x0⟩ ?_
  clear x0 M1 h1
  rintro ⟨i, M, sL⟩ h1 δ1 ⟨hδ, hi, x⟩ again
  dsimp only at hi x again ⊢
  obtain rfl : δ = δ1 := hδ.symm
  have hsz := x.upd.size
  by_cases hlt : i < L
  · (repeat (first | refine EK.seq ?_ | refine EK.region ?_ | refine ER.done ?_ | refine EK.skip ?_ | refine EK.block ?_ | refine ER.cmpT rfl rfl rfl rfl rfl (by first | (dsimp only [cmpP]; omega) | exact rfl | exact Int.le_refl _) ?_ | refine EK.condT rfl ?_))
    refine ER.callD rfl rfl rfl rfl rfl (cnewS (hF _ _ hsz)) ?_
    refine ER.callD rfl rfl rfl rfl rfl (cnewS (hF _ _ (by simp; omega))) ?_
    refine ER.buildS (cells := #[ptr h1.size, ptr (h1.push (cellO 0)).size, .slice none 0 0]) rfl rfl rfl rfl ?_
    (repeat (first | refine EK.seq ?_ | refine EK.region ?_ | refine ER.done ?_ | refine EK.block ?_ | refine ER.move rfl rfl rfl ?_ | refine ER.assign rfl rfl rfl ?_ | refine ER.boxA rfl rfl rfl ?_))
    obtain ⟨M1, hM1⟩ : ∃ M1, M1 = ((M.put (kIn i) h1.size (cellO 0)).put (kOut i) (h1.push (cellO 0)).size (cellO 0)).put (kLev i) ((h1.push (cellO 0)).push (cellO 0)).size (.cells #[ptr h1.size, ptr (h1.push (cellO 0)).size, .slice none 0 0] 137 (0, 0)) := ⟨_, rfl⟩
    have r1 : Rep _ M1 := hM1 ▸ ((x.rep.put (kIn i) (cellO 0)).put (kOut i) (cellO 0)).put (kLev i) (.cells #[ptr h1.size, ptr (h1.push (cellO 0)).size, .slice none 0 0] 137 (0, 0))
    have e1 : Ext M M1 (fun k => (k = kIn i \/ k = kOut i) \/ k = kLev i) := hM1 ▸ ((Ext.put _ _ _ _).trans (Ext.put _ _ _ _)).trans (Ext.put _ _ _ _)
    have x1 := NewI.ext (⟨x.rep, x.upd, x.above, x.top, x.topB, x.tk, x.sl, x.levs, fun q hq => x.rest q (by omega)⟩ : NewI h h1 M T m i (i + 1) sL) e1 (fun k hk => by rcases hk with (rfl | rfl) | rfl <;> rfl) r1 (((x.upd.trans (Upd.push _ _)).trans (Upd.push _ _)).trans (Upd.push _ _)) (fun k hk _ => by
      subst hM1
      rcases hk with (rfl | rfl) | rfl <;> simp [Mem.put, ut] <;> omega) (by omega)
    have lp1 : LevP M1 i 0 (.slice none 0 0) := by
      subst hM1
      refine ⟨⟨.inl rfl, by simp [Mem.put, ut]⟩, ⟨.inr (.inr (.inl rfl)), by simp [Mem.put, ut]⟩, ⟨.inr (.inl rfl), by simp [Mem.put, ut]⟩, Mem.Sl.nil ?_, fun j hj => by omega⟩
      simp [Mem.put]
      exact x.rest i (Nat.le_refl _)
    obtain ⟨Lb, hLb⟩ : ∃ Lb, Lb = ((h1.push (cellO 0)).push (cellO 0)).size := ⟨_, rfl⟩
    have bL : M1.B (kLev i) = Lb := by subst hM1; rw [hLb]; simp [Mem.put, ut]
    rw [<- hLb]
    change EK _ _ _ _ _ _ _ _ (((h1.push (cellO 0)).push (cellO 0)).push (.cells #[ptr h1.size, ptr (h1.push (cellO 0)).size, .slice none 0 0] 137)) _ _
    generalize ((h1.push (cellO 0)).push (cellO 0)).push (.cells #[ptr h1.size, ptr (h1.push (cellO 0)).size, .slice none 0 0] 137) = h2 at x1 r1 ⊢
    clear r1 e1 hM1
    refine EK.loopInv (fun t : NS2 => [(41, .int .i64 t.j), (40, .int .i64 m), (7, ptr Lb), (34, .int .i64 i), (33, .int .i64 L), (0, .int .i64 L), (1, .int .i64 m), (6, ptr T)]) (fun t h' δ' => δ' = δ /\ t.j <= m /\ NewI h h' t.M T m i (i + 1) sL /\ LevP t.M i t.j t.s /\ t.M.B (kLev i) = Lb) (fun t => m - t.j) ⟨0, M1, .slice none 0 0⟩ ⟨rfl, rfl, rfl, rfl, rfl, rfl, rfl, rfl, trivial⟩ ⟨rfl, Nat.zero_le _, x1, lp1, bL⟩ ?_
    clear x1 lp1 bL hLb x hsz M1 h2
    rintro ⟨j, M, s⟩ h2 δ2 ⟨hδ2, hj, x, lp, bL⟩ again2
    dsimp only at hj x lp bL again2 ⊢
    obtain rfl : δ = δ2 := hδ2.symm
    have hsz := x.upd.size
    by_cases hjm : j < m
    · (repeat (first | refine EK.seq ?_ | refine EK.region ?_ | refine ER.done ?_ | refine EK.skip ?_ | refine EK.block ?_ | refine ER.move rfl rfl rfl ?_ | refine ER.assign rfl rfl rfl ?_ | refine ER.cmpT rfl rfl rfl rfl rfl (by first | (dsimp only [cmpP]; omega) | exact rfl | exact Int.le_refl _) ?_ | refine EK.condT rfl ?_))
      have cS : hcell h2 ⟨Lb, 2, none⟩ = some s := bL ▸ x.rep.cell lp.lev.1 lp.lev.2 rfl
      refine EK.regionAnyL (fun h' => hcell h' ⟨Lb, 2, none⟩ = some s) 14 ?_
      have hZ := cS
      refine EA.tMove 0 rfl (by kernel_rfl) rfl rfl rfl rfl hZ ?_
      refine EA.tMove 1 rfl (by kernel_rfl) rfl rfl rfl rfl hZ ?_
      refine EA.tNil 2 rfl (by kernel_rfl) rfl rfl rfl rfl hZ ?_
      refine EA.tField 3 rfl (by kernel_rfl) rfl rfl rfl rfl hZ ?_
      refine EA.tLoad 4 rfl (by kernel_rfl) rfl rfl rfl rfl (fun _ hz => hz) hZ ?_
      refine EA.tMove 5 rfl (by kernel_rfl) rfl rfl rfl rfl hZ ?_
      refine EA.callD 6 rfl (by kernel_rfl) rfl rfl rfl rfl rfl rfl (cnewS (hF _ _ hsz)) (hcell_push hZ) ?_
      refine EA.callD 7 rfl (by kernel_rfl) rfl rfl rfl rfl rfl rfl (cnewS (hF _ _ (by simp; omega))) (hcell_push (hcell_push hZ)) ?_
      refine EA.callD 8 rfl (by kernel_rfl) rfl rfl rfl rfl rfl rfl (cnewS (hF _ _ (by simp; omega))) (hcell_push (hcell_push (hcell_push hZ))) ?_
      have hZ := hcell_push (o := cellO 0) (hcell_push (o := cellO 0) (hcell_push (o := cellO j) hZ))
      obtain ⟨bt, hbt⟩ : ∃ bt, bt = h2.size := ⟨_, rfl⟩
      obtain ⟨bk, hbk⟩ : ∃ bk, bk = (h2.push (cellO j)).size := ⟨_, rfl⟩
      obtain ⟨bs, hbs⟩ : ∃ bs, bs = ((h2.push (cellO j)).push (cellO 0)).size := ⟨_, rfl⟩
      rw [<- hbt, <- hbk, <- hbs]
      have r3 := ((x.rep.put (kTurn i j) (cellO j)).put (kTick i j) (cellO 0)).put (kSlot i j) (cellO 0)
      rw [<- hbt, <- hbk, <- hbs] at r3
      have sl3 := ((lp.sl.put (j := kTurn i j) (by simp) bt (cellO j)).put (j := kTick i j) (by simp) bk (cellO 0)).put (j := kSlot i j) (by simp) bs (cellO 0)
      have u3 : Upd (fun _ => False) h (((h2.push (cellO j)).push (cellO 0)).push (cellO 0)) := ((x.upd.trans (Upd.push _ _)).trans (Upd.push _ _)).trans (Upd.push _ _)
      have hbge : h.size <= bt /\ h.size <= bk /\ h.size <= bs := by subst hbt hbk hbs; simp; omega
      change EA _ _ _ _ _ _ _ _ _ _ _ _ _ (((h2.push (cellO j)).push (cellO 0)).push (cellO 0)) _ _
      change hcell (((h2.push (cellO j)).push (cellO 0)).push (cellO 0)) _ = _ at hZ
      generalize ((h2.push (cellO j)).push (cellO 0)).push (cellO 0) = h3 at r3 u3 hZ ⊢
      have hsz3 := u3.size
      refine EA.val 9 rfl (by kernel_rfl) rfl rfl rfl (fun ρ Q X hρ hq => sem_buildS (cells := #[ptr bt, ptr bk, ptr bs]) hρ rfl rfl hq) hZ ?_
      refine EA.val (v := .slice (some ⟨h3.size, 0, none⟩) 1 1) (h' := h3.push (.cells #[ptr bt, ptr bk, ptr bs] 139)) 10 rfl (by kernel_rfl) rfl rfl rfl (fun ρ Q X hρ hq => sem_slice1 (sz := 3) hρ rfl (by omega) (by omega) rfl rfl hq) (hcell_push hZ) ?_
      have hZ := hcell_push (o := .cells #[ptr bt, ptr bk, ptr bs] 139) hZ
      have r4 := r3.upd0 (Upd.push h3 (.cells #[ptr bt, ptr bk, ptr bs] 139))
      have u4 := u3.trans (Upd.push (T := fun _ => False) h3 (.cells #[ptr bt, ptr bk, ptr bs] 139))
      have n4 := get_push_new h3 (.cells #[ptr bt, ptr bk, ptr bs] 139)
      generalize h3.push (.cells #[ptr bt, ptr bk, ptr bs] 139) = h4 at r4 u4 n4 hZ ⊢
      clear r3 u3
      have hsz4 := u4.size
      refine EA.append1 (new := [ptr bt, ptr bk, ptr bs]) 11 rfl (by kernel_rfl) rfl rfl rfl rfl rfl (sl3.slice r4) n4 rfl (by simp [OneCell]) (by omega) (by omega) rfl (fun b o hb => hF _ _ (by
        obtain ⟨hk, e⟩ := lp.sl.blk hb
        rw [e]; exact x.above _ hk)) ?_
      intro s' h5 hs5 u5 hb5
      have hblk : ∀ b, blk s = some b -> b ≠ Lb := fun b hb e => by
        obtain ⟨hk, e'⟩ := lp.sl.blk hb
        have := x.rep.inj (kPls i) (kLev i) hk lp.lev.1 (by rw [bL, <- e', e])
        simp at this
      have hZ5 := u5.hcell hZ (fun y => hblk _ y rfl)
      refine ⟨hZ5, ?_⟩
      obtain ⟨b, o, r5, sl5, hb', hlt5⟩ := r4.app sl3 hs5 u5 hb5
      have hab : h.size <= b := by
        rcases hb' with ⟨hk, e⟩ | y
        · have hk' : M.ok (kPls i) := by simpa [Mem.put] using hk
          have := x.above _ hk'
          rw [e]; simpa [Mem.put, ut] using this
        · omega
      obtain ⟨M5, hM5⟩ : ∃ M5, M5 = (((M.put (kTurn i j) bt (cellO j)).put (kTick i j) bk (cellO 0)).put (kSlot i j) bs (cellO 0)).put (kPls i) b o := ⟨_, rfl⟩
      rw [<- hM5] at r5 sl5
      have lp6 := lp.round hM5 sl5
      have okL : M5.ok (kLev i) := by subst hM5; simp [Mem.put]; exact lp.lev.1
      have oL : M5.O (kLev i) = .cells #[ptr (M.B (kIn i)), ptr (M.B (kOut i)), s] 137 (0, 0) := by subst hM5; simp [Mem.put, ut]; exact lp.lev.2
      have bL5 : M5.B (kLev i) = Lb := by subst hM5; simp [Mem.put, ut]; exact bL
      have r6 := r5.hset okL oL 2 s'
      rw [bL5] at r6
      have e6 : Ext M (M5.set (kLev i) (.cells #[ptr (M.B (kIn i)), ptr (M.B (kOut i)), s'] 137 (0, 0))) (fun k => ((((k = kTurn i j \/ k = kTick i j) \/ k = kSlot i j) \/ k = kPls i) \/ k = kLev i)) := by
        subst hM5
        exact ((((Ext.put _ _ _ _).trans (Ext.put _ _ _ _)).trans (Ext.put _ _ _ _)).trans (Ext.put _ _ _ _)).trans (Ext.set _ _ _)
      have hLbge : h.size <= Lb := bL ▸ x.above _ lp.lev.1
      have u6 : Upd (fun _ => False) h (hset h5 ⟨Lb, 2, none⟩ s') := (u4.over u5 (fun b hb => by
        obtain ⟨hk, e⟩ := lp.sl.blk hb
        rw [e]; exact x.above _ hk)).over (Upd.hset (T := fun b => b = Lb) _ _ _ rfl) (fun b hb => by rw [hb]; exact hLbge)
      have x6 := x.ext e6 (fun k hk => by rcases hk with (((rfl | rfl) | rfl) | rfl) | rfl <;> rfl) r6 u6 (fun k hk _ => by
        subst hM5
        rcases hk with (((rfl | rfl) | rfl) | rfl) | rfl
        · simp [Mem.set, Mem.put, ut]; exact hbge.1
        · simp [Mem.set, Mem.put, ut]; exact hbge.2.1
        · simp [Mem.set, Mem.put, ut]; exact hbge.2.2
        · simp [Mem.set, Mem.put, ut]; exact hab
        · exact Nat.le_trans hLbge (Nat.le_of_eq bL5.symm)) (by omega)
      obtain ⟨a5, c5, es5⟩ := hs5.val
      have one5 : OneCell s' := by rw [es5]; exact ⟨nofun, nofun⟩
      have frz : hfroz h5 ⟨Lb, 2, none⟩ = false := bL5 ▸ hfroz_of (r5.get okL oL)
      have hZ := hZ5
      refine EA.val 12 rfl (by kernel_rfl) rfl rfl rfl (fun ρ Q X hρ hq => sem_nilCheck (hρ _ _ rfl) hq) hZ ?_
      refine EA.tField 13 rfl (by kernel_rfl) rfl rfl rfl rfl hZ ?_
      refine EA.unitL 14 rfl (by kernel_rfl) rfl rfl rfl (fun ρ Q X hρ hq => sem_store1 (hρ _ _ rfl) (hρ _ _ rfl) one5 ⟨_, hZ5⟩ frz (hF _ _ hLbge) hq) ?_
      refine EA.done (by kernel_rfl) ?_
      (repeat (first | refine EK.region ?_ | refine ER.done ?_ | refine EK.inBlock ?_ | refine ER.move rfl rfl rfl ?_ | refine ER.add (kd := .i64) rfl rfl rfl rfl (i64_in (by omega) (by omega)) ?_))
      exact EK.back (again2 ⟨j + 1, _, s'⟩ _ _ (by dsimp only; omega) ⟨rfl, by dsimp only; omega, x6, lp6, bL5⟩) ⟨rfl, rfl, rfl, rfl, rfl, rfl, rfl, rfl, trivial⟩
    · obtain rfl : j = m := by omega
      clear again2
      (repeat (first | refine EK.seq ?_ | refine EK.region ?_ | refine ER.done ?_ | refine ER.move rfl rfl rfl ?_ | refine ER.nilCheck rfl rfl rfl ?_ | refine ER.fieldAddr rfl rfl rfl ?_ | refine ER.cmpF rfl rfl rfl rfl rfl (by first | (dsimp only [cmpP]; omega) | exact rfl | exact Int.le_refl _) ?_ | refine EK.condF rfl ?_ | refine EK.exit rfl ?_))
      have cT : hcell h2 ⟨T, 1, none⟩ = some sL := x.topB ▸ x.rep.cell x.top.1 x.top.2 rfl
      refine ER.load1 rfl rfl rfl cT ?_
      (repeat refine ER.move rfl rfl rfl ?_)
      refine ER.slice1 (cells := #[ptr Lb]) rfl rfl rfl (by omega) (by omega) (by rfl) rfl ?_
      have r3 := x.rep.upd0 (Upd.push h2 (.cells #[ptr Lb] 134))
      have u3 := x.upd.trans (Upd.push (T := fun _ => False) h2 (.cells #[ptr Lb] 134))
      have n3 := get_push_new h2 (.cells #[ptr Lb] 134)
      have cT3 := hcell_push (o := .cells #[ptr Lb] 134) cT
      generalize h2.push (.cells #[ptr Lb] 134) = h3 at r3 u3 n3 cT3 ⊢
      have hsz3 := u3.size
      refine ER.append1 (new := [ptr Lb]) rfl rfl rfl rfl (x.sl.slice r3) n3 rfl (by simp [OneCell]) (by omega) (by omega) (by rfl) (fun b o hb => hF _ _ (by
        obtain ⟨hk, e⟩ := x.sl.blk hb
        rw [e]; exact x.above _ hk)) ?_
      intro sL' h4 hs4 u4 hb4
      have hblk : ∀ b, blk sL = some b -> b ≠ T := fun b hb e => by
        obtain ⟨hk, e'⟩ := x.sl.blk hb
        have := x.rep.inj kLvs kTop hk x.top.1 (by rw [x.topB, <- e', e])
        simp at this
      have cT4 := u4.hcell cT3 (fun y => hblk _ y rfl)
      obtain ⟨b, o, r4, sl4, hb', hlt4⟩ := r3.app x.sl hs4 u4 hb4
      have hab : h.size <= b := by
        rcases hb' with ⟨hk, e⟩ | y
        · rw [e]; exact x.above _ hk
        · omega
      have okT : (M.put kLvs b o).ok kTop := .inr x.top.1
      have oT : (M.put kLvs b o).O kTop = .cells #[ptr (M.B kTk), sL] 133 (0, 0) := by simp [Mem.put, ut]; exact x.top.2
      have bT : (M.put kLvs b o).B kTop = T := by simp [Mem.put, ut]; exact x.topB
      have r5 := r4.hset okT oT 1 sL'
      rw [bT] at r5
      have hTge : h.size <= T := x.topB ▸ x.above _ x.top.1
      have u5 : Upd (fun _ => False) h (hset h4 ⟨T, 1, none⟩ sL') := (u3.over u4 (fun b hb => by
        obtain ⟨hk, e⟩ := x.sl.blk hb
        rw [e]; exact x.above _ hk)).over (Upd.hset (T := fun b => b = T) _ _ _ rfl) (fun b hb => by rw [hb]; exact hTge)
      have e5 : Ext M ((M.put kLvs b o).set kTop (.cells #[ptr (M.B kTk), sL'] 133 (0, 0))) (fun k => k = kLvs \/ k = kTop) := (Ext.put _ _ _ _).trans (Ext.set _ _ _)
      have hne : ∀ k : Key, k.2.1 ≠ 0 -> ¬ (k = kLvs \/ k = kTop) := fun k hk y => by rcases y with rfl | rfl <;> exact hk rfl
      have x5 : NewI h (hset h4 ⟨T, 1, none⟩ sL') ((M.put kLvs b o).set kTop (.cells #[ptr (M.B kTk), sL'] 133 (0, 0))) T j (i + 1) (i + 1) sL' := by
        refine ⟨r5, u5, fun k hk => ?_, ⟨okT, ?_⟩, bT, ⟨(e5 kTk (by simp)).1.mpr x.tk.1, (e5 kTk (by simp)).2.2.trans x.tk.2⟩, ?_, fun q hq => ?_, fun q hq hk => ?_⟩
        · by_cases h1 : k = kLvs
          · subst h1; simp [Mem.set, Mem.put, ut]; exact hab
          · by_cases h2 : k = kTop
            · subst h2; exact Nat.le_trans hTge (Nat.le_of_eq bT.symm)
            · rw [(e5 k (fun y => y.elim h1 h2)).2.1]
              exact x.above k ((e5 k (fun y => y.elim h1 h2)).1.mp hk)
        · rw [(e5 kTk (by simp)).2.1]; simp [Mem.set, ut]
        · have e1 : (List.range (i + 1)).map (fun q => ptr (((M.put kLvs b o).set kTop (.cells #[ptr (M.B kTk), sL'] 133 (0, 0))).B (kLev q))) = (List.range i).map (fun q => ptr (M.B (kLev q))) ++ [ptr Lb] := by
            rw [List.range_succ, List.map_append]
            congr 1
            · simp only [List.map_cons, List.map_nil]
              rw [(e5 (kLev i) (hne _ (by show i + 1 ≠ 0; omega))).2.1, bL]
          rw [e1]
          exact sl4.set (by simp) _
        · by_cases hqi : q = i
          · subst hqi
            exact ⟨s, lp.congr e5 (fun k hk => hne k (by rw [hk.1]; omega))⟩
          · obtain ⟨s', hs'⟩ := x.levs q (by omega)
            exact ⟨s', hs'.congr e5 (fun k hk => hne k (by rw [hk.1]; omega))⟩
        · exact x.rest q hq ((e5 (kPls q) (hne _ (by show q + 1 ≠ 0; omega))).1.mp hk)
      obtain ⟨a4, c4, es4⟩ := hs4.val
      have one4 : OneCell sL' := by rw [es4]; exact ⟨nofun, nofun⟩
      have frz : hfroz h4 ⟨T, 1, none⟩ = false := bT ▸ hfroz_of (r4.get okT oT)
      (repeat (first | refine ER.nilCheck rfl rfl rfl ?_ | refine ER.fieldAddr rfl rfl rfl ?_))
      refine ER.store1 rfl rfl rfl one4 ⟨_, cT4⟩ frz (hF _ _ hTge) ?_
      (repeat (first | refine EK.region ?_ | refine ER.done ?_ | refine EK.inBlock ?_ | refine ER.move rfl rfl rfl ?_ | refine ER.add (kd := .i64) rfl rfl rfl rfl (i64_in (by omega) (by omega)) ?_))
      exact EK.back (again ⟨i + 1, _, sL'⟩ _ _ (by dsimp only; omega) ⟨rfl, by dsimp only; omega, x5⟩) ⟨rfl, rfl, rfl, rfl, rfl, trivial⟩
  · obtain rfl : i = L := by omega
    have key : ∀ q : Nat, ∃ p : Nat × List Value, q < i -> (M.ok (kLev q) /\ M.O (kLev q) = .cells #[ptr (M.B (kIn q)), ptr (M.B (kOut q)), .slice (some ⟨M.B (kPls q), 0, none⟩) m p.1] 137 (0, 0)) /\ (M.ok (kPls q) /\ M.O (kPls q) = .cells (((List.range m).flatMap fun j => [ptr (M.B (kTurn q j)), ptr (M.B (kTick q j)), ptr (M.B (kSlot q j))]) ++ p.2).toArray 139 (0, 0)) := by
      intro q
      by_cases hq : q < i
      · obtain ⟨s, lp⟩ := x.levs q hq
        rcases lp.sl.2 with ⟨_, h0, _⟩ | ⟨hk, cap, rest, rfl, _, _, h3⟩
        · omega
        · exact ⟨(cap, rest), fun _ => ⟨lp.lev, hk, h3⟩⟩
      · exact ⟨(0, []), fun y => absurd y hq⟩
    obtain ⟨fp, hfp⟩ := Classical.axiomOfChoice key
    have xl := x.sl.2
    rcases xl with ⟨_, h0, _⟩ | ⟨hkL, capL, rL, rfl, _, _, hoL⟩
    · omega
    obtain ⟨G, hG⟩ : ∃ G : PG, G = ⟨i, m, capL, fun q => (fp q).1, rL, fun q => (fp q).2, M.B⟩ := ⟨_, rfl⟩
    have gL : G.L = i := by rw [hG]
    have gm : G.m = m := by rw [hG]
    have gB : G.B = M.B := by rw [hG]
    have all : ∀ k, okP i m k -> M.ok k /\ M.O k = priO G v0 k := by
      intro k hk
      rcases okP_cases hk with rfl | rfl | rfl | ⟨q, hq, rfl | rfl | rfl | rfl⟩ | ⟨q, j, hq, hj, rfl | rfl | rfl⟩
      · exact ⟨x.top.1, by rw [x.top.2, hG]; rfl⟩
      · exact ⟨hkL, by rw [hoL, hG]; rfl⟩
      · exact ⟨x.tk.1, by rw [x.tk.2]; rfl⟩
      · exact ⟨(hfp q hq).1.1, by rw [(hfp q hq).1.2, hG]; rfl⟩
      · exact ⟨(hfp q hq).2.1, by rw [(hfp q hq).2.2, hG]; rfl⟩
      · obtain ⟨s, lp⟩ := x.levs q hq; exact ⟨lp.inn.1, by rw [lp.inn.2]; rfl⟩
      · obtain ⟨s, lp⟩ := x.levs q hq; exact ⟨lp.out.1, by rw [lp.out.2]; rfl⟩
      · obtain ⟨s, lp⟩ := x.levs q hq; exact ⟨(lp.val j hj).1.1, by rw [(lp.val j hj).1.2]; rfl⟩
      · obtain ⟨s, lp⟩ := x.levs q hq; exact ⟨(lp.val j hj).2.1.1, by rw [(lp.val j hj).2.1.2]; rfl⟩
      · obtain ⟨s, lp⟩ := x.levs q hq; exact ⟨(lp.val j hj).2.2.1, by rw [(lp.val j hj).2.2.2]; rfl⟩
    have rG : Pri h1 G v0 := x.rep.congr (fun k hk => (all k (by rw [<- gL, <- gm]; exact hk)).1) (fun k _ => congrFun gB k) (fun k hk => (all k (by rw [<- gL, <- gm]; exact hk)).2.symm)
    have hTB : G.B kTop = T := by rw [gB]; exact x.topB
    (repeat (first | refine EK.seq ?_ | refine EK.region ?_ | refine ER.done ?_ | refine ER.move rfl rfl rfl ?_ | refine ER.assign rfl rfl rfl ?_ | refine ER.cmpF rfl rfl rfl rfl rfl (by first | (dsimp only [cmpP]; omega) | exact rfl | exact Int.le_refl _) ?_ | refine EK.condF rfl ?_ | refine EK.ret ?_ | refine EK.exit rfl ?_))
    refine EU.ret2 rfl rfl rfl ⟨rfl, x.upd, G, by rw [hTB], gL, gm, rG, fun k hk => ?_⟩
    rw [gB]
    exact x.above k (all k hk).1
end
end
end Go.Proofs.Ythkpbenhchkkoaa
namespace Go.TJ
section
open Go Go.Conc
open Go.ConcN (sumTo upd sumTo_upd upd_ne upd_same)
def SwS (P : Program) : Sit Nat where
  still := fun _ _ => False
  yld g h δ Y := δ.d = 0 /\ ∃ (Γ' : Type) (X : Proto Γ') (γ : Γ'), X.Ok /\ X.num γ = δ.g /\ δ.g = 1 /\
    Runs P true (SitM P X) (fun g' h' δ' => δ'.d = 0 /\ (∀ i, i ≠ 0 -> i < X.num δ'.g -> X.ch δ'.g i = none) /\ Y g' h' ⟨0, X.num δ'.g⟩) g h ⟨0, γ⟩
theorem CallW.sw {P : Program} {Γ' : Type} {X : Proto Γ'} (hX : X.Ok) {γ : Γ'} (h1 : X.num γ = 1) {f : FuncId} {args : Array Value} {h : Hp} {R : Post Nat} (hc : CallW P true (SitM P X) f args h ⟨0, γ⟩ fun r h' δ' => δ'.d = 0 /\ (∀ i, i ≠ 0 -> i < X.num δ'.g -> X.ch δ'.g i = none) /\ R r h' ⟨0, X.num δ'.g⟩) : CallW P true (SwS P) f args h ⟨0, 1⟩ R := by
  intro kind hk cs
  refine .hands (fun g' h' δ' => Left P f kind cs R g' h' δ') (fun g' h' δ' y => .stop y) ⟨rfl, Γ', X, γ, hX, h1, rfl, (hc kind hk cs).mono ?_⟩
  rintro g' h' δ' ⟨a, todo, mode, fn, h1, h2, h3, ⟨h5, v, h6, h7, h8, h9⟩ | ⟨c, h5, h7, h8, h9⟩⟩
  · exact ⟨h7, h8, a, todo, mode, fn, h1, h2, h3, .inl ⟨h5, v, h6, h9⟩⟩
  · exact ⟨h7, h8, a, todo, mode, fn, h1, h2, h3, .inr ⟨c, h5, h9⟩⟩
def PN : Proto Nat where
  num n := n
  ch _ _ := none
  cells _ _ _ := none
  R _ _ _ := True
  Pass _ _ _ := True
section
variable {P : Program}
theorem lk_none {h : Nat} {n : Nat} {I : Nat -> Option Wait} (hI : ∀ i, i ≠ h -> I i = none) : Lk P PN h n I n :=
  ⟨rfl, fun i hi _ => (by rw [hI i hi]; rfl), fun i W hi e => (by rw [hI i hi] at e; cases e), fun i W hi _ e => (by rw [hI i hi] at e; cases e)⟩
theorem lk_end {Γ' : Type} {X : Proto Γ'} {γ : Γ'} {I : Nat -> Option Wait} {T : Trace} {gs : Array Goroutine} {w : World} {q : Nat -> Nat} (F : Fr P 0 I T gs w q) (L : Lk P X 0 γ I gs.size) (hch : ∀ i, i ≠ 0 -> i < X.num γ -> X.ch γ i = none) : ∀ i, i ≠ 0 -> I i = none := fun i hi => by
  cases e : I i with
  | none => rfl
  | some V =>
    have hlt := F.room i hi (by rw [e]; rfl)
    have h1 := L.ch i hi hlt
    rw [hch i hi (by rw [L.num]; exact hlt), e] at h1
    cases h1
theorem company_sw {Stop : Goroutine -> Hp -> Ix Nat -> Prop} {g : Goroutine} {hp : Hp} {δ : Ix Nat} (H : Runs P true (SwS P) Stop g hp δ) :
    ∀ {I : Nat -> Option Wait} {T : Trace} {gs : Array Goroutine} {w : World} {q : Nat -> Nat} {sl : Option (Nat × Nat)}, w.heap = hp -> Fr P 0 I T gs w q -> (∀ i, i ≠ 0 -> I i = none) -> gs.size = δ.g -> gs[0]? = some g -> Deaf T 0 = δ.d ->
    ∃ (N : Nat) (gs' : Array Goroutine) (g' : Goroutine) (w' : World) (sl' : Option (Nat × Nat)) (T' : Trace) (q' : Nat -> Nat) (δ' : Ix Nat) (I' : Nat -> Option Wait),
      runNT P N (crowd gs w sl) T = (.next (crowd gs' w' sl'), T') /\ gs'[0]? = some g' /\ Fr P 0 I' T' gs' w' q' /\ (∀ i, i ≠ 0 -> I' i = none) /\ Deaf T' 0 = δ'.d /\ Same w w' /\ Stop g' w'.heap δ' := by
  induction H with
  | stop hs =>
    intro I T gs w q sl hw F hI hn hg hd
    subst hw
    exact ⟨0, gs, _, w, sl, T, q, _, I, rfl, hg, F, hI, hd, Same.refl _, hs⟩
  | step Y _ hst ih =>
    intro I T gs w q sl hw F hI hn hg hd
    subst hw
    obtain ⟨N, gs', g', w', sl', T', q', δ', h1, h2, h3, h4, h5, h6, h7, h8⟩ := step_run (X := PN) (i := 0) (by rfl) (S := SwS P) (funext fun n => funext fun a => propext ⟨fun x => x.elim, fun ⟨j, _, _, x, _⟩ => by cases x⟩) (sl := sl) F (by rw [hn]; exact lk_none hI) hg hd hst
    obtain ⟨N₂, gs₂, g₂, w₂, sl₂, T₂, q₂, δ₂, I', k1, k3, k5, k6, k7, k8, k9⟩ := ih _ _ _ h8 (sl := sl') rfl h4 hI (by rw [h5, h2]; exact hn) h3 h6
    exact ⟨N + N₂, gs₂, g₂, w₂, sl₂, T₂, q₂, δ₂, I', runNT_then h1 k1, k3, k5, k6, k7, h7.trans k8, k9⟩
  | @hands g hp δ Y _ hY ih =>
    intro I T gs w q sl hw F hI hn hg hd
    subst hw
    obtain ⟨hd0, Γ', X, γ, hX, e1, e2, hrun⟩ := hY
    obtain ⟨N, gs', g', w', sl', T', q', δ', I', h1, h2, h3, h4, h5, h6, h7, h8, h9⟩ := company hX hrun (sl := sl) rfl F ⟨by rw [e1, hn], fun i hi hlt => by omega, fun i W hi e => (by rw [hI i hi] at e; cases e), fun i W hi _ e => (by rw [hI i hi] at e; cases e)⟩ hg (hd.trans hd0)
    obtain ⟨N₂, gs₂, g₂, w₂, sl₂, T₂, q₂, δ₂, I₂, k1, k3, k5, k6, k7, k8, k9⟩ := ih _ _ _ h9 (sl := sl') rfl h3 (lk_end h3 h4 h8) h4.num.symm h2 (h5.trans h7)
    exact ⟨N + N₂, gs₂, g₂, w₂, sl₂, T₂, q₂, δ₂, I₂, runNT_then h1 k1, k3, k5, k6, k7, h6.trans k8, k9⟩
theorem sw_run {f : FuncId} {args : Array Value} {W : World} {R : Value -> Hp -> Prop} (hini : P.inits.idxOf? f = none)
    (hc : CallW P true (SwS P) f args W.heap ⟨0, 1⟩ fun
      | .ret v, h', δ' => δ'.d = 0 /\ R v h'
      | .pan _, _, _ => False) :
    ∃ M last o w' t', runNT P (M + 1) (solo (G (Frame.enter P f args .normal) []) W) #[] = (.ended o w', t') /\ runN P M (solo (G (Frame.enter P f args .normal) []) W) = .next last /\ step P last = .ended o w' /\
      Conc.Good P (fun v W' => R v W'.heap /\ Same W W') last o w' t' := by
  obtain ⟨N, gs, g', w, sl, T, q, δ, I, hr, hg, F, hI, hd, hs, a, todo, mode, fn, rfl, hda, hf, hend⟩ := company_sw (hc .normal (by simp) []) (sl := none) (w := W) rfl (fr_one P _ W) (fun i _ => rfl) rfl rfl rfl
  rcases hend with ⟨rfl, v, hv, hd0, hR⟩ | ⟨_, _, hp⟩
  · obtain ⟨N₂, gs₂, d, d', sl₂, sl₃, T₂, q₂, hr₂, hst, hsz, ha₂, F₂, hd₂⟩ := F.picked (sl := sl) hg rfl
    obtain ⟨es, hrun, hes⟩ := hv (w.at d') rfl
    have hend := stepG_last (w := w.at d') (todo := todo) hda hf hini hrun
    have hrt := runT_many_ended (P := P) (sl := sl₃) (i := 0) ha₂ hend
    have hops : ∀ op ∈ MemOp.ofEvents 0 f (G { (fb f .normal).at a todo with mode := .returning } []).frame.place (seen P f es), op.g = 0 := fun op hop => by obtain ⟨e, _, rfl⟩ := Go.Conc.mem_ofEvents hop; rfl
    have hTr : Tr 0 (loOf 0 I) (stOf I) (T₂ ++ MemOp.ofEvents 0 f (G { (fb f .normal).at a todo with mode := .returning } []).frame.place (seen P f es)) :=
      F₂.tr.own (fun x => x.1 rfl) hops fun op hop b hb g hg' hS => by
        have := hg'.2
        rw [hI g hg'.1] at this
        cases this
    refine ⟨N + N₂, _, .done v, w.at d', _, runNT_succ_end (runNT_then hr hr₂) (hst.trans hrt), runN_of_runNT _ _ _ _ _ (runNT_then hr hr₂), ?_, v, rfl, ⟨hR, hs.trans (same_at w d')⟩, hTr.clean, tr_over hTr hI, ⟨fun x hx => ?_, rfl⟩, fun j x hx hj => ?_⟩
    · rw [step, hst, hrt]
    · obtain ⟨j, hj⟩ := List.mem_iff_getElem?.1 hx
      rw [List.getElem?_drop] at hj
      have hid := F₂.idle (1 + j) x (by omega) (by simpa [crowd] using hj)
      rw [hI _ (by omega)] at hid
      exact ⟨_, hid.2.leaves⟩
    · have hid := F₂.idle j x hj hx
      rw [hI j hj] at hid
      refine ⟨q₂ j, ?_⟩
      have e : (T₂ ++ MemOp.ofEvents 0 f (G { (fb f .normal).at a todo with mode := .returning } []).frame.place (seen P f es)).deaf j (T₂ ++ MemOp.ofEvents 0 f (G { (fb f .normal).at a todo with mode := .returning } []).frame.place (seen P f es)).size = Deaf T₂ j :=
        Deaf_other T₂ (g := j) (g' := 0) (Ne.symm hj) _ hops
      rw [show (G { (fb f .normal).at a todo with mode := .returning } []).frame.fn = f from rfl, e]
      exact hid.2.hears _
  · exact hp.elim
end
end
end Go.TJ
namespace Go.Proofs.Ythkpbenhchkkoaa
section
open Go Go.TJ Go.Conc Go.Proofs
abbrev putV2 (d : W1) (by_ bp : Nat) : FuncId × Array Value := (18, #[ptr by_, ptr (d.D .ts), ptr (d.D .there), ptr bp, ptr (d.D .wrong)])
abbrev takV2 (by_ bt : Nat) : FuncId × Array Value := (20, #[ptr by_, ptr bt])
structure WPre (d : W1) (base e by_ bp bt : Nat) (takes : Int) (pS kS bv : Value) (ps : List Nat) (picks : List Int) : Prop where
  ok : d.c.Ok
  hm : d.c.G.m = 2 ^ e
  he : e <= 12
  F : 65537 <= d.c.F
  rep : Pri d.hN d.c.G v0
  ex : ∀ b, d.ex b ↔ blk bv = some b
  M : WM d.D WS.z nilS d.hN
  hv0 : ∀ k, okP d.c.G.L d.c.G.m k -> isV k -> d.v0 (d.c.G.B k) = v0 k
  y : d.hN[by_]? = some (.cells #[.int .i64 d.c.G.L, .int .i64 d.c.G.m, pS, .int .i64 takes, kS] 54 (0, 0))
  p : d.hN[bp]? = some (.cells #[ptr (d.c.G.B kTop)] 58 (0, 0))
  take : d.hN[bt]? = some (.cells #[takeF d bp by_] 68 (0, 0))
  lowB : ∀ k, okP d.c.G.L d.c.G.m k -> base <= d.c.G.B k
  lowD : ∀ k, base <= d.D k
  lowb : ∀ b, blk bv = some b -> base <= b
  puts : RdS d.hN pS (ps.map fun (x : Nat) => .int .u8 x) /\ (ps ≠ [] -> ∀ b, blk pS = some b -> b < base)
  pk : RdS d.hN kS (picks.map fun x => .int .i64 x) /\ (picks ≠ [] -> ∀ b, blk kS = some b -> b < base)
  pe : d.c.puts = ps.map fun x => x % d.c.G.L
  u8 : ∀ x, x ∈ ps -> x < 256
  tak : d.c.tak = (takes % 400).toNat
  bods : SliceO d.hN bv 43 1 2 ([putV2 d by_ bp, takV2 by_ bt].map fun q => .func (.func q.1) #[] q.2)
section
variable {d : W1} {base e by_ bp bt : Nat} {takes : Int} {pS kS bv : Value} {ps : List Nat} {picks : List Int}
theorem WPre.cell (x : WPre d base e by_ bp bt takes pS kS bv ps picks) {k : Key} (hk : okP d.c.G.L d.c.G.m k) (hv : isV k) : d.hN[d.c.G.B k]? = some (cellO (d.v0 (d.c.G.B k))) := by
  rw [x.hv0 k hk hv]; exact x.rep.val hk hv
theorem WPre.notC (x : WPre d base e by_ bp bt takes pS kS bv ps picks) {y : Nat} {a : Array Value} {t : TypeId} (hy : d.hN[y]? = some (.cells a t (0, 0))) (ht : t ≠ 188) : ¬ d.isC y := by
  rintro ⟨k, hk, hv, rfl⟩
  rw [x.cell hk hv] at hy
  injection hy with hy
  injection hy with _ hy _
  exact ht hy.symm
theorem WPre.hD (x : WPre d base e by_ bp bt takes pS kS bv ps picks) (k : PNm) : ¬ d.isC (d.D k) := by
  have h := x.M.rep.has k trivial
  cases k <;> exact x.notC h (by decide)
theorem WPre.neD (x : WPre d base e by_ bp bt takes pS kS bv ps picks) {y : Nat} {a : Array Value} {t : TypeId} (hy : d.hN[y]? = some (.cells a t (0, 0))) (t1 : t ≠ 61) (t2 : t ≠ 3) (t3 : t ≠ 62) (t4 : t ≠ 4) : ∀ k, y ≠ d.D k := wne x.M.rep hy t1 t2 t3 t4
theorem WPre.nb (x : WPre d base e by_ bp bt takes pS kS bv ps picks) {y : Nat} {a : Array Value} {t : TypeId} (hy : d.hN[y]? = some (.cells a t (0, 0))) (h1 : t ≠ 43) : ¬ d.ex y := fun e => sliceO_ne x.bods hy (Ne.symm h1) y ((x.ex y).1 e) rfl
theorem WPre.old (x : WPre d base e by_ bp bt takes pS kS bv ps picks) {y : Nat} {a : Array Value} {t : TypeId} (hy : d.hN[y]? = some (.cells a t (0, 0))) (h0 : t ≠ 188) (h1 : t ≠ 43) (hD : ∀ k, y ≠ d.D k) : d.old y :=
  ⟨lt_of_get hy, x.notC hy h0, x.nb hy h1, hD⟩
theorem WPre.low (x : WPre d base e by_ bp bt takes pS kS bv ps picks) (hb : base <= d.hN.size) {y : Nat} (hy : y < base) : d.old y :=
  ⟨by omega, fun ⟨k, hk, _, e⟩ => by have := x.lowB k hk; omega, fun e => by have := x.lowb y ((x.ex y).1 e); omega, fun k e => by have := x.lowD k; omega⟩
theorem WPre.oldG (x : WPre d base e by_ bp bt takes pS kS bv ps picks) {k : Key} (hk : okP d.c.G.L d.c.G.m k) (hv : ¬ isV k) : d.old (d.c.G.B k) /\ d.hN[d.c.G.B k]? = some (priO d.c.G (fun _ => 0) k) := by
  have h : d.hN[d.c.G.B k]? = some (priO d.c.G v0 k) := x.rep.has k hk
  rw [priO_other (v' := fun _ => 0) hv] at h
  refine ⟨?_, h⟩
  rcases okP_cases hk with rfl | rfl | rfl | ⟨q, hq, rfl | rfl | rfl | rfl⟩ | ⟨q, j, hq, hj, rfl | rfl | rfl⟩
  · exact x.old h (by decide) (by decide) (x.neD h (by decide) (by decide) (by decide) (by decide))
  · exact x.old h (by decide) (by decide) (x.neD h (by decide) (by decide) (by decide) (by decide))
  · exact absurd (vv (by omega)) hv
  · exact x.old h (by decide) (by decide) (x.neD h (by decide) (by decide) (by decide) (by decide))
  · exact x.old h (by decide) (by decide) (x.neD h (by decide) (by decide) (by decide) (by decide))
  · exact absurd (vv (by omega)) hv
  · exact absurd (vv (by omega)) hv
  · exact absurd (vv (by omega)) hv
  · exact absurd (vv (by omega)) hv
  · exact absurd (vv (by omega)) hv
theorem WPre.apart (x : WPre d base e by_ bp bt takes pS kS bv ps picks) {y : Nat} {a : Array Value} {t : TypeId} (hy : d.hN[y]? = some (.cells a t (0, 0))) (t1 : t ≠ 61) (t2 : t ≠ 3) (t3 : t ≠ 62) (t4 : t ≠ 4) (t5 : t ≠ 188) (t6 : t ≠ 133) (t7 : t ≠ 134) (t8 : t ≠ 137) (t9 : t ≠ 139) : ¬ ((∃ k, y = d.D k) \/ ∃ k, okP d.c.G.L d.c.G.m k /\ y = d.c.G.B k) := by
  rintro (⟨k, e⟩ | ⟨k, hk, rfl⟩)
  · exact x.neD hy t1 t2 t3 t4 k e
  · have h : d.hN[d.c.G.B k]? = some (priO d.c.G v0 k) := x.rep.has k hk
    rw [hy] at h
    injection h with h
    rcases okP_cases hk with rfl | rfl | rfl | ⟨q, hq, rfl | rfl | rfl | rfl⟩ | ⟨q, j, hq, hj, rfl | rfl | rfl⟩ <;> (injection h with _ h _; first | exact t5 h | exact t6 h | exact t7 h | exact t8 h | exact t9 h)
theorem wenv_of (x : WPre d base e by_ bp bt takes pS kS bv ps picks) (hb : base <= d.hN.size) : WEn d e by_ bp bt takes pS kS ps := by
  refine ⟨x.ok, x.hD, ⟨gcW_ok x.hD, usN_prog, fun _ _ => nrefl, fun u h I k hk hv => ?_, fun l u v J => ?_, fun T ext g => usN_j (c := gcW d) T g nofun ext trivial⟩, ⟨fun k hk hv => ⟨k, hk, hv, rfl⟩, x.hm, x.he, x.ok.L1, x.ok.L8⟩, x.F, ⟨?_, fun i hi => ?_, fun i hi => ?_, fun i j hi hj => ?_, fun i j hi hj => ?_⟩,
    ⟨x.old x.y (by decide) (by decide) (x.neD x.y (by decide) (by decide) (by decide) (by decide)), x.y⟩, ⟨x.old x.p (by decide) (by decide) (x.neD x.p (by decide) (by decide) (by decide) (by decide)), x.p⟩, ⟨x.old x.take (by decide) (by decide) (x.neD x.take (by decide) (by decide) (by decide) (by decide)), x.take⟩,
    ⟨x.puts.1, fun h b hb' => x.low hb (x.puts.2 h b hb')⟩, x.pe, x.u8, x.tak⟩
  · have I' : WMI d u.1 u.2 h := I
    obtain ⟨h1, h2⟩ := x.oldG hk hv
    exact (I'.old _ h1).trans h2
  · obtain ⟨⟨S, R⟩, -⟩ := J
    obtain ⟨A, pc, tc, I⟩ := pinv_all x.ok (v0 := d.v0) ⟨by rw [x.hv0 kTk trivial (vv (by omega))]; rfl, fun i hi => by rw [x.hv0 (kIn i) hi (vv (by omega))]; rfl, fun i hi => by rw [x.hv0 (kOut i) hi (vv (by omega))]; rfl, fun i j hi hj => by rw [x.hv0 (kTurn i j) ⟨hi, hj⟩ (vv (by omega))]; rfl, fun i j hi hj => by rw [x.hv0 (kTick i j) ⟨hi, hj⟩ (vv (by omega))]; rfl⟩ R
    exact I.jpr x.ok
  · rw [x.hv0 kTk trivial (vv (by omega))]; rfl
  · rw [x.hv0 (kIn i) hi (vv (by omega))]; rfl
  · rw [x.hv0 (kOut i) hi (vv (by omega))]; rfl
  · rw [x.hv0 (kTurn i j) ⟨hi, hj⟩ (vv (by omega))]; rfl
  · rw [x.hv0 (kTick i j) ⟨hi, hj⟩ (vv (by omega))]; rfl
theorem wbody0 (x : WPre d base e by_ bp bt takes pS kS bv ps picks) (hb : base <= d.hN.size) : Body (XW d) 0 (putV2 d by_ bp).1 (putV2 d by_ bp).2 := by
  intro h γ T hbn ho
  have E := wenv_of x hb
  have ht : toldOf 0 γ.p.u.1 = [] := by
    obtain ⟨p, -, hp⟩ := T.Q 0
    rw [hbn] at hp
    exact hp
  have a0 : AtP (XW d) d.c.P (wtold d) 0 γ γ.p.u [] h (putterP d.c.G d.c.F d.c.puts 0) := ⟨T, Res.born E.K.prog T hbn ho ht, nrefl⟩
  refine (wputter_T E a0 rfl).conseqP ?_
  rintro w h' δ' ⟨γ', u', rfl, -, al, at_⟩
  exact ⟨γ', u', [], rfl, al, at_.thr, Res.over E.K.prog at_.res, usN_j (c := gcW d) at_.thr at_.res nofun at_.ext trivial⟩
theorem wbody1 (x : WPre d base e by_ bp bt takes pS kS bv ps picks) (hb : base <= d.hN.size) : Body (XW d) 1 (takV2 by_ bt).1 (takV2 by_ bt).2 := by
  intro h γ T hbn ho
  have E := wenv_of x hb
  have ht : toldOf 1 γ.p.u.1 = [] := by
    obtain ⟨p, -, hp⟩ := T.Q 1
    rw [hbn] at hp
    exact hp
  have a0 : AtP (XW d) d.c.P (wtold d) 1 γ γ.p.u [] h (takerP d.c.G d.c.F d.c.tak) := ⟨T, Res.born E.K.prog T hbn ho ht, nrefl⟩
  refine (wtaker_T E a0 rfl).conseqP ?_
  rintro w h' δ' ⟨γ', u', rfl, -, al, at_⟩
  exact ⟨γ', u', [], rfl, al, at_.thr, Res.over E.K.prog at_.res, usN_j (c := gcW d) at_.thr at_.res nofun at_.ext trivial⟩
structure WEd (d : W1) (fin : Bool) (s : WS) (mv : Value) (k : Nat) (fl : Bool) (q : Nat -> List Nat) (o : Nat -> Nat) (v : Key -> Int) (h : Hp) : Prop where
  dr : PDr (fin = true) d.c.G.L d.c.G.m d.c.puts.length s k fl q o v
  M : WM d.D s mv h
  pri : Pri h d.c.G v
theorem tRes_done {c : PP} {tc : TC} {L : Nat} {q : Nat -> List Nat} {t o f : Nat -> Nat} (x : TT L q t o f tc) (h : tRes c tc = .done) : ∀ i, o i = t i := by
  cases tc with
  | fin => exact x
  | raw n => exact x
  | l0 r n H => cases h
  | l1 r n H p => cases h
  | l2 r n H p => cases h
  | c r H b => cases h
  | d r b p => cases h
  | e r b p w => cases h
set_option maxRecDepth 8000 in
set_option maxHeartbeats 4000000 in
theorem wrun_ok (x : WPre d base e by_ bp bt takes pS kS bv ps picks) (hb : base <= d.hN.size) :
    CallW Try.prog true (SwS Try.prog) 12 #[kS, .int .i64 16384, bv] d.hN ⟨0, 1⟩ (Ret fun v h' δ' => (∃ m, δ' = ⟨0, m⟩) /\ ∃ (fin : Bool) (lL lW lY lV mv : Value) (n k : Nat) (s : WS) (fl : Bool) (q : Nat -> List Nat) (o : Nat -> Nat) (cv : Key -> Int), v = .agg (repL (if fin then 1 else 2) n lL lW lY lV).toArray /\
      ((∃ a n k, lL = .slice a n k) /\ (∃ a n k, lW = .slice a n k) /\ (∃ a n k, lY = .slice a n k) /\ (∃ a n k, lV = .slice a n k)) /\ WEd d fin s mv k fl q o cv h' /\ (∀ b, blk mv = some b -> ¬ d.old b /\ ¬ d.isC b) /\ d.hN.size <= h'.size /\ ∀ b, d.old b -> h'[b]? = d.hN[b]?) := by
  have E := wenv_of x hb
  have hX : (XW d).Ok := E.K.ok
  let u0 : (XW d).U := ([], nilS)
  have hnb : ∀ c, blk bv = some c -> ∀ k, c ≠ d.D k := fun c hc k e => by
    have h := x.M.rep.has k trivial
    change d.hN[d.D k]? = _ at h
    cases k <;> exact sliceO_ne x.bods h (by decide) c hc e
  have hnD : ∀ c, (XW d).Dom u0 c -> d.old c \/ ∃ k, c = d.D k := fun c hc => hc.elim .inl fun y => y.elim .inr fun y => (by cases y.2)
  have hI0 : WMI d [] nilS d.hN := ⟨fun _ _ => rfl, x.M, fun b e => (by cases e)⟩
  have m2 := x.ok.m2
  have hrun := runG (X := XW d) (γ := ⟨psZ 0 0 d.v0 u0, psZ 0 0 d.v0 u0, d.hN, fun _ => False, 0⟩) (h := d.hN) hX (v0 := d.v0) (u0 := u0) (picks := picks) (m := 16384) (bods := [putV2 d by_ bp, takV2 by_ bt]) (sP := kS) (sB := bv) rfl (by decide) (by decide)
    (fun b hb => by
      obtain ⟨k, hk, hv, rfl⟩ := hb
      exact x.cell hk hv)
    (fun b hb => (hnD b hb).elim (fun y => y.1) fun ⟨k, e⟩ => e ▸ x.M.rep.lt (k := k) trivial) hI0 ⟨⟨_, .init⟩, trivial⟩ (fun i => ⟨_, .nil _, rfl⟩) (show 2 <= 64 by decide)
    x.bods
    (fun c hc => ⟨fun ⟨k, hk, hv, e⟩ => sliceO_ne x.bods (x.cell hk hv) (by decide) c hc e, fun hd => (hnD c hd).elim (fun y => y.2.2.1 ((x.ex c).2 hc)) fun ⟨k, e⟩ => hnb c hc k e⟩)
    (fun u h' I _ => wrds_low x.pk.1 fun hv b hb' => WMI.old (show WMI d u.1 u.2 h' from I) b (x.low hb (x.pk.2 (fun e => hv (by rw [e]; rfl)) b hb')))
    (fun k q hq => by
      match k, hq with
      | 0, hq => obtain rfl := Option.some.inj hq; exact ⟨inferInstance, wbody0 x hb⟩
      | 1, hq => obtain rfl := Option.some.inj hq; exact ⟨inferInstance, wbody1 x hb⟩
      | k + 2, hq => cases hq)
  refine CallW.sw (px_ok hX) rfl (hrun.mono ?_)
  rintro (v | ps) h' δ' y
  · obtain ⟨γ', p, er, lL, lW, lY, lV, rfl, h1, h2, rfl, En, up⟩ := y
    refine ⟨rfl, h2, ⟨_, rfl⟩, ?_⟩
    have En' : Ended (XW d) d.v0 picks 2 16384 p er lL lW lY lV h' := En
    obtain ⟨⟨S, R⟩, -⟩ := En'.J
    have hgo : ∀ i, ∃ q, Goes i (d.c.P i) (ownOf i p.log) (toldOf i p.u.1) q /\ (match p.st i with | .born => toldOf i p.u.1 = [] | .stands r => ∃ k, q = .step r k | .over => q = .done) := fun i => En'.Q i
    obtain ⟨A, pc, tc, I⟩ := pinv_all x.ok E.z R
    have IM : WMI d p.u.1 p.u.2 h' := En'.I
    obtain ⟨aw, kw, ew⟩ := En'.went.val
    obtain ⟨ay, ky, ey⟩ := En'.rdy.val
    obtain ⟨av, kv, ev⟩ := En'.left.val
    obtain ⟨al, kl, el⟩ := En'.log.val
    obtain ⟨fin, hfin, hto⟩ : ∃ fin : Bool, er = (if fin then 1 else 2) /\ (fin = true -> ∀ i, A.o i = A.t i) := by
      rcases En'.how with ⟨z1, z2, -⟩ | ⟨z1, -, -⟩
      · refine ⟨true, z1, fun _ => ?_⟩
        obtain ⟨q, hq, hs⟩ := hgo 1
        rcases En'.reg.alive 1 (by omega) with ⟨a1, -⟩ | ⟨a1, a2⟩
        · have : 1 ∈ p.live 2 := mem_live.2 ⟨by omega, a1⟩
          rw [z2] at this; cases this
        · rw [a2] at hs
          subst hs
          have h1 : S 1 = .done := R.left hq nofun
          have h2 := I.res1
          rw [h1] at h2
          exact tRes_done I.tt h2.symm
      · exact ⟨false, z1, fun h => by cases h⟩
    refine ⟨fin, lL, lW, lY, lV, p.u.2, p.log.length, A.k, wfold p.u.1, pfl pc, A.q, A.o, cutV d.c.G.m A.c, by rw [<- hfin], ⟨⟨_, _, _, el⟩, ⟨_, _, _, ew⟩, ⟨_, _, _, ey⟩, ⟨_, _, _, ev⟩⟩, ⟨I.dr x.ok hto, IM.M, fun k hk => ?_, x.rep.inj⟩, IM.new, up.size, fun b hb' => IM.old b hb'⟩
    by_cases hv : isV k
    · have hc : k.2.2 < d.c.G.m := by
        rcases okP_cases hk with rfl | rfl | rfl | ⟨q, hq, rfl | rfl | rfl | rfl⟩ | ⟨q, j, hq, hj, rfl | rfl | rfl⟩ <;> first | exact hj | (show 0 < _; omega)
      show h'[d.c.G.B k]? = some (priO d.c.G (cutV d.c.G.m A.c) k)
      rw [priO_v hv, cutV_eq hc, <- I.cel k hk hv]
      exact En'.cel (d.c.G.B k) ⟨k, hk, hv, rfl⟩
    · show h'[d.c.G.B k]? = some (priO d.c.G (cutV d.c.G.m A.c) k)
      rw [priO_other (v' := fun _ => 0) hv]
      obtain ⟨h1, h2⟩ := x.oldG hk hv
      exact (IM.old _ h1).trans h2
  · exact y.elim
end
end
section
open Go Go.TJ Go.Conc Go.Proofs
section
variable {Γ : Type} {main : Bool} {S : Sit Γ} {h h' : Hp} {δ : Ix Γ} {N L : Int}
theorem pow_le_12w {e : Nat} : 2 ^ e <= 4096 ↔ e <= 12 := by
  rw [show 4096 = 2 ^ 12 by decide]; exact Nat.pow_le_pow_iff_right (by decide)
set_option maxRecDepth 8000 in
set_option maxHeartbeats 4000000 in
theorem wmay_ok : CallW Try.prog main S 39 #[.int .i64 N] h δ (Ret fun v h' δ' => h' = h /\ δ' = δ /\ ∃ b, v = .bool b /\ (b = true ↔ ∃ e : Nat, 1 <= e /\ e <= 12 /\ N = ((2 ^ e : Nat) : Int))) := by
  refine CallW.start (n := 11) rfl rfl ?_
  (repeat (first | refine EK.seq ?_ | refine EK.region ?_ | refine ER.done ?_ | refine EK.block ?_ | refine ER.assign rfl rfl rfl ?_))
  refine EK.loopInv (fun k : Nat => [(3, .int .i64 k), (2, .bool false), (0, .int .i64 N)]) (fun k h' δ' => h' = h /\ δ' = δ /\ ∃ e : Nat, 1 <= e /\ e <= 13 /\ k = 2 ^ e /\ ∀ e' : Nat, 1 <= e' -> e' < e -> N ≠ ((2 ^ e' : Nat) : Int)) (fun k => 8192 - k) 2 ⟨rfl, rfl, rfl, trivial⟩ ⟨rfl, rfl, 1, by omega, by omega, rfl, fun e' h1 h2 => by omega⟩ ?_
  rintro k h1 δ1 ⟨rfl, rfl, e, e1, e2, rfl, hno⟩ again
  by_cases hk : 2 ^ e <= 4096
  · have e12 := pow_le_12w.1 hk
    by_cases hN : ((2 ^ e : Nat) : Int) = N
    · subst hN
      generalize hg : 2 ^ e = g at hk again
      (repeat (first | refine EK.seq ?_ | refine EK.region ?_ | refine ER.done ?_ | refine EK.skip ?_ | refine EK.block ?_ | refine ER.move rfl rfl rfl ?_ | refine ER.assign rfl rfl rfl ?_ | refine ER.cmpT rfl rfl rfl rfl rfl (by first | (dsimp only [cmpP]; omega) | exact rfl | exact Int.le_refl _) ?_ | refine EK.condT rfl ?_ | refine EK.ret ?_))
      exact EU.ret1 rfl rfl ⟨rfl, rfl, true, rfl, fun _ => ⟨e, e1, e12, by rw [hg]⟩, fun _ => rfl⟩
    · have hp : 0 < 2 ^ e := Nat.two_pow_pos e
      have h2 : 2 * 2 ^ e = 2 ^ (e + 1) := by rw [Nat.pow_succ]; omega
      generalize hg : 2 ^ e = g at hk again hN hp h2
      (repeat (first | refine EK.seq ?_ | refine EK.region ?_ | refine ER.done ?_ | refine EK.skip ?_ | refine EK.block ?_ | refine EK.inBlock ?_ | refine ER.move rfl rfl rfl ?_ | refine ER.assign rfl rfl rfl ?_ | refine ER.cmpT rfl rfl rfl rfl rfl (by first | (dsimp only [cmpP]; omega) | exact rfl | exact Int.le_refl _) ?_ | refine ER.cmpF rfl rfl rfl rfl rfl (by first | (dsimp only [cmpP]; omega) | exact rfl | exact Int.le_refl _) ?_ | refine ER.mul (kd := .i64) rfl rfl rfl rfl (i64_in (by omega) (by omega)) ?_ | refine EK.condT rfl ?_ | refine EK.condF rfl ?_))
      rw [show (2 * (g : Int)) = ((2 * g : Nat) : Int) by omega]
      refine EK.back (again (2 * g) _ _ (by omega) ⟨rfl, rfl, e + 1, by omega, by omega, h2, fun e' q1 q2 => ?_⟩) ⟨rfl, rfl, rfl, trivial⟩
      by_cases q : e' = e
      · rw [q, hg]; exact fun x => hN x.symm
      · exact hno e' q1 (by omega)
  · have e12 : ¬ e <= 12 := fun x => hk (pow_le_12w.2 x)
    generalize hg : 2 ^ e = g at hk again
    (repeat (first | refine EK.seq ?_ | refine EK.region ?_ | refine ER.done ?_ | refine ER.move rfl rfl rfl ?_ | refine ER.assign rfl rfl rfl ?_ | refine ER.cmpF rfl rfl rfl rfl rfl (by first | (dsimp only [cmpP]; omega) | exact rfl | exact Int.le_refl _) ?_ | refine EK.condF rfl ?_ | refine EK.ret ?_ | refine EK.exit rfl ?_))
    exact EU.ret1 rfl rfl ⟨rfl, rfl, false, rfl, fun x => (by cases x), fun ⟨e', q1, q2, q3⟩ => absurd q3 (hno e' q1 (by omega))⟩
set_option maxRecDepth 8000 in
set_option maxHeartbeats 8000000 in
theorem wlong_ok : CallW Try.prog main S 14 #[.agg #[.int .i64 L, .int .i64 N, nilS, nilS]] h δ (Ret fun v h' δ' => δ' = δ /\ Upd (fun _ => False) h h' /\ ∃ b, v = .bool b /\ (b = false -> 1 <= L /\ L <= 8 /\ ∃ n e : Nat, N = n /\ n = 2 ^ e /\ 1 <= e /\ e <= 12)) := by
  obtain ⟨y, hy⟩ : ∃ y, y = h.size := ⟨_, rfl⟩
  refine CallW.start (n := 64) rfl rfl ?_
  (repeat (first | refine EK.seq ?_ | refine EK.region ?_ | refine ER.done ?_ | refine EK.block ?_ | refine ER.assign rfl rfl rfl ?_ | refine ER.boxA rfl rfl rfl ?_))
  refine EK.gen (fun h' => Upd (fun _ => False) h h' /\ h'[y]? = some (.cells #[.int .i64 L, .int .i64 N, nilS, nilS] 57 (0, 0))) ⟨Upd.push _ _, by rw [hy]; exact get_push_new _ _⟩ ?_
  rw [<- hy]
  clear hy
  rintro h1 ⟨uu, gy⟩
  have y1 : hcell h1 ⟨y, 2, none⟩ = some nilS := hcell_of gy rfl
  refine EK.loop ?_
  have y2 : hcell h1 ⟨y, 3, none⟩ = some nilS := hcell_of gy rfl
  have y0 : hcell h1 ⟨y, 0, none⟩ = some (.int .i64 L) := hcell_of gy rfl
  have yn : hcell h1 ⟨y, 1, none⟩ = some (.int .i64 N) := hcell_of gy rfl
  by_cases l1 : L < 1
  · skip
    (repeat (first | refine EK.seq ?_ | refine EK.region ?_ | refine ER.done ?_ | refine ER.move rfl rfl rfl ?_ | refine ER.assign rfl rfl rfl ?_ | refine ER.fieldAddr rfl rfl rfl ?_ | refine ER.load1 rfl rfl rfl (hcell_of (by assumption) rfl) ?_ | refine ER.no rfl rfl ?_ | refine ER.pickT rfl rfl rfl rfl ?_ | refine ER.pickF rfl rfl rfl rfl ?_ | refine ER.cmpT rfl rfl rfl rfl rfl (by first | (dsimp only [cmpP]; omega) | exact rfl | exact Int.le_refl _) ?_ | refine ER.cmpF rfl rfl rfl rfl rfl (by first | (dsimp only [cmpP]; omega) | exact rfl | exact Int.le_refl _) ?_ | refine ER.len1 rfl rfl rfl ?_ | refine EK.condF rfl ?_ | refine EK.ret ?_ | refine EK.exit rfl ?_))
    exact EU.ret1 rfl rfl ⟨rfl, uu, _, rfl, fun e => by cases e⟩
  · by_cases l2 : L > 8
    · skip
      (repeat (first | refine EK.seq ?_ | refine EK.region ?_ | refine ER.done ?_ | refine ER.move rfl rfl rfl ?_ | refine ER.assign rfl rfl rfl ?_ | refine ER.fieldAddr rfl rfl rfl ?_ | refine ER.load1 rfl rfl rfl (hcell_of (by assumption) rfl) ?_ | refine ER.no rfl rfl ?_ | refine ER.pickT rfl rfl rfl rfl ?_ | refine ER.pickF rfl rfl rfl rfl ?_ | refine ER.cmpT rfl rfl rfl rfl rfl (by first | (dsimp only [cmpP]; omega) | exact rfl | exact Int.le_refl _) ?_ | refine ER.cmpF rfl rfl rfl rfl rfl (by first | (dsimp only [cmpP]; omega) | exact rfl | exact Int.le_refl _) ?_ | refine ER.len1 rfl rfl rfl ?_ | refine EK.condF rfl ?_ | refine EK.ret ?_ | refine EK.exit rfl ?_))
      exact EU.ret1 rfl rfl ⟨rfl, uu, _, rfl, fun e => by cases e⟩
    · skip
      (repeat (first | refine EK.seq ?_ | refine EK.region ?_ | refine ER.done ?_ | refine ER.move rfl rfl rfl ?_ | refine ER.fieldAddr rfl rfl rfl ?_ | refine ER.load1 rfl rfl rfl (hcell_of (by assumption) rfl) ?_ | refine ER.no rfl rfl ?_ | refine ER.pickF rfl rfl rfl rfl ?_ | refine ER.cmpF rfl rfl rfl rfl rfl (by first | (dsimp only [cmpP]; omega) | exact rfl | exact Int.le_refl _) ?_ | refine ER.len1 rfl rfl rfl ?_ | refine EK.condF rfl ?_ | refine EK.exit rfl ?_))
      refine ER.callR rfl rfl rfl rfl rfl wmay_ok ?_
      rintro _ h3 δ3 ⟨rfl, rfl, b, rfl, hb⟩
      cases b with
      | false =>
        (repeat (first | refine ER.done ?_ | refine ER.move rfl rfl rfl ?_ | refine ER.assign rfl rfl rfl ?_ | refine ER.no rfl rfl ?_ | refine ER.notB rfl rfl rfl ?_ | refine ER.pickT rfl rfl rfl rfl ?_ | refine ER.pickF rfl rfl rfl rfl ?_ | refine EK.ret ?_))
        exact EU.ret1 rfl rfl ⟨rfl, uu, _, rfl, fun e => by cases e⟩
      | true =>
        obtain ⟨e, e1, e12, hN⟩ := hb.1 rfl
        by_cases c5 : N <= 64
        · (repeat (first | refine ER.done ?_ | refine ER.move rfl rfl rfl ?_ | refine ER.assign rfl rfl rfl ?_ | refine ER.fieldAddr rfl rfl rfl ?_ | refine ER.load1 rfl rfl rfl (hcell_of (by assumption) rfl) ?_ | refine ER.notB rfl rfl rfl ?_ | refine ER.pickF rfl rfl rfl rfl ?_ | refine ER.cmpF rfl rfl rfl rfl rfl (by first | (dsimp only [cmpP]; omega) | exact rfl | exact Int.le_refl _) ?_ | refine EK.ret ?_))
          exact EU.ret1 rfl rfl ⟨rfl, uu, _, rfl, fun _ => ⟨by omega, by omega, 2 ^ e, e, hN, rfl, e1, e12⟩⟩
        · skip
          (repeat (first | refine ER.done ?_ | refine ER.move rfl rfl rfl ?_ | refine ER.assign rfl rfl rfl ?_ | refine ER.fieldAddr rfl rfl rfl ?_ | refine ER.load1 rfl rfl rfl (hcell_of (by assumption) rfl) ?_ | refine ER.notB rfl rfl rfl ?_ | refine ER.pickF rfl rfl rfl rfl ?_ | refine ER.cmpT rfl rfl rfl rfl rfl (by first | (dsimp only [cmpP]; omega) | exact rfl | exact Int.le_refl _) ?_ | refine EK.ret ?_))
          exact EU.ret1 rfl rfl ⟨rfl, uu, _, rfl, fun e => by cases e⟩
end
end
section
open Go Go.TJ Go.Proofs
theorem bst_none {H : Nat -> Hd} : ∀ {n : Nat}, (∀ q, q < n -> (H q).1 = false) -> bst H n = none
  | 0, _ => rfl
  | n + 1, h => by
    unfold bst
    rw [if_neg (fun x => by rw [h n (by omega)] at x; cases x.1)]
    exact bst_none (fun q hq => h q (by omega))
theorem bst_one {H : Nat -> Hd} {a : Nat} (ha : (H a).1 = true) : ∀ {n : Nat}, a < n -> (∀ q, q < n -> q ≠ a -> (H q).1 = false) -> bst H n = some a
  | 0, h, _ => by omega
  | n + 1, h, hq => by
    unfold bst
    by_cases e : a = n
    · subst e
      have := bst_none (n := a) (fun q hqa => hq q (by omega) (by omega))
      rw [if_pos ⟨ha, fun b hb => by rw [this] at hb; cases hb⟩]
    · rw [if_neg (fun x => by rw [hq n (by omega) (fun y => e y.symm)] at x; cases x.1)]
      exact bst_one ha (by omega) (fun q hqn => hq q (by omega))
theorem bst_two {H : Nat -> Hd} {a b : Nat} (hab : a < b) (ha : (H a).1 = true) (hb : (H b).1 = true) : ∀ {n : Nat}, b < n -> (∀ q, q < n -> q ≠ a -> q ≠ b -> (H q).1 = false) -> bst H n = some (if 64 * ((b : Int) - a) > (H b).2.2 - (H a).2.2 then b else a)
  | 0, h, _ => by omega
  | n + 1, h, hq => by
    unfold bst
    by_cases e : b = n
    · subst e
      have h1 := bst_one ha hab (fun q hqa hqb => hq q (by omega) hqb (by omega))
      by_cases hgo : 64 * ((b : Int) - a) > (H b).2.2 - (H a).2.2
      · rw [if_pos ⟨hb, fun c hc => by rw [h1] at hc; cases hc; exact hgo⟩, if_pos hgo]
      · rw [if_neg (fun x => hgo (x.2 a h1)), if_neg hgo, h1]
    · rw [if_neg (fun x => by rw [hq n (by omega) (by omega) (fun y => e y.symm)] at x; cases x.1)]
      exact bst_two hab ha hb (by omega) (fun q hqn => hq q (by omega))
def TickB (v : Key -> Int) : Prop := ∀ q j, 0 <= v (kTick q j) /\ v (kTick q j) <= 1000000
theorem tickB0 : TickB v0 := fun q j => by simp [v0]
theorem TickB.put {v : Key -> Int} (t : TickB v) {m i I : Nat} {K x : Int} (h0 : 0 <= K) (h1 : K < 1000000) : TickB (putV m v i I K x) := fun q j => by
  unfold putV
  rw [ut_ne _ _ (by simp), ut_ne _ _ (by simp)]
  by_cases e : (kTick q j) = kTick i (I % m)
  · rw [e, ut_same]; omega
  · rw [ut_ne _ _ e, ut_ne _ _ (by simp), ut_ne _ _ (by simp)]; exact t q j
theorem TickB.take {v : Key -> Int} (t : TickB v) {m b o : Nat} : TickB (takeV m v b o) := fun q j => by
  unfold takeV
  rw [ut_ne _ _ (by simp), ut_ne _ _ (by simp)]; exact t q j
theorem TickB.b {v : Key -> Int} (t : TickB v) (q j : Nat) : -2305843009213693952 <= v (kTick q j) /\ v (kTick q j) <= 2305843009213693952 := by
  have := t q j; omega
theorem hdF_fst {G : PG} {v : Key -> Int} {oN : Nat -> Nat} {q : Nat} : (hdF G v oN 0 q).1 = true ↔ q < G.L /\ v (kTurn q (oN q % G.m)) = oN q + 1 := by
  unfold hdF
  by_cases h : 0 <= q /\ q < G.L /\ v (kTurn q (oN q % G.m)) = oN q + 1
  · rw [if_pos h]; simp [h.2]
  · rw [if_neg h]; simp only [Bool.false_eq_true, false_iff]; exact fun x => h ⟨Nat.zero_le _, x⟩
theorem hdF_tick {G : PG} {v : Key -> Int} {oN : Nat -> Nat} {q : Nat} (h : q < G.L /\ v (kTurn q (oN q % G.m)) = oN q + 1) : (hdF G v oN 0 q).2.2 = v (kTick q (oN q % G.m)) := by
  unfold hdF
  rw [if_pos ⟨Nat.zero_le _, h⟩]
theorem hdF_not {G : PG} {v : Key -> Int} {oN : Nat -> Nat} {q : Nat} (h : ¬ (q < G.L /\ v (kTurn q (oN q % G.m)) = oN q + 1)) : (hdF G v oN 0 q).1 = false := by
  cases e : (hdF G v oN 0 q).1
  · rfl
  · exact absurd (hdF_fst.1 e) h
section
variable {Γ : Type} {main : Bool} {h : Hp} {δ : Ix Γ}
theorem pfree {G : PG} {γ : Γ} : PFree NoS γ G := fun _ _ _ x => x
set_option maxHeartbeats 2000000 in
theorem works_ok : CallW Try.prog main NoS 13 #[] h δ (Ret fun w h' δ' => w = .bool true /\ Upd (fun _ => False) h h' /\ δ' = δ) := by
  refine CallW.start (n := 79) rfl rfl ?_
  (repeat (first | refine EK.seq ?_ | refine EK.region ?_ | refine ER.done ?_ | refine ER.assign rfl rfl rfl ?_))
  refine ER.callR rfl rfl rfl rfl rfl (new_ok (L := 2) (m := 2) (e := 1) (by omega) (by omega) rfl (by omega) (by omega) (fun _ _ _ x => x)) ?_
  rintro _ h1 δ1 ⟨rfl, u1, G, rfl, gL, gm, r1, ab⟩
  have own : ∀ {v : Key → Int} b, (priM G v).Own b → h.size ≤ b := fun b hb => by 
                                                                              obtain ⟨k, hk, rfl⟩ := hb
                                                                              have hk' : okP G.L G.m k := hk
                                                                              rw [gL, gm] at hk'
                                                                              exact ab k hk'
  (repeat (first | refine EK.seq ?_ | refine EK.region ?_ | refine ER.done ?_ | refine ER.move rfl rfl rfl ?_ | refine ER.assign rfl rfl rfl ?_ | refine ER.eqV rfl rfl rfl rfl rfl ?_ | refine ER.pickF rfl rfl rfl rfl ?_ | refine ER.extract rfl rfl rfl rfl ?_ | refine ER.cmpF rfl rfl rfl rfl rfl (by first | (dsimp only [cmpP]; omega) | exact rfl | exact Int.le_refl _) ?_))
  refine ER.callR rfl rfl rfl rfl rfl (put_ok (i := 0) (I := 0) (e := 1) (K := 0) (x := 7) r1 (by omega) (by rw [gm]) (by omega) rfl (by omega) (by rw [gm]; rfl) rfl (by omega) (by omega) pfree) ?_
  rintro _ h2 δ2 ⟨rfl, rfl, r2, u2⟩
  have w2 := u1.over u2 own
  rw [gm] at r2
  (repeat (first | refine ER.move rfl rfl rfl ?_ | refine ER.pickF rfl rfl rfl rfl ?_ | refine ER.cmpF rfl rfl rfl rfl rfl (by first | (dsimp only [cmpP]; omega) | exact rfl | exact Int.le_refl _) ?_))
  refine ER.callR rfl rfl rfl rfl rfl (put_ok (i := 1) (I := 0) (e := 1) (K := 1) (x := 8) r2 (by omega) (by rw [gm]) (by omega) (by simp [putV, ut, v0]) (by omega) (by rw [gm]; simp [putV, ut, v0]) (by simp [putV, ut]) (by omega) (by omega) pfree) ?_
  rintro _ h3 δ3 ⟨rfl, rfl, r3, u3⟩
  have w3 := w2.over u3 own
  rw [gm] at r3
  (repeat (first | refine ER.move rfl rfl rfl ?_ | refine ER.pickF rfl rfl rfl rfl ?_ | refine ER.cmpF rfl rfl rfl rfl rfl (by first | (dsimp only [cmpP]; omega) | exact rfl | exact Int.le_refl _) ?_))
  refine ER.callD rfl rfl rfl rfl rfl (put_arg (on := 2) r3 (.inr (by rw [gL]; decide))) ?_
  have t3 : TickB (putV 2 (putV 2 v0 0 0 0 7) 1 0 1 8) := (tickB0.put (by omega) (by omega)).put (by omega) (by omega)
  obtain ⟨w, hw⟩ : ∃ w, w = putV 2 (putV 2 v0 0 0 0 7) 1 0 1 8 := ⟨_, rfl⟩
  rw [<- hw] at r3 t3
  have f0 : w (kTurn 0 0) = 1 := by rw [hw]; simp [putV, ut]
  have f1 : w (kTurn 1 0) = 1 := by rw [hw]; simp [putV, ut]
  have f2 : w (kTick 0 0) = 1 := by rw [hw]; simp [putV, ut]
  have f3 : w (kTick 1 0) = 2 := by rw [hw]; simp [putV, ut]
  have f4 : ∀ q, w (kOut q) = 0 := fun q => by rw [hw]; simp [putV, ut, v0]
  have f5 : w (kSlot 1 0) = 8 := by rw [hw]; simp [putV, ut]
  have f6 : w (kSlot 0 0) = 7 := by rw [hw]; simp [putV, ut]
  have f7 : ∀ q, w (kTurn q 1) = 1 := fun q => by rw [hw]; simp [putV, ut, v0]
  clear hw
  have b1 : bst (hdF G w (fun _ => 0) 0) 8 = some 1 := by
    have h0 : 0 < G.L /\ w (kTurn 0 (0 % G.m)) = ((0 : Nat) : Int) + 1 := ⟨by omega, by rw [gm]; exact f0⟩
    have h1 : 1 < G.L /\ w (kTurn 1 (0 % G.m)) = ((0 : Nat) : Int) + 1 := ⟨by omega, by rw [gm]; exact f1⟩
    rw [bst_two (a := 0) (b := 1) (by omega) (hdF_fst.2 h0) (hdF_fst.2 h1) (by omega) (fun q _ h2 h3 => hdF_not (fun x => by have := x.1; omega)), hdF_tick h1, hdF_tick h0, gm]
    rw [show w (kTick 1 (0 % 2)) = 2 from f3, show w (kTick 0 (0 % 2)) = 1 from f2, if_pos (by decide)]
  (repeat (first | refine EK.seq ?_ | refine EK.region ?_ | refine ER.done ?_ | refine EK.skip ?_ | refine ER.move rfl rfl rfl ?_ | refine ER.pickF rfl rfl rfl rfl ?_ | refine ER.cmpF rfl rfl rfl rfl rfl (by first | (dsimp only [cmpP]; omega) | exact rfl | exact Int.le_refl _) ?_ | refine EK.condF rfl ?_))
  refine ER.callR rfl rfl rfl rfl rfl (take_ok (b := 1) (e := 1) (oN := fun _ => 0) r3 (by rw [gm]) (by omega) (by omega) (by omega) (fun q _ => ⟨by rw [f4]; rfl, by omega⟩) (fun q j _ => t3.b q j) (fun _ _ _ x => x) pfree b1) ?_
  rintro _ h4 δ4 ⟨rfl, rfl, r4, u4⟩
  have w4 := w3.over u4 own
  rw [gm] at r4 ⊢
  rw [show w (kSlot 1 (0 % 2)) = 8 from f5]
  have t4 := t3.take (m := 2) (b := 1) (o := 0)
  have b2 : bst (hdF G (takeV 2 w 1 0) (fun q => if q = 1 then 1 else 0) 0) 8 = some 0 := by
    refine bst_one (hdF_fst.2 ⟨by omega, ?_⟩) (by omega) (fun q _ h0 => hdF_not (fun x => ?_))
    · rw [gm]; simp [takeV, ut]; exact f0
    · obtain ⟨x1, x2⟩ := x
      obtain rfl : q = 1 := by omega
      rw [gm] at x2
      simp [takeV, ut] at x2
      rw [f7] at x2
      omega
  (repeat (first | refine EK.seq ?_ | refine EK.region ?_ | refine ER.done ?_ | refine ER.move rfl rfl rfl ?_ | refine ER.assign rfl rfl rfl ?_ | refine ER.extract rfl rfl rfl rfl ?_))
  refine ER.callR rfl rfl rfl rfl rfl (take_ok (b := 0) (e := 1) (oN := fun q => if q = 1 then 1 else 0) r4 (by rw [gm]) (by omega) (by omega) (by omega) (fun q _ => ⟨?_, ?_⟩) (fun q j _ => t4.b q j) (fun _ _ _ x => x) pfree b2) ?_
  · by_cases e : q = 1
    · subst e; simp [takeV, ut]
    · rw [if_neg e]; simp [takeV, ut, e]; exact f4 q
  · split <;> omega
  rintro _ h5 δ5 ⟨rfl, rfl, r5, u5⟩
  have w5 := w4.over u5 own
  rw [gm] at r5 ⊢
  rw [show takeV 2 w 1 0 (kSlot 0 ((if 0 = 1 then 1 else 0) % 2)) = 7 by simp [takeV, ut]; exact f6]
  have t5 := t4.take (m := 2) (b := 0) (o := 0)
  have b3 : bst (hdF G (takeV 2 (takeV 2 w 1 0) 0 0) (fun _ => 1) 0) 8 = none := by
    refine bst_none (fun q _ => hdF_not (fun x => ?_))
    obtain ⟨x1, x2⟩ := x
    rw [gm] at x2
    simp [takeV, ut] at x2
    rw [f7] at x2
    omega
  (repeat (first | refine EK.seq ?_ | refine EK.region ?_ | refine ER.done ?_ | refine ER.move rfl rfl rfl ?_ | refine ER.assign rfl rfl rfl ?_ | refine ER.extract rfl rfl rfl rfl ?_))
  refine ER.callR rfl rfl rfl rfl rfl (take_none (e := 1) (oN := fun _ => 1) r5 (by rw [gm]) (by omega) (by omega) (by omega) (fun q hq => ⟨?_, by omega⟩) (fun q j _ => t5.b q j) (fun _ _ _ x => x) b3) ?_
  · rcases (show q = 0 \/ q = 1 by omega) with rfl | rfl <;> simp [takeV, ut]
  rintro _ h6 δ6 ⟨rfl, rfl, u6⟩
  (repeat (first | refine EK.seq ?_ | refine EK.region ?_ | refine ER.done ?_ | refine ER.move rfl rfl rfl ?_ | refine ER.assign rfl rfl rfl ?_ | refine ER.notB rfl rfl rfl ?_ | refine ER.pickT rfl rfl rfl rfl ?_ | refine ER.extract rfl rfl rfl rfl ?_ | refine ER.cmpT rfl rfl rfl rfl rfl (by first | (dsimp only [cmpP]; omega) | exact rfl | exact Int.le_refl _) ?_ | refine EK.ret ?_))
  exact EU.ret1 rfl rfl ⟨rfl, w5.trans u6, rfl⟩
end
end
section
open Go Go.TJ Go.Conc Go.Proofs
theorem pushesW (h : Hp) : ∀ (l : List Obj), Upd (fun _ => False) h (l.foldl Array.push h) /\ (l.foldl Array.push h).size = h.size + l.length /\ ∀ i o, l[i]? = some o -> (l.foldl Array.push h)[h.size + i]? = some o := by
  intro l
  induction l generalizing h with
  | nil => exact ⟨Upd.refl _ _, rfl, fun i o hi => by cases hi⟩
  | cons a l ih =>
    obtain ⟨i1, i2, i3⟩ := ih (h.push a)
    refine ⟨(Upd.push _ _).trans i1, ?_, fun i o hi => ?_⟩
    · show (l.foldl Array.push (h.push a)).size = _
      rw [i2, Array.size_push, List.length_cons]; omega
    · show (l.foldl Array.push (h.push a))[h.size + i]? = _
      cases i with
      | zero =>
        have e : a = o := by simpa using hi
        subst e
        exact i1.get (get_push_new h a) (fun x => x)
      | succ i =>
        have := i3 i o (by simpa using hi)
        rw [Array.size_push] at this
        rw [show h.size + (i + 1) = h.size + 1 + i by omega]; exact this
theorem exists_idxW {cs : Key -> Prop} {B : Key -> Nat} (inj : ∀ j k, cs j -> cs k -> B j = B k -> j = k) : ∃ idx : Nat -> Key, ∀ k, cs k -> idx (B k) = k := by
  classical
  refine ⟨fun b => if h : ∃ k, cs k /\ B k = b then Classical.choose h else (0, 0, 0), fun k hk => ?_⟩
  have h : ∃ j, cs j /\ B j = B k := ⟨k, hk, rfl⟩
  simp only [dif_pos h]
  exact inj _ _ (Classical.choose_spec h).1 hk (Classical.choose_spec h).2
def pnm (y : Nat) : PNm -> Nat
  | .ts => y
  | .there => y + 1
  | .wrong => y + 2
  | .last => y + 3
theorem pnm_inj {y : Nat} : ∀ {j k : PNm}, pnm y j = pnm y k -> j = k := by
  intro j k e
  cases j <;> cases k <;> first | rfl | (exfalso; simp only [pnm] at e; omega)
section
variable {h : Hp}
theorem wdrain_ok {d : W1} {fin : Bool} {e m k : Nat} {s : WS} {mv : Value} {fl : Bool} {q : Nat -> List Nat} {o : Nat -> Nat} {v : Key -> Int} {by_ bp : Nat} {takes : Int} {pS kS : Value} (E : WEd d fin s mv k fl q o v h) (hm : d.c.G.m = 2 ^ e) (he : e <= 12) (hL1 : 1 <= d.c.G.L) (hL8 : d.c.G.L <= 8)
    (hp : hcell h ⟨bp, 0, none⟩ = some (ptr (d.c.G.B kTop))) (hy : h[by_]? = some (.cells #[.int .i64 d.c.G.L, .int .i64 d.c.G.m, pS, .int .i64 takes, kS] 54 (0, 0)))
    (hyB : ∀ k, okP d.c.G.L d.c.G.m k -> by_ ≠ d.c.G.B k) (hDB : ∀ j k, okP d.c.G.L d.c.G.m k -> d.D j ≠ d.c.G.B k) (hmB : ∀ b, blk mv = some b -> ∀ k, okP d.c.G.L d.c.G.m k -> b ≠ d.c.G.B k) :
    CallW Try.prog true (NoS (Γ := Nat)) 16 #[.pointer none, ptr bp, ptr (d.D .ts), ptr (d.D .last), ptr (d.D .wrong), ptr by_, ptr (d.D .there)] h ⟨0, m⟩ (Ret fun w h' δ' => δ' = ⟨0, m⟩ /\ ((w = .bool false /\ (fin = true -> s.there = 0) /\ Upd (fun _ => False) h h') \/
      (w = .bool true /\ ∃ s' o' v', WEd d fin s' mv k fl q o' v' h' /\ s'.there = s.there - 1 /\ Upd (fun b => ((∃ k, b = d.D k) \/ ∃ k, okP d.c.G.L d.c.G.m k /\ b = d.c.G.B k) \/ blk mv = some b) h h'))) := by
  have hO : ∀ q, q < d.c.G.L -> v (kOut q) = o q /\ o q < 2305843009213693952 := fun i hi => ⟨E.dr.out i hi, by have := E.dr.le i hi; omega⟩
  have hT : ∀ q j, q < d.c.G.L -> -2305843009213693952 <= v (kTick q j) /\ v (kTick q j) <= 2305843009213693952 := fun i j hi => by have := E.dr.tick i j hi; omega
  have m0 : 0 < d.c.G.m := by rw [hm]; exact Nat.two_pow_pos e
  have conv : ∀ {Q : Value -> Hp -> Ix Nat -> Prop} {f : FuncId} {args : Array Value} [HasBody Try.prog f], CallW Try.prog true (NoS (Γ := Nat)) f args h ⟨0, m⟩ (RetP Q fun _ _ _ => False) -> CallW Try.prog true (NoS (Γ := Nat)) f args h ⟨0, m⟩ (Ret Q) := fun x => x.mono (by
    rintro (w | p) h' δ' z
    · exact z
    · exact z.elim)
  have conv' : ∀ {Q : Value -> Hp -> Ix Nat -> Prop} {f : FuncId} {args : Array Value} [HasBody Try.prog f], CallW Try.prog true (NoS (Γ := Nat)) f args h ⟨0, m⟩ (Ret Q) -> CallW Try.prog true (NoS (Γ := Nat)) f args h ⟨0, m⟩ (RetP Q fun _ _ _ => False) := fun x => x.mono (by
    rintro (w | p) h' δ' z
    · exact z
    · exact z.elim)
  cases hb : bst (hdF d.c.G v o 0) 8 with
  | none =>
    refine conv (wtake_ok (i := 2) (L := d.c.G.L) (m4 := .int .i64 d.c.G.m) (takes := .int .i64 takes) (pS := pS) (kS := kS) hp (conv' (take_none (oN := o) E.pri hm he hL1 hL8 hO hT (fun _ _ _ x => x) hb)) ?_)
    rintro w h' δ' ⟨rfl, rfl, u⟩
    exact ⟨0, 0, false, rfl, fun _ => ⟨rfl, .inl ⟨rfl, fun hf => E.dr.nil hL8 hb hf, u⟩⟩, (fun z => by cases z)⟩
  | some b =>
    obtain ⟨w0, hbL, hv, hok, dr⟩ := E.dr.one hL8 m0 hb
    refine conv (wtake_ok (i := 2) (L := d.c.G.L) (m4 := .int .i64 d.c.G.m) (takes := .int .i64 takes) (pS := pS) (kS := kS) hp (conv' (take_ok (oN := o) E.pri hm he hL1 hL8 hO hT (fun _ _ _ x => x) (fun _ _ _ x => x) hb)) ?_)
    rintro w h1 δ' ⟨rfl, rfl, r1, u1⟩
    have u1' : Upd (fun b => ∃ k, okP d.c.G.L d.c.G.m k /\ b = d.c.G.B k) h h1 := u1.mono fun b _ x => x
    rw [hv]
    refine ⟨w0, b, true, rfl, (fun z => by cases z), fun _ => ⟨s, mv, ⟨hok, ⟨E.M.rep.upd u1' fun k _ ⟨j, hj, e⟩ => hDB k j hj e, E.M.sl.upd u1' fun b hb' ⟨j, hj, e⟩ => hmB b hb' j hj e, E.M.nb⟩, u1'.get hy fun ⟨j, hj, e⟩ => hyB j hj e, fun _ _ x => x, fun _ _ _ x => x, hL8⟩, fun h2 u2 M2 => ?_⟩⟩
    refine ⟨rfl, .inr ⟨rfl, _, _, _, ⟨dr, M2, r1.upd u2 fun k hk z => ?_⟩, ?_, (u1'.mono fun b _ x => .inl (.inr x)).trans (u2.mono fun b _ x => x.elim (fun y => .inl (.inl y)) .inr)⟩⟩
    · exact z.elim (fun ⟨j, e⟩ => hDB j k hk e.symm) fun z => hmB _ z k hk rfl
    · show (wstep s (2, .tk w0 b true)).there = _
      simp [wstep]
end
set_option maxRecDepth 8000 in
set_option maxHeartbeats 40000000 in
theorem wwaits_ok {h : Hp} {L N takes : Int} {pS kS : Value} {ps : List Nat} {picks : List Int} (hp : RdS h pS (ps.map fun (x : Nat) => .int .u8 x)) (hk : RdS h kS (picks.map fun x => .int .i64 x)) (big : ps.length <= 1000000000000000 /\ picks.length <= 1000000000000000) (u8 : ∀ x, x ∈ ps -> x < 256) :
    CallW Try.prog true (SwS Try.prog) 4 #[.agg #[.int .i64 L, .int .i64 N, pS, .int .i64 takes, kS]] h ⟨0, 1⟩ (Ret fun v h' δ' => δ'.d = 0 /\ v = .bool true /\ Upd (fun _ => False) h h') := by
  obtain ⟨aP, kP, eP⟩ := hp.val
  rw [List.length_map] at eP
  obtain ⟨aK, kK, eK⟩ := hk.val
  rw [List.length_map] at eK
  subst eP eK
  obtain ⟨big1, big2⟩ := big
  have no : ∀ a, ¬ (SwS Try.prog).still 1 a := fun a x => x
  obtain ⟨bx, hbx⟩ : ∃ bx, bx = h.size := ⟨_, rfl⟩
  refine CallW.start (n := 85) rfl rfl ?_
  (repeat (first | refine EK.seq ?_ | refine EK.region ?_ | refine ER.done ?_ | refine ER.assign rfl rfl rfl ?_ | refine ER.boxA rfl rfl rfl ?_))
  refine ER.callR rfl rfl rfl rfl rfl (works_ok.noS no) ?_
  rintro _ h1 δ1 ⟨rfl, u1, rfl⟩
  have gx : h1[bx]? = some (.cells #[.int .i64 L, .int .i64 N, .slice aP ps.length kP, .int .i64 takes, .slice aK picks.length kK] 54 (0, 0)) := u1.get (by rw [hbx]; exact get_push_new _ _) (fun x => x)
  have uu : Upd (fun _ => False) h h1 := (Upd.push _ _).trans u1
  rw [<- hbx]
  have hbx0 : h.size <= bx := by omega
  clear u1 hbx
  by_cases c1 : ps.length <= 400
  case neg =>
    (repeat (first | refine EK.seq ?_ | refine EK.region ?_ | refine ER.done ?_ | refine ER.move rfl rfl rfl ?_ | refine ER.assign rfl rfl rfl ?_ | refine ER.fieldAddr rfl rfl rfl ?_ | refine ER.load1 rfl rfl rfl (hcell_of (by assumption) rfl) ?_ | refine ER.no rfl rfl ?_ | refine ER.notB rfl rfl rfl ?_ | refine ER.pickT rfl rfl rfl rfl ?_ | refine ER.pickF rfl rfl rfl rfl ?_ | refine ER.cmpT rfl rfl rfl rfl rfl (by first | (dsimp only [cmpP]; omega) | exact rfl | exact Int.le_refl _) ?_ | refine ER.len1 rfl rfl rfl ?_ | refine EK.condT rfl ?_ | refine EK.ret ?_))
    exact EU.ret1 rfl rfl ⟨rfl, rfl, uu⟩
  by_cases c2 : picks.length <= 4000
  case neg =>
    (repeat (first | refine EK.seq ?_ | refine EK.region ?_ | refine ER.done ?_ | refine ER.move rfl rfl rfl ?_ | refine ER.assign rfl rfl rfl ?_ | refine ER.fieldAddr rfl rfl rfl ?_ | refine ER.load1 rfl rfl rfl (hcell_of (by assumption) rfl) ?_ | refine ER.no rfl rfl ?_ | refine ER.notB rfl rfl rfl ?_ | refine ER.pickT rfl rfl rfl rfl ?_ | refine ER.pickF rfl rfl rfl rfl ?_ | refine ER.cmpT rfl rfl rfl rfl rfl (by first | (dsimp only [cmpP]; omega) | exact rfl | exact Int.le_refl _) ?_ | refine ER.cmpF rfl rfl rfl rfl rfl (by first | (dsimp only [cmpP]; omega) | exact rfl | exact Int.le_refl _) ?_ | refine ER.len1 rfl rfl rfl ?_ | refine EK.condT rfl ?_ | refine EK.ret ?_))
    exact EU.ret1 rfl rfl ⟨rfl, rfl, uu⟩
  (repeat (first | refine EK.seq ?_ | refine EK.region ?_ | refine ER.done ?_ | refine ER.move rfl rfl rfl ?_ | refine ER.assign rfl rfl rfl ?_ | refine ER.fieldAddr rfl rfl rfl ?_ | refine ER.load1 rfl rfl rfl (hcell_of (by assumption) rfl) ?_ | refine ER.notB rfl rfl rfl ?_ | refine ER.pickF rfl rfl rfl rfl ?_ | refine ER.cmpF rfl rfl rfl rfl rfl (by first | (dsimp only [cmpP]; omega) | exact rfl | exact Int.le_refl _) ?_ | refine ER.len1 rfl rfl rfl ?_))
  refine ER.loadN (vs := [.int .i64 L, .int .i64 N]) rfl rfl rfl rfl (hrow_block (rest := [.slice aP ps.length kP, .int .i64 takes, .slice aK picks.length kK]) gx) ?_
  refine ER.buildS (cells := #[.int .i64 L, .int .i64 N, nilS, nilS]) rfl rfl (by rfl) (by rfl) ?_
  refine ER.callR rfl rfl rfl rfl rfl wlong_ok ?_
  rintro _ h2 δ2 ⟨rfl, u2, b, rfl, hlong⟩
  replace gx := u2.get gx (fun x => x)
  replace uu := uu.trans u2
  clear u2
  cases b with
  | true =>
    (repeat (first | refine EK.seq ?_ | refine EK.region ?_ | refine ER.done ?_ | refine ER.move rfl rfl rfl ?_ | refine ER.assign rfl rfl rfl ?_ | refine ER.pickF rfl rfl rfl rfl ?_ | refine EK.condT rfl ?_ | refine EK.ret ?_))
    exact EU.ret1 rfl rfl ⟨rfl, rfl, uu⟩
  | false =>
    obtain ⟨hL1, hL8, n, e, rfl, hn, he1, he12⟩ := hlong rfl
    obtain ⟨Ln, rfl⟩ : ∃ Ln : Nat, L = Ln := ⟨L.toNat, by omega⟩
    clear hlong
    have c0 : hcell h2 ⟨bx, 0, none⟩ = some (.int .i64 Ln) := hcell_of gx rfl
    have c1' : hcell h2 ⟨bx, 1, none⟩ = some (.int .i64 n) := hcell_of gx rfl
    (repeat (first | refine EK.seq ?_ | refine EK.region ?_ | refine ER.done ?_ | refine EK.skip ?_ | refine ER.fieldAddr rfl rfl rfl ?_ | refine ER.load1 rfl rfl rfl (hcell_of (by assumption) rfl) ?_ | refine ER.pickF rfl rfl rfl rfl ?_ | refine EK.condF rfl ?_))
    refine ER.callR rfl rfl rfl rfl rfl ((new_ok (L := Ln) (m := n) (e := e) (by omega) (by omega) hn he1 he12 (fun _ _ _ x => x)).noS no) ?_
    rintro _ h3 δ3 ⟨rfl, u3, G, rfl, hGL, hGm, r3, ab⟩
    have hh2 := uu.size
    have lowB : ∀ k, okP Ln n k -> h.size <= G.B k := fun k hk => Nat.le_trans hh2 (ab k hk)
    replace gx := u3.get gx (fun x => x)
    replace uu := uu.trans u3
    clear u3 ab hh2 c0 c1'
    (repeat (first | refine ER.move rfl rfl rfl ?_ | refine ER.extract rfl rfl rfl rfl ?_ | refine ER.alloc rfl rfl ?_))
    refine ER.storeNew rfl rfl rfl rfl ⟨nofun, nofun⟩ (no _) ?_
    obtain ⟨bp, hbp⟩ : ∃ bp, bp = h3.size := ⟨_, rfl⟩
    refine ER.gen (fun h' => Upd (fun _ => False) h3 h' /\ h'[bp]? = some (.cells #[ptr (G.B kTop)] 58 (0, 0))) ⟨Upd.push _ _, by rw [hbp]; exact get_push_new _ _⟩ ?_
    rw [<- hbp]
    clear hbp
    rintro h4 ⟨u4, gp⟩
    replace gx := u4.get gx (fun x => x)
    replace r3 := r3.upd0 u4
    replace uu := uu.trans u4
    clear u4
    have cp : hcell h4 ⟨bp, 0, none⟩ = some (ptr (G.B kTop)) := hcell_of gp rfl
    obtain ⟨y, hy⟩ : ∃ y, y = h4.size := ⟨_, rfl⟩
    have hy0 : h.size <= y := by rw [hy]; exact uu.size
    (repeat (first | refine EK.seq ?_ | refine EK.region ?_ | refine ER.done ?_ | refine EK.skip ?_ | refine ER.move rfl rfl rfl ?_ | refine ER.assign rfl rfl rfl ?_ | refine ER.load1 rfl rfl rfl (hcell_of (by assumption) rfl) ?_ | refine ER.eqV rfl rfl rfl rfl rfl ?_ | refine ER.pickF rfl rfl rfl rfl ?_ | refine ER.cmpF rfl rfl rfl rfl rfl (by first | (dsimp only [cmpP]; omega) | exact rfl | exact Int.le_refl _) ?_ | refine ER.alloc rfl rfl ?_ | refine EK.condF rfl ?_))
    refine ER.storeNew rfl rfl rfl rfl ⟨nofun, nofun⟩ (no _) ?_
    (repeat (first | refine EK.seq ?_ | refine EK.region ?_ | refine ER.done ?_ | refine ER.alloc rfl rfl ?_))
    refine ER.storeNew rfl rfl rfl rfl ⟨nofun, nofun⟩ (no _) ?_
    (repeat (first | refine EK.seq ?_ | refine EK.region ?_ | refine ER.done ?_ | refine ER.allocA rfl rfl ?_))
    simp only [Array.size_push]
    rw [<- hy]
    refine ER.makeFunc (fv := #[]) (cv := #[ptr bp, ptr y, ptr (y + 1 + 1 + 1), ptr (y + 1 + 1), ptr bx, ptr (y + 1)]) rfl rfl (fun ρ hρ => ⟨map_ofL hρ (vs := []) rfl, map_ofL hρ (vs := [ptr bp, ptr y, ptr (y + 1 + 1 + 1), ptr (y + 1 + 1), ptr bx, ptr (y + 1)]) rfl⟩) ?_
    refine ER.gen (fun h' => Upd (fun _ => False) h4 h' /\ h'.size = y + 4 /\ h'[y]? = some (.cells #[nilS] 61 (0, 0)) /\ h'[y + 1]? = some (.cells #[.int .i64 0] 3 (0, 0)) /\ h'[y + 2]? = some (.cells #[.bool false] 4 (0, 0)) /\ h'[y + 3]? = some (.cells (lastC fun _ => 0).toArray 62 (0, 0))) ?_ ?_
    · have q := pushesW h4 [.cells #[nilS] 61, .cells #[.int .i64 0] 3, .cells #[.bool false] 4, .cells (lastC fun _ => 0).toArray 62]
      rw [<- hy] at q
      exact ⟨q.1, q.2.1, q.2.2 0 _ rfl, q.2.2 1 _ rfl, q.2.2 2 _ rfl, q.2.2 3 _ rfl⟩
    rintro h5 ⟨u5, s5, f0, f1, f2, f3⟩
    (repeat refine ER.alloc rfl rfl ?_)
    refine ER.storeNew rfl rfl rfl rfl ⟨nofun, nofun⟩ (no _) ?_
    refine ER.gen (fun h' => Upd (fun _ => False) h5 h' /\ h'.size = y + 5 /\ h'[y + 4]? = some (.cells #[.func (.func 16) #[] #[ptr bp, ptr y, ptr (y + 3), ptr (y + 2), ptr bx, ptr (y + 1)]] 68 (0, 0))) ⟨Upd.push _ _, by rw [Array.size_push, s5], by rw [<- s5]; exact get_push_new _ _⟩ ?_
    rw [s5]
    rintro hA ⟨uA, sA, f4⟩
    have up4A := u5.trans uA
    replace gx := up4A.get gx (fun x => x)
    replace gp := up4A.get gp (fun x => x)
    replace r3 := r3.upd0 up4A
    replace uu := uu.trans up4A
    replace f0 := uA.get f0 (fun x => x)
    replace f1 := uA.get f1 (fun x => x)
    replace f2 := uA.get f2 (fun x => x)
    replace f3 := uA.get f3 (fun x => x)
    clear u5 s5 uA up4A cp
    have c4 : hcell hA ⟨bx, 4, none⟩ = some (.slice aK picks.length kK) := hcell_of gx rfl
    (repeat (first | refine EK.seq ?_ | refine EK.region ?_ | refine ER.done ?_ | refine ER.fieldAddr rfl rfl rfl ?_ | refine ER.load1 rfl rfl rfl (hcell_of (by assumption) rfl) ?_))
    refine ER.makeFunc (fv := #[]) (cv := #[ptr bx, ptr y, ptr (y + 1), ptr bp, ptr (y + 2)]) rfl rfl (fun ρ hρ => ⟨map_ofL hρ (vs := []) rfl, map_ofL hρ (vs := [ptr bx, ptr y, ptr (y + 1), ptr bp, ptr (y + 2)]) rfl⟩) ?_
    skip
    refine ER.makeFunc (fv := #[]) (cv := #[ptr bx, ptr (y + 4)]) rfl rfl (fun ρ hρ => ⟨map_ofL hρ (vs := []) rfl, map_ofL hρ (vs := [ptr bx, ptr (y + 4)]) rfl⟩) ?_
    refine ER.sliceN (sz := 1) (z := .nilFunc) (cells := #[.func (.func 18) #[] #[ptr bx, ptr y, ptr (y + 1), ptr bp, ptr (y + 2)], .func (.func 20) #[] #[ptr bx, ptr (y + 4)]]) rfl rfl rfl (by omega) (by omega) (by kernel_rfl) ?_
    rw [sA]
    obtain ⟨hB, hhB⟩ : ∃ hB, hB = hA.push (.cells #[.func (.func 18) #[] #[ptr bx, ptr y, ptr (y + 1), ptr bp, ptr (y + 2)], .func (.func 20) #[] #[ptr bx, ptr (y + 4)]] 43) := ⟨_, rfl⟩
    have uB : Upd (fun _ => False) hA hB := by rw [hhB]; exact Upd.push _ _
    have f5 : hB[y + 5]? = some (.cells #[.func (.func 18) #[] #[ptr bx, ptr y, ptr (y + 1), ptr bp, ptr (y + 2)], .func (.func 20) #[] #[ptr bx, ptr (y + 4)]] 43 (0, 0)) := by rw [hhB, <- sA]; exact get_push_new _ _
    rw [<- hhB]
    replace gx := uB.get gx (fun x => x)
    replace gp := uB.get gp (fun x => x)
    replace r3 := r3.upd0 uB
    replace uu := uu.trans uB
    replace f0 := uB.get f0 (fun x => x)
    replace f1 := uB.get f1 (fun x => x)
    replace f2 := uB.get f2 (fun x => x)
    replace f3 := uB.get f3 (fun x => x)
    replace f4 := uB.get f4 (fun x => x)
    clear uB hhB sA c4
    obtain ⟨idx, hidx⟩ := exists_idxW (cs := fun k => okP Ln n k) (B := G.B) (fun j k hj hk e => r3.inj j k (by show okP G.L G.m j; rw [hGL, hGm]; exact hj) (by show okP G.L G.m k; rw [hGL, hGm]; exact hk) e)
    have hn2 : 2 <= n := by rw [hn]; have := Nat.pow_le_pow_right (n := 2) (by decide) he1; omega
    have hn4 : n <= 4096 := by rw [hn]; have := Nat.pow_le_pow_right (n := 2) (by decide) he12; omega
    obtain ⟨d, hd⟩ : ∃ d : W1, d = ⟨⟨G, 65536, ps.map fun x => x % Ln, (takes % 400).toNat⟩, hB, fun b => blk (.slice (some ⟨y + 5, 0, none⟩) 2 2) = some b, pnm y, fun b => v0 (idx b)⟩ := ⟨_, rfl⟩
    have pre : WPre d h.size e bx bp (y + 4) takes (.slice aP ps.length kP) (.slice aK picks.length kK) (.slice (some ⟨y + 5, 0, none⟩) 2 2) ps picks := by
      subst hd
      refine ⟨⟨fun j k hj hk e => r3.inj j k hj hk e, by show 1 <= G.L; omega, by show G.L <= 8; omega, by show 2 <= G.m; omega, by show G.m <= 4096; omega, by show (ps.map _).length <= 400; rw [List.length_map]; exact c1, fun l hl => ?_⟩, by show G.m = _; rw [hGm, hn], he12, Nat.le_refl _, r3, fun b => Iff.rfl, ⟨⟨fun k _ => ?_, fun j k _ _ e => pnm_inj e⟩, SliceO.nil, fun b hb => (by cases hb)⟩, fun k hk _ => by show v0 (idx (G.B k)) = _; rw [hidx k (by rw [<- hGL, <- hGm]; exact hk)], by rw [hGL, hGm]; exact gx, gp, f4, fun k hk => lowB k (by rw [<- hGL, <- hGm]; exact hk), fun k => ?_, fun b hb => ?_, ⟨hp.upd uu (fun _ _ _ x => x), fun hne b hb => hp.lt (fun e => hne (List.map_eq_nil_iff.1 e)) b hb⟩, ⟨hk.upd uu (fun _ _ _ x => x), fun hne b hb => hk.lt (fun e => hne (List.map_eq_nil_iff.1 e)) b hb⟩, by rw [hGL], u8, rfl, ⟨rfl, .inr ⟨y + 5, 2, [], rfl, Nat.le_refl _, rfl, f5⟩⟩⟩
      · obtain ⟨x, _, rfl⟩ := List.mem_map.1 hl
        show x % Ln < G.L
        rw [hGL]; exact Nat.mod_lt _ (by omega)
      · show hB[pnm y k]? = _
        cases k with
        | ts => exact f0
        | there => exact f1
        | wrong => exact f2
        | last => exact f3
      · show h.size <= pnm y k
        cases k <;> (simp only [pnm]; omega)
      · have e : some (y + 5) = some b := hb
        injection e with e
        omega
    have eh : d.hN = hB := by rw [hd]
    have eG : d.c.G = G := by rw [hd]
    have eD : ∀ k, d.D k = pnm y k := by rw [hd]; exact fun k => rfl
    have epl : d.c.puts.length = ps.length := by rw [hd]; show (ps.map _).length = _; rw [List.length_map]
    have hbase : h.size <= d.hN.size := by rw [eh]; exact uu.size
    have hrun := wrun_ok pre hbase
    rw [eh] at hrun
    skip
    refine ER.callR rfl rfl rfl rfl rfl hrun ?_
    rintro _ h7 δ7 ⟨⟨m, rfl⟩, fin, lL, lW, lY, lV, mv, nl, k0, s, fl, q, o, cv, rfl, ⟨⟨aL, nL, kL, eL⟩, ⟨aW, nW, kW, eW⟩, ⟨aY, nY, kY, eY⟩, ⟨aV, nV, kV, eV⟩⟩, En, nmv, sz7, keep⟩
    subst eL eW eY eV
    have E := wenv_of pre hbase
    have nx := pre.apart pre.y (by decide) (by decide) (by decide) (by decide) (by decide) (by decide) (by decide) (by decide) (by decide)
    have np := pre.apart pre.p (by decide) (by decide) (by decide) (by decide) (by decide) (by decide) (by decide) (by decide) (by decide)
    have nt := pre.apart pre.take (by decide) (by decide) (by decide) (by decide) (by decide) (by decide) (by decide) (by decide) (by decide)
    have gx7 := (keep _ E.y.1).trans gx
    have gp7 := (keep _ E.p.1).trans gp
    have gt7 := (keep _ E.take.1).trans f4
    have nmx : blk mv ≠ some bx := fun e => (nmv _ e).1 E.y.1
    have nmp : blk mv ≠ some bp := fun e => (nmv _ e).1 E.p.1
    have nmt : blk mv ≠ some (y + 4) := fun e => (nmv _ e).1 E.take.1
    have hmlow : ∀ b, blk mv = some b -> h.size <= b := fun b hb => by
      rcases Nat.lt_or_ge b h.size with z | z
      · exact absurd (pre.low hbase z) (nmv b hb).1
      · exact z
    have hDlow : ∀ b, ((∃ k, b = d.D k) \/ ∃ k, okP d.c.G.L d.c.G.m k /\ b = d.c.G.B k) -> h.size <= b /\ b < hB.size := fun b hb => by
      rcases hb with ⟨k, rfl⟩ | ⟨k, hk, rfl⟩
      · have := pre.M.rep.lt (k := k) trivial
        change d.D k < _ at this
        rw [eh] at this
        exact ⟨pre.lowD k, this⟩
      · have := pre.rep.lt (k := k) hk
        rw [eh] at this
        exact ⟨pre.lowB k hk, this⟩
    have hDB : ∀ j k, okP d.c.G.L d.c.G.m k -> d.D j ≠ d.c.G.B k := fun j k hk e => by
      by_cases hv : isV k
      · exact pre.hD j ⟨k, hk, hv, e⟩
      · exact (pre.oldG hk hv).1.2.2.2 j e.symm
    have hmB : ∀ b, blk mv = some b -> ∀ k, okP d.c.G.L d.c.G.m k -> b ≠ d.c.G.B k := fun b hb k hk e => by
      by_cases hv : isV k
      · exact (nmv b hb).2 ⟨k, hk, hv, e⟩
      · exact (nmv b hb).1 (e ▸ (pre.oldG hk hv).1)
    have hyB : ∀ k, okP d.c.G.L d.c.G.m k -> bx ≠ d.c.G.B k := fun k hk e => nx (.inr ⟨k, hk, e⟩)
    have hL1' : 1 <= d.c.G.L := pre.ok.L1
    have hL8' : d.c.G.L <= 8 := pre.ok.L8
    have hm' := pre.hm
    have he' := pre.he
    have uu7 : Upd (fun _ => False) h h7 := ⟨by have := uu.size; omega, fun b hb _ => (keep b (pre.low hbase hb)).trans (uu.2 b hb (fun x => x))⟩
    have no7 : ∀ a, ¬ (SwS Try.prog).still m a := fun a x => x
    clear keep hrun f0 f1 f2 f3 f4 f5 gx gp r3 uu hp hk E pre hidx lowB nmv
    (repeat refine ER.allocA rfl rfl ?_)
    refine ER.storeN (vs := repL (if fin then 1 else 2) nl (.slice aL nL kL) (.slice aW nW kW) (.slice aY nY kY) (.slice aV nV kV)) rfl rfl rfl rfl (by simp [OneCell]) (fun j hj => ⟨?_, hfroz_of (get_push_new _ _), no7 _⟩) ?_
    · have hj' : j < 7 := hj
      rcases (show j = 0 \/ j = 1 \/ j = 2 \/ j = 3 \/ j = 4 \/ j = 5 \/ j = 6 by omega) with rfl | rfl | rfl | rfl | rfl | rfl | rfl <;> exact ⟨_, hcell_of (get_push_new _ _) rfl⟩
    rw [hsetRow_push (c := [.int .i8 0, .int .i64 0, nilS, nilS, nilS, nilS, nilS]) (vs := repL (if fin then 1 else 2) nl (.slice aL nL kL) (.slice aW nW kW) (.slice aY nY kY) (.slice aV nV kV)) rfl]
    obtain ⟨rB, hrB⟩ : ∃ rB, rB = h7.size := ⟨_, rfl⟩
    refine ER.gen (fun h' => Upd (fun _ => False) h7 h' /\ h'[rB]? = some (.cells (repL (if fin then 1 else 2) nl (.slice aL nL kL) (.slice aW nW kW) (.slice aY nY kY) (.slice aV nV kV)).toArray 47 (0, 0))) ⟨Upd.push _ _, by rw [hrB]; exact get_push_new _ _⟩ ?_
    rw [<- hrB]
    rintro h8 ⟨u8', gr⟩
    have nmr : blk mv ≠ some rB := fun e => by have := SliceO.lt En.M.sl e; omega
    have nr : ¬ ((∃ k, rB = d.D k) \/ ∃ k, okP d.c.G.L d.c.G.m k /\ rB = d.c.G.B k) := fun x => by have := (hDlow _ x).2; omega
    have gx8 := u8'.get gx7 (fun x => x)
    have gp8 := u8'.get gp7 (fun x => x)
    have gt8 := u8'.get gt7 (fun x => x)
    have uu8 := uu7.trans u8'
    have En8 : WEd d fin s mv k0 fl q o cv h8 := ⟨En.dr, ⟨En.M.rep.upd0 u8', En.M.sl.upd u8' (fun _ _ x => x), En.M.nb⟩, En.pri.upd0 u8'⟩
    clear u8' gx7 gp7 gt7 uu7 hrB En
    have hth0 : s.there <= ps.length := by
      have h1 := En8.dr.li.bnd En8.dr.k4
      have h2 := En8.dr.li.thr
      have h3 := En8.dr.n
      have h4 : unt (s.ts.take k0) <= (s.ts.take k0).length := List.countP_le_length
      rw [List.length_take] at h4
      omega
    obtain ⟨th0, hth⟩ : ∃ th0, th0 = s.there := ⟨_, rfl⟩
    rw [<- hth] at hth0
    have fr : ∀ {yb : Nat}, ¬ ((∃ k, yb = d.D k) \/ ∃ k, okP d.c.G.L d.c.G.m k /\ yb = d.c.G.B k) -> blk mv ≠ some yb -> ¬ (((∃ k, yb = d.D k) \/ ∃ k, okP d.c.G.L d.c.G.m k /\ yb = d.c.G.B k) \/ blk mv = some yb) := fun h1 h2 h3 => h3.elim h1 h2
    (repeat (first | refine EK.seq ?_ | refine EK.region ?_ | refine ER.done ?_ | refine EK.block ?_ | refine ER.assign rfl rfl rfl ?_))
    refine EK.loopInv (fun t : Nat × WS × (Nat -> Nat) × (Key -> Int) => [(12, .int .i64 t.1), (11, ptr rB), (10, ptr (y + 4)), (8, ptr (y + 2)), (7, ptr (y + 1)), (1, ptr bx)]) (fun t h' δ' => δ' = ⟨0, m⟩ /\ WEd d fin t.2.1 mv k0 fl q t.2.2.1 t.2.2.2 h' /\ t.2.1.there + t.1 = th0 /\ Upd (fun b => ((∃ k, b = d.D k) \/ ∃ k, okP d.c.G.L d.c.G.m k /\ b = d.c.G.B k) \/ blk mv = some b) h8 h') (fun t => ps.length + 1 - t.1) (0, s, o, cv) ⟨rfl, rfl, rfl, rfl, rfl, rfl, trivial⟩ ⟨rfl, En8, by rw [hth]; dsimp only; omega, Upd.refl _ _⟩ ?_
    clear En8 hth s o cv
    rintro ⟨j, s, o, cv⟩ h9 δ9 ⟨hδ, En, hj, u9⟩ again
    dsimp only at hδ En hj u9 again ⊢
    subst hδ
    have hth0' := (En.dr.li.bnd En.dr.k4).there
    have gx9 := u9.get gx8 (fr nx nmx)
    have gp9 := u9.get gp8 (fr np nmp)
    have gt9 := u9.get gt8 (fr nt nmt)
    have cx : hcell h9 ⟨bx, 2, none⟩ = some (.slice aP ps.length kP) := hcell_of gx9 rfl
    have ct : hcell h9 ⟨y + 4, 0, none⟩ = some (.func (.func 16) #[] #[ptr bp, ptr y, ptr (y + 3), ptr (y + 2), ptr bx, ptr (y + 1)]) := hcell_of gt9 rfl
    have hdr := (wdrain_ok (m := m) (by_ := bx) (bp := bp) (takes := takes) (pS := .slice aP ps.length kP) (kS := .slice aK picks.length kK) En hm' he' hL1' hL8' (by rw [eG]; exact hcell_of gp9 rfl) (by rw [eG, hGL, hGm]; exact gx9) hyB hDB hmB).noS no7
    rw [show d.D .ts = y from eD .ts, show d.D .last = y + 3 from eD .last, show d.D .wrong = y + 2 from eD .wrong, show d.D .there = y + 1 from eD .there] at hdr
    (repeat (first | refine EK.seq ?_ | refine EK.region ?_ | refine ER.move rfl rfl rfl ?_ | refine ER.fieldAddr rfl rfl rfl ?_ | refine ER.load1 rfl rfl rfl (hcell_of (by assumption) rfl) ?_ | refine ER.cmpT rfl rfl rfl rfl rfl (by first | (dsimp only [cmpP]; omega) | exact rfl | exact Int.le_refl _) ?_ | refine ER.len1 rfl rfl rfl ?_))
    refine ER.callR rfl rfl rfl rfl rfl hdr ?_
    rintro _ h10 δ10 ⟨rfl, ⟨rfl, hz, u10⟩ | ⟨rfl, s', o', v', En', hs', u10⟩⟩
    · have uE : Upd (fun b => ((∃ k, b = d.D k) \/ ∃ k, okP d.c.G.L d.c.G.m k /\ b = d.c.G.B k) \/ blk mv = some b) h8 h10 := u9.trans (u10.mono fun b _ x => x.elim)
      have uuE : Upd (fun _ => False) h h10 := uu8.over uE fun b hb => hb.elim (fun z => (hDlow b z).1) fun z => hmlow b z
      have ce : hcell h10 ⟨rB, 0, none⟩ = some (.int .i8 (if fin then 1 else 2)) := hcell_of (uE.get gr (fr nr nmr)) rfl
      have M10 := En.M.rep.upd0 u10
      have cw : hcell h10 ⟨y + 2, 0, none⟩ = some (.bool false) := by rw [show y + 2 = d.D .wrong from (eD .wrong).symm]; exact wcell M10 .wrong rfl (i := 0) rfl
      have cth : hcell h10 ⟨y + 1, 0, none⟩ = some (.int .i64 s.there) := by rw [show y + 1 = d.D .there from (eD .there).symm]; exact wcell M10 .there rfl (i := 0) rfl
      clear again cx ct gx9 gp9 gt9 hdr
      cases fin with
      | true =>
        rw [hz rfl] at cth
        replace ce : hcell h10 ⟨rB, 0, none⟩ = some (.int .i8 1) := ce
        (repeat (first | refine EK.seq ?_ | refine EK.region ?_ | refine ER.done ?_ | refine ER.move rfl rfl rfl ?_ | refine ER.assign rfl rfl rfl ?_ | refine ER.fieldAddr rfl rfl rfl ?_ | refine ER.notB rfl rfl rfl ?_ | refine ER.pickT rfl rfl rfl rfl ?_ | refine ER.pickF rfl rfl rfl rfl ?_ | refine ER.cmpT rfl rfl rfl rfl rfl (by first | (dsimp only [cmpP]; omega) | exact rfl | exact Int.le_refl _) ?_ | refine ER.cmpF rfl rfl rfl rfl rfl (by first | (dsimp only [cmpP]; omega) | exact rfl | exact Int.le_refl _) ?_ | refine EK.condF rfl ?_ | refine EK.ret ?_ | refine EK.exit rfl ?_ | refine ER.load1 rfl rfl rfl (by assumption) ?_))
        exact EU.ret1 rfl rfl ⟨rfl, rfl, uuE⟩
      | false =>
        replace ce : hcell h10 ⟨rB, 0, none⟩ = some (.int .i8 2) := ce
        (repeat (first | refine EK.seq ?_ | refine EK.region ?_ | refine ER.done ?_ | refine ER.move rfl rfl rfl ?_ | refine ER.assign rfl rfl rfl ?_ | refine ER.fieldAddr rfl rfl rfl ?_ | refine ER.no rfl rfl ?_ | refine ER.notB rfl rfl rfl ?_ | refine ER.pickT rfl rfl rfl rfl ?_ | refine ER.cmpT rfl rfl rfl rfl rfl (by first | (dsimp only [cmpP]; omega) | exact rfl | exact Int.le_refl _) ?_ | refine EK.condF rfl ?_ | refine EK.ret ?_ | refine EK.exit rfl ?_ | refine ER.load1 rfl rfl rfl (by assumption) ?_))
        exact EU.ret1 rfl rfl ⟨rfl, rfl, uuE⟩
    · clear cx ct gx9 gp9 gt9 hdr
      (repeat (first | refine EK.seq ?_ | refine EK.region ?_ | refine ER.done ?_ | refine EK.skip ?_ | refine EK.block ?_ | refine EK.inBlock ?_ | refine ER.move rfl rfl rfl ?_ | refine ER.assign rfl rfl rfl ?_ | refine ER.pickT rfl rfl rfl rfl ?_ | refine ER.add (kd := .i64) rfl rfl rfl rfl (i64_in (by omega) (by omega)) ?_ | refine EK.condT rfl ?_))
      exact EK.back (again (j + 1, s', o', v') _ _ (by dsimp only; omega) ⟨rfl, En', by dsimp only; omega, u9.trans u10⟩) ⟨rfl, rfl, rfl, rfl, rfl, rfl, trivial⟩
end
section
open Go Go.TJ Go.Conc Go.Proofs
open Go.ChangeShapes Go.WideShapes Go.ChangeAt Go.RowKit
theorem plain0 {w : World} {a : Addr} {v : Value} (h : w.cell? a = some v) : ∃ b o, a = ⟨b, o, none⟩ /\ b < w.heap.size := by
  have h' : hcell w.heap a = some v := h
  rcases a with ⟨b, o, s⟩
  obtain ⟨c, e, f, h1, h2, _⟩ := hcell_some h'
  obtain rfl : s = none := h2
  exact ⟨b, o, rfl, lt_of_get h1⟩
theorem plainAt {w : World} {b o i : Nat} {v : Value} (h : w.cell? ((⟨b, o, none⟩ : Addr).add i) = some v) : hcell w.heap ⟨b, o + i, none⟩ = some v := by
  rw [add_eq] at h; exact h
section
variable {H : Type} {enc : TypeId × Value -> H} {w : World} {base : Nat} {spare : Nat -> Bool} {held : Bool}
theorem weights_slice {P : Program} {t e : TypeId} (ht : P.underlying t = some (.slice e)) (els sp : List (DataW H)) : (DataW.slice els sp).weights P t = (els.length + sp.length) * P.bytesOf e :: (DataW.weightsAll P e els ++ DataW.weightsAll P e sp) := by
  simp only [DataW.weights, ht]
theorem wf_u8 {z : Int} (h : (Lit.int .u8 z).wf = true) : 0 <= z /\ z <= 255 := by
  unfold Lit.wf at h
  rw [Bool.and_eq_true, decide_eq_true_eq, decide_eq_true_eq] at h
  exact h
theorem open_int0 {fuel : Nat} {a : Addr} {c : Value} {x : DataW H × List MemPlace} (c0 : w.cell? a = some c) (t0 : DataW.trod enc Try.prog w base spare held fuel 3 [c] = some x) : ∃ z : Int, w.cell? a = some (.int .i64 z) /\ True := by
  obtain ⟨z0, e0, _, hw⟩ := DataW.trod_int Try.underlying3 t0
  have e1 := (List.cons.inj e0).1
  exact ⟨z0, by rw [c0, e1], trivial⟩
theorem open_u8 {fuel : Nat} {a : Addr} {c : Value} {x : DataW H × List MemPlace} (c0 : w.cell? a = some c) (t0 : DataW.trod enc Try.prog w base spare held fuel 5 [c] = some x) : ∃ z : Nat, w.cell? a = some (.int .u8 z) /\ z < 256 := by
  obtain ⟨z0, e0, _, hw⟩ := DataW.trod_int Try.underlying5 t0
  have e1 := (List.cons.inj e0).1
  obtain ⟨h1, h2⟩ := wf_u8 hw
  exact ⟨z0.toNat, by rw [c0, e1, show ((z0.toNat : Nat) : Int) = z0 by omega], by omega⟩
theorem open_ints {fuel : Nat} {v : Value} {x : DataW H × List MemPlace} (h : DataW.trod enc Try.prog w base spare held fuel 25 [v] = some x) (hz : ∀ n, n ∈ x.1.weights Try.prog 25 -> n <= reachBytes) :
    ∃ l : List Int, RdS w.heap v (l.map fun x => .int .i64 x) /\ l.length <= 1000000000000000 /\ ∀ z, z ∈ l -> True := by
  rcases Go.Deep.open_slice1 Try.underlying25 (by kernel_rfl) h with ⟨hcs, _⟩ | ⟨a, l, c, m, n, V, D, Pl, hcs, _, hl, hm, hmm, hxe, hx⟩
  · injection hcs with hcs _
    subst hcs
    exact ⟨[], ⟨⟨none, 0, rfl⟩, fun i v hv => by cases hv⟩, Nat.zero_le _, fun _ hz => by cases hz⟩
  · injection hcs with hcs _
    subst hcs
    have hbig : l <= 1000000000000000 := by
      have hb : Try.prog.bytesOf 3 = 8 := by kernel_rfl
      have := hz _ (by rw [hxe, weights_slice Try.underlying25]; exact List.mem_cons_self ..)
      rw [hb] at this
      simp only [List.length_map, List.length_range, reachBytes] at this
      omega
    have hlm : l <= m := by rw [hmm]; split <;> omega
    obtain ⟨f, hf⟩ := Go.Deep.choose_lt (n := l) (p := fun i (x : Int) => w.cell? (a.add i) = some (Value.int .i64 x) /\ (fun _ => True) x) (fun i hi => by
      obtain ⟨c0, t0⟩ := hx i (by omega)
      exact open_int0 c0 t0)
    refine ⟨(List.range l).map f, ⟨⟨some a, c, by simp⟩, fun i v hv => ?_⟩, by rw [List.length_map, List.length_range]; exact hbig, fun z hz => ?_⟩
    · rw [List.getElem?_map] at hv
      obtain ⟨z, hv', rfl⟩ := Option.map_eq_some_iff.1 hv
      rw [List.getElem?_map] at hv'
      obtain ⟨j', hj', rfl⟩ := Option.map_eq_some_iff.1 hv'
      have hjl : i < l := by
        have := (List.getElem?_eq_some_iff.1 hj').1
        rwa [List.length_range] at this
      rw [List.getElem?_range hjl] at hj'
      injection hj' with hj'
      subst hj'
      obtain ⟨b', o', rfl, hb⟩ := plain0 (a := a) (by have := (hf 0 (by omega)).1; exact this)
      exact ⟨b', o', c, by simp, by rw [Nat.mul_one]; exact plainAt (hf i hjl).1⟩
    · obtain ⟨i, hi, rfl⟩ := List.mem_map.1 hz
      exact (hf i (List.mem_range.1 hi)).2
theorem open_u8s {fuel : Nat} {v : Value} {x : DataW H × List MemPlace} (h : DataW.trod enc Try.prog w base spare held fuel 52 [v] = some x) (hz : ∀ n, n ∈ x.1.weights Try.prog 52 -> n <= reachBytes) :
    ∃ l : List Nat, RdS w.heap v (l.map fun (x : Nat) => .int .u8 x) /\ l.length <= 1000000000000000 /\ ∀ z, z ∈ l -> z < 256 := by
  rcases Go.Deep.open_slice1 Try.underlying52 (by kernel_rfl) h with ⟨hcs, _⟩ | ⟨a, l, c, m, n, V, D, Pl, hcs, _, hl, hm, hmm, hxe, hx⟩
  · injection hcs with hcs _
    subst hcs
    exact ⟨[], ⟨⟨none, 0, rfl⟩, fun i v hv => by cases hv⟩, Nat.zero_le _, fun _ hz => by cases hz⟩
  · injection hcs with hcs _
    subst hcs
    have hbig : l <= 1000000000000000 := by
      have hb : Try.prog.bytesOf 5 = 1 := by kernel_rfl
      have := hz _ (by rw [hxe, weights_slice Try.underlying52]; exact List.mem_cons_self ..)
      rw [hb] at this
      simp only [List.length_map, List.length_range, reachBytes] at this
      omega
    have hlm : l <= m := by rw [hmm]; split <;> omega
    obtain ⟨f, hf⟩ := Go.Deep.choose_lt (n := l) (p := fun i (x : Nat) => w.cell? (a.add i) = some ((fun (x : Nat) => Value.int .u8 x) x) /\ (fun (x : Nat) => x < 256) x) (fun i hi => by
      obtain ⟨c0, t0⟩ := hx i (by omega)
      exact open_u8 c0 t0)
    refine ⟨(List.range l).map f, ⟨⟨some a, c, by simp⟩, fun i v hv => ?_⟩, by rw [List.length_map, List.length_range]; exact hbig, fun z hz => ?_⟩
    · rw [List.getElem?_map] at hv
      obtain ⟨z, hv', rfl⟩ := Option.map_eq_some_iff.1 hv
      rw [List.getElem?_map] at hv'
      obtain ⟨j', hj', rfl⟩ := Option.map_eq_some_iff.1 hv'
      have hjl : i < l := by
        have := (List.getElem?_eq_some_iff.1 hj').1
        rwa [List.length_range] at this
      rw [List.getElem?_range hjl] at hj'
      injection hj' with hj'
      subst hj'
      obtain ⟨b', o', rfl, hb⟩ := plain0 (a := a) (by have := (hf 0 (by omega)).1; exact this)
      exact ⟨b', o', c, by simp, by rw [Nat.mul_one]; exact plainAt (hf i hjl).1⟩
    · obtain ⟨i, hi, rfl⟩ := List.mem_map.1 hz
      exact (hf i (List.mem_range.1 hi)).2
set_option maxRecDepth 100000 in
theorem open_yard {fuel : Nat} {cs : List Value} {x : DataW H × List MemPlace} (h : DataW.trod enc Try.prog w base spare held fuel 54 cs = some x) (hz : ∀ n, n ∈ x.1.weights Try.prog 54 -> n <= reachBytes) :
    ∃ (L N tk : Int) (pS kS : Value) (ps : List Nat) (picks : List Int), cs = [.int .i64 L, .int .i64 N, pS, .int .i64 tk, kS] /\ RdS w.heap pS (ps.map fun (x : Nat) => .int .u8 x) /\ RdS w.heap kS (picks.map fun x => .int .i64 x) /\ (ps.length <= 1000000000000000 /\ picks.length <= 1000000000000000) /\ ∀ x, x ∈ ps -> x < 256 := by
  obtain ⟨xs, n, -, hxe, hl, hxl, hfs⟩ := DataW.trod_struct Try.underlying54 h
  have h3 : Try.prog.cellsOf 54 = 5 := by kernel_rfl
  have hm1 : Try.prog.cellsOf 51 = 2 := by kernel_rfl
  have hu1 : Try.prog.cellsOf 52 = 1 := by kernel_rfl
  have hp1 : Try.prog.cellsOf 25 = 1 := by kernel_rfl
  have hi1 : Try.prog.cellsOf 3 = 1 := by kernel_rfl
  rw [h3] at hl
  obtain ⟨c0, c1, c2, c3, c4, rfl⟩ : ∃ c0 c1 c2 c3 c4, cs = [c0, c1, c2, c3, c4] := by
    match cs, hl with
    | [c0, c1, c2, c3, c4], _ => exact ⟨c0, c1, c2, c3, c4, rfl⟩
  obtain ⟨x0, x1, x2, x3, rfl⟩ : ∃ c0 c1 c2 c3, xs = [c0, c1, c2, c3] := by
    match xs, hxl with
    | [c0, c1, c2, c3], _ => exact ⟨c0, c1, c2, c3, rfl⟩
  have f0 := hfs 0 _ rfl
  have f1 := hfs 1 _ rfl
  have f2 := hfs 2 _ rfl
  have f3 := hfs 3 _ rfl
  simp [hm1, hu1, hp1, hi1] at f0 f1 f2 f3
  have hw : x.1.weights Try.prog 54 = x0.1.weights Try.prog 51 ++ (x1.1.weights Try.prog 52 ++ (x2.1.weights Try.prog 3 ++ (x3.1.weights Try.prog 25 ++ []))) := by
    rw [hxe]
    simp only [DataW.weights, Try.underlying54]
    rfl
  rw [hw] at hz
  obtain ⟨ps, ht, htl, htu⟩ := open_u8s f1 (fun n hn => hz n (List.mem_append_right _ (List.mem_append_left _ hn)))
  obtain ⟨picks, hp, hpl, -⟩ := open_ints f3 (fun n hn => hz n (List.mem_append_right _ (List.mem_append_right _ (List.mem_append_right _ (List.mem_append_left _ hn)))))
  obtain ⟨ys, n', -, -, -, hyl, hgs⟩ := DataW.trod_struct Try.underlying51 f0
  obtain ⟨y0, y1, rfl⟩ : ∃ y0 y1, ys = [y0, y1] := by
    match ys, hyl with
    | [y0, y1], _ => exact ⟨y0, y1, rfl⟩
  have g0 := hgs 0 _ rfl
  simp [hi1] at g0
  obtain ⟨z0, e0, _, _⟩ := DataW.trod_int Try.underlying3 g0
  simp at e0
  have g1 := hgs 1 _ rfl
  simp [hi1] at g1
  obtain ⟨z1, e1, _, _⟩ := DataW.trod_int Try.underlying3 g1
  simp at e1
  obtain ⟨z2, e2, _, _⟩ := DataW.trod_int Try.underlying3 f2
  simp at e2
  exact ⟨z0, z1, z2, c2, c4, ps, picks, by rw [e0, e1, e2], ht, hp, ⟨htl, hpl⟩, htu⟩
end
end
end Go.Proofs.Ythkpbenhchkkoaa
