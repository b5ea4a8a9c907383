/- Steps of the walk and of the plain law (DfF to TjGR). Conditions: as each lemma says. -/
import Derived.Test.YtakioblpgmjdaaaDFE
set_option linter.unusedSectionVars false
set_option linter.unusedVariables false
set_option linter.unusedSimpArgs false
namespace Go.Proofs.Ytakioblpgmjdaaa
section
open Go Go.TJ Go.Proofs
variable [Dm]
def Ke.caps (q : Ke) : Array Value := #[.pointer (some ⟨q.vN, 0, none⟩), .pointer (some ⟨q.vM, 0, none⟩), .pointer (some ⟨q.vD, 0, none⟩), .pointer (some ⟨q.vL, 0, none⟩), .pointer (some ⟨q.vE, 0, none⟩)]
structure KEro (c : Dc) (q : Ke) : Prop where
  N : c.ro q.vN
  M : c.ro q.vM
  D : c.ro q.vD
  L : c.ro q.vL
  E : c.ro q.vE
  s : c.ro q.sb
  r : c.ro q.rb
theorem KE.move {c : Dc} {q : Ke} {h h' : Hp} (m : KE c q h) (r : KEro c q) (hm : ∀ b o v, c.ro b -> hcell h ⟨b, o, none⟩ = some v -> hcell h' ⟨b, o, none⟩ = some v) : KE c q h' where
  N := hm _ _ _ r.N m.N
  M := hm _ _ _ r.M m.M
  D := hm _ _ _ r.D m.D
  L := hm _ _ _ r.L m.L
  E := hm _ _ _ r.E m.E
  K := ⟨hm _ _ _ r.s m.K.t, hm _ _ _ r.s m.K.b, hm _ _ _ r.s m.K.s, fun k hk => hm _ _ _ r.r (m.K.r k hk)⟩
theorem darr_f {y : Dy} (hJ : Dj y) {w : Nat} (hw : w < y.c.n + 1) : dL.arrT y y.c.fb = some y.c.tB /\ dL.arr y y.c.fb = Array.replicate (y.c.n + 1) (.bool false) /\ (dL.arr y y.c.fb)[w]? = some (.bool false) := by
  have e : y.c.fb ≠ y.c.pb := fun z => hJ.ad z.symm
  have e3 : dL.arr y y.c.fb = Array.replicate (y.c.n + 1) (.bool false) := by
    show (if y.c.fb = y.c.pb then _ else _ : Array Value) = _
    rw [if_neg e]
  refine ⟨by show (if y.c.fb = y.c.pb then some y.c.tS else if y.c.fb = y.c.fb then some y.c.tB else none) = _; rw [if_neg e, if_pos rfl], e3, by rw [e3, Array.getElem?_replicate, if_pos hw]⟩
theorem dfall_move {y : Dy} {i : Nat} (hJ : Dj y) (hi0 : 0 < i) (hi : i <= y.c.n + 1) : AMove dL i y.c.fb (i - 1) (.bool false) y y := by
  refine ⟨Stt.refl _ _, fun j _ => dL_ok.refl _ _, Nat.le_refl _, rfl, fun _ _ => rfl, ?_, hJ, fun _ _ _ h => h⟩
  rw [(darr_f hJ (w := i - 1) (by omega)).2.1]
  apply Array.ext_getElem?
  intro x
  rw [Array.getElem?_setIfInBounds]
  by_cases e : i - 1 = x
  · subst e; rw [if_pos rfl, Array.getElem?_replicate]; simp
  · rw [if_neg e]
set_option maxHeartbeats 4000000 in
theorem dbody_ok {h : Hp} {c : Dc} {q : Ke} {y₀ : Dy} {fB : Nat} {ib : Nat -> Nat} (hc : y₀.c = c) (hn7 : c.n <= 7) (hm1 : c.m <= 1000) (hL : c.L = 2 ^ c.e) (he : 1 <= c.e /\ c.e <= 12) (m : KE c q h) (r : KEro c q) (hfb : c.fb = h.size) (htop : c.top = h.size + 3) (hrt : ∀ b, c.ro b -> b < c.top)
    (hF : hcell h ⟨fB, 0, none⟩ = some (.func (.func 19) #[] q.caps)) (hFr : c.ro fB) (hI : ∀ k, k < c.n + 1 -> hcell h ⟨ib k, 0, none⟩ = some (.int .i64 k) /\ c.ro (ib k))
    (ho : ∀ k, k < c.n + 1 -> OwnD (k + 1) c [] (if k = c.n then 8 * c.m + 3007 else 1000) (.slice none 0 0) y₀) (oo : OwnO c 0 0 0 y₀) :
    BodyOk dL y₀ h (c.n + 1) (fun _ => 62) (fun k => #[.pointer (some ⟨fB, 0, none⟩), .pointer (some ⟨ib k, 0, none⟩)]) := by
  intro k hk h' γ₂ ti hti0 hti hro hrel hJ hA hwg
  have hm : ∀ b o v, c.ro b -> hcell h ⟨b, o, none⟩ = some v -> hcell h' ⟨b, o, none⟩ = some v := fun b o v hb hv => by
    obtain ⟨cs, e, f, h1, h3, h4⟩ := hcell_some hv
    exact hcell_of (hro b _ (by show y₀.c.ro b; rw [hc]; exact hb) (frH_old h1)) h4
  have m' := m.move r hm
  have od := (ho k hk).rel (Nat.succ_pos k) hrel
  have kF := hm _ _ _ hFr hF
  have kI := hm _ _ _ (hI k hk).2 (hI k hk).1
  have hsz : ti < h'.size := by
    obtain ⟨_, _, _, h1, _⟩ := hcell_some hti
    exact lt_of_get h1
  have hw : CallW Try.prog false (SitW Try.prog (XF TT dL) (k + 1)) 19 #[.int .i64 k, .pointer (some ⟨q.vN, 0, none⟩), .pointer (some ⟨q.vM, 0, none⟩), .pointer (some ⟨q.vD, 0, none⟩), .pointer (some ⟨q.vL, 0, none⟩), .pointer (some ⟨q.vE, 0, none⟩)] h' ⟨0, γ₂⟩ (Ret (WQd (k + 1) c h' 0 γ₂.wg)) := by
    by_cases e : k = c.n
    · rw [if_pos e] at od
      exact owner_ok (δ := ⟨0, γ₂⟩) (i := k + 1) hA (by omega) hn7 hm1 hL he m' (by omega) hrt od (oo.rel (i := k + 1) hc (by omega) hrel)
    · rw [if_neg e] at od
      exact thief_ok (δ := ⟨0, γ₂⟩) (i := k + 1) hA (by omega) hn7 hL he m' (by omega) hrt od
  clear hro hm
  refine CallW.start (n := 7) rfl rfl ?_
  (repeat (first | refine EK.seq ?_ | refine EK.region ?_ | refine ER.done ?_ | refine EK.skip ?_ | refine EK.block ?_ | refine EK.inBlock ?_ | refine ER.move rfl rfl rfl ?_ | refine ER.assign rfl rfl rfl ?_ | refine ER.nilCheck rfl rfl rfl ?_ | refine ER.fieldAddr rfl rfl rfl ?_ | refine ER.load1 rfl rfl rfl (hcell_of (by assumption) rfl) ?_ | refine ER.no rfl rfl ?_ | refine ER.noU rfl ?_ | refine ER.eqV rfl rfl rfl rfl rfl ?_ | refine ER.neqV rfl rfl rfl rfl rfl ?_ | refine ER.eqA rfl rfl rfl rfl rfl ?_ | refine ER.neqA rfl rfl rfl rfl rfl ?_ | refine ER.notB rfl rfl rfl ?_ | refine ER.pickT rfl rfl rfl rfl ?_ | refine ER.pickF rfl rfl rfl rfl ?_ | refine ER.extract rfl rfl rfl rfl ?_ | refine ER.cmpT rfl rfl rfl rfl rfl (by first | (dsimp only [cmpP]; omega) | exact rfl | exact Int.le_refl _) ?_ | refine ER.cmpF rfl rfl rfl rfl rfl (by first | (dsimp only [cmpP]; omega) | exact rfl | exact Int.le_refl _) ?_ | refine ER.boxA rfl rfl rfl ?_ | refine ER.box rfl rfl rfl ?_ | refine ER.allocA rfl rfl ?_ | refine ER.alloc rfl rfl ?_ | refine ER.add (kd := .i64) rfl rfl rfl rfl (i64_in (by omega) (by omega)) ?_ | refine ER.sub' (kd := .i64) rfl rfl rfl rfl (i64_in (by omega) (by omega)) ?_ | refine ER.mul (kd := .i64) rfl rfl rfl rfl (i64_in (by omega) (by omega)) ?_ | refine ER.rem (kd := .i64) rfl rfl rfl rfl (by decide) rfl ?_ | refine ER.indexArr rfl rfl rfl rfl (by omega) (by omega) ?_ | refine ER.len1 rfl rfl rfl ?_ | refine ER.indexSl rfl rfl rfl rfl (by omega) (by omega) ?_ | refine EK.condT rfl ?_ | refine EK.condF rfl ?_ | refine EK.ret ?_ | refine EK.exit rfl ?_ | refine ER.load1 rfl rfl rfl (by assumption) ?_ | refine EK.scope ?_ | refine EK.inScope ?_ | refine EK.label ?_))
  refine ER.callR rfl rfl rfl rfl rfl hw ?_
  rintro v h2 ⟨d2, γ⟩ ⟨po, bd, sq, W, hO⟩
  have e2 := W.d
  have w2 := W.wg
  have a2 := W.a
  have o2 := W.o
  simp only at e2 w2 a2 o2 hO
  refine ER.done (EK.done (EU.ret0 rfl ⟨e2, w2.trans hwg, a2, hcell_same (W.u.same _ (by omega) fun z => z), hcell_same (W.u.same _ (by omega) fun z => z), fun y₁ q1 j1 => ?_⟩))
  have o3 := o2.rel (Nat.succ_pos k) q1
  have f3 := darr_f j1 (w := k) (by rw [o3.cc]; exact hk)
  have f4 := dfall_move (i := k + 1) j1 (Nat.succ_pos k) (by rw [o3.cc]; exact hk)
  rw [o3.cc, hfb] at f3 f4
  refine ⟨_, _, y₁, f3.1, f3.2.2, ⟨.inr (by rw [o3.cc, hfb]), Nat.succ_pos k, rfl⟩, f4, fun y₃ q3 j3 => ?_⟩
  have o4 := o3.rel (Nat.succ_pos k) q3
  have hb : c.top <= h'.size := by omega
  refine fun _ => ⟨?_, fun e => ?_⟩
  · rw [o4.sq, o4.po, o4.cc]
    exact rd_of W.s fun b hb' => Nat.le_trans hb (W.b b hb')
  · rw [o4.cc] at e ⊢
    obtain ⟨bt, oo1, ht⟩ := hO e
    have oo2 := (oo1.rel o2.cc e q1).rel o3.cc e q3
    have h1 : γ.y.tp <= y₁.tp := (show Dr (k + 1) _ y₁ from q1.law).tp
    have h2 : y₁.tp <= y₃.tp := (show Dr (k + 1) _ y₃ from q3.law).tp
    have h3 := j3.r1
    have h4 := oo2.bt
    exact ⟨by omega, oo2.ow, oo2.np⟩
end
section
open Go Go.TJ Go.Proofs
variable [Dm]
variable {Y : Type} {L : Law Y}
set_option maxHeartbeats 8000000 in
theorem all07_ok {n : Nat} {fb : FuncId} {caps : Array Value} {h : Hp} {γ₀ : Gf Y} {R : Value -> Hp -> Ix (Gf Y) -> Prop} (hst : γ₀.st = 0) (hnum : γ₀.num = 1) (hn0 : 0 < n) (hn : n <= 64)
    (hgo : ∀ (h' : Hp) (B cap fB : Nat) (ib : Nat -> Nat), Upd (fun _ => False) h h' -> h.size <= fB -> h'[fB]? = some (.cells #[.func (.func fb) #[] caps] 34 (0, 0)) -> (∀ k, k < n -> h.size <= ib k /\ h'[ib k]? = some (.cells #[.int .i64 k] 3 (0, 0))) -> h.size <= B -> (∀ k, k < n -> hcell h' ⟨B, k, none⟩ = some (.func (.func 62) #[] #[.pointer (some ⟨fB, 0, none⟩), .pointer (some ⟨ib k, 0, none⟩)])) ->
      CallW Try.prog true (SitM Try.prog (XF TT L)) 49 #[.slice (some ⟨B, 0, none⟩) n cap] h' ⟨0, γ₀⟩ (Ret R)) :
    CallW Try.prog true (SitM Try.prog (XF TT L)) 18 #[.int .i64 n, .func (.func fb) #[] caps] h ⟨0, γ₀⟩ (Ret fun _ h' δ' => ∃ v, R v h' δ') := by
  have hlo : (SitM Try.prog (XF TT L)).lone γ₀ := ⟨by omega, fun j j0 hj => by have hj' : j < γ₀.num := hj; omega⟩
  have hsl : ∀ a, ¬ (SitM Try.prog (XF TT L)).still γ₀ a := fun a z => by have : γ₀.st = 1 := z.1; omega
  refine CallW.start (n := 18) rfl rfl ?_
  (repeat (first | refine EK.seq ?_ | refine EK.region ?_ | refine ER.done ?_ | refine ER.assign rfl rfl rfl ?_ | refine ER.box rfl rfl rfl ?_ | refine ER.alloc rfl rfl ?_))
  obtain ⟨u1, s1, k0, k1⟩ := push2 h (.cells #[.func (.func fb) #[] caps] 34 (0, 0)) (.cells #[.int .i64 0] 3 (0, 0))
  refine ER.storeNew rfl rfl rfl rfl (by simp [OneCell]) (hsl _) ?_
  (repeat (first | refine ER.done ?_ | refine EK.block ?_))
  refine EK.gen (fun h2 => Upd (fun _ => False) h h2 /\ h2[h.size]? = some (.cells #[.func (.func fb) #[] caps] 34 (0, 0)) /\ h2[h.size + 1]? = some (.cells #[.int .i64 0] 3 (0, 0))) ⟨u1, k0, k1⟩ ?_
  rintro h2 ⟨u1, k0, k1⟩
  clear s1
  have hszp : (h.push (.cells #[.func (.func fb) #[] caps] 34 (0, 0))).size = h.size + 1 := by simp
  refine EK.loopInv (fun s : Nat × Value × Nat × (Nat -> Nat) => [(4, s.2.1), (5, .pointer (some ⟨s.2.2.1, 0, none⟩)), (3, .pointer (some ⟨h.size, 0, none⟩)), (0, .int .i64 n)])
    (fun s h' δ' => δ' = ⟨0, γ₀⟩ /\ s.1 <= n /\ Upd (fun _ => False) h h' /\ h'[h.size]? = some (.cells #[.func (.func fb) #[] caps] 34 (0, 0)) /\ h.size <= s.2.2.1 /\ h'[s.2.2.1]? = some (.cells #[.int .i64 s.1] 3 (0, 0)) /\
      SliceO h' s.2.1 76 1 s.1 ((List.range s.1).map fun k => .func (.func 62) #[] #[.pointer (some ⟨h.size, 0, none⟩), .pointer (some ⟨s.2.2.2 k, 0, none⟩)]) /\ (∀ b, blk s.2.1 = some b -> h.size <= b) /\
      ∀ k, k < s.1 -> h.size <= s.2.2.2 k /\ s.2.2.2 k ≠ s.2.2.1 /\ h'[s.2.2.2 k]? = some (.cells #[.int .i64 k] 3 (0, 0)))
    (fun s => n - s.1) (0, .slice none 0 0, h.size + 1, fun _ => 0) ⟨rfl, congrArg (fun z => some (Value.pointer (some ⟨z, 0, none⟩))) hszp, rfl, rfl, trivial⟩ ⟨rfl, Nat.zero_le _, u1, k0, by dsimp only; omega, k1, SliceO.nil, fun b hb => by (cases hb), fun k hk => absurd hk (Nat.not_lt_zero _)⟩ ?_
  clear u1 k0 k1 h2 hszp
  rintro ⟨k, s, cb, ib⟩ h2 δ2 ⟨rfl, hk, u2, kF, hcb, kc, sl, hab, hib⟩ again
  dsimp only at hk u2 kF hcb kc sl hab hib again ⊢
  rcases Nat.lt_or_ge k n with hlt | hge
  · (repeat (first | refine EK.seq ?_ | refine EK.region ?_ | refine ER.done ?_ | refine EK.skip ?_ | refine EK.block ?_ | refine ER.move rfl rfl rfl ?_ | refine ER.load1 rfl rfl rfl (hcell_of (by assumption) rfl) ?_ | refine ER.cmpT rfl rfl rfl rfl rfl (by first | (dsimp only [cmpP]; omega) | exact rfl | exact Int.le_refl _) ?_ | refine EK.condT rfl ?_))
    refine ER.makeF rfl rfl rfl rfl rfl rfl ?_
    refine ER.slice1 (sz := 1) (z := .nilFunc) (cells := #[.func (.func 62) #[] #[.pointer (some ⟨h.size, 0, none⟩), .pointer (some ⟨cb, 0, none⟩)]]) rfl rfl rfl (by omega) (by omega) rfl rfl ?_
    refine ER.append1 (new := [.func (.func 62) #[] #[.pointer (some ⟨h.size, 0, none⟩), .pointer (some ⟨cb, 0, none⟩)]]) rfl rfl rfl rfl (sl.upd (Upd.push (T := fun _ => False) h2 _) (fun _ _ x => x)) (get_push_new _ _) rfl (by simp [OneCell]) (by omega) (by omega) (by rfl) (fun b o hb => hsl _) ?_
    intro s' h5 sl5 u5 hb5
    have up := Upd.push (T := fun _ => False) h2 (.cells #[.func (.func 62) #[] #[.pointer (some ⟨h.size, 0, none⟩), .pointer (some ⟨cb, 0, none⟩)]] 76)
    have hs0 := u2.size
    have ha5 : ∀ b, blk s' = some b -> h.size <= b := fun b hb => by
      rcases hb5 b hb with z | z
      · exact hab b z
      · rw [z, Array.size_push]; omega
    have hsz5 : h2.size + 1 <= h5.size := by have := u5.size; rwa [Array.size_push] at this
    have uu : Upd (fun _ => False) h h5 := (u2.trans up).over u5 hab
    have mv : ∀ (x : Nat) (t : TypeId) (v : Value), h2[x]? = some (.cells #[v] t (0, 0)) -> 76 ≠ t -> h5[x]? = some (.cells #[v] t (0, 0)) := fun x t v hx ht => u5.get (up.get hx fun z => z) (sl_ne sl hx ht)
    have kF5 := mv _ _ _ kF (by decide)
    have kc5 := mv _ _ _ kc (by decide)
    have hib5 : ∀ j, j < k -> h.size <= ib j /\ ib j ≠ cb /\ ib j < h2.size /\ h5[ib j]? = some (.cells #[.int .i64 j] 3 (0, 0)) := fun j hj => ⟨(hib j hj).1, (hib j hj).2.1, (Array.getElem?_eq_some_iff.1 (hib j hj).2.2).1, mv _ _ _ (hib j hj).2.2 (by decide)⟩
    have hcb2 : cb < h2.size := (Array.getElem?_eq_some_iff.1 kc).1
    have hF2 : h.size < h2.size := (Array.getElem?_eq_some_iff.1 kF).1
    clear mv up u5 hb5 hib kF kc sl hab u2
    (repeat (first | refine EK.seq ?_ | refine EK.region ?_ | refine ER.done ?_ | refine EK.inBlock ?_ | refine ER.assign rfl rfl rfl ?_ | refine ER.load1 rfl rfl rfl (hcell_of (by assumption) rfl) ?_ | refine ER.alloc rfl rfl ?_))
    refine ER.storeNew rfl rfl rfl rfl (by simp [OneCell]) (hsl _) ?_
    refine ER.gen (fun h6 => Upd (fun _ => False) h5 h6 /\ h6[h5.size]? = some (.cells #[.int .i64 k] 3 (0, 0))) ⟨Upd.push _ _, get_push_new _ _⟩ ?_
    rintro h6 ⟨u6, n6⟩
    (repeat (first | refine EK.region ?_ | refine ER.done ?_ | refine ER.load1 rfl rfl rfl (hcell_of (by assumption) rfl) ?_ | refine ER.add (kd := .i64) rfl rfl rfl rfl (i64_in (by omega) (by omega)) ?_))
    refine ER.store1 rfl rfl rfl (by simp [OneCell]) ⟨_, hcell_of n6 rfl⟩ (hfroz_of n6) (hsl _) ?_
    have n7 : (hset h6 ⟨h5.size, 0, none⟩ (.int .i64 ((k : Int) + 1)))[h5.size]? = some (.cells #[.int .i64 ((k : Int) + 1)] 3 (0, 0)) := by rw [hset_get, if_pos rfl, n6]; rfl
    have u7 : Upd (fun b => b = h5.size) h6 (hset h6 ⟨h5.size, 0, none⟩ (.int .i64 ((k : Int) + 1))) := Upd.hset _ _ _ rfl
    generalize hset h6 ⟨h5.size, 0, none⟩ (.int .i64 ((k : Int) + 1)) = h7 at n7 u7 ⊢
    have mv : ∀ (x : Nat) (o : Obj), x < h5.size -> h5[x]? = some o -> h7[x]? = some o := fun x o hx ho => u7.get (u6.get ho fun z => z) (by omega)
    (repeat refine ER.done ?_)
    refine EK.back (again (k + 1, s', h5.size, fun j => if j = k then cb else ib j) _ _ (by dsimp only; omega) ⟨rfl, hlt, (uu.trans u6).over u7 (fun b hb => by omega), mv _ _ (by omega) kF5, by dsimp only; omega, n7, ?_, ha5, fun j hj => ?_⟩) ⟨rfl, rfl, rfl, rfl, trivial⟩
    · have := (sl5.upd u6 (fun _ _ z => z)).upd u7 fun b hb => by have := sl5.lt hb; omega
      dsimp only
      rw [List.range_succ, List.map_append, List.map_singleton, if_pos rfl]
      have e : ((List.range k).map fun j => Value.func (.func 62) #[] #[.pointer (some ⟨h.size, 0, none⟩), .pointer (some ⟨if j = k then cb else ib j, 0, none⟩)]) = ((List.range k).map fun j => Value.func (.func 62) #[] #[.pointer (some ⟨h.size, 0, none⟩), .pointer (some ⟨ib j, 0, none⟩)]) := List.map_congr_left fun j hj => by
        have := List.mem_range.1 hj
        rw [if_neg (by omega)]
      rw [e]
      exact this
    · dsimp only
      by_cases e : j = k
      · subst e
        rw [if_pos rfl]
        exact ⟨hcb, by omega, mv _ _ (by omega) kc5⟩
      · rw [if_neg e]
        obtain ⟨i1, i2, i3, i4⟩ := hib5 j (by dsimp only at hj; omega)
        exact ⟨i1, by omega, mv _ _ (by omega) i4⟩
  · obtain rfl : k = n := by omega
    clear again
    obtain ⟨hl, ⟨_, hz⟩ | ⟨B, cap, rest, rfl, c1, c2, c3⟩⟩ := sl
    · omega
    (repeat (first | refine EK.seq ?_ | refine EK.region ?_ | refine ER.done ?_ | refine ER.move rfl rfl rfl ?_ | refine ER.load1 rfl rfl rfl (hcell_of (by assumption) rfl) ?_ | refine ER.cmpF rfl rfl rfl rfl rfl (by first | (dsimp only [cmpP]; omega) | exact rfl | exact Int.le_refl _) ?_ | refine EK.condF rfl ?_ | refine EK.exit rfl ?_))
    refine ER.callR rfl rfl rfl rfl rfl (hgo h2 B cap h.size ib u2 (Nat.le_refl _) kF (fun j hj => ⟨(hib j hj).1, (hib j hj).2.2⟩) (hab B rfl) fun j hj => hcell_of c3 ?_) ?_
    · rw [List.getElem?_toArray, List.getElem?_append_left (by rw [hl]; omega), List.getElem?_map, List.getElem?_range hj]
      rfl
    · intro v h' δ' hr
      refine ER.done (EK.done (EU.ret0 rfl ⟨v, hr⟩))
end
section
open Go Go.TJ Go.Proofs
variable [Dm]
variable {Y : Type} {L : Law Y}
end
section
open Go Go.TJ Go.Proofs
variable [Dm]
structure Kq where
  vA : Nat
  vN : Nat
  vC : Nat
  vP : Nat
  vR : Nat
  vT : Nat
  vH : Nat
  cb : Nat
  sb : Nat
  S : Nat
  cap : Nat
  B : Nat -> Nat
  pk : Nat
  tb : Nat
  aS : Option Addr
  kA : Nat
section
variable {i : Nat} {c : Cc} {fa fr fa' fr' : Nat -> Bool} {hd : Int} {rs : Bool} {bd : Nat} {ha : Int} {ra : Bool} {y : Cy}
theorem Own.congr (o : Own i c fa fr hd rs bd ha ra y) (h1 : ∀ k, k % c.n = i - 1 -> fa' k = fa k) (h2 : ∀ k, k % c.n = i - 1 -> fr' k = fr k) : Own i c fa' fr' hd rs bd ha ra y :=
  ⟨o.cc, fun k hk => (o.fa k hk).trans (h1 k hk).symm, fun k hk => (o.fr k hk).trans (h2 k hk).symm, o.hd, o.rs, o.bd, o.ha, o.ra⟩
end
section
variable {h : Hp} {δ : Ix (Gf Cy)} {i : Nat} {c : Cc} {q : Kq}
end
end
section
open Go Go.TJ Go.Proofs
variable [Dm]
def Kq.caps (q : Kq) : Array Value := #[.pointer (some ⟨q.vA, 0, none⟩), .pointer (some ⟨q.vN, 0, none⟩), .pointer (some ⟨q.vC, 0, none⟩), .pointer (some ⟨q.vP, 0, none⟩), .pointer (some ⟨q.vR, 0, none⟩), .pointer (some ⟨q.vT, 0, none⟩), .pointer (some ⟨q.vH, 0, none⟩)]
end
section
open Go Go.TJ Go.Proofs
variable [Dm]
def cntM (n cap : Nat) (rest : List Value) (B : Nat -> Nat) (v : Nat -> Int) : Mem Nat := ⟨fun k => k = 0 \/ k = 1 \/ (4 <= k /\ k < 4 + n), B, fun k =>
  if k = 0 then .cells #[.slice (some ⟨B 1, 0, none⟩) n cap] 116 (0, 0)
  else if k = 1 then .cells (((List.range n).map fun j => ptr (B (4 + j))) ++ rest).toArray 40 (0, 0)
  else cellO (v (k - 4))⟩
section
variable {Γ : Type} {main : Bool} {h : Hp} {δ : Ix Γ}
end
end
section
open Go Go.TJ Go.Proofs
variable [Dm]
theorem cnt_set {h : Hp} {n cap : Nat} {rest : List Value} {B : Nat -> Nat} {v : Nat -> Int} (r : Rep h (cntM n cap rest B v)) {j : Nat} (hj : j < n) (x : Int) : Rep (h.setIfInBounds (B (4 + j)) (cellO x)) (cntM n cap rest B (ut v j x)) := by
  refine (r.set (k := 4 + j) (.inr (.inr ⟨by omega, by omega⟩)) (cellO x)).congr (fun _ hk => hk) (fun _ _ => rfl) (fun k hk => ?_)
  show (cntM n cap rest B (ut v j x)).O k = ut (cntM n cap rest B v).O (4 + j) (cellO x) k
  by_cases e : k = 4 + j
  · subst e
    rw [ut_same]
    show (if 4 + j = 0 then _ else if 4 + j = 1 then _ else cellO (ut v j x (4 + j - 4))) = _
    rw [if_neg (by omega), if_neg (by omega), show 4 + j - 4 = j by omega, ut_same]
  · rw [ut_ne _ _ e]
    show (if k = 0 then _ else if k = 1 then _ else cellO (ut v j x (k - 4))) = (if k = 0 then _ else if k = 1 then _ else cellO (v (k - 4)))
    by_cases k0 : k = 0
    · rw [if_pos k0, if_pos k0]
    · by_cases k1 : k = 1
      · rw [if_neg k0, if_pos k1, if_neg k0, if_pos k1]
      · have hk' : 4 <= k /\ k < 4 + n := by
          rcases hk with y | y | y
          · exact absurd y k0
          · exact absurd y k1
          · exact y
        rw [if_neg k0, if_neg k1, if_neg k0, if_neg k1, ut_ne _ _ (by omega)]
section
variable {Γ : Type} {main : Bool} {h : Hp} {δ : Ix Γ}
end
end
section
open Go Go.TJ Go.Proofs
variable [Dm]
section
variable {Γ : Type} {main : Bool} {h : Hp} {δ : Ix Γ}
theorem place_ok {x : Int} {n : Nat} (hn : 0 < n) (hn2 : n <= 1000) : CallW Try.prog main NoS 9 #[.int .i64 x, .int .i64 n] h δ (Ret (Det (.int .i64 (x % (n : Int))) h δ)) := by
  have h1 := Int.lt_tmod_of_pos x (b := (n : Int)) (by omega)
  have h2 := Int.tmod_lt_of_pos x (b := (n : Int)) (by omega)
  have e1 : x.tmod n < 0 -> x % (n : Int) = x.tmod n + n := fun hx => by
    have a := Int.mul_tdiv_add_tmod x n
    have b : x % (n : Int) = (x.tmod n + n) % n := by
      rw [Int.add_emod_right]
      conv => lhs; rw [<- a]
      rw [Int.add_comm, Int.add_mul_emod_self_left]
    rw [b, Int.emod_eq_of_lt (by omega) (by omega)]
  have e2 : 0 <= x.tmod n -> x % (n : Int) = x.tmod n := fun hx => by
    have a := Int.mul_tdiv_add_tmod x n
    have b : x % (n : Int) = (x.tmod n) % n := by
      conv => lhs; rw [<- a]
      rw [Int.add_comm, Int.add_mul_emod_self_left]
    rw [b, Int.emod_eq_of_lt (by omega) (by omega)]
  refine CallW.start (n := 15) rfl rfl ?_
  (repeat (first | refine EK.seq ?_ | refine EK.region ?_ | refine ER.done ?_ | refine ER.move rfl rfl rfl ?_ | refine ER.assign rfl rfl rfl ?_))
  refine ER.rem (kd := .i64) rfl rfl rfl rfl (by omega) rfl ?_
  generalize x.tmod (n : Int) = r at h1 h2 e1 e2 ⊢
  rcases Int.lt_or_le r 0 with y | y
  · (repeat (first | refine EK.seq ?_ | refine EK.region ?_ | refine ER.done ?_ | refine ER.move rfl rfl rfl ?_ | refine ER.assign rfl rfl rfl ?_ | refine ER.cmpT rfl rfl rfl rfl rfl (by first | (dsimp only [cmpP]; omega) | exact rfl | exact Int.le_refl _) ?_ | refine ER.add (kd := .i64) rfl rfl rfl rfl (i64_in (by omega) (by omega)) ?_ | refine EK.condT rfl ?_ | refine EK.ret ?_))
    exact EU.ret1 rfl rfl ⟨by rw [e1 y], rfl, rfl⟩
  · (repeat (first | refine EK.seq ?_ | refine EK.region ?_ | refine ER.done ?_ | refine EK.skip ?_ | refine ER.move rfl rfl rfl ?_ | refine ER.assign rfl rfl rfl ?_ | refine ER.cmpF rfl rfl rfl rfl rfl (by first | (dsimp only [cmpP]; omega) | exact rfl | exact Int.le_refl _) ?_ | refine EK.condF rfl ?_ | refine EK.ret ?_))
    exact EU.ret1 rfl rfl ⟨by rw [e2 y], rfl, rfl⟩
end
end
section
open Go Go.TJ Go.Proofs
variable [Dm]
structure Sd where
  n : Nat
  m : Nat
  N : Nat
  B : Nat -> Nat
  idx : Nat -> Nat
  vM : Nat
  vS : Nat
  vP : Nat
  vQ : Nat
  pb : Nat
  qb : Nat
def nilSl : Value := .slice none 0 0
def Sd.cl (x : Sd) : List Nat := (List.range (2 * x.N + 4)).map fun j => x.B (j + 2)
def Sd.q (x : Sd) : Kw := ⟨x.vM, x.vS, x.vP, x.vQ, x.B 0, x.B 1⟩
section
variable {h hF : Hp} {x : Sd}
theorem cells_ne' {b b' : Nat} {c c' : Array Value} {e e' : TypeId} (h1 : hF[b]? = some (.cells c e (0, 0))) (h2 : hF[b']? = some (.cells c' e' (0, 0))) (he : e ≠ e') : b ≠ b' := by
  rintro rfl
  rw [h1] at h2
  injection h2 with h2
  injection h2 with _ h2 _
  exact he h2
end
end
section
open Go Go.TJ Go.Proofs
variable [Dm]
structure De where
  n : Nat
  m : Nat
  L : Nat
  e : Nat
  cap : Nat
  rest : List Value
  F : Int
  B : Nat -> Nat
  idx : Nat -> Nat
  vN : Nat
  vM : Nat
  vD : Nat
  vE : Nat
  vL : Nat
  pb : Nat
def deq0 (F : Int) (k : Nat) : Int := if k < 4 then F else 0
structure Dst (h : Hp) (x : De) (h' : Hp) : Prop where
  u : Upd (fun _ => False) h h'
  N : h'[x.vN]? = some (.cells #[.int .i64 x.n] 3 (0, 0))
  M : h'[x.vM]? = some (.cells #[.int .i64 x.m] 2 (0, 0))
  D : h'[x.vD]? = some (.cells #[.pointer (some ⟨x.B 0, 0, none⟩)] 37 (0, 0))
  E : h'[x.vE]? = some (.cells #[.pointer (some ⟨x.B (4 + x.L), 0, none⟩)] 40 (0, 0))
  V : h'[x.vL]? = some (.cells #[.slice (some ⟨x.pb, 0, none⟩) (x.n + 1) (x.n + 1)] 28 (0, 0))
  pb : h'[x.pb]? = some (.cells (List.replicate (x.n + 1) nilSl).toArray 31 (0, 0))
  r : Rep h' (deqM x.L x.cap x.rest x.B (deq0 x.F))
  dn : h'[x.B (4 + x.L)]? = some (cellO 0)
  bl : ∀ k, k < 5 + x.L -> h.size <= x.B k
  bi : ∀ k, x.idx (x.B k) = k
  pl : h.size <= x.pb
  n7 : x.n <= 7
  m1 : x.m <= 1000
  hL : x.L = 2 ^ x.e
  he : 1 <= x.e /\ x.e <= 12
  wF : W64 x.F = x.F
theorem Dst.upd {h h1 h2 : Hp} {x : De} (k : Dst h x h1) (u : Upd (fun _ => False) h1 h2) : Dst h x h2 where
  u := k.u.trans u
  N := u.get k.N fun z => z
  M := u.get k.M fun z => z
  D := u.get k.D fun z => z
  E := u.get k.E fun z => z
  V := u.get k.V fun z => z
  pb := u.get k.pb fun z => z
  r := k.r.upd0 u
  dn := u.get k.dn fun z => z
  bl := k.bl
  bi := k.bi
  pl := k.pl
  n7 := k.n7
  m1 := k.m1
  hL := k.hL
  he := k.he
  wF := k.wF
theorem Dst.inj {h h1 : Hp} {x : De} (k : Dst h x h1) : ∀ i j, x.B i = x.B j -> i = j := fun i j e => by
  have h1 := k.bi i
  rw [e, k.bi j] at h1
  exact h1.symm
theorem Dst.L0 {h h1 : Hp} {x : De} (k : Dst h x h1) : 2 <= x.L := by
  rw [k.hL]; exact Nat.pow_le_pow_right (n := 2) (by decide) k.he.1
def De.cl (x : De) : List Nat := (List.range (x.L + 3)).map fun j => x.B (j + 2)
def dC (x : De) (hF : Hp) : Dc where
  n := x.n
  m := x.m
  L := x.L
  e := x.e
  F := x.F
  B := x.B
  pb := x.pb
  fb := hF.size
  top := hF.size + 3
  tS := 31
  tB := 4
  ro b := b < hF.size + 2 /\ b ∉ x.cl /\ b ≠ x.pb /\ b ≠ hF.size /\ ∃ c e f, (frH hF (x.n + 1))[b]? = some (.cells c e f) /\ Pres (frH hF (x.n + 1)) b
def dY (x : De) (c : Dc) : Dy := ⟨c, fun b => deq0 x.F (x.idx b), 0, 0, fun _ => 0, 0, 0, fun i => if i = c.n + 1 then 8 * c.m + 3007 else 1000, fun _ => [], fun _ => nilSl⟩
def De.q (x : De) : Ke := ⟨x.vN, x.vM, x.vD, x.vL, x.vE, x.B 0, x.B 1, x.cap⟩
section
variable {h hF : Hp} {x : De}
theorem Dst.cls (k : Dst h x hF) {b : Nat} (hb : b ∈ x.cl) : h.size <= b /\ b < hF.size /\ hF[b]? = some (cellO (deq0 x.F (x.idx b))) := by
  obtain ⟨j, hj, rfl⟩ := List.mem_map.1 hb
  have hj := List.mem_range.1 hj
  have hc : hF[x.B (j + 2)]? = some (cellO (deq0 x.F (x.idx (x.B (j + 2))))) := by
    rw [k.bi]
    by_cases e : j + 2 = 4 + x.L
    · rw [e, k.dn]
      unfold deq0
      rw [if_neg (by omega)]
    · exact deq_cell k.r (k := j + 2) (by omega) (by omega) rfl
  exact ⟨k.bl (j + 2) (by omega), lt_of_get hc, hc⟩
theorem Dst.ncls (k : Dst h x hF) {b : Nat} {c : Array Value} {e : TypeId} (hb : hF[b]? = some (.cells c e (0, 0))) (he : e ≠ 109) : b ∉ x.cl := fun hm => by
  obtain ⟨_, _, hv⟩ := k.cls hm
  rw [hv] at hb
  injection hb with hb
  injection hb with _ hb _
  exact he hb.symm
theorem Dst.roOf (k : Dst h x hF) {b : Nat} {c : Array Value} {e : TypeId} (hb : hF[b]? = some (.cells c e (0, 0))) (hc : c ≠ #[]) (h1 : e ≠ 109) (h2 : e ≠ 31) : (dC x hF).ro b := by
  have hlt := lt_of_get hb
  exact ⟨by omega, k.ncls hb h1, cells_ne' hb k.pb h2, by omega, _, _, _, frH_old hb, pres_of (frH_old hb) (by unfold dum; intro z; injection z with z; exact hc z)⟩
theorem Dst.km (k : Dst h x hF) : KE (dC x hF) x.q hF where
  N := hcell_of k.N rfl
  M := hcell_of k.M rfl
  D := hcell_of k.D rfl
  L := hcell_of k.V rfl
  E := hcell_of k.E rfl
  K := ⟨deq_top k.r, deq_bot k.r, deq_sl k.r, fun j hj => deq_row k.r hj⟩
theorem Dst.kro (k : Dst h x hF) : KEro (dC x hF) x.q where
  N := k.roOf k.N (by simp) (by decide) (by decide)
  M := k.roOf k.M (by simp) (by decide) (by decide)
  D := k.roOf k.D (by simp) (by decide) (by decide)
  L := k.roOf k.V (by simp) (by decide) (by decide)
  E := k.roOf k.E (by simp) (by decide) (by decide)
  s := k.roOf (k.r.get (k := 0) (by show 0 < 4 + x.L; omega) rfl) (by simp) (by decide) (by decide)
  r := k.roOf (k.r.get (k := 1) (by show 1 < 4 + x.L; omega) rfl) (by
    intro z
    have := congrArg Array.size z
    have := k.L0
    simp at *
    omega) (by decide) (by decide)
theorem Dst.kJ (k : Dst h x hF) : Dj (dY x (dC x hF)) where
  inj := k.inj
  ar j h1 h2 := by
    have hm : x.B j ∈ x.cl := List.mem_map.2 ⟨j - 2, List.mem_range.2 (by have : j < x.L + 5 := h2; omega), by rw [show j - 2 + 2 = j by omega]⟩
    exact ⟨fun e => k.ncls k.pb (by decide) ((show x.B j = x.pb from e) ▸ hm), fun e => by
      have := (k.cls hm).2.1
      have e' : x.B j = hF.size := e
      omega⟩
  ad := Nat.ne_of_lt (lt_of_get k.pb)
  n1 := k.n7
  m1 := k.m1
  hL := k.hL
  he := k.he
  vt := by
    show deq0 x.F (x.idx (x.B 2)) = W64 (x.F + ((0 : Nat) : Int))
    rw [k.bi, show x.F + ((0 : Nat) : Int) = x.F by omega, k.wF]
    rfl
  vb := by
    show deq0 x.F (x.idx (x.B 3)) = W64 (x.F + (((0 : Nat) : Int) - ((0 : Nat) : Int)))
    rw [k.bi, show x.F + (((0 : Nat) : Int) - ((0 : Nat) : Int)) = x.F by omega, k.wF]
    rfl
  ow1 := Nat.zero_le _
  r1 := Nat.le_refl _
  r2 := Nat.zero_le _
  r3 := Nat.le_refl _
  np := Nat.zero_le _
  sl z _ h2 := absurd h2 (Nat.not_lt_zero _)
  inc _ z _ _ h3 := absurd h3 (Nat.not_lt_zero _)
  th _ _ _ := ⟨List.Pairwise.nil, fun z hz => by cases hz⟩
  pm := by
    have : ∀ n, flW (fun _ => ([] : List Int)) n = [] := fun n => by unfold flW; simp
    show (flW (fun _ => ([] : List Int)) (x.n + 1) ++ ([] : List Nat).map _).Perm (([] : List Nat).map _)
    rw [this]
    exact List.Perm.refl _
theorem dcls_eq : dL.cls (dY x (dC x hF)) = x.cl := rfl
theorem darrT_eq {b : Nat} : dL.arrT (dY x (dC x hF)) b = if b = x.pb then some 31 else if b = hF.size then some 4 else none := rfl
theorem Dst.arrN (_ : Dst h x hF) {b : Nat} (h1 : b ≠ x.pb) (h3 : b ≠ hF.size) : dL.arrT (dY x (dC x hF)) b = none := by
  rw [darrT_eq, if_neg h1, if_neg h3]
theorem Dst.arrF (k : Dst h x hF) : dL.arrT (dY x (dC x hF)) hF.size = some 4 := by
  rw [darrT_eq, if_neg (Nat.ne_of_lt (lt_of_get k.pb)).symm, if_pos rfl]
theorem Dst.arrP (_ : Dst h x hF) : dL.arrT (dY x (dC x hF)) x.pb = some 31 := by rw [darrT_eq, if_pos rfl]
theorem Dst.starts (k : Dst h x hF) : Starts TT dL (dY x (dC x hF)) (hF.size + 2) (frH hF (x.n + 1)) where
  cell b hb := by
    rw [dcls_eq] at hb
    exact frH_old (k.cls hb).2.2
  arr b t hb := by
    rw [darrT_eq] at hb
    show (frH hF (x.n + 1))[b]? = some (.cells (if b = x.pb then _ else _) t (0, 0))
    by_cases h1 : b = x.pb
    · rw [if_pos h1] at hb
      cases hb
      subst h1
      rw [if_pos rfl, frH_old k.pb]
      congr 3
      show List.replicate (x.n + 1) nilSl = (List.range (x.n + 1)).map fun _ => nilSl
      rw [List.map_const', List.length_range]
    · rw [if_neg h1] at hb
      by_cases h3 : b = hF.size
      · rw [if_pos h3] at hb
        cases hb
        subst h3
        rw [if_neg h1, (frH_at hF (x.n + 1)).1]
        simp
        rfl
      · rw [if_neg h3] at hb; cases hb
  ne b t hb := by
    show (if b = x.pb then _ else Array.replicate (x.n + 1) (Value.bool false)) ≠ #[]
    intro z
    have z := congrArg Array.size z
    split at z
    · simp [dY, dC] at z
    · simp at z
  wg := (frH_at hF (x.n + 1)).2.2
  wc := ⟨fun hm => absurd (k.cls hm).2.1 (by omega), k.arrN (by have := lt_of_get k.pb; omega) (by omega)⟩
  J := k.kJ
  ro b hb := hb.2.2.2.2
set_option maxHeartbeats 4000000 in
theorem Dst.free {hA : Hp} (k : Dst h x hA) (u : Upd (fun _ => False) hA hF) {γ₀ : Gf Dy} (hst : γ₀.st = 0) (hnum : γ₀.num = 1) {B cap fB : Nat} {ib : Nat -> Nat} (hfB : hF[fB]? = some (.cells #[.func (.func 19) #[] x.q.caps] 34 (0, 0)))
    (hib : ∀ j, j < x.n + 1 -> hF[ib j]? = some (.cells #[.int .i64 j] 3 (0, 0))) (hB1 : hA.size <= B) (hB : ∀ j, j < x.n + 1 -> hcell hF ⟨B, j, none⟩ = some (.func (.func 62) #[] #[.pointer (some ⟨fB, 0, none⟩), .pointer (some ⟨ib j, 0, none⟩)])) :
    CallW Try.prog true (SitM Try.prog (XF TT dL)) 49 #[.slice (some ⟨B, 0, none⟩) (x.n + 1) cap] hF ⟨0, γ₀⟩ (Ret fun v h' δ' => v = .slice none 0 0 /\ δ'.d = 0 /\ Freed dL (dY x (dC x hF)) hF (x.n + 1) h' δ'.g) := by
  have k' := k.upd u
  have hBlt : B < hF.size := by
    obtain ⟨_, _, _, h1, _⟩ := hcell_some (hB 0 (Nat.succ_pos _))
    exact lt_of_get h1
  have b1 := lt_of_get k.pb
  have n7 := k.n7
  refine free_ok dL_ok (bf := fun _ => 62) (bcap := fun j => #[.pointer (some ⟨fB, 0, none⟩), .pointer (some ⟨ib j, 0, none⟩)]) (hbf := fun _ => inferInstance) hst hnum (by omega) hB k'.starts ⟨fun hm => ?_, k'.arrN (by omega) (by omega)⟩ k'.arrF (fun y hJ hr => ?_) ?_ (fun b hb => ⟨hb.2.1, k'.arrN hb.2.2.1 hb.2.2.2.1, hb.1⟩) ?_
  · have := (k.cls hm).2.1
    omega
  · have e : y.c = dC x hF := hr.law.c
    have := (darr_f hJ (w := 0) (Nat.succ_pos _)).2.1
    rw [e] at this
    exact this
  · have hV := (frH_at hF (x.n + 1)).2.1
    exact ⟨by omega, fun hm => absurd (k'.cls hm).2.1 (by omega), by have := lt_of_get k'.pb; omega, by omega, _, _, _, hV, pres_of hV (by unfold dum; simp)⟩
  · refine dbody_ok (c := dC x hF) (q := x.q) rfl k.n7 k.m1 k.hL k.he k'.km k'.kro rfl rfl (fun b hb => by show b < hF.size + 3; have := hb.1; omega) (hcell_of hfB rfl) (k'.roOf hfB (by simp) (by decide) (by decide)) (fun j hj => ⟨hcell_of (hib j hj) rfl, k'.roOf (hib j hj) (by simp) (by decide) (by decide)⟩) (fun j hj => ⟨rfl, Nat.zero_le _, rfl, ?_, rfl⟩) ⟨k'.kJ.vb, rfl, rfl, rfl⟩
    show (if j = x.n then 8 * x.m + 3007 else 1000) <= if j + 1 = x.n + 1 then 8 * x.m + 3007 else 1000
    by_cases e : j = x.n
    · rw [if_pos e, if_pos (by omega)]; exact Nat.le_refl _
    · rw [if_neg e, if_neg (by omega)]; exact Nat.le_refl _
end
end
section
open Go Go.TJ Go.Proofs
variable [Dm]
section
variable {Γ : Type} {main : Bool} {h : Hp} {δ : Ix Γ} {n : Nat} {B : Nat -> Nat} {v : Nat -> Int} {l2 l3 : List Nat} {y : Nat}
set_option maxRecDepth 8000 in
end
end
section
open Go Go.TJ Go.Proofs
variable [Dm]
section
variable {h hF h' : Hp} {x : Sd}
end
end
section
open Go Go.TJ Go.Proofs
variable [Dm]
theorem Rd.val {top : Nat} {h : Hp} {v : Value} {l : List Int} (x : Rd top h v l) : ∃ a cap, v = .slice a l.length cap /\ ∀ k, k < l.length -> ∃ b, a = some ⟨b, 0, none⟩ /\ hcell h ⟨b, k, none⟩ = some (.int .i64 (l.getD k 0)) := by
  obtain ⟨a, cap, rfl, g⟩ := x
  refine ⟨a, cap, rfl, fun k hk => ?_⟩
  obtain ⟨b, e, _, h2⟩ := g k l[k] (List.getElem?_eq_getElem hk)
  refine ⟨b, e, ?_⟩
  rw [List.getD_eq_getElem?_getD, List.getElem?_eq_getElem hk]
  exact h2
def upL (f : Nat -> List Int) (i k : Nat) : List Int := (List.range i).flatMap f ++ (f i).take k
theorem upL_zero (f : Nat -> List Int) (i : Nat) : upL f i 0 = (List.range i).flatMap f := by simp [upL]
theorem upL_succ {f : Nat -> List Int} {i k : Nat} (h : k < (f i).length) : upL f i (k + 1) = upL f i k ++ [(f i).getD k 0] := by
  unfold upL
  rw [List.take_add_one, List.getElem?_eq_getElem h, List.getD_eq_getElem?_getD, List.getElem?_eq_getElem h, List.append_assoc]
  rfl
theorem upL_end (f : Nat -> List Int) (i : Nat) : upL f i (f i).length = upL f (i + 1) 0 := by
  rw [upL_zero, List.range_succ, List.flatMap_append]
  simp [upL]
def dnL (f : Nat -> List Int) (n i k : Nat) : List Int := (f i).drop k ++ (List.range' (i + 1) (n - i)).flatMap f
theorem dnL_succ {f : Nat -> List Int} {n i k : Nat} (h : k < (f i).length) : dnL f n i k = (f i).getD k 0 :: dnL f n i (k + 1) := by
  unfold dnL
  rw [List.drop_eq_getElem_cons h, List.getD_eq_getElem?_getD, List.getElem?_eq_getElem h]
  rfl
theorem dnL_zero (f : Nat -> List Int) (n : Nat) : dnL f n 0 0 = (List.range (n + 1)).flatMap f := by
  unfold dnL
  rw [List.drop_zero, Nat.sub_zero, List.range_eq_range', List.range'_succ, List.flatMap_cons]
def rtL (f : Nat -> List Int) (n i : Nat) : List Int := (List.range' i (n + 1 - i)).flatMap f
theorem rtL_dn {f : Nat -> List Int} {n i : Nat} (h : i <= n) : rtL f n i = dnL f n i 0 := by
  unfold rtL dnL
  rw [show n + 1 - i = (n - i) + 1 by omega, List.range'_succ, List.flatMap_cons, List.drop_zero]
theorem rtL_end {f : Nat -> List Int} {n i : Nat} (h : i <= n) : dnL f n i (f i).length = rtL f n (i + 1) := by
  unfold rtL dnL
  rw [List.drop_length, List.nil_append, show n + 1 - (i + 1) = n - i by omega]
section
variable {pu : Nat -> List Int} {n m i k : Nat} (hm : m <= 1000) (nd : ∀ w, w < n -> (pu w).Nodup) (rg : ∀ w, w < n -> ∀ z, z ∈ pu w -> 1000 * (w : Int) <= z /\ z < 1000 * (w : Int) + m)
include hm rg in
include hm nd rg in
end
end
section
open Go Go.TJ Go.Proofs
variable [Dm]
structure Fin1 (n vP pb : Nat) (sp : Nat -> Value) (pu : Nat -> List Int) (h : Hp) : Prop where
  P : hcell h ⟨vP, 0, none⟩ = some (.slice (some ⟨pb, 0, none⟩) n n)
  p : ∀ w, w < n -> hcell h ⟨pb, w, none⟩ = some (sp w) /\ Rd 0 h (sp w) (pu w)
theorem Fin1.upd {n vP pb : Nat} {sp : Nat -> Value} {pu : Nat -> List Int} {h h' : Hp} {T : Nat -> Prop} (x : Fin1 n vP pb sp pu h) (u : Upd T h h') (hT : ∀ b, T b -> h.size <= b) : Fin1 n vP pb sp pu h' := by
  have key : ∀ {b o : Nat} {v : Value}, hcell h ⟨b, o, none⟩ = some v -> hcell h' ⟨b, o, none⟩ = some v := fun {b o v} hc => u.hcell hc fun z => by
    obtain ⟨_, _, _, h1, _⟩ := hcell_some hc
    have h2 : b < h.size := lt_of_get h1
    have h3 : h.size <= b := hT _ z
    omega
  exact ⟨key x.P, fun w hw => ⟨key (x.p w hw).1, (x.p w hw).2.mono (Nat.le_refl _) fun b o v _ => key⟩⟩
structure Den (h : Hp) (x : De) (v : Nat -> Int) (T : Int) (sq : Nat -> Value) (po : Nat -> List Int) (h' : Hp) : Prop where
  u : Upd (fun _ => False) h h'
  N : hcell h' ⟨x.vN, 0, none⟩ = some (.int .i64 x.n)
  M : hcell h' ⟨x.vM, 0, none⟩ = some (.int .i64 x.m)
  D : hcell h' ⟨x.vD, 0, none⟩ = some (.pointer (some ⟨x.B 0, 0, none⟩))
  r : Rep h' (deqM x.L x.cap x.rest x.B v)
  v2 : v 2 = W64 T
  v3 : v 3 = W64 (T + ((0 : Nat) : Int))
  F : Fin1 (x.n + 1) x.vL x.pb sq po h'
  th : ∀ w, w < x.n -> (po w).Pairwise (· < ·)
  pm : ((List.range (x.n + 1)).flatMap po).Perm ((List.range x.m).map fun k : Nat => (k : Int) + 1)
section
variable {h hF h' : Hp} {x : De}
set_option maxHeartbeats 4000000 in
theorem Dst.fin (k : Dst h x hF) (hnd : ∀ (b : Nat) (o : Obj), h[b]? = some o -> o ≠ dum) {γ' : Gf Dy} (f : Freed dL (dY x (dC x hF)) hF (x.n + 1) h' γ') : ∃ v T sq po, Den h x v T sq po h' := by
  have b1 := lt_of_get k.pb
  obtain ⟨y, hr, hJ, hfin, old, cel, ar, hsz⟩ := freed_out2 f ⟨fun hm => absurd (k.cls hm).2.1 (by omega), k.arrN (by omega) (by omega)⟩ k.arrF
  have hc : y.c = dC x hF := hr.law.c
  have key : ∀ (b : Nat) (c : Array Value) (e : TypeId), hF[b]? = some (.cells c e (0, 0)) -> c ≠ #[] -> e ≠ 109 -> e ≠ 31 -> h'[b]? = some (.cells c e (0, 0)) := fun b c e hb h0 h1 h2 =>
    old b _ hb (by unfold dum; intro z; injection z with z; exact h0 z) (k.ncls hb h1) (k.arrN (cells_ne' hb k.pb h2) (Nat.ne_of_lt (lt_of_get hb)))
  have fin : ∀ w, w < x.n + 1 -> Rd hF.size h' (y.sq w) (y.po (w + 1)) := fun w hw => by
    obtain ⟨hf, q, hm⟩ := hfin (w + 1) (by omega) (by omega)
    obtain ⟨q1, q2⟩ := q (Nat.succ_pos w)
    rw [hc] at q1
    exact q1.mono (by show hF.size <= hF.size + 3; omega) hm
  obtain ⟨et, eo, en⟩ : y.tp = y.bt /\ y.ow = 0 /\ y.np = y.c.m := by
    obtain ⟨hf, q, hm⟩ := hfin (x.n + 1) (by omega) (Nat.le_refl _)
    exact (q (Nat.succ_pos _)).2 (by rw [hc]; rfl)
  have row : ((List.range x.L).map (fun j => ptr (x.B (4 + j))) ++ x.rest) ≠ [] := by
    intro z
    have h1 := congrArg List.length z
    have h2 := k.L0
    simp at h1
    omega
  have k0 := key _ _ _ (k.r.get (k := 0) (by show 0 < 4 + x.L; omega) rfl) (by simp) (by decide) (by decide)
  have k1 := key _ _ _ (k.r.get (k := 1) (by show 1 < 4 + x.L; omega) rfl) (by intro z; exact row (by simpa using z)) (by decide) (by decide)
  have cl : ∀ j, 2 <= j -> j < 5 + x.L -> x.B j ∈ x.cl := fun j h1 h2 => List.mem_map.2 ⟨j - 2, List.mem_range.2 (by omega), by rw [show j - 2 + 2 = j by omega]⟩
  have rep : Rep h' (deqM x.L x.cap x.rest x.B fun j => y.v (x.B j)) := by
    refine ⟨fun j hj => ?_, k.r.inj⟩
    have hj' : j < 4 + x.L := hj
    show h'[x.B j]? = some (if j = 0 then _ else if j = 1 then _ else cellO (y.v (x.B j)))
    by_cases e0 : j = 0
    · subst e0; rw [if_pos rfl]; exact k0
    · by_cases e1 : j = 1
      · subst e1; rw [if_neg e0, if_pos rfl]; exact k1
      · rw [if_neg e0, if_neg e1]
        exact cel _ (cl j (by omega) (by omega))
  have vt := hJ.vt
  have vb := hJ.vb
  rw [hc] at vt vb
  refine ⟨fun j => y.v (x.B j), x.F + y.tp, y.sq, fun w => y.po (w + 1), ⟨⟨Nat.le_trans k.u.size (Nat.le_of_lt hsz), fun b hb _ => ?_⟩, hcell_of (key _ _ _ k.N (by simp) (by decide) (by decide)) rfl, hcell_of (key _ _ _ k.M (by simp) (by decide) (by decide)) rfl, hcell_of (key _ _ _ k.D (by simp) (by decide) (by decide)) rfl, rep, vt, ?_, ⟨hcell_of (key _ _ _ k.V (by simp) (by decide) (by decide)) rfl, fun w hw => ⟨?_, (fin w hw).mono (Nat.zero_le _) fun _ _ _ _ z => z⟩⟩, fun w hw => ?_, ?_⟩⟩
  · obtain ⟨o, ho⟩ : ∃ o, h[b]? = some o := ⟨_, Array.getElem?_eq_getElem hb⟩
    have e1 := k.pl
    have e3 := k.u.size
    rw [ho]
    exact old b o (k.u.get ho fun z => z) (hnd b o ho) (fun hm => absurd (k.cls hm).1 (by omega)) (k.arrN (by omega) (by omega))
  · refine vb.trans ?_
    show W64 (x.F + ((y.bt : Int) - y.ow)) = _
    rw [eo, <- et]
    congr 1
    omega
  · refine hcell_of (ar _ _ k.arrP) ?_
    show (if x.pb = y.c.pb then ((List.range (y.c.n + 1)).map y.sq).toArray else _ : Array Value)[w]? = _
    rw [hc, show (dC x hF).pb = x.pb from rfl, if_pos rfl]
    exact range_get hw
  · exact (hJ.th (w + 1) (Nat.succ_pos w) (by rw [hc]; exact hw)).1
  · have pm := hJ.pm
    rw [et, Nat.sub_self, en, hc] at pm
    have e : (List.range' y.bt 0).map y.V = [] := rfl
    rw [e, List.append_nil] at pm
    exact pm
end
end
section
open Go Go.TJ Go.Proofs
variable [Dm]
theorem up_rt {f : Nat -> List Int} {n : Nat} : ∀ i : Nat, i <= n + 1 -> upL f i 0 ++ rtL f n i = (List.range (n + 1)).flatMap f
  | 0, _ => by
    rw [upL_zero, rtL_dn (Nat.zero_le _), dnL_zero]
    rfl
  | i + 1, h => by
    rw [<- up_rt i (by omega), <- upL_end, rtL_dn (show i <= n by omega), <- rtL_end (show i <= n by omega)]
    unfold upL dnL
    rw [List.take_length, List.drop_length, List.drop_zero, List.take_zero]
    simp
theorem up_dn {f : Nat -> List Int} {n i : Nat} (hi : i <= n) (k : Nat) : upL f i k ++ dnL f n i k = (List.range (n + 1)).flatMap f := by
  rw [<- up_rt i (by omega), rtL_dn hi]
  unfold upL dnL
  rw [List.append_assoc, <- List.append_assoc ((f i).take k), List.take_append_drop, List.take_zero, List.drop_zero]
  simp
section
variable {f : Nat -> List Int} {n m i k : Nat} (pm : ((List.range (n + 1)).flatMap f).Perm ((List.range m).map fun k : Nat => (k : Int) + 1))
include pm in
theorem dw_nodup : ((List.range (n + 1)).flatMap f).Nodup := by
  refine pm.nodup_iff.2 (List.pairwise_map.2 (List.nodup_range.imp fun {a b} hne e => hne ?_))
  omega
include pm in
theorem dw_bound {z : Int} (hz : z ∈ (List.range (n + 1)).flatMap f) : 1 <= z /\ z <= m := by
  obtain ⟨k, hk, rfl⟩ := List.mem_map.1 (pm.mem_iff.1 hz)
  have := List.mem_range.1 hk
  omega
include pm in
theorem dw_new (hi : i <= n) (hk : k < (f i).length) : (1 <= (f i).getD k 0 /\ (f i).getD k 0 <= m) /\ (f i).getD k 0 ∉ upL f i k := by
  have e := up_dn (f := f) hi k
  have nd := dw_nodup pm
  rw [<- e, dnL_succ hk] at nd
  have hm : (f i).getD k 0 ∈ (List.range (n + 1)).flatMap f := by
    rw [<- e, dnL_succ hk]
    simp
  exact ⟨dw_bound pm hm, fun h => (List.nodup_append.1 nd).2.2 _ h _ List.mem_cons_self rfl⟩
include pm in
theorem dw_len (hi : i <= n) : (f i).length <= m /\ (upL f i k).length <= m := by
  have h1 := pm.length_eq
  rw [List.length_map, List.length_range] at h1
  have h2 := congrArg List.length (up_dn (f := f) hi 0)
  have h3 := congrArg List.length (up_dn (f := f) hi k)
  rw [List.length_append] at h2 h3
  have h4 : (dnL f n i 0).length = (f i).length + ((List.range' (i + 1) (n - i)).flatMap f).length := by
    unfold dnL
    rw [List.length_append, List.drop_zero]
  omega
include pm in
theorem dw_all : (upL f (n + 1) 0).length = m := by
  rw [upL_zero, pm.length_eq, List.length_map, List.length_range]
end
def bcells (m : Nat) (S : Nat -> Bool) : Obj := .cells ((List.range m).map fun j => Value.bool (S j)).toArray 4 (0, 0)
theorem bcells_get {m j : Nat} {S : Nat -> Bool} {h : Hp} {b : Nat} (hb : h[b]? = some (bcells m S)) (hj : j < m) : hcell h ⟨b, j, none⟩ = some (.bool (S j)) := hcell_of hb (by simp [hj])
theorem bcells_set {m j : Nat} {S : Nat -> Bool} {h : Hp} {b : Nat} {v : Bool} (hb : h[b]? = some (bcells m S)) : (hset h ⟨b, j, none⟩ (.bool v))[b]? = some (bcells m (u1 S j v)) := by
  rw [hset_get, if_pos rfl, hb]
  unfold bcells
  rw [map_u1 (fun z : Bool => Value.bool z)]
  rfl
def BIn (S : Nat -> Bool) (L : List Int) : Prop := ∀ j : Nat, S j = decide ((j : Int) ∈ L)
theorem BIn.add {S : Nat -> Bool} {L : List Int} {v : Int} (x : BIn S L) (v0 : 0 <= v) (hv : v ∉ L) : S v.toNat = false /\ BIn (u1 S v.toNat true) (L ++ [v]) := by
  have e : ((v.toNat : Nat) : Int) = v := Int.toNat_of_nonneg v0
  refine ⟨by rw [x, e]; exact decide_eq_false hv, fun j => ?_⟩
  by_cases h : j = v.toNat
  · subst h
    rw [u1_same, e]
    exact (decide_eq_true (by simp)).symm
  · rw [u1_ne h, x]
    have : (j : Int) ≠ v := by omega
    simp [this]
theorem pw_lt {l : List Int} (h : l.Pairwise (· < ·)) {k : Nat} (hk : k < l.length) (h0 : 0 < k) : l.getD (k - 1) 0 < l.getD k 0 := by
  have := List.pairwise_iff_getElem.1 h (k - 1) k (by omega) hk (by omega)
  rw [List.getD_eq_getElem?_getD, List.getD_eq_getElem?_getD, List.getElem?_eq_getElem (by omega), List.getElem?_eq_getElem hk]
  exact this
end
section
open Go Go.TJ Go.Proofs
variable [Dm]
theorem sx_inj {n : Nat} (B : Nat -> Nat) (m : Nat) (inj : ∀ j k, j < n -> k < n -> B j = B k -> j = k) (lt : ∀ k, k < n -> B k < m) : ∃ B' : Nat -> Nat, (∀ k, k < n -> B' k = B k) /\ ∀ j k, B' j = B' k -> j = k := by
  refine ⟨fun k => if k < n then B k else m + k, fun k hk => if_pos hk, fun j k e => ?_⟩
  dsimp only at e
  by_cases hj : j < n <;> by_cases hk : k < n
  · rw [if_pos hj, if_pos hk] at e; exact inj j k hj hk e
  · rw [if_pos hj, if_neg hk] at e; have := lt j hj; omega
  · rw [if_neg hj, if_pos hk] at e; have := lt k hk; omega
  · rw [if_neg hj, if_neg hk] at e; omega
theorem sx_back {B : Nat -> Nat} (inj : ∀ j k, B j = B k -> j = k) : ∃ idx : Nat -> Nat, ∀ k, idx (B k) = k := by
  classical
  refine ⟨fun b => if h : ∃ k, B k = b then Classical.choose h else 0, fun k => ?_⟩
  have h : ∃ j, B j = B k := ⟨k, rfl⟩
  simp only [dif_pos h]
  exact inj _ _ (Classical.choose_spec h)
set_option maxRecDepth 8000 in
end
section
open Go Go.TJ Go.Proofs
variable [Dm]
theorem deqM_congr {n cap : Nat} {rest : List Value} {B B' : Nat -> Nat} {v : Nat -> Int} {h : Hp} (r : Rep h (deqM n cap rest B v)) (hB : ∀ k, k < 4 + n -> B' k = B k) (hn : 0 < n) : Rep h (deqM n cap rest B' v) := by
  refine r.congr (fun k hk => hk) hB (fun k hk => ?_)
  show (if k = 0 then _ else if k = 1 then _ else _) = (if k = 0 then _ else if k = 1 then _ else _)
  by_cases k0 : k = 0
  · rw [if_pos k0, if_pos k0, hB 2 (by omega), hB 3 (by omega), hB 1 (by omega)]
  · by_cases k1 : k = 1
    · rw [if_neg k0, if_pos k1, if_neg k0, if_pos k1]
      congr 3
      refine List.map_congr_left fun j hj => ?_
      have := List.mem_range.1 hj
      rw [hB (4 + j) (by omega)]
    · rw [if_neg k0, if_neg k1, if_neg k0, if_neg k1]
theorem shl_ok {t : TypeId} : ∀ k : Nat, k < 6 -> binOp .shl t (.int .i64 2) (.int .u8 (k : Int)) = pure (.int .i64 ((2 ^ (k + 1) : Nat) : Int))
  | 0, _ => rfl
  | 1, _ => rfl
  | 2, _ => rfl
  | 3, _ => rfl
  | 4, _ => rfl
  | 5, _ => rfl
  | k + 6, h => by omega
set_option maxRecDepth 8000 in
set_option maxHeartbeats 16000000 in
theorem dlaw_ok {w s t F : Int} {h : Hp} {γ₀ : Gf Dy} (hst : γ₀.st = 0) (hnum : γ₀.num = 1) (hnd : ∀ (b : Nat) (o : Obj), h[b]? = some o -> o ≠ dum) (t0 : 0 <= t) (t1 : t <= 255) (wF : W64 F = F) :
    CallW Try.prog true (SitM Try.prog (XF TT dL)) 4 #[.int .i64 w, .int .i64 s, .int .u8 t, .int .i64 F] h ⟨0, γ₀⟩ (Ret fun v h' δ' => v = .bool true /\ δ'.d = 0 /\ Upd (fun _ => False) h h' /\ ((XF TT dL).jn δ'.g \/ ((XF TT dL).lone δ'.g /\ δ'.g.num = 1))) := by
  have hlo : (SitM Try.prog (XF TT dL)).lone γ₀ := ⟨by omega, fun j j0 hj => by have hj' : j < γ₀.num := hj; omega⟩
  have hsl : ∀ a, ¬ (SitM Try.prog (XF TT dL)).still γ₀ a := fun a z => by have : γ₀.st = 1 := z.1; omega
  have lft : ∀ {f : FuncId} {args : Array Value} {hh : Hp} {R : Post (Gf Dy)}, CallW Try.prog true NoS f args hh ⟨0, γ₀⟩ R -> CallW Try.prog true (SitM Try.prog (XF TT dL)) f args hh ⟨0, γ₀⟩ R := fun hc => hc.noS hsl hlo (fun z => z)
  obtain ⟨n, hn, n7⟩ : ∃ n : Nat, w % ((7 : Nat) : Int) = n /\ n <= 7 := ⟨(w % 7).toNat, by omega, by omega⟩
  obtain ⟨m, hm, m1⟩ : ∃ m : Nat, s % ((200 : Nat) : Int) = m /\ m <= 199 := ⟨(s % 200).toNat, by omega, by omega⟩
  obtain ⟨k, hk, k1⟩ : ∃ k : Nat, t.tmod 6 = k /\ k < 6 := by
    have h1 := Int.tmod_nonneg 6 t0
    have h2 := Int.tmod_lt_of_pos t (b := 6) (by decide)
    exact ⟨(t.tmod 6).toNat, by omega, by omega⟩
  obtain ⟨e, he, e1, e2⟩ : ∃ e : Nat, e = k + 1 /\ 1 <= e /\ e <= 12 := ⟨k + 1, rfl, by omega, by omega⟩
  refine CallW.start (n := 123) rfl rfl ?_
  (repeat (first | refine EK.seq ?_ | refine EK.region ?_ | refine ER.done ?_ | refine ER.assign rfl rfl rfl ?_))
  refine ER.callR rfl rfl rfl rfl rfl (lft deqworks_ok) ?_
  rintro _ h1 δ1 ⟨rfl, u1, rfl⟩
  (repeat (first | refine EK.seq ?_ | refine EK.region ?_ | refine ER.done ?_ | refine ER.move rfl rfl rfl ?_ | refine ER.assign rfl rfl rfl ?_))
  refine ER.callD rfl rfl rfl rfl rfl (lft (place_ok (n := 7) (by omega) (by omega))) ?_
  rw [hn]
  (repeat refine ER.alloc rfl rfl ?_)
  refine ER.storeNew rfl rfl rfl rfl (by simp [OneCell]) (hsl _) ?_
  refine ER.gen (fun h' => Upd (fun _ => False) h h' /\ h'[h1.size]? = some (.cells #[.int .i64 n] 3 (0, 0))) ⟨u1.trans (Upd.push _ _), get_push_new _ _⟩ ?_
  clear u1
  generalize h1.size = vN
  rintro h2 ⟨uu, N⟩
  (repeat (first | refine EK.seq ?_ | refine EK.region ?_ | refine ER.done ?_ | refine ER.move rfl rfl rfl ?_))
  refine ER.callD rfl rfl rfl rfl rfl (lft (place_ok (n := 200) (by omega) (by omega))) ?_
  rw [hm]
  (repeat refine ER.alloc rfl rfl ?_)
  refine ER.storeNew rfl rfl rfl rfl (by simp [OneCell]) (hsl _) ?_
  refine ER.gen (fun h' => Upd (fun _ => False) h h' /\ h'[vN]? = some (.cells #[.int .i64 n] 3 (0, 0)) /\ h'[h2.size]? = some (.cells #[.int .i64 m] 2 (0, 0))) ⟨uu.trans (Upd.push _ _), get_push _ N, get_push_new _ _⟩ ?_
  clear uu N
  generalize h2.size = vM
  rintro h3 ⟨uu, N, M⟩
  (repeat (first | refine EK.seq ?_ | refine EK.region ?_ | refine ER.done ?_ | refine ER.move rfl rfl rfl ?_))
  refine ER.rem (kd := .u8) rfl rfl rfl rfl (by decide) rfl ?_
  rw [hk]
  refine ER.binI2 rfl rfl rfl rfl (shl_ok k k1) ?_
  rw [show (2 ^ (k + 1) : Nat) = 2 ^ e by rw [he]]
  obtain ⟨L, hL⟩ : ∃ L : Nat, L = 2 ^ e := ⟨_, rfl⟩
  rw [<- hL]
  have L2 : 2 <= L := by rw [hL]; exact Nat.pow_le_pow_right (n := 2) (by decide) e1
  (repeat refine ER.move rfl rfl rfl ?_)
  refine ER.callR rfl rfl rfl rfl rfl (lft (deqnew_ok (n := L) (e := e) hL e1 e2 (fun _ _ _ z => z))) ?_
  rintro _ h4 δ4 ⟨rfl, u4, cap, rest, B₀, rfl, r₀, ab₀⟩
  (repeat (first | refine ER.move rfl rfl rfl ?_ | refine ER.extract rfl rfl rfl rfl ?_ | refine ER.alloc rfl rfl ?_))
  refine ER.storeNew rfl rfl rfl rfl (by simp [OneCell]) (hsl _) ?_
  have uu4 := uu.size
  refine ER.gen (fun h' => Upd (fun _ => False) h h' /\ h'[vN]? = some (.cells #[.int .i64 n] 3 (0, 0)) /\ h'[vM]? = some (.cells #[.int .i64 m] 2 (0, 0)) /\ Rep h' (deqM L cap rest B₀ (deq0 F)) /\ h'[h4.size]? = some (.cells #[.pointer (some ⟨B₀ 0, 0, none⟩)] 37 (0, 0)))
    ⟨(uu.trans u4).trans (Upd.push _ _), get_push _ (u4.get N fun z => z), get_push _ (u4.get M fun z => z), r₀.upd0 (Upd.push _ _), get_push_new _ _⟩ ?_
  replace ab₀ : ∀ k, k < 4 + L -> h.size <= B₀ k := fun k hk => Nat.le_trans uu4 (ab₀ k hk)
  clear uu N M u4 r₀ uu4
  generalize h4.size = vD
  rintro h5 ⟨uu, N, M, r₀, D⟩
  (repeat (first | refine EK.seq ?_ | refine EK.region ?_ | refine ER.done ?_ | refine EK.skip ?_ | refine ER.move rfl rfl rfl ?_ | refine ER.assign rfl rfl rfl ?_ | refine ER.load1 rfl rfl rfl (hcell_of (by assumption) rfl) ?_ | refine ER.eqV rfl rfl rfl rfl rfl ?_ | refine ER.notB rfl rfl rfl ?_ | refine ER.pickF rfl rfl rfl rfl ?_ | refine ER.cmpF rfl rfl rfl rfl rfl (by first | (dsimp only [cmpP]; omega) | exact rfl | exact Int.le_refl _) ?_ | refine EK.condF rfl ?_))
  refine ER.callD rfl rfl rfl rfl rfl (lft cnew) ?_
  (repeat refine ER.alloc rfl rfl ?_)
  refine ER.storeNew rfl rfl rfl rfl (by simp [OneCell]) (hsl _) ?_
  refine ER.gen (fun h' => Upd (fun _ => False) h5 h' /\ h'[h5.size]? = some (cellO 0) /\ h'[(h5.push (cellO 0)).size]? = some (.cells #[.pointer (some ⟨h5.size, 0, none⟩)] 40 (0, 0)))
    ⟨(Upd.push _ _).trans (Upd.push _ _), get_push _ (get_push_new _ _), get_push_new _ _⟩ ?_
  have hs5 := uu.size
  generalize (h5.push (cellO 0)).size = vE
  rintro h6 ⟨u6, Dn, E⟩
  obtain ⟨B, hB, inj⟩ := sx_inj (n := 5 + L) (fun k => if k = 4 + L then h5.size else B₀ k) h6.size (fun i j hi hj ee => by
    by_cases ei : i = 4 + L
    · by_cases ej : j = 4 + L
      · omega
      · rw [if_pos ei, if_neg ej] at ee
        have := r₀.lt (k := j) (show j < 4 + L by omega)
        have this' : B₀ j < h5.size := this
        omega
    · by_cases ej : j = 4 + L
      · rw [if_neg ei, if_pos ej] at ee
        have := r₀.lt (k := i) (show i < 4 + L by omega)
        have this' : B₀ i < h5.size := this
        omega
      · rw [if_neg ei, if_neg ej] at ee
        exact r₀.inj i j (show i < 4 + L by omega) (show j < 4 + L by omega) ee) (fun i hi => by
    by_cases ei : i = 4 + L
    · rw [if_pos ei]; exact lt_of_get Dn
    · rw [if_neg ei]
      have := r₀.lt (k := i) (show i < 4 + L by omega)
      have this' : B₀ i < h5.size := this
      have := u6.size
      omega)
  obtain ⟨idx, bi⟩ := sx_back inj
  have hB4 : ∀ k, k < 4 + L -> B k = B₀ k := fun k hk => by rw [hB k (by omega), if_neg (by omega)]
  have hBd : B (4 + L) = h5.size := by rw [hB (4 + L) (by omega), if_pos rfl]
  have r : Rep h6 (deqM L cap rest B (deq0 F)) := deqM_congr (r₀.upd0 u6) hB4 (by omega)
  have bl : ∀ k, k < 5 + L -> h.size <= B k := fun k hk => by
    by_cases ek : k = 4 + L
    · rw [ek, hBd]; exact hs5
    · rw [hB4 k (by omega)]; exact ab₀ k (by omega)
  replace uu := uu.trans u6
  replace N := u6.get N fun z => z
  replace M := u6.get M fun z => z
  replace D := u6.get D fun z => z
  rw [<- hB4 0 (by omega)] at D
  rw [<- hBd] at Dn E
  clear u6 r₀ ab₀ hB inj hB4 hBd hs5
  (repeat (first | refine EK.seq ?_ | refine EK.region ?_ | refine ER.done ?_ | refine ER.load1 rfl rfl rfl (hcell_of (by assumption) rfl) ?_ | refine ER.add (kd := .i64) rfl rfl rfl rfl (i64_in (by omega) (by omega)) ?_))
  refine ER.makeSliceD (m := n + 1) rfl rfl rfl rfl (by omega) (by omega) rfl ?_
  (repeat refine ER.alloc rfl rfl ?_)
  refine ER.storeNew rfl rfl rfl rfl (by simp [OneCell]) (hsl _) ?_
  refine ER.gen (fun h7 => Upd (fun _ => False) h6 h7 /\ h7[h6.size]? = some (.cells (List.replicate (n + 1) (Value.slice none 0 0)).toArray 31 (0, 0)) /\ h7[(Array.push h6 (Obj.cells (List.replicate (n + 1) (Value.slice none 0 0)).toArray 31 (0, 0))).size]? = some (.cells #[.slice (some ⟨h6.size, 0, none⟩) (n + 1) (n + 1)] 28 (0, 0)))
    ⟨(Upd.push _ _).trans (Upd.push _ _), get_push _ (get_push_new _ _), get_push_new _ _⟩ ?_
  have pl : h.size <= h6.size := uu.size
  generalize (Array.push h6 (Obj.cells (List.replicate (n + 1) (Value.slice none 0 0)).toArray 31 (0, 0))).size = vL
  generalize h6.size = pb at pl ⊢
  rintro h7 ⟨u7, Pb, Pv⟩
  have K : Dst h ⟨n, m, L, e, cap, rest, F, B, idx, vN, vM, vD, vE, vL, pb⟩ h7 := ⟨uu.trans u7, u7.get N fun z => z, u7.get M fun z => z, u7.get D fun z => z, u7.get E fun z => z, Pv, Pb, r.upd0 u7, u7.get Dn fun z => z, bl, bi, pl, n7, by show m <= 1000; omega, hL, ⟨e1, e2⟩, wF⟩
  clear Pb Pv uu bl bi pl r D E Dn
  replace N := u7.get N fun z => z
  clear u7 M
  (repeat (first | refine EK.seq ?_ | refine EK.region ?_ | refine ER.done ?_ | refine ER.load1 rfl rfl rfl (hcell_of (by assumption) rfl) ?_ | refine ER.add (kd := .i64) rfl rfl rfl rfl (i64_in (by omega) (by omega)) ?_))
  refine ER.makeF rfl rfl rfl rfl rfl rfl ?_
  refine ER.callR rfl rfl rfl rfl rfl (all07_ok (L := dL) (n := n + 1) (fb := 19) (R := fun _ h' δ' => δ'.d = 0 /\ ∃ hF, Dst h ⟨n, m, L, e, cap, rest, F, B, idx, vN, vM, vD, vE, vL, pb⟩ hF /\ Freed dL (dY ⟨n, m, L, e, cap, rest, F, B, idx, vN, vM, vD, vE, vL, pb⟩ (dC ⟨n, m, L, e, cap, rest, F, B, idx, vN, vM, vD, vE, vL, pb⟩ hF)) hF (n + 1) h' δ'.g) hst hnum (by omega) (by omega) fun hF B' cap' fB ib uF _ hfB hib hB1 hBk => ?_) ?_
  · refine (K.free uF hst hnum hfB (fun j hj => (hib j hj).2) hB1 hBk).mono ?_
    rintro (v | v) h' δ' z
    · exact ⟨z.2.1, hF, K.upd uF, z.2.2⟩
    · exact z.elim
  rintro _ hz ⟨dz, γz⟩ ⟨_, ed, hF, kF, fr⟩
  simp only at ed fr
  subst ed
  obtain ⟨v, T, sq, po, E⟩ := kF.fin hnd fr
  have hjn := fr.jn
  have hst2 := fr.st
  clear fr kF K hF lft hlo hsl hst hnum N
  have hlo : (SitM Try.prog (XF TT dL)).lone γz := (xf_ok TT dL dL_ok).jl _ hjn
  have hsl : ∀ a, ¬ (SitM Try.prog (XF TT dL)).still γz a := fun a z => by have : γz.st = 1 := z.1; omega
  have lft : ∀ {f : FuncId} {args : Array Value} {hh : Hp} {R : Post (Gf Dy)}, CallW Try.prog true NoS f args hh ⟨0, γz⟩ R -> CallW Try.prog true (SitM Try.prog (XF TT dL)) f args hh ⟨0, γz⟩ R := fun hc => hc.noS hsl hlo (fun z => z)
  obtain ⟨uu, N, M, D, r, v2, v3, F1, th, pm⟩ := E
  dsimp only at N M D r F1 th pm
  (repeat (first | refine EK.seq ?_ | refine EK.region ?_ | refine ER.done ?_ | refine ER.add (kd := .i64) rfl rfl rfl rfl (i64_in (by omega) (by omega)) ?_ | refine ER.load1 rfl rfl rfl (by assumption) ?_))
  refine ER.makeSliceD (m := m + 1) rfl rfl rfl rfl (by omega) (by omega) rfl ?_
  (repeat (first | refine EK.seq ?_ | refine EK.region ?_ | refine ER.done ?_ | refine EK.block ?_ | refine ER.assign rfl rfl rfl ?_))
  have htb : (Array.push hz (Obj.cells (List.replicate (m + 1) (Value.bool false)).toArray 4))[hz.size]? = some (bcells (m + 1) fun _ => false) := by
    rw [get_push_new]
    unfold bcells
    rw [List.map_const', List.length_range]
  have uT : Upd (fun b => b = hz.size) hz (Array.push hz (Obj.cells (List.replicate (m + 1) (Value.bool false)).toArray 4)) := Upd.push _ _
  generalize Array.push hz (Obj.cells (List.replicate (m + 1) (Value.bool false)).toArray 4) = h2 at htb uT ⊢
  generalize htbd : hz.size = tb at htb uT ⊢
  have hFT : ∀ b, b = tb -> hz.size <= b := fun b e => by omega
  have uuT : ∀ h', Upd (fun b => b = tb) hz h' -> Upd (fun _ => False) h h' := fun h' u => uu.over u fun b e => by have := uu.size; omega
  have hn0 : ∀ {h' : Hp} {b o : Nat} {x : Value}, Upd (fun b => b = tb) hz h' -> hcell hz ⟨b, o, none⟩ = some x -> hcell h' ⟨b, o, none⟩ = some x := fun {h' b o x} u hc => u.hcell hc fun z => by
    obtain ⟨_, _, _, h1, _⟩ := hcell_some hc
    have h2 : b < hz.size := lt_of_get h1
    have h3 : b = tb := z
    omega
  refine EK.loopInv (fun q : Nat × (Nat -> Bool) => [(18, .int .i64 q.1), (17, .int .i64 ((upL po q.1 0).length : Nat)), (16, .slice (some ⟨tb, 0, none⟩) (m + 1) (m + 1)), (10, .pointer (some ⟨vN, 0, none⟩)), (11, .pointer (some ⟨vM, 0, none⟩)), (12, .pointer (some ⟨vD, 0, none⟩)), (15, .pointer (some ⟨vL, 0, none⟩))])
    (fun q h' δ' => δ' = ⟨0, γz⟩ /\ q.1 <= n + 1 /\ Upd (fun b => b = tb) hz h' /\ h'[tb]? = some (bcells (m + 1) q.2) /\ BIn q.2 (upL po q.1 0)) (fun q => n + 1 - q.1) (0, fun _ => false) ⟨rfl, rfl, rfl, rfl, rfl, rfl, rfl, trivial⟩ ⟨rfl, Nat.zero_le _, uT, htb, fun j => by simp [upL]⟩ ?_
  clear htb uT h2
  rintro ⟨i, Sf⟩ h2 δ2 ⟨rfl, hi, uT, ht, ti⟩ again
  dsimp only at hi ht ti again ⊢
  have N' := hn0 uT N
  have M' := hn0 uT M
  have D' := hn0 uT D
  rcases Nat.lt_or_ge i (n + 1) with hlt | hge
  · (repeat (first | refine EK.seq ?_ | refine EK.region ?_ | refine ER.done ?_ | refine EK.skip ?_ | refine EK.block ?_ | refine ER.move rfl rfl rfl ?_ | refine ER.assign rfl rfl rfl ?_ | refine ER.cmpT rfl rfl rfl rfl rfl (by first | (dsimp only [cmpP]; omega) | exact rfl | exact Int.le_refl _) ?_ | refine EK.condT rfl ?_ | refine ER.load1 rfl rfl rfl (by assumption) ?_))
    refine EK.loopInv (fun q : Nat × (Nat -> Bool) => [(19, .int .i64 q.1), (17, .int .i64 ((upL po i q.1).length : Nat)), (18, .int .i64 i), (16, .slice (some ⟨tb, 0, none⟩) (m + 1) (m + 1)), (10, .pointer (some ⟨vN, 0, none⟩)), (11, .pointer (some ⟨vM, 0, none⟩)), (12, .pointer (some ⟨vD, 0, none⟩)), (15, .pointer (some ⟨vL, 0, none⟩))])
      (fun q h' δ' => δ' = ⟨0, γz⟩ /\ q.1 <= (po i).length /\ Upd (fun b => b = tb) hz h' /\ h'[tb]? = some (bcells (m + 1) q.2) /\ BIn q.2 (upL po i q.1)) (fun q => (po i).length - q.1) (0, Sf) ⟨rfl, rfl, rfl, rfl, rfl, rfl, rfl, rfl, trivial⟩ ⟨rfl, Nat.zero_le _, uT, ht, ti⟩ ?_
    clear uT ht ti h2 N' M' D'
    rintro ⟨k, Sf⟩ h2 δ2 ⟨rfl, hk, uT, ht, ti⟩ again2
    dsimp only at hk ht ti again2 ⊢
    have N' := hn0 uT N
    have M' := hn0 uT M
    have F' := F1.upd uT hFT
    have hP := F'.P
    obtain ⟨a, cap', ea, ga⟩ := (F'.p i hlt).2.val
    have hp := (F'.p i hlt).1
    rw [ea] at hp
    have hp' : hcell h2 ⟨pb, 0 + ((i : Nat) : Int).toNat * 1, none⟩ = some (.slice a (po i).length cap') := by rw [show 0 + ((i : Nat) : Int).toNat * 1 = i by simp]; exact hp
    obtain ⟨len1, len2⟩ := dw_len (k := k) pm (show i <= n by omega)
    rcases Nat.lt_or_ge k (po i).length with klt | kge
    · obtain ⟨b, eb, hb⟩ := ga k klt
      have hprev : ∀ j, j < (po i).length -> hcell h2 ⟨b, 0 + ((j : Nat) : Int).toNat * 1, none⟩ = some (.int .i64 ((po i).getD j 0)) := fun j hj => by
        obtain ⟨b', eb', hb'⟩ := ga j hj
        rw [eb] at eb'
        cases eb'
        rw [show 0 + ((j : Nat) : Int).toNat * 1 = j by simp]; exact hb'
      subst eb
      have hb' := hprev k klt
      obtain ⟨⟨v1, vm⟩, vn⟩ := dw_new pm (show i <= n by omega) klt
      have es := upL_succ (f := po) klt
      have hlast : i < n -> 0 < k -> (po i).getD (k - 1) 0 < (po i).getD k 0 := fun h1 h2 => pw_lt (th i h1) klt h2
      have hb0 : 0 < k -> hcell h2 ⟨b, 0 + ((k : Int) - 1).toNat * 1, none⟩ = some (.int .i64 ((po i).getD (k - 1) 0)) := fun h0 => by
        have := hprev (k - 1) (by omega)
        rw [show 0 + ((k : Int) - 1).toNat * 1 = 0 + ((k - 1 : Nat) : Int).toNat * 1 by omega]
        exact this
      generalize (po i).getD (k - 1) 0 = u at hlast hb0
      generalize (po i).getD k 0 = x at hb' hb v1 vm vn es hlast
      obtain ⟨tz, ti'⟩ := ti.add (v := x) (by omega) vn
      rw [<- es] at ti'
      have hc := bcells_get (j := x.toNat) ht (by omega)
      rw [tz] at hc
      have hc' : hcell h2 ⟨tb, 0 + x.toNat * 1, none⟩ = some (.bool false) := by rw [show 0 + x.toNat * 1 = x.toNat by omega]; exact hc
      have ht' := bcells_set (j := x.toNat) (v := true) ht
      have u' : Upd (fun b => b = tb) h2 (hset h2 ⟨tb, x.toNat, none⟩ (.bool true)) := Upd.hset _ _ _ rfl
      have vv1 : x < ((m + 1 : Nat) : Int) := by omega
      have vv0 : 0 <= x := by omega
      by_cases ci : i < n
      · by_cases ck : 0 < k
        · have hb0' := hb0 ck
          have hl' := hlast ci ck
          (repeat (first | refine EK.seq ?_ | refine EK.region ?_ | refine ER.done ?_ | refine EK.skip ?_ | refine EK.block ?_ | refine ER.move rfl rfl rfl ?_ | refine ER.assign rfl rfl rfl ?_ | refine ER.pickT rfl rfl rfl rfl ?_ | refine ER.pickF rfl rfl rfl rfl ?_ | refine ER.cmpT rfl rfl rfl rfl rfl (by first | (dsimp only [cmpP]; omega) | exact rfl | exact Int.le_refl _) ?_ | refine ER.cmpF rfl rfl rfl rfl rfl (by first | (dsimp only [cmpP]; omega) | exact rfl | exact Int.le_refl _) ?_ | refine ER.sub' (kd := .i64) rfl rfl rfl rfl (i64_in (by omega) (by omega)) ?_ | refine ER.len1 rfl rfl rfl ?_ | refine ER.indexSl rfl rfl rfl rfl (by omega) (by omega) ?_ | refine EK.condT rfl ?_ | refine EK.condF rfl ?_ | refine ER.load1 rfl rfl rfl (by assumption) ?_))
          refine ER.store1 rfl rfl rfl (by simp [OneCell]) ⟨_, hc'⟩ (hfroz_of (by unfold bcells at ht; exact ht)) (hsl _) ?_
          rw [show 0 + x.toNat * 1 = x.toNat by omega]
          (repeat (first | refine EK.region ?_ | refine ER.done ?_ | refine EK.inBlock ?_ | refine ER.move rfl rfl rfl ?_ | refine ER.assign rfl rfl rfl ?_ | refine ER.add (kd := .i64) rfl rfl rfl rfl (i64_in (by omega) (by omega)) ?_))
          refine EK.back (again2 (k + 1, u1 Sf x.toNat true) _ _ (by dsimp only; omega) ⟨rfl, klt, uT.trans u', ht', ti'⟩) ⟨rfl, ?_, rfl, rfl, rfl, rfl, rfl, rfl, trivial⟩
          show some (Value.int .i64 (((upL po i k).length : Int) + 1)) = some (Value.int .i64 ((upL po i (k + 1)).length : Nat))
          rw [es, List.length_append]
          rfl
        · skip
          (repeat (first | refine EK.seq ?_ | refine EK.region ?_ | refine ER.done ?_ | refine EK.skip ?_ | refine EK.block ?_ | refine ER.move rfl rfl rfl ?_ | refine ER.assign rfl rfl rfl ?_ | refine ER.no rfl rfl ?_ | refine ER.pickT rfl rfl rfl rfl ?_ | refine ER.pickF rfl rfl rfl rfl ?_ | refine ER.cmpT rfl rfl rfl rfl rfl (by first | (dsimp only [cmpP]; omega) | exact rfl | exact Int.le_refl _) ?_ | refine ER.cmpF rfl rfl rfl rfl rfl (by first | (dsimp only [cmpP]; omega) | exact rfl | exact Int.le_refl _) ?_ | refine ER.len1 rfl rfl rfl ?_ | refine ER.indexSl rfl rfl rfl rfl (by omega) (by omega) ?_ | refine EK.condT rfl ?_ | refine EK.condF rfl ?_ | refine ER.load1 rfl rfl rfl (by assumption) ?_))
          refine ER.store1 rfl rfl rfl (by simp [OneCell]) ⟨_, hc'⟩ (hfroz_of (by unfold bcells at ht; exact ht)) (hsl _) ?_
          rw [show 0 + x.toNat * 1 = x.toNat by omega]
          (repeat (first | refine EK.region ?_ | refine ER.done ?_ | refine EK.inBlock ?_ | refine ER.move rfl rfl rfl ?_ | refine ER.assign rfl rfl rfl ?_ | refine ER.add (kd := .i64) rfl rfl rfl rfl (i64_in (by omega) (by omega)) ?_))
          refine EK.back (again2 (k + 1, u1 Sf x.toNat true) _ _ (by dsimp only; omega) ⟨rfl, klt, uT.trans u', ht', ti'⟩) ⟨rfl, ?_, rfl, rfl, rfl, rfl, rfl, rfl, trivial⟩
          show some (Value.int .i64 (((upL po i k).length : Int) + 1)) = some (Value.int .i64 ((upL po i (k + 1)).length : Nat))
          rw [es, List.length_append]
          rfl
      · skip
        (repeat (first | refine EK.seq ?_ | refine EK.region ?_ | refine ER.done ?_ | refine EK.skip ?_ | refine EK.block ?_ | refine ER.move rfl rfl rfl ?_ | refine ER.assign rfl rfl rfl ?_ | refine ER.no rfl rfl ?_ | refine ER.pickF rfl rfl rfl rfl ?_ | refine ER.cmpT rfl rfl rfl rfl rfl (by first | (dsimp only [cmpP]; omega) | exact rfl | exact Int.le_refl _) ?_ | refine ER.cmpF rfl rfl rfl rfl rfl (by first | (dsimp only [cmpP]; omega) | exact rfl | exact Int.le_refl _) ?_ | refine ER.len1 rfl rfl rfl ?_ | refine ER.indexSl rfl rfl rfl rfl (by omega) (by omega) ?_ | refine EK.condT rfl ?_ | refine EK.condF rfl ?_ | refine ER.load1 rfl rfl rfl (by assumption) ?_))
        refine ER.store1 rfl rfl rfl (by simp [OneCell]) ⟨_, hc'⟩ (hfroz_of (by unfold bcells at ht; exact ht)) (hsl _) ?_
        rw [show 0 + x.toNat * 1 = x.toNat by omega]
        (repeat (first | refine EK.region ?_ | refine ER.done ?_ | refine EK.inBlock ?_ | refine ER.move rfl rfl rfl ?_ | refine ER.assign rfl rfl rfl ?_ | refine ER.add (kd := .i64) rfl rfl rfl rfl (i64_in (by omega) (by omega)) ?_))
        refine EK.back (again2 (k + 1, u1 Sf x.toNat true) _ _ (by dsimp only; omega) ⟨rfl, klt, uT.trans u', ht', ti'⟩) ⟨rfl, ?_, rfl, rfl, rfl, rfl, rfl, rfl, trivial⟩
        show some (Value.int .i64 (((upL po i k).length : Int) + 1)) = some (Value.int .i64 ((upL po i (k + 1)).length : Nat))
        rw [es, List.length_append]
        rfl
    · obtain rfl : k = (po i).length := by omega
      rw [upL_end] at ti
      (repeat (first | refine EK.seq ?_ | refine EK.region ?_ | refine ER.done ?_ | refine EK.inBlock ?_ | refine ER.move rfl rfl rfl ?_ | refine ER.assign rfl rfl rfl ?_ | refine ER.cmpF rfl rfl rfl rfl rfl (by first | (dsimp only [cmpP]; omega) | exact rfl | exact Int.le_refl _) ?_ | refine ER.add (kd := .i64) rfl rfl rfl rfl (i64_in (by omega) (by omega)) ?_ | refine ER.len1 rfl rfl rfl ?_ | refine ER.indexSl rfl rfl rfl rfl (by omega) (by omega) ?_ | refine EK.condF rfl ?_ | refine EK.exit rfl ?_ | refine ER.load1 rfl rfl rfl (by assumption) ?_))
      refine EK.back (again (i + 1, Sf) _ _ (by dsimp only; omega) ⟨rfl, hlt, uT, ht, ti⟩) ⟨rfl, ?_, rfl, rfl, rfl, rfl, rfl, trivial⟩
      show some (Value.int .i64 ((upL po i (po i).length).length : Nat)) = some (Value.int .i64 ((upL po (i + 1) 0).length : Nat))
      rw [upL_end]
  · obtain rfl : i = n + 1 := by omega
    clear again
    have e17 := dw_all pm
    rw [e17]
    (repeat (first | refine EK.seq ?_ | refine EK.region ?_ | refine ER.done ?_ | refine ER.move rfl rfl rfl ?_ | refine ER.cmpT rfl rfl rfl rfl rfl (by first | (dsimp only [cmpP]; omega) | exact rfl | exact Int.le_refl _) ?_ | refine ER.cmpF rfl rfl rfl rfl rfl (by first | (dsimp only [cmpP]; omega) | exact rfl | exact Int.le_refl _) ?_ | refine EK.condF rfl ?_ | refine EK.exit rfl ?_ | refine ER.load1 rfl rfl rfl (by assumption) ?_))
    refine ER.callD rfl rfl rfl rfl rfl (lft (dlen_ok (c := 0) (T := T) (r.upd uT fun j hj e => by
      have := r.lt hj
      have this' : B j < hz.size := this
      have e' : B j = tb := e
      omega) v2 v3 (by omega))) ?_
    (repeat (first | refine ER.done ?_ | refine ER.assign rfl rfl rfl ?_ | refine ER.pickT rfl rfl rfl rfl ?_ | refine ER.cmpT rfl rfl rfl rfl rfl (by first | (dsimp only [cmpP]; omega) | exact rfl | exact Int.le_refl _) ?_ | refine EK.ret ?_))
    exact EU.ret1 rfl rfl ⟨rfl, rfl, uuT _ uT, .inl hjn⟩
end
end Go.Proofs.Ytakioblpgmjdaaa
namespace Go.TJ
section
variable [Dm]
open Go Go.Conc
open Go.ConcN (upd upd_ne upd_same)
open Go.ConcM (OsLater)
variable {Γ : Type}
theorem company_runG {P : Program} {X : Fp Γ} (hX : X.Ok) {f : FuncId} {args : Array Value} {W : World} {γ₀ : Γ} {R : Value -> Hp -> Prop} (hini : P.inits.idxOf? f = none) (hn : X.num γ₀ = 1) (hj : ¬ X.jn γ₀) (hinv : X.Inv γ₀ W.heap) (hcf : ∀ b, ¬ (X.cf γ₀).shb b /\ ¬ (X.cf γ₀).ro b) (hfin : ∀ i, X.fin γ₀ i = none)
    (hc : CallW P true (SitM P X) f args W.heap ⟨0, γ₀⟩ fun
      | .ret v, h', δ' => δ'.d = 0 /\ (X.jn δ'.g \/ (X.lone δ'.g /\ X.num δ'.g = 1)) /\ ∀ H, Part True h' H -> R v H
      | .pan _, _, _ => False) :
    ∃ M last o w' t', runNT P (M + 1) (solo (G (Frame.enter P f args .normal) []) W) #[] = (.ended o w', t') /\ runN P M (solo (G (Frame.enter P f args .normal) []) W) = .next last /\ step P last = .ended o w' /\
      Conc.Good P (fun v W' => R v W'.heap /\ SameL W W') last o w' t' := by
  obtain ⟨N, m, T, hr, γ, gs, w, hs, γs, ts, sl, g', rfl, C, hg, hs', a, todo, mode, fn, rfl, hda, hf, hend⟩ := companyF hX (hc .normal (by simp) ⟨[], calm_normal []⟩) (sl := none) (cfg_one (g := G (Frame.enter P f args .normal) []) hX hn hj hinv hcf hfin) (if_pos rfl) rfl rfl
  rcases hend with ⟨rfl, v, hv, hd0, hjn, hR⟩ | ⟨_, _, hp⟩
  · obtain ⟨N₂, m₁, T₂, γ₂, gs₂, w₂, hs₂, γs₂, ts₂, sl₂, hr₂, hst, C₂, K₂, hg₂, ⟨hmg, hmt⟩, _⟩ := turns hX (g0 := G { (fb f .normal).at a todo with mode := .returning } []) rfl (Done := fun _ _ _ _ _ _ _ _ => True) (fun _ _ _ _ _ _ _ _ _ _ _ => .inr trivial) ts γ gs w T hs γs sl C ⟨rfl, rfl, rfl, SameL.refl w, rfl⟩ ⟨_, hg, .inl rfl⟩
    have M₂ := C₂.mi
    have hpos := M₂.pos
    have hcfs := hX.cfR _ _ _ (M₂.rel 0 hpos (fun z => absurd z (Nat.lt_irrefl _)))
    have hP := M₂.part 0 hpos
    rw [K₂.h] at hP
    obtain ⟨es, hrun, hes⟩ := hv w₂ hP.weak
    have hstep := stepG_last (w := w₂) (todo := todo) hda hf hini hrun
    have hrt := runT_many_ended (P := P) (sl := sl₂) (i := 0) hg₂ hstep
    obtain ⟨hseen, _⟩ := seen_reads (Γ := Γ) (P := P) (S := fun ad : Addr => (X.cf γ₂).ro ad.block) (f := f) hes
    have hl : X.lone (γs₂ 0) := by rw [K₂.γ]; exact hjn.elim (hX.jl _) fun z => z.1
    have hγ : γ₂ = γs₂ 0 := M₂.lone hl
    have hjn₂ : X.jn γ₂ \/ X.num γ₂ = 1 := by rw [hγ, K₂.γ]; exact hjn.imp id fun z => z.2
    have M₃ := M₂.own hX hpos (fun z => absurd z (Nat.lt_irrefl _)) f (G { (fb f .normal).at a todo with mode := .returning } []).frame.place (L := True) (S := fun ad : Addr => (X.cf γ₂).ro ad.block) (hv := hs 0) (h' := hs 0) (H' := w₂.heap) (es := seen P f es) (fun _ => Iff.rfl) (fun _ => trivial) (fun b => by rw [K₂.h])
      (Chg.refl ⟨hP.get, hP.size, fun _ => hP.same ⟨rfl, hl⟩⟩) hseen (fun z => absurd z (Nat.lt_irrefl _))
    have hdone : ∀ i, 0 < i -> i < gs₂.size -> X.done i γ₂ := fun i h0 hi => hX.lone γ₂ i (by rw [hγ]; exact hl) h0 (by rw [M₂.num]; exact hi)
    have hq : ∀ i x, 0 < i -> gs₂[i]? = some x -> ∃ n, QuitsD P n (Deaf T₂ i) x := fun i x h0 hi => by
      have hlt := (Array.getElem?_eq_some_iff.1 hi).1
      obtain ⟨g0, h1, h2⟩ := C₂.wk i x h0 hi
      have hd := hdone i h0 hlt
      rw [M₂.back i h0 hlt (hX.fin i γ₂ h0 hd)] at h1
      rcases h2 with rfl | ⟨_, _, hb⟩
      · exact runsN_quits h0 _ _ _ _ ((M₂.dn i h0 hlt).1 hd) h1
      · exact absurd hb (hX.blkd i γ₂ h0 hd)
    refine ⟨N + N₂, _, .done v, w₂, _, runNT_succ_end (runNT_then hr hr₂) (hst.trans hrt), runN_of_runNT _ _ _ _ _ (runNT_then hr hr₂), ?_, v, rfl, ⟨hR w₂.heap ⟨hP.get, hP.size, fun _ => hP.same ⟨rfl, hl⟩⟩, hs'.trans K₂.w⟩, M₃.tf.clean, hjn₂.elim M₃.tf.over fun z => M₃.tf.overLone (M₂.num.symm.trans z), ⟨fun x hx => ?_, ?_⟩, fun j x hx hj => ?_⟩
    · rw [step, hst, hrt]
    · rw [hmg] at hx
      obtain ⟨j, hj⟩ := List.mem_iff_getElem?.1 hx
      rw [List.getElem?_drop] at hj
      obtain ⟨n, hn⟩ := hq (1 + j) x (by omega) (by simpa using hj)
      exact ⟨n, hn.leaves⟩
    · rw [hmt]; rfl
    · rw [hmg] at hx
      obtain ⟨n, hn⟩ := hq j x (by omega) hx
      refine ⟨n, ?_⟩
      have e : (T₂ ++ MemOp.ofEvents 0 f (G { (fb f .normal).at a todo with mode := .returning } []).frame.place (seen P f es)).deaf j (T₂ ++ MemOp.ofEvents 0 f (G { (fb f .normal).at a todo with mode := .returning } []).frame.place (seen P f es)).size = Deaf T₂ j :=
        Deaf_other T₂ (g := j) (g' := 0) (Ne.symm hj) _ fun op hop => by obtain ⟨e, _, rfl⟩ := Go.Conc.mem_ofEvents hop; rfl
      rw [show (G { (fb f .normal).at a todo with mode := .returning } []).frame.fn = f from rfl, e]
      exact hn.hears _
  · exact hp.elim
end
end Go.TJ
