/- Steps of the walk and of the plain law (WkK to PrioOpen). Conditions: as each lemma says. -/
import Derived.Deep.SlicePairs
import Derived.OpenShut
import Derived.WalkKit
import Derived.ProofKit
import Derived.Test.YtcpcdnkemobneaaPPF
namespace Go.Proofs.Ytcpcdnkemobneaa
section
open Go Go.TJ Go.Conc Go.Proofs
section
variable {Γ : Type} {main : Bool} {S : Sit Γ} {δ : Ix Γ} {R : Rec} {nm : Nat -> Nme} {lL lW lY lV sP : Value} {h0 h h' : Hp} {W x i t : Nat} {s : WS} {picks : List Int} {X : Us} {A : Type} {pf p : Pr A} {out : Bool}
set_option maxHeartbeats 8000000 in
set_option maxRecDepth 8000 in
theorem end_ok (C : WC X picks R nm lL lW lY lV sP h0 s) (a : WAll R nm lL lW lY lV h0 W s h) (hx : h[x]? = some (wrO W i out t)) (hx0 : h0.size <= x) (ht : t <= R.log.length) (ho : ownFrom R i t = []) (hl : out = true ↔ ∃ q, q ∈ R.left /\ q.1 = i) :
    CallW Try.prog main (NoS (Γ := Γ)) 24 #[ptr x, .bool false] h δ (Ret fun _ h' δ' => δ' = δ /\ WAll R nm lL lW lY lV h0 W s h' /\ Upd (fun b => b = x) h h') := by
  obtain ⟨q, I, N⟩ := a
  have hlen : R.log.length <= 65536 := Nat.le_trans C.ok.len C.ok.most
  have hll := Nat.le_trans C.ok.left_len (show 64 <= 65536 by decide)
  refine CallW.start (n := 72) rfl rfl ?_
  (repeat (first | refine EK.seq ?_ | refine EK.region ?_ | refine ER.move rfl rfl rfl ?_))
  refine ER.callR rfl rfl rfl rfl rfl (wnext_ok C.m hlen I hx hx0 ht) ?_
  clear I hx
  rintro _ h2 δ2 ⟨rfl, t2, ht2, hx, I, u2, ⟨e, ho2, -, -⟩ | ⟨-, ho2, rfl⟩⟩
  · rw [ho] at ho2; cases ho2
  (repeat (first | refine ER.move rfl rfl rfl ?_ | refine ER.extract rfl rfl rfl rfl ?_ | refine ER.allocA rfl rfl ?_))
  refine ER.storeN (vs := acc0) rfl rfl rfl rfl (by simp [accL, OneCell]) (acc_all (vs := acc0) rfl (get_push_new _ _)) ?_
  rw [hsetRow_push (c := [.int .i64 0, .int .i8 0, .int .i64 0, .int .i64 0, .int .i64 0, .int .i64 0, .int .i64 0, .bool false]) (vs := acc0) rfl]
  refine ER.gen (fun h' => WkI R nm lL lW lY lV h0 W ((nums R.log).map R.v0) { s with q := q } h' /\ Upd (fun b => b = x) h h' /\ h'[x]? = some (wrO W i out t2)) ⟨I.upd0 (Upd.push _ _), u2.trans (Upd.push _ _), get_push _ hx⟩ ?_
  clear I u2 hx
  rintro h3 ⟨I, u3, hx⟩
  (repeat (first | refine EK.seq ?_ | refine EK.region ?_ | refine ER.done ?_ | refine ER.move rfl rfl rfl ?_ | refine ER.assign rfl rfl rfl ?_))
  refine ER.callR rfl rfl rfl rfl rfl (wleft_ok C.m hll I hx hx0) ?_
  rintro v4 h4 δ4 ⟨rfl, u4, hc⟩
  obtain ⟨vs, hvs, rfl, hl8⟩ : ∃ vs : List Value, vs.length = 8 /\ v4 = Value.tuple #[.agg vs.toArray, .bool out] /\ ∀ v ∈ vs, OneCell v := by
    rcases hc with ⟨q', hq', e, rfl⟩ | ⟨hn, rfl⟩
    · have : out = true := hl.2 ⟨q', hq', e⟩
      subst this
      exact ⟨leftE (nums R.log) R.val q', rfl, rfl, by simp [leftE, accL, OneCell]⟩
    · have : out = false := by
        cases out with
        | false => rfl
        | true => obtain ⟨q', hq', e⟩ := hl.1 rfl; exact absurd e (hn q' hq')
      subst this
      exact ⟨acc0, rfl, rfl, by simp [accL, OneCell]⟩
  replace I := I.upd0 u4
  replace hx := u4.get hx (fun z => z)
  replace u3 : Upd (fun b => b = x) h h4 := u3.trans (u4.mono (fun _ _ z => z.elim))
  clear u4 hc
  (repeat (first | refine ER.move rfl rfl rfl ?_ | refine ER.extract rfl rfl rfl rfl ?_ | refine ER.allocA rfl rfl ?_))
  refine ER.storeN (vs := vs) rfl rfl rfl hvs hl8 (acc_all (vs := acc0) rfl (get_push_new _ _)) ?_
  rw [hsetRow_push (c := [.int .i64 0, .int .i8 0, .int .i64 0, .int .i64 0, .int .i64 0, .int .i64 0, .int .i64 0, .bool false]) (vs := vs) (by rw [hvs]; rfl)]
  refine ER.gen (fun h' => WkI R nm lL lW lY lV h0 W ((nums R.log).map R.v0) { s with q := q } h' /\ Upd (fun b => b = x) h h' /\ h'[x]? = some (wrO W i out t2)) ⟨I.upd0 (Upd.push _ _), u3.trans (Upd.push _ _), get_push _ hx⟩ ?_
  clear I u3 hx
  rintro h5 ⟨I, u5, hx⟩
  have x0 : hcell h5 ⟨x, 0, none⟩ = some (ptr W) := hcell_of hx rfl
  have x1 : hcell h5 ⟨x, 1, none⟩ = some (.int .i64 i) := hcell_of hx rfl
  have x2 : hcell h5 ⟨x, 2, none⟩ = some (.bool out) := hcell_of hx rfl
  (repeat (first | refine EK.seq ?_ | refine ER.done ?_ | refine ER.assign rfl rfl rfl ?_))
  refine EK.regionAny (fun h' => h' = h5) ?_
  have hZ : h5 = h5 := rfl
  refine EA.tMove 0 rfl (by kernel_rfl) rfl rfl rfl rfl hZ ?_
  refine EA.tMove 1 rfl (by kernel_rfl) rfl rfl rfl rfl hZ ?_
  refine EA.tMove 2 rfl (by kernel_rfl) rfl rfl rfl rfl hZ ?_
  refine EA.tMove 3 rfl (by kernel_rfl) rfl rfl rfl rfl hZ ?_
  refine EA.tNil 4 rfl (by kernel_rfl) rfl rfl rfl rfl hZ ?_
  refine EA.tField 5 rfl (by kernel_rfl) rfl rfl rfl rfl hZ ?_
  refine EA.tLoad 6 rfl (by kernel_rfl) rfl rfl rfl rfl (fun _ hz => (by rw [hz]; exact x2)) hZ ?_
  refine EA.tNeqB (r := true) 7 rfl (by kernel_rfl) rfl rfl rfl rfl rfl (by cases out <;> rfl) hZ ?_
  refine EA.tPickF 8 rfl (by kernel_rfl) rfl rfl rfl rfl rfl hZ ?_
  refine EA.tMove 9 rfl (by kernel_rfl) rfl rfl rfl rfl hZ ?_
  refine EA.tMove 10 rfl (by kernel_rfl) rfl rfl rfl rfl hZ ?_
  refine EA.tMove 11 rfl (by kernel_rfl) rfl rfl rfl rfl hZ ?_
  refine EA.takeNo 12 rfl (by kernel_rfl) rfl rfl rfl hZ ?_
  refine EA.takeNo 13 rfl (by kernel_rfl) rfl rfl rfl hZ ?_
  refine EA.takeNo 14 rfl (by kernel_rfl) rfl rfl rfl hZ ?_
  refine EA.takeNo 15 rfl (by kernel_rfl) rfl rfl rfl hZ ?_
  refine EA.takeNo 16 rfl (by kernel_rfl) rfl rfl rfl hZ ?_
  refine EA.takeNo 17 rfl (by kernel_rfl) rfl rfl rfl hZ ?_
  refine EA.takeNo 18 rfl (by kernel_rfl) rfl rfl rfl hZ ?_
  refine EA.takeNo 19 rfl (by kernel_rfl) rfl rfl rfl hZ ?_
  refine EA.takeNo 20 rfl (by kernel_rfl) rfl rfl rfl hZ ?_
  refine EA.takeNo 21 rfl (by kernel_rfl) rfl rfl rfl hZ ?_
  refine EA.takeNo 22 rfl (by kernel_rfl) rfl rfl rfl hZ ?_
  refine EA.takeNo 23 rfl (by kernel_rfl) rfl rfl rfl hZ ?_
  refine EA.takeNo 24 rfl (by kernel_rfl) rfl rfl rfl hZ ?_
  refine EA.takeNo 25 rfl (by kernel_rfl) rfl rfl rfl hZ ?_
  refine EA.takeNo 26 rfl (by kernel_rfl) rfl rfl rfl hZ ?_
  refine EA.tPickF 27 rfl (by kernel_rfl) rfl rfl rfl rfl rfl hZ ?_
  refine EA.tPickF 28 rfl (by kernel_rfl) rfl rfl rfl rfl rfl hZ ?_
  refine EA.done (by kernel_rfl) ?_
  (repeat (first | refine EK.seq ?_ | refine EK.skip ?_ | refine EK.condF rfl ?_))
  refine EK.regionAny (fun h' => h' = h5) ?_
  refine EA.tMove 0 rfl (by kernel_rfl) rfl rfl rfl rfl hZ ?_
  refine EA.tNot 1 rfl (by kernel_rfl) rfl rfl rfl rfl hZ ?_
  refine EA.tMove 2 rfl (by kernel_rfl) rfl rfl rfl rfl hZ ?_
  refine EA.tMove 3 rfl (by kernel_rfl) rfl rfl rfl rfl hZ ?_
  refine EA.tNil 4 rfl (by kernel_rfl) rfl rfl rfl rfl hZ ?_
  refine EA.tField 5 rfl (by kernel_rfl) rfl rfl rfl rfl hZ ?_
  refine EA.tLoad 6 rfl (by kernel_rfl) rfl rfl rfl rfl (fun _ hz => (by rw [hz]; exact x0)) hZ ?_
  refine EA.tMove 7 rfl (by kernel_rfl) rfl rfl rfl rfl hZ ?_
  refine EA.tNil 8 rfl (by kernel_rfl) rfl rfl rfl rfl hZ ?_
  refine EA.tField 9 rfl (by kernel_rfl) rfl rfl rfl rfl hZ ?_
  refine EA.tLoad 10 rfl (by kernel_rfl) rfl rfl rfl rfl (fun _ hz => (by rw [hz]; exact x1)) hZ ?_
  refine EA.callD 11 rfl (by kernel_rfl) rfl rfl rfl rfl rfl rfl (fell_ok I) hZ ?_
  refine EA.tPickT 12 rfl (by kernel_rfl) rfl rfl rfl rfl rfl hZ ?_
  refine EA.done (by kernel_rfl) ?_
  (repeat (first | refine EK.skip ?_ | refine EK.condF rfl ?_))
  exact EK.done (EU.ret0 rfl ⟨rfl, ⟨q, I, N⟩, u5⟩)
end
end
section
open Go Go.TJ Go.Conc Go.Proofs
theorem exists_idxG {K : Type} [Inhabited K] {cs : K -> Prop} {B : K -> Nat} (inj : ∀ j k, cs j -> cs k -> B j = B k -> j = k) : ∃ idx : Nat -> K, ∀ k, cs k -> idx (B k) = k := by
  classical
  refine ⟨fun b => if h : ∃ k, cs k /\ B k = b then Classical.choose h else default, fun k hk => ?_⟩
  have h : ∃ j, cs j /\ B j = B k := ⟨k, hk, rfl⟩
  simp only [dif_pos h]
  exact inj _ _ (Classical.choose_spec h).1 hk (Classical.choose_spec h).2
structure LpI (base : Nat) (Mm : Mem (Nat × Nat × Nat)) (o0 : Nat) (sc : List (List GCall)) (h00 : Hp) (pB sB S0 T : Nat) (lv rm : Int) (scv pv bv : Value) (iBs : List Nat) (y i : Nat) (h : Hp) : Prop where
  up : Upd (fun _ => False) h00 h
  rep : Rep h Mm
  p : h[pB]? = some (.cells #[.int .i64 lv, .int .i64 rm, scv, pv] 132 (0, 0))
  s : h[sB]? = some (.cells #[ptr S0] 133 (0, 0))
  st : h[S0]? = some (.cells #[ptr o0, .slice (some ⟨T, 0, none⟩) sc.length sc.length] 145 (0, 0))
  t : h[T]? = some (.cells (List.replicate sc.length nilS).toArray 141 (0, 0))
  bods : SliceO h bv 45 1 i (iBs.map fun b => sfunV pB sB b)
  nb : ∀ b, blk bv = some b -> base <= b
  ib : iBs.length = i
  ibx : ∀ (j b : Nat), iBs[j]? = some b -> h[b]? = some (.cells #[.int .i64 (j : Int)] 3 (0, 0))
  box : h[y]? = some (.cells #[.int .i64 i] 3 (0, 0))
theorem WAll.up {R : Rec} {nm : Nat -> Nme} {lL lW lY lV : Value} {h0 h : Hp} {W : Nat} {s : WS} (a : WAll R nm lL lW lY lV h0 W s h) : Upd (fun _ => False) h0 h := by
  obtain ⟨q, I, -⟩ := a
  exact I.up
theorem goes_emit {R : Rec} {A : Type} {i : Nat} {a : A} {k pf : Pr A} {l : List Ev} {o : List A} (hpf : PF R i pf) (g : Goes i (.emit a k) l o pf) : ∃ o', o = a :: o' /\ Goes i k l o' pf := by
  generalize hp : Pr.emit a k = p at g
  cases g with
  | nil => exact absurd hp.symm (hpf.emit a k)
  | emit g =>
    injection hp with h1 h2
    subst h1 h2
    exact ⟨_, rfl, g⟩
  | step => cases hp
theorem EK.join2 {Γ : Type} {P : Program} {main : Bool} {S : Sit Γ} {f : FuncId} {n : Nat} {c : Item} {b : Nat} {k : List Item} {env : Env} {ds : List Deferred} {h : Hp} {δ : Ix Γ} {R : Post Γ} {σ : Type} (E : σ -> Env) (I : σ -> Hp -> Ix Γ -> Prop) (h1 : (∀ s h' δ', I s h' δ' -> EK P main S f n k (E s) ds h' δ' R) -> EK P main S f n (c :: .inBlock b :: k) env ds h δ R) (h2 : ∀ s h' δ', I s h' δ' -> EK P main S f n k (E s) ds h' δ' R) : EK P main S f n (c :: .inBlock b :: k) env ds h δ R := h1 h2
theorem goes_done {A : Type} {i : Nat} {pf : Pr A} {l : List Ev} {o : List A} (g : Goes i .done l o pf) : l = [] /\ o = [] /\ pf = .done := by
  generalize hp : Pr.done = p at g
  cases g with
  | nil => exact ⟨rfl, rfl, rfl⟩
  | emit => cases hp
  | step => cases hp
section
variable {base : Nat} {Mm : Mem (Nat × Nat × Nat)} {cs : (Nat × Nat × Nat) -> Prop} {v1 : (Nat × Nat × Nat) -> Int} {o0 : Nat} {sc : List (List GCall)} {lv rm : Int} {h00 h h' : Hp} {pB sB S0 T : Nat} {scv pv bv bv' : Value} {iBs : List Nat} {y i : Nat}
theorem LpI.next (tg : Thg Mm cs v1) (I : LpI base Mm o0 sc h00 pB sB S0 T lv rm scv pv bv iBs y i h) (hb : base <= h.size) (_hbase : base <= h00.size) {h1 : Hp} (u : Upd (fun b => blk bv = some b) h h1) (sl : SliceO h1 bv' 45 1 (i + 1) ((iBs.map fun b => sfunV pB sB b) ++ [sfunV pB sB y])) (hbb : ∀ b, blk bv' = some b -> blk bv = some b \/ h.size <= b) (ns : ∀ b, blk bv = some b -> h00.size <= b) :
    LpI base Mm o0 sc h00 pB sB S0 T lv rm scv pv bv' (iBs ++ [y]) h1.size (i + 1) (h1.push (.cells #[.int .i64 ((i + 1 : Nat) : Int)] 3)) := by
  have keep : ∀ {q : Nat} {a : Array Value} {t : TypeId}, h[q]? = some (.cells a t (0, 0)) -> t ≠ 45 -> (h1.push (.cells #[.int .i64 ((i + 1 : Nat) : Int)] 3))[q]? = some (.cells a t (0, 0)) := fun hq ht => get_push _ (u.get hq (fun e => sliceO_ne I.bods hq (Ne.symm ht) _ e rfl))
  have e1 : (iBs ++ [y]).map (fun b => sfunV pB sB b) = (iBs.map fun b => sfunV pB sB b) ++ [sfunV pB sB y] := by rw [List.map_append]; rfl
  refine ⟨(I.up.over u ns).trans (Upd.push _ _), ⟨fun k hk => ?_, I.rep.inj⟩, keep I.p (by decide), keep I.s (by decide), keep I.st (by decide), keep I.t (by decide), ?_, fun b hb' => (hbb b hb').elim (I.nb b) (fun z => Nat.le_trans hb z), by rw [List.length_append, I.ib]; rfl, fun j b hj => ?_, get_push_new _ _⟩
  · have := I.rep.has k hk
    by_cases hc : cs k
    · rw [tg.cel k hc] at this ⊢
      exact keep this (by decide)
    · obtain ⟨a, t, e, t1, t2, t3⟩ := tg.oth k hk hc
      rw [e] at this ⊢
      exact keep this t1
  · rw [e1]
    exact sl.upd (Upd.push (T := fun _ => False) _ _) (fun _ _ z => z)
  · by_cases e : j < iBs.length
    · rw [List.getElem?_append_left e] at hj
      exact keep (I.ibx j b hj) (by decide)
    · rw [List.getElem?_append_right (by omega)] at hj
      have : j - iBs.length = 0 := by
        rcases Nat.eq_zero_or_pos (j - iBs.length) with z | z
        · exact z
        · rw [List.getElem?_eq_none (by rw [List.length_singleton]; exact z)] at hj; cases hj
      rw [this] at hj
      have ey : y = b := by simpa using hj
      have ej : j = i := by rw [<- I.ib]; omega
      subst ey ej
      exact keep I.box (by decide)
end
set_option maxRecDepth 8000 in
set_option maxHeartbeats 40000000 in
theorem slaw_ok {h : Hp} {scv pv : Value} {sc : List (List GCall)} {picks : List Int} {LV RM : Int} (hs : ScrM h.size h scv sc) (hp : RdS h pv (picks.map fun x => .int .i64 x)) (hpl : picks.length <= 1000000000000000) :
    CallW Try.prog true (SwS Try.prog) 9 #[.agg #[.int .i64 LV, .int .i64 RM, scv, pv]] h ⟨0, 1⟩ (Ret fun v h' δ' => δ'.d = 0 /\ v = .bool true /\ Upd (fun _ => False) h h') := by
  obtain ⟨aS, kS, eS⟩ := hs.val
  subst eS
  have no : ∀ a, ¬ (SwS Try.prog).still 1 a := fun a x => x
  obtain ⟨pB, hpB⟩ : ∃ pB, pB = h.size := ⟨_, rfl⟩
  refine CallW.start (n := 136) rfl rfl ?_
  (repeat (first | refine EK.seq ?_ | refine EK.region ?_ | refine ER.done ?_ | refine ER.assign rfl rfl rfl ?_ | refine ER.boxA rfl rfl rfl ?_))
  refine ER.callR rfl rfl rfl rfl rfl (works_ok.noS no) ?_
  rintro _ h1 δ1 ⟨rfl, u1, rfl⟩
  have gp : h1[pB]? = some (.cells #[.int .i64 LV, .int .i64 RM, .slice aS sc.length kS, pv] 132 (0, 0)) := u1.get (by rw [hpB]; exact get_push_new _ _) (fun x => x)
  have uu : Upd (fun _ => False) h h1 := (Upd.push _ _).trans u1
  rw [<- hpB]
  have hpB1 : pB < h1.size := lt_of_get gp
  clear u1
  (repeat (first | refine EK.seq ?_ | refine EK.region ?_ | refine ER.done ?_ | refine ER.move rfl rfl rfl ?_ | refine ER.assign rfl rfl rfl ?_ | refine ER.notB rfl rfl rfl ?_))
  refine ER.loadN (vs := [.int .i64 LV, .int .i64 RM, .slice aS sc.length kS, pv]) rfl rfl rfl rfl (hrow_block (rest := []) (by rw [List.append_nil]; exact gp)) ?_
  refine ER.callR rfl rfl rfl rfl rfl (glong_ok (hs.low fun b hb => uu.2 b hb (fun x => x)) (hp.upd uu (fun _ _ _ x => x)) (by rw [List.length_map]; exact hpl)) ?_
  rintro _ h2 δ2 ⟨rfl, u2, b, rfl, hlong⟩
  replace gp := u2.get gp (fun x => x)
  replace uu := uu.trans u2
  clear u2
  cases b with
  | true =>
    (repeat (first | refine EK.seq ?_ | refine EK.region ?_ | refine ER.done ?_ | refine ER.move rfl rfl rfl ?_ | refine ER.assign rfl rfl rfl ?_ | refine ER.pickF rfl rfl rfl rfl ?_ | refine EK.condT rfl ?_ | refine EK.ret ?_))
    exact EU.ret1 rfl rfl ⟨rfl, rfl, uu⟩
  | false =>
    obtain ⟨l8, small, p2k, hmade⟩ := hlong rfl
    rw [List.length_map] at p2k
    obtain ⟨Ln, Rn, e0, rfl, rfl, hn, he1, he6, hL1, hL8⟩ := hmade
    clear hlong
    (repeat (first | refine EK.seq ?_ | refine EK.region ?_ | refine ER.done ?_ | refine EK.skip ?_ | refine ER.pickF rfl rfl rfl rfl ?_ | refine EK.condF rfl ?_))
    refine ER.loadN (vs := [.int .i64 (Ln : Int), .int .i64 (Rn : Int), .slice aS sc.length kS, pv]) rfl rfl rfl rfl (hrow_block (rest := []) (by rw [List.append_nil]; exact gp)) ?_
    refine ER.callR rfl rfl rfl rfl rfl ((gnew_ok hn he1 he6 hL1 hL8 l8).noS no) ?_
    rintro _ h3 δ3 ⟨rfl, u3, S0, T, G, hGL, hGm, rfl, gS, gT, r3', lowB, lS, lT⟩
    subst hGL hGm
    have tg : Thg (priM G v0) (csP G) v0 := pri_tg
    have lowB' : ∀ k, (priM G v0).ok k -> h.size <= (priM G v0).B k := fun k hk => by
      have := lowB k hk
      have := uu.size
      omega
    replace gp := u3.get gp (fun x => x)
    have lT' : h.size <= T := by have := uu.size; omega
    replace uu := uu.trans u3
    clear u3 lowB lT lS
    obtain ⟨Mm, hMm⟩ : ∃ Mm, Mm = priM G v0 := ⟨_, rfl⟩
    rw [<- hMm] at r3' lowB' tg
    (repeat refine ER.alloc rfl rfl ?_)
    refine ER.storeNew rfl rfl rfl rfl ⟨nofun, nofun⟩ (no _) ?_
    obtain ⟨sB, hsB⟩ : ∃ sB, sB = h3.size := ⟨_, rfl⟩
    refine ER.gen (fun h' => Upd (fun _ => False) h3 h' /\ h'[sB]? = some (.cells #[ptr S0] 133 (0, 0))) ⟨Upd.push _ _, by rw [hsB]; exact get_push_new _ _⟩ ?_
    rw [<- hsB]
    clear hsB
    rintro h4 ⟨u4, gs⟩
    replace gp := u4.get gp (fun x => x)
    replace gS := u4.get gS (fun x => x)
    replace gT := u4.get gT (fun x => x)
    replace r3' := r3'.upd0 u4
    replace uu := uu.trans u4
    clear u4
    (repeat (first | refine EK.seq ?_ | refine EK.region ?_ | refine ER.done ?_ | refine EK.skip ?_ | refine ER.assign rfl rfl rfl ?_ | refine ER.load1 rfl rfl rfl (hcell_of (by assumption) rfl) ?_ | refine ER.eqV rfl rfl rfl rfl rfl ?_ | refine ER.alloc rfl rfl ?_ | refine EK.condF rfl ?_))
    refine ER.storeNew rfl rfl rfl rfl ⟨nofun, nofun⟩ (no _) ?_
    obtain ⟨y0, hy0⟩ : ∃ y0, y0 = h4.size := ⟨_, rfl⟩
    have u5 := Upd.push (T := fun _ => False) h4 (.cells #[.int .i64 0] 3)
    refine ER.gen (fun h' => LpI h.size Mm (G.B kTop) sc h pB sB S0 T (G.L : Int) (G.m : Int) (.slice aS sc.length kS) pv nilS [] y0 0 h') ⟨uu.trans u5, r3'.upd0 u5, u5.get gp (fun x => x), u5.get gs (fun x => x), u5.get gS (fun x => x), u5.get gT (fun x => x), SliceO.nil, fun b hb => (by cases hb), rfl, fun j b hj => (by cases hj), by rw [hy0]; exact get_push_new _ _⟩ ?_
    rw [<- hy0]
    clear u5 hy0 uu r3' gp gs gS gT
    intro h5 I
    (repeat (first | refine ER.done ?_ | refine EK.block ?_))
    refine EK.loopInv (fun q : Nat × Nat × Value × List Nat => [(6, ptr q.2.1), (5, q.2.2.1), (4, ptr sB), (3, .bool true), (2, .bool false), (1, ptr pB)]) (fun q h' δ' => δ' = ⟨0, 1⟩ /\ q.1 <= sc.length /\ LpI h.size Mm (G.B kTop) sc h pB sB S0 T (G.L : Int) (G.m : Int) (.slice aS sc.length kS) pv q.2.2.1 q.2.2.2 q.2.1 q.1 h') (fun q => sc.length - q.1) (0, y0, nilS, []) ⟨rfl, rfl, rfl, rfl, rfl, rfl, trivial⟩ ⟨rfl, Nat.zero_le _, I⟩ ?_
    clear I y0 h5
    rintro ⟨i, y, bv, iBs⟩ h5 δ5 ⟨hδ, hi, I⟩ again
    dsimp only at hδ hi I again ⊢
    subst hδ
    have bx := I.box
    have gp := I.p
    by_cases hin : i < sc.length
    · obtain ⟨aB, kB, eB⟩ := I.bods.val
      subst eB
      (repeat (first | refine EK.seq ?_ | refine EK.region ?_ | refine ER.done ?_ | refine EK.skip ?_ | refine EK.block ?_ | refine ER.move rfl rfl rfl ?_ | refine ER.fieldAddr rfl rfl rfl ?_ | refine ER.load1 rfl rfl rfl (hcell_of (by assumption) rfl) ?_ | refine ER.cmpT rfl rfl rfl rfl rfl (by first | (dsimp only [cmpP]; omega) | exact rfl | exact Int.le_refl _) ?_ | refine ER.len1 rfl rfl rfl ?_ | refine EK.condT rfl ?_))
      refine ER.makeFunc (fv := #[]) (cv := #[ptr pB, ptr y, ptr sB]) rfl rfl (fun ρ hρ => ⟨map_ofL hρ (vs := []) rfl, map_ofL hρ (vs := [ptr pB, ptr y, ptr sB]) rfl⟩) ?_
      refine ER.slice1 (sz := 1) (z := .nilFunc) (cells := #[sfunV pB sB y]) rfl rfl rfl (by omega) (by omega) (by rfl) rfl ?_
      have u6 := Upd.push (T := fun _ => False) h5 (.cells #[sfunV pB sB y] 45)
      have bb5 : h.size <= h5.size := I.up.size
      refine ER.append1 (new := [sfunV pB sB y]) rfl rfl rfl rfl (I.bods.upd u6 (fun _ _ z => z)) (get_push_new _ _) rfl (by simp [OneCell]) (by omega) (by omega) (by rfl) (fun _ _ _ => no _) ?_
      intro s7 h7 sl7 u7 hb7
      have uu7 : Upd (fun b => blk (.slice aB i kB) = some b) h5 h7 := upd_then (u6.mono (fun _ _ z => z.elim)) u7 (fun _ _ z => z)
      have I7 := I.next tg bb5 (Nat.le_refl _) uu7 sl7 (fun b hb => (hb7 b hb).imp id (fun e => by rw [e, Array.size_push]; omega)) I.nb
      have bx7 : h7[y]? = some (.cells #[.int .i64 i] 3 (0, 0)) := uu7.get bx (fun e => sliceO_ne I.bods bx (by decide) y e rfl)
      clear I u6 sl7 u7 hb7 uu7 bx gp
      (repeat (first | refine EK.seq ?_ | refine EK.region ?_ | refine ER.done ?_ | refine EK.inBlock ?_ | refine ER.assign rfl rfl rfl ?_ | refine ER.load1 rfl rfl rfl (hcell_of (by assumption) rfl) ?_ | refine ER.alloc rfl rfl ?_))
      refine ER.storeNew rfl rfl rfl rfl ⟨nofun, nofun⟩ (no _) ?_
      have g8 := get_push_new h7 (.cells #[.int .i64 i] 3)
      (repeat (first | refine EK.region ?_ | refine ER.done ?_ | refine ER.load1 rfl rfl rfl (hcell_of (by assumption) rfl) ?_ | refine ER.add (kd := .i64) rfl rfl rfl rfl (i64_in (by omega) (by omega)) ?_))
      refine ER.store1 rfl rfl rfl ⟨nofun, nofun⟩ ⟨_, hcell_of g8 rfl⟩ (hfroz_of g8) (no _) ?_
      have e9 : hset (h7.push (.cells #[.int .i64 i] 3)) ⟨h7.size, 0, none⟩ (.int .i64 ((i + 1 : Nat) : Int)) = h7.push (.cells #[.int .i64 ((i + 1 : Nat) : Int)] 3) := by
        rw [hset_one g8]; exact push_set _ _ _
      rw [show ((i : Int) + 1) = ((i + 1 : Nat) : Int) by omega]
      change ER _ _ _ _ _ _ _ _ _ _ (hset (h7.push (.cells #[.int .i64 i] 3)) ⟨h7.size, 0, none⟩ (.int .i64 ((i + 1 : Nat) : Int))) _ _
      rw [e9]
      clear e9 g8 bx7
      (repeat refine ER.done ?_)
      exact EK.back (again (i + 1, h7.size, s7, iBs ++ [y]) _ _ (by dsimp only; omega) ⟨rfl, by dsimp only; omega, I7⟩) ⟨rfl, rfl, rfl, rfl, rfl, rfl, trivial⟩
    · obtain rfl : i = sc.length := by omega
      clear again hin
      have bb5 : h.size <= h5.size := I.up.size
      (repeat (first | refine EK.seq ?_ | refine EK.region ?_ | refine ER.done ?_ | refine ER.fieldAddr rfl rfl rfl ?_ | refine ER.load1 rfl rfl rfl (hcell_of (by assumption) rfl) ?_ | refine ER.cmpF rfl rfl rfl rfl rfl (by first | (dsimp only [cmpP]; omega) | exact rfl | exact Int.le_refl _) ?_ | refine ER.len1 rfl rfl rfl ?_ | refine EK.condF rfl ?_ | refine EK.exit rfl ?_))
      refine ER.callR rfl rfl rfl rfl rfl (copy_ok (hp.upd I.up (fun _ _ _ x => x)) (by rw [List.length_map]; exact p2k)) ?_
      rintro pv2 h6 δ6 ⟨rfl, sl6, u6, hb6⟩
      rw [List.length_map] at sl6
      have kp : ∀ {q : Nat} {o : Obj}, h5[q]? = some o -> h6[q]? = some o := fun hq => u6.get hq (fun x => x)
      have bb6 : h.size <= h6.size := by have := u6.size; omega
      have pre : SPre h.size Mm (csP G) v0 (G.B kTop) sc h6 pB sB S0 T (G.L : Int) (G.m : Int) (.slice aS sc.length kS) pv pv2 bv iBs picks :=
        ⟨I.rep.upd0 u6, tg, lowB', kp I.p, kp I.s, kp I.st, kp I.t, lT', hs.low (fun b hb => (u6.2 b (by omega) (fun x => x)).trans (I.up.2 b hb (fun x => x))), l8, small, I.bods.upd u6 (fun _ _ z => z), I.nb, I.ib, fun j b hj => ⟨kp (I.ibx j b hj), fun e => by have := hb6 b e; have := lt_of_get (I.ibx j b hj); omega⟩, sl6, fun b hb => by have := hb6 b hb; omega⟩
      have up6 : Upd (fun _ => False) h h6 := I.up.trans u6
      clear I gp bx u6 hb6 kp
      clear sl6
      obtain ⟨f, hf⟩ : ∃ f : Nat, 65536 < f := ⟨65537, by decide⟩
      have E := senv_of (cl := (callPr G f)) pre bb6 (F := FinePr G) (V := JPr G) (fun l v r n hJ hl hF => hJ.fine (fun j k hj hk e2 => by have := pre.rep.inj j k; rw [hMm] at this; exact this hj hk e2) hl hF)
      obtain ⟨idx, hidx⟩ := exists_idxG (cs := (csP G)) (B := Mm.B) (fun j k hj hk e => pre.rep.inj j k (tg.ok j hj) (tg.ok k hk) e)
      have hcall : CallOk (tcG Mm (csP G) (FinePr G) (JPr G) (callPr G f) sc h6 T pv2 bv) (G.B kTop) S0 (callPr G f) := fun hS a ht => pcall_T (E.K.weaken (fun h m => pri_th (v := v0) (by rw [hMm] at m; exact m))) ⟨fun k hk hv => ⟨k, ⟨hk, hv⟩, by rw [hMm]⟩, hn, by omega, hL1, hL8⟩ hf hS a ht
      (repeat refine ER.move rfl rfl rfl ?_)
      refine ER.callR rfl rfl rfl rfl rfl (srun_ok pre bb6 (F := FinePr G) (V := JPr G) (fun l v r n hJ hl hF => hJ.fine (fun j k hj hk e2 => by have := pre.rep.inj j k; rw [hMm] at this; exact this hj hk e2) hl hF) hcall (jpr0 (fun k hk => by have := hidx k hk; rw [hMm] at this; exact congrArg v0 this)) (v0 := fun b => v0 (idx b)) (fun k hk => by rw [hidx k hk])) ?_
      rintro _ h7 δ7 ⟨⟨m, rfl⟩, p, e, lL, lW, lY, lV, rfl, En, u7⟩
      have I7 : ToldI (tcG Mm (csP G) (FinePr G) (JPr G) (callPr G f) sc h6 T pv2 bv) p.u h7 := En.I
      have nw := E.now I7
      have low7 : ∀ b, b < h.size -> h7[b]? = h[b]? := fun b hb => (I7.old b (E.low b hb).1 (E.low b hb).2).trans (up6.2 b hb (fun x => x))
      have uu7 : Upd (fun _ => False) h h7 := ⟨Nat.le_trans up6.size u7.size, fun b hb _ => low7 b hb⟩
      have hp7 := hp.upd uu7 (fun _ _ _ x => x)
      have ok := En.record (_sP := pv) (show sc.length <= 64 by omega) (show 16384 <= 65536 by decide)
      have m7 := En.mem hp7
      have hQ := En.Q
      have hlg : ∀ ev, ev ∈ p.log -> (∃ k, okP G.L G.m k /\ isB k /\ ev.b = G.B k) -> 0 <= ev.was /\ ev.was <= 70000 := (show JPr G p.log p.val from En.J).lg
      have hal := En.reg.alive
      obtain ⟨R, hR⟩ : ∃ R, R = recOf p (fun b => v0 (idx b)) sc.length 16384 e := ⟨_, rfl⟩
      rw [<- hR] at ok m7
      have r1 : R.e = e := by rw [hR]; rfl
      have r2 : R.log = p.log := by rw [hR]; rfl
      have r3 : R.nb = sc.length := by rw [hR]; rfl
      have r4 : R.most = 16384 := by rw [hR]; rfl
      have r5 : R.v0 = fun b => v0 (idx b) := by rw [hR]; rfl
      have r6 : R.left = (p.live sc.length).map fun j => (j, rqOf (p.st j)) := by rw [hR]; rfl
      have out7 := I7.out
      have inn7 := I7.inn
      have no7 : ∀ a, ¬ (SwS Try.prog).still m a := fun a x => x
      clear hR low7 hp7 En u7 I7 up6
      (repeat refine ER.allocA rfl rfl ?_)
      refine ER.storeN (vs := repL e p.log.length lL lW lY lV) rfl rfl rfl rfl (by
        obtain ⟨a1, k1, e1⟩ := m7.log.val
        obtain ⟨a2, k2, e2⟩ := m7.went.val
        obtain ⟨a3, k3, e3⟩ := m7.rdy.val
        obtain ⟨a4, k4, e4⟩ := m7.left.val
        rw [e1, e2, e3, e4]; simp [OneCell]) (fun j hj => ⟨?_, hfroz_of (get_push_new _ _), no7 _⟩) ?_
      · have hj' : j < 7 := hj
        rcases (show j = 0 \/ j = 1 \/ j = 2 \/ j = 3 \/ j = 4 \/ j = 5 \/ j = 6 by omega) with rfl | rfl | rfl | rfl | rfl | rfl | rfl <;> exact ⟨_, hcell_of (get_push_new _ _) rfl⟩
      rw [hsetRow_push (c := [.int .i8 0, .int .i64 0, nilS, nilS, nilS, nilS, nilS]) (vs := repL e p.log.length lL lW lY lV) rfl]
      obtain ⟨y7, hy7⟩ : ∃ y7, y7 = h7.size := ⟨_, rfl⟩
      refine ER.gen (fun h' => Upd (fun _ => False) h7 h' /\ h'[y7]? = some (repOb e p.log.length lL lW lY lV)) ⟨Upd.push _ _, by rw [hy7]; exact get_push_new _ _⟩ ?_
      rw [<- hy7]
      clear hy7
      rintro h8 ⟨v8, g8⟩
      have gp8 := v8.get nw.p (fun x => x)
      (repeat (first | refine EK.seq ?_ | refine EK.region ?_ | refine ER.done ?_))
      refine ER.loadN (vs := repL e p.log.length lL lW lY lV) rfl rfl rfl rfl (hrow_block (rest := []) (by rw [List.append_nil]; exact g8)) ?_
      (repeat (first | refine ER.fieldAddr rfl rfl rfl ?_ | refine ER.load1 rfl rfl rfl (hcell_of (by assumption) rfl) ?_ | refine ER.len1 rfl rfl rfl ?_))
      have hck := (checked_ok (main := true) (δ := ⟨0, m⟩) ok (m7.upd v8)).noS (S := SwS Try.prog) no7
      rw [r1, r2, r3, r4] at hck
      refine ER.callR rfl rfl rfl rfl rfl hck ?_
      clear hck
      rintro _ h9 δ9 ⟨rfl, rfl, u9⟩
      have v9 : Upd (fun _ => False) h7 h9 := v8.trans u9
      have g9 := u9.get g8 (fun x => x)
      have gp9 := u9.get gp8 (fun x => x)
      have m9 := m7.upd v9
      clear v8 u9 g8 gp8
      (repeat (first | refine EK.seq ?_ | refine EK.region ?_ | refine ER.done ?_ | refine EK.skip ?_ | refine ER.notB rfl rfl rfl ?_ | refine EK.condF rfl ?_))
      refine ER.loadN (vs := repL e p.log.length lL lW lY lV) rfl rfl rfl rfl (hrow_block (rest := []) (by rw [List.append_nil]; exact g9)) ?_
      have hnw := (newwalk_ok (main := true) (δ := ⟨0, m⟩) ok m9).noS (S := SwS Try.prog) no7
      rw [r1, r2] at hnw
      refine ER.callR rfl rfl rfl rfl rfl hnw ?_
      clear hnw
      rintro _ h10 δ10 ⟨rfl, W, nv, gv, fv, rfl, I10⟩
      have gp10 := I10.up.get gp9 (fun x => x)
      (repeat (first | refine EK.seq ?_ | refine EK.region ?_ | refine ER.done ?_ | refine ER.move rfl rfl rfl ?_ | refine ER.assign rfl rfl rfl ?_ | refine ER.fieldAddr rfl rfl rfl ?_))
      refine ER.loadN (vs := [.int .i64 (G.L : Int), .int .i64 (G.m : Int)]) rfl rfl rfl rfl (hrow_block (rest := [.slice aS sc.length kS, pv]) gp10) ?_
      refine ER.callR rfl rfl rfl rfl rfl ((gbegin_ok I10 hL8 hn he6).noS no7) ?_
      rintro _ h11 δ11 ⟨rfl, hv, ov, I11⟩
      clear gp10 I10
      obtain ⟨s, hsd⟩ : ∃ s : WS, s = ⟨[], hsP G, nv, gv, fv, hv, ov⟩ := ⟨_, rfl⟩
      have W11 : WAll R (fun b => nmP G.m (idx b)) lL lW lY lV h9 W s h11 := by
        refine ⟨List.replicate (nums R.log).length (false, (0, 0)), ?_, ?_, fun j b x hb hx ht => ?_⟩
        · rw [hsd, r2]
          exact I11.toI (hs := hsP G) (by rw [List.map_replicate]) (by rw [List.map_replicate]) rfl rfl
        · rw [List.length_replicate]
        · have := List.eq_of_mem_replicate (List.mem_of_getElem? hx)
          rw [this] at ht; cases ht
      have C : WC (UsT (tcG Mm (csP G) (FinePr G) (JPr G) (callPr G f) sc h6 T pv2 bv)) picks R (fun b => nmP G.m (idx b)) lL lW lY lV pv h9 s := by
        refine ⟨ok, m9, fun b b' hb hb' e => ?_, fun b hb => ?_, by rw [hsd]; show (hsP G).length <= 5000; exact hsP_len hL8 hn he6⟩
        · obtain ⟨k, h1, rfl⟩ := hb
          obtain ⟨k', h3, rfl⟩ := hb'
          have e' : nmP G.m (idx (Mm.B k)) = nmP G.m (idx (Mm.B k')) := e
          rw [hidx k h1, hidx k' h3] at e'
          rw [nmP_inj h1 h3 e']
        · obtain ⟨k, h1, rfl⟩ := hb
          rw [hsd, r5]
          show lookN (hsP G) (nmP G.m (idx (Mm.B k))) = v0 (idx (Mm.B k))
          rw [hidx k h1]
          exact look_hsP h1
      have NS : ∀ k, (csP G) k -> (fun b => nmP G.m (idx b)) (Mm.B k) = nmP G.m k := fun k hk => by
        show nmP G.m (idx (Mm.B k)) = _
        rw [hidx k hk]
      have gs9 := v9.get nw.s (fun x => x)
      have gS9 := v9.get nw.st (fun x => x)
      have gT9 := v9.get out7 (fun x => x)
      have ll : p.log.length < f := by have := ok.len; rw [r2, r4] at this; omega
      clear I11 hsd out7 nw
      (repeat (first | refine EK.seq ?_ | refine EK.region ?_ | refine ER.done ?_ | refine EK.block ?_ | refine ER.assign rfl rfl rfl ?_))
      refine EK.loopInv (fun i : Nat => [(9, .int .i64 i), (8, ptr W), (4, ptr sB), (1, ptr pB)]) (fun i h' δ' => δ' = ⟨0, m⟩ /\ i <= sc.length /\ WAll R (fun b => nmP G.m (idx b)) lL lW lY lV h9 W s h') (fun i => sc.length - i) 0 ⟨rfl, rfl, rfl, rfl, trivial⟩ ⟨rfl, Nat.zero_le _, W11⟩ ?_
      clear W11 h11
      rintro i h12 δ12 ⟨rfl, hi, a12⟩ again
      have gp := a12.up.get gp9 (fun x => x)
      by_cases hin : i < sc.length
      · obtain ⟨q, hq⟩ : ∃ q, sc[i]? = some q := ⟨_, List.getElem?_eq_getElem hin⟩
        (repeat (first | refine EK.seq ?_ | refine EK.region ?_ | refine ER.done ?_ | refine EK.skip ?_ | refine EK.block ?_ | refine ER.move rfl rfl rfl ?_ | refine ER.fieldAddr rfl rfl rfl ?_ | refine ER.load1 rfl rfl rfl (hcell_of (by assumption) rfl) ?_ | refine ER.cmpT rfl rfl rfl rfl rfl (by first | (dsimp only [cmpP]; omega) | exact rfl | exact Int.le_refl _) ?_ | refine ER.len1 rfl rfl rfl ?_ | refine EK.condT rfl ?_))
        refine ER.callR rfl rfl rfl rfl rfl (of_ok (i := i)) ?_
        rintro _ h13 δ13 ⟨rfl, x, rfl, hx, gx, u13⟩
        have hx0 : h9.size <= x := by rw [hx]; exact a12.up.size
        have a13 := a12.upd0 u13
        clear hx u13 a12 gp
        obtain ⟨pr, hg, hpr⟩ := hQ i
        have hpf : PF R i pr := by
          rcases hal i hin with ⟨g1, r, g2, -⟩ | ⟨g1, g2⟩
          · rw [g2] at hpr
            obtain ⟨⟨k, rfl⟩, -⟩ := hpr
            refine .inl ⟨r, k, ?_, rfl⟩
            rw [r6]
            refine List.mem_map.2 ⟨i, mem_live.2 ⟨hin, g1⟩, ?_⟩
            rw [g2]; rfl
          · rw [g2] at hpr
            refine .inr ⟨fun z hz e => ?_, hpr⟩
            rw [r6] at hz
            obtain ⟨j, hj, rfl⟩ := List.mem_map.1 hz
            have := (mem_live.1 hj).2
            dsimp only at e
            rw [e, g1] at this
            cases this
        clear hpr
        have w13 : WIn R (fun b => nmP G.m (idx b)) lL lW lY lV h9 W s pr x i (scriptG (callPr G f) (q.drop 0)) (ownOf i p.log) ((p.u i).1.drop 0) h13 := ⟨a13, ⟨⟨0, Nat.zero_le _, by rw [ownFrom_zero, r2], gx⟩, by
          exact (congrArg (fun P => Goes i P (ownOf i p.log) ((p.u i).1) pr) (E.P i q hq)).mp hg⟩, hx0⟩
        have hl13 : (ownOf i p.log).length < f := Nat.lt_of_le_of_lt (List.length_filter_le _ _) ll
        generalize ownOf i p.log = l at w13 hl13
        clear a13 gx hg
        (repeat (first | refine EK.seq ?_ | refine EK.region ?_ | refine ER.done ?_ | refine EK.block ?_ | refine ER.assign rfl rfl rfl ?_))
        obtain ⟨b, o, k0, a', k', e1, e2, e3, e4⟩ := hs.row i q hq
        injection e1 with e1
        subst e1
        have hq4 := small q (List.mem_of_getElem? hq)
        have inn := inn7 i hin
        change SliceO h7 (p.u i).2 137 4 (p.u i).1.length ((p.u i).1.flatMap gansL) at inn
        obtain ⟨aA, kA, eA⟩ := inn.val
        have lowAt : ∀ h', Upd (fun _ => False) h9 h' -> ∀ b, b < h.size -> h'[b]? = h[b]? := fun h' u b hb => ((v9.trans u).2 b (Nat.lt_of_lt_of_le hb uu7.size) (fun x => x)).trans (uu7.2 b hb (fun x => x))
        have lowS : h.size <= h9.size := Nat.le_trans uu7.size v9.size
        refine EK.join2 (fun k : Nat => [(11, .int .i64 k), (10, ptr x), (9, .int .i64 i), (8, ptr W), (4, ptr sB), (1, ptr pB)]) (fun k h' δ' => δ' = ⟨0, m⟩ /\ k = (p.u i).1.length /\ WAll R (fun b => nmP G.m (idx b)) lL lW lY lV h9 W s h' /\ ∃ out t, h'[x]? = some (wrO W i out t) /\ t <= R.log.length /\ ownFrom R i t = [] /\ (out = true ↔ ∃ q, q ∈ R.left /\ q.1 = i)) (fun key => ?_) ?_
        · refine EK.loopInv (fun s : Nat × List Ev => [(12, .int .i64 s.1), (11, .int .i64 s.1), (10, ptr x), (9, .int .i64 i), (8, ptr W), (4, ptr sB), (1, ptr pB)]) (fun z h' δ' => δ' = ⟨0, m⟩ /\ z.1 <= q.length /\ z.1 <= (p.u i).1.length /\ z.2.length < f /\ WIn R (fun b => nmP G.m (idx b)) lL lW lY lV h9 W s pr x i (scriptG (callPr G f) (q.drop z.1)) z.2 ((p.u i).1.drop z.1) h') (fun z => q.length - z.1) (0, l) ⟨rfl, rfl, rfl, rfl, rfl, rfl, rfl, trivial⟩ ⟨rfl, Nat.zero_le _, Nat.zero_le _, hl13, w13⟩ ?_
          clear w13 hl13 l h13
          rintro ⟨k, l⟩ h14 δ14 ⟨hδ, hk, hkt, hl, w⟩ again2
          dsimp only at hδ hk hkt hl w again2 ⊢
          subst hδ
          have u14 := w.all.up
          have gp := u14.get gp9 (fun x => x)
          have c3 : hcell h14 ⟨b, o + i * 1, none⟩ = some (.slice a' q.length k') := hcell_same e3 (lowAt h14 u14 b e2)
          by_cases hkn : k < q.length
          · obtain ⟨cq, hcq⟩ : ∃ cq, q[k]? = some cq := ⟨_, List.getElem?_eq_getElem hkn⟩
            obtain ⟨b', o', ea, f2, f3⟩ := e4 k cq hcq
            subst ea
            rw [drop_at hcq] at w
            unfold scriptG at w
            have rw4 : TJ.hrow h14 b' (o' + k * 3) (gcallL cq) := fun j v hv => hcell_same (f3 j v hv) (lowAt h14 u14 b' f2)
            (repeat (first | refine EK.seq ?_ | refine EK.region ?_ | refine ER.done ?_ | refine EK.skip ?_ | refine EK.block ?_ | refine ER.move rfl rfl rfl ?_ | refine ER.fieldAddr rfl rfl rfl ?_ | refine ER.load1 rfl rfl rfl (hcell_of (by assumption) rfl) ?_ | refine ER.cmpT rfl rfl rfl rfl rfl (by first | (dsimp only [cmpP]; omega) | exact rfl | exact Int.le_refl _) ?_ | refine ER.len1 rfl rfl rfl ?_ | refine ER.indexSl rfl rfl rfl rfl (by omega) (by omega) ?_ | refine EK.condT rfl ?_ | refine ER.load1 rfl rfl rfl (by assumption) ?_))
            refine EK.regionAnyM (fun z : Nat × GAns × Option (List Ev) => [(13, ptr z.1), (12, .int .i64 k), (11, .int .i64 k), (10, ptr x), (9, .int .i64 i), (8, ptr W), (4, ptr sB), (1, ptr pB)]) (fun z h' δ' => δ' = ⟨0, m⟩ /\ h'[z.1]? = some (gansO z.2.1) /\ (match z.2.2 with | some l' => l'.length < f /\ WIn R (fun b => nmP G.m (idx b)) lL lW lY lV h9 W s pr x i (.emit z.2.1 (scriptG (callPr G f) (q.drop (k + 1)))) l' ((p.u i).1.drop k) h' | none => (p.u i).1.drop k = [] /\ WOu R (fun b => nmP G.m (idx b)) lL lW lY lV h9 W s x i h')) (fun h' => hcell h' ⟨pB, 2, none⟩ = some (.slice (some ⟨b, o, none⟩) sc.length kS) /\ TJ.hrow h' pB 0 [.int .i64 (G.L : Int), .int .i64 (G.m : Int)] /\ hcell h' ⟨b, o + i * 1, none⟩ = some (.slice (some ⟨b', o', none⟩) q.length k') /\ TJ.hrow h' b' (o' + k * 3) (gcallL cq)) 13 (fun key2 => ?_) ?_
            · have zall : ∀ {h1 h2 : Hp}, (hcell h1 ⟨pB, 2, none⟩ = some (.slice (some ⟨b, o, none⟩) sc.length kS) /\ TJ.hrow h1 pB 0 [.int .i64 (G.L : Int), .int .i64 (G.m : Int)] /\ hcell h1 ⟨b, o + i * 1, none⟩ = some (.slice (some ⟨b', o', none⟩) q.length k') /\ TJ.hrow h1 b' (o' + k * 3) (gcallL cq)) -> Upd (fun c => h9.size <= c) h1 h2 -> (hcell h2 ⟨pB, 2, none⟩ = some (.slice (some ⟨b, o, none⟩) sc.length kS) /\ TJ.hrow h2 pB 0 [.int .i64 (G.L : Int), .int .i64 (G.m : Int)] /\ hcell h2 ⟨b, o + i * 1, none⟩ = some (.slice (some ⟨b', o', none⟩) q.length k') /\ TJ.hrow h2 b' (o' + k * 3) (gcallL cq)) := fun z u => by
                have np : ¬ h9.size <= pB := by have := lt_of_get gp9; omega
                exact ⟨u.hcell z.1 np, fun j v hv => u.hcell (z.2.1 j v hv) np, u.hcell z.2.2.1 (by show ¬ h9.size <= b; omega), fun j v hv => u.hcell (z.2.2.2 j v hv) (by show ¬ h9.size <= b'; omega)⟩
              have hZ : _ /\ _ /\ _ /\ _ := And.intro (hcell_of gp rfl : hcell h14 ⟨pB, 2, none⟩ = some (.slice (some ⟨b, o, none⟩) sc.length kS)) ⟨(hrow_block (vs := [.int .i64 (G.L : Int), .int .i64 (G.m : Int)]) (rest := [.slice (some ⟨b, o, none⟩) sc.length kS, pv]) gp), c3, rw4⟩
              refine EA.tMove 0 rfl (by kernel_rfl) rfl rfl rfl rfl hZ ?_
              refine EA.tField 1 rfl (by kernel_rfl) rfl rfl rfl rfl hZ ?_
              refine EA.tLoadN (vs := [.int .i64 (G.L : Int), .int .i64 (G.m : Int)]) 2 rfl (by kernel_rfl) rfl rfl rfl rfl rfl (fun _ hz => hz.2.1) hZ ?_
              refine EA.tField 3 rfl (by kernel_rfl) rfl rfl rfl rfl hZ ?_
              refine EA.tLoad 4 rfl (by kernel_rfl) rfl rfl rfl rfl (fun _ hz => hz.1) hZ ?_
              refine EA.tMove 5 rfl (by kernel_rfl) rfl rfl rfl rfl hZ ?_
              refine EA.tIdxS 6 rfl (by kernel_rfl) rfl rfl rfl rfl rfl (by omega) (by omega) hZ ?_
              refine EA.tLoad 7 rfl (by kernel_rfl) rfl rfl rfl rfl (fun _ hz => hz.2.2.1) hZ ?_
              refine EA.tMove 8 rfl (by kernel_rfl) rfl rfl rfl rfl hZ ?_
              refine EA.tIdxS 9 rfl (by kernel_rfl) rfl rfl rfl rfl rfl (by omega) (by omega) hZ ?_
              refine EA.tLoadN (vs := gcallL cq) 10 rfl (by kernel_rfl) rfl rfl rfl rfl rfl (fun _ hz => hz.2.2.2) hZ ?_
              refine EA.alt2 11 12 (by kernel_rfl) ?_ ?_
              · refine eaiCallR (i := 11) rfl rfl rfl rfl rfl rfl rfl ((gdoes_w (main := true) (δ := ⟨0, m⟩) C hpf (.inl ⟨l, hl, w⟩) (fun k hk => by have := NS k hk; rw [hMm] at this; exact this) hn he6 hL1 hL8 (fun ev he => hlg ev (by rw [r2] at he; exact he))).noS (S := SwS Try.prog) no7) ?_
                rintro _ h15 δ15 ⟨rfl, u15, av, rfl, hc15⟩
                have hZ2 := zall hZ (u15.mono (fun c _ hc => (w.wt c hc).1))
                refine ⟨hZ2, ?_⟩
                have z15 := zall hZ2 (Upd.push (T := fun c => h9.size <= c) h15 (gansO zA))
                refine EA.val (v := ptr h15.size) (h' := h15.push (gansO zA)) 12 rfl (by kernel_rfl) rfl rfl rfl (fun ρ Q X hρ hq => sem_allocA hq) z15 ?_
                have g15 := get_push_new h15 (gansO zA)
                refine EA.unitL (h' := h15.push (gansO av)) 13 rfl (by kernel_rfl) rfl rfl rfl (fun ρ Q X hρ hq => sem_storeN (vs := gansL av) (hρ _ _ rfl) (hρ _ _ rfl) rfl (by simp [gansL, OneCell]) (fun j hj => ⟨⟨_, hcell_of g15 (by simp only [List.getElem?_toArray]; rw [Nat.zero_add]; exact List.getElem?_eq_getElem (show j < (gansL zA).length from hj))⟩, hfroz_of g15, no7 _⟩) (by rw [row_set (c := gansL zA) (vs := gansL av) g15 rfl]; have e9 := push_set h15 (gansO zA) (gansO av); rw [show (h15.push (gansO zA)).setIfInBounds h15.size (.cells (gansL av).toArray 137 (0, 0)) = h15.push (gansO av) from e9]; exact hq)) ?_
                refine EA.done (by kernel_rfl) ?_
                rcases hc15 with ⟨l', hl', w15⟩ | ⟨ho, w15⟩
                · exact EK.back (key2 (h15.size, av, some l') _ _ ⟨rfl, get_push_new _ _, hl', w15.upd0 (Upd.push _ _)⟩) ⟨rfl, rfl, rfl, rfl, rfl, rfl, rfl, rfl, trivial⟩
                · exact EK.back (key2 (h15.size, av, none) _ _ ⟨rfl, get_push_new _ _, ho, w15.upd0 (Upd.push _ _)⟩) ⟨rfl, rfl, rfl, rfl, rfl, rfl, rfl, rfl, trivial⟩
              · have up14 := Upd.push (T := fun _ => False) h14 (gansO zA)
                have z14 := zall hZ (up14.mono (fun _ _ z => z.elim))
                refine EAi.val (i := 12) (v := ptr h14.size) (h' := h14.push (gansO zA)) rfl rfl rfl rfl (fun ρ Q X hρ hq => sem_allocA hq) z14 ?_
                have wp := w.upd0 up14
                refine EA.callR 11 rfl (by kernel_rfl) rfl rfl rfl rfl rfl rfl ((gdoes_w (main := true) (δ := ⟨0, m⟩) C hpf (.inl ⟨l, hl, wp⟩) (fun k hk => by have := NS k hk; rw [hMm] at this; exact this) hn he6 hL1 hL8 (fun ev he => hlg ev (by rw [r2] at he; exact he))).noS (S := SwS Try.prog) no7) ?_
                rintro _ h15 δ15 ⟨rfl, u15, av, rfl, hc15⟩
                have hZ2 := zall z14 (u15.mono (fun c _ hc => (wp.wt c hc).1))
                refine ⟨hZ2, ?_⟩
                have g15 : h15[h14.size]? = some (gansO zA) := u15.get (get_push_new _ _) (fun hc => by have := (w.wt _ hc).2; omega)
                have hh14 : h9.size <= h14.size := u14.size
                refine EA.unitL (h' := h15.setIfInBounds h14.size (gansO av)) 13 rfl (by kernel_rfl) rfl rfl rfl (fun ρ Q X hρ hq => sem_storeN (vs := gansL av) (hρ _ _ rfl) (hρ _ _ rfl) rfl (by simp [gansL, OneCell]) (fun j hj => ⟨⟨_, hcell_of g15 (by simp only [List.getElem?_toArray]; rw [Nat.zero_add]; exact List.getElem?_eq_getElem (show j < (gansL zA).length from hj))⟩, hfroz_of g15, no7 _⟩) (by rw [row_set (c := gansL zA) (vs := gansL av) g15 rfl]; exact hq)) ?_
                refine EA.done (by kernel_rfl) ?_
                rcases hc15 with ⟨l', hl', w15⟩ | ⟨ho, w15⟩
                · exact EK.back (key2 (h14.size, av, some l') _ _ ⟨rfl, get_set_same g15, hl', w15.setA g15 hh14 (by decide) (by decide) (by decide) (by decide) (by decide) _⟩) ⟨rfl, rfl, rfl, rfl, rfl, rfl, rfl, rfl, trivial⟩
                · exact EK.back (key2 (h14.size, av, none) _ _ ⟨rfl, get_set_same g15, ho, w15.setA g15 hh14 (by decide) (by decide) (by decide) (by decide) (by decide) _⟩) ⟨rfl, rfl, rfl, rfl, rfl, rfl, rfl, rfl, trivial⟩
            · clear w gp c3 rw4 u14
              rintro ⟨y, av, ol⟩ h15 δ15 ⟨hδ, gy, hc⟩
              dsimp only at hδ gy hc ⊢
              subst hδ
              cases ol with
              | none =>
                obtain ⟨ho, w⟩ := hc
                have r28 := w.row
                have hkl : k = (p.u i).1.length := by
                  have := List.drop_eq_nil_iff.1 ho
                  omega
                obtain ⟨t, ht, ho2, hx⟩ := w.out.at_
                (repeat (first | refine EK.seq ?_ | refine EK.region ?_ | refine ER.done ?_ | refine ER.move rfl rfl rfl ?_ | refine ER.nilCheck rfl rfl rfl ?_ | refine ER.fieldAddr rfl rfl rfl ?_ | refine ER.load1 rfl rfl rfl (hcell_of (by assumption) rfl) ?_ | refine EK.condT rfl ?_))
                refine EK.exit rfl ?_
                exact EK.back (key k _ _ ⟨rfl, hkl, w.all, true, t, hx, ht, ho2, ⟨fun _ => by obtain ⟨r, hr⟩ := w.out.left; exact ⟨_, hr, rfl⟩, fun _ => rfl⟩⟩) ⟨rfl, rfl, rfl, rfl, rfl, rfl, trivial⟩
              | some l' =>
                obtain ⟨hl', w⟩ := hc
                obtain ⟨o', ho', g'⟩ := goes_emit hpf w.at_.goes
                have htk : (p.u i).1[k]? = some av := by
                  have := congrArg (fun z : List GAns => z[0]?) ho'
                  simpa using this
                have hd : (p.u i).1.drop (k + 1) = o' := by
                  rw [<- List.tail_drop, ho']; rfl
                have hkt' := (take_mid htk).2.2
                have w2 : WIn R (fun b => nmP G.m (idx b)) lL lW lY lV h9 W s pr x i (scriptG (callPr G f) (q.drop (k + 1))) l' ((p.u i).1.drop (k + 1)) h15 := ⟨w.all, ⟨w.at_.at_, by rw [hd]; exact g'⟩, w.x0⟩
                have r28 := w.row
                have u15 := w.all.up
                have gs : hcell h15 ⟨sB, 0, none⟩ = some (ptr S0) := hcell_of (u15.get gs9 (fun x => x)) rfl
                have gS : hcell h15 ⟨S0, 1, none⟩ = some (.slice (some ⟨T, 0, none⟩) sc.length sc.length) := hcell_of (u15.get gS9 (fun x => x)) rfl
                have gT : hcell h15 ⟨T, 0 + i * 1, none⟩ = some (.slice aA (p.u i).1.length kA) := by
                  rw [<- eA]
                  exact hcell_of (u15.get gT9 (fun x => x)) (by
                    show ((List.range sc.length).map fun i => (p.u i).2).toArray[0 + i * 1]? = _
                    simp [hin])
                have inn15 := (inn.upd v9 (fun _ _ x => x)).upd u15 (fun _ _ x => x)
                rw [eA] at inn15
                obtain ⟨bA, ea, hrow, -⟩ := slice_row (f := gansL) (fun _ => rfl) inn15 htk
                rw [ea] at gT
                have ry : TJ.hrow h15 y 0 (gansL av) := hrow_block (rest := []) (by rw [List.append_nil]; exact gy)
                clear w
                (repeat (first | refine EK.seq ?_ | refine EK.region ?_ | refine ER.done ?_ | refine EK.skip ?_ | refine ER.move rfl rfl rfl ?_ | refine ER.nilCheck rfl rfl rfl ?_ | refine ER.fieldAddr rfl rfl rfl ?_ | refine EK.condF rfl ?_ | refine ER.load1 rfl rfl rfl (by assumption) ?_))
                refine EK.regionAny (fun h' => h' = h15) ?_
                have hZ : h15 = h15 := rfl
                refine EA.tMove 0 rfl (by kernel_rfl) rfl rfl rfl rfl hZ ?_
                refine EA.tLoad 1 rfl (by kernel_rfl) rfl rfl rfl rfl (fun _ hz => (by rw [hz]; exact gs)) hZ ?_
                refine EA.tNil 2 rfl (by kernel_rfl) rfl rfl rfl rfl hZ ?_
                refine EA.tField 3 rfl (by kernel_rfl) rfl rfl rfl rfl hZ ?_
                refine EA.tLoad 4 rfl (by kernel_rfl) rfl rfl rfl rfl (fun _ hz => (by rw [hz]; exact gS)) hZ ?_
                refine EA.tMove 5 rfl (by kernel_rfl) rfl rfl rfl rfl hZ ?_
                refine EA.tIdxS 6 rfl (by kernel_rfl) rfl rfl rfl rfl rfl (by omega) (by omega) hZ ?_
                refine EA.tLoad 7 rfl (by kernel_rfl) rfl rfl rfl rfl (fun _ hz => (by rw [hz]; exact gT)) hZ ?_
                refine EA.tLen1 8 rfl (by kernel_rfl) rfl rfl rfl rfl hZ ?_
                refine EA.tCmpF 9 rfl (by kernel_rfl) rfl rfl rfl rfl rfl rfl (by first | (dsimp only [cmpP]; omega) | exact rfl | exact Int.le_refl _) hZ ?_
                refine EA.tMove 10 rfl (by kernel_rfl) rfl rfl rfl rfl hZ ?_
                refine EA.tLoad 11 rfl (by kernel_rfl) rfl rfl rfl rfl (fun _ hz => (by rw [hz]; exact gs)) hZ ?_
                refine EA.tNil 12 rfl (by kernel_rfl) rfl rfl rfl rfl hZ ?_
                refine EA.tField 13 rfl (by kernel_rfl) rfl rfl rfl rfl hZ ?_
                refine EA.tLoad 14 rfl (by kernel_rfl) rfl rfl rfl rfl (fun _ hz => (by rw [hz]; exact gS)) hZ ?_
                refine EA.tMove 15 rfl (by kernel_rfl) rfl rfl rfl rfl hZ ?_
                refine EA.tIdxS 16 rfl (by kernel_rfl) rfl rfl rfl rfl rfl (by omega) (by omega) hZ ?_
                refine EA.tLoad 17 rfl (by kernel_rfl) rfl rfl rfl rfl (fun _ hz => (by rw [hz]; exact gT)) hZ ?_
                refine EA.tMove 18 rfl (by kernel_rfl) rfl rfl rfl rfl hZ ?_
                refine EA.tIdxS 19 rfl (by kernel_rfl) rfl rfl rfl rfl rfl (by omega) (by omega) hZ ?_
                refine EA.tLoadN (vs := gansL av) 20 rfl (by kernel_rfl) rfl rfl rfl rfl rfl (fun _ hz => by rw [hz]; exact hrow) hZ ?_
                refine EA.tLoadN (vs := gansL av) 21 rfl (by kernel_rfl) rfl rfl rfl rfl rfl (fun _ hz => by rw [hz]; exact ry) hZ ?_
                refine EA.val (h' := h15) 22 rfl (by kernel_rfl) rfl rfl rfl (fun ρ Q X hρ hq => sem_neqA4 (hρ _ _ rfl) (hρ _ _ rfl) hq) hZ ?_
                refine EA.tPickF 23 rfl (by kernel_rfl) rfl rfl rfl rfl rfl hZ ?_
                refine EA.done (by kernel_rfl) ?_
                (repeat (first | refine EK.region ?_ | refine ER.done ?_ | refine EK.skip ?_ | refine EK.inBlock ?_ | refine ER.move rfl rfl rfl ?_ | refine ER.assign rfl rfl rfl ?_ | refine ER.add (kd := .i64) rfl rfl rfl rfl (i64_in (by omega) (by omega)) ?_ | refine EK.condF rfl ?_))
                exact EK.back (again2 (k + 1, l') _ _ (by dsimp only; omega) ⟨rfl, by dsimp only; omega, by dsimp only; omega, by dsimp only; omega, w2⟩) ⟨rfl, rfl, rfl, rfl, rfl, rfl, rfl, trivial⟩
          · obtain rfl : k = q.length := by omega
            clear again2
            rw [List.drop_length] at w
            obtain ⟨hl0, ho0, hp0⟩ := goes_done w.at_.goes
            obtain ⟨t, ht, ho2, hx⟩ := w.at_.at_
            rw [hl0] at ho2
            have hkl : q.length = (p.u i).1.length := by
              have := List.drop_eq_nil_iff.1 ho0
              omega
            have hnl : ∀ z, z ∈ R.left -> z.1 ≠ i := by
              rcases hpf with ⟨r, k, -, e⟩ | ⟨h, -⟩
              · rw [hp0] at e; cases e
              · exact h
            have wa := w.all
            clear w
            (repeat (first | refine EK.seq ?_ | refine EK.region ?_ | refine ER.done ?_ | refine ER.move rfl rfl rfl ?_ | refine ER.fieldAddr rfl rfl rfl ?_ | refine ER.load1 rfl rfl rfl (hcell_of (by assumption) rfl) ?_ | refine ER.cmpF rfl rfl rfl rfl rfl (by first | (dsimp only [cmpP]; omega) | exact rfl | exact Int.le_refl _) ?_ | refine ER.len1 rfl rfl rfl ?_ | refine ER.indexSl rfl rfl rfl rfl (by omega) (by omega) ?_ | refine EK.condF rfl ?_ | refine ER.load1 rfl rfl rfl (by assumption) ?_))
            refine EK.exit rfl ?_
            exact EK.back (key q.length _ _ ⟨rfl, hkl, wa, false, t, hx, ht, ho2, ⟨fun e => (by cases e), fun ⟨z, hz, e⟩ => absurd e (hnl z hz)⟩⟩) ⟨rfl, rfl, rfl, rfl, rfl, rfl, trivial⟩
        · clear w13 hl13
          rintro k h15 δ15 ⟨rfl, hkl, a15, out, t, gx, ht, ho, hlo⟩
          (repeat (first | refine EK.seq ?_ | refine EK.region ?_ | refine ER.move rfl rfl rfl ?_))
          refine ER.callR rfl rfl rfl rfl rfl ((end_ok (main := true) (δ := ⟨0, m⟩) C a15 gx hx0 ht ho hlo).noS (S := SwS Try.prog) no7) ?_
          rintro _ h16 δ16 ⟨rfl, a16, u16⟩
          have u15 := a16.up
          have gs : hcell h16 ⟨sB, 0, none⟩ = some (ptr S0) := hcell_of (u15.get gs9 (fun x => x)) rfl
          have gS : hcell h16 ⟨S0, 1, none⟩ = some (.slice (some ⟨T, 0, none⟩) sc.length sc.length) := hcell_of (u15.get gS9 (fun x => x)) rfl
          have gT : hcell h16 ⟨T, 0 + i * 1, none⟩ = some (.slice aA (p.u i).1.length kA) := by
            rw [<- eA]
            exact hcell_of (u15.get gT9 (fun x => x)) (by
              show ((List.range sc.length).map fun i => (p.u i).2).toArray[0 + i * 1]? = _
              simp [hin])
          subst hkl
          (repeat (first | refine EK.seq ?_ | refine EK.region ?_ | refine ER.done ?_ | refine EK.skip ?_ | refine EK.inBlock ?_ | refine ER.move rfl rfl rfl ?_ | refine ER.assign rfl rfl rfl ?_ | refine ER.nilCheck rfl rfl rfl ?_ | refine ER.fieldAddr rfl rfl rfl ?_ | refine ER.cmpF rfl rfl rfl rfl rfl (by first | (dsimp only [cmpP]; omega) | exact rfl | exact Int.le_refl _) ?_ | refine ER.add (kd := .i64) rfl rfl rfl rfl (i64_in (by omega) (by omega)) ?_ | refine ER.len1 rfl rfl rfl ?_ | refine ER.indexSl rfl rfl rfl rfl (by omega) (by omega) ?_ | refine EK.condF rfl ?_ | refine ER.load1 rfl rfl rfl (by assumption) ?_))
          exact EK.back (again (i + 1) _ _ (by omega) ⟨rfl, by omega, a16⟩) ⟨rfl, rfl, rfl, rfl, trivial⟩
      · obtain rfl : i = sc.length := by omega
        clear again
        obtain ⟨q, Iw, -⟩ := a12
        have c7 : hcell h12 ⟨W, 7, none⟩ = some (.bool false) := hcell_of Iw.row rfl
        (repeat (first | refine EK.seq ?_ | refine EK.region ?_ | refine ER.done ?_ | refine ER.move rfl rfl rfl ?_ | refine ER.assign rfl rfl rfl ?_ | refine ER.nilCheck rfl rfl rfl ?_ | refine ER.fieldAddr rfl rfl rfl ?_ | refine ER.load1 rfl rfl rfl (hcell_of (by assumption) rfl) ?_ | refine ER.notB rfl rfl rfl ?_ | refine ER.cmpF rfl rfl rfl rfl rfl (by first | (dsimp only [cmpP]; omega) | exact rfl | exact Int.le_refl _) ?_ | refine ER.len1 rfl rfl rfl ?_ | refine EK.condF rfl ?_ | refine EK.ret ?_ | refine EK.exit rfl ?_ | refine ER.load1 rfl rfl rfl (by assumption) ?_))
        exact EU.ret1 rfl rfl ⟨rfl, rfl, (uu7.trans v9).trans Iw.up⟩
end
section
open Go Go.TJ Go.Conc Go.Proofs
open Go.ChangeShapes Go.WideShapes Go.ChangeAt Go.RowKit
theorem plain0 {w : World} {a : Addr} {v : Value} (h : w.cell? a = some v) : ∃ b o, a = ⟨b, o, none⟩ /\ b < w.heap.size := by
  have h' : hcell w.heap a = some v := h
  rcases a with ⟨b, o, s⟩
  obtain ⟨c, e, f, h1, h2, _⟩ := hcell_some h'
  obtain rfl : s = none := h2
  exact ⟨b, o, rfl, lt_of_get h1⟩
theorem plainAt {w : World} {b o i : Nat} {v : Value} (h : w.cell? ((⟨b, o, none⟩ : Addr).add i) = some v) : hcell w.heap ⟨b, o + i, none⟩ = some v := by
  rw [add_eq] at h; exact h
section
variable {H : Type} {enc : TypeId × Value -> H} {w : World} {base : Nat} {spare : Nat -> Bool} {held : Bool}
theorem weightsAll_mem {P : Program} {e : TypeId} : ∀ {l : List (DataW H)} {d : DataW H}, d ∈ l -> ∀ n, n ∈ d.weights P e -> n ∈ DataW.weightsAll P e l
  | [], _, h, _, _ => by cases h
  | x :: r, d, h, n, hn => by
    rw [DataW.weightsAll]
    rcases List.mem_cons.1 h with rfl | h
    · exact List.mem_append_left _ hn
    · exact List.mem_append_right _ (weightsAll_mem h n hn)
theorem weights_slice {P : Program} {t e : TypeId} (ht : P.underlying t = some (.slice e)) (els sp : List (DataW H)) : (DataW.slice els sp).weights P t = (els.length + sp.length) * P.bytesOf e :: (DataW.weightsAll P e els ++ DataW.weightsAll P e sp) := by
  simp only [DataW.weights, ht]
open Go.Deep in
theorem open_slice_triples {P : Program} {t e : TypeId} {f0 f1 f2 : Field} {fuel : Nat} {cs : List Value} {x : DataW H × List MemPlace} (ht : P.underlying t = some (.slice e)) (he : P.underlying e = some (.struct #[f0, f1, f2]))
    (ce : P.cellsOf e = 3) (o0 : f0.offset = 0) (o1 : f1.offset = 1) (o2 : f2.offset = 2) (c0 : P.cellsOf f0.type = 1) (c1 : P.cellsOf f1.type = 1) (c2 : P.cellsOf f2.type = 1) (h : DataW.trod enc P w base spare held fuel t cs = some x) :
    (cs = [.slice none 0 0] /\ x = (.nil, [])) \/
    ∃ (a : Addr) (len cap m n : Nat) (V : Nat -> Value × Value × Value) (D : Nat -> DataW H), cs = [.slice (some a) len cap] /\ len <= m /\
      (∃ sp, x.1 = .slice ((List.range len).map fun i => D i) sp) /\
      ∀ i, i < m -> w.cell? (a.add (i * 3)) = some (V i).1 /\ w.cell? (a.add (i * 3 + 1)) = some (V i).2.1 /\ w.cell? (a.add (i * 3 + 2)) = some (V i).2.2 /\
        (∃ y, DataW.trod enc P w base spare held n f0.type [(V i).1] = some y) /\ (∃ y, DataW.trod enc P w base spare held n f1.type [(V i).2.1] = some y) /\ ∃ y, DataW.trod enc P w base spare held n f2.type [(V i).2.2] = some y := by
  rcases open_slice ht h with h0 | ⟨a, len, cap, m, n, D, Pl, rfl, hb, hl, hm, hmm, rfl, hx⟩
  · exact Or.inl h0
  right
  have hlm : len <= m := by rw [hmm]; split <;> omega
  have each : ∀ i, i < m -> ∃ q : Value × Value × Value, w.cell? (a.add (i * 3)) = some q.1 /\ w.cell? (a.add (i * 3 + 1)) = some q.2.1 /\ w.cell? (a.add (i * 3 + 2)) = some q.2.2 /\
      (∃ y, DataW.trod enc P w base spare held (n - 1) f0.type [q.1] = some y) /\ (∃ y, DataW.trod enc P w base spare held (n - 1) f1.type [q.2.1] = some y) /\ ∃ y, DataW.trod enc P w base spare held (n - 1) f2.type [q.2.2] = some y := by
    intro i hi
    obtain ⟨cs', h1, h2⟩ := hx i hi
    rw [ce] at h1
    obtain ⟨_, hlen, hcell⟩ := World.cells?_some h1
    obtain ⟨xs, k, hk, hxy, _, hxl, hf⟩ := DataW.trod_struct he h2
    have hk' : k = n - 1 := by omega
    subst hk'
    match xs, hxl, cs', hlen with
    | [y0, y1, y2], _, [v0, v1, v2], _ =>
      have g0 := hf 0 f0 rfl
      have g1 := hf 1 f1 rfl
      have g2 := hf 2 f2 rfl
      simp [o0, o1, o2, c0, c1, c2] at g0 g1 g2
      have e0 := hcell 0 (by omega)
      have e1 := hcell 1 (by omega)
      have e2 := hcell 2 (by omega)
      rw [add_add] at e0 e1 e2
      exact ⟨(v0, v1, v2), by simpa using e0, by simpa using e1, by simpa using e2, ⟨_, g0⟩, ⟨_, g1⟩, ⟨_, g2⟩⟩
  obtain ⟨q, hq⟩ := choose_lt each
  exact ⟨a, len, cap, m, n - 1, q, D, rfl, hlm, ⟨_, rfl⟩, hq⟩
theorem open_calls {fuel : Nat} {v : Value} {x : DataW H × List MemPlace} (h : DataW.trod enc Try.prog w base spare held fuel 135 [v] = some x) (hz : ∀ n, n ∈ x.1.weights Try.prog 135 -> n <= reachBytes) :
    ∃ (a' : Option Addr) (l : List GCall) (k' : Nat), v = .slice a' l.length k' /\ l.length <= 1000000000000000 /\ ∀ j q, l[j]? = some q -> ∃ b' o', a' = some ⟨b', o', none⟩ /\ b' < w.heap.size /\ TJ.hrow w.heap b' (o' + j * 3) (gcallL q) := by
  rcases open_slice_triples Try.underlying135 Try.underlying140 (by kernel_rfl) rfl rfl rfl (by kernel_rfl) (by kernel_rfl) (by kernel_rfl) h with ⟨hcs, _⟩ | ⟨a, l, c, m, n, V, D, hcs, hlm, ⟨sp, hxe⟩, hx⟩
  · injection hcs with hcs _
    exact ⟨none, [], 0, hcs, Nat.zero_le _, fun j q hq => by cases hq⟩
  · injection hcs with hcs _
    have hbig : l <= 1000000000000000 := by
      have hb : Try.prog.bytesOf 140 = 24 := by kernel_rfl
      have := hz _ (by rw [hxe, weights_slice Try.underlying135]; exact List.mem_cons_self ..)
      rw [hb] at this
      simp only [List.length_map, List.length_range, reachBytes] at this
      omega
    obtain ⟨f, hf⟩ := Go.Deep.choose_lt (n := l) (p := fun i (x : Int × Int × Int) => w.cell? (a.add (i * 3)) = some (.int .i64 x.1) /\ w.cell? (a.add (i * 3 + 1)) = some (.int .i64 x.2.1) /\ w.cell? (a.add (i * 3 + 2)) = some (.int .i64 x.2.2)) (fun i hi => by
      obtain ⟨c0, c1, c2, ⟨_, t0⟩, ⟨_, t1⟩, ⟨_, t2⟩⟩ := hx i (by omega)
      obtain ⟨z0, e0, _, _⟩ := DataW.trod_int Try.underlying3 t0
      obtain ⟨z1, e1, _, _⟩ := DataW.trod_int Try.underlying3 t1
      obtain ⟨z2, e2, _, _⟩ := DataW.trod_int Try.underlying2 t2
      simp at e0 e1 e2
      exact ⟨(z0, z1, z2), by rw [c0, e0], by rw [c1, e1], by rw [c2, e2]⟩)
    refine ⟨some a, (List.range l).map f, c, by rw [List.length_map, List.length_range]; exact hcs, by rw [List.length_map, List.length_range]; exact hbig, fun j q hq => ?_⟩
    rw [List.getElem?_map] at hq
    obtain ⟨j', hj', rfl⟩ := Option.map_eq_some_iff.1 hq
    have hjl : j < l := by
      have := (take_mid hj').2.2
      rwa [List.length_range] at this
    rw [List.getElem?_range hjl] at hj'
    injection hj' with hj'
    subst hj'
    obtain ⟨b', o', rfl, hb⟩ := plain0 (a := a) (by have := (hf 0 (by omega)).1; exact this)
    obtain ⟨g0, g1, g2⟩ := hf j hjl
    refine ⟨b', o', rfl, hb, fun i v hv => ?_⟩
    match i, hv with
    | 0, hv =>
      obtain rfl : Value.int .i64 (f j).1 = v := by simpa [gcallL] using hv
      have g := plainAt g0
      exact g
    | 1, hv =>
      obtain rfl : Value.int .i64 (f j).2.1 = v := by simpa [gcallL] using hv
      have g := plainAt g1
      exact g
    | 2, hv =>
      obtain rfl : Value.int .i64 (f j).2.2 = v := by simpa [gcallL] using hv
      have g := plainAt g2
      exact g
    | i + 3, hv => simp [gcallL] at hv
theorem open_picks {fuel : Nat} {v : Value} {x : DataW H × List MemPlace} (h : DataW.trod enc Try.prog w base spare held fuel 25 [v] = some x) (hz : ∀ n, n ∈ x.1.weights Try.prog 25 -> n <= reachBytes) :
    ∃ picks : List Int, RdS w.heap v (picks.map fun x => .int .i64 x) /\ picks.length <= 1000000000000000 := by
  rcases Go.Deep.open_slice1 Try.underlying25 (by kernel_rfl) h with ⟨hcs, _⟩ | ⟨a, l, c, m, n, V, D, Pl, hcs, _, hl, hm, hmm, hxe, hx⟩
  · injection hcs with hcs _
    subst hcs
    exact ⟨[], ⟨⟨none, 0, rfl⟩, fun i v hv => by cases hv⟩, Nat.zero_le _⟩
  · injection hcs with hcs _
    subst hcs
    have hbig : l <= 1000000000000000 := by
      have hb : Try.prog.bytesOf 3 = 8 := by kernel_rfl
      have := hz _ (by rw [hxe, weights_slice Try.underlying25]; exact List.mem_cons_self ..)
      rw [hb] at this
      simp only [List.length_map, List.length_range, reachBytes] at this
      omega
    have hlm : l <= m := by rw [hmm]; split <;> omega
    obtain ⟨f, hf⟩ := Go.Deep.choose_lt (n := l) (p := fun i (x : Int) => w.cell? (a.add i) = some (.int .i64 x)) (fun i hi => by
      obtain ⟨c0, t0⟩ := hx i (by omega)
      obtain ⟨z0, e0, _, _⟩ := DataW.trod_int Try.underlying3 t0
      simp at e0
      exact ⟨z0, by rw [c0, e0]⟩)
    refine ⟨(List.range l).map f, ⟨⟨some a, c, by simp⟩, fun i v hv => ?_⟩, by rw [List.length_map, List.length_range]; exact hbig⟩
    rw [List.getElem?_map] at hv
    obtain ⟨z, hv', rfl⟩ := Option.map_eq_some_iff.1 hv
    rw [List.getElem?_map] at hv'
    obtain ⟨j', hj', rfl⟩ := Option.map_eq_some_iff.1 hv'
    have hjl : i < l := by
      have := (take_mid hj').2.2
      rwa [List.length_range] at this
    rw [List.getElem?_range hjl] at hj'
    injection hj' with hj'
    subst hj'
    obtain ⟨b', o', rfl, hb⟩ := plain0 (a := a) (by have := hf 0 (by omega); exact this)
    exact ⟨b', o', c, by simp, by rw [Nat.mul_one]; exact plainAt (hf i hjl)⟩
theorem open_scripts {fuel : Nat} {v : Value} {x : DataW H × List MemPlace} (h : DataW.trod enc Try.prog w base spare held fuel 130 [v] = some x) (hz : ∀ n, n ∈ x.1.weights Try.prog 130 -> n <= reachBytes) :
    ∃ sc : List (List GCall), ScrM w.heap.size w.heap v sc := by
  rcases Go.Deep.open_slice1 Try.underlying130 (by kernel_rfl) h with ⟨hcs, _⟩ | ⟨a, l, c, m, n, V, D, Pl, hcs, _, hl, hm, hmm, hxe, hx⟩
  · injection hcs with hcs _
    subst hcs
    exact ⟨[], ⟨none, 0, rfl⟩, ⟨Nat.zero_le _, fun l hl => by cases hl⟩, fun i l hl => by cases hl⟩
  · injection hcs with hcs _
    subst hcs
    rw [hxe, weights_slice Try.underlying130] at hz
    have hbig : l <= 1000000000000000 := by
      have hb : Try.prog.bytesOf 135 = 24 := by kernel_rfl
      have := hz _ (List.mem_cons_self ..)
      rw [hb] at this
      simp only [List.length_map, List.length_range, reachBytes] at this
      omega
    have hlm : l <= m := by rw [hmm]; split <;> omega
    obtain ⟨f, hf⟩ := Go.Deep.choose_lt (n := l) (p := fun i (x : Option Addr × List GCall × Nat) => w.cell? (a.add i) = some (.slice x.1 x.2.1.length x.2.2) /\ x.2.1.length <= 1000000000000000 /\ ∀ j q, x.2.1[j]? = some q -> ∃ b' o', x.1 = some ⟨b', o', none⟩ /\ b' < w.heap.size /\ TJ.hrow w.heap b' (o' + j * 3) (gcallL q)) (fun i hi => by
      obtain ⟨c0, t0⟩ := hx i (by omega)
      obtain ⟨a', l', k', e1, e2, e3⟩ := open_calls t0 (fun n hn => hz n (List.mem_cons_of_mem _ (List.mem_append_left _ (weightsAll_mem (d := D i) (List.mem_map_of_mem (List.mem_range.2 hi)) n hn))))
      exact ⟨(a', l', k'), by rw [c0, e1], e2, e3⟩)
    refine ⟨(List.range l).map fun i => (f i).2.1, ⟨some a, c, by simp⟩, ⟨by simpa using hbig, fun q hq => ?_⟩, fun i q hq => ?_⟩
    · obtain ⟨i, hi, rfl⟩ := List.mem_map.1 hq
      exact (hf i (List.mem_range.1 hi)).2.1
    · rw [List.getElem?_map] at hq
      obtain ⟨j', hj', rfl⟩ := Option.map_eq_some_iff.1 hq
      have hjl : i < l := by
        have := (take_mid hj').2.2
        rwa [List.length_range] at this
      rw [List.getElem?_range hjl] at hj'
      injection hj' with hj'
      subst hj'
      obtain ⟨b', o', rfl, hb⟩ := plain0 (a := a) (by have := (hf 0 (by omega)).1; exact this)
      obtain ⟨g0, g1, g2⟩ := hf i hjl
      exact ⟨b', o', c, (f i).1, (f i).2.2, by simp, hb, by rw [Nat.mul_one]; exact plainAt g0, g2⟩
set_option maxRecDepth 100000 in
theorem open_play {fuel : Nat} {cs : List Value} {x : DataW H × List MemPlace} (h : DataW.trod enc Try.prog w base spare held fuel 132 cs = some x) (hz : ∀ n, n ∈ x.1.weights Try.prog 132 -> n <= reachBytes) :
    ∃ (LV RM : Int) (scv pv : Value) (sc : List (List GCall)) (picks : List Int), cs = [.int .i64 LV, .int .i64 RM, scv, pv] /\ ScrM w.heap.size w.heap scv sc /\ RdS w.heap pv (picks.map fun x => .int .i64 x) /\ picks.length <= 1000000000000000 := by
  obtain ⟨xs, n, -, hxe, hl, hxl, hfs⟩ := DataW.trod_struct Try.underlying132 h
  have h3 : Try.prog.cellsOf 132 = 4 := by kernel_rfl
  have hm1 : Try.prog.cellsOf 129 = 2 := by kernel_rfl
  have hs1 : Try.prog.cellsOf 130 = 1 := by kernel_rfl
  have hp1 : Try.prog.cellsOf 25 = 1 := by kernel_rfl
  have hi1 : Try.prog.cellsOf 3 = 1 := by kernel_rfl
  have hi2 : Try.prog.cellsOf 2 = 1 := by kernel_rfl
  rw [h3] at hl
  obtain ⟨c0, c1, c2, c3, rfl⟩ : ∃ c0 c1 c2 c3, cs = [c0, c1, c2, c3] := by
    match cs, hl with
    | [c0, c1, c2, c3], _ => exact ⟨c0, c1, c2, c3, rfl⟩
  obtain ⟨x0, x1, x2, rfl⟩ : ∃ c0 c1 c2, xs = [c0, c1, c2] := by
    match xs, hxl with
    | [c0, c1, c2], _ => exact ⟨c0, c1, c2, rfl⟩
  have f0 := hfs 0 _ rfl
  have f1 := hfs 1 _ rfl
  have f2 := hfs 2 _ rfl
  simp [hm1, hs1, hp1] at f0 f1 f2
  have hw : x.1.weights Try.prog 132 = x0.1.weights Try.prog 129 ++ (x1.1.weights Try.prog 130 ++ (x2.1.weights Try.prog 25 ++ [])) := by
    rw [hxe]
    simp only [DataW.weights, Try.underlying132]
    rfl
  rw [hw] at hz
  obtain ⟨sc, hsc⟩ := open_scripts f1 (fun n hn => hz n (List.mem_append_right _ (List.mem_append_left _ hn)))
  obtain ⟨picks, hp, hpl⟩ := open_picks f2 (fun n hn => hz n (List.mem_append_right _ (List.mem_append_right _ (List.mem_append_left _ hn))))
  obtain ⟨ys, n', -, -, -, hyl, hgs⟩ := DataW.trod_struct Try.underlying129 f0
  obtain ⟨y0, y1, rfl⟩ : ∃ y0 y1, ys = [y0, y1] := by
    match ys, hyl with
    | [y0, y1], _ => exact ⟨y0, y1, rfl⟩
  have g0 := hgs 0 _ rfl
  simp [hi1] at g0
  obtain ⟨z0, e0, _, _⟩ := DataW.trod_int Try.underlying3 g0
  simp at e0
  have g1 := hgs 1 _ rfl
  simp [hi1] at g1
  obtain ⟨z1, e1, _, _⟩ := DataW.trod_int Try.underlying3 g1
  simp at e1
  exact ⟨z0, z1, c2, c3, sc, picks, by rw [e0, e1], hsc, hp, hpl⟩
end
end
end Go.Proofs.Ytcpcdnkemobneaa
