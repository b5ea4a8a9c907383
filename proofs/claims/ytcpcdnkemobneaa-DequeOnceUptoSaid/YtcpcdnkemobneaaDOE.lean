/- Steps of the walk and of the plain law (DoR to DoProof). Conditions: as each lemma says. -/
import Derived.Deep.SlicePairs
import Derived.OpenShut
import Derived.WalkKit
import Derived.ProofKit
import Derived.Test.YtcpcdnkemobneaaRows
import Derived.Conc.HoldsTime
import Derived.Test.YtcpcdnkemobneaaDOD
namespace Go.Proofs.Ytcpcdnkemobneaa
section
open Go Go.TJ Go.Conc Go.Proofs
abbrev ownV (d : D1) (bx bd bget : Nat) : FuncId × Array Value := (40, #[ptr bx, ptr bd, ptr (d.D .pushed), ptr (d.D .there), ptr (d.D .stk), ptr (d.D .wrong), ptr (d.D .pop), ptr bget])
abbrev thfV (d : D1) (bx bd bget iB : Nat) : FuncId × Array Value := (43, #[ptr bx, ptr iB, ptr (d.D .gets), ptr bd, ptr bget, ptr (d.D .wrong), ptr (d.D .last), ptr (d.D .pop)])
structure OPre (d : D1) (base cap : Nat) (rest : List Value) (bx bd bg bget : Nat) (bs : Int) (oS tS pS bv : Value) (ths iBs : List Nat) (picks : List Int) : Prop where
  hn : d.c.n = 2 ^ d.c.e
  he : d.c.e <= 12
  F : W64 d.c.F = d.c.F
  rep : Rep d.hN (deqM d.c.n cap rest d.c.B (fun k => if k < 4 then d.c.F else 0))
  ex : ∀ b, d.ex b ↔ blk bv = some b
  vs : Rep d.hN (dM d.ml d.D (QS.of DS.z nilS))
  v0 : ∀ k, 2 <= k -> k < 4 + d.c.n -> d.v0 (d.c.B k) = if k < 4 then d.c.F else 0
  x : d.hN[bx]? = some (.cells #[.int .i64 d.c.n, .int .i64 d.c.F, .int .i64 bs, oS, tS, pS] 98 (0, 0))
  dq : d.hN[bd]? = some (.cells #[ptr (d.c.B 0)] 89 (0, 0))
  g : d.hN[bg]? = some (.cells #[.slice (some ⟨d.D .got, 0, none⟩) d.ml d.ml] 63 (0, 0))
  get : d.hN[bget]? = some (.cells #[.func (.func 39) #[] #[ptr (d.D .wrong), ptr bg, ptr (d.D .there), ptr (d.D .gets)]] 101 (0, 0))
  lowB : ∀ k, k < 4 + d.c.n -> base <= d.c.B k
  lowD : ∀ k, base <= d.D k
  lowb : ∀ b, blk bv = some b -> base <= b
  own : RdS d.hN oS (d.c.o.map fun x => .bool x) /\ (d.c.o ≠ [] -> ∀ b, blk oS = some b -> b < base)
  thf : RdS d.hN tS (ths.map fun (x : Nat) => .int .u8 x) /\ (ths ≠ [] -> ∀ b, blk tS = some b -> b < base)
  pk : RdS d.hN pS (picks.map fun x => .int .i64 x) /\ (picks ≠ [] -> ∀ b, blk pS = some b -> b < base)
  th : d.c.th = ths.map fun x => x % 40
  u8 : ∀ x, x ∈ ths -> x < 256
  big : d.c.o.length <= 200 /\ ths.length <= 6
  ib : iBs.length = ths.length
  ibx : ∀ (j b : Nat), iBs[j]? = some b -> d.hN[b]? = some (.cells #[.int .i64 (j : Int)] 3 (0, 0)) /\ ∀ k, b ≠ d.D k
  bods : SliceO d.hN bv 45 1 (1 + ths.length) ((ownV d bx bd bget :: iBs.map fun b => thfV d bx bd bget b).map fun q => .func (.func q.1) #[] q.2)
section
variable {d : D1} {base cap : Nat} {rest : List Value} {bx bd bg bget : Nat} {bs : Int} {oS tS pS bv : Value} {ths iBs : List Nat} {picks : List Int}
theorem OPre.cell (x : OPre d base cap rest bx bd bg bget bs oS tS pS bv ths iBs picks) {k : Nat} (h2 : 2 <= k) (hk : k < 4 + d.c.n) : d.hN[d.c.B k]? = some (cellO (d.v0 (d.c.B k))) := by
  rw [x.v0 k h2 hk]; exact deq_cell x.rep h2 hk rfl
theorem OPre.ok (x : OPre d base cap rest bx bd bg bget bs oS tS pS bv ths iBs picks) : d.c.Ok :=
  ⟨x.hn, x.he, fun j k j2 jn k2 kn e => x.rep.inj j k (show j < 4 + d.c.n from jn) (show k < 4 + d.c.n from kn) e, by have := x.big.1; omega⟩
theorem OPre.notC (x : OPre d base cap rest bx bd bg bget bs oS tS pS bv ths iBs picks) {y : Nat} {a : Array Value} {t : TypeId} (hy : d.hN[y]? = some (.cells a t (0, 0))) (ht : t ≠ 317) : ¬ d.isC y := by
  rintro ⟨k, h2, hk, rfl⟩
  rw [x.cell h2 hk] at hy
  injection hy with hy
  injection hy with _ hy _
  exact ht hy.symm
theorem OPre.hD (x : OPre d base cap rest bx bd bg bget bs oS tS pS bv ths iBs picks) (k : DNm) : ¬ d.isC (d.D k) := by
  have h := x.vs.has k trivial
  cases k <;> exact x.notC h (by decide)
theorem OPre.neD (x : OPre d base cap rest bx bd bg bget bs oS tS pS bv ths iBs picks) {y : Nat} {a : Array Value} {t : TypeId} (hy : d.hN[y]? = some (.cells a t (0, 0))) (t1 : t ≠ 4) (t2 : t ≠ 64) (t3 : t ≠ 2) (t4 : t ≠ 3) (k : DNm) : y ≠ d.D k := by
  rintro rfl
  have h := x.vs.has k trivial
  change d.hN[d.D k]? = _ at h
  rw [hy] at h
  injection h with h
  cases k <;> (injection h with _ h _; first | exact t1 h | exact t2 h | exact t3 h | exact t4 h)
theorem OPre.nb (x : OPre d base cap rest bx bd bg bget bs oS tS pS bv ths iBs picks) {y : Nat} {a : Array Value} {t : TypeId} (hy : d.hN[y]? = some (.cells a t (0, 0))) (h1 : t ≠ 45) : ¬ d.ex y := fun e => sliceO_ne x.bods hy (Ne.symm h1) y ((x.ex y).1 e) rfl
theorem OPre.old (x : OPre d base cap rest bx bd bg bget bs oS tS pS bv ths iBs picks) {y : Nat} {a : Array Value} {t : TypeId} (hy : d.hN[y]? = some (.cells a t (0, 0))) (h0 : t ≠ 317) (h1 : t ≠ 45) (hD : ∀ k, y ≠ d.D k) : d.old y := ⟨lt_of_get hy, x.notC hy h0, x.nb hy h1, hD⟩
theorem OPre.low (x : OPre d base cap rest bx bd bg bget bs oS tS pS bv ths iBs picks) (hb : base <= d.hN.size) {y : Nat} (hy : y < base) : d.old y :=
  ⟨by omega, fun ⟨k, _, hk, e⟩ => by have := x.lowB k hk; omega, fun e => by have := x.lowb y ((x.ex y).1 e); omega, fun k e => by have := x.lowD k; omega⟩
theorem OPre.apart (x : OPre d base cap rest bx bd bg bget bs oS tS pS bv ths iBs picks) {y : Nat} {a : Array Value} {t : TypeId} (hy : d.hN[y]? = some (.cells a t (0, 0))) (t1 : t ≠ 4) (t2 : t ≠ 64) (t3 : t ≠ 2) (t4 : t ≠ 3) (t5 : t ≠ 317) (t6 : t ≠ 236) (t7 : t ≠ 220) : ¬ ((∃ k, y = d.D k) \/ ∃ k, k < 4 + d.c.n /\ y = d.c.B k) := by
  rintro (⟨k, e⟩ | ⟨k, hk, rfl⟩)
  · exact x.neD hy t1 t2 t3 t4 k e
  · have h1 : d.hN[d.c.B k]? = some (if k = 0 then _ else if k = 1 then _ else _) := x.rep.has k hk
    rw [hy] at h1
    by_cases k0 : k = 0
    · rw [if_pos k0] at h1
      injection h1 with h1
      injection h1 with _ h1 _
      exact t6 h1
    · by_cases k1 : k = 1
      · rw [if_neg k0, if_pos k1] at h1
        injection h1 with h1
        injection h1 with _ h1 _
        exact t7 h1
      · rw [if_neg k0, if_neg k1] at h1
        injection h1 with h1
        injection h1 with _ h1 _
        exact t5 h1
theorem denv_of (x : OPre d base cap rest bx bd bg bget bs oS tS pS bv ths iBs picks) (hb : base <= d.hN.size) : DEnv d cap rest bx bd bg bget d.c.F bs oS tS pS ths := by
  have o0 : d.hN[d.c.B 0]? = some (.cells #[ptr (d.c.B 2), ptr (d.c.B 3), .slice (some ⟨d.c.B 1, 0, none⟩) d.c.n cap] 236 (0, 0)) := x.rep.get (k := 0) (show 0 < 4 + d.c.n by omega) rfl
  have o1 : d.hN[d.c.B 1]? = some (.cells (((List.range d.c.n).map fun j => ptr (d.c.B (4 + j))) ++ rest).toArray 220 (0, 0)) := x.rep.get (k := 1) (show 1 < 4 + d.c.n by omega) rfl
  have q0 : d.old (d.c.B 0) := x.old o0 (by decide) (by decide) (x.neD o0 (by decide) (by decide) (by decide) (by decide))
  have q1 : d.old (d.c.B 1) := x.old o1 (by decide) (by decide) (x.neD o1 (by decide) (by decide) (by decide) (by decide))
  have hpos := x.ok.pos
  refine ⟨x.ok, x.hD, ⟨gcD_ok x.hD, usN_prog, fun u h I => ?_, fun i u => nrefl, fun T ext g => usN_j (c := gcD d) T g nofun ext trivial⟩, ⟨fun k h1 h2 => ⟨k, h1, h2, rfl⟩, x.hn, x.he⟩, ?_, ?_,
    ⟨x.old x.x (by decide) (by decide) (x.neD x.x (by decide) (by decide) (by decide) (by decide)), x.x⟩, ⟨x.old x.dq (by decide) (by decide) (x.neD x.dq (by decide) (by decide) (by decide) (by decide)), x.dq⟩, ⟨x.old x.g (by decide) (by decide) (x.neD x.g (by decide) (by decide) (by decide) (by decide)), x.g⟩, ⟨x.old x.get (by decide) (by decide) (x.neD x.get (by decide) (by decide) (by decide) (by decide)), x.get⟩,
    ⟨x.own.1, fun h b hb' => x.low hb (x.own.2 h b hb')⟩, ⟨x.thf.1, fun h b hb' => x.low hb (x.thf.2 h b hb')⟩, x.th, x.u8, x.big⟩
  · have I' : DMI d u.1 u.2 h := I
    exact ⟨(I'.old _ q0).trans o0, (I'.old _ q1).trans o1⟩
  · rw [x.v0 2 (by omega) (by omega), if_pos (by omega), x.F]
  · rw [x.v0 3 (by omega) (by omega), if_pos (by omega), x.F]
theorem obody0 (x : OPre d base cap rest bx bd bg bget bs oS tS pS bv ths iBs picks) (hb : base <= d.hN.size) : Body (XD d) 0 (ownV d bx bd bget).1 (ownV d bx bd bget).2 := by
  intro h γ T hbn ho
  have E := denv_of x hb
  have ht : toldOf 0 γ.p.u.1 = [] := by
    obtain ⟨p, -, hp⟩ := T.Q 0
    rw [hbn] at hp
    exact hp
  have hp0 : (d.s γ.p.u.1).pushed = 0 := by
    have hne : ∀ y, y ∈ γ.p.u.1 -> y.1 ≠ 0 := fun y hy e => by
      have : y.2 ∈ toldOf 0 γ.p.u.1 := List.mem_map.2 ⟨y, List.mem_filter.2 ⟨hy, by simpa using e⟩, rfl⟩
      rw [ht] at this; cases this
    have := (dfold_other (lone := d.c.lone) (g := []) hne).1 rfl
    exact this
  have a0 : AtP (XD d) (onceP d.c.n d.c.B d.c.o d.c.th) (dtold d) 0 γ γ.p.u [] h (ownP d.c.n d.c.B d.c.o (d.s γ.p.u.1).pushed) := by
    rw [hp0]
    exact ⟨T, Res.born E.K.prog T hbn ho ht, nrefl⟩
  refine (down_T E a0 rfl).conseqP ?_
  rintro w h' δ' ⟨γ', u', rfl, -, al, at_⟩
  exact ⟨γ', u', [], rfl, al, at_.thr, Res.over E.K.prog at_.res, usN_j (c := gcD d) at_.thr at_.res nofun at_.ext trivial⟩
theorem obody1 (x : OPre d base cap rest bx bd bg bget bs oS tS pS bv ths iBs picks) (hb : base <= d.hN.size) {i iB w : Nat} (hi : iBs[i]? = some iB) (hw : ths[i]? = some w) : Body (XD d) (i + 1) (thfV d bx bd bget iB).1 (thfV d bx bd bget iB).2 := by
  intro h γ T hbn ho
  have E := denv_of x hb
  have ht : toldOf (i + 1) γ.p.u.1 = [] := by
    obtain ⟨p, -, hp⟩ := T.Q (i + 1)
    rw [hbn] at hp
    exact hp
  have eP : onceP d.c.n d.c.B d.c.o d.c.th (i + 1) = thfP d.c.n d.c.B (w % 40) := by
    show (match d.c.th[i]? with | some k => thfP d.c.n d.c.B k | none => .done) = _
    rw [x.th, List.getElem?_map, hw]; rfl
  have a0 : AtP (XD d) (onceP d.c.n d.c.B d.c.o d.c.th) (dtold d) (i + 1) γ γ.p.u [] h (thfP d.c.n d.c.B (w % 40)) := by
    rw [<- eP]
    exact ⟨T, Res.born E.K.prog T hbn ho ht, nrefl⟩
  obtain ⟨r1, r2⟩ := x.ibx i iB hi
  refine (dthf_T E ⟨x.old r1 (by decide) (by decide) r2, r1⟩ hw a0 rfl).conseqP ?_
  rintro w h' δ' ⟨γ', u', rfl, -, al, at_⟩
  exact ⟨γ', u', [], rfl, al, at_.thr, Res.over E.K.prog at_.res, usN_j (c := gcD d) at_.thr at_.res nofun at_.ext trivial⟩
theorem log_sum {nb : Nat} : ∀ {l : List Ev}, (∀ e, e ∈ l -> e.thr < nb) -> l.length = ((List.range nb).map fun i => (ownOf i l).length).sum
  | [], _ => by
    have z : ∀ n, ((List.range n).map fun _ => 0).sum = 0 := fun n => by
      induction n with
      | zero => rfl
      | succ n ih => rw [List.range_succ, List.map_append, List.sum_append, ih]; rfl
    exact (z nb).symm
  | e :: l, h => by
    have ih := log_sum (l := l) fun x hx => h x (List.mem_cons_of_mem _ hx)
    have he := h e List.mem_cons_self
    have key : ∀ n, ((List.range n).map fun i => (ownOf i (e :: l)).length).sum = ((List.range n).map fun i => (ownOf i l).length).sum + if e.thr < n then 1 else 0 := by
      intro n
      induction n with
      | zero => simp
      | succ n ihn =>
        rw [List.range_succ, List.map_append, List.sum_append, List.map_append, List.sum_append, ihn]
        have e1 : (ownOf n (e :: l)).length = (ownOf n l).length + if e.thr = n then 1 else 0 := by
          unfold ownOf
          rw [List.filter_cons]
          by_cases q : e.thr = n
          · simp [q]
          · simp [q]
        simp only [List.map_cons, List.map_nil, List.sum_cons, List.sum_nil, e1]
        by_cases q : e.thr = n
        · rw [if_pos q, if_neg (by omega), if_pos (by omega)]; omega
        · by_cases q2 : e.thr < n
          · rw [if_neg q, if_pos q2, if_pos (by omega)]; omega
          · rw [if_neg q, if_neg q2, if_neg (by omega)]; omega
    rw [key, if_pos he, <- ih]; rfl
structure OEnd (d : D1) (cap : Nat) (rest : List Value) (A : DA) (mv : Value) (val : Nat -> Int) (h : Hp) : Prop where
  hand : A.hand = none
  G : DG d.c A
  sl : A.sl = slv d.c val
  v2 : val (d.c.B 2) = W64 (d.c.F + A.t)
  v3 : val (d.c.B 3) = W64 (d.c.F + A.b)
  cnt : DCnt A.s
  vs : Rep h (dM d.ml d.D (QS.of A.s mv))
  rep : Rep h (deqM d.c.n cap rest d.c.B fun k => val (d.c.B k))
theorem sum_le {f : Nat -> Nat} {b : Nat} : ∀ n, (∀ i, i < n -> f i <= b) -> ((List.range n).map f).sum <= n * b
  | 0, _ => by simp
  | n + 1, h => by
    have ih := sum_le n fun i hi => h i (by omega)
    have := h n (by omega)
    rw [List.range_succ, List.map_append, List.sum_append]
    simp only [List.map_cons, List.map_nil, List.sum_cons, List.sum_nil]
    rw [Nat.succ_mul]
    omega
theorem once_in (c : DP) (ho : c.o.length <= 200) (ht : ∀ x, x ∈ c.th -> x <= 40) : ∀ i, Within 1200 (onceP c.n c.B c.o c.th i)
  | 0 => (own_in _ _ _ _).mono (by omega)
  | i + 1 => by
    show Within 1200 (match c.th[i]? with | some k => thfP c.n c.B k | none => .done)
    cases e : c.th[i]? with
    | none => unfold Within; trivial
    | some k =>
      have := ht k (List.mem_of_getElem? e)
      exact (thf_in _ _ k).mono (by omega)
set_option maxRecDepth 8000 in
set_option maxHeartbeats 4000000 in
theorem orun_ok (x : OPre d base cap rest bx bd bg bget bs oS tS pS bv ths iBs picks) (hb : base <= d.hN.size) :
    CallW Try.prog true (SwS Try.prog) 17 #[pS, .int .i64 16384, bv] d.hN ⟨0, 1⟩ (Ret fun v h' δ' => (∃ m, δ' = ⟨0, m⟩) /\ ∃ (lL lW lY lV mv : Value) (n : Nat) (A : DA) (val : Nat -> Int), v = .agg (repL 1 n lL lW lY lV).toArray /\
      ((∃ a n k, lL = .slice a n k) /\ (∃ a n k, lW = .slice a n k) /\ (∃ a n k, lY = .slice a n k) /\ (∃ a n k, lV = .slice a n k)) /\ OEnd d cap rest A mv val h' /\ d.hN.size <= h'.size /\ ∀ b, d.old b -> h'[b]? = d.hN[b]?) := by
  have E := denv_of x hb
  have hX : (XD d).Ok := E.K.ok
  let u0 : (XD d).U := ([], nilS)
  have hnb : ∀ c, blk bv = some c -> ∀ k, c ≠ d.D k := fun c hc k e => by
    have h := x.vs.has k trivial
    change d.hN[d.D k]? = _ at h
    cases k <;> exact sliceO_ne x.bods h (by decide) c hc e
  have hnD : ∀ c, (XD d).Dom u0 c -> d.old c \/ ∃ k, c = d.D k := fun c hc => hc.elim .inl fun y => y.elim .inr fun y => (by cases y.2)
  have lb : (ownV d bx bd bget :: iBs.map fun b => thfV d bx bd bget b).length = 1 + ths.length := by rw [List.length_cons, List.length_map, x.ib]; omega
  have hth6 := x.big.2
  have hI0 : DMI d [] nilS d.hN := ⟨fun _ _ => rfl, x.vs, SliceO.nil, fun b e => (by cases e)⟩
  have hrun := runG (X := XD d) (γ := ⟨psZ 0 0 d.v0 u0, psZ 0 0 d.v0 u0, d.hN, fun _ => False, 0⟩) (h := d.hN) hX (v0 := d.v0) (u0 := u0) (picks := picks) (m := 16384) (bods := ownV d bx bd bget :: iBs.map fun b => thfV d bx bd bget b) (sP := pS) (sB := bv) rfl (by decide) (by decide)
    (fun b hb => by
      obtain ⟨k, h2, hk, rfl⟩ := hb
      exact x.cell h2 hk)
    (fun b hb => (hnD b hb).elim (fun y => y.1) fun ⟨k, e⟩ => e ▸ x.vs.lt (k := k) trivial) hI0 ⟨⟨_, .init⟩, trivial⟩ (fun i => ⟨_, .nil _, rfl⟩) (by rw [lb]; omega)
    (by rw [lb]; exact x.bods)
    (fun c hc => ⟨fun ⟨k, h2, hk, e⟩ => sliceO_ne x.bods (x.cell h2 hk) (by decide) c hc e, fun hd => (hnD c hd).elim (fun y => y.2.2.1 ((x.ex c).2 hc)) fun ⟨k, e⟩ => hnb c hc k e⟩)
    (fun u h' I _ => x.pk.1.low fun hv b hb' => DMI.old (show DMI d u.1 u.2 h' from I) b (x.low hb (x.pk.2 (fun e => hv (by rw [e]; rfl)) b hb')))
    (fun k q hq => by
      cases k with
      | zero => obtain rfl := Option.some.inj hq; exact ⟨inferInstance, obody0 x hb⟩
      | succ k =>
        have hq' : (iBs.map fun b => thfV d bx bd bget b)[k]? = some q := hq
        rw [List.getElem?_map] at hq'
        obtain ⟨b, hbk, rfl⟩ := Option.map_eq_some_iff.1 hq'
        have hk : k < ths.length := by rw [<- x.ib]; exact (List.getElem?_eq_some_iff.1 hbk).1
        exact ⟨inferInstance, obody1 x hb hbk (List.getElem?_eq_getElem hk)⟩)
  refine CallW.sw (px_ok hX) rfl (hrun.mono ?_)
  rintro (v | ps) h' δ' y
  · obtain ⟨γ', p, e, lL, lW, lY, lV, rfl, h1, h2, rfl, En, up⟩ := y
    refine ⟨rfl, h2, ⟨_, rfl⟩, ?_⟩
    rw [lb] at En
    have En' : Ended (XD d) d.v0 picks (1 + ths.length) 16384 p e lL lW lY lV h' := En
    obtain ⟨⟨S, R⟩, -⟩ := En'.J
    have hgo : ∀ i, ∃ q, Goes i (onceP d.c.n d.c.B d.c.o d.c.th i) (ownOf i p.log) (toldOf i p.u.1) q /\ (match p.st i with | .born => toldOf i p.u.1 = [] | .stands r => ∃ k, q = .step r k | .over => q = .done) := fun i => En'.Q i
    have hlog : p.log.length <= 7 * 1200 := by
      rw [log_sum (nb := 1 + ths.length) fun e he => by
        obtain ⟨k, hk, rfl⟩ := List.mem_iff_getElem.1 he
        have := (En'.reg.turns k _ (List.getElem?_eq_getElem hk)).2.2
        have := List.mem_range.1 (List.mem_filter.1 this).1
        rw [En'.reg.num] at this
        exact this]
      refine Nat.le_trans (sum_le (b := 1200) _ fun i _ => ?_) (Nat.mul_le_mul_right _ (by omega))
      obtain ⟨q, hq, -⟩ := hgo i
      exact Within.goes hq (once_in d.c x.big.1 (fun y hy => by
        rw [x.th] at hy
        obtain ⟨z, -, rfl⟩ := List.mem_map.1 hy
        have := Nat.mod_lt z (show 0 < 40 by decide)
        omega) i)
    obtain ⟨rfl, hlive, -⟩ : e = 1 /\ p.live (1 + ths.length) = [] /\ p.log.length <= (16384 : Int).toNat := by
      rcases En'.how with z | z
      · exact z
      · have := z.2.2
        omega
    have hS0 : S 0 = .done := by
      obtain ⟨q, hq, hs⟩ := hgo 0
      rcases En'.reg.alive 0 (by omega) with ⟨a1, -⟩ | ⟨a1, a2⟩
      · have : 0 ∈ p.live (1 + ths.length) := mem_live.2 ⟨by omega, a1⟩
        rw [hlive] at this; cases this
      · rw [a2] at hs
        subst hs
        exact R.left hq nofun
    obtain ⟨A, oc, tc, I⟩ := dinv_all x.ok E.v2 E.v3 R
    have hoc : bcl A.b oc = A.b /\ A.hand = none := by
      have := I.own
      rw [hS0] at this
      cases oc with
      | raw l p => exact ⟨rfl, I.O.2.1⟩
      | at0 l p => exact ⟨rfl, I.O.2.1⟩
      | _ => cases this
    have IM : DMI d p.u.1 p.u.2 h' := En'.I
    obtain ⟨aw, kw, ew⟩ := En'.went.val
    obtain ⟨ay, ky, ey⟩ := En'.rdy.val
    obtain ⟨av, kv, ev⟩ := En'.left.val
    obtain ⟨al, kl, el⟩ := En'.log.val
    have o0 : d.hN[d.c.B 0]? = some (.cells #[ptr (d.c.B 2), ptr (d.c.B 3), .slice (some ⟨d.c.B 1, 0, none⟩) d.c.n cap] 236 (0, 0)) := x.rep.get (k := 0) (show 0 < 4 + d.c.n by omega) rfl
    have o1 : d.hN[d.c.B 1]? = some (.cells (((List.range d.c.n).map fun j => ptr (d.c.B (4 + j))) ++ rest).toArray 220 (0, 0)) := x.rep.get (k := 1) (show 1 < 4 + d.c.n by omega) rfl
    refine ⟨lL, lW, lY, lV, p.u.2, p.log.length, A, p.val, rfl, ⟨⟨_, _, _, el⟩, ⟨_, _, _, ew⟩, ⟨_, _, _, ey⟩, ⟨_, _, _, ev⟩⟩, ⟨hoc.2, I.G, I.sl, I.v2, by rw [I.v3, hoc.1], by rw [I.s]; exact dcnt, by rw [I.s]; exact IM.rep, ⟨fun k hk => ?_, x.rep.inj⟩⟩, up.size, fun b hb' => IM.old b hb'⟩
    have hk' : k < 4 + d.c.n := hk
    show h'[d.c.B k]? = some (if k = 0 then _ else if k = 1 then _ else cellO (p.val (d.c.B k)))
    by_cases k0 : k = 0
    · subst k0; rw [if_pos rfl]
      exact (IM.old _ (x.old o0 (by decide) (by decide) (x.neD o0 (by decide) (by decide) (by decide) (by decide)))).trans o0
    · by_cases k1 : k = 1
      · subst k1; rw [if_neg k0, if_pos rfl]
        exact (IM.old _ (x.old o1 (by decide) (by decide) (x.neD o1 (by decide) (by decide) (by decide) (by decide)))).trans o1
      · rw [if_neg k0, if_neg k1]
        exact En'.cel (d.c.B k) ⟨k, by omega, hk', rfl⟩
  · exact y.elim
end
end
section
open Go Go.TJ Go.Proofs
section
variable {Γ : Type} {main : Bool} {S : Sit Γ} {δ : Ix Γ} {h : Hp} {n cap : Nat} {rest : List Value} {B : Nat -> Nat} {v : Nat -> Int}
set_option maxRecDepth 8000 in
set_option maxHeartbeats 1000000 in
theorem dpop_empty2 {T : Int} (r : Rep h (deqM n cap rest B v)) (hT : v 2 = W64 T) (hb : v 3 = W64 T) (hS : DFree S δ.g n B) :
    CallW Try.prog main S 42 #[ptr (B 0), .pointer none] h δ (Ret fun w h' δ' => w = .tuple #[.int .i64 0, .bool false] /\ δ' = δ /\ (∃ v', v' 2 = W64 T /\ v' 3 = W64 T /\ Rep h' (deqM n cap rest B v')) /\ Upd (fun b => ∃ k, k < 4 + n /\ b = B k) h h') := by
  have ct := deq_top r
  have cb := deq_bot r
  have hs : W64 (W64 (T - 1) - W64 T) = -1 := by rw [w_sub, show T - 1 - T = -1 by omega]; exact w_small (by omega) (by omega)
  refine CallW.start (n := 74) rfl rfl ?_
  (repeat (first | refine EK.seq ?_ | refine EK.region ?_ | refine ER.done ?_ | refine ER.move rfl rfl rfl ?_ | refine ER.assign rfl rfl rfl ?_))
  refine ER.callD rfl rfl rfl rfl rfl (dnone_ok ct) ?_
  (repeat (first | refine EK.seq ?_ | refine EK.region ?_ | refine ER.done ?_ | refine EK.skip ?_ | refine ER.move rfl rfl rfl ?_ | refine ER.nilCheck rfl rfl rfl ?_ | refine ER.fieldAddr rfl rfl rfl ?_ | refine EK.condF rfl ?_ | refine ER.load1 rfl rfl rfl (by assumption) ?_))
  refine ER.callD rfl rfl rfl rfl rfl (cload (deq_cell r (k := 3) (by omega) (by omega) hb)) ?_
  refine ER.sub' (r := W64 (T - 1)) rfl rfl rfl rfl w_sub1 ?_
  (repeat (first | refine EK.seq ?_ | refine EK.region ?_ | refine ER.done ?_ | refine ER.move rfl rfl rfl ?_ | refine ER.assign rfl rfl rfl ?_ | refine ER.nilCheck rfl rfl rfl ?_ | refine ER.fieldAddr rfl rfl rfl ?_ | refine ER.load1 rfl rfl rfl (by assumption) ?_))
  refine ER.callD rfl rfl rfl rfl rfl (cstore (deq_cell r (k := 3) (by omega) (by omega) rfl) (fun o => hS _ o (by omega))) ?_
  have r1 := deq_set r (k := 3) (by omega) (by omega) (W64 (T - 1))
  have u1 := Upd.set (T := fun b => ∃ k, k < 4 + n /\ b = B k) h (B 3) (cellO (W64 (T - 1))) ⟨_, by omega, rfl⟩
  have hT1 : ut v 3 (W64 (T - 1)) 2 = W64 T := by rw [ut_ne _ _ (by omega), hT]
  clear ct cb hT hb
  generalize h.setIfInBounds (B 3) (cellO (W64 (T - 1))) = h1 at r1 u1 ⊢
  generalize ut v 3 (W64 (T - 1)) = v1 at r1 hT1
  have ct := deq_top r1
  have cb := deq_bot r1
  (repeat (first | refine EK.seq ?_ | refine EK.region ?_ | refine ER.done ?_ | refine ER.move rfl rfl rfl ?_ | refine ER.nilCheck rfl rfl rfl ?_ | refine ER.fieldAddr rfl rfl rfl ?_ | refine ER.load1 rfl rfl rfl (by assumption) ?_))
  refine ER.callD rfl rfl rfl rfl rfl (cload (deq_cell r1 (k := 2) (by omega) (by omega) hT1)) ?_
  (repeat (first | refine EK.seq ?_ | refine EK.region ?_ | refine ER.done ?_ | refine ER.move rfl rfl rfl ?_ | refine ER.assign rfl rfl rfl ?_))
  refine ER.sub' (r := -1) rfl rfl rfl rfl hs ?_
  (repeat (first | refine EK.seq ?_ | refine EK.region ?_ | refine ER.done ?_ | refine ER.move rfl rfl rfl ?_ | refine ER.nilCheck rfl rfl rfl ?_ | refine ER.fieldAddr rfl rfl rfl ?_ | refine ER.cmpT rfl rfl rfl rfl rfl (by first | (dsimp only [cmpP]; omega) | exact rfl | exact Int.le_refl _) ?_ | refine EK.condT rfl ?_ | refine ER.load1 rfl rfl rfl (by assumption) ?_))
  refine ER.add (r := W64 T) rfl rfl rfl rfl (by show W64 (W64 (T - 1) + 1) = _; rw [w_add1, show T - 1 + 1 = T by omega]) ?_
  refine ER.callD rfl rfl rfl rfl rfl (cstore (deq_cell r1 (k := 3) (by omega) (by omega) rfl) (fun o => hS _ o (by omega))) ?_
  have r3 := deq_set r1 (k := 3) (by omega) (by omega) (W64 T)
  have u3 := Upd.set (T := fun b => ∃ k, k < 4 + n /\ b = B k) h1 (B 3) (cellO (W64 T)) ⟨_, by omega, rfl⟩
  (repeat (first | refine EK.seq ?_ | refine EK.region ?_ | refine ER.done ?_ | refine ER.assign rfl rfl rfl ?_ | refine EK.ret ?_))
  exact EU.ret2 rfl rfl rfl ⟨rfl, rfl, ⟨_, (ut_ne _ _ (by omega)).trans hT1, ut_same _ _ _, r3⟩, u1.trans u3⟩
set_option maxRecDepth 8000 in
set_option maxHeartbeats 1000000 in
theorem dpop_more {e c : Nat} {T x : Int} (r : Rep h (deqM n cap rest B v)) (hn : n = 2 ^ e) (he : e <= 12) (hT : v 2 = W64 T) (hb : v 3 = W64 (T + c)) (hc : 2 <= c) (hc1 : c <= 4096) (hx : v (4 + slot n (T + c - 1)) = x) (hS : DFree S δ.g n B) :
    CallW Try.prog main S 42 #[ptr (B 0), .pointer none] h δ (Ret fun w h' δ' => w = .tuple #[.int .i64 x, .bool true] /\ δ' = δ /\ Rep h' (deqM n cap rest B (ut v 3 (W64 (T + c - 1)))) /\ Upd (fun b => ∃ k, k < 4 + n /\ b = B k) h h') := by
  have hpos : 0 < n := by rw [hn]; exact Nat.two_pow_pos e
  have hlt := slot_lt hpos (T + c - 1)
  have ct := deq_top r
  have cb := deq_bot r
  have hs : W64 (W64 (T + c - 1) - W64 T) = (c : Int) - 1 := by rw [w_sub, show T + c - 1 - T = (c : Int) - 1 by omega]; exact w_small (by omega) (by omega)
  refine CallW.start (n := 74) rfl rfl ?_
  (repeat (first | refine EK.seq ?_ | refine EK.region ?_ | refine ER.done ?_ | refine ER.move rfl rfl rfl ?_ | refine ER.assign rfl rfl rfl ?_))
  refine ER.callD rfl rfl rfl rfl rfl (dnone_ok ct) ?_
  (repeat (first | refine EK.seq ?_ | refine EK.region ?_ | refine ER.done ?_ | refine EK.skip ?_ | refine ER.move rfl rfl rfl ?_ | refine ER.nilCheck rfl rfl rfl ?_ | refine ER.fieldAddr rfl rfl rfl ?_ | refine EK.condF rfl ?_ | refine ER.load1 rfl rfl rfl (by assumption) ?_))
  refine ER.callD rfl rfl rfl rfl rfl (cload (deq_cell r (k := 3) (by omega) (by omega) hb)) ?_
  refine ER.sub' (r := W64 (T + c - 1)) rfl rfl rfl rfl w_sub1 ?_
  (repeat (first | refine EK.seq ?_ | refine EK.region ?_ | refine ER.done ?_ | refine ER.move rfl rfl rfl ?_ | refine ER.assign rfl rfl rfl ?_ | refine ER.nilCheck rfl rfl rfl ?_ | refine ER.fieldAddr rfl rfl rfl ?_ | refine ER.load1 rfl rfl rfl (by assumption) ?_))
  refine ER.callD rfl rfl rfl rfl rfl (cstore (deq_cell r (k := 3) (by omega) (by omega) rfl) (fun o => hS _ o (by omega))) ?_
  have r1 := deq_set r (k := 3) (by omega) (by omega) (W64 (T + c - 1))
  have u1 := Upd.set (T := fun b => ∃ k, k < 4 + n /\ b = B k) h (B 3) (cellO (W64 (T + c - 1))) ⟨_, by omega, rfl⟩
  have hT1 : ut v 3 (W64 (T + c - 1)) 2 = W64 T := by rw [ut_ne _ _ (by omega), hT]
  have hx1 : ut v 3 (W64 (T + c - 1)) (4 + slot n (T + c - 1)) = x := by rw [ut_ne _ _ (by omega), hx]
  clear ct cb hT hb hx
  generalize h.setIfInBounds (B 3) (cellO (W64 (T + c - 1))) = h1 at r1 u1 ⊢
  generalize ut v 3 (W64 (T + c - 1)) = v1 at r1 hT1 hx1 ⊢
  have ct := deq_top r1
  have cb := deq_bot r1
  (repeat (first | refine EK.seq ?_ | refine EK.region ?_ | refine ER.done ?_ | refine ER.move rfl rfl rfl ?_ | refine ER.nilCheck rfl rfl rfl ?_ | refine ER.fieldAddr rfl rfl rfl ?_ | refine ER.load1 rfl rfl rfl (by assumption) ?_))
  refine ER.callD rfl rfl rfl rfl rfl (cload (deq_cell r1 (k := 2) (by omega) (by omega) hT1)) ?_
  (repeat (first | refine EK.seq ?_ | refine EK.region ?_ | refine ER.done ?_ | refine ER.move rfl rfl rfl ?_ | refine ER.assign rfl rfl rfl ?_))
  refine ER.sub' (r := (c : Int) - 1) rfl rfl rfl rfl hs ?_
  (repeat (first | refine EK.seq ?_ | refine EK.region ?_ | refine ER.done ?_ | refine EK.skip ?_ | refine ER.move rfl rfl rfl ?_ | refine ER.cmpF rfl rfl rfl rfl rfl (by first | (dsimp only [cmpP]; omega) | exact rfl | exact Int.le_refl _) ?_ | refine EK.condF rfl ?_))
  refine ER.callD rfl rfl rfl rfl rfl (dat_ok r1 hn he) ?_
  rw [slot_w hn he]
  (repeat refine ER.move rfl rfl rfl ?_)
  refine ER.callD rfl rfl rfl rfl rfl (cload (deq_cell r1 (k := 4 + slot n (T + c - 1)) (by omega) (by omega) hx1)) ?_
  (repeat (first | refine EK.seq ?_ | refine EK.region ?_ | refine ER.done ?_ | refine ER.move rfl rfl rfl ?_ | refine ER.assign rfl rfl rfl ?_))
  refine ER.sub' (r := (c : Int) - 1) rfl rfl rfl rfl hs ?_
  (repeat (first | refine EK.seq ?_ | refine EK.region ?_ | refine ER.done ?_ | refine ER.move rfl rfl rfl ?_ | refine ER.assign rfl rfl rfl ?_ | refine ER.cmpT rfl rfl rfl rfl rfl (by first | (dsimp only [cmpP]; omega) | exact rfl | exact Int.le_refl _) ?_ | refine EK.condT rfl ?_ | refine EK.ret ?_))
  exact EU.ret2 rfl rfl rfl ⟨rfl, rfl, r1, u1⟩
end
end
section
open Go Go.TJ Go.Proofs
end
section
open Go Go.TJ Go.Conc Go.Proofs
section
variable {Γ : Type} {main : Bool} {S : Sit Γ} {δ : Ix Γ}
set_option maxRecDepth 8000 in
set_option maxHeartbeats 4000000 in
theorem gworks_ok {h : Hp} : CallW Try.prog main NoS 31 #[] h δ (Ret fun w h' δ' => w = .bool true /\ Upd (fun _ => False) h h' /\ δ' = δ) := by
  refine CallW.start (n := 71) rfl rfl ?_
  (repeat (first | refine EK.seq ?_ | refine EK.region ?_ | refine ER.done ?_ | refine ER.assign rfl rfl rfl ?_))
  refine ER.callR rfl rfl rfl rfl rfl (deqnew_ok (n := 2) (e := 1) (f := 9223372036854775807) rfl (by omega) (by omega) (fun _ _ _ x => x)) ?_
  rintro _ h1 δ1 ⟨rfl, u1, cap, rest, B, rfl, r1, ab⟩
  have own : ∀ b, (∃ k, k < 4 + 2 /\ b = B k) -> h.size <= b := fun b ⟨k, hk, e⟩ => e ▸ ab k hk
  have df : DFree NoS δ1.g 2 B := fun _ _ _ x => x
  have wT : W64 9223372036854775807 = 9223372036854775807 := by decide
  have sl0 : slot 2 9223372036854775807 = 1 := by decide
  have sl1 : slot 2 9223372036854775808 = 0 := by decide
  generalize hv : (fun k => if k < 4 then (9223372036854775807 : Int) else 0) = v at r1
  have a2 : v 2 = W64 9223372036854775807 := by rw [<- hv, wT]; rfl
  have a3 : v 3 = W64 (9223372036854775807 + ((0 : Nat) : Int)) := by rw [<- hv]; exact wT.symm
  clear hv
  (repeat (first | refine EK.seq ?_ | refine EK.region ?_ | refine ER.done ?_ | refine ER.move rfl rfl rfl ?_ | refine ER.assign rfl rfl rfl ?_ | refine ER.eqV rfl rfl rfl rfl rfl ?_ | refine ER.pickF rfl rfl rfl rfl ?_ | refine ER.extract rfl rfl rfl rfl ?_ | refine ER.cmpF rfl rfl rfl rfl rfl (by first | (dsimp only [cmpP]; omega) | exact rfl | exact Int.le_refl _) ?_))
  refine ER.callR rfl rfl rfl rfl rfl (dpush_ok (e := 1) (c := 0) (T := 9223372036854775807) (x := 7) r1 rfl (by omega) a2 a3 (by omega) df) ?_
  rintro _ h2 δ2 ⟨rfl, rfl, r2, u2⟩
  replace u1 := u1.over u2 own
  rw [show (9223372036854775807 + ((0 : Nat) : Int)) = 9223372036854775807 by omega, sl0, show (9223372036854775807 + 1 : Int) = 9223372036854775808 by omega] at r2
  have b2 : ut (ut v (4 + 1) 7) 3 (W64 9223372036854775808) 2 = W64 9223372036854775807 := by rw [ut_ne _ _ (by omega), ut_ne _ _ (by omega), a2]
  have b3 : ut (ut v (4 + 1) 7) 3 (W64 9223372036854775808) 3 = W64 (9223372036854775807 + ((1 : Nat) : Int)) := by rw [ut_same]; rfl
  have b5 : ut (ut v (4 + 1) 7) 3 (W64 9223372036854775808) 5 = 7 := by rw [ut_ne _ _ (by omega)]; exact ut_same _ _ _
  clear a2 a3 u2 r1
  generalize ut (ut v (4 + 1) 7) 3 (W64 9223372036854775808) = v2 at r2 b2 b3 b5
  (repeat (first | refine ER.move rfl rfl rfl ?_ | refine ER.pickF rfl rfl rfl rfl ?_ | refine ER.cmpF rfl rfl rfl rfl rfl (by first | (dsimp only [cmpP]; omega) | exact rfl | exact Int.le_refl _) ?_))
  refine ER.callR rfl rfl rfl rfl rfl (dpush_ok (e := 1) (c := 1) (T := 9223372036854775807) (x := 8) r2 rfl (by omega) b2 b3 (by omega) df) ?_
  rintro _ h3 δ3 ⟨rfl, rfl, r3, u3⟩
  replace u1 := u1.over u3 own
  rw [show (9223372036854775807 + ((1 : Nat) : Int)) = 9223372036854775808 by omega, sl1, show (9223372036854775808 + 1 : Int) = 9223372036854775809 by omega] at r3
  have c2 : ut (ut v2 (4 + 0) 8) 3 (W64 9223372036854775809) 2 = W64 9223372036854775807 := by rw [ut_ne _ _ (by omega), ut_ne _ _ (by omega), b2]
  have c3 : ut (ut v2 (4 + 0) 8) 3 (W64 9223372036854775809) 3 = W64 (9223372036854775807 + ((2 : Nat) : Int)) := by rw [ut_same]; rfl
  have c4 : ut (ut v2 (4 + 0) 8) 3 (W64 9223372036854775809) 4 = 8 := by rw [ut_ne _ _ (by omega)]; exact ut_same _ _ _
  have c5 : ut (ut v2 (4 + 0) 8) 3 (W64 9223372036854775809) 5 = 7 := by rw [ut_ne _ _ (by omega), ut_ne _ _ (by omega), b5]
  clear b2 b3 b5 u3 r2
  generalize ut (ut v2 (4 + 0) 8) 3 (W64 9223372036854775809) = v3 at r3 c2 c3 c4 c5
  (repeat (first | refine ER.move rfl rfl rfl ?_ | refine ER.pickF rfl rfl rfl rfl ?_ | refine ER.cmpF rfl rfl rfl rfl rfl (by first | (dsimp only [cmpP]; omega) | exact rfl | exact Int.le_refl _) ?_))
  refine ER.callD rfl rfl rfl rfl rfl (dpush_full (e := 1) (c := 2) (T := 9223372036854775807) r3 rfl (by omega) c2 c3 (by omega) (by omega)) ?_
  (repeat (first | refine ER.move rfl rfl rfl ?_ | refine ER.pickF rfl rfl rfl rfl ?_ | refine ER.cmpF rfl rfl rfl rfl rfl (by first | (dsimp only [cmpP]; omega) | exact rfl | exact Int.le_refl _) ?_))
  refine ER.callD rfl rfl rfl rfl rfl (dlen_ok (c := 2) (T := 9223372036854775807) r3 c2 c3 (by omega)) ?_
  (repeat (first | refine EK.seq ?_ | refine EK.region ?_ | refine ER.done ?_ | refine EK.skip ?_ | refine ER.move rfl rfl rfl ?_ | refine ER.pickF rfl rfl rfl rfl ?_ | refine ER.cmpF rfl rfl rfl rfl rfl (by first | (dsimp only [cmpP]; omega) | exact rfl | exact Int.le_refl _) ?_ | refine EK.condF rfl ?_))
  refine ER.callR rfl rfl rfl rfl rfl (dsteal_ok (e := 1) (c := 2) (T := 9223372036854775807) (x := 7) r3 rfl (by omega) c2 c3 (by omega) (by omega) (by rw [sl0]; exact c5) df) ?_
  rintro _ h4 δ4 ⟨rfl, rfl, r4, u4⟩
  replace u1 := u1.over u4 own
  rw [show (9223372036854775807 + 1 : Int) = 9223372036854775808 by omega] at r4
  (repeat (first | refine EK.seq ?_ | refine EK.region ?_ | refine ER.done ?_ | refine ER.move rfl rfl rfl ?_ | refine ER.assign rfl rfl rfl ?_ | refine ER.extract rfl rfl rfl rfl ?_))
  refine ER.callR rfl rfl rfl rfl rfl (dpop_one (e := 1) (T := 9223372036854775808) (x := 8) r4 rfl (by omega) (ut_same _ _ _) (by rw [ut_ne _ _ (by omega), c3]; rfl) (by rw [sl1, ut_ne _ _ (by omega)]; exact c4) df) ?_
  rintro _ h5 δ5 ⟨rfl, rfl, ⟨v5, e2, e3, r5⟩, u5⟩
  replace u1 := u1.over u5 own
  (repeat (first | refine EK.seq ?_ | refine EK.region ?_ | refine ER.done ?_ | refine ER.move rfl rfl rfl ?_ | refine ER.assign rfl rfl rfl ?_ | refine ER.extract rfl rfl rfl rfl ?_))
  refine ER.callR rfl rfl rfl rfl rfl (dpop_empty r5 e2 e3 df) ?_
  rintro _ h6 δ6 ⟨rfl, rfl, u6⟩
  replace u1 := u1.over u6 own
  (repeat (first | refine EK.seq ?_ | refine EK.region ?_ | refine ER.done ?_ | refine ER.move rfl rfl rfl ?_ | refine ER.assign rfl rfl rfl ?_ | refine ER.notB rfl rfl rfl ?_ | refine ER.pickT rfl rfl rfl rfl ?_ | refine ER.extract rfl rfl rfl rfl ?_ | refine ER.cmpT rfl rfl rfl rfl rfl (by first | (dsimp only [cmpP]; omega) | exact rfl | exact Int.le_refl _) ?_ | refine EK.ret ?_))
  exact EU.ret1 rfl rfl ⟨rfl, u1, rfl⟩
end
end
section
open Go Go.TJ Go.Conc Go.Proofs
theorem pushes (h : Hp) : ∀ (l : List Obj), Upd (fun _ => False) h (l.foldl Array.push h) /\ (l.foldl Array.push h).size = h.size + l.length /\ ∀ i o, l[i]? = some o -> (l.foldl Array.push h)[h.size + i]? = some o := by
  intro l
  induction l generalizing h with
  | nil => exact ⟨Upd.refl _ _, rfl, fun i o hi => by cases hi⟩
  | cons a l ih =>
    obtain ⟨i1, i2, i3⟩ := ih (h.push a)
    refine ⟨(Upd.push _ _).trans i1, ?_, fun i o hi => ?_⟩
    · show (l.foldl Array.push (h.push a)).size = _
      rw [i2, Array.size_push, List.length_cons]; omega
    · show (l.foldl Array.push (h.push a))[h.size + i]? = _
      cases i with
      | zero =>
        have e : a = o := by simpa using hi
        subst e
        exact i1.get (get_push_new h a) (fun x => x)
      | succ i =>
        have := i3 i o (by simpa using hi)
        rw [Array.size_push] at this
        rw [show h.size + (i + 1) = h.size + 1 + i by omega]; exact this
section
variable {Γ : Type} {main : Bool} {S : Sit Γ} {δ : Ix Γ} {h h' : Hp} {N fr bs : Int}
theorem pow_le_12o {e : Nat} : 2 ^ e <= 4096 ↔ e <= 12 := by
  rw [show 4096 = 2 ^ 12 by decide]; exact Nat.pow_le_pow_iff_right (by decide)
set_option maxRecDepth 8000 in
set_option maxHeartbeats 4000000 in
theorem omay_ok : CallW Try.prog main S 98 #[.int .i64 N] h δ (Ret fun v h' δ' => h' = h /\ δ' = δ /\ ∃ b, v = .bool b /\ (b = true ↔ ∃ e : Nat, 1 <= e /\ e <= 12 /\ N = ((2 ^ e : Nat) : Int))) := by
  refine CallW.start (n := 11) rfl rfl ?_
  (repeat (first | refine EK.seq ?_ | refine EK.region ?_ | refine ER.done ?_ | refine EK.block ?_ | refine ER.assign rfl rfl rfl ?_))
  refine EK.loopInv (fun k : Nat => [(3, .int .i64 k), (2, .bool false), (0, .int .i64 N)]) (fun k h' δ' => h' = h /\ δ' = δ /\ ∃ e : Nat, 1 <= e /\ e <= 13 /\ k = 2 ^ e /\ ∀ e' : Nat, 1 <= e' -> e' < e -> N ≠ ((2 ^ e' : Nat) : Int)) (fun k => 8192 - k) 2 ⟨rfl, rfl, rfl, trivial⟩ ⟨rfl, rfl, 1, by omega, by omega, rfl, fun e' h1 h2 => by omega⟩ ?_
  rintro k h1 δ1 ⟨rfl, rfl, e, e1, e2, rfl, hno⟩ again
  by_cases hk : 2 ^ e <= 4096
  · have e12 := pow_le_12o.1 hk
    by_cases hN : ((2 ^ e : Nat) : Int) = N
    · subst hN
      generalize hg : 2 ^ e = g at hk again
      (repeat (first | refine EK.seq ?_ | refine EK.region ?_ | refine ER.done ?_ | refine EK.skip ?_ | refine EK.block ?_ | refine ER.move rfl rfl rfl ?_ | refine ER.assign rfl rfl rfl ?_ | refine ER.cmpT rfl rfl rfl rfl rfl (by first | (dsimp only [cmpP]; omega) | exact rfl | exact Int.le_refl _) ?_ | refine EK.condT rfl ?_ | refine EK.ret ?_))
      exact EU.ret1 rfl rfl ⟨rfl, rfl, true, rfl, fun _ => ⟨e, e1, e12, by rw [hg]⟩, fun _ => rfl⟩
    · have hp : 0 < 2 ^ e := Nat.two_pow_pos e
      have h2 : 2 * 2 ^ e = 2 ^ (e + 1) := by rw [Nat.pow_succ]; omega
      generalize hg : 2 ^ e = g at hk again hN hp h2
      (repeat (first | refine EK.seq ?_ | refine EK.region ?_ | refine ER.done ?_ | refine EK.skip ?_ | refine EK.block ?_ | refine EK.inBlock ?_ | refine ER.move rfl rfl rfl ?_ | refine ER.assign rfl rfl rfl ?_ | refine ER.cmpT rfl rfl rfl rfl rfl (by first | (dsimp only [cmpP]; omega) | exact rfl | exact Int.le_refl _) ?_ | refine ER.cmpF rfl rfl rfl rfl rfl (by first | (dsimp only [cmpP]; omega) | exact rfl | exact Int.le_refl _) ?_ | refine ER.mul (kd := .i64) rfl rfl rfl rfl (i64_in (by omega) (by omega)) ?_ | refine EK.condT rfl ?_ | refine EK.condF rfl ?_))
      rw [show (2 * (g : Int)) = ((2 * g : Nat) : Int) by omega]
      refine EK.back (again (2 * g) _ _ (by omega) ⟨rfl, rfl, e + 1, by omega, by omega, h2, fun e' q1 q2 => ?_⟩) ⟨rfl, rfl, rfl, trivial⟩
      by_cases q : e' = e
      · rw [q, hg]; exact fun x => hN x.symm
      · exact hno e' q1 (by omega)
  · have e12 : ¬ e <= 12 := fun x => hk (pow_le_12o.2 x)
    generalize hg : 2 ^ e = g at hk again
    (repeat (first | refine EK.seq ?_ | refine EK.region ?_ | refine ER.done ?_ | refine ER.move rfl rfl rfl ?_ | refine ER.assign rfl rfl rfl ?_ | refine ER.cmpF rfl rfl rfl rfl rfl (by first | (dsimp only [cmpP]; omega) | exact rfl | exact Int.le_refl _) ?_ | refine EK.condF rfl ?_ | refine EK.ret ?_ | refine EK.exit rfl ?_))
    exact EU.ret1 rfl rfl ⟨rfl, rfl, false, rfl, fun x => (by cases x), fun ⟨e', q1, q2, q3⟩ => absurd q3 (hno e' q1 (by omega))⟩
set_option maxRecDepth 8000 in
set_option maxHeartbeats 8000000 in
theorem olong_ok : CallW Try.prog main S 32 #[.agg #[.int .i64 N, .int .i64 fr, .int .i64 bs, nilS, nilS]] h δ (Ret fun v h' δ' => δ' = δ /\ Upd (fun _ => False) h h' /\ ∃ b, v = .bool b /\ (b = false -> ∃ n e : Nat, N = n /\ n = 2 ^ e /\ 1 <= e /\ e <= 8)) := by
  obtain ⟨y, hy⟩ : ∃ y, y = h.size := ⟨_, rfl⟩
  refine CallW.start (n := 52) rfl rfl ?_
  (repeat (first | refine EK.seq ?_ | refine EK.region ?_ | refine ER.done ?_ | refine EK.block ?_ | refine ER.assign rfl rfl rfl ?_ | refine ER.boxA rfl rfl rfl ?_))
  refine EK.gen (fun h' => Upd (fun _ => False) h h' /\ h'[y]? = some (.cells #[.int .i64 N, .int .i64 fr, .int .i64 bs, nilS, nilS] 80 (0, 0))) ⟨Upd.push _ _, by rw [hy]; exact get_push_new _ _⟩ ?_
  rw [<- hy]
  clear hy
  rintro h1 ⟨uu, gy⟩
  have y1 : hcell h1 ⟨y, 3, none⟩ = some nilS := hcell_of gy rfl
  refine EK.loop ?_
  have y2 : hcell h1 ⟨y, 4, none⟩ = some nilS := hcell_of gy rfl
  have y0 : hcell h1 ⟨y, 0, none⟩ = some (.int .i64 N) := hcell_of gy rfl
  (repeat (first | refine EK.seq ?_ | refine EK.region ?_ | refine ER.done ?_ | refine ER.move rfl rfl rfl ?_ | refine ER.fieldAddr rfl rfl rfl ?_ | refine ER.load1 rfl rfl rfl (hcell_of (by assumption) rfl) ?_ | refine ER.no rfl rfl ?_ | refine ER.pickF rfl rfl rfl rfl ?_ | refine ER.cmpF rfl rfl rfl rfl rfl (by first | (dsimp only [cmpP]; omega) | exact rfl | exact Int.le_refl _) ?_ | refine ER.len1 rfl rfl rfl ?_ | refine EK.condF rfl ?_ | refine EK.exit rfl ?_))
  refine ER.callR rfl rfl rfl rfl rfl omay_ok ?_
  rintro _ h3 δ3 ⟨rfl, rfl, b, rfl, hb⟩
  cases b with
  | false =>
    (repeat (first | refine ER.done ?_ | refine ER.move rfl rfl rfl ?_ | refine ER.assign rfl rfl rfl ?_ | refine ER.no rfl rfl ?_ | refine ER.notB rfl rfl rfl ?_ | refine ER.pickT rfl rfl rfl rfl ?_ | refine ER.pickF rfl rfl rfl rfl ?_ | refine EK.ret ?_))
    exact EU.ret1 rfl rfl ⟨rfl, uu, _, rfl, fun e => by cases e⟩
  | true =>
    obtain ⟨e, e1, e12, hN⟩ := hb.1 rfl
    by_cases c5 : N <= 256
    · (repeat (first | refine ER.done ?_ | refine ER.move rfl rfl rfl ?_ | refine ER.assign rfl rfl rfl ?_ | refine ER.fieldAddr rfl rfl rfl ?_ | refine ER.load1 rfl rfl rfl (hcell_of (by assumption) rfl) ?_ | refine ER.notB rfl rfl rfl ?_ | refine ER.pickF rfl rfl rfl rfl ?_ | refine ER.cmpF rfl rfl rfl rfl rfl (by first | (dsimp only [cmpP]; omega) | exact rfl | exact Int.le_refl _) ?_ | refine EK.ret ?_))
      refine EU.ret1 rfl rfl ⟨rfl, uu, _, rfl, fun _ => ⟨2 ^ e, e, hN, rfl, e1, ?_⟩⟩
      rcases Nat.lt_or_ge 8 e with q | q
      · have := Nat.pow_le_pow_right (n := 2) (by decide) (show 9 <= e from q)
        have h9 : 2 ^ 9 = 512 := by decide
        omega
      · exact q
    · (repeat (first | refine ER.done ?_ | refine ER.move rfl rfl rfl ?_ | refine ER.assign rfl rfl rfl ?_ | refine ER.fieldAddr rfl rfl rfl ?_ | refine ER.load1 rfl rfl rfl (hcell_of (by assumption) rfl) ?_ | refine ER.notB rfl rfl rfl ?_ | refine ER.pickF rfl rfl rfl rfl ?_ | refine ER.cmpT rfl rfl rfl rfl rfl (by first | (dsimp only [cmpP]; omega) | exact rfl | exact Int.le_refl _) ?_ | refine EK.ret ?_))
      exact EU.ret1 rfl rfl ⟨rfl, uu, _, rfl, fun e => by cases e⟩
end
end
section
open Go Go.TJ Go.Conc Go.Proofs
def DA.n (A : DA) : Nat := (A.b - A.t).toNat
def DrR (d : D1) (cap : Nat) (rest : List Value) (A : DA) (k : Nat) (h : Hp) : Prop :=
  ∃ (v : Nat -> Int) (T : Int), Rep h (deqM d.c.n cap rest d.c.B v) /\ v 2 = W64 T /\ v 3 = W64 (T + ((A.n - k : Nat) : Int)) /\ (k < A.n -> T = d.c.F + A.t /\ ∀ o, A.t <= o -> o < A.b - k -> v (4 + slot d.c.n (d.c.F + o)) = A.sl o)
def DrQ (d : D1) (A : DA) (mv : Value) (k : Nat) (h : Hp) : Prop :=
  ∃ gt : Int -> Bool, (∀ x, gt x = true ↔ A.s.got x = true \/ ∃ o, A.b - k <= o /\ o < A.b /\ A.sl o = x) /\ Rep h (dM d.ml d.D { QS.of A.s mv with got := gt, there := A.s.there - k, gets := A.s.gets + k })
section
variable {Γ : Type} {main : Bool} {S : Sit Γ} {δ : Ix Γ} {h h' : Hp} {d : D1} {cap : Nat} {rest : List Value} {A : DA} {mv : Value} {k : Nat} {val : Nat -> Int}
theorem OEnd.dr (x : OEnd d cap rest A mv val h) : DrR d cap rest A 0 h /\ DrQ d A mv 0 h := by
  have htb := x.G.tb
  refine ⟨⟨fun k => val (d.c.B k), d.c.F + A.t, x.rep, x.v2, ?_, fun _ => ⟨rfl, fun o _ _ => by rw [x.sl]; rfl⟩⟩, ⟨A.s.got, fun y => ⟨.inl, fun z => z.elim id fun ⟨o, h1, h2, _⟩ => by omega⟩, ?_⟩⟩
  · show val (d.c.B 3) = _
    rw [x.v3]
    congr 1
    unfold DA.n
    omega
  · have := x.vs
    have e : ({ QS.of A.s mv with got := A.s.got, there := A.s.there - ((0 : Nat) : Int), gets := A.s.gets + ((0 : Nat) : Int) } : QS) = QS.of A.s mv := by
      unfold QS.of
      dsimp only
      rw [show A.s.there - ((0 : Nat) : Int) = A.s.there by omega, show A.s.gets + ((0 : Nat) : Int) = A.s.gets by omega]
    rw [e]
    exact this
theorem dr_pop (ok : d.c.Ok) (G : DG d.c A) (hk : k < A.n) (r : DrR d cap rest A k h) (hS : ∀ k o, k < 4 + d.c.n -> ¬ S.still δ.g ⟨d.c.B k, o, none⟩) :
    CallW Try.prog main S 42 #[ptr (d.c.B 0), .pointer none] h δ (Ret fun w h' δ' => w = .tuple #[.int .i64 (A.sl (A.b - k - 1)), .bool true] /\ δ' = δ /\ DrR d cap rest A (k + 1) h' /\ Upd (fun b => ∃ k, k < 4 + d.c.n /\ b = d.c.B k) h h') := by
  obtain ⟨v, T, r, v2, v3, hv⟩ := r
  obtain ⟨eT, hw⟩ := hv hk
  subst eT
  clear hv
  have hroom := G.room
  have hle := ok.le
  have htb := G.tb
  have hn : (A.n : Int) = A.b - A.t := by unfold DA.n; omega
  have hx := hw (A.b - (k : Int) - 1) (by omega) (by omega)
  by_cases h1 : A.n - k = 1
  · have e1 : d.c.F + A.t = d.c.F + (A.b - k - 1) := by omega
    refine (dpop_one (x := A.sl (A.b - k - 1)) r ok.hn ok.he v2 (by rw [v3, h1]; rfl) (by rw [e1]; exact hx) hS).mono ?_
    rintro (w | p) h' δ' y
    · obtain ⟨rfl, rfl, ⟨v', w2, w3, r'⟩, u⟩ := y
      refine ⟨rfl, rfl, ⟨v', d.c.F + A.t + 1, r', w2, ?_, fun h => by omega⟩, u⟩
      rw [w3, show A.n - (k + 1) = 0 by omega]
      congr 1
      omega
    · exact y.elim
  · refine (dpop_more (x := A.sl (A.b - k - 1)) (c := A.n - k) r ok.hn ok.he v2 v3 (by omega) (by omega) (by rw [show d.c.F + A.t + ((A.n - k : Nat) : Int) - 1 = d.c.F + (A.b - k - 1) by omega]; exact hx) hS).mono ?_
    rintro (w | p) h' δ' y
    · obtain ⟨rfl, rfl, r', u⟩ := y
      have hpos := ok.pos
      refine ⟨rfl, rfl, ⟨_, d.c.F + A.t, r', (ut_ne _ _ (by omega)).trans v2, ?_, fun h => ⟨rfl, fun o o1 o2 => ?_⟩⟩, u⟩
      · rw [ut_same]
        congr 1
        omega
      · rw [ut_ne _ _ (by omega)]
        exact hw o o1 (by omega)
    · exact y.elim
theorem dr_get {bg : Nat} (G : DG d.c A) (hk : k < A.n) (r : DrQ d A mv k h) (hg : h[bg]? = some (.cells #[.slice (some ⟨d.D .got, 0, none⟩) d.ml d.ml] 63 (0, 0))) (hbg : ∀ k, bg ≠ d.D k) (hm : d.ml <= 1001) (hc : DCnt A.s) (hS : ∀ k o, ¬ S.still δ.g ⟨d.D k, o, none⟩) :
    CallW Try.prog main S 39 #[.int .i64 (A.sl (A.b - k - 1)), ptr (d.D .wrong), ptr bg, ptr (d.D .there), ptr (d.D .gets)] h δ (Ret fun _ h' δ' => δ' = δ /\ DrQ d A mv (k + 1) h' /\ Upd (fun b => ∃ k, b = d.D k) h h') := by
  obtain ⟨gt, hgt, r⟩ := r
  have htb := G.tb
  have hn : (A.n : Int) = A.b - A.t := by unfold DA.n; omega
  obtain ⟨y1, y2, y3, y4⟩ := G.val (A.b - k - 1) (by omega) (by omega)
  have hpm := G.pm
  have hml : (d.ml : Int) = d.c.m := rfl
  have hg0 : gt (A.sl (A.b - k - 1)) = false := by
    cases e : gt (A.sl (A.b - k - 1)) with
    | false => rfl
    | true =>
      rcases (hgt _).1 e with z | ⟨o, o1, o2, o3⟩
      · rw [y3] at z; cases z
      · have := G.mono (A.b - k - 1) o (by omega) (by omega) o2
        omega
  obtain ⟨c1, c2, c3, c4⟩ := hc
  have hbp := G.bp
  have ht0 := G.t0
  have hth := G.there
  refine (dget_ok r hg hbg (by omega) y1 (by omega) hg0 ⟨by show _ <= A.s.there - k; omega, by show A.s.there - k <= _; split at hth <;> omega⟩ ⟨by show _ <= A.s.gets + k; omega, by show A.s.gets + k <= _; split at hth <;> omega⟩ hS).mono ?_
  rintro (w | p) h' δ' y
  · obtain ⟨rfl, r', u⟩ := y
    refine ⟨rfl, ⟨fun x => if x = A.sl (A.b - k - 1) then true else gt x, fun x => ?_, ?_⟩, u⟩
    · dsimp only
      by_cases e : x = A.sl (A.b - k - 1)
      · rw [if_pos e]
        exact ⟨fun _ => .inr ⟨A.b - k - 1, by omega, by omega, e.symm⟩, fun _ => rfl⟩
      · rw [if_neg e, hgt]
        refine ⟨fun z => z.imp id fun ⟨o, o1, o2, o3⟩ => ⟨o, by omega, o2, o3⟩, fun z => z.imp id fun ⟨o, o1, o2, o3⟩ => ⟨o, ?_, o2, o3⟩⟩
        have : o ≠ A.b - k - 1 := fun e' => e (by rw [<- o3, e'])
        omega
    · have e : (QS.get { QS.of A.s mv with got := gt, there := A.s.there - k, gets := A.s.gets + k } (A.sl (A.b - k - 1))) = { QS.of A.s mv with got := fun x => if x = A.sl (A.b - k - 1) then true else gt x, there := A.s.there - ((k + 1 : Nat) : Int), gets := A.s.gets + ((k + 1 : Nat) : Int) } := by
        unfold QS.get
        dsimp only
        rw [show A.s.there - (k : Int) - 1 = A.s.there - ((k + 1 : Nat) : Int) by omega, show A.s.gets + (k : Int) + 1 = A.s.gets + ((k + 1 : Nat) : Int) by omega]
      rw [<- e]; exact r'
  · exact y.elim
theorem dr_all (G : DG d.c A) (hh : A.hand = none) {gt : Int -> Bool} (hgt : ∀ x, gt x = true ↔ A.s.got x = true \/ ∃ o, A.b - A.n <= o /\ o < A.b /\ A.sl o = x) {x : Int} (h1 : 1 <= x) (h2 : x <= A.s.pushed) : gt x = true := by
  have htb := G.tb
  have hn : (A.n : Int) = A.b - A.t := by unfold DA.n; omega
  rcases G.all x h1 h2 with z | ⟨o, o1, o2, o3⟩ | z
  · exact (hgt x).2 (.inl z)
  · exact (hgt x).2 (.inr ⟨o, by omega, o2, o3⟩)
  · rw [hh] at z; cases z
end
end
section
open Go Go.TJ Go.Conc Go.Proofs
theorem exists_idxD {cs : Nat -> Prop} {B : Nat -> Nat} (inj : ∀ j k, cs j -> cs k -> B j = B k -> j = k) : ∃ idx : Nat -> Nat, ∀ k, cs k -> idx (B k) = k := by
  classical
  refine ⟨fun b => if h : ∃ k, cs k /\ B k = b then Classical.choose h else 0, fun k hk => ?_⟩
  have h : ∃ j, cs j /\ B j = B k := ⟨k, hk, rfl⟩
  simp only [dif_pos h]
  exact inj _ _ (Classical.choose_spec h).1 hk (Classical.choose_spec h).2
def dnm (y : Nat) : DNm -> Nat
  | .got => y
  | .stk => y + 2
  | .pushed => y + 3
  | .there => y + 4
  | .gets => y + 5
  | .pop => y + 6
  | .last => y + 7
  | .wrong => y + 8
theorem dnm_inj {y : Nat} : ∀ {j k : DNm}, dnm y j = dnm y k -> j = k := by
  intro j k e
  cases j <;> cases k <;> first | rfl | (exfalso; simp only [dnm] at e; omega)
abbrev getF (y : Nat) : Value := .func (.func 39) #[] #[ptr (y + 8), ptr (y + 1), ptr (y + 4), ptr (y + 5)]
abbrev ownF (y bx bd : Nat) : Value := .func (.func 40) #[] #[ptr bx, ptr bd, ptr (y + 3), ptr (y + 4), ptr (y + 2), ptr (y + 8), ptr (y + 6), ptr (y + 9)]
abbrev thfF (y bx bd b : Nat) : Value := .func (.func 43) #[] #[ptr bx, ptr b, ptr (y + 5), ptr bd, ptr (y + 9), ptr (y + 8), ptr (y + 7), ptr (y + 6)]
structure LI (hA : Hp) (y bx bd i z : Nat) (bv : Value) (iBs : List Nat) (h : Hp) : Prop where
  up : Upd (fun _ => False) hA h
  bods : SliceO h bv 45 1 (1 + i) (ownF y bx bd :: iBs.map fun b => thfF y bx bd b)
  nb : ∀ b, blk bv = some b -> hA.size <= b
  ib : iBs.length = i
  ibx : ∀ (j b : Nat), iBs[j]? = some b -> h[b]? = some (.cells #[.int .i64 (j : Int)] 3 (0, 0)) /\ hA.size <= b
  box : h[z]? = some (.cells #[.int .i64 (i : Int)] 3 (0, 0)) /\ hA.size <= z
theorem LI.next {hA h h1 : Hp} {y bx bd i z : Nat} {bv bv' : Value} {iBs : List Nat} (I : LI hA y bx bd i z bv iBs h) (u : Upd (fun b => blk bv = some b) h h1) (sl : SliceO h1 bv' 45 1 (1 + i + 1) ((ownF y bx bd :: iBs.map fun b => thfF y bx bd b) ++ [thfF y bx bd z])) (hbb : ∀ b, blk bv' = some b -> blk bv = some b \/ h.size <= b) :
    LI hA y bx bd (i + 1) h1.size bv' (iBs ++ [z]) (h1.push (.cells #[.int .i64 ((i + 1 : Nat) : Int)] 3)) := by
  have keep : ∀ {q : Nat} {a : Array Value} {t : TypeId}, h[q]? = some (.cells a t (0, 0)) -> t ≠ 45 -> (h1.push (.cells #[.int .i64 ((i + 1 : Nat) : Int)] 3))[q]? = some (.cells a t (0, 0)) := fun hq ht => get_push _ (u.get hq (fun e => sliceO_ne I.bods hq (Ne.symm ht) _ e rfl))
  have hs := I.up.size
  refine ⟨(I.up.over u I.nb).trans (Upd.push _ _), ?_, fun b hb => (hbb b hb).elim (I.nb b) (fun z => by omega), by rw [List.length_append, I.ib]; rfl, fun j b hj => ?_, get_push_new _ _, by have := u.size; omega⟩
  · have e : (ownF y bx bd :: (iBs ++ [z]).map fun b => thfF y bx bd b) = (ownF y bx bd :: iBs.map fun b => thfF y bx bd b) ++ [thfF y bx bd z] := by rw [List.map_append]; rfl
    rw [e, show 1 + (i + 1) = 1 + i + 1 by omega]
    exact sl.upd (Upd.push (T := fun _ => False) _ _) (fun _ _ z => z)
  · by_cases e : j < iBs.length
    · rw [List.getElem?_append_left e] at hj
      exact ⟨keep (I.ibx j b hj).1 (by decide), (I.ibx j b hj).2⟩
    · rw [List.getElem?_append_right (by omega)] at hj
      have : j - iBs.length = 0 := by
        rcases Nat.eq_zero_or_pos (j - iBs.length) with z | z
        · exact z
        · rw [List.getElem?_eq_none (by rw [List.length_singleton]; exact z)] at hj; cases hj
      rw [this] at hj
      have ey : z = b := by simpa using hj
      have ej : j = i := by rw [<- I.ib]; omega
      subst ey ej
      exact ⟨keep I.box.1 (by decide), I.box.2⟩
set_option maxRecDepth 8000 in
set_option maxHeartbeats 40000000 in
theorem donce_ok {h : Hp} {N fr bs : Int} {oS tS pS : Value} {o : List Bool} {ths : List Nat} {picks : List Int} (ho : RdS h oS (o.map fun x => .bool x)) (ht : RdS h tS (ths.map fun (x : Nat) => .int .u8 x)) (hp : RdS h pS (picks.map fun x => .int .i64 x)) (hfr : W64 fr = fr) (big : o.length <= 1000000000000000 /\ ths.length <= 1000000000000000 /\ picks.length <= 1000000000000000) (u8 : ∀ x, x ∈ ths -> x < 256) :
    CallW Try.prog true (SwS Try.prog) 7 #[.agg #[.int .i64 N, .int .i64 fr, .int .i64 bs, oS, tS, pS]] h ⟨0, 1⟩ (Ret fun v h' δ' => δ'.d = 0 /\ v = .bool true /\ Upd (fun _ => False) h h') := by
  obtain ⟨aO, kO, eO⟩ := ho.val
  rw [List.length_map] at eO
  subst eO
  obtain ⟨aT, kT, eT⟩ := ht.val
  rw [List.length_map] at eT
  subst eT
  obtain ⟨aP, kP, eP⟩ := hp.val
  rw [List.length_map] at eP
  subst eP
  obtain ⟨big1, big2, big3⟩ := big
  have no : ∀ a, ¬ (SwS Try.prog).still 1 a := fun a x => x
  obtain ⟨bx, hbx⟩ : ∃ bx, bx = h.size := ⟨_, rfl⟩
  refine CallW.start (n := 143) rfl rfl ?_
  (repeat (first | refine EK.seq ?_ | refine EK.region ?_ | refine ER.done ?_ | refine ER.assign rfl rfl rfl ?_ | refine ER.boxA rfl rfl rfl ?_))
  refine ER.callR rfl rfl rfl rfl rfl (gworks_ok.noS no) ?_
  rintro _ h1 δ1 ⟨rfl, u1, rfl⟩
  have gx : h1[bx]? = some (.cells #[.int .i64 N, .int .i64 fr, .int .i64 bs, .slice aO o.length kO, .slice aT ths.length kT, .slice aP picks.length kP] 98 (0, 0)) := u1.get (by rw [hbx]; exact get_push_new _ _) (fun x => x)
  have uu : Upd (fun _ => False) h h1 := (Upd.push _ _).trans u1
  rw [<- hbx]
  have hbx1 : bx < h1.size := lt_of_get gx
  have hbx0 : h.size <= bx := by omega
  clear u1 hbx
  by_cases c1 : o.length <= 200
  case neg =>
    (repeat (first | refine EK.seq ?_ | refine EK.region ?_ | refine ER.done ?_ | refine ER.move rfl rfl rfl ?_ | refine ER.assign rfl rfl rfl ?_ | refine ER.fieldAddr rfl rfl rfl ?_ | refine ER.load1 rfl rfl rfl (hcell_of (by assumption) rfl) ?_ | refine ER.no rfl rfl ?_ | refine ER.notB rfl rfl rfl ?_ | refine ER.pickT rfl rfl rfl rfl ?_ | refine ER.pickF rfl rfl rfl rfl ?_ | refine ER.cmpT rfl rfl rfl rfl rfl (by first | (dsimp only [cmpP]; omega) | exact rfl | exact Int.le_refl _) ?_ | refine ER.len1 rfl rfl rfl ?_ | refine EK.condT rfl ?_ | refine EK.ret ?_))
    exact EU.ret1 rfl rfl ⟨rfl, rfl, uu⟩
  by_cases c2 : ths.length <= 6
  case neg =>
    (repeat (first | refine EK.seq ?_ | refine EK.region ?_ | refine ER.done ?_ | refine ER.move rfl rfl rfl ?_ | refine ER.assign rfl rfl rfl ?_ | refine ER.fieldAddr rfl rfl rfl ?_ | refine ER.load1 rfl rfl rfl (hcell_of (by assumption) rfl) ?_ | refine ER.no rfl rfl ?_ | refine ER.notB rfl rfl rfl ?_ | refine ER.pickT rfl rfl rfl rfl ?_ | refine ER.pickF rfl rfl rfl rfl ?_ | refine ER.cmpT rfl rfl rfl rfl rfl (by first | (dsimp only [cmpP]; omega) | exact rfl | exact Int.le_refl _) ?_ | refine ER.cmpF rfl rfl rfl rfl rfl (by first | (dsimp only [cmpP]; omega) | exact rfl | exact Int.le_refl _) ?_ | refine ER.len1 rfl rfl rfl ?_ | refine EK.condT rfl ?_ | refine EK.ret ?_))
    exact EU.ret1 rfl rfl ⟨rfl, rfl, uu⟩
  by_cases c3 : picks.length <= 4000
  case neg =>
    (repeat (first | refine EK.seq ?_ | refine EK.region ?_ | refine ER.done ?_ | refine ER.move rfl rfl rfl ?_ | refine ER.assign rfl rfl rfl ?_ | refine ER.fieldAddr rfl rfl rfl ?_ | refine ER.load1 rfl rfl rfl (hcell_of (by assumption) rfl) ?_ | refine ER.no rfl rfl ?_ | refine ER.notB rfl rfl rfl ?_ | refine ER.pickT rfl rfl rfl rfl ?_ | refine ER.pickF rfl rfl rfl rfl ?_ | refine ER.cmpT rfl rfl rfl rfl rfl (by first | (dsimp only [cmpP]; omega) | exact rfl | exact Int.le_refl _) ?_ | refine ER.cmpF rfl rfl rfl rfl rfl (by first | (dsimp only [cmpP]; omega) | exact rfl | exact Int.le_refl _) ?_ | refine ER.len1 rfl rfl rfl ?_ | refine EK.condT rfl ?_ | refine EK.ret ?_))
    exact EU.ret1 rfl rfl ⟨rfl, rfl, uu⟩
  (repeat (first | refine EK.seq ?_ | refine EK.region ?_ | refine ER.done ?_ | refine ER.move rfl rfl rfl ?_ | refine ER.assign rfl rfl rfl ?_ | refine ER.fieldAddr rfl rfl rfl ?_ | refine ER.load1 rfl rfl rfl (hcell_of (by assumption) rfl) ?_ | refine ER.notB rfl rfl rfl ?_ | refine ER.pickF rfl rfl rfl rfl ?_ | refine ER.cmpF rfl rfl rfl rfl rfl (by first | (dsimp only [cmpP]; omega) | exact rfl | exact Int.le_refl _) ?_ | refine ER.len1 rfl rfl rfl ?_))
  refine ER.loadN (vs := [.int .i64 N, .int .i64 fr, .int .i64 bs]) rfl rfl rfl rfl (hrow_block (rest := [.slice aO o.length kO, .slice aT ths.length kT, .slice aP picks.length kP]) gx) ?_
  refine ER.buildS (cells := #[.int .i64 N, .int .i64 fr, .int .i64 bs, nilS, nilS]) rfl rfl (by rfl) (by rfl) ?_
  refine ER.callR rfl rfl rfl rfl rfl olong_ok ?_
  rintro _ h2 δ2 ⟨rfl, u2, b, rfl, hlong⟩
  replace gx := u2.get gx (fun x => x)
  replace uu := uu.trans u2
  clear u2 hbx1
  cases b with
  | true =>
    (repeat (first | refine EK.seq ?_ | refine EK.region ?_ | refine ER.done ?_ | refine ER.move rfl rfl rfl ?_ | refine ER.assign rfl rfl rfl ?_ | refine ER.pickF rfl rfl rfl rfl ?_ | refine EK.condT rfl ?_ | refine EK.ret ?_))
    exact EU.ret1 rfl rfl ⟨rfl, rfl, uu⟩
  | false =>
    obtain ⟨n, e, rfl, hn, he1, he8⟩ := hlong rfl
    clear hlong
    (repeat (first | refine EK.seq ?_ | refine EK.region ?_ | refine ER.done ?_ | refine EK.skip ?_ | refine ER.fieldAddr rfl rfl rfl ?_ | refine ER.load1 rfl rfl rfl (hcell_of (by assumption) rfl) ?_ | refine ER.pickF rfl rfl rfl rfl ?_ | refine EK.condF rfl ?_))
    refine ER.callR rfl rfl rfl rfl rfl ((deqnew_ok (n := n) (f := fr) hn he1 (by omega) (fun _ _ _ x => x)).noS no) ?_
    rintro _ h3 δ3 ⟨rfl, u3, cap, rest, B, rfl, r3, ab⟩
    have hh2 := uu.size
    have lowB : ∀ k, k < 4 + n -> h.size <= B k := fun k hk => by have := ab k hk; omega
    replace gx := u3.get gx (fun x => x)
    replace uu := uu.trans u3
    clear u3 ab hh2
    (repeat (first | refine ER.move rfl rfl rfl ?_ | refine ER.extract rfl rfl rfl rfl ?_ | refine ER.alloc rfl rfl ?_))
    refine ER.storeNew rfl rfl rfl rfl ⟨nofun, nofun⟩ (no _) ?_
    obtain ⟨bd, hbd⟩ : ∃ bd, bd = h3.size := ⟨_, rfl⟩
    refine ER.gen (fun h' => Upd (fun _ => False) h3 h' /\ h'[bd]? = some (.cells #[ptr (B 0)] 89 (0, 0))) ⟨Upd.push _ _, by rw [hbd]; exact get_push_new _ _⟩ ?_
    rw [<- hbd]
    clear hbd
    rintro h4 ⟨u4, gd⟩
    replace gx := u4.get gx (fun x => x)
    replace r3 := r3.upd0 u4
    replace uu := uu.trans u4
    clear u4
    have cd : hcell h4 ⟨bd, 0, none⟩ = some (ptr (B 0)) := hcell_of gd rfl
    (repeat (first | refine EK.seq ?_ | refine EK.region ?_ | refine ER.done ?_ | refine EK.skip ?_ | refine ER.move rfl rfl rfl ?_ | refine ER.assign rfl rfl rfl ?_ | refine ER.fieldAddr rfl rfl rfl ?_ | refine ER.load1 rfl rfl rfl (hcell_of (by assumption) rfl) ?_ | refine ER.eqV rfl rfl rfl rfl rfl ?_ | refine ER.pickF rfl rfl rfl rfl ?_ | refine ER.cmpF rfl rfl rfl rfl rfl (by first | (dsimp only [cmpP]; omega) | exact rfl | exact Int.le_refl _) ?_ | refine ER.add (kd := .i64) rfl rfl rfl rfl (i64_in (by omega) (by omega)) ?_ | refine ER.len1 rfl rfl rfl ?_ | refine EK.condF rfl ?_))
    refine ER.makeSlice (m := o.length + 1) rfl rfl rfl rfl (by omega) (by omega) rfl ?_
    rintro s h5 sl eh hb
    obtain ⟨y, hy⟩ : ∃ y, y = h4.size := ⟨_, rfl⟩
    have hy0 : h.size <= y := by rw [hy]; exact uu.size
    have es : s = .slice (some ⟨y, 0, none⟩) (o.length + 1) (o.length + 1) := by
      obtain ⟨_, ⟨rfl, _⟩ | ⟨b, cap, rest, rfl, q1, q2, q3⟩⟩ := sl
      · cases hb
      · cases hb
        have q4 : h5[h4.size]? = some (.cells (List.replicate (o.length + 1) (.bool false)).toArray 4 (0, 0)) := by rw [eh]; exact get_push_new _ _
        have q5 := q4.symm.trans q3
        injection q5 with q5
        injection q5 with q5 _ _
        have q6 := congrArg Array.size q5
        simp only [List.size_toArray, List.length_append, List.length_replicate] at q6
        have : cap = o.length + 1 := by omega
        rw [this, hy]; rfl
    subst es
    subst eh
    clear sl hb
    (repeat refine ER.alloc rfl rfl ?_)
    refine ER.storeNew rfl rfl rfl rfl ⟨nofun, nofun⟩ (no _) ?_
    (repeat (first | refine EK.seq ?_ | refine EK.region ?_ | refine ER.done ?_ | refine ER.alloc rfl rfl ?_))
    refine ER.storeNew rfl rfl rfl rfl ⟨nofun, nofun⟩ (no _) ?_
    (repeat (first | refine EK.seq ?_ | refine EK.region ?_ | refine ER.done ?_ | refine ER.alloc rfl rfl ?_))
    refine ER.storeNew rfl rfl rfl rfl ⟨nofun, nofun⟩ (no _) ?_
    (repeat (first | refine EK.seq ?_ | refine EK.region ?_ | refine ER.done ?_ | refine ER.alloc rfl rfl ?_))
    refine ER.storeNew rfl rfl rfl rfl ⟨nofun, nofun⟩ (no _) ?_
    (repeat (first | refine EK.seq ?_ | refine EK.region ?_ | refine ER.done ?_ | refine ER.alloc rfl rfl ?_))
    refine ER.storeNew rfl rfl rfl rfl ⟨nofun, nofun⟩ (no _) ?_
    (repeat (first | refine EK.seq ?_ | refine EK.region ?_ | refine ER.done ?_ | refine ER.alloc rfl rfl ?_))
    refine ER.storeNew rfl rfl rfl rfl ⟨nofun, nofun⟩ (no _) ?_
    (repeat (first | refine EK.seq ?_ | refine EK.region ?_ | refine ER.done ?_ | refine ER.alloc rfl rfl ?_))
    refine ER.storeNew rfl rfl rfl rfl ⟨nofun, nofun⟩ (no _) ?_
    simp only [Array.size_push]
    rw [<- hy]
    refine ER.gen (fun h' => Upd (fun _ => False) h4 h' /\ h'.size = y + 9 /\ h'[y]? = some (.cells (List.replicate (o.length + 1) (.bool false)).toArray 4 (0, 0)) /\ h'[y + 1]? = some (.cells #[.slice (some ⟨y, 0, none⟩) (o.length + 1) (o.length + 1)] 63 (0, 0)) /\ h'[y + 2]? = some (.cells #[nilS] 64 (0, 0)) /\ h'[y + 3]? = some (.cells #[.int .i64 0] 2 (0, 0)) /\ h'[y + 4]? = some (.cells #[.int .i64 0] 3 (0, 0)) /\
      h'[y + 5]? = some (.cells #[.int .i64 0] 3 (0, 0)) /\ h'[y + 6]? = some (.cells #[.bool false] 4 (0, 0)) /\ h'[y + 7]? = some (.cells #[.int .i64 0] 2 (0, 0)) /\ h'[y + 8]? = some (.cells #[.bool false] 4 (0, 0))) ?_ ?_
    · have q := pushes h4 [.cells (List.replicate (o.length + 1) (.bool false)).toArray 4, .cells #[.slice (some ⟨y, 0, none⟩) (o.length + 1) (o.length + 1)] 63, .cells #[nilS] 64, .cells #[.int .i64 0] 2, .cells #[.int .i64 0] 3, .cells #[.int .i64 0] 3, .cells #[.bool false] 4, .cells #[.int .i64 0] 2, .cells #[.bool false] 4]
      rw [<- hy] at q
      exact ⟨q.1, q.2.1, q.2.2 0 _ rfl, q.2.2 1 _ rfl, q.2.2 2 _ rfl, q.2.2 3 _ rfl, q.2.2 4 _ rfl, q.2.2 5 _ rfl, q.2.2 6 _ rfl, q.2.2 7 _ rfl, q.2.2 8 _ rfl⟩
    rintro h5 ⟨u5, s5, f0, f1, f2, f3, f4, f5, f6, f7, f8⟩
    (repeat (first | refine EK.seq ?_ | refine EK.region ?_ | refine ER.done ?_))
    refine ER.makeFunc (fv := #[]) (cv := #[ptr (y + 8), ptr (y + 1), ptr (y + 4), ptr (y + 5)]) rfl rfl (fun ρ hρ => ⟨map_ofL hρ (vs := []) rfl, map_ofL hρ (vs := [ptr (y + 8), ptr (y + 1), ptr (y + 4), ptr (y + 5)]) rfl⟩) ?_
    (repeat refine ER.alloc rfl rfl ?_)
    refine ER.storeNew rfl rfl rfl rfl ⟨nofun, nofun⟩ (no _) ?_
    refine ER.gen (fun h' => Upd (fun _ => False) h5 h' /\ h'.size = y + 10 /\ h'[y + 9]? = some (.cells #[getF y] 101 (0, 0))) ⟨Upd.push _ _, by rw [Array.size_push, s5], by rw [<- s5]; exact get_push_new _ _⟩ ?_
    rw [s5]
    rintro hA ⟨uA, sA, f9⟩
    have up4A := u5.trans uA
    replace gx := up4A.get gx (fun x => x)
    replace gd := up4A.get gd (fun x => x)
    replace r3 := r3.upd0 up4A
    replace uu := uu.trans up4A
    replace f0 := uA.get f0 (fun x => x)
    replace f1 := uA.get f1 (fun x => x)
    replace f2 := uA.get f2 (fun x => x)
    replace f3 := uA.get f3 (fun x => x)
    replace f4 := uA.get f4 (fun x => x)
    replace f5 := uA.get f5 (fun x => x)
    replace f6 := uA.get f6 (fun x => x)
    replace f7 := uA.get f7 (fun x => x)
    replace f8 := uA.get f8 (fun x => x)
    clear u5 s5 uA up4A cd
    (repeat (first | refine EK.seq ?_ | refine EK.region ?_ | refine ER.done ?_))
    refine ER.makeFunc (fv := #[]) (cv := #[ptr bx, ptr bd, ptr (y + 3), ptr (y + 4), ptr (y + 2), ptr (y + 8), ptr (y + 6), ptr (y + 9)]) rfl rfl (fun ρ hρ => ⟨map_ofL hρ (vs := []) rfl, map_ofL hρ (vs := [ptr bx, ptr bd, ptr (y + 3), ptr (y + 4), ptr (y + 2), ptr (y + 8), ptr (y + 6), ptr (y + 9)]) rfl⟩) ?_
    refine ER.slice1 (sz := 1) (z := .nilFunc) (cells := #[ownF y bx bd]) rfl rfl rfl (by omega) (by omega) (by rfl) rfl ?_
    (repeat (first | refine EK.seq ?_ | refine EK.region ?_ | refine ER.done ?_ | refine ER.assign rfl rfl rfl ?_ | refine ER.alloc rfl rfl ?_))
    refine ER.storeNew rfl rfl rfl rfl ⟨nofun, nofun⟩ (no _) ?_
    refine ER.gen (fun h' => LI hA y bx bd 0 (y + 11) (.slice (some ⟨y + 10, 0, none⟩) 1 1) [] h') ?_ ?_
    · have q := pushes hA [.cells #[ownF y bx bd] 45, .cells #[.int .i64 0] 3]
      rw [sA] at q
      exact ⟨q.1, ⟨rfl, .inr ⟨y + 10, 1, [], rfl, Nat.le_refl _, rfl, q.2.2 0 _ rfl⟩⟩, fun b hb => by have e : some (y + 10) = some b := hb; injection e with e; omega, rfl, fun j b hj => (by cases hj), q.2.2 1 _ rfl, by omega⟩
    rw [Array.size_push, sA]
    intro h6 I
    (repeat (first | refine ER.done ?_ | refine EK.block ?_))
    refine EK.loopInv (fun q : Nat × Nat × Value × List Nat => [(16, ptr q.2.1), (15, q.2.2.1), (14, ptr (y + 9)), (13, ptr (y + 8)), (12, ptr (y + 7)), (11, ptr (y + 6)), (10, ptr (y + 5)), (9, ptr (y + 4)), (8, ptr (y + 3)), (7, ptr (y + 2)), (6, ptr (y + 1)), (4, ptr bd), (3, .bool true), (2, .bool false), (1, ptr bx)]) (fun q h' δ' => δ' = ⟨0, 1⟩ /\ q.1 <= ths.length /\ LI hA y bx bd q.1 q.2.1 q.2.2.1 q.2.2.2 h') (fun q => ths.length - q.1) (0, y + 11, .slice (some ⟨y + 10, 0, none⟩) 1 1, []) ⟨rfl, rfl, rfl, rfl, rfl, rfl, rfl, rfl, rfl, rfl, rfl, rfl, rfl, rfl, rfl, trivial⟩ ⟨rfl, Nat.zero_le _, I⟩ ?_
    clear I h6
    rintro ⟨i, z, bv, iBs⟩ h6 δ6 ⟨hδ, hi, I⟩ again
    dsimp only at hδ hi I again ⊢
    subst hδ
    have bz : hcell h6 ⟨z, 0, none⟩ = some (.int .i64 (i : Int)) := hcell_of I.box.1 rfl
    have c4 : hcell h6 ⟨bx, 4, none⟩ = some (.slice aT ths.length kT) := hcell_of (I.up.get gx (fun x => x)) rfl
    by_cases hin : i < ths.length
    · obtain ⟨aB, kB, eB⟩ := I.bods.val
      subst eB
      have hsl := I.bods
      (repeat (first | refine EK.seq ?_ | refine EK.region ?_ | refine ER.done ?_ | refine EK.skip ?_ | refine EK.block ?_ | refine ER.move rfl rfl rfl ?_ | refine ER.fieldAddr rfl rfl rfl ?_ | refine ER.cmpT rfl rfl rfl rfl rfl (by first | (dsimp only [cmpP]; omega) | exact rfl | exact Int.le_refl _) ?_ | refine ER.len1 rfl rfl rfl ?_ | refine EK.condT rfl ?_ | refine ER.load1 rfl rfl rfl (by assumption) ?_))
      refine ER.makeFunc (fv := #[]) (cv := #[ptr bx, ptr z, ptr (y + 5), ptr bd, ptr (y + 9), ptr (y + 8), ptr (y + 7), ptr (y + 6)]) rfl rfl (fun ρ hρ => ⟨map_ofL hρ (vs := []) rfl, map_ofL hρ (vs := [ptr bx, ptr z, ptr (y + 5), ptr bd, ptr (y + 9), ptr (y + 8), ptr (y + 7), ptr (y + 6)]) rfl⟩) ?_
      refine ER.slice1 (sz := 1) (z := .nilFunc) (cells := #[thfF y bx bd z]) rfl rfl rfl (by omega) (by omega) (by rfl) rfl ?_
      have u6 := Upd.push (T := fun _ => False) h6 (.cells #[thfF y bx bd z] 45)
      refine ER.append1 (new := [thfF y bx bd z]) rfl rfl rfl rfl (hsl.upd u6 (fun _ _ z => z)) (get_push_new _ _) rfl (by simp [OneCell]) (by omega) (by omega) (by rfl) (fun _ _ _ => no _) ?_
      intro s7 h7 sl7 u7 hb7
      have uu7 : Upd (fun b => blk (.slice aB (1 + i) kB) = some b) h6 h7 := upd_then (u6.mono (fun _ _ z => z.elim)) u7 (fun _ _ z => z)
      have I7 := I.next uu7 sl7 (fun b hb => (hb7 b hb).imp id (fun e => by rw [e, Array.size_push]; omega))
      have bz7 : h7[z]? = some (.cells #[.int .i64 i] 3 (0, 0)) := uu7.get I.box.1 (fun e => sliceO_ne I.bods I.box.1 (by decide) z e rfl)
      clear I u6 sl7 u7 hb7 uu7 bz c4 hsl
      (repeat (first | refine EK.seq ?_ | refine EK.region ?_ | refine ER.done ?_ | refine EK.inBlock ?_ | refine ER.assign rfl rfl rfl ?_ | refine ER.load1 rfl rfl rfl (hcell_of (by assumption) rfl) ?_ | refine ER.alloc rfl rfl ?_))
      refine ER.storeNew rfl rfl rfl rfl ⟨nofun, nofun⟩ (no _) ?_
      have g8 := get_push_new h7 (.cells #[.int .i64 i] 3)
      (repeat (first | refine EK.region ?_ | refine ER.done ?_ | refine ER.load1 rfl rfl rfl (hcell_of (by assumption) rfl) ?_ | refine ER.add (kd := .i64) rfl rfl rfl rfl (i64_in (by omega) (by omega)) ?_))
      refine ER.store1 rfl rfl rfl ⟨nofun, nofun⟩ ⟨_, hcell_of g8 rfl⟩ (hfroz_of g8) (no _) ?_
      have e9 : hset (h7.push (.cells #[.int .i64 i] 3)) ⟨h7.size, 0, none⟩ (.int .i64 ((i + 1 : Nat) : Int)) = h7.push (.cells #[.int .i64 ((i + 1 : Nat) : Int)] 3) := by
        rw [hset_one g8]; exact push_set _ _ _
      rw [show ((i : Int) + 1) = ((i + 1 : Nat) : Int) by omega]
      change ER _ _ _ _ _ _ _ _ _ _ (hset (h7.push (.cells #[.int .i64 i] 3)) ⟨h7.size, 0, none⟩ (.int .i64 ((i + 1 : Nat) : Int))) _ _
      rw [e9]
      clear e9 g8 bz7
      (repeat refine ER.done ?_)
      exact EK.back (again (i + 1, h7.size, s7, iBs ++ [z]) _ _ (by dsimp only; omega) ⟨rfl, by dsimp only; omega, I7⟩) ⟨rfl, rfl, rfl, rfl, rfl, rfl, rfl, rfl, rfl, rfl, rfl, rfl, rfl, rfl, rfl, trivial⟩
    · obtain rfl : i = ths.length := by omega
      clear again hin hi
      have uu6 := uu.trans I.up
      have hA0 : h.size <= hA.size := uu.size
      obtain ⟨idx, hidx⟩ := exists_idxD (cs := fun k => 2 <= k /\ k < 4 + n) (B := B) (fun j k hj hk e => r3.inj j k hj.2 hk.2 e)
      obtain ⟨d, hd⟩ : ∃ d : D1, d = ⟨⟨n, e, fr, B, o, ths.map fun x => x % 40⟩, h6, fun b => blk bv = some b, dnm y, fun b => (fun k => if k < 4 then fr else 0) (idx b)⟩ := ⟨_, rfl⟩
      have pre : OPre d h.size cap rest bx bd (y + 1) (y + 9) bs (.slice aO o.length kO) (.slice aT ths.length kT) (.slice aP picks.length kP) bv ths iBs picks := by
        subst hd
        refine ⟨hn, by show e <= 12; omega, hfr, r3.upd0 I.up, fun b => Iff.rfl, ⟨fun k _ => ?_, fun j k _ _ e => dnm_inj e⟩, fun k h2 hk => by show (if idx (B k) < 4 then fr else 0) = _; rw [hidx k ⟨h2, hk⟩], I.up.get gx (fun x => x), I.up.get gd (fun x => x), I.up.get f1 (fun x => x), I.up.get f9 (fun x => x), lowB, fun k => ?_, fun b hb => Nat.le_trans hA0 (I.nb b hb), ⟨ho.upd uu6 (fun _ _ _ x => x), fun hne b hb => ho.lt (fun e => hne (List.map_eq_nil_iff.1 e)) b hb⟩, ⟨ht.upd uu6 (fun _ _ _ x => x), fun hne b hb => ht.lt (fun e => hne (List.map_eq_nil_iff.1 e)) b hb⟩, ⟨hp.upd uu6 (fun _ _ _ x => x), fun hne b hb => hp.lt (fun e => hne (List.map_eq_nil_iff.1 e)) b hb⟩, rfl, u8, ⟨c1, c2⟩, I.ib, fun j b hj => ⟨(I.ibx j b hj).1, fun k e => ?_⟩, ?_⟩
        · show h6[dnm y k]? = _
          cases k with
          | got =>
            refine (I.up.get f0 (fun x => x)).trans ?_
            show _ = some (Obj.cells (gotC (o.length + 1) fun _ => false) _ _)
            congr 2
            unfold gotC
            rw [List.map_const', List.length_range]
          | stk => exact I.up.get f2 (fun x => x)
          | pushed => exact I.up.get f3 (fun x => x)
          | there => exact I.up.get f4 (fun x => x)
          | gets => exact I.up.get f5 (fun x => x)
          | pop => exact I.up.get f6 (fun x => x)
          | last => exact I.up.get f7 (fun x => x)
          | wrong => exact I.up.get f8 (fun x => x)
        · show h.size <= dnm y k
          cases k <;> (simp only [dnm]; omega)
        · have h1 := (I.ibx j b hj).2
          have e' : b = dnm y k := e
          cases k <;> (simp only [dnm] at e'; omega)
        · rw [List.map_cons, List.map_map]
          exact I.bods
      have c5 : hcell h6 ⟨bx, 5, none⟩ = some (.slice aP picks.length kP) := hcell_of (I.up.get gx (fun x => x)) rfl
      have eh : d.hN = h6 := by rw [hd]
      have hbase : h.size <= d.hN.size := by rw [eh]; exact uu6.size
      have hrun := orun_ok pre hbase
      rw [eh] at hrun
      (repeat (first | refine EK.seq ?_ | refine EK.region ?_ | refine ER.done ?_ | refine ER.move rfl rfl rfl ?_ | refine ER.fieldAddr rfl rfl rfl ?_ | refine ER.cmpF rfl rfl rfl rfl rfl (by first | (dsimp only [cmpP]; omega) | exact rfl | exact Int.le_refl _) ?_ | refine ER.len1 rfl rfl rfl ?_ | refine EK.condF rfl ?_ | refine EK.exit rfl ?_ | refine ER.load1 rfl rfl rfl (by assumption) ?_))
      refine ER.callR rfl rfl rfl rfl rfl hrun ?_
      rintro _ h7 δ7 ⟨⟨m, rfl⟩, lL, lW, lY, lV, mv, nl, A, val, rfl, ⟨⟨aL, nL, kL, eL⟩, ⟨aW, nW, kW, eW⟩, ⟨aY, nY, kY, eY⟩, ⟨aV, nV, kV, eV⟩⟩, En, sz7, keep⟩
      subst eL eW eY eV
      have bxo : d.old bx := (denv_of pre hbase).x.1
      have bdo : d.old bd := (denv_of pre hbase).dq.1
      have bgo : d.old (y + 1) := (denv_of pre hbase).g.1
      have bfo : d.old (y + 9) := (denv_of pre hbase).get.1
      have nx := pre.apart pre.x (by decide) (by decide) (by decide) (by decide) (by decide) (by decide) (by decide)
      have nd := pre.apart pre.dq (by decide) (by decide) (by decide) (by decide) (by decide) (by decide) (by decide)
      have ng := pre.apart pre.g (by decide) (by decide) (by decide) (by decide) (by decide) (by decide) (by decide)
      have nf := pre.apart pre.get (by decide) (by decide) (by decide) (by decide) (by decide) (by decide) (by decide)
      have gx7 := (keep _ bxo).trans (I.up.get gx (fun x => x))
      have gd7 := (keep _ bdo).trans (I.up.get gd (fun x => x))
      have gg7 := (keep _ bgo).trans (I.up.get f1 (fun x => x))
      have gf7 := (keep _ bfo).trans (I.up.get f9 (fun x => x))
      have ok := pre.ok
      have hD0 : ∀ b, ((∃ k, b = d.D k) \/ ∃ k, k < 4 + d.c.n /\ b = d.c.B k) -> h.size <= b /\ b < h6.size := fun b hb => by
        rcases hb with ⟨k, rfl⟩ | ⟨k, hk, rfl⟩
        · have := pre.vs.lt (k := k) trivial
          rw [eh] at this
          exact ⟨pre.lowD k, this⟩
        · have := pre.rep.lt (k := k) hk
          rw [eh] at this
          exact ⟨pre.lowB k hk, this⟩
      have apD : ∀ k j, j < 4 + d.c.n -> d.D k ≠ d.c.B j := fun k j hj e => by
        have h1 := pre.vs.has k trivial
        change d.hN[d.D k]? = _ at h1
        have h2 : d.hN[d.c.B j]? = some (if j = 0 then _ else if j = 1 then _ else _) := pre.rep.has j hj
        rw [<- e, h1] at h2
        by_cases j0 : j = 0
        · rw [if_pos j0] at h2
          cases k <;> (injection h2 with h2; injection h2 with _ h2 _; exact absurd h2 (by decide))
        · by_cases j1 : j = 1
          · rw [if_neg j0, if_pos j1] at h2
            cases k <;> (injection h2 with h2; injection h2 with _ h2 _; exact absurd h2 (by decide))
          · rw [if_neg j0, if_neg j1] at h2
            cases k <;> (injection h2 with h2; injection h2 with _ h2 _; exact absurd h2 (by decide))
      have uu7 : Upd (fun _ => False) h h7 := ⟨by have := uu6.size; omega, fun b hb _ => (keep b (pre.low hbase hb)).trans (uu6.2 b hb (fun x => x))⟩
      have no7 : ∀ a, ¬ (SwS Try.prog).still m a := fun a x => x
      clear keep I hrun f0 f1 f2 f3 f4 f5 f6 f7 f8 f9 gx gd r3 uu uu6 bz c4 c5 ho ht hp bxo bdo bgo bfo
      (repeat refine ER.allocA rfl rfl ?_)
      refine ER.storeN (vs := repL 1 nl (.slice aL nL kL) (.slice aW nW kW) (.slice aY nY kY) (.slice aV nV kV)) rfl rfl rfl rfl (by simp [OneCell]) (fun j hj => ⟨?_, hfroz_of (get_push_new _ _), no7 _⟩) ?_
      · have hj' : j < 7 := hj
        rcases (show j = 0 \/ j = 1 \/ j = 2 \/ j = 3 \/ j = 4 \/ j = 5 \/ j = 6 by omega) with rfl | rfl | rfl | rfl | rfl | rfl | rfl <;> exact ⟨_, hcell_of (get_push_new _ _) rfl⟩
      rw [hsetRow_push (c := [.int .i8 0, .int .i64 0, nilS, nilS, nilS, nilS, nilS]) (vs := repL 1 nl (.slice aL nL kL) (.slice aW nW kW) (.slice aY nY kY) (.slice aV nV kV)) rfl]
      obtain ⟨rB, hrB⟩ : ∃ rB, rB = h7.size := ⟨_, rfl⟩
      refine ER.gen (fun h' => Upd (fun _ => False) h7 h' /\ h'[rB]? = some (.cells (repL 1 nl (.slice aL nL kL) (.slice aW nW kW) (.slice aY nY kY) (.slice aV nV kV)).toArray 49 (0, 0))) ⟨Upd.push _ _, by rw [hrB]; exact get_push_new _ _⟩ ?_
      rw [<- hrB]
      rintro h8 ⟨u8', gr⟩
      have nr : ¬ ((∃ k, rB = d.D k) \/ ∃ k, k < 4 + d.c.n /\ rB = d.c.B k) := fun x => by have := (hD0 _ x).2; omega
      have gx8 := u8'.get gx7 (fun x => x)
      have gd8 := u8'.get gd7 (fun x => x)
      have gg8 := u8'.get gg7 (fun x => x)
      have gf8 := u8'.get gf7 (fun x => x)
      have uu8 := uu7.trans u8'
      have hAn : A.n <= o.length /\ A.n <= n /\ (A.n : Int) = A.b - A.t := by
        have h1 := En.G.tb
        have h2 := En.G.bp
        have h3 := En.G.pm
        have h4 := En.G.room
        have h5 := En.G.t0
        have e1 : d.c.n = n := by rw [hd]
        have e2 : d.c.m = o.length + 1 := by rw [hd]; rfl
        unfold DA.n
        omega
      have hdr : DrR d cap rest A 0 h8 /\ DrQ d A mv 0 h8 := by
        obtain ⟨⟨v, T, q1, q2⟩, ⟨gt, q3, q4⟩⟩ := En.dr
        exact ⟨⟨v, T, q1.upd0 u8', q2⟩, ⟨gt, q3, q4.upd0 u8'⟩⟩
      clear u8' gx7 gd7 gg7 gf7 uu7 hrB
      (repeat (first | refine EK.seq ?_ | refine EK.region ?_ | refine ER.done ?_ | refine EK.block ?_ | refine ER.assign rfl rfl rfl ?_))
      refine EK.loopInv (fun k : Nat => [(19, .int .i64 k), (18, .int .i64 k), (17, ptr rB), (14, ptr (y + 9)), (13, ptr (y + 8)), (9, ptr (y + 4)), (8, ptr (y + 3)), (6, ptr (y + 1)), (4, ptr bd), (2, .bool false), (1, ptr bx)]) (fun k h' δ' => δ' = ⟨0, m⟩ /\ k <= A.n /\ DrR d cap rest A k h' /\ DrQ d A mv k h' /\ Upd (fun b => (∃ k, b = d.D k) \/ ∃ k, k < 4 + d.c.n /\ b = d.c.B k) h8 h') (fun k => A.n - k) 0 ⟨rfl, rfl, rfl, rfl, rfl, rfl, rfl, rfl, rfl, rfl, rfl, trivial⟩ ⟨rfl, Nat.zero_le _, hdr.1, hdr.2, Upd.refl _ _⟩ ?_
      clear hdr
      rintro k h9 δ9 ⟨hδ, hk, dr, dq, u9⟩ again
      subst hδ
      have gx9 := u9.get gx8 nx
      have gd9 := u9.get gd8 nd
      have gg9 := u9.get gg8 ng
      have gf9 := u9.get gf8 nf
      have c3' : hcell h9 ⟨bx, 3, none⟩ = some (.slice aO o.length kO) := hcell_of gx9 rfl
      have cd : hcell h9 ⟨bd, 0, none⟩ = some (ptr (B 0)) := hcell_of gd9 rfl
      have eB : B = d.c.B := by rw [hd]
      rw [eB] at cd gd9
      by_cases hkn : k < A.n
      · have hpop := (dr_pop (Γ := Nat) (main := true) (S := NoS) (δ := ⟨0, m⟩) ok En.G hkn dr (fun _ _ _ x => x)).noS no7
        (repeat (first | refine EK.seq ?_ | refine EK.region ?_ | refine ER.done ?_ | refine EK.skip ?_ | refine EK.block ?_ | refine ER.move rfl rfl rfl ?_ | refine ER.fieldAddr rfl rfl rfl ?_ | refine ER.load1 rfl rfl rfl (hcell_of (by assumption) rfl) ?_ | refine ER.cmpT rfl rfl rfl rfl rfl (by first | (dsimp only [cmpP]; omega) | exact rfl | exact Int.le_refl _) ?_ | refine ER.len1 rfl rfl rfl ?_ | refine EK.condT rfl ?_))
        refine ER.callR rfl rfl rfl rfl rfl hpop ?_
        rintro _ h10 δ10 ⟨rfl, rfl, dr', u10⟩
        have gg10 := u10.get gg9 (fun x => ng (.inr x))
        have gf10 := u10.get gf9 (fun x => nf (.inr x))
        have cf : hcell h10 ⟨y + 9, 0, none⟩ = some (getF y) := hcell_of gf10 rfl
        have dq' : DrQ d A mv k h10 := by
          obtain ⟨gt, q1, q2⟩ := dq
          exact ⟨gt, q1, q2.upd u10 fun k _ ⟨j, hj, e⟩ => apD k j hj e⟩
        have hget := (dr_get (Γ := Nat) (main := true) (S := NoS) (δ := ⟨0, m⟩) (bg := y + 1) En.G hkn dq' (by subst hd; exact gg10) (fun k e => ng (.inl ⟨k, e⟩)) (by subst hd; show o.length + 1 <= 1001; omega) En.cnt (fun _ _ x => x)).noS no7
        have eD : ∀ k, d.D k = dnm y k := by rw [hd]; exact fun k => rfl
        rw [show d.D .wrong = y + 8 from eD .wrong, show d.D .there = y + 4 from eD .there, show d.D .gets = y + 5 from eD .gets] at hget
        clear c3' cd gx9 gd9 gf9 gg9 dr dq
        (repeat (first | refine EK.seq ?_ | refine EK.region ?_ | refine ER.done ?_ | refine EK.skip ?_ | refine ER.move rfl rfl rfl ?_ | refine ER.assign rfl rfl rfl ?_ | refine ER.load1 rfl rfl rfl (hcell_of (by assumption) rfl) ?_ | refine ER.notB rfl rfl rfl ?_ | refine ER.extract rfl rfl rfl rfl ?_ | refine EK.condF rfl ?_))
        refine ER.callR rfl rfl rfl rfl rfl hget ?_
        rintro _ h11 δ11 ⟨rfl, dq11, u11⟩
        have dr11 : DrR d cap rest A (k + 1) h11 := by
          obtain ⟨v, T, q1, q2⟩ := dr'
          exact ⟨v, T, q1.upd u11 fun j hj ⟨k, e⟩ => apD k j hj e.symm, q2⟩
        clear cf hget hpop gg10 gf10
        (repeat (first | refine EK.region ?_ | refine ER.done ?_ | refine EK.inBlock ?_ | refine ER.move rfl rfl rfl ?_ | refine ER.assign rfl rfl rfl ?_ | refine ER.add (kd := .i64) rfl rfl rfl rfl (i64_in (by omega) (by omega)) ?_))
        exact EK.back (again (k + 1) _ _ (by omega) ⟨rfl, by omega, dr11, dq11, (u9.trans (u10.mono fun b _ x => Or.inr x)).trans (u11.mono fun b _ x => Or.inl x)⟩) ⟨rfl, rfl, rfl, rfl, rfl, rfl, rfl, rfl, rfl, rfl, rfl, trivial⟩
      · obtain rfl : k = A.n := by omega
        clear again hk hkn
        obtain ⟨v, T, q1, q2, q3, -⟩ := dr
        rw [Nat.sub_self, show T + ((0 : Nat) : Int) = T by omega] at q3
        have hpop := (dpop_empty2 (Γ := Nat) (main := true) (S := NoS) (δ := ⟨0, m⟩) q1 q2 q3 (fun _ _ _ x => x)).noS no7
        (repeat (first | refine EK.seq ?_ | refine EK.region ?_ | refine ER.done ?_ | refine EK.skip ?_ | refine EK.block ?_ | refine ER.move rfl rfl rfl ?_ | refine ER.fieldAddr rfl rfl rfl ?_ | refine ER.load1 rfl rfl rfl (hcell_of (by assumption) rfl) ?_ | refine ER.cmpT rfl rfl rfl rfl rfl (by first | (dsimp only [cmpP]; omega) | exact rfl | exact Int.le_refl _) ?_ | refine ER.len1 rfl rfl rfl ?_ | refine EK.condT rfl ?_))
        refine ER.callR rfl rfl rfl rfl rfl hpop ?_
        rintro _ h10 δ10 ⟨rfl, rfl, ⟨v', w2, w3, r10⟩, u10⟩
        obtain ⟨gt, hgt, rq⟩ := dq
        replace rq := rq.upd u10 fun k _ ⟨j, hj, e⟩ => apD k j hj e
        have ux : Upd (fun b => (∃ k, b = d.D k) \/ ∃ k, k < 4 + d.c.n /\ b = d.c.B k) h8 h10 := u9.trans (u10.mono fun b _ x => Or.inr x)
        have uuE : Upd (fun _ => False) h h10 := uu8.over ux fun b hb => (hD0 b hb).1
        have gxE := ux.get gx8 nx
        have gdE := ux.get gd8 nd
        have ggE := ux.get gg8 ng
        have grE := ux.get gr nr
        rw [eB] at gdE
        clear hpop q1 q2 q3 u10 u9 gx9 gd9 gg9 gf9 c3' cd ux
        have eD : ∀ k, d.D k = dnm y k := by rw [hd]; exact fun k => rfl
        have cpu : hcell h10 ⟨y + 3, 0, none⟩ = some (.int .i64 A.s.pushed) := by rw [show y + 3 = d.D .pushed from (eD .pushed).symm]; exact dcell rq .pushed rfl (i := 0) rfl
        have cg : hcell h10 ⟨y + 1, 0, none⟩ = some (.slice (some ⟨y, 0, none⟩) (o.length + 1) (o.length + 1)) := hcell_of ggE rfl
        have hpb : 0 <= A.s.pushed /\ A.s.pushed <= o.length := by
          have h2 := En.G.pm
          have e2 : d.c.m = o.length + 1 := by rw [hd]; rfl
          exact ⟨En.cnt.p, by omega⟩
        (repeat (first | refine EK.seq ?_ | refine EK.region ?_ | refine ER.done ?_ | refine EK.block ?_ | refine ER.move rfl rfl rfl ?_ | refine ER.assign rfl rfl rfl ?_ | refine ER.notB rfl rfl rfl ?_ | refine ER.extract rfl rfl rfl rfl ?_ | refine EK.condT rfl ?_ | refine EK.exit rfl ?_))
        refine EK.loopInv (fun w : Nat => [(22, .int .i64 w), (18, .int .i64 A.n), (17, ptr rB), (13, ptr (y + 8)), (9, ptr (y + 4)), (8, ptr (y + 3)), (6, ptr (y + 1)), (4, ptr bd), (2, .bool false), (1, ptr bx)]) (fun w h' δ' => δ' = ⟨0, m⟩ /\ h' = h10 /\ 1 <= w /\ (w : Int) <= A.s.pushed + 1) (fun w => (A.s.pushed + 1).toNat - w) 1 ⟨rfl, rfl, rfl, rfl, rfl, rfl, rfl, rfl, rfl, rfl, trivial⟩ ⟨rfl, rfl, Nat.le_refl _, by omega⟩ ?_
        rintro w h11 δ11 ⟨rfl, rfl, hw1, hw2⟩ again
        by_cases hw : (w : Int) <= A.s.pushed
        · have cw : hcell h11 ⟨y, 0 + w * 1, none⟩ = some (.bool true) := by
            have hw' := dr_all En.G En.hand hgt (x := (w : Int)) (by omega) hw
            rw [show 0 + w * 1 = w by omega, show y = d.D .got from (eD .got).symm]
            exact dcell rq .got rfl (by
              rw [gotC_get (by rw [hd]; show w < o.length + 1; omega)]
              show some (Value.bool (gt w)) = _
              rw [hw'])
          (repeat (first | refine EK.seq ?_ | refine EK.region ?_ | refine ER.done ?_ | refine EK.skip ?_ | refine EK.block ?_ | refine EK.inBlock ?_ | refine ER.move rfl rfl rfl ?_ | refine ER.assign rfl rfl rfl ?_ | refine ER.load1 rfl rfl rfl (hcell_of (by assumption) rfl) ?_ | refine ER.notB rfl rfl rfl ?_ | refine ER.cmpT rfl rfl rfl rfl rfl (by first | (dsimp only [cmpP]; omega) | exact rfl | exact Int.le_refl _) ?_ | refine ER.add (kd := .i64) rfl rfl rfl rfl (i64_in (by omega) (by omega)) ?_ | refine ER.indexSl rfl rfl rfl rfl (by omega) (by omega) ?_ | refine EK.condT rfl ?_ | refine EK.condF rfl ?_ | refine ER.load1 rfl rfl rfl (by assumption) ?_))
          exact EK.back (again (w + 1) _ _ (by omega) ⟨rfl, rfl, by omega, by omega⟩) ⟨rfl, rfl, rfl, rfl, rfl, rfl, rfl, rfl, rfl, rfl, trivial⟩
        · clear again hw1 hw2
          have ce : hcell h11 ⟨rB, 0, none⟩ = some (.int .i8 1) := hcell_of grE rfl
          have cw : hcell h11 ⟨y + 8, 0, none⟩ = some (.bool false) := by rw [show y + 8 = d.D .wrong from (eD .wrong).symm]; exact dcell rq .wrong rfl (i := 0) rfl
          have ct : hcell h11 ⟨y + 4, 0, none⟩ = some (.int .i64 0) := by
            have hth := En.G.there
            rw [En.hand] at hth
            simp only [Option.isSome_none, Bool.false_eq_true, if_false] at hth
            rw [show y + 4 = d.D .there from (eD .there).symm]
            refine dcell rq .there rfl ?_
            show some (Value.int .i64 (A.s.there - A.n)) = _
            rw [show A.s.there - (A.n : Int) = 0 by omega]
          have c0 : hcell h11 ⟨bx, 0, none⟩ = some (.int .i64 n) := hcell_of gxE rfl
          have cd : hcell h11 ⟨bd, 0, none⟩ = some (ptr (d.c.B 0)) := hcell_of gdE rfl
          have hlen := (dlen_ok (Γ := Nat) (main := true) (S := NoS) (δ := ⟨0, m⟩) (c := 0) r10 w2 (by rw [w3, show T + ((0 : Nat) : Int) = T by omega]) (by omega)).noS no7
          clear gxE gdE ggE grE gx8 gd8 gg8 gf8 gr
          (repeat (first | refine EK.seq ?_ | refine EK.region ?_ | refine ER.done ?_ | refine ER.move rfl rfl rfl ?_ | refine ER.fieldAddr rfl rfl rfl ?_ | refine ER.notB rfl rfl rfl ?_ | refine ER.pickT rfl rfl rfl rfl ?_ | refine ER.cmpT rfl rfl rfl rfl rfl (by first | (dsimp only [cmpP]; omega) | exact rfl | exact Int.le_refl _) ?_ | refine ER.cmpF rfl rfl rfl rfl rfl (by first | (dsimp only [cmpP]; omega) | exact rfl | exact Int.le_refl _) ?_ | refine EK.condF rfl ?_ | refine EK.exit rfl ?_ | refine ER.load1 rfl rfl rfl (by assumption) ?_))
          refine ER.callD rfl rfl rfl rfl rfl hlen ?_
          (repeat (first | refine ER.done ?_ | refine ER.assign rfl rfl rfl ?_ | refine ER.pickT rfl rfl rfl rfl ?_ | refine ER.cmpT rfl rfl rfl rfl rfl (by first | (dsimp only [cmpP]; omega) | exact rfl | exact Int.le_refl _) ?_ | refine EK.ret ?_))
          exact EU.ret1 rfl rfl ⟨rfl, rfl, uuE⟩
end
section
open Go Go.TJ Go.Conc Go.Proofs
open Go.ChangeShapes Go.WideShapes Go.ChangeAt Go.RowKit
theorem plain0 {w : World} {a : Addr} {v : Value} (h : w.cell? a = some v) : ∃ b o, a = ⟨b, o, none⟩ /\ b < w.heap.size := by
  have h' : hcell w.heap a = some v := h
  rcases a with ⟨b, o, s⟩
  obtain ⟨c, e, f, h1, h2, _⟩ := hcell_some h'
  obtain rfl : s = none := h2
  exact ⟨b, o, rfl, lt_of_get h1⟩
theorem plainAt {w : World} {b o i : Nat} {v : Value} (h : w.cell? ((⟨b, o, none⟩ : Addr).add i) = some v) : hcell w.heap ⟨b, o + i, none⟩ = some v := by
  rw [add_eq] at h; exact h
section
variable {H : Type} {enc : TypeId × Value -> H} {w : World} {base : Nat} {spare : Nat -> Bool} {held : Bool}
theorem weights_slice {P : Program} {t e : TypeId} (ht : P.underlying t = some (.slice e)) (els sp : List (DataW H)) : (DataW.slice els sp).weights P t = (els.length + sp.length) * P.bytesOf e :: (DataW.weightsAll P e els ++ DataW.weightsAll P e sp) := by
  simp only [DataW.weights, ht]
theorem wf_i64 {z : Int} (h : (Lit.int .i64 z).wf = true) : -9223372036854775808 <= z /\ z <= 9223372036854775807 := by
  unfold Lit.wf at h
  rw [Bool.and_eq_true, decide_eq_true_eq, decide_eq_true_eq] at h
  exact h
theorem wf_u8 {z : Int} (h : (Lit.int .u8 z).wf = true) : 0 <= z /\ z <= 255 := by
  unfold Lit.wf at h
  rw [Bool.and_eq_true, decide_eq_true_eq, decide_eq_true_eq] at h
  exact h
theorem open_int0 {fuel : Nat} {a : Addr} {c : Value} {x : DataW H × List MemPlace} (c0 : w.cell? a = some c) (t0 : DataW.trod enc Try.prog w base spare held fuel 3 [c] = some x) : ∃ z : Int, w.cell? a = some (.int .i64 z) /\ True := by
  obtain ⟨z0, e0, _, hw⟩ := DataW.trod_int Try.underlying3 t0
  have e1 := (List.cons.inj e0).1
  exact ⟨z0, by rw [c0, e1], trivial⟩
theorem open_bool0 {fuel : Nat} {a : Addr} {c : Value} {x : DataW H × List MemPlace} (c0 : w.cell? a = some c) (t0 : DataW.trod enc Try.prog w base spare held fuel 4 [c] = some x) : ∃ z : Bool, w.cell? a = some (.bool z) /\ True := by
  obtain ⟨z0, e0, _⟩ := DataW.trod_bool Try.underlying4 t0
  have e1 := (List.cons.inj e0).1
  exact ⟨z0, by rw [c0, e1], trivial⟩
theorem open_u8 {fuel : Nat} {a : Addr} {c : Value} {x : DataW H × List MemPlace} (c0 : w.cell? a = some c) (t0 : DataW.trod enc Try.prog w base spare held fuel 5 [c] = some x) : ∃ z : Nat, w.cell? a = some (.int .u8 z) /\ z < 256 := by
  obtain ⟨z0, e0, _, hw⟩ := DataW.trod_int Try.underlying5 t0
  have e1 := (List.cons.inj e0).1
  obtain ⟨h1, h2⟩ := wf_u8 hw
  exact ⟨z0.toNat, by rw [c0, e1, show ((z0.toNat : Nat) : Int) = z0 by omega], by omega⟩
theorem open_ints {fuel : Nat} {v : Value} {x : DataW H × List MemPlace} (h : DataW.trod enc Try.prog w base spare held fuel 25 [v] = some x) (hz : ∀ n, n ∈ x.1.weights Try.prog 25 -> n <= reachBytes) :
    ∃ l : List Int, RdS w.heap v (l.map fun x => .int .i64 x) /\ l.length <= 1000000000000000 /\ ∀ z, z ∈ l -> True := by
  rcases Go.Deep.open_slice1 Try.underlying25 (by kernel_rfl) h with ⟨hcs, _⟩ | ⟨a, l, c, m, n, V, D, Pl, hcs, _, hl, hm, hmm, hxe, hx⟩
  · injection hcs with hcs _
    subst hcs
    exact ⟨[], ⟨⟨none, 0, rfl⟩, fun i v hv => by cases hv⟩, Nat.zero_le _, fun _ hz => by cases hz⟩
  · injection hcs with hcs _
    subst hcs
    have hbig : l <= 1000000000000000 := by
      have hb : Try.prog.bytesOf 3 = 8 := by kernel_rfl
      have := hz _ (by rw [hxe, weights_slice Try.underlying25]; exact List.mem_cons_self ..)
      rw [hb] at this
      simp only [List.length_map, List.length_range, reachBytes] at this
      omega
    have hlm : l <= m := by rw [hmm]; split <;> omega
    obtain ⟨f, hf⟩ := Go.Deep.choose_lt (n := l) (p := fun i (x : Int) => w.cell? (a.add i) = some (Value.int .i64 x) /\ (fun _ => True) x) (fun i hi => by
      obtain ⟨c0, t0⟩ := hx i (by omega)
      exact open_int0 c0 t0)
    refine ⟨(List.range l).map f, ⟨⟨some a, c, by simp⟩, fun i v hv => ?_⟩, by rw [List.length_map, List.length_range]; exact hbig, fun z hz => ?_⟩
    · rw [List.getElem?_map] at hv
      obtain ⟨z, hv', rfl⟩ := Option.map_eq_some_iff.1 hv
      rw [List.getElem?_map] at hv'
      obtain ⟨j', hj', rfl⟩ := Option.map_eq_some_iff.1 hv'
      have hjl : i < l := by
        have := (List.getElem?_eq_some_iff.1 hj').1
        rwa [List.length_range] at this
      rw [List.getElem?_range hjl] at hj'
      injection hj' with hj'
      subst hj'
      obtain ⟨b', o', rfl, hb⟩ := plain0 (a := a) (by have := (hf 0 (by omega)).1; exact this)
      exact ⟨b', o', c, by simp, by rw [Nat.mul_one]; exact plainAt (hf i hjl).1⟩
    · obtain ⟨i, hi, rfl⟩ := List.mem_map.1 hz
      exact (hf i (List.mem_range.1 hi)).2
theorem open_bools {fuel : Nat} {v : Value} {x : DataW H × List MemPlace} (h : DataW.trod enc Try.prog w base spare held fuel 63 [v] = some x) (hz : ∀ n, n ∈ x.1.weights Try.prog 63 -> n <= reachBytes) :
    ∃ l : List Bool, RdS w.heap v (l.map fun x => .bool x) /\ l.length <= 1000000000000000 /\ ∀ z, z ∈ l -> True := by
  rcases Go.Deep.open_slice1 Try.underlying63 (by kernel_rfl) h with ⟨hcs, _⟩ | ⟨a, l, c, m, n, V, D, Pl, hcs, _, hl, hm, hmm, hxe, hx⟩
  · injection hcs with hcs _
    subst hcs
    exact ⟨[], ⟨⟨none, 0, rfl⟩, fun i v hv => by cases hv⟩, Nat.zero_le _, fun _ hz => by cases hz⟩
  · injection hcs with hcs _
    subst hcs
    have hbig : l <= 1000000000000000 := by
      have hb : Try.prog.bytesOf 4 = 1 := by kernel_rfl
      have := hz _ (by rw [hxe, weights_slice Try.underlying63]; exact List.mem_cons_self ..)
      rw [hb] at this
      simp only [List.length_map, List.length_range, reachBytes] at this
      omega
    have hlm : l <= m := by rw [hmm]; split <;> omega
    obtain ⟨f, hf⟩ := Go.Deep.choose_lt (n := l) (p := fun i (x : Bool) => w.cell? (a.add i) = some (Value.bool x) /\ (fun _ => True) x) (fun i hi => by
      obtain ⟨c0, t0⟩ := hx i (by omega)
      exact open_bool0 c0 t0)
    refine ⟨(List.range l).map f, ⟨⟨some a, c, by simp⟩, fun i v hv => ?_⟩, by rw [List.length_map, List.length_range]; exact hbig, fun z hz => ?_⟩
    · rw [List.getElem?_map] at hv
      obtain ⟨z, hv', rfl⟩ := Option.map_eq_some_iff.1 hv
      rw [List.getElem?_map] at hv'
      obtain ⟨j', hj', rfl⟩ := Option.map_eq_some_iff.1 hv'
      have hjl : i < l := by
        have := (List.getElem?_eq_some_iff.1 hj').1
        rwa [List.length_range] at this
      rw [List.getElem?_range hjl] at hj'
      injection hj' with hj'
      subst hj'
      obtain ⟨b', o', rfl, hb⟩ := plain0 (a := a) (by have := (hf 0 (by omega)).1; exact this)
      exact ⟨b', o', c, by simp, by rw [Nat.mul_one]; exact plainAt (hf i hjl).1⟩
    · obtain ⟨i, hi, rfl⟩ := List.mem_map.1 hz
      exact (hf i (List.mem_range.1 hi)).2
theorem open_u8s {fuel : Nat} {v : Value} {x : DataW H × List MemPlace} (h : DataW.trod enc Try.prog w base spare held fuel 96 [v] = some x) (hz : ∀ n, n ∈ x.1.weights Try.prog 96 -> n <= reachBytes) :
    ∃ l : List Nat, RdS w.heap v (l.map fun (x : Nat) => .int .u8 x) /\ l.length <= 1000000000000000 /\ ∀ z, z ∈ l -> z < 256 := by
  rcases Go.Deep.open_slice1 Try.underlying96 (by kernel_rfl) h with ⟨hcs, _⟩ | ⟨a, l, c, m, n, V, D, Pl, hcs, _, hl, hm, hmm, hxe, hx⟩
  · injection hcs with hcs _
    subst hcs
    exact ⟨[], ⟨⟨none, 0, rfl⟩, fun i v hv => by cases hv⟩, Nat.zero_le _, fun _ hz => by cases hz⟩
  · injection hcs with hcs _
    subst hcs
    have hbig : l <= 1000000000000000 := by
      have hb : Try.prog.bytesOf 5 = 1 := by kernel_rfl
      have := hz _ (by rw [hxe, weights_slice Try.underlying96]; exact List.mem_cons_self ..)
      rw [hb] at this
      simp only [List.length_map, List.length_range, reachBytes] at this
      omega
    have hlm : l <= m := by rw [hmm]; split <;> omega
    obtain ⟨f, hf⟩ := Go.Deep.choose_lt (n := l) (p := fun i (x : Nat) => w.cell? (a.add i) = some ((fun (x : Nat) => Value.int .u8 x) x) /\ (fun (x : Nat) => x < 256) x) (fun i hi => by
      obtain ⟨c0, t0⟩ := hx i (by omega)
      exact open_u8 c0 t0)
    refine ⟨(List.range l).map f, ⟨⟨some a, c, by simp⟩, fun i v hv => ?_⟩, by rw [List.length_map, List.length_range]; exact hbig, fun z hz => ?_⟩
    · rw [List.getElem?_map] at hv
      obtain ⟨z, hv', rfl⟩ := Option.map_eq_some_iff.1 hv
      rw [List.getElem?_map] at hv'
      obtain ⟨j', hj', rfl⟩ := Option.map_eq_some_iff.1 hv'
      have hjl : i < l := by
        have := (List.getElem?_eq_some_iff.1 hj').1
        rwa [List.length_range] at this
      rw [List.getElem?_range hjl] at hj'
      injection hj' with hj'
      subst hj'
      obtain ⟨b', o', rfl, hb⟩ := plain0 (a := a) (by have := (hf 0 (by omega)).1; exact this)
      exact ⟨b', o', c, by simp, by rw [Nat.mul_one]; exact plainAt (hf i hjl).1⟩
    · obtain ⟨i, hi, rfl⟩ := List.mem_map.1 hz
      exact (hf i (List.mem_range.1 hi)).2
set_option maxRecDepth 100000 in
theorem open_den {fuel : Nat} {cs : List Value} {x : DataW H × List MemPlace} (h : DataW.trod enc Try.prog w base spare held fuel 98 cs = some x) (hz : ∀ n, n ∈ x.1.weights Try.prog 98 -> n <= reachBytes) :
    ∃ (N fr bs : Int) (oS tS pS : Value) (o : List Bool) (ths : List Nat) (picks : List Int), cs = [.int .i64 N, .int .i64 fr, .int .i64 bs, oS, tS, pS] /\ RdS w.heap oS (o.map fun x => .bool x) /\ RdS w.heap tS (ths.map fun (x : Nat) => .int .u8 x) /\ RdS w.heap pS (picks.map fun x => .int .i64 x) /\ W64 fr = fr /\ (o.length <= 1000000000000000 /\ ths.length <= 1000000000000000 /\ picks.length <= 1000000000000000) /\ ∀ x, x ∈ ths -> x < 256 := by
  obtain ⟨xs, n, -, hxe, hl, hxl, hfs⟩ := DataW.trod_struct Try.underlying98 h
  have h3 : Try.prog.cellsOf 98 = 6 := by kernel_rfl
  have hm1 : Try.prog.cellsOf 77 = 3 := by kernel_rfl
  have hs1 : Try.prog.cellsOf 63 = 1 := by kernel_rfl
  have hu1 : Try.prog.cellsOf 96 = 1 := by kernel_rfl
  have hp1 : Try.prog.cellsOf 25 = 1 := by kernel_rfl
  have hi1 : Try.prog.cellsOf 3 = 1 := by kernel_rfl
  have hi2 : Try.prog.cellsOf 2 = 1 := by kernel_rfl
  rw [h3] at hl
  obtain ⟨c0, c1, c2, c3, c4, c5, rfl⟩ : ∃ c0 c1 c2 c3 c4 c5, cs = [c0, c1, c2, c3, c4, c5] := by
    match cs, hl with
    | [c0, c1, c2, c3, c4, c5], _ => exact ⟨c0, c1, c2, c3, c4, c5, rfl⟩
  obtain ⟨x0, x1, x2, x3, rfl⟩ : ∃ c0 c1 c2 c3, xs = [c0, c1, c2, c3] := by
    match xs, hxl with
    | [c0, c1, c2, c3], _ => exact ⟨c0, c1, c2, c3, rfl⟩
  have f0 := hfs 0 _ rfl
  have f1 := hfs 1 _ rfl
  have f2 := hfs 2 _ rfl
  have f3 := hfs 3 _ rfl
  simp [hm1, hs1, hu1, hp1] at f0 f1 f2 f3
  have hw : x.1.weights Try.prog 98 = x0.1.weights Try.prog 77 ++ (x1.1.weights Try.prog 63 ++ (x2.1.weights Try.prog 96 ++ (x3.1.weights Try.prog 25 ++ []))) := by
    rw [hxe]
    simp only [DataW.weights, Try.underlying98]
    rfl
  rw [hw] at hz
  obtain ⟨o, ho, hol, -⟩ := open_bools f1 (fun n hn => hz n (List.mem_append_right _ (List.mem_append_left _ hn)))
  obtain ⟨ths, ht, htl, htu⟩ := open_u8s f2 (fun n hn => hz n (List.mem_append_right _ (List.mem_append_right _ (List.mem_append_left _ hn))))
  obtain ⟨picks, hp, hpl, -⟩ := open_ints f3 (fun n hn => hz n (List.mem_append_right _ (List.mem_append_right _ (List.mem_append_right _ (List.mem_append_left _ hn)))))
  obtain ⟨ys, n', -, -, -, hyl, hgs⟩ := DataW.trod_struct Try.underlying77 f0
  obtain ⟨y0, y1, y2, rfl⟩ : ∃ y0 y1 y2, ys = [y0, y1, y2] := by
    match ys, hyl with
    | [y0, y1, y2], _ => exact ⟨y0, y1, y2, rfl⟩
  have g0 := hgs 0 _ rfl
  simp [hi1] at g0
  obtain ⟨z0, e0, _, _⟩ := DataW.trod_int Try.underlying3 g0
  simp at e0
  have g1 := hgs 1 _ rfl
  simp [hi2] at g1
  obtain ⟨z1, e1, _, w1⟩ := DataW.trod_int Try.underlying2 g1
  simp at e1
  have g2 := hgs 2 _ rfl
  simp [hi1] at g2
  obtain ⟨z2, e2, _, _⟩ := DataW.trod_int Try.underlying3 g2
  simp at e2
  refine ⟨z0, z1, z2, c3, c4, c5, o, ths, picks, by rw [e0, e1, e2], ho, ht, hp, ?_, ⟨hol, htl, hpl⟩, htu⟩
  have hr : -9223372036854775808 <= z1 /\ z1 <= 9223372036854775807 := wf_i64 w1
  simp only [W64, IntKind.wrap_i64]
  omega
end
end
end Go.Proofs.Ytcpcdnkemobneaa
namespace Go.Proofs.Ytcpcdnkemobneaa.dequeOnce
section
open Go.ChangeShapes Go.WideShapes Go.ChangeAt Go.RowKit Go.Conc Go.ConcM
theorem own : ownKnob Try.prog.godebug = none := by kernel_rfl
theorem laidOut : laidOutB Try.prog = true := by kernel_rfl
set_option maxRecDepth 100000 in
theorem lifted (os : Os) (started : os.Started) (H : Type) (enc : TypeId × Value -> H) (F : Stop.Interp) :
    ReturnsInLeavingWide Rows.dequeOnceRow.assume Try.checked os 7 .any (Rows.dequeOnceSpec.pre6 enc Try.prog Try.f7 Rows.dequeOnceRow.domain false) ((OpenSpec.ofChange Rows.dequeOnceSpec).postWith enc Try.prog Try.f7 F (outsideKept [.timePasses]) false true false) := by
  refine returnsInLeavingWide_of_change_time (C := Try.checked) own started Try.func7
    (ChangeSpec.witness6c (enc := enc) (C := Try.checked) ⟨#[], #[.agg #[.int .i64 0, .int .i64 0, .int .i64 0, .slice none 0 0, .slice none 0 0, .slice none 0 0]], []⟩ 8 (by kernel_rfl) (by kernel_rfl) (by kernel_rfl) (by kernel_rfl)) ?_
  intro W base args ds gs before hval0 hW _ hsz0 _
  have hval : ∀ (j : Nat) t v, Try.f7.params[j]? = some t -> args[j]? = some v -> Value.okWide Try.prog W .any base t v := hval0
  have hsz : (DataW.weightsEach Try.prog (Try.f7.params.toList ++ Rows.dequeOnceSpec.plain.varTypes Try.prog) (ds ++ gs)).all (· <= reachBytes) = true := hsz0
  have hW' := hW
  obtain ⟨p, q, hA0, hV, rfl, hfz, hnd⟩ := hW
  have hA : DataW.TrodAll enc Try.prog W 0 (fun _ => true) true Try.f7.params.toList args.toList ds p := hA0
  rw [Try.params7] at hA hval hsz
  obtain ⟨v0, vs0, d0, ds0, p0, q0, hargs0, rfl, rfl, h0, r0⟩ := trodAll_cons hA
  obtain ⟨rfl, rfl, rfl⟩ := trodAll_nil r0
  obtain rfl : args = #[v0] := by cases args; simp_all
  obtain ⟨rfl, rfl⟩ := trodVars_none hV
  obtain ⟨cs0, rfl, hcs0⟩ := okWide_struct Try.underlying98 (hval 0 98 v0 rfl rfl)
  have k0 := h0
  have lt0 : ∀ x ∈ p0, x.block < W.heap.size := by obtain ⟨m, hm⟩ := k0; exact DataW.trod_lt m _ _ _ hm
  obtain ⟨N, fr, bs, oS, tS, pS, o, ths, picks, ecs, ho, ht, hp, hfr, big, u8⟩ : ∃ (N fr bs : Int) (oS tS pS : Value) (o : List Bool) (ths : List Nat) (picks : List Int), cs0 = #[.int .i64 N, .int .i64 fr, .int .i64 bs, oS, tS, pS] /\ RdS W.heap oS (o.map fun x => .bool x) /\ RdS W.heap tS (ths.map fun (x : Nat) => .int .u8 x) /\ RdS W.heap pS (picks.map fun x => .int .i64 x) /\ W64 fr = fr /\ (o.length <= 1000000000000000 /\ ths.length <= 1000000000000000 /\ picks.length <= 1000000000000000) /\ ∀ x, x ∈ ths -> x < 256 := by
    obtain ⟨m, hm⟩ := h0
    obtain ⟨N, fr, bs, oS, tS, pS, o, ths, picks, e, r⟩ := open_den (cs := cs0.toList) hm (fun n hn => by
      have := List.all_eq_true.1 hsz n (DataW.weights_mem_each (j := 0) (t := 98) rfl rfl n hn)
      exact of_decide_eq_true this)
    exact ⟨N, fr, bs, oS, tS, pS, o, ths, picks, by cases cs0; simp at e; subst e; rfl, r⟩
  subst ecs
  clear hA0 hval0
  obtain ⟨M, last, o, w', t', z1, z2, z3, v, e, ⟨⟨rfl, hu⟩, hs⟩, g1, g2, g3, g4⟩ := Go.TJ.sw_run (f := 7) (args := #[.agg #[.int .i64 N, .int .i64 fr, .int .i64 bs, oS, tS, pS]]) (W := W) (R := fun v h' => v = .bool true /\ Go.TJ.Upd (fun _ => False) W.heap h') (by kernel_rfl)
    ((donce_ok ho ht hp hfr big u8).mono (by
      rintro (w | w) h' δ' x
      · obtain ⟨x1, x2, x3⟩ := x
        exact ⟨x1, x2, x3⟩
      · exact x.elim))
  refine ⟨M, last, o, w', t', z1, z2, z3, _, e, ⟨?_, by rw [hs.os]; exact OsLater.refl _⟩, g1, g2, g3, g4⟩
  have hbel : Below W.heap.size W { w' with os := W.os } := ⟨rfl, hs.tape, hs.output, hu.size, fun k hk => hu.same k hk (fun x => x)⟩
  exact ⟨_, _, _, [], _, [], hW', trodAll_mk1 (shut_bool Try.underlying4 _), (trodAll_cons_mk (Below.trod laidOut (by kernel_rfl) (of_decide_eq_true (by kernel_rfl)) k0 hbel lt0) trodAll_mk0), rfl, hbel.frame _, fun h => by cases h⟩
theorem proved : Rows.DequeOnceSaid :=
  OpenClaim.holds_of_wide_leaving_time 7 Try.f7 rfl rfl rfl rfl rfl rfl rfl ⟨rfl, rfl, rfl, rfl, rfl⟩ rfl rfl rfl rfl rfl (by kernel_rfl) Try.func7 (by kernel_rfl)
    (of_decide_eq_true (by kernel_rfl)) (by unfold Func.isWrapper; first | (rw [if_pos (by decide +kernel)]; kernel_rfl) | (rw [if_neg (by decide +kernel)]; exact ⟨rfl, rfl⟩))
    (fun os started H enc _ F => lifted os started H enc F)
#print axioms proved
end
end Go.Proofs.Ytcpcdnkemobneaa.dequeOnce
