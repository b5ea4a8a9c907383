/- Steps of the walk and of the plain law (CountYPl to WkK). Conditions: as each lemma says. -/
import Derived.Test.YtcpcdnkemobneaaCQE
namespace Go.Proofs.Ytcpcdnkemobneaa
section
open Go Go.TJ Go.Conc Go.Proofs
theorem exists_idxG {K : Type} [Inhabited K] {cs : K -> Prop} {B : K -> Nat} (inj : ∀ j k, cs j -> cs k -> B j = B k -> j = k) : ∃ idx : Nat -> K, ∀ k, cs k -> idx (B k) = k := by
  classical
  refine ⟨fun b => if h : ∃ k, cs k /\ B k = b then Classical.choose h else default, fun k hk => ?_⟩
  have h : ∃ j, cs j /\ B j = B k := ⟨k, hk, rfl⟩
  simp only [dif_pos h]
  exact inj _ _ (Classical.choose_spec h).1 hk (Classical.choose_spec h).2
structure LpI (base : Nat) (Mm : Mem Nat) (c0 p0 k0 : Nat) (sc : List (List GCall)) (h00 : Hp) (pB sB S0 T : Nat) (n0 pk tk : Int) (scv pv bv : Value) (iBs : List Nat) (y i : Nat) (h : Hp) : Prop where
  up : Upd (fun _ => False) h00 h
  rep : Rep h Mm
  p : h[pB]? = some (.cells #[.int .i64 n0, .int .i64 pk, .int .i64 tk, scv, pv] 110 (0, 0))
  s : h[sB]? = some (.cells #[ptr S0] 111 (0, 0))
  st : h[S0]? = some (stgO c0 p0 k0 T sc.length (0, pk, 0, false))
  t : h[T]? = some (.cells (List.replicate sc.length nilS).toArray 120 (0, 0))
  bods : SliceO h bv 45 1 i (iBs.map fun b => sfunV pB sB b)
  nb : ∀ b, blk bv = some b -> base <= b
  ib : iBs.length = i
  ibx : ∀ (j b : Nat), iBs[j]? = some b -> h[b]? = some (.cells #[.int .i64 (j : Int)] 3 (0, 0))
  box : h[y]? = some (.cells #[.int .i64 i] 3 (0, 0))
section
variable {base : Nat} {Mm : Mem Nat} {cs : Nat -> Prop} {v1 : Nat -> Int} {c0 p0 k0 : Nat} {sc : List (List GCall)} {n0 pk tk : Int} {h00 h h' : Hp} {pB sB S0 T : Nat} {scv pv bv bv' : Value} {iBs : List Nat} {y i : Nat}
theorem LpI.next (tg : Thg Mm cs v1) (I : LpI base Mm c0 p0 k0 sc h00 pB sB S0 T n0 pk tk scv pv bv iBs y i h) (hb : base <= h.size) (_hbase : base <= h00.size) {h1 : Hp} (u : Upd (fun b => blk bv = some b) h h1) (sl : SliceO h1 bv' 45 1 (i + 1) ((iBs.map fun b => sfunV pB sB b) ++ [sfunV pB sB y])) (hbb : ∀ b, blk bv' = some b -> blk bv = some b \/ h.size <= b) (ns : ∀ b, blk bv = some b -> h00.size <= b) :
    LpI base Mm c0 p0 k0 sc h00 pB sB S0 T n0 pk tk scv pv bv' (iBs ++ [y]) h1.size (i + 1) (h1.push (.cells #[.int .i64 ((i + 1 : Nat) : Int)] 3)) := by
  have keep : ∀ {q : Nat} {a : Array Value} {t : TypeId}, h[q]? = some (.cells a t (0, 0)) -> t ≠ 45 -> (h1.push (.cells #[.int .i64 ((i + 1 : Nat) : Int)] 3))[q]? = some (.cells a t (0, 0)) := fun hq ht => get_push _ (u.get hq (fun e => sliceO_ne I.bods hq (Ne.symm ht) _ e rfl))
  have e1 : (iBs ++ [y]).map (fun b => sfunV pB sB b) = (iBs.map fun b => sfunV pB sB b) ++ [sfunV pB sB y] := by rw [List.map_append]; rfl
  refine ⟨(I.up.over u ns).trans (Upd.push _ _), ⟨fun k hk => ?_, I.rep.inj⟩, keep I.p (by decide), keep I.s (by decide), keep I.st (by decide), keep I.t (by decide), ?_, fun b hb' => (hbb b hb').elim (I.nb b) (fun z => Nat.le_trans hb z), by rw [List.length_append, I.ib]; rfl, fun j b hj => ?_, get_push_new _ _⟩
  · have := I.rep.has k hk
    by_cases hc : cs k
    · rw [tg.cel k hc] at this ⊢
      exact keep this (by decide)
    · obtain ⟨a, t, e, t1, t2, t3, t4⟩ := tg.oth k hk hc
      rw [e] at this ⊢
      exact keep this t1
  · rw [e1]
    exact sl.upd (Upd.push (T := fun _ => False) _ _) (fun _ _ z => z)
  · by_cases e : j < iBs.length
    · rw [List.getElem?_append_left e] at hj
      exact keep (I.ibx j b hj) (by decide)
    · rw [List.getElem?_append_right (by omega)] at hj
      have : j - iBs.length = 0 := by
        rcases Nat.eq_zero_or_pos (j - iBs.length) with z | z
        · exact z
        · rw [List.getElem?_eq_none (by rw [List.length_singleton]; exact z)] at hj; cases hj
      rw [this] at hj
      have ey : y = b := by simpa using hj
      have ej : j = i := by rw [<- I.ib]; omega
      subst ey ej
      exact keep I.box (by decide)
end
set_option maxRecDepth 8000 in
set_option maxHeartbeats 40000000 in
theorem splays_ok {n cap f S0 T kS : Nat} {aS : Option Addr} {rest : List Value} {B : Nat -> Nat} {h hA : Hp} {pv : Value} {sc : List (List GCall)} {picks : List Int} {pk tk : Int} (hs : ScrM h.size h (.slice aS sc.length kS) sc) (hp : RdS h pv (picks.map fun x => .int .i64 x)) (uu : Upd (fun _ => False) h hA) (p2k : picks.length <= 2000) (l8 : sc.length <= 8) (small : ∀ l, l ∈ sc -> l.length <= 500) (hn1 : 1 <= n) (hn : n <= 64)
    (gS : hA[S0]? = some (stgO (B 0) (B 2) (B 3) T sc.length (0, pk, 0, false))) (gT : hA[T]? = some (.cells (List.replicate sc.length nilS).toArray 120 (0, 0))) (r3' : Rep hA (cfM n cap rest B pk tk)) (lowB : ∀ k, (cfM n cap rest B pk tk).ok k -> h.size <= (cfM n cap rest B pk tk).B k) (lS : h.size <= S0) (lT : h.size <= T) (hf : 65536 < f) {idx : Nat -> Nat} (hidx : ∀ k, csC n k -> idx (B k) = k) :
    CallW Try.prog true (SwS Try.prog) 49 #[ptr S0, .agg #[.int .i64 (n : Int), .int .i64 pk, .int .i64 tk, .slice aS sc.length kS, pv]] hA ⟨0, 1⟩ (Ret fun v h' δ' => (∃ m, δ' = ⟨0, m⟩) /\ ∃ (hN h7 : Hp) (pv2 bv : Value) (p : PS (UsT (tcG (cfM n cap rest B pk tk) (csC n) (callC n B tk f) sc hN T S0 (B 0) (B 2) (B 3) pv2 bv)).U) (e : Int) (lL lW lY lV : Value), v = .agg (repL e p.log.length lL lW lY lV).toArray /\
      Ended (UsT (tcG (cfM n cap rest B pk tk) (csC n) (callC n B tk f) sc hN T S0 (B 0) (B 2) (B 3) pv2 bv)) (fun b => v1C n pk tk (idx b)) picks sc.length 16384 p e lL lW lY lV h7 /\ Upd (fun _ => False) h h' /\ hA.size <= h'.size /\ (∀ b, b < hA.size -> ¬ isCG (cfM n cap rest B pk tk) (csC n) b -> b ≠ T -> b ≠ S0 -> h'[b]? = hA[b]?) /\
      h'[S0]? = some (stgO (B 0) (B 2) (B 3) T sc.length p.u.2) /\ h'[T]? = some (.cells ((List.range sc.length).map fun i => (p.u.1 i).2).toArray 120 (0, 0)) /\ (∀ i, i < sc.length -> SliceO h' (p.u.1 i).2 116 3 (p.u.1 i).1.length ((p.u.1 i).1.flatMap gansL)) /\
      RecM (recOf p (fun b => v1C n pk tk (idx b)) sc.length 16384 e) picks lL lW lY lV pv h') := by
  have no : ∀ a, ¬ (SwS Try.prog).still 1 a := fun a x => x
  have tg : Thg (cfM n cap rest B pk tk) (csC n) (v1C n pk tk) := cf_tg
  obtain ⟨Mm, hMm⟩ : ∃ Mm, Mm = cfM n cap rest B pk tk := ⟨_, rfl⟩
  have eB : Mm.B = B := by rw [hMm]; rfl
  rw [<- hMm] at r3' lowB tg ⊢
  refine CallW.start (n := 24) rfl rfl ?_
  obtain ⟨sB, hsB⟩ : ∃ sB, sB = hA.size := ⟨_, rfl⟩
  obtain ⟨pB, hpB⟩ : ∃ pB, pB = hA.size + 1 := ⟨_, rfl⟩
  obtain ⟨yR, hyR⟩ : ∃ yR, yR = hA.size + 1 + 1 := ⟨_, rfl⟩
  (repeat (first | refine EK.seq ?_ | refine EK.region ?_ | refine ER.done ?_))
  (repeat (first | refine ER.boxA rfl rfl rfl ?_ | refine ER.box rfl rfl rfl ?_ | refine ER.allocA rfl rfl ?_))
  (repeat (first | refine EK.seq ?_ | refine EK.region ?_ | refine ER.done ?_))
  simp only [Array.size_push]
  refine ER.gen (fun h' => Upd (fun _ => False) hA h' /\ hA.size + 1 + 1 < h'.size /\ h'[sB]? = some (.cells #[ptr S0] 111 (0, 0)) /\ h'[pB]? = some (.cells #[.int .i64 (n : Int), .int .i64 pk, .int .i64 tk, .slice aS sc.length kS, pv] 110 (0, 0)) /\ h'[yR]? = some (.cells #[.int .i8 0, .int .i64 0, nilS, nilS, nilS, nilS, nilS] 49 (0, 0))) ⟨((Upd.push _ _).trans (Upd.push _ _)).trans (Upd.push _ _), by simp only [Array.size_push]; omega, ?_, ?_, ?_⟩ ?_
  · rw [hsB]; exact get_push _ (get_push _ (get_push_new _ _))
  · have := get_push (o := .cells #[.int .i8 0, .int .i64 0, nilS, nilS, nilS, nilS, nilS] 49) (get_push_new (hA.push (.cells #[ptr S0] 111)) (.cells #[.int .i64 (n : Int), .int .i64 pk, .int .i64 tk, .slice aS sc.length kS, pv] 110))
    rw [Array.size_push] at this
    rw [hpB]; exact this
  · have := get_push_new ((hA.push (.cells #[ptr S0] 111)).push (.cells #[.int .i64 (n : Int), .int .i64 pk, .int .i64 tk, .slice aS sc.length kS, pv] 110)) (.cells #[.int .i8 0, .int .i64 0, nilS, nilS, nilS, nilS, nilS] 49)
    rw [Array.size_push, Array.size_push] at this
    rw [hyR]; exact this
  rw [<- hyR, <- hpB, <- hsB]
  rintro hB ⟨uB, szB, gs, gp, gR⟩
  replace gS := uB.get gS (fun x => x)
  replace gT := uB.get gT (fun x => x)
  replace r3' := r3'.upd0 uB
  have uuB := uu.trans uB
  have hAB : hA.size <= hB.size := uB.size
  have hh : h.size <= hB.size := uuB.size
  have hhA : h.size <= hA.size := uu.size
  (repeat (first | refine EK.seq ?_ | refine EK.region ?_ | refine ER.done ?_ | refine ER.assign rfl rfl rfl ?_ | refine ER.alloc rfl rfl ?_))
  refine ER.storeNew rfl rfl rfl rfl ⟨nofun, nofun⟩ (no _) ?_
  obtain ⟨bs, hbs⟩ : ∃ bs, bs = hB.size := ⟨_, rfl⟩
  obtain ⟨y0, hy0⟩ : ∃ y0, y0 = hB.size := ⟨_, rfl⟩
  have u5 := Upd.push (T := fun _ => False) hB (.cells #[.int .i64 0] 3)
  refine ER.gen (fun h' => LpI bs Mm (B 0) (B 2) (B 3) sc hB pB sB S0 T (n : Int) pk tk (.slice aS sc.length kS) pv nilS [] y0 0 h') ⟨u5, r3'.upd0 u5, u5.get gp (fun x => x), u5.get gs (fun x => x), u5.get gS (fun x => x), u5.get gT (fun x => x), SliceO.nil, fun b hb => (by cases hb), rfl, fun j b hj => (by cases hj), by rw [hy0]; exact get_push_new _ _⟩ ?_
  rw [<- hy0]
  clear u5 hy0 r3' gp gs gS gT
  intro h5 I
  (repeat (first | refine ER.done ?_ | refine EK.block ?_))
  refine EK.loopInv (fun q : Nat × Nat × Value × List Nat => [(6, ptr q.2.1), (5, q.2.2.1), (4, ptr yR), (3, ptr pB), (2, ptr sB)]) (fun q h' δ' => δ' = ⟨0, 1⟩ /\ q.1 <= sc.length /\ LpI bs Mm (B 0) (B 2) (B 3) sc hB pB sB S0 T (n : Int) pk tk (.slice aS sc.length kS) pv q.2.2.1 q.2.2.2 q.2.1 q.1 h') (fun q => sc.length - q.1) (0, y0, nilS, []) ⟨rfl, rfl, rfl, rfl, rfl, trivial⟩ ⟨rfl, Nat.zero_le _, I⟩ ?_
  clear I y0 h5
  rintro ⟨i, y, bv, iBs⟩ h5 δ5 ⟨hδ, hi, I⟩ again
  dsimp only at hδ hi I again ⊢
  subst hδ
  have bx := I.box
  have gp := I.p
  by_cases hin : i < sc.length
  · obtain ⟨aB, kB, eB'⟩ := I.bods.val
    subst eB'
    (repeat (first | refine EK.seq ?_ | refine EK.region ?_ | refine ER.done ?_ | refine EK.skip ?_ | refine EK.block ?_ | refine ER.move rfl rfl rfl ?_ | refine ER.fieldAddr rfl rfl rfl ?_ | refine ER.load1 rfl rfl rfl (hcell_of (by assumption) rfl) ?_ | refine ER.cmpT rfl rfl rfl rfl rfl (by first | (dsimp only [cmpP]; omega) | exact rfl | exact Int.le_refl _) ?_ | refine ER.len1 rfl rfl rfl ?_ | refine EK.condT rfl ?_))
    refine ER.makeFunc (fv := #[]) (cv := #[ptr pB, ptr y, ptr sB]) rfl rfl (fun ρ hρ => ⟨map_ofL hρ (vs := []) rfl, map_ofL hρ (vs := [ptr pB, ptr y, ptr sB]) rfl⟩) ?_
    refine ER.slice1 (sz := 1) (z := .nilFunc) (cells := #[sfunV pB sB y]) rfl rfl rfl (by omega) (by omega) (by rfl) rfl ?_
    have u6 := Upd.push (T := fun _ => False) h5 (.cells #[sfunV pB sB y] 45)
    have bb5 : bs <= h5.size := by rw [hbs]; exact I.up.size
    refine ER.append1 (new := [sfunV pB sB y]) rfl rfl rfl rfl (I.bods.upd u6 (fun _ _ z => z)) (get_push_new _ _) rfl (by simp [OneCell]) (by omega) (by omega) (by rfl) (fun _ _ _ => no _) ?_
    intro s7 h7 sl7 u7 hb7
    have uu7 : Upd (fun b => blk (.slice aB i kB) = some b) h5 h7 := upd_then (u6.mono (fun _ _ z => z.elim)) u7 (fun _ _ z => z)
    have I7 := I.next tg bb5 (Nat.le_of_eq hbs) uu7 sl7 (fun b hb => (hb7 b hb).imp id (fun e => by rw [e, Array.size_push]; omega)) (fun b hb => hbs ▸ I.nb b hb)
    have bx7 : h7[y]? = some (.cells #[.int .i64 i] 3 (0, 0)) := uu7.get bx (fun e => sliceO_ne I.bods bx (by decide) y e rfl)
    clear I u6 sl7 u7 hb7 uu7 bx gp
    (repeat (first | refine EK.seq ?_ | refine EK.region ?_ | refine ER.done ?_ | refine EK.inBlock ?_ | refine ER.assign rfl rfl rfl ?_ | refine ER.load1 rfl rfl rfl (hcell_of (by assumption) rfl) ?_ | refine ER.alloc rfl rfl ?_))
    refine ER.storeNew rfl rfl rfl rfl ⟨nofun, nofun⟩ (no _) ?_
    have g8 := get_push_new h7 (.cells #[.int .i64 i] 3)
    (repeat (first | refine EK.region ?_ | refine ER.done ?_ | refine ER.load1 rfl rfl rfl (hcell_of (by assumption) rfl) ?_ | refine ER.add (kd := .i64) rfl rfl rfl rfl (i64_in (by omega) (by omega)) ?_))
    refine ER.store1 rfl rfl rfl ⟨nofun, nofun⟩ ⟨_, hcell_of g8 rfl⟩ (hfroz_of g8) (no _) ?_
    have e9 : hset (h7.push (.cells #[.int .i64 i] 3)) ⟨h7.size, 0, none⟩ (.int .i64 ((i + 1 : Nat) : Int)) = h7.push (.cells #[.int .i64 ((i + 1 : Nat) : Int)] 3) := by
      rw [hset_one g8]; exact push_set _ _ _
    rw [show ((i : Int) + 1) = ((i + 1 : Nat) : Int) by omega]
    change ER _ _ _ _ _ _ _ _ _ _ (hset (h7.push (.cells #[.int .i64 i] 3)) ⟨h7.size, 0, none⟩ (.int .i64 ((i + 1 : Nat) : Int))) _ _
    rw [e9]
    clear e9 g8 bx7
    (repeat refine ER.done ?_)
    exact EK.back (again (i + 1, h7.size, s7, iBs ++ [y]) _ _ (by dsimp only; omega) ⟨rfl, by dsimp only; omega, I7⟩) ⟨rfl, rfl, rfl, rfl, rfl, trivial⟩
  · obtain rfl : i = sc.length := by omega
    clear again hin
    have bb5 : bs <= h5.size := by rw [hbs]; exact I.up.size
    have up5 : Upd (fun _ => False) h h5 := uuB.trans I.up
    (repeat (first | refine EK.seq ?_ | refine EK.region ?_ | refine ER.done ?_ | refine ER.fieldAddr rfl rfl rfl ?_ | refine ER.load1 rfl rfl rfl (hcell_of (by assumption) rfl) ?_ | refine ER.cmpF rfl rfl rfl rfl rfl (by first | (dsimp only [cmpP]; omega) | exact rfl | exact Int.le_refl _) ?_ | refine ER.len1 rfl rfl rfl ?_ | refine EK.condF rfl ?_ | refine EK.exit rfl ?_))
    refine ER.callR rfl rfl rfl rfl rfl (copy_ok (hp.upd up5 (fun _ _ _ x => x)) (by rw [List.length_map]; exact p2k)) ?_
    rintro pv2 h6 δ6 ⟨rfl, sl6, u6, hb6⟩
    rw [List.length_map] at sl6
    have kp : ∀ {q : Nat} {o : Obj}, h5[q]? = some o -> h6[q]? = some o := fun hq => u6.get hq (fun x => x)
    have hs56 := u6.size
    have bb6 : h.size <= h6.size := by omega
    have pre : SPre h.size Mm (csC n) (v1C n pk tk) (B 0) (B 2) (B 3) sc h6 pB sB S0 T (n : Int) pk tk (.slice aS sc.length kS) pv pv2 bv iBs picks :=
      ⟨I.rep.upd0 u6, tg, lowB, kp I.p, kp I.s, kp I.st, kp I.t, lT, lS, hs.low (fun b hb => (u6.2 b (by omega) (fun x => x)).trans (up5.2 b hb (fun x => x))), l8, small, I.bods.upd u6 (fun _ _ z => z), fun b hb => by have := I.nb b hb; omega, I.ib, fun j b hj => ⟨kp (I.ibx j b hj), fun e => by have := hb6 b e; have := lt_of_get (I.ibx j b hj); omega⟩, sl6, fun b hb => by have := hb6 b hb; omega⟩
    have up6 : Upd (fun _ => False) h h6 := up5.trans u6
    have uA6 : Upd (fun _ => False) hA h6 := (uB.trans I.up).trans u6
    have gR6 := kp (I.up.get gR (fun x => x))
    have nbB : ∀ b, blk bv = some b -> hA.size <= b := fun b hb => by have := I.nb b hb; omega
    have npB : ∀ b, blk pv2 = some b -> hA.size <= b := fun b hb => by have := hb6 b hb; omega
    clear I gp bx u6 hb6 kp sl6 gR
    have E := senv_of (cl := callC n B tk f) pre bb6
    have hcall : CallOk (tcG Mm (csC n) (callC n B tk f) sc h6 T S0 (B 0) (B 2) (B 3) pv2 bv) (callC n B tk f) := fun a ht => ccall_T E.T E.S E.TS ⟨rfl, rfl, rfl⟩ (E.K.weaken (fun h m => cf_th (by rw [hMm] at m; exact m))) ⟨fun k h1 h2 => ⟨k, ⟨h1, h2⟩, by rw [eB]⟩, hn1, hn⟩ hf a ht
    (repeat refine ER.move rfl rfl rfl ?_)
    refine ER.callR rfl rfl rfl rfl rfl (srun_ok pre bb6 hcall (v0 := fun b => v1C n pk tk (idx b)) (fun k hk => by rw [eB, hidx k hk])) ?_
    rintro _ h7 δ7 ⟨⟨m, rfl⟩, p, e, lL, lW, lY, lV, rfl, En, u7⟩
    have I7 : ToldI (tcG Mm (csC n) (callC n B tk f) sc h6 T S0 (B 0) (B 2) (B 3) pv2 bv) p.u h7 := En.I
    have gR7 : h7[yR]? = some (.cells #[.int .i8 0, .int .i64 0, nilS, nilS, nilS, nilS, nilS] 49 (0, 0)) := (I7.old yR (pre.old gR6 (pre.notC gR6 (by decide)) (by decide) (by decide)) (pre.neT gR6 (by decide)) (pre.neS gR6 (by decide))).trans gR6
    have st7 := I7.st
    have out7 := I7.out
    have inn7 := I7.inn
    have uu7 : Upd (fun _ => False) h h7 := ⟨Nat.le_trans up6.size u7.size, fun b hb _ => (I7.old b (E.low b hb).1 (E.low b hb).2.1 (E.low b hb).2.2).trans (up6.2 b hb (fun x => x))⟩
    have m7 := En.mem (hp.upd uu7 (fun _ _ _ x => x))
    have u8 : Upd (fun b => b = yR) h7 (h7.setIfInBounds yR (.cells (repL e p.log.length lL lW lY lV).toArray 49)) := Upd.set _ _ _ rfl
    have uu8 : Upd (fun _ => False) h (h7.setIfInBounds yR (.cells (repL e p.log.length lL lW lY lV).toArray 49)) := uu7.over u8 (fun b hb => by omega)
    have no7 : ∀ a, ¬ (SwS Try.prog).still m a := fun a x => x
    refine ER.storeN (vs := repL e p.log.length lL lW lY lV) rfl rfl rfl rfl (by
      obtain ⟨a1, k1, e1⟩ := m7.log.val
      obtain ⟨a2, k2, e2⟩ := m7.went.val
      obtain ⟨a3, k3, e3⟩ := m7.rdy.val
      obtain ⟨a4, k4, e4⟩ := m7.left.val
      rw [e1, e2, e3, e4]; simp [OneCell]) (fun j hj => ⟨?_, hfroz_of gR7, no7 _⟩) ?_
    · have hj' : j < 7 := hj
      rcases (show j = 0 \/ j = 1 \/ j = 2 \/ j = 3 \/ j = 4 \/ j = 5 \/ j = 6 by omega) with rfl | rfl | rfl | rfl | rfl | rfl | rfl <;> exact ⟨_, hcell_of gR7 rfl⟩
    rw [row_set (c := [.int .i8 0, .int .i64 0, nilS, nilS, nilS, nilS, nilS]) (vs := repL e p.log.length lL lW lY lV) gR7 rfl]
    (repeat (first | refine ER.done ?_ | refine EK.ret ?_))
    refine EU.retCell1 (vs := repL e p.log.length lL lW lY lV) rfl rfl rfl (hrow_block (rest := []) (by rw [List.append_nil]; exact get_set_same gR7)) ⟨⟨m, rfl⟩, h6, h7, pv2, bv, p, e, lL, lW, lY, lV, rfl, En, uu8, ?_, fun b hb nc nT nS => ?_, ?_, ?_, fun i hi => ?_, ?_⟩
    · rw [hsB]; exact Nat.le_trans uA6.size (Nat.le_trans u7.size u8.size)
    · rw [hsB] at hb
      rw [get_set_ne _ (show yR ≠ b by omega)]
      refine (I7.old b ⟨Nat.lt_of_lt_of_le hb uA6.size, nc, fun e => e.elim (fun e => by have := nbB b e; omega) (fun e => by have := npB b e; omega)⟩ nT nS).trans (uA6.2 b hb (fun x => x))
    · rw [get_set_ne _ (show yR ≠ S0 from pre.neS gR6 (by decide))]; exact st7
    · rw [get_set_ne _ (show yR ≠ T from pre.neT gR6 (by decide))]; exact out7
    · have inn := inn7 i hi
      change SliceO h7 (p.u.1 i).2 116 3 (p.u.1 i).1.length ((p.u.1 i).1.flatMap gansL) at inn
      exact inn.upd u8 (fun b hb => sliceO_ne inn gR7 (by decide) b hb)
    · exact ⟨m7.log.upd u8 (fun b hb => sliceO_ne m7.log gR7 (by decide) b hb), m7.went.upd u8 (fun b hb => sliceO_ne m7.went gR7 (by decide) b hb), m7.rdy.upd u8 (fun b hb => sliceO_ne m7.rdy gR7 (by decide) b hb), m7.left.upd u8 (fun b hb => sliceO_ne m7.left gR7 (by decide) b hb), hp.upd uu8 (fun _ _ _ x => x)⟩
end
section
open Go Go.TJ Go.Conc Go.Proofs
abbrev Nme := Int × Int
def nmeL (n : Nme) : List Value := [.int .i64 n.1, .int .i64 n.2]
abbrev nmeV (n : Nme) : Value := .agg #[.int .i64 n.1, .int .i64 n.2]
theorem nmeL_len (n : Nme) : (nmeL n).length = 2 := rfl
structure WS where
  q : List (Bool × Nme)
  hs : List (Nme × Int)
  nv : Value
  gv : Value
  fv : Value
  hv : Value
  ov : Value
def lookN : List (Nme × Int) -> Nme -> Int
  | [], _ => 0
  | (m, v) :: l, n => if m = n then v else lookN l n
theorem lookN_at {n : Nme} : ∀ {l : List (Nme × Int)} {k : Nat} {v : Int}, (∀ j q, j < k -> l[j]? = some q -> q.1 ≠ n) -> l[k]? = some (n, v) -> lookN l n = v
  | [], _, _, _, h => by cases h
  | (m, w) :: l, 0, v, _, h => by
    injection (show some (m, w) = some (n, v) from h) with h
    injection h with h1 h2
    subst h1 h2
    exact if_pos rfl
  | (m, w) :: l, k + 1, v, h0, h => by
    have : m ≠ n := h0 0 _ (by omega) rfl
    unfold lookN
    rw [if_neg this]
    exact lookN_at (fun j q hj hq => h0 (j + 1) q (by omega) hq) h
theorem lookN_no {n : Nme} : ∀ {l : List (Nme × Int)}, (∀ q, q ∈ l -> q.1 ≠ n) -> lookN l n = 0
  | [], _ => rfl
  | (m, w) :: l, h => by
    unfold lookN
    rw [if_neg (h (m, w) (by simp))]
    exact lookN_no fun q hq => h q (by simp [hq])
abbrev wkL (e : Int) (n : Nat) (lL lW lY lV : Value) (s : WS) : List Value := [.int .i8 e, .int .i64 n, lL, lW, lY, lV, nilS, .bool false, s.nv, s.gv, s.fv, s.hv, s.ov]
abbrev wkO (e : Int) (n : Nat) (lL lW lY lV : Value) (s : WS) : Obj := .cells (wkL e n lL lW lY lV s).toArray 66 (0, 0)
abbrev wrO (W i : Nat) (out : Bool) (t : Nat) : Obj := .cells #[ptr W, .int .i64 i, .bool out, .int .i64 t] 60 (0, 0)
structure WkI (R : Rec) (nm : Nat -> Nme) (lL lW lY lV : Value) (h0 : Hp) (W : Nat) (F : List Int) (s : WS) (h : Hp) : Prop where
  up : Upd (fun _ => False) h0 h
  row : h[W]? = some (wkO R.e R.log.length lL lW lY lV s)
  nms : SliceO h s.nv 210 2 s.q.length (s.q.flatMap fun x => nmeL x.2)
  giv : SliceO h s.gv 4 1 s.q.length (s.q.map fun x => Value.bool x.1)
  fst : SliceO h s.fv 2 1 F.length (F.map fun x => Value.int .i64 x)
  hav : SliceO h s.hv 210 2 s.hs.length (s.hs.flatMap fun x => nmeL x.1)
  hol : SliceO h s.ov 2 1 s.hs.length (s.hs.map fun x => Value.int .i64 x.2)
  nW : h0.size <= W
  n1 : ∀ b, blk s.nv = some b -> h0.size <= b
  n2 : ∀ b, blk s.gv = some b -> h0.size <= b
  n3 : ∀ b, blk s.fv = some b -> h0.size <= b
  n4 : ∀ b, blk s.hv = some b -> h0.size <= b
  n5 : ∀ b, blk s.ov = some b -> h0.size <= b
  a1 : ∀ b, blk s.nv = some b -> blk s.hv ≠ some b
  a2 : ∀ b, blk s.fv = some b -> blk s.ov ≠ some b
def Named (R : Rec) (nm : Nat -> Nme) (q : List (Bool × Nme)) : Prop := q.length = (nums R.log).length /\ ∀ (j b : Nat) (x : Bool × Nme), (nums R.log)[j]? = some b -> q[j]? = some x -> x.1 = true -> x.2 = nm b
theorem Named.set {R : Rec} {nm : Nat -> Nme} {q : List (Bool × Nme)} (x : Named R nm q) {j b : Nat} (hb : (nums R.log)[j]? = some b) : Named R nm (q.set j (true, nm b)) := by
  refine ⟨by rw [List.length_set]; exact x.1, fun j' b' y hb' hy ht => ?_⟩
  by_cases e : j' = j
  · subst e
    have hlt : j' < q.length := by rw [x.1]; exact (take_mid hb).2.2
    rw [List.getElem?_set_self hlt] at hy
    rw [hb] at hb'
    cases hy; cases hb'; rfl
  · rw [List.getElem?_set_ne (Ne.symm e)] at hy
    exact x.2 j' b' y hb' hy ht
section
variable {R : Rec} {nm : Nat -> Nme} {lL lW lY lV : Value} {h0 h h' : Hp} {W : Nat} {F : List Int} {s : WS}
theorem WkI.upd0 (I : WkI R nm lL lW lY lV h0 W F s h) (u : Upd (fun _ => False) h h') : WkI R nm lL lW lY lV h0 W F s h' :=
  ⟨I.up.trans u, u.get I.row (fun x => x), I.nms.upd u (fun _ _ x => x), I.giv.upd u (fun _ _ x => x), I.fst.upd u (fun _ _ x => x), I.hav.upd u (fun _ _ x => x), I.hol.upd u (fun _ _ x => x), I.nW, I.n1, I.n2, I.n3, I.n4, I.n5, I.a1, I.a2⟩
theorem WkI.other (I : WkI R nm lL lW lY lV h0 W F s h) {y : Nat} {a : Array Value} {t : TypeId} (hy : h[y]? = some (.cells a t (0, 0))) (hy0 : h0.size <= y) (h1 : t ≠ 66) (h2 : t ≠ 210) (h3 : t ≠ 4) (h4 : t ≠ 2) (o : Obj) : WkI R nm lL lW lY lV h0 W F s (h.setIfInBounds y o) := by
  have u : Upd (fun b => b = y) h (h.setIfInBounds y o) := Upd.set _ _ _ rfl
  have hyW : W ≠ y := fun e => by
    have := I.row
    rw [e, hy] at this
    injection this with this
    injection this with _ this _
    exact h1 this
  exact ⟨I.up.over u (fun b hb => by omega), u.get I.row hyW, I.nms.upd u (sliceO_ne I.nms hy (Ne.symm h2)), I.giv.upd u (sliceO_ne I.giv hy (Ne.symm h3)), I.fst.upd u (sliceO_ne I.fst hy (Ne.symm h4)), I.hav.upd u (sliceO_ne I.hav hy (Ne.symm h2)), I.hol.upd u (sliceO_ne I.hol hy (Ne.symm h4)), I.nW, I.n1, I.n2, I.n3, I.n4, I.n5, I.a1, I.a2⟩
end
def ownFrom (R : Rec) (i t : Nat) : List Ev := ownOf i (R.log.drop t)
theorem ownFrom_zero (R : Rec) (i : Nat) : ownFrom R i 0 = ownOf i R.log := by unfold ownFrom; rw [List.drop_zero]
theorem ownFrom_end (R : Rec) (i : Nat) : ownFrom R i R.log.length = [] := by unfold ownFrom; rw [List.drop_eq_nil_of_le (Nat.le_refl _)]; rfl
theorem ownFrom_step {R : Rec} {i t : Nat} {e : Ev} (h : R.log[t]? = some e) : ownFrom R i t = if e.thr = i then e :: ownFrom R i (t + 1) else ownFrom R i (t + 1) := by
  unfold ownFrom
  have hk := (take_mid h).2.2
  rw [List.drop_eq_getElem_cons hk]
  have : R.log[t] = e := by
    have := List.getElem?_eq_getElem hk
    rw [h] at this
    injection this with this
    exact this.symm
  rw [this]
  unfold ownOf
  by_cases hc : e.thr = i
  · rw [if_pos hc, List.filter_cons_of_pos (by simpa using hc)]
  · rw [if_neg hc, List.filter_cons_of_neg (by simpa using hc)]
def PF (R : Rec) {A : Type} (i : Nat) (p : Pr A) : Prop := (∃ r k, (i, r) ∈ R.left /\ p = .step r k) \/ ((∀ q, q ∈ R.left -> q.1 ≠ i) /\ p = .done)
theorem PF.emit {R : Rec} {A : Type} {i : Nat} {p : Pr A} (x : PF R i p) : ∀ a k, p ≠ .emit a k := by
  rintro a k rfl
  rcases x with ⟨_, _, _, e⟩ | ⟨_, e⟩ <;> cases e
structure WAt (R : Rec) {A : Type} (pf : Pr A) (x W i : Nat) (p : Pr A) (l : List Ev) (o : List A) (h : Hp) : Prop where
  at_ : ∃ t, t <= R.log.length /\ ownFrom R i t = l /\ h[x]? = some (wrO W i false t)
  goes : Goes i p l o pf
structure WOut (R : Rec) (x W i : Nat) (h : Hp) : Prop where
  at_ : ∃ t, t <= R.log.length /\ ownFrom R i t = [] /\ h[x]? = some (wrO W i true t)
  left : ∃ r, (i, r) ∈ R.left
end
section
open Go Go.TJ Go.Conc Go.Proofs
section
variable {Γ : Type} {P : Program} {main : Bool} {S : Sit Γ} {f : FuncId} {n : Nat} {k : List Item} {env : Env} {ds : List Deferred} {h : Hp} {δ : Ix Γ} {R : Post Γ}
variable {ops : Array Oper} {l : List Oper} {d : Nat} {ty : TypeId} {pos : String} {af : Array Edge} {g : Option (Nat × Bool)} {Z : Hp -> Prop} {zz : Nat} {m : Nat} {listed l' : Array Bool}
theorem sem_eqA2 {t t2 : TypeId} {k1 k2 : IntKind} [EqI2 P t k1 k2] {x y : Operand} {a1 a2 b1 b2 : Int} {r : Bool} {ρ : Operand -> Value} {dst : Option Nat} {Q : Next -> Hp -> Ix Γ -> Prop} {X : Value -> Hp -> Ix Γ -> Prop} (hx : ρ x = .agg #[.int k1 a1, .int k2 a2]) (hy : ρ y = .agg #[.int k1 b1, .int k2 b2]) (hr : (a1 == b1 && a2 == b2) = r) (hq : Q (.value (.bool r)) h δ) : SemW P S (execOp ρ ⟨dst, .binOp .eql t x y t2, ty, pos, af, g⟩) h δ Q X :=
  semW_binOp (by
    rw [hx, hy]
    exact eqGuard_agg (by
      show SemW P S (Op.equal t _ _ >>= fun b => pure (Value.bool b)) h δ _ X
      exact semW_bind _ _ _ _ _ _ (semW_eqI2 (by rw [hr]; exact hq))))
theorem EA.tEqA2 (i : Nat) {t t2 : TypeId} {k1 k2 : IntKind} [EqI2 P t k1 k2] {x y : Operand} {a1 a2 b1 b2 : Int} {r : Bool} (hi : ops[i]? = some ⟨some d, .binOp .eql t x y t2, ty, pos, af, g⟩) (hs : takeB ops listed zz i = true) (hl : listed.setIfInBounds i true = l')
    (hd : Nat.blt d n = true) (hw : wantE ops env g = some true) (hx : ev env x = some (.agg #[.int k1 a1, .int k2 a2])) (hy : ev env y = some (.agg #[.int k1 b1, .int k2 b2])) (hr : (a1 == b1 && a2 == b2) = r) (hZ : Z h)
    (hn : EA P main S f n ops Z zz m l' k ((d, .bool r) :: env) ds h δ R) : EA P main S f n ops Z zz (m + 1) listed k env ds h δ R :=
  EA.take i hi hs hl hd hw (fun _ _ _ _ _ hρ _ hq => sem_eqA2 (hρ _ _ hx) (hρ _ _ hy) hr hq) hZ hn
theorem sem_field {xt : TypeId} {fs : Array Field} {fd : Field} {dd : TypeDesc} {j : Nat} {x : Operand} {cs : Array Value} {v : Value} {ρ : Operand -> Value} {dst : Option Nat} {Q : Next -> Hp -> Ix Γ -> Prop} {X : Value -> Hp -> Ix Γ -> Prop} (hu : P.underlying xt = some (.struct fs)) (hf : fs[j]? = some fd) (ht : P.underlying fd.type = some dd) (hs : (match dd with | .struct _ => true | .array _ _ => true | _ => false) = false) (hx : ρ x = .agg cs) (hv : cs[fd.offset]? = some v) (hq : Q (.value v) h δ) :
    SemW P S (execOp ρ ⟨dst, .field xt x j, ty, pos, af, g⟩) h δ Q X := by
  show SemW P S (Instr.field xt (ρ x) j >>= fun v => pure (.value v)) h δ Q X
  rw [hx]
  refine semW_bind _ _ _ _ _ _ ?_
  unfold Instr.field
  refine semW_underlying hu ?_
  simp only [hf]
  show SemW P S (part fd.type cs fd.offset) h δ _ X
  unfold part isAgg
  refine semW_bind _ _ _ _ _ _ ?_
  refine semW_underlying ht ?_
  cases dd <;> first | (simp at hs; done) | (simp only [hv]; exact hq)
theorem ER.field {xt : TypeId} {fs : Array Field} {fd : Field} {dd : TypeDesc} {j : Nat} {x : Operand} {cs : Array Value} {v : Value} (hu : P.underlying xt = some (.struct fs)) (hf : fs[j]? = some fd) (ht : P.underlying fd.type = some dd) (hs : (match dd with | .struct _ => true | .array _ _ => true | _ => false) = false)
    (hw : wantE ops env g = some true) (hd : Nat.blt d n = true) (hx : ev env x = some (.agg cs)) (hv : cs[fd.offset]? = some v) (hn : ER P main S f n ops l k ((d, v) :: env) ds h δ R) : ER P main S f n ops (⟨some d, .field xt x j, ty, pos, af, g⟩ :: l) k env ds h δ R :=
  ER.to hw hd (fun _ρ _Q _X hρ hq => sem_field hu hf ht hs (hρ _ _ hx) hv hq) hn
end
theorem nme_eq {a b : Nme} (h : a = b) : (a.1 == b.1 && a.2 == b.2) = true := by subst h; simp
theorem nme_ne {a b : Nme} (h : a ≠ b) : (a.1 == b.1 && a.2 == b.2) = false := by
  obtain ⟨a1, a2⟩ := a
  obtain ⟨b1, b2⟩ := b
  by_cases h1 : a1 = b1
  · by_cases h2 : a2 = b2
    · subst h1 h2; exact absurd rfl h
    · simp [h2]
  · simp [h1]
abbrev nmeO (n : Nme) : Obj := .cells #[.int .i64 n.1, .int .i64 n.2] 210 (0, 0)
section
variable {Γ : Type} {main : Bool} {S : Sit Γ} {δ : Ix Γ} {R : Rec} {nm : Nat -> Nme} {lL lW lY lV : Value} {h0 h h' : Hp} {W : Nat} {F : List Int} {s : WS}
set_option maxHeartbeats 4000000 in
set_option maxRecDepth 8000 in
theorem begins_ok {n : Nme} (I : WkI R nm lL lW lY lV h0 W F s h) (hl : s.hs.length <= 5000) :
    CallW Try.prog main S 181 #[ptr W, nmeV n] h δ (Ret fun v h' δ' => δ' = δ /\ v = .int .i64 (lookN s.hs n) /\ Upd (fun _ => False) h h') := by
  obtain ⟨q, hs, nv, gv, fv, hv, ov⟩ := s
  obtain ⟨aH, kH, eH⟩ := I.hav.val
  obtain ⟨aO, kO, eO⟩ := I.hol.val
  dsimp only at eH eO hl ⊢
  subst eH eO
  obtain ⟨y, hy⟩ : ∃ y, y = h.size := ⟨_, rfl⟩
  refine CallW.start (n := 31) rfl rfl ?_
  (repeat (first | refine EK.seq ?_ | refine EK.region ?_ | refine ER.done ?_ | refine EK.block ?_ | refine ER.assign rfl rfl rfl ?_ | refine ER.boxA rfl rfl rfl ?_))
  refine EK.gen (fun h' => WkI R nm lL lW lY lV h0 W F ⟨q, hs, nv, gv, fv, .slice aH hs.length kH, .slice aO hs.length kO⟩ h' /\ Upd (fun _ => False) h h' /\ h'[y]? = some (nmeO n)) ⟨I.upd0 (Upd.push _ _), Upd.push _ _, by rw [hy]; exact get_push_new _ _⟩ ?_
  rw [<- hy]
  clear I hy
  rintro h1 ⟨I, u1, ly⟩
  have c11 : hcell h1 ⟨W, 11, none⟩ = some (.slice aH hs.length kH) := hcell_of I.row rfl
  have c12 : hcell h1 ⟨W, 12, none⟩ = some (.slice aO hs.length kO) := hcell_of I.row rfl
  refine EK.loopInv (fun i : Nat => [(5, .int .i64 i), (0, ptr W), (3, ptr y)]) (fun i h' δ' => i <= hs.length /\ δ' = δ /\ h' = h1 /\ ∀ j q, j < i -> hs[j]? = some q -> q.1 ≠ n) (fun i => hs.length - i) 0 ⟨rfl, rfl, rfl, trivial⟩ ⟨Nat.zero_le _, rfl, rfl, fun j q hj => by omega⟩ ?_
  rintro i h2 δ2 ⟨hi, rfl, rfl, hno⟩ again
  by_cases hin : i < hs.length
  · obtain ⟨⟨m, v⟩, hq⟩ : ∃ x, hs[i]? = some x := ⟨_, List.getElem?_eq_getElem hin⟩
    obtain ⟨bH, ea, hrow, -⟩ := slice_row (f := fun x : Nme × Int => nmeL x.1) (fun _ => rfl) I.hav hq
    obtain ⟨bO, eb, cO, -⟩ := slice_at (f := fun x : Nme × Int => Value.int .i64 x.2) I.hol hq
    subst ea eb
    (repeat (first | refine EK.seq ?_ | refine EK.region ?_ | refine ER.done ?_ | refine EK.skip ?_ | refine EK.block ?_ | refine ER.move rfl rfl rfl ?_ | refine ER.nilCheck rfl rfl rfl ?_ | refine ER.fieldAddr rfl rfl rfl ?_ | refine ER.cmpT rfl rfl rfl rfl rfl (by first | (dsimp only [cmpP]; omega) | exact rfl | exact Int.le_refl _) ?_ | refine ER.len1 rfl rfl rfl ?_ | refine EK.condT rfl ?_ | refine ER.load1 rfl rfl rfl (by assumption) ?_))
    refine EK.regionAny (fun h' => h' = h2) ?_
    have hZ : h2 = h2 := rfl
    refine EA.tMove 0 rfl (by kernel_rfl) rfl rfl rfl rfl hZ ?_
    refine EA.tNil 1 rfl (by kernel_rfl) rfl rfl rfl rfl hZ ?_
    refine EA.tField 2 rfl (by kernel_rfl) rfl rfl rfl rfl hZ ?_
    refine EA.tLoad 3 rfl (by kernel_rfl) rfl rfl rfl rfl (fun _ hz => (by rw [hz]; exact c11)) hZ ?_
    refine EA.tMove 4 rfl (by kernel_rfl) rfl rfl rfl rfl hZ ?_
    refine EA.tIdxS 5 rfl (by kernel_rfl) rfl rfl rfl rfl rfl (by omega) (by omega) hZ ?_
    refine EA.tLoadN (vs := nmeL m) 6 rfl (by kernel_rfl) rfl rfl rfl rfl rfl (fun _ hz => by rw [hz]; exact hrow) hZ ?_
    refine EA.tLoadN (vs := nmeL n) 7 rfl (by kernel_rfl) rfl rfl rfl rfl rfl (fun _ hz => by rw [hz]; exact hrow_block (rest := []) (by rw [List.append_nil]; exact ly)) hZ ?_
    by_cases e : m = n
    · refine EA.tEqA2 8 rfl (by kernel_rfl) rfl rfl rfl rfl rfl (nme_eq e) hZ ?_
      refine EA.done (by kernel_rfl) ?_
      subst e
      rw [lookN_at hno hq]
      (repeat (first | refine EK.seq ?_ | refine EK.region ?_ | refine ER.done ?_ | refine ER.move rfl rfl rfl ?_ | refine ER.assign rfl rfl rfl ?_ | refine ER.nilCheck rfl rfl rfl ?_ | refine ER.fieldAddr rfl rfl rfl ?_ | refine ER.indexSl rfl rfl rfl rfl (by omega) (by omega) ?_ | refine EK.condT rfl ?_ | refine EK.ret ?_ | refine ER.load1 rfl rfl rfl (by assumption) ?_))
      exact EU.ret1 rfl rfl ⟨rfl, rfl, u1⟩
    · refine EA.tEqA2 8 rfl (by kernel_rfl) rfl rfl rfl rfl rfl (nme_ne e) hZ ?_
      refine EA.done (by kernel_rfl) ?_
      (repeat (first | refine EK.region ?_ | refine ER.done ?_ | refine EK.skip ?_ | refine EK.inBlock ?_ | refine ER.move rfl rfl rfl ?_ | refine ER.assign rfl rfl rfl ?_ | refine ER.add (kd := .i64) rfl rfl rfl rfl (i64_in (by omega) (by omega)) ?_ | refine EK.condF rfl ?_))
      exact EK.back (again (i + 1) _ _ (by omega) ⟨by omega, rfl, rfl, fun j q hj hjq => by
        by_cases e' : j = i
        · subst e'
          rw [hq] at hjq; cases hjq; exact e
        · exact hno j q (by omega) hjq⟩) ⟨rfl, rfl, rfl, trivial⟩
  · obtain rfl : i = hs.length := by omega
    rw [lookN_no fun q hq => by
      obtain ⟨j, hj, rfl⟩ := List.mem_iff_getElem.1 hq
      exact hno j _ hj (List.getElem?_eq_getElem hj)]
    (repeat (first | refine EK.seq ?_ | refine EK.region ?_ | refine ER.done ?_ | refine ER.move rfl rfl rfl ?_ | refine ER.assign rfl rfl rfl ?_ | refine ER.nilCheck rfl rfl rfl ?_ | refine ER.fieldAddr rfl rfl rfl ?_ | refine ER.cmpF rfl rfl rfl rfl rfl (by first | (dsimp only [cmpP]; omega) | exact rfl | exact Int.le_refl _) ?_ | refine ER.len1 rfl rfl rfl ?_ | refine EK.condF rfl ?_ | refine EK.ret ?_ | refine EK.exit rfl ?_ | refine ER.load1 rfl rfl rfl (by assumption) ?_))
    exact EU.ret1 rfl rfl ⟨rfl, rfl, u1⟩
end
end
section
open Go Go.TJ Go.Conc Go.Proofs
theorem nodup_at {l : List Nat} {i j a : Nat} (hn : l.Nodup) (h1 : l[i]? = some a) (h2 : l[j]? = some a) : i = j := by
  obtain ⟨l1, e1⟩ := List.getElem?_eq_some_iff.1 h1
  obtain ⟨l2, e2⟩ := List.getElem?_eq_some_iff.1 h2
  have hp := List.pairwise_iff_getElem.1 hn
  rcases Nat.lt_trichotomy i j with y | y | y
  · exact absurd (e1.trans e2.symm) (hp i j l1 l2 y)
  · exact y
  · exact absurd (e2.trans e1.symm) (hp j i l2 l1 y)
theorem names_set : ∀ (l : List (Bool × Nme)) (j : Nat) (g : Bool) (n : Nme), (l.set j (g, n)).flatMap (fun x => nmeL x.2) = ((l.flatMap fun x => nmeL x.2).set (0 + j * 2) (.int .i64 n.1)).set (0 + j * 2 + 1) (.int .i64 n.2)
  | [], j, g, n => by simp
  | c :: t, 0, g, n => rfl
  | c :: t, j + 1, g, n => by
    have ih := names_set t j g n
    rw [show 0 + (j + 1) * 2 + 1 = (0 + j * 2 + 1) + 1 + 1 by omega, show 0 + (j + 1) * 2 = (0 + j * 2) + 1 + 1 by omega]
    rw [List.set_cons_succ, List.flatMap_cons, List.flatMap_cons, ih]
    rfl
theorem names_len (l : List (Bool × Nme)) : (l.flatMap fun x => nmeL x.2).length = l.length * 2 := by
  induction l with
  | nil => rfl
  | cons c t ih => rw [List.flatMap_cons, List.length_append, ih, nmeL_len, List.length_cons]; omega
theorem given_set (l : List (Bool × Nme)) (j : Nat) (n : Nme) : ((l.set j (true, n)).map fun x => Value.bool x.1) = (l.map fun x => Value.bool x.1).set j (.bool true) := by rw [List.map_set]
section
variable {Γ : Type} {main : Bool} {S : Sit Γ} {δ : Ix Γ} {R : Rec} {nm : Nat -> Nme} {lL lW lY lV : Value} {h0 h h' : Hp} {W : Nat} {F : List Int} {s : WS} {q : List (Bool × Nme)} {hs : List (Nme × Int)} {nv gv fv hv ov : Value}
theorem WkI.setG {b k j : Nat} {m : Nme} {g : Bool} (I : WkI R nm lL lW lY lV h0 W F ⟨q, hs, nv, .slice (some ⟨b, 0, none⟩) q.length k, fv, hv, ov⟩ h) (hq : q[j]? = some (g, m)) :
    WkI R nm lL lW lY lV h0 W F ⟨q.set j (true, m), hs, nv, .slice (some ⟨b, 0, none⟩) q.length k, fv, hv, ov⟩ (hset h ⟨b, 0 + j * 1, none⟩ (.bool true)) := by
  have hj := (take_mid hq).2.2
  have u : Upd (fun x => x = b) h (hset h ⟨b, 0 + j * 1, none⟩ (.bool true)) := Upd.hset _ _ _ rfl
  have hb := I.n2 b rfl
  have e1 : 0 + j * 1 = j := by omega
  refine ⟨I.up.over u (fun b' hb' => by omega), u.get I.row (fun e => sliceO_ne I.giv I.row (by decide) b rfl e.symm), ?_, ?_, I.fst.upd u (fun b' hb' e => sliceO_two I.fst I.giv (by decide) b' hb' (by rw [e]; rfl)), I.hav.upd u (fun b' hb' e => sliceO_two I.hav I.giv (by decide) b' hb' (by rw [e]; rfl)), I.hol.upd u (fun b' hb' e => sliceO_two I.hol I.giv (by decide) b' hb' (by rw [e]; rfl)), I.nW, I.n1, I.n2, I.n3, I.n4, I.n5, I.a1, I.a2⟩
  · have := I.nms.upd u (fun b' hb' e => sliceO_two I.nms I.giv (by decide) b' hb' (by rw [e]; rfl))
    dsimp only at this ⊢
    rw [List.length_set]
    have e2 : ((q.set j (true, m)).flatMap fun x => nmeL x.2) = q.flatMap fun x => nmeL x.2 := by
      rw [List.flatMap_def, List.flatMap_def, List.map_set]
      congr 1
      refine List.ext_getElem? fun i => ?_
      by_cases e : i = j
      · subst e
        rw [List.getElem?_set_self (by simpa using hj), List.getElem?_map, hq]
        rfl
      · rw [List.getElem?_set_ne (Ne.symm e)]
    rw [e2]
    exact this
  · have := I.giv.set (j := j) (by rw [List.length_map]; exact hj) (.bool true)
    dsimp only at this ⊢
    rw [e1, given_set, List.length_set]
    exact this
theorem WkI.setN {b k j : Nat} {m n : Nme} {g : Bool} (I : WkI R nm lL lW lY lV h0 W F ⟨q, hs, .slice (some ⟨b, 0, none⟩) q.length k, gv, fv, hv, ov⟩ h) (hq : q[j]? = some (g, m)) :
    WkI R nm lL lW lY lV h0 W F ⟨q.set j (g, n), hs, .slice (some ⟨b, 0, none⟩) q.length k, gv, fv, hv, ov⟩ (hsetRow h b (0 + j * 2) (nmeL n)) := by
  have hj := (take_mid hq).2.2
  have u : Upd (fun x => x = b) h (hsetRow h b (0 + j * 2) (nmeL n)) := (Upd.hset (T := fun x => x = b) h ⟨b, 0 + j * 2, none⟩ _ rfl).trans (Upd.hset (T := fun x => x = b) _ ⟨b, 0 + j * 2 + 1, none⟩ _ rfl)
  have hb := I.n1 b rfl
  refine ⟨I.up.over u (fun b' hb' => by omega), u.get I.row (fun e => sliceO_ne I.nms I.row (by decide) b rfl e.symm), ?_, ?_, I.fst.upd u (fun b' hb' e => sliceO_two I.fst I.nms (by decide) b' hb' (by rw [e]; rfl)), I.hav.upd u (fun b' hb' e => I.a1 b rfl (by rw [<- e]; exact hb')), I.hol.upd u (fun b' hb' e => sliceO_two I.hol I.nms (by decide) b' hb' (by rw [e]; rfl)), I.nW, I.n1, I.n2, I.n3, I.n4, I.n5, I.a1, I.a2⟩
  · have l0 := names_len q
    have x1 := I.nms.set (j := 0 + j * 2) (by dsimp only; rw [l0]; omega) (.int .i64 n.1)
    have x2 := x1.set (j := 0 + j * 2 + 1) (by dsimp only; rw [List.length_set, l0]; omega) (.int .i64 n.2)
    dsimp only at x2 ⊢
    rw [names_set, List.length_set]
    exact x2
  · have := I.giv.upd u (fun b' hb' e => sliceO_two I.giv I.nms (by decide) b' hb' (by rw [e]; rfl))
    dsimp only at this ⊢
    rw [List.length_set, List.map_set]
    have e2 : (q.map fun x => Value.bool x.1).set j (.bool g) = q.map fun x => Value.bool x.1 := by
      refine List.ext_getElem? fun i => ?_
      by_cases e : i = j
      · subst e
        rw [List.getElem?_set_self (by simpa using hj), List.getElem?_map, hq]
        rfl
      · rw [List.getElem?_set_ne (Ne.symm e)]
    rw [e2]
    exact this
set_option maxHeartbeats 8000000 in
set_option maxRecDepth 8000 in
theorem is_ok {j b : Nat} (I : WkI R nm lL lW lY lV h0 W F s h) (hN : Named R nm s.q) (hb : (nums R.log)[j]? = some b) (hF : F[j]? = some (lookN s.hs (nm b))) (hinj : ∀ b', b' ∈ nums R.log -> nm b' = nm b -> b' = b) (hql : (nums R.log).length <= 65536) (hhl : s.hs.length <= 5000) :
    CallW Try.prog main (NoS (Γ := Γ)) 179 #[ptr W, .int .i64 j, nmeV (nm b)] h δ (Ret fun v h' δ' => δ' = δ /\ v = .bool true /\ WkI R nm lL lW lY lV h0 W F { s with q := s.q.set j (true, nm b) } h' /\ Upd (fun c => blk s.nv = some c \/ blk s.gv = some c) h h') := by
  obtain ⟨q, hs, nv, gv, fv, hv, ov⟩ := s
  obtain ⟨aN, kN, eN⟩ := I.nms.val
  obtain ⟨aG, kG, eG⟩ := I.giv.val
  obtain ⟨aF, kF, eF⟩ := I.fst.val
  dsimp only at eN eG eF hF hN hhl ⊢
  subst eN eG eF
  have hq0 := hN.1
  have hjl : j < q.length := by rw [hq0]; exact (take_mid hb).2.2
  obtain ⟨⟨g0, m0⟩, hx⟩ : ∃ x, q[j]? = some x := ⟨_, List.getElem?_eq_getElem hjl⟩
  have hFl : F.length <= 10000000 \/ True := .inr trivial
  obtain ⟨y, hy⟩ : ∃ y, y = h.size := ⟨_, rfl⟩
  obtain ⟨bG, eG, cG, fG⟩ := slice_at (f := fun x : Bool × Nme => Value.bool x.1) I.giv hx
  obtain ⟨bN, eN, rN, fN⟩ := slice_row (f := fun x : Bool × Nme => nmeL x.2) (fun _ => rfl) I.nms hx
  obtain ⟨bF, eF, cF, -⟩ := slice_at (f := fun x : Int => Value.int .i64 x) I.fst hF
  subst eG eN eF
  dsimp only at cG rN
  refine CallW.start (n := 86) rfl rfl ?_
  (repeat (first | refine EK.seq ?_ | refine EK.region ?_ | refine ER.done ?_ | refine ER.move rfl rfl rfl ?_ | refine ER.assign rfl rfl rfl ?_ | refine ER.nilCheck rfl rfl rfl ?_ | refine ER.fieldAddr rfl rfl rfl ?_ | refine ER.cmpF rfl rfl rfl rfl rfl (by first | (dsimp only [cmpP]; omega) | exact rfl | exact Int.le_refl _) ?_ | refine ER.boxA rfl rfl rfl ?_))
  refine ER.gen (fun h' => WkI R nm lL lW lY lV h0 W F ⟨q, hs, .slice (some ⟨bN, 0, none⟩) q.length kN, .slice (some ⟨bG, 0, none⟩) q.length kG, .slice (some ⟨bF, 0, none⟩) F.length kF, hv, ov⟩ h' /\ Upd (fun _ => False) h h' /\ h'[y]? = some (nmeO (nm b))) ⟨I.upd0 (Upd.push _ _), Upd.push _ _, by rw [hy]; exact get_push_new _ _⟩ ?_
  rw [<- hy]
  have hyl : h.size <= y := by omega
  have nN := I.nms.lt (b := bN) rfl
  have nG := I.giv.lt (b := bG) rfl
  clear I cG rN cF hy
  rintro h1 ⟨I, u1, ly⟩
  obtain ⟨bG', eG, cG, fG⟩ := slice_at (f := fun x : Bool × Nme => Value.bool x.1) I.giv hx
  obtain ⟨bN', eN, rN, fN⟩ := slice_row (f := fun x : Bool × Nme => nmeL x.2) (fun _ => rfl) I.nms hx
  obtain ⟨bF', eF, cF, -⟩ := slice_at (f := fun x : Int => Value.int .i64 x) I.fst hF
  injection eG with eG
  injection eG with eG
  injection eN with eN
  injection eN with eN
  injection eF with eF
  injection eF with eF
  subst eG eN eF
  dsimp only at cG rN
  have c8 : hcell h1 ⟨W, 8, none⟩ = some (.slice (some ⟨bN, 0, none⟩) q.length kN) := hcell_of I.row rfl
  have c9 : hcell h1 ⟨W, 9, none⟩ = some (.slice (some ⟨bG, 0, none⟩) q.length kG) := hcell_of I.row rfl
  have rY : TJ.hrow h1 y 0 (nmeL (nm b)) := hrow_block (rest := []) (by rw [List.append_nil]; exact ly)
  cases g0 with
  | true =>
    have em : m0 = nm b := hN.2 j b _ hb hx rfl
    subst em
    (repeat (first | refine EK.seq ?_ | refine EK.region ?_ | refine ER.done ?_ | refine EK.skip ?_ | refine ER.move rfl rfl rfl ?_ | refine ER.nilCheck rfl rfl rfl ?_ | refine ER.fieldAddr rfl rfl rfl ?_ | refine ER.pickF rfl rfl rfl rfl ?_ | refine ER.cmpF rfl rfl rfl rfl rfl (by first | (dsimp only [cmpP]; omega) | exact rfl | exact Int.le_refl _) ?_ | refine ER.len1 rfl rfl rfl ?_ | refine ER.indexSl rfl rfl rfl rfl (by omega) (by omega) ?_ | refine EK.condT rfl ?_ | refine EK.condF rfl ?_ | refine ER.load1 rfl rfl rfl (by assumption) ?_))
    refine EK.regionAny (fun h' => h' = h1) ?_
    have hZ : h1 = h1 := rfl
    refine EA.tMove 0 rfl (by kernel_rfl) rfl rfl rfl rfl hZ ?_
    refine EA.tNil 1 rfl (by kernel_rfl) rfl rfl rfl rfl hZ ?_
    refine EA.tField 2 rfl (by kernel_rfl) rfl rfl rfl rfl hZ ?_
    refine EA.tLoad 3 rfl (by kernel_rfl) rfl rfl rfl rfl (fun _ hz => (by rw [hz]; exact c8)) hZ ?_
    refine EA.tMove 4 rfl (by kernel_rfl) rfl rfl rfl rfl hZ ?_
    refine EA.tIdxS 5 rfl (by kernel_rfl) rfl rfl rfl rfl rfl (by omega) (by omega) hZ ?_
    refine EA.tLoadN (vs := nmeL (nm b)) 6 rfl (by kernel_rfl) rfl rfl rfl rfl rfl (fun _ hz => by rw [hz]; exact rN) hZ ?_
    refine EA.tLoadN (vs := nmeL (nm b)) 7 rfl (by kernel_rfl) rfl rfl rfl rfl rfl (fun _ hz => by rw [hz]; exact rY) hZ ?_
    refine EA.tEqA2 8 rfl (by kernel_rfl) rfl rfl rfl rfl rfl (nme_eq rfl) hZ ?_
    refine EA.tAssign 9 rfl (by kernel_rfl) rfl rfl rfl rfl hZ ?_
    refine EA.done (by kernel_rfl) ?_
    have eq : q.set j (true, nm b) = q := by
      refine List.ext_getElem? fun i => ?_
      by_cases e : i = j
      · subst e; rw [List.getElem?_set_self hjl, hx]
      · rw [List.getElem?_set_ne (Ne.symm e)]
    rw [eq]
    (repeat refine EK.ret ?_)
    exact EU.ret1 rfl rfl ⟨rfl, rfl, I, u1.mono (fun _ _ z => z.elim)⟩
  | false =>
    (repeat (first | refine EK.seq ?_ | refine EK.region ?_ | refine ER.done ?_ | refine EK.skip ?_ | refine EK.block ?_ | refine ER.move rfl rfl rfl ?_ | refine ER.assign rfl rfl rfl ?_ | refine ER.nilCheck rfl rfl rfl ?_ | refine ER.fieldAddr rfl rfl rfl ?_ | refine ER.pickF rfl rfl rfl rfl ?_ | refine ER.cmpF rfl rfl rfl rfl rfl (by first | (dsimp only [cmpP]; omega) | exact rfl | exact Int.le_refl _) ?_ | refine ER.len1 rfl rfl rfl ?_ | refine ER.indexSl rfl rfl rfl rfl (by omega) (by omega) ?_ | refine EK.condF rfl ?_ | refine ER.load1 rfl rfl rfl (by assumption) ?_))
    refine EK.loopInv (fun i : Nat => [(7, .int .i64 i), (5, ptr y), (0, ptr W), (1, .int .i64 j)]) (fun i h' δ' => δ' = δ /\ i <= q.length /\ h' = h1) (fun i => q.length - i) 0 ⟨rfl, rfl, rfl, rfl, trivial⟩ ⟨rfl, Nat.zero_le _, rfl⟩ ?_
    rintro i h2 δ2 ⟨rfl, hi, rfl⟩ again
    by_cases hin : i < q.length
    · obtain ⟨⟨g1, m1⟩, hx1⟩ : ∃ x, q[i]? = some x := ⟨_, List.getElem?_eq_getElem hin⟩
      obtain ⟨bG', eG, cG1, -⟩ := slice_at (f := fun x : Bool × Nme => Value.bool x.1) I.giv hx1
      obtain ⟨bN', eN, rN1, -⟩ := slice_row (f := fun x : Bool × Nme => nmeL x.2) (fun _ => rfl) I.nms hx1
      injection eG with eG
      injection eG with eG
      injection eN with eN
      injection eN with eN
      subst eG eN
      dsimp only at cG1 rN1
      (repeat (first | refine EK.seq ?_ | refine EK.region ?_ | refine ER.done ?_ | refine EK.skip ?_ | refine EK.block ?_ | refine ER.move rfl rfl rfl ?_ | refine ER.nilCheck rfl rfl rfl ?_ | refine ER.fieldAddr rfl rfl rfl ?_ | refine ER.cmpT rfl rfl rfl rfl rfl (by first | (dsimp only [cmpP]; omega) | exact rfl | exact Int.le_refl _) ?_ | refine ER.len1 rfl rfl rfl ?_ | refine EK.condT rfl ?_ | refine ER.load1 rfl rfl rfl (by assumption) ?_))
      refine EK.regionAny (fun h' => h' = h2) ?_
      have hZ : h2 = h2 := rfl
      refine EA.tMove 0 rfl (by kernel_rfl) rfl rfl rfl rfl hZ ?_
      refine EA.tNil 1 rfl (by kernel_rfl) rfl rfl rfl rfl hZ ?_
      refine EA.tField 2 rfl (by kernel_rfl) rfl rfl rfl rfl hZ ?_
      refine EA.tLoad 3 rfl (by kernel_rfl) rfl rfl rfl rfl (fun _ hz => (by rw [hz]; exact c9)) hZ ?_
      refine EA.tMove 4 rfl (by kernel_rfl) rfl rfl rfl rfl hZ ?_
      refine EA.tIdxS 5 rfl (by kernel_rfl) rfl rfl rfl rfl rfl (by omega) (by omega) hZ ?_
      refine EA.tLoad 6 rfl (by kernel_rfl) rfl rfl rfl rfl (fun _ hz => (by rw [hz]; exact cG1)) hZ ?_
      refine EA.tMove 7 rfl (by kernel_rfl) rfl rfl rfl rfl hZ ?_
      cases g1 with
      | false =>
        refine EA.takeNo 8 rfl (by kernel_rfl) rfl rfl rfl hZ ?_
        refine EA.takeNo 9 rfl (by kernel_rfl) rfl rfl rfl hZ ?_
        refine EA.takeNo 10 rfl (by kernel_rfl) rfl rfl rfl hZ ?_
        refine EA.takeNo 11 rfl (by kernel_rfl) rfl rfl rfl hZ ?_
        refine EA.takeNo 12 rfl (by kernel_rfl) rfl rfl rfl hZ ?_
        refine EA.takeNo 13 rfl (by kernel_rfl) rfl rfl rfl hZ ?_
        refine EA.takeNo 14 rfl (by kernel_rfl) rfl rfl rfl hZ ?_
        refine EA.takeNo 15 rfl (by kernel_rfl) rfl rfl rfl hZ ?_
        refine EA.takeNo 16 rfl (by kernel_rfl) rfl rfl rfl hZ ?_
        refine EA.tPickF 17 rfl (by kernel_rfl) rfl rfl rfl rfl rfl hZ ?_
        refine EA.done (by kernel_rfl) ?_
        (repeat (first | refine EK.region ?_ | refine ER.done ?_ | refine EK.skip ?_ | refine EK.inBlock ?_ | refine ER.move rfl rfl rfl ?_ | refine ER.assign rfl rfl rfl ?_ | refine ER.add (kd := .i64) rfl rfl rfl rfl (i64_in (by omega) (by omega)) ?_ | refine EK.condF rfl ?_))
        exact EK.back (again (i + 1) _ _ (by omega) ⟨rfl, by omega, rfl⟩) ⟨rfl, rfl, rfl, rfl, trivial⟩
      | true =>
        have hni : i < (nums R.log).length := by omega
        obtain ⟨b1, hb1⟩ : ∃ b1, (nums R.log)[i]? = some b1 := ⟨_, List.getElem?_eq_getElem hni⟩
        have em : m1 = nm b1 := hN.2 i b1 _ hb1 hx1 rfl
        subst em
        have hne : nm b1 ≠ nm b := fun e => by
          have e1 := hinj b1 (List.mem_of_getElem? hb1) e
          subst e1
          have hij : i ≠ j := fun e => by
            subst e
            rw [hx] at hx1
            cases hx1
          exact hij (nodup_at (nums_nodup R.log) hb1 hb)
        refine EA.tMove 8 rfl (by kernel_rfl) rfl rfl rfl rfl hZ ?_
        refine EA.tNil 9 rfl (by kernel_rfl) rfl rfl rfl rfl hZ ?_
        refine EA.tField 10 rfl (by kernel_rfl) rfl rfl rfl rfl hZ ?_
        refine EA.tLoad 11 rfl (by kernel_rfl) rfl rfl rfl rfl (fun _ hz => (by rw [hz]; exact c8)) hZ ?_
        refine EA.tMove 12 rfl (by kernel_rfl) rfl rfl rfl rfl hZ ?_
        refine EA.tIdxS 13 rfl (by kernel_rfl) rfl rfl rfl rfl rfl (by omega) (by omega) hZ ?_
        refine EA.tLoadN (vs := nmeL (nm b1)) 14 rfl (by kernel_rfl) rfl rfl rfl rfl rfl (fun _ hz => by rw [hz]; exact rN1) hZ ?_
        refine EA.tLoadN (vs := nmeL (nm b)) 15 rfl (by kernel_rfl) rfl rfl rfl rfl rfl (fun _ hz => by rw [hz]; exact rY) hZ ?_
        refine EA.tEqA2 16 rfl (by kernel_rfl) rfl rfl rfl rfl rfl (nme_ne hne) hZ ?_
        refine EA.tPickT 17 rfl (by kernel_rfl) rfl rfl rfl rfl rfl hZ ?_
        refine EA.done (by kernel_rfl) ?_
        (repeat (first | refine EK.region ?_ | refine ER.done ?_ | refine EK.skip ?_ | refine EK.inBlock ?_ | refine ER.move rfl rfl rfl ?_ | refine ER.assign rfl rfl rfl ?_ | refine ER.add (kd := .i64) rfl rfl rfl rfl (i64_in (by omega) (by omega)) ?_ | refine EK.condF rfl ?_))
        exact EK.back (again (i + 1) _ _ (by omega) ⟨rfl, by omega, rfl⟩) ⟨rfl, rfl, rfl, rfl, trivial⟩
    · obtain rfl : i = q.length := by omega
      clear again
      (repeat (first | refine EK.seq ?_ | refine EK.region ?_ | refine ER.done ?_ | refine ER.move rfl rfl rfl ?_ | refine ER.nilCheck rfl rfl rfl ?_ | refine ER.fieldAddr rfl rfl rfl ?_ | refine ER.cmpF rfl rfl rfl rfl rfl (by first | (dsimp only [cmpP]; omega) | exact rfl | exact Int.le_refl _) ?_ | refine ER.len1 rfl rfl rfl ?_ | refine ER.indexSl rfl rfl rfl rfl (by omega) (by omega) ?_ | refine EK.condF rfl ?_ | refine EK.exit rfl ?_ | refine ER.load1 rfl rfl rfl (by assumption) ?_))
      refine ER.store1 rfl rfl rfl ⟨nofun, nofun⟩ ⟨_, cG⟩ (fG _) (fun x => x) ?_
      have I2 := I.setG hx
      have ly2 := hset_ne h2 ⟨bG, 0 + j * 1, none⟩ (.bool true) (r := y) (fun e => by change bG = y at e; omega)
      rw [ly] at ly2
      have u2 : Upd (fun c => blk (.slice (some ⟨bN, 0, none⟩) q.length kN) = some c \/ blk (.slice (some ⟨bG, 0, none⟩) q.length kG) = some c) h (hset h2 ⟨bG, 0 + j * 1, none⟩ (.bool true)) := upd_then (u1.mono (fun _ _ z => z.elim)) (Upd.hset (T := fun c => blk (.slice (some ⟨bN, 0, none⟩) q.length kN) = some c \/ blk (.slice (some ⟨bG, 0, none⟩) q.length kG) = some c) _ _ _ (.inr rfl)) (fun _ _ z => z)
      change ER _ _ _ _ _ _ _ _ _ _ (hset h2 ⟨bG, 0 + j * 1, none⟩ (.bool true)) _ _
      generalize hset h2 ⟨bG, 0 + j * 1, none⟩ (.bool true) = h3 at I2 ly2 u2 ⊢
      clear I u1 ly c8 c9 rY cG rN cF fN
      have hx2 : (q.set j (true, m0))[j]? = some (true, m0) := List.getElem?_set_self hjl
      have lq : (q.set j (true, m0)).length = q.length := List.length_set
      have I2' : WkI R nm lL lW lY lV h0 W F ⟨q.set j (true, m0), hs, .slice (some ⟨bN, 0, none⟩) (q.set j (true, m0)).length kN, .slice (some ⟨bG, 0, none⟩) q.length kG, .slice (some ⟨bF, 0, none⟩) F.length kF, hv, ov⟩ h3 := by rw [lq]; exact I2
      obtain ⟨bN', eN, rN, fN⟩ := slice_row (f := fun x : Bool × Nme => nmeL x.2) (fun _ => rfl) I2'.nms hx2
      injection eN with eN
      injection eN with eN
      subst eN
      dsimp only at rN
      have c8 : hcell h3 ⟨W, 8, none⟩ = some (.slice (some ⟨bN, 0, none⟩) q.length kN) := hcell_of I2.row rfl
      have rY : TJ.hrow h3 y 0 (nmeL (nm b)) := hrow_block (rest := []) (by rw [List.append_nil]; exact ly2)
      (repeat (first | refine EK.seq ?_ | refine ER.done ?_))
      refine EK.regionAnyL (fun h' => h' = h3) 7 ?_
      have hZ : h3 = h3 := rfl
      refine EA.tMove 0 rfl (by kernel_rfl) rfl rfl rfl rfl hZ ?_
      refine EA.tNil 1 rfl (by kernel_rfl) rfl rfl rfl rfl hZ ?_
      refine EA.tField 2 rfl (by kernel_rfl) rfl rfl rfl rfl hZ ?_
      refine EA.tLoad 3 rfl (by kernel_rfl) rfl rfl rfl rfl (fun _ hz => (by rw [hz]; exact c8)) hZ ?_
      refine EA.tMove 4 rfl (by kernel_rfl) rfl rfl rfl rfl hZ ?_
      refine EA.tLoadN (vs := nmeL (nm b)) 5 rfl (by kernel_rfl) rfl rfl rfl rfl rfl (fun _ hz => by rw [hz]; exact rY) hZ ?_
      refine EA.val 6 rfl (by kernel_rfl) rfl rfl rfl (fun ρ Q X hρ hq => sem_indexSl (hρ _ _ rfl) (hρ _ _ rfl) (by omega) (by omega) hq) hZ ?_
      refine EA.unitL (h' := hsetRow h3 bN (0 + j * 2) (nmeL (nm b))) 7 rfl (by kernel_rfl) rfl rfl rfl (fun ρ Q X hρ hq => sem_storeN (vs := nmeL (nm b)) (hρ _ _ rfl) (hρ _ _ rfl) rfl (by simp [nmeL, OneCell]) (fun j' hj' => ⟨by
        rcases (show j' = 0 \/ j' = 1 by have h2 : j' < 2 := hj'; omega) with rfl | rfl
        · exact ⟨_, rN 0 _ rfl⟩
        · exact ⟨_, rN 1 _ rfl⟩, fN _, fun x => x⟩) hq) ?_
      refine EA.done (by kernel_rfl) ?_
      have I3 := I2'.setN (n := nm b) hx2
      rw [lq, List.set_set] at I3
      have u3 : Upd (fun x => x = bN) h3 (hsetRow h3 bN (0 + j * 2) (nmeL (nm b))) := (Upd.hset (T := fun x => x = bN) h3 ⟨bN, 0 + j * 2, none⟩ _ rfl).trans (Upd.hset (T := fun x => x = bN) _ ⟨bN, 0 + j * 2 + 1, none⟩ _ rfl)
      have ly3 := u3.get ly2 (fun e => by change y = bN at e; omega)
      have uu := upd_then u2 u3 (fun c _ e => .inl (by rw [e]; rfl))
      clear hZ I2 I2' u2 u3 ly2 c8 rY rN fN
      generalize hsetRow h3 bN (0 + j * 2) (nmeL (nm b)) = h4 at I3 ly3 uu ⊢
      have hjF := (take_mid hF).2.2
      obtain ⟨bF', eF, cF, -⟩ := slice_at (f := fun x : Int => Value.int .i64 x) I3.fst hF
      injection eF with eF
      injection eF with eF
      subst eF
      have c10 : hcell h4 ⟨W, 10, none⟩ = some (.slice (some ⟨bF, 0, none⟩) F.length kF) := hcell_of I3.row rfl
      have rY : TJ.hrow h4 y 0 (nmeL (nm b)) := hrow_block (rest := []) (by rw [List.append_nil]; exact ly3)
      (repeat refine EK.seq ?_)
      refine EK.regionAny (fun h' => hcell h' ⟨W, 10, none⟩ = some (.slice (some ⟨bF, 0, none⟩) F.length kF) /\ hcell h' ⟨bF, 0 + j * 1, none⟩ = some (.int .i64 (lookN hs (nm b))) /\ TJ.hrow h' y 0 (nmeL (nm b))) ?_
      have hZ : _ /\ _ /\ _ := And.intro c10 ⟨cF, rY⟩
      refine EA.tMove 0 rfl (by kernel_rfl) rfl rfl rfl rfl hZ ?_
      refine EA.tNil 1 rfl (by kernel_rfl) rfl rfl rfl rfl hZ ?_
      refine EA.tField 2 rfl (by kernel_rfl) rfl rfl rfl rfl hZ ?_
      refine EA.tLoad 3 rfl (by kernel_rfl) rfl rfl rfl rfl (fun _ hz => hz.1) hZ ?_
      refine EA.tMove 4 rfl (by kernel_rfl) rfl rfl rfl rfl hZ ?_
      refine EA.tIdxS 5 rfl (by kernel_rfl) rfl rfl rfl rfl rfl (by omega) (by omega) hZ ?_
      refine EA.tLoad 6 rfl (by kernel_rfl) rfl rfl rfl rfl (fun _ hz => hz.2.1) hZ ?_
      refine EA.tMove 7 rfl (by kernel_rfl) rfl rfl rfl rfl hZ ?_
      refine EA.tLoadN (vs := nmeL (nm b)) 8 rfl (by kernel_rfl) rfl rfl rfl rfl rfl (fun _ hz => hz.2.2) hZ ?_
      refine EA.callR 9 rfl (by kernel_rfl) rfl rfl rfl rfl rfl rfl (begins_ok I3 hhl) ?_
      rintro _ h5 δ5 ⟨rfl, rfl, u5⟩
      have hZ : _ /\ _ /\ _ := And.intro (u5.hcell hZ.1 (fun x => x)) ⟨u5.hcell hZ.2.1 (fun x => x), fun a v hv => u5.hcell (hZ.2.2 a v hv) (fun x => x)⟩
      refine ⟨hZ, ?_⟩
      refine EA.tCmpT 10 rfl (by kernel_rfl) rfl rfl rfl rfl rfl rfl (by first | (dsimp only [cmpP]; omega) | exact rfl | exact Int.le_refl _) hZ ?_
      refine EA.tAssign 11 rfl (by kernel_rfl) rfl rfl rfl rfl hZ ?_
      refine EA.done (by kernel_rfl) ?_
      (repeat refine EK.ret ?_)
      exact EU.ret1 rfl rfl ⟨rfl, rfl, I3.upd0 u5, uu.trans (u5.mono (fun _ _ z => z.elim))⟩
end
end
section
open Go Go.TJ Go.Conc Go.Proofs
abbrev acc0 : List Value := accL 0 0 0 0 0 0 0 false
section
variable {Γ : Type} {main : Bool} {S : Sit Γ} {δ : Ix Γ} {R : Rec} {nm : Nat -> Nme} {lL lW lY lV sP : Value} {h0 h h' : Hp} {W x i t : Nat} {F : List Int} {s : WS} {picks : List Int} {X : Us} {out : Bool}
set_option maxHeartbeats 8000000 in
set_option maxRecDepth 8000 in
theorem wnext_ok (m : RecM R picks lL lW lY lV sP h0) (hlen : R.log.length <= 65536) (I : WkI R nm lL lW lY lV h0 W F s h) (hx : h[x]? = some (wrO W i out t)) (hx0 : h0.size <= x) (ht : t <= R.log.length) :
    CallW Try.prog main (NoS (Γ := Γ)) 90 #[ptr x] h δ (Ret fun v h' δ' => δ' = δ /\ ∃ t', t' <= R.log.length /\ h'[x]? = some (wrO W i out t') /\ WkI R nm lL lW lY lV h0 W F s h' /\ Upd (fun b => b = x) h h' /\
      ((∃ e, ownFrom R i t = e :: ownFrom R i t' /\ e ∈ R.log /\ v = .tuple #[.agg (entL (nums R.log) e).toArray, .bool true]) \/ (ownFrom R i t = [] /\ ownFrom R i t' = [] /\ v = .tuple #[.agg acc0.toArray, .bool false]))) := by
  obtain ⟨aL, kL, eL⟩ := m.log.val
  subst eL
  obtain ⟨y, hy⟩ : ∃ y, y = h.size := ⟨_, rfl⟩
  have hxl := lt_of_get hx
  refine CallW.start (n := 49) rfl rfl ?_
  (repeat (first | refine EK.seq ?_ | refine EK.region ?_ | refine ER.done ?_ | refine EK.block ?_ | refine ER.assign rfl rfl rfl ?_ | refine ER.allocA rfl rfl ?_))
  refine EK.gen (fun h' => WkI R nm (.slice aL R.log.length kL) lW lY lV h0 W F s h' /\ Upd (fun b => b = x) h h' /\ h'[x]? = some (wrO W i out t) /\ h'[y]? = some (accO acc0) /\ y < h'.size) ⟨I.upd0 (Upd.push _ _), Upd.push _ _, get_push _ hx, by rw [hy]; exact get_push_new _ _, by rw [hy, Array.size_push]; omega⟩ ?_
  rw [<- hy]
  have hyx : y ≠ x := by omega
  have hys : h.size <= y := by omega
  have hy0 : h0.size <= y := by have := I.up.size; omega
  clear I hx hy hxl
  rintro h1 ⟨I, u1, hx, ly, hyl⟩
  refine EK.loopInv (fun _ : Nat => [(2, ptr y), (0, ptr x)]) (fun t1 h' δ' => δ' = δ /\ t1 <= R.log.length /\ ownFrom R i t = ownFrom R i t1 /\ WkI R nm (.slice aL R.log.length kL) lW lY lV h0 W F s h' /\ Upd (fun b => b = x) h h' /\ h'[x]? = some (wrO W i out t1) /\ h'[y]? = some (accO acc0) /\ y < h'.size) (fun t1 => R.log.length - t1) t ⟨rfl, rfl, trivial⟩ ⟨rfl, ht, rfl, I, u1, hx, ly, hyl⟩ ?_
  clear I u1 hx ly hyl ht
  rintro t1 h2 δ2 ⟨rfl, ht, hown, I, u2, hx, ly, hyl⟩ again
  have x0 : hcell h2 ⟨x, 0, none⟩ = some (ptr W) := hcell_of hx rfl
  have x1 : hcell h2 ⟨x, 1, none⟩ = some (.int .i64 i) := hcell_of hx rfl
  have x3 : hcell h2 ⟨x, 3, none⟩ = some (.int .i64 t1) := hcell_of hx rfl
  have c2 : hcell h2 ⟨W, 2, none⟩ = some (.slice aL R.log.length kL) := hcell_of I.row rfl
  (repeat refine EK.seq ?_)
  refine EK.regionAny (fun h' => h' = h2) ?_
  have hZ : h2 = h2 := rfl
  refine EA.tMove 0 rfl (by kernel_rfl) rfl rfl rfl rfl hZ ?_
  refine EA.tNil 1 rfl (by kernel_rfl) rfl rfl rfl rfl hZ ?_
  refine EA.tField 2 rfl (by kernel_rfl) rfl rfl rfl rfl hZ ?_
  refine EA.tLoad 3 rfl (by kernel_rfl) rfl rfl rfl rfl (fun _ hz => (by rw [hz]; exact x3)) hZ ?_
  refine EA.tMove 4 rfl (by kernel_rfl) rfl rfl rfl rfl hZ ?_
  refine EA.tNil 5 rfl (by kernel_rfl) rfl rfl rfl rfl hZ ?_
  refine EA.tField 6 rfl (by kernel_rfl) rfl rfl rfl rfl hZ ?_
  refine EA.tLoad 7 rfl (by kernel_rfl) rfl rfl rfl rfl (fun _ hz => (by rw [hz]; exact x0)) hZ ?_
  refine EA.tNil 8 rfl (by kernel_rfl) rfl rfl rfl rfl hZ ?_
  refine EA.tField 9 rfl (by kernel_rfl) rfl rfl rfl rfl hZ ?_
  refine EA.tField 10 rfl (by kernel_rfl) rfl rfl rfl rfl hZ ?_
  refine EA.tLoad 11 rfl (by kernel_rfl) rfl rfl rfl rfl (fun _ hz => (by rw [hz]; exact c2)) hZ ?_
  refine EA.tLen1 12 rfl (by kernel_rfl) rfl rfl rfl rfl hZ ?_
  by_cases hin : t1 < R.log.length
  · obtain ⟨e, he⟩ : ∃ e, R.log[t1]? = some e := ⟨_, List.getElem?_eq_getElem hin⟩
    obtain ⟨bL, ea, hrow, -⟩ := slice_row (entL_len (nums R.log)) (m.log.upd I.up (fun _ _ x => x)) he
    subst ea
    refine EA.tCmpT 13 rfl (by kernel_rfl) rfl rfl rfl rfl rfl rfl (by first | (dsimp only [cmpP]; omega) | exact rfl | exact Int.le_refl _) hZ ?_
    refine EA.done (by kernel_rfl) ?_
    clear hZ
    (repeat (first | refine EK.seq ?_ | refine EK.skip ?_ | refine EK.block ?_ | refine EK.condT rfl ?_))
    refine EK.regionAnyL (fun h' => hcell h' ⟨x, 0, none⟩ = some (ptr W) /\ hcell h' ⟨x, 3, none⟩ = some (.int .i64 t1) /\ hcell h' ⟨W, 2, none⟩ = some (.slice (some ⟨bL, 0, none⟩) R.log.length kL) /\ TJ.hrow h' bL (0 + t1 * 8) (entL (nums R.log) e)) 15 ?_
    have hZ : _ /\ _ /\ _ /\ _ := And.intro x0 ⟨x3, c2, hrow⟩
    refine EA.tMove 0 rfl (by kernel_rfl) rfl rfl rfl rfl hZ ?_
    refine EA.tNil 1 rfl (by kernel_rfl) rfl rfl rfl rfl hZ ?_
    refine EA.tField 2 rfl (by kernel_rfl) rfl rfl rfl rfl hZ ?_
    refine EA.tLoad 3 rfl (by kernel_rfl) rfl rfl rfl rfl (fun _ hz => hz.1) hZ ?_
    refine EA.tNil 4 rfl (by kernel_rfl) rfl rfl rfl rfl hZ ?_
    refine EA.tField 5 rfl (by kernel_rfl) rfl rfl rfl rfl hZ ?_
    refine EA.tField 6 rfl (by kernel_rfl) rfl rfl rfl rfl hZ ?_
    refine EA.tLoad 7 rfl (by kernel_rfl) rfl rfl rfl rfl (fun _ hz => hz.2.2.1) hZ ?_
    refine EA.tMove 8 rfl (by kernel_rfl) rfl rfl rfl rfl hZ ?_
    refine EA.tNil 9 rfl (by kernel_rfl) rfl rfl rfl rfl hZ ?_
    refine EA.tField 10 rfl (by kernel_rfl) rfl rfl rfl rfl hZ ?_
    refine EA.tLoad 11 rfl (by kernel_rfl) rfl rfl rfl rfl (fun _ hz => hz.2.1) hZ ?_
    refine EA.tIdxS 12 rfl (by kernel_rfl) rfl rfl rfl rfl rfl (by omega) (by omega) hZ ?_
    refine EA.tLoadN (vs := entL (nums R.log) e) 13 rfl (by kernel_rfl) rfl rfl rfl rfl rfl (fun _ hz => hz.2.2.2) hZ ?_
    have up := Upd.push (T := fun _ => False) h2 (.cells acc0.toArray 75)
    refine EA.val (v := ptr h2.size) (h' := h2.push (.cells acc0.toArray 75)) 14 rfl (by kernel_rfl) rfl rfl rfl (fun ρ Q X hρ hq => sem_allocA hq) ⟨up.hcell x0 (fun x => x), up.hcell x3 (fun x => x), up.hcell c2 (fun x => x), fun j v hv => up.hcell (hrow j v hv) (fun x => x)⟩ ?_
    refine EA.unitL (h' := h2.push (.cells (entL (nums R.log) e).toArray 75)) 15 rfl (by kernel_rfl) rfl rfl rfl (fun ρ Q X hρ hq => sem_storeN (vs := entL (nums R.log) e) (hρ _ _ rfl) (hρ _ _ rfl) rfl (by simp [entL, accL, OneCell]) (acc_all (vs := acc0) rfl (get_push_new _ _)) (by rw [hsetRow_push (c := acc0) (vs := entL (nums R.log) e) rfl]; exact hq)) ?_
    refine EA.done (by kernel_rfl) ?_
    clear hZ up
    obtain ⟨z, hz⟩ : ∃ z, z = h2.size := ⟨_, rfl⟩
    have hzx : z ≠ x := by have := lt_of_get hx; omega
    have hzy : z ≠ y := by omega
    refine EK.gen (fun h' => WkI R nm (.slice (some ⟨bL, 0, none⟩) R.log.length kL) lW lY lV h0 W F s h' /\ Upd (fun b => b = x) h h' /\ h'[x]? = some (wrO W i out t1) /\ h'[y]? = some (accO acc0) /\ h'[z]? = some (accO (entL (nums R.log) e))) ⟨I.upd0 (Upd.push _ _), u2.trans (Upd.push _ _), get_push _ hx, get_push _ ly, by rw [hz]; exact get_push_new _ _⟩ ?_
    rw [<- hz]
    clear I u2 hx ly hyl x0 x1 x3 c2 hrow hz
    rintro h3 ⟨I, u3, hx, ly, lz⟩
    have x3 : hcell h3 ⟨x, 3, none⟩ = some (.int .i64 t1) := hcell_of hx rfl
    (repeat (first | refine EK.seq ?_ | refine EK.region ?_ | refine ER.move rfl rfl rfl ?_ | refine ER.nilCheck rfl rfl rfl ?_ | refine ER.fieldAddr rfl rfl rfl ?_ | refine ER.load1 rfl rfl rfl (hcell_of (by assumption) rfl) ?_ | refine ER.add (kd := .i64) rfl rfl rfl rfl (i64_in (by omega) (by omega)) ?_))
    refine ER.store1 rfl rfl rfl ⟨nofun, nofun⟩ ⟨_, x3⟩ (hfroz_of hx) (fun x => x) ?_
    have e7 : hset h3 ⟨x, 3, none⟩ (.int .i64 (t1 + 1 : Nat)) = h3.setIfInBounds x (wrO W i out (t1 + 1)) := hset_block hx _
    have I4 := I.other hx hx0 (by decide) (by decide) (by decide) (by decide) (wrO W i out (t1 + 1))
    have u4 : Upd (fun b => b = x) h (h3.setIfInBounds x (wrO W i out (t1 + 1))) := u3.trans (Upd.set _ _ _ rfl)
    have hx4 : (h3.setIfInBounds x (wrO W i out (t1 + 1)))[x]? = some (wrO W i out (t1 + 1)) := get_set_same hx
    have ly4 : (h3.setIfInBounds x (wrO W i out (t1 + 1)))[y]? = some (accO acc0) := by rw [get_set_ne _ (Ne.symm hyx)]; exact ly
    have lz4 : (h3.setIfInBounds x (wrO W i out (t1 + 1)))[z]? = some (accO (entL (nums R.log) e)) := by rw [get_set_ne _ (Ne.symm hzx)]; exact lz
    rw [show ((t1 : Int) + 1) = ((t1 + 1 : Nat) : Int) by omega]
    change ER _ _ _ _ _ _ _ _ _ _ (hset h3 ⟨x, 3, none⟩ (.int .i64 (t1 + 1 : Nat))) _ _
    rw [e7]
    generalize h3.setIfInBounds x (wrO W i out (t1 + 1)) = h4 at I4 u4 hx4 ly4 lz4 ⊢
    clear e7 I u3 hx ly lz x3
    have z0 : hcell h4 ⟨z, 0, none⟩ = some (.int .i64 e.thr) := hcell_of lz4 rfl
    have x1 : hcell h4 ⟨x, 1, none⟩ = some (.int .i64 i) := hcell_of hx4 rfl
    (repeat (first | refine EK.seq ?_ | refine ER.done ?_))
    refine EK.regionAny (fun h' => h' = h4) ?_
    have hZ : h4 = h4 := rfl
    refine EA.tField 0 rfl (by kernel_rfl) rfl rfl rfl rfl hZ ?_
    refine EA.tLoad 1 rfl (by kernel_rfl) rfl rfl rfl rfl (fun _ hz => (by rw [hz]; exact z0)) hZ ?_
    refine EA.tMove 2 rfl (by kernel_rfl) rfl rfl rfl rfl hZ ?_
    refine EA.tNil 3 rfl (by kernel_rfl) rfl rfl rfl rfl hZ ?_
    refine EA.tField 4 rfl (by kernel_rfl) rfl rfl rfl rfl hZ ?_
    refine EA.tLoad 5 rfl (by kernel_rfl) rfl rfl rfl rfl (fun _ hz => (by rw [hz]; exact x1)) hZ ?_
    by_cases hei : e.thr = i
    · refine EA.tCmpT 6 rfl (by kernel_rfl) rfl rfl rfl rfl rfl rfl (by first | (dsimp only [cmpP]; omega) | exact rfl | exact Int.le_refl _) hZ ?_
      refine EA.done (by kernel_rfl) ?_
      rw [ownFrom_step he, if_pos hei] at hown
      clear hZ
      (repeat (first | refine EK.seq ?_ | refine EK.region ?_ | refine EK.condT rfl ?_))
      refine ER.loadN (vs := entL (nums R.log) e) rfl rfl rfl rfl (hrow_block (rest := []) (by rw [List.append_nil]; exact lz4)) ?_
      refine ER.storeN (vs := entL (nums R.log) e) rfl rfl rfl rfl (by simp [entL, accL, OneCell]) (acc_all rfl ly4) ?_
      rw [row_set (c := acc0) (vs := entL (nums R.log) e) ly4 rfl]
      (repeat (first | refine ER.done ?_ | refine ER.assign rfl rfl rfl ?_ | refine EK.ret ?_))
      refine EU.retCell (vs := entL (nums R.log) e) rfl rfl rfl (hrow_block (rest := []) (by rw [List.append_nil]; exact get_set_same ly4)) rfl ⟨rfl, t1 + 1, by omega, by rw [get_set_ne _ hyx]; exact hx4, I4.other ly4 hy0 (by decide) (by decide) (by decide) (by decide) _, upd_then u4 (Upd.set (T := fun b => b = y) _ _ _ rfl) (fun b hb e => by omega), .inl ⟨e, hown, List.mem_of_getElem? he, rfl⟩⟩
    · refine EA.tCmpF 6 rfl (by kernel_rfl) rfl rfl rfl rfl rfl rfl (by first | (dsimp only [cmpP]; omega) | exact rfl | exact Int.le_refl _) hZ ?_
      refine EA.done (by kernel_rfl) ?_
      rw [ownFrom_step he, if_neg hei] at hown
      clear hZ
      (repeat (first | refine EK.skip ?_ | refine EK.inBlock ?_ | refine EK.condF rfl ?_))
      exact EK.back (again (t1 + 1) _ _ (by omega) ⟨rfl, by omega, hown, I4, u4, hx4, ly4, lt_of_get ly4⟩) ⟨rfl, rfl, trivial⟩
  · obtain rfl : t1 = R.log.length := by omega
    refine EA.tCmpF 13 rfl (by kernel_rfl) rfl rfl rfl rfl rfl rfl (by first | (dsimp only [cmpP]; omega) | exact rfl | exact Int.le_refl _) hZ ?_
    refine EA.done (by kernel_rfl) ?_
    rw [ownFrom_end] at hown
    clear hZ
    (repeat (first | refine EK.seq ?_ | refine EK.region ?_ | refine EK.condF rfl ?_ | refine EK.exit rfl ?_))
    refine ER.buildS (cells := acc0.toArray) rfl rfl (by rfl) rfl ?_
    refine ER.storeN (vs := acc0) rfl rfl rfl rfl (by simp [accL, OneCell]) (acc_all rfl ly) ?_
    rw [row_set (c := acc0) (vs := acc0) ly rfl]
    (repeat (first | refine ER.done ?_ | refine ER.assign rfl rfl rfl ?_ | refine EK.ret ?_))
    refine EU.retCell (vs := acc0) rfl rfl rfl (hrow_block (rest := []) (by rw [List.append_nil]; exact get_set_same ly)) rfl ⟨rfl, R.log.length, Nat.le_refl _, by rw [get_set_ne _ hyx]; exact hx, I.other ly hy0 (by decide) (by decide) (by decide) (by decide) _, upd_then u2 (Upd.set (T := fun b => b = y) _ _ _ rfl) (fun b hb e => by omega), .inr ⟨hown, ownFrom_end _ _, rfl⟩⟩
set_option maxHeartbeats 8000000 in
set_option maxRecDepth 8000 in
theorem wleft_ok (m : RecM R picks lL lW lY lV sP h0) (hlen : R.left.length <= 65536) (I : WkI R nm lL lW lY lV h0 W F s h) (hx : h[x]? = some (wrO W i out t)) (_hx0 : h0.size <= x) :
    CallW Try.prog main (NoS (Γ := Γ)) 91 #[ptr x] h δ (Ret fun v h' δ' => δ' = δ /\ Upd (fun _ => False) h h' /\
      ((∃ q, q ∈ R.left /\ q.1 = i /\ v = .tuple #[.agg (leftE (nums R.log) R.val q).toArray, .bool true]) \/ ((∀ q, q ∈ R.left -> q.1 ≠ i) /\ v = .tuple #[.agg acc0.toArray, .bool false]))) := by
  obtain ⟨aV, kV, eV⟩ := m.left.val
  subst eV
  obtain ⟨y, hy⟩ : ∃ y, y = h.size := ⟨_, rfl⟩
  refine CallW.start (n := 47) rfl rfl ?_
  (repeat (first | refine EK.seq ?_ | refine EK.region ?_ | refine ER.done ?_ | refine EK.block ?_ | refine ER.assign rfl rfl rfl ?_ | refine ER.allocA rfl rfl ?_))
  refine EK.gen (fun h' => WkI R nm lL lW lY (.slice aV R.left.length kV) h0 W F s h' /\ Upd (fun _ => False) h h' /\ h'[x]? = some (wrO W i out t) /\ h'[y]? = some (accO acc0)) ⟨I.upd0 (Upd.push _ _), Upd.push _ _, get_push _ hx, by rw [hy]; exact get_push_new _ _⟩ ?_
  rw [<- hy]
  have hys : h.size <= y := by omega
  clear I hx hy
  rintro h1 ⟨I, u1, hx, ly⟩
  have x0 : hcell h1 ⟨x, 0, none⟩ = some (ptr W) := hcell_of hx rfl
  have x1 : hcell h1 ⟨x, 1, none⟩ = some (.int .i64 i) := hcell_of hx rfl
  have c5 : hcell h1 ⟨W, 5, none⟩ = some (.slice aV R.left.length kV) := hcell_of I.row rfl
  refine EK.loopInv (fun j : Nat => [(4, .int .i64 j), (2, ptr y), (0, ptr x)]) (fun j h' δ' => δ' = δ /\ j <= R.left.length /\ h' = h1 /\ ∀ j' q, j' < j -> R.left[j']? = some q -> q.1 ≠ i) (fun j => R.left.length - j) 0 ⟨rfl, rfl, rfl, trivial⟩ ⟨rfl, Nat.zero_le _, rfl, fun j' q hj => by omega⟩ ?_
  rintro j h2 δ2 ⟨rfl, hj, rfl, hno⟩ again
  by_cases hin : j < R.left.length
  · obtain ⟨q, hq⟩ : ∃ q, R.left[j]? = some q := ⟨_, List.getElem?_eq_getElem hin⟩
    obtain ⟨bV, ea, hrow, -⟩ := slice_row (leftE_len (nums R.log) R.val) (m.left.upd I.up (fun _ _ x => x)) hq
    subst ea
    have w0 : hcell h2 ⟨bV, 0 + j * 8 + 0, none⟩ = some (.int .i64 q.1) := hrow 0 _ rfl
    (repeat (first | refine EK.seq ?_ | refine EK.region ?_ | refine ER.done ?_ | refine EK.skip ?_ | refine EK.block ?_ | refine ER.move rfl rfl rfl ?_ | refine ER.nilCheck rfl rfl rfl ?_ | refine ER.fieldAddr rfl rfl rfl ?_ | refine ER.load1 rfl rfl rfl (hcell_of (by assumption) rfl) ?_ | refine ER.cmpT rfl rfl rfl rfl rfl (by first | (dsimp only [cmpP]; omega) | exact rfl | exact Int.le_refl _) ?_ | refine ER.len1 rfl rfl rfl ?_ | refine EK.condT rfl ?_ | refine ER.load1 rfl rfl rfl (by assumption) ?_))
    refine EK.regionAny (fun h' => h' = h2) ?_
    have hZ : h2 = h2 := rfl
    refine EA.tMove 0 rfl (by kernel_rfl) rfl rfl rfl rfl hZ ?_
    refine EA.tNil 1 rfl (by kernel_rfl) rfl rfl rfl rfl hZ ?_
    refine EA.tField 2 rfl (by kernel_rfl) rfl rfl rfl rfl hZ ?_
    refine EA.tLoad 3 rfl (by kernel_rfl) rfl rfl rfl rfl (fun _ hz => (by rw [hz]; exact x0)) hZ ?_
    refine EA.tNil 4 rfl (by kernel_rfl) rfl rfl rfl rfl hZ ?_
    refine EA.tField 5 rfl (by kernel_rfl) rfl rfl rfl rfl hZ ?_
    refine EA.tField 6 rfl (by kernel_rfl) rfl rfl rfl rfl hZ ?_
    refine EA.tLoad 7 rfl (by kernel_rfl) rfl rfl rfl rfl (fun _ hz => (by rw [hz]; exact c5)) hZ ?_
    refine EA.tMove 8 rfl (by kernel_rfl) rfl rfl rfl rfl hZ ?_
    refine EA.tIdxS 9 rfl (by kernel_rfl) rfl rfl rfl rfl rfl (by omega) (by omega) hZ ?_
    refine EA.tField 10 rfl (by kernel_rfl) rfl rfl rfl rfl hZ ?_
    refine EA.tLoad 11 rfl (by kernel_rfl) rfl rfl rfl rfl (fun _ hz => (by rw [hz]; exact w0)) hZ ?_
    refine EA.tMove 12 rfl (by kernel_rfl) rfl rfl rfl rfl hZ ?_
    refine EA.tNil 13 rfl (by kernel_rfl) rfl rfl rfl rfl hZ ?_
    refine EA.tField 14 rfl (by kernel_rfl) rfl rfl rfl rfl hZ ?_
    refine EA.tLoad 15 rfl (by kernel_rfl) rfl rfl rfl rfl (fun _ hz => (by rw [hz]; exact x1)) hZ ?_
    by_cases hqi : q.1 = i
    · refine EA.tCmpT 16 rfl (by kernel_rfl) rfl rfl rfl rfl rfl rfl (by first | (dsimp only [cmpP]; omega) | exact rfl | exact Int.le_refl _) hZ ?_
      refine EA.done (by kernel_rfl) ?_
      clear hZ
      (repeat (first | refine EK.seq ?_ | refine EK.region ?_ | refine ER.move rfl rfl rfl ?_ | refine ER.nilCheck rfl rfl rfl ?_ | refine ER.fieldAddr rfl rfl rfl ?_ | refine ER.load1 rfl rfl rfl (hcell_of (by assumption) rfl) ?_ | refine ER.indexSl rfl rfl rfl rfl (by omega) (by omega) ?_ | refine EK.condT rfl ?_ | refine ER.load1 rfl rfl rfl (by assumption) ?_))
      refine ER.loadN (vs := leftE (nums R.log) R.val q) rfl rfl rfl rfl hrow ?_
      refine ER.storeN (vs := leftE (nums R.log) R.val q) rfl rfl rfl rfl (by simp [leftE, accL, OneCell]) (acc_all rfl ly) ?_
      rw [row_set (c := acc0) (vs := leftE (nums R.log) R.val q) ly rfl]
      (repeat (first | refine ER.done ?_ | refine ER.assign rfl rfl rfl ?_ | refine EK.ret ?_))
      exact EU.retCell (vs := leftE (nums R.log) R.val q) rfl rfl rfl (hrow_block (rest := []) (by rw [List.append_nil]; exact get_set_same ly)) rfl ⟨rfl, upd_then u1 (Upd.set (T := fun b => b = y) _ _ _ rfl) (fun b hb e => by omega), .inl ⟨q, List.mem_of_getElem? hq, hqi, rfl⟩⟩
    · refine EA.tCmpF 16 rfl (by kernel_rfl) rfl rfl rfl rfl rfl rfl (by first | (dsimp only [cmpP]; omega) | exact rfl | exact Int.le_refl _) hZ ?_
      refine EA.done (by kernel_rfl) ?_
      clear hZ
      (repeat (first | refine EK.region ?_ | refine ER.done ?_ | refine EK.skip ?_ | refine EK.inBlock ?_ | refine ER.move rfl rfl rfl ?_ | refine ER.assign rfl rfl rfl ?_ | refine ER.add (kd := .i64) rfl rfl rfl rfl (i64_in (by omega) (by omega)) ?_ | refine EK.condF rfl ?_))
      exact EK.back (again (j + 1) _ _ (by omega) ⟨rfl, by omega, rfl, fun j' q' h1 h2 => by
        by_cases e : j' = j
        · subst e
          rw [hq] at h2; cases h2; exact hqi
        · exact hno j' q' (by omega) h2⟩) ⟨rfl, rfl, rfl, trivial⟩
  · obtain rfl : j = R.left.length := by omega
    (repeat (first | refine EK.seq ?_ | refine EK.region ?_ | refine ER.done ?_ | refine ER.move rfl rfl rfl ?_ | refine ER.nilCheck rfl rfl rfl ?_ | refine ER.fieldAddr rfl rfl rfl ?_ | refine ER.load1 rfl rfl rfl (hcell_of (by assumption) rfl) ?_ | refine ER.cmpF rfl rfl rfl rfl rfl (by first | (dsimp only [cmpP]; omega) | exact rfl | exact Int.le_refl _) ?_ | refine ER.len1 rfl rfl rfl ?_ | refine EK.condF rfl ?_ | refine EK.exit rfl ?_ | refine ER.load1 rfl rfl rfl (by assumption) ?_))
    refine ER.buildS (cells := acc0.toArray) rfl rfl (by rfl) rfl ?_
    refine ER.storeN (vs := acc0) rfl rfl rfl rfl (by simp [accL, OneCell]) (acc_all rfl ly) ?_
    rw [row_set (c := acc0) (vs := acc0) ly rfl]
    (repeat (first | refine ER.done ?_ | refine ER.assign rfl rfl rfl ?_ | refine EK.ret ?_))
    exact EU.retCell (vs := acc0) rfl rfl rfl (hrow_block (rest := []) (by rw [List.append_nil]; exact get_set_same ly)) rfl ⟨rfl, upd_then u1 (Upd.set (T := fun b => b = y) _ _ _ rfl) (fun b hb e => by omega), .inr ⟨fun q hq => by
      obtain ⟨j', hj', rfl⟩ := List.mem_iff_getElem.1 hq
      exact hno j' _ hj' (List.getElem?_eq_getElem hj'), rfl⟩⟩
set_option maxHeartbeats 1000000 in
theorem fell_ok {j : Int} (I : WkI R nm lL lW lY lV h0 W F s h) : CallW Try.prog main S 92 #[ptr W, .int .i64 j] h δ (Ret (Det (.bool false) h δ)) := by
  have c6 : hcell h ⟨W, 6, none⟩ = some nilS := hcell_of I.row rfl
  refine CallW.start (n := 26) rfl rfl ?_
  (repeat (first | refine EK.seq ?_ | refine EK.region ?_ | refine ER.done ?_ | refine EK.block ?_ | refine ER.assign rfl rfl rfl ?_))
  refine EK.loop ?_
  (repeat (first | refine EK.seq ?_ | refine EK.region ?_ | refine ER.done ?_ | refine ER.move rfl rfl rfl ?_ | refine ER.assign rfl rfl rfl ?_ | refine ER.nilCheck rfl rfl rfl ?_ | refine ER.fieldAddr rfl rfl rfl ?_ | refine ER.cmpF rfl rfl rfl rfl rfl (by first | (dsimp only [cmpP]; omega) | exact rfl | exact Int.le_refl _) ?_ | refine ER.len1 rfl rfl rfl ?_ | refine EK.condF rfl ?_ | refine EK.ret ?_ | refine EK.exit rfl ?_ | refine ER.load1 rfl rfl rfl (by assumption) ?_))
  exact EU.ret1 rfl rfl det
end
end
section
open Go Go.TJ Go.Conc Go.Proofs
structure WC (X : Us) (picks : List Int) (R : Rec) (nm : Nat -> Nme) (lL lW lY lV sP : Value) (h0 : Hp) (s : WS) : Prop where
  ok : RecOk X picks R
  m : RecM R picks lL lW lY lV sP h0
  inj : ∀ b b', X.isC b -> X.isC b' -> nm b = nm b' -> b = b'
  beg : ∀ b, X.isC b -> lookN s.hs (nm b) = R.v0 b
  hsl : s.hs.length <= 5000
def WAll (R : Rec) (nm : Nat -> Nme) (lL lW lY lV : Value) (h0 : Hp) (W : Nat) (s : WS) (h : Hp) : Prop := ∃ q, WkI R nm lL lW lY lV h0 W ((nums R.log).map R.v0) { s with q := q } h /\ Named R nm q
def WT (s : WS) (x b : Nat) : Prop := b = x \/ blk s.nv = some b \/ blk s.gv = some b
structure WIn (R : Rec) (nm : Nat -> Nme) (lL lW lY lV : Value) (h0 : Hp) (W : Nat) (s : WS) {A : Type} (pf : Pr A) (x i : Nat) (p : Pr A) (l : List Ev) (o : List A) (h : Hp) : Prop where
  all : WAll R nm lL lW lY lV h0 W s h
  at_ : WAt R pf x W i p l o h
  x0 : h0.size <= x
structure WOu (R : Rec) (nm : Nat -> Nme) (lL lW lY lV : Value) (h0 : Hp) (W : Nat) (s : WS) (x i : Nat) (h : Hp) : Prop where
  all : WAll R nm lL lW lY lV h0 W s h
  out : WOut R x W i h
  x0 : h0.size <= x
section
variable {Γ : Type} {main : Bool} {S : Sit Γ} {δ : Ix Γ} {R : Rec} {nm : Nat -> Nme} {lL lW lY lV sP : Value} {h0 h h' : Hp} {W x i t : Nat} {s : WS} {picks : List Int} {X : Us} {A : Type} {pf p : Pr A} {r : Rq} {k : Int -> Pr A} {l : List Ev} {o : List A}
theorem WAll.upd0 (a : WAll R nm lL lW lY lV h0 W s h) (u : Upd (fun _ => False) h h') : WAll R nm lL lW lY lV h0 W s h' := by
  obtain ⟨q, I, N⟩ := a
  exact ⟨q, I.upd0 u, N⟩
theorem WIn.upd0 (w : WIn R nm lL lW lY lV h0 W s pf x i p l o h) (u : Upd (fun _ => False) h h') : WIn R nm lL lW lY lV h0 W s pf x i p l o h' := by
  obtain ⟨a, ⟨⟨t, h1, h2, h3⟩, g⟩, x0⟩ := w
  exact ⟨a.upd0 u, ⟨⟨t, h1, h2, u.get h3 (fun x => x)⟩, g⟩, x0⟩
theorem WOu.upd0 (w : WOu R nm lL lW lY lV h0 W s x i h) (u : Upd (fun _ => False) h h') : WOu R nm lL lW lY lV h0 W s x i h' := by
  obtain ⟨a, ⟨⟨t, h1, h2, h3⟩, g⟩, x0⟩ := w
  exact ⟨a.upd0 u, ⟨⟨t, h1, h2, u.get h3 (fun x => x)⟩, g⟩, x0⟩
theorem WAll.lt (a : WAll R nm lL lW lY lV h0 W s h) : ∀ b, blk s.nv = some b \/ blk s.gv = some b -> b < h.size := by
  obtain ⟨q, I, N⟩ := a
  exact fun b hb => hb.elim I.nms.lt I.giv.lt
theorem WAll.ge (a : WAll R nm lL lW lY lV h0 W s h) : ∀ b, blk s.nv = some b \/ blk s.gv = some b -> h0.size <= b := by
  obtain ⟨q, I, N⟩ := a
  exact fun b hb => hb.elim (I.n1 b) (I.n2 b)
theorem WIn.wt (w : WIn R nm lL lW lY lV h0 W s pf x i p l o h) : ∀ b, WT s x b -> h0.size <= b /\ b < h.size := by
  obtain ⟨t, h1, h2, h3⟩ := w.at_.at_
  rintro b (rfl | hb)
  · exact ⟨w.x0, lt_of_get h3⟩
  · exact ⟨w.all.ge b hb, w.all.lt b hb⟩
theorem WOu.wt (w : WOu R nm lL lW lY lV h0 W s x i h) : ∀ b, WT s x b -> h0.size <= b /\ b < h.size := by
  obtain ⟨t, h1, h2, h3⟩ := w.out.at_
  rintro b (rfl | hb)
  · exact ⟨w.x0, lt_of_get h3⟩
  · exact ⟨w.all.ge b hb, w.all.lt b hb⟩
theorem WIn.cases (w : WIn R nm lL lW lY lV h0 W s pf x i (.step r k) l o h) : (∃ v l', l = evOf i r v :: l' /\ Goes i (k v) l' o pf) \/ (l = [] /\ o = [] /\ pf = .step r k) := by
  have g := w.at_.goes
  generalize hp : Pr.step r k = p at g
  cases g with
  | nil => exact .inr ⟨rfl, rfl, rfl⟩
  | emit => cases hp
  | step v g =>
    injection hp with h1 h2
    subst h1 h2
    exact .inl ⟨v, _, rfl, g⟩
theorem does_out {op : Int} {n : Nme} {a c : Value} (hx : h[x]? = some (wrO W i true t)) :
    CallW Try.prog main (NoS (Γ := Γ)) 154 #[ptr x, .int .i8 op, nmeV n, a, c] h δ (Ret fun v h' δ' => δ' = δ /\ v = .agg acc0.toArray /\ Upd (fun _ => False) h h') := by
  refine CallW.start (n := 122) rfl rfl ?_
  (repeat (first | refine EK.seq ?_ | refine EK.region ?_ | refine ER.done ?_ | refine ER.move rfl rfl rfl ?_ | refine ER.nilCheck rfl rfl rfl ?_ | refine ER.fieldAddr rfl rfl rfl ?_ | refine ER.boxA rfl rfl rfl ?_ | refine ER.allocA rfl rfl ?_))
  simp only [Array.size_push]
  have u0 : Upd (fun _ => False) h ((h.push (nmeO n)).push (accO acc0)) := (Upd.push _ _).trans (Upd.push _ _)
  have gx : ((h.push (nmeO n)).push (accO acc0))[x]? = some (wrO W i true t) := get_push _ (get_push _ hx)
  have gy : ((h.push (nmeO n)).push (accO acc0))[h.size + 1]? = some (accO acc0) := by
    have := get_push_new (h.push (nmeO n)) (accO acc0)
    rwa [Array.size_push] at this
  refine ER.gen (fun h' => Upd (fun _ => False) h h' /\ h'[x]? = some (wrO W i true t) /\ h'[h.size + 1]? = some (accO acc0)) ⟨u0, gx, gy⟩ ?_
  clear u0 gx gy
  rintro h1 ⟨u0, gx, gy⟩
  have x2 : hcell h1 ⟨x, 2, none⟩ = some (.bool true) := hcell_of gx rfl
  (repeat (first | refine EK.seq ?_ | refine EK.region ?_ | refine ER.done ?_ | refine ER.load1 rfl rfl rfl (hcell_of (by assumption) rfl) ?_ | refine EK.condT rfl ?_))
  refine ER.buildS (cells := acc0.toArray) rfl rfl (by rfl) rfl ?_
  refine ER.storeN (vs := acc0) rfl rfl rfl rfl (by simp [accL, OneCell]) (acc_all rfl gy) ?_
  rw [row_set (c := acc0) (vs := acc0) gy rfl]
  (repeat (first | refine ER.done ?_ | refine EK.ret ?_))
  exact EU.retCell1 (vs := acc0) rfl rfl rfl (hrow_block (rest := []) (by rw [List.append_nil]; exact get_set_same gy)) ⟨rfl, rfl, upd_then u0 (Upd.set (T := fun b => b = h.size + 1) _ _ _ rfl) (fun b hb e => by omega)⟩
end
end
section
open Go Go.TJ Go.Conc Go.Proofs
section
variable {Γ : Type} {main : Bool} {S : Sit Γ} {δ : Ix Γ} {R : Rec} {nm : Nat -> Nme} {lL lW lY lV sP : Value} {h0 h h' : Hp} {W x i t : Nat} {s : WS} {picks : List Int} {X : Us} {A : Type} {pf p : Pr A} {r : Rq} {k : Int -> Pr A} {l : List Ev} {o : List A}
theorem WC.log_at (C : WC X picks R nm lL lW lY lV sP h0 s) {e : Ev} (he : e ∈ R.log) : X.isC e.b /\ (nums R.log)[(nums R.log).idxOf e.b]? = some e.b := by
  obtain ⟨k, hk, rfl⟩ := List.mem_iff_getElem.1 he
  have hk' := List.getElem?_eq_getElem hk
  obtain ⟨w, i, r, _, hr, e1, _⟩ := C.ok.chain.inv hk'
  refine ⟨by rw [e1]; exact hr.cell, ?_⟩
  have hm : (R.log[k]).b ∈ nums R.log := (nums_mem _ _).2 ⟨_, he, rfl⟩
  have hlt := List.idxOf_lt_length_iff.2 hm
  rw [List.getElem?_eq_getElem hlt]
  simp
theorem RecOk.left_uniq (ok : RecOk X picks R) {q q' : Nat × Rq} (h : q ∈ R.left) (h' : q' ∈ R.left) (e : q.1 = q'.1) : q = q' := by
  obtain ⟨j, hj, rfl⟩ := List.mem_iff_getElem.1 h
  obtain ⟨j', hj', rfl⟩ := List.mem_iff_getElem.1 h'
  have hp := List.pairwise_iff_getElem.1 ok.rise
  rcases Nat.lt_trichotomy j j' with y | y | y
  · have := hp j j' hj hj' y; omega
  · subst y; rfl
  · have := hp j' j hj' hj y; omega
set_option maxHeartbeats 16000000 in
set_option maxRecDepth 8000 in
theorem does_ok (C : WC X picks R nm lL lW lY lV sP h0 s) (hpf : PF R i pf) (w : WIn R nm lL lW lY lV h0 W s pf x i (.step r k) l o h) {n : Nme} (hn : n = nm r.b) :
    CallW Try.prog main (NoS (Γ := Γ)) 154 #[ptr x, .int .i8 r.op, nmeV n, .int .i64 r.arg, .int .i64 r.new] h δ (Ret fun v h' δ' => δ' = δ /\ Upd (WT s x) h h' /\ ((∃ w l', l = evOf i r w :: l' /\ v = .agg (entL (nums R.log) (evOf i r w)).toArray /\ WIn R nm lL lW lY lV h0 W s pf x i (k w) l' o h') \/ (o = [] /\ v = .agg acc0.toArray /\ WOu R nm lL lW lY lV h0 W s x i h'))) := by
  subst hn
  have hlen : R.log.length <= 65536 := Nat.le_trans C.ok.len C.ok.most
  have hnl := Nat.le_trans (nums_len R.log) hlen
  have hll := C.ok.left_len
  have wcases := w.cases
  have wt := w.wt
  obtain ⟨op, b, arg, new⟩ := r
  obtain ⟨⟨q, I, N⟩, ⟨⟨t, ht, hl, hx⟩, -⟩, hx0⟩ := w
  dsimp only
  have u0 : Upd (fun _ => False) h ((h.push (nmeO (nm b))).push (accO acc0)) := (Upd.push _ _).trans (Upd.push _ _)
  obtain ⟨yN, hyN⟩ : ∃ yN, yN = h.size := ⟨_, rfl⟩
  obtain ⟨y, hy⟩ : ∃ y, y = h.size + 1 := ⟨_, rfl⟩
  have gN : ((h.push (nmeO (nm b))).push (accO acc0))[yN]? = some (nmeO (nm b)) := by rw [hyN]; exact get_push _ (get_push_new _ _)
  have gy : ((h.push (nmeO (nm b))).push (accO acc0))[y]? = some (accO acc0) := by
    have := get_push_new (h.push (nmeO (nm b))) (accO acc0)
    rw [Array.size_push] at this
    rw [hy]; exact this
  refine CallW.start (n := 122) rfl rfl ?_
  (repeat (first | refine EK.seq ?_ | refine EK.region ?_ | refine ER.done ?_ | refine ER.move rfl rfl rfl ?_ | refine ER.nilCheck rfl rfl rfl ?_ | refine ER.fieldAddr rfl rfl rfl ?_ | refine ER.boxA rfl rfl rfl ?_ | refine ER.allocA rfl rfl ?_))
  simp only [Array.size_push]
  refine ER.gen (fun h' => WkI R nm lL lW lY lV h0 W ((nums R.log).map R.v0) { s with q := q } h' /\ Upd (fun _ => False) h h' /\ h'[x]? = some (wrO W i false t) /\ h'[yN]? = some (nmeO (nm b)) /\ h'[y]? = some (accO acc0)) ⟨I.upd0 u0, u0, get_push _ (get_push _ hx), gN, gy⟩ ?_
  rw [<- hy, <- hyN]
  have hxl := lt_of_get hx
  have h00 := I.up.size
  have nT : ∀ c, (blk s.nv = some c \/ blk s.gv = some c) -> c < h.size := fun c hc => (wt c (.inr hc)).2
  clear I hx gN gy u0
  rintro h1 ⟨I, u1, hx, gN, gy⟩
  have x2 : hcell h1 ⟨x, 2, none⟩ = some (.bool false) := hcell_of hx rfl
  have hs1 := u1.size
  (repeat (first | refine EK.seq ?_ | refine EK.region ?_ | refine ER.done ?_ | refine EK.skip ?_ | refine ER.move rfl rfl rfl ?_ | refine ER.load1 rfl rfl rfl (hcell_of (by assumption) rfl) ?_ | refine EK.condF rfl ?_))
  refine ER.callR rfl rfl rfl rfl rfl (wnext_ok C.m hlen I hx hx0 ht) ?_
  clear I hx x2
  rintro _ h2 δ2 ⟨rfl, t2, ht2, hx, I, u2, hc⟩
  replace gN := u2.get gN (by omega)
  replace gy := u2.get gy (by omega)
  have hs2 := u2.size
  have hgy := lt_of_get gy
  have uu : Upd (WT s x) h h2 := upd_then (u1.mono (fun _ _ z => z.elim)) u2 (fun c _ hc => .inl hc)
  clear u1 u2
  rcases hc with ⟨e, ho, he, rfl⟩ | ⟨ho, ho2, rfl⟩
  · obtain ⟨w', l', e1, gk⟩ : ∃ v l', ownFrom R i t2 = l' /\ e = evOf i ⟨op, b, arg, new⟩ v /\ l = e :: l' /\ Goes i (k v) l' o pf := by
      rw [hl] at ho
      rcases wcases with ⟨v, l', e1, g⟩ | ⟨e1, -, -⟩
      · rw [ho] at e1
        injection e1 with e1 e2
        exact ⟨v, l', e2, e1, by rw [ho, e2], g⟩
      · rw [ho] at e1; cases e1
    obtain ⟨e2, e3, gk⟩ := gk
    subst e2
    obtain ⟨hbc, hb⟩ := C.log_at he
    change X.isC b at hbc
    change (nums R.log)[(nums R.log).idxOf b]? = some b at hb
    have hF : ((nums R.log).map R.v0)[(nums R.log).idxOf b]? = some (lookN s.hs (nm b)) := by rw [List.getElem?_map, hb, C.beg b hbc]; rfl
    have hinj : ∀ b', b' ∈ nums R.log -> nm b' = nm b -> b' = b := fun b' hb' e => C.inj b' b (by
      obtain ⟨e', he', rfl⟩ := (nums_mem _ _).1 hb'
      exact (C.log_at he').1) hbc e
    obtain ⟨z, hz⟩ : ∃ z, z = h2.size := ⟨_, rfl⟩
    (repeat (first | refine ER.move rfl rfl rfl ?_ | refine ER.extract rfl rfl rfl rfl ?_ | refine ER.allocA rfl rfl ?_))
    refine ER.storeN (vs := entL (nums R.log) (evOf i ⟨op, b, arg, new⟩ w')) rfl rfl rfl rfl (by simp [entL, accL, OneCell]) (acc_all (vs := acc0) rfl (get_push_new _ _)) ?_
    rw [hsetRow_push (c := [.int .i64 0, .int .i8 0, .int .i64 0, .int .i64 0, .int .i64 0, .int .i64 0, .int .i64 0, .bool false]) (vs := entL (nums R.log) (evOf i ⟨op, b, arg, new⟩ w')) rfl]
    refine ER.gen (fun h' => WkI R nm lL lW lY lV h0 W ((nums R.log).map R.v0) { s with q := q } h' /\ Upd (WT s x) h h' /\ h'[x]? = some (wrO W i false t2) /\ h'[yN]? = some (nmeO (nm b)) /\ h'[y]? = some (accO acc0) /\ h'[z]? = some (accO (entL (nums R.log) (evOf i ⟨op, b, arg, new⟩ w')))) ⟨I.upd0 (Upd.push _ _), uu.trans (Upd.push _ _), get_push _ hx, get_push _ gN, get_push _ gy, by rw [hz]; exact get_push_new _ _⟩ ?_
    rw [<- hz]
    clear I uu hx gN gy
    rintro h3 ⟨I, u3, hx, gN, gy, gz⟩
    have z1 : hcell h3 ⟨z, 1, none⟩ = some (.int .i8 op) := hcell_of gz rfl
    have z2 : hcell h3 ⟨z, 2, none⟩ = some (.int .i64 ((nums R.log).idxOf b : Nat)) := hcell_of gz rfl
    have z3 : hcell h3 ⟨z, 3, none⟩ = some (.int .i64 arg) := hcell_of gz rfl
    have z4 : hcell h3 ⟨z, 4, none⟩ = some (.int .i64 new) := hcell_of gz rfl
    have x0 : hcell h3 ⟨x, 0, none⟩ = some (ptr W) := hcell_of hx rfl
    have rN : TJ.hrow h3 yN 0 (nmeL (nm b)) := hrow_block (rest := []) (by rw [List.append_nil]; exact gN)
    generalize (nums R.log).idxOf b = ix at hb hF z2
    (repeat (first | refine EK.seq ?_ | refine EK.region ?_ | refine ER.done ?_ | refine ER.move rfl rfl rfl ?_ | refine ER.assign rfl rfl rfl ?_ | refine EK.condT rfl ?_))
    refine EK.regionAny (fun h' => hcell h' ⟨z, 1, none⟩ = some (.int .i8 op) /\ hcell h' ⟨z, 2, none⟩ = some (.int .i64 ix) /\ hcell h' ⟨z, 3, none⟩ = some (.int .i64 arg) /\ hcell h' ⟨z, 4, none⟩ = some (.int .i64 new) /\ hcell h' ⟨x, 0, none⟩ = some (ptr W) /\ TJ.hrow h' yN 0 (nmeL (nm b))) ?_
    have hZ : _ /\ _ /\ _ /\ _ /\ _ /\ _ := And.intro z1 ⟨z2, z3, z4, x0, rN⟩
    refine EA.tField 0 rfl (by kernel_rfl) rfl rfl rfl rfl hZ ?_
    refine EA.tLoad 1 rfl (by kernel_rfl) rfl rfl rfl rfl (fun _ hz => hz.1) hZ ?_
    refine EA.tMove 2 rfl (by kernel_rfl) rfl rfl rfl rfl hZ ?_
    refine EA.tCmpF 3 rfl (by kernel_rfl) rfl rfl rfl rfl rfl rfl (by first | (dsimp only [cmpP]; omega) | exact rfl | exact Int.le_refl _) hZ ?_
    refine EA.tMove 4 rfl (by kernel_rfl) rfl rfl rfl rfl hZ ?_
    refine EA.tField 5 rfl (by kernel_rfl) rfl rfl rfl rfl hZ ?_
    refine EA.tLoad 6 rfl (by kernel_rfl) rfl rfl rfl rfl (fun _ hz => hz.2.2.1) hZ ?_
    refine EA.tMove 7 rfl (by kernel_rfl) rfl rfl rfl rfl hZ ?_
    refine EA.tCmpF 8 rfl (by kernel_rfl) rfl rfl rfl rfl rfl rfl (by first | (dsimp only [cmpP]; omega) | exact rfl | exact Int.le_refl _) hZ ?_
    refine EA.tPickF 9 rfl (by kernel_rfl) rfl rfl rfl rfl rfl hZ ?_
    refine EA.tMove 10 rfl (by kernel_rfl) rfl rfl rfl rfl hZ ?_
    refine EA.tField 11 rfl (by kernel_rfl) rfl rfl rfl rfl hZ ?_
    refine EA.tLoad 12 rfl (by kernel_rfl) rfl rfl rfl rfl (fun _ hz => hz.2.2.2.1) hZ ?_
    refine EA.tMove 13 rfl (by kernel_rfl) rfl rfl rfl rfl hZ ?_
    refine EA.tCmpF 14 rfl (by kernel_rfl) rfl rfl rfl rfl rfl rfl (by first | (dsimp only [cmpP]; omega) | exact rfl | exact Int.le_refl _) hZ ?_
    refine EA.tPickF 15 rfl (by kernel_rfl) rfl rfl rfl rfl rfl hZ ?_
    refine EA.tMove 16 rfl (by kernel_rfl) rfl rfl rfl rfl hZ ?_
    refine EA.tMove 17 rfl (by kernel_rfl) rfl rfl rfl rfl hZ ?_
    refine EA.tNil 18 rfl (by kernel_rfl) rfl rfl rfl rfl hZ ?_
    refine EA.tField 19 rfl (by kernel_rfl) rfl rfl rfl rfl hZ ?_
    refine EA.tLoad 20 rfl (by kernel_rfl) rfl rfl rfl rfl (fun _ hz => hz.2.2.2.2.1) hZ ?_
    refine EA.tField 21 rfl (by kernel_rfl) rfl rfl rfl rfl hZ ?_
    refine EA.tLoad 22 rfl (by kernel_rfl) rfl rfl rfl rfl (fun _ hz => hz.2.1) hZ ?_
    refine EA.tLoadN (vs := nmeL (nm b)) 23 rfl (by kernel_rfl) rfl rfl rfl rfl rfl (fun _ hz => hz.2.2.2.2.2) hZ ?_
    refine EA.callR 24 rfl (by kernel_rfl) rfl rfl rfl rfl rfl rfl (is_ok (s := { s with q := q }) I N hb hF hinj hnl C.hsl) ?_
    rintro _ h4 δ4 ⟨rfl, rfl, I4, u4⟩
    have nx : ∀ c, (blk s.nv = some c \/ blk s.gv = some c) -> c ≠ x := fun c hc => hc.elim (fun y => sliceO_ne I.nms hx (by decide) c y) (fun y => sliceO_ne I.giv hx (by decide) c y)
    have nz : ¬ (blk s.nv = some z \/ blk s.gv = some z) := fun hc => by have := nT _ hc; omega
    have nN : ¬ (blk s.nv = some yN \/ blk s.gv = some yN) := fun hc => by have := nT _ hc; omega
    have ny : ¬ (blk s.nv = some y \/ blk s.gv = some y) := fun hc => by have := nT _ hc; omega
    replace hx := u4.get hx (fun hc => nx x hc rfl)
    replace gN := u4.get gN nN
    replace gy := u4.get gy ny
    replace gz := u4.get gz nz
    have z1 : hcell h4 ⟨z, 1, none⟩ = some (.int .i8 op) := u4.hcell z1 nz
    have z2 : hcell h4 ⟨z, 2, none⟩ = some (.int .i64 ix) := u4.hcell z2 nz
    have z3 : hcell h4 ⟨z, 3, none⟩ = some (.int .i64 arg) := u4.hcell z3 nz
    have z4 : hcell h4 ⟨z, 4, none⟩ = some (.int .i64 new) := u4.hcell z4 nz
    have x0 : hcell h4 ⟨x, 0, none⟩ = some (ptr W) := hcell_of hx rfl
    have rN : TJ.hrow h4 yN 0 (nmeL (nm b)) := hrow_block (rest := []) (by rw [List.append_nil]; exact gN)
    have hZ : _ /\ _ /\ _ /\ _ /\ _ /\ _ := And.intro z1 ⟨z2, z3, z4, x0, rN⟩
    refine ⟨hZ, ?_⟩
    refine EA.tNot 25 rfl (by kernel_rfl) rfl rfl rfl rfl hZ ?_
    refine EA.tPickF 26 rfl (by kernel_rfl) rfl rfl rfl rfl rfl hZ ?_
    refine EA.done (by kernel_rfl) ?_
    have uu : Upd (WT s x) h h4 := upd_then u3 u4 (fun c _ hc => .inr hc)
    clear hZ I u3 u4 z1 z2 z3 z4 x0 rN nx
    (repeat (first | refine EK.seq ?_ | refine EK.region ?_ | refine EK.skip ?_ | refine EK.condF rfl ?_))
    refine ER.loadN (vs := entL (nums R.log) (evOf i ⟨op, b, arg, new⟩ w')) rfl rfl rfl rfl (hrow_block (rest := []) (by rw [List.append_nil]; exact gz)) ?_
    refine ER.storeN (vs := entL (nums R.log) (evOf i ⟨op, b, arg, new⟩ w')) rfl rfl rfl rfl (by simp [entL, accL, OneCell]) (acc_all rfl gy) ?_
    rw [row_set (c := acc0) (vs := entL (nums R.log) (evOf i ⟨op, b, arg, new⟩ w')) gy rfl]
    (repeat (first | refine ER.done ?_ | refine EK.ret ?_))
    refine EU.retCell1 (vs := entL (nums R.log) (evOf i ⟨op, b, arg, new⟩ w')) rfl rfl rfl (hrow_block (rest := []) (by rw [List.append_nil]; exact get_set_same gy)) ⟨rfl, upd_then uu (Upd.set (T := fun c => c = y) _ _ _ rfl) (fun c hc e => by omega), .inl ⟨w', l', e3, rfl, ⟨⟨_, I4.other gy (by omega) (by decide) (by decide) (by decide) (by decide) _, N.set hb⟩, ⟨⟨t2, ht2, e1, by rw [get_set_ne _ (by omega)]; exact hx⟩, gk⟩, hx0⟩⟩⟩
  · obtain ⟨eo, epf⟩ : o = [] /\ pf = .step ⟨op, b, arg, new⟩ k := by
      rw [hl] at ho
      rcases wcases with ⟨v, l', e1, g⟩ | ⟨-, e2, e3⟩
      · rw [ho] at e1; cases e1
      · exact ⟨e2, e3⟩
    subst eo
    have hmem : (i, (⟨op, b, arg, new⟩ : Rq)) ∈ R.left := by
      rcases hpf with ⟨r', k', hm, e⟩ | ⟨-, e⟩
      · rw [epf] at e
        injection e with e e'
        subst e
        exact hm
      · rw [epf] at e; cases e
    clear wcases hpf epf ho
    have hbc : X.isC b := (C.ok.left _ hmem).2.cell
    obtain ⟨z, hz⟩ : ∃ z, z = h2.size := ⟨_, rfl⟩
    (repeat (first | refine ER.move rfl rfl rfl ?_ | refine ER.extract rfl rfl rfl rfl ?_ | refine ER.allocA rfl rfl ?_))
    refine ER.storeN (vs := acc0) rfl rfl rfl rfl (by simp [accL, OneCell]) (acc_all (vs := acc0) rfl (get_push_new _ _)) ?_
    rw [hsetRow_push (c := [.int .i64 0, .int .i8 0, .int .i64 0, .int .i64 0, .int .i64 0, .int .i64 0, .int .i64 0, .bool false]) (vs := acc0) rfl]
    refine ER.gen (fun h' => WkI R nm lL lW lY lV h0 W ((nums R.log).map R.v0) { s with q := q } h' /\ Upd (WT s x) h h' /\ h'[x]? = some (wrO W i false t2) /\ h'[yN]? = some (nmeO (nm b)) /\ h'[y]? = some (accO acc0) /\ h'[z]? = some (accO acc0)) ⟨I.upd0 (Upd.push _ _), uu.trans (Upd.push _ _), get_push _ hx, get_push _ gN, get_push _ gy, by rw [hz]; exact get_push_new _ _⟩ ?_
    rw [<- hz]
    clear I uu hx gN gy
    rintro h3 ⟨I, u3, hx, gN, gy, gz⟩
    (repeat (first | refine EK.seq ?_ | refine EK.region ?_ | refine ER.done ?_ | refine EK.skip ?_ | refine ER.move rfl rfl rfl ?_ | refine ER.assign rfl rfl rfl ?_ | refine EK.condF rfl ?_))
    refine ER.callR rfl rfl rfl rfl rfl (wleft_ok C.m (Nat.le_trans hll (by decide)) I hx hx0) ?_
    rintro _ h4 δ4 ⟨rfl, u4, hc⟩
    obtain ⟨q', hq', e4, rfl⟩ : ∃ q', q' ∈ R.left /\ q'.1 = i /\ _ := hc.resolve_right fun hn => hn.1 _ hmem rfl
    obtain rfl := C.ok.left_uniq hq' hmem e4
    clear e4 hq' hc
    replace I := I.upd0 u4
    replace hx := u4.get hx (fun z => z)
    replace gN := u4.get gN (fun z => z)
    replace gy := u4.get gy (fun z => z)
    replace gz := u4.get gz (fun z => z)
    replace u3 : Upd (WT s x) h h4 := upd_then u3 u4 (fun _ _ z => z.elim)
    clear u4
    obtain ⟨cv, hcv⟩ : ∃ cv : Int, cv = if b ∈ nums R.log then ((nums R.log).idxOf b : Int) else -1 := ⟨_, rfl⟩
    have eL : leftE (nums R.log) R.val (i, ⟨op, b, arg, new⟩) = accL i op cv arg new (R.val b) (R.val b) false := by rw [hcv]; rfl
    rw [eL]
    (repeat (first | refine ER.move rfl rfl rfl ?_ | refine ER.extract rfl rfl rfl rfl ?_))
    refine ER.storeN (vs := accL i op cv arg new (R.val b) (R.val b) false) rfl rfl rfl rfl (by simp [accL, OneCell]) (acc_all rfl gz) ?_
    rw [row_set (c := acc0) (vs := accL i op cv arg new (R.val b) (R.val b) false) gz rfl]
    refine ER.gen (fun h' => WkI R nm lL lW lY lV h0 W ((nums R.log).map R.v0) { s with q := q } h' /\ Upd (WT s x) h h' /\ h'[x]? = some (wrO W i false t2) /\ h'[yN]? = some (nmeO (nm b)) /\ h'[y]? = some (accO acc0) /\ h'[z]? = some (accO (accL i op cv arg new (R.val b) (R.val b) false))) ⟨I.other gz (by omega) (by decide) (by decide) (by decide) (by decide) _, upd_then u3 (Upd.set (T := fun c => c = z) _ _ _ rfl) (fun c hc e => by omega), by rw [get_set_ne _ (by omega)]; exact hx, by rw [get_set_ne _ (by omega)]; exact gN, by rw [get_set_ne _ (by omega)]; exact gy, get_set_same gz⟩ ?_
    clear I u3 hx gN gy gz
    rintro h5 ⟨I, u5, hx, gN, gy, gz⟩
    have z1 : hcell h5 ⟨z, 1, none⟩ = some (.int .i8 op) := hcell_of gz rfl
    have z2 : hcell h5 ⟨z, 2, none⟩ = some (.int .i64 cv) := hcell_of gz rfl
    have z3 : hcell h5 ⟨z, 3, none⟩ = some (.int .i64 arg) := hcell_of gz rfl
    have z4 : hcell h5 ⟨z, 4, none⟩ = some (.int .i64 new) := hcell_of gz rfl
    have z5 : hcell h5 ⟨z, 5, none⟩ = some (.int .i64 (R.val b)) := hcell_of gz rfl
    have x0 : hcell h5 ⟨x, 0, none⟩ = some (ptr W) := hcell_of hx rfl
    have rN : TJ.hrow h5 yN 0 (nmeL (nm b)) := hrow_block (rest := []) (by rw [List.append_nil]; exact gN)
    (repeat (first | refine EK.seq ?_ | refine ER.done ?_ | refine ER.assign rfl rfl rfl ?_))
    refine EK.join (fun _ : Unit => [(10, ptr y), (0, ptr x), (111, .bool false)]) (fun _ h' δ' => δ' = δ4 /\ WAll R nm lL lW lY lV h0 W s h' /\ Upd (WT s x) h h' /\ h'[x]? = some (wrO W i false t2) /\ h'[y]? = some (accO acc0)) (fun key => ?_) ?_
    · refine EK.regionAny (fun h' => hcell h' ⟨z, 1, none⟩ = some (.int .i8 op) /\ hcell h' ⟨z, 2, none⟩ = some (.int .i64 cv) /\ hcell h' ⟨z, 3, none⟩ = some (.int .i64 arg) /\ hcell h' ⟨z, 4, none⟩ = some (.int .i64 new) /\ hcell h' ⟨z, 5, none⟩ = some (.int .i64 (R.val b)) /\ hcell h' ⟨x, 0, none⟩ = some (ptr W) /\ TJ.hrow h' yN 0 (nmeL (nm b))) ?_
      have hZ : _ /\ _ /\ _ /\ _ /\ _ /\ _ /\ _ := And.intro z1 ⟨z2, z3, z4, z5, x0, rN⟩
      refine EA.tMove 0 rfl (by kernel_rfl) rfl rfl rfl rfl hZ ?_
      refine EA.tNot 1 rfl (by kernel_rfl) rfl rfl rfl rfl hZ ?_
      refine EA.tMove 2 rfl (by kernel_rfl) rfl rfl rfl rfl hZ ?_
      refine EA.tField 3 rfl (by kernel_rfl) rfl rfl rfl rfl hZ ?_
      refine EA.tLoad 4 rfl (by kernel_rfl) rfl rfl rfl rfl (fun _ hz => hz.1) hZ ?_
      refine EA.tMove 5 rfl (by kernel_rfl) rfl rfl rfl rfl hZ ?_
      refine EA.tCmpF 6 rfl (by kernel_rfl) rfl rfl rfl rfl rfl rfl (by first | (dsimp only [cmpP]; omega) | exact rfl | exact Int.le_refl _) hZ ?_
      refine EA.tPickF 7 rfl (by kernel_rfl) rfl rfl rfl rfl rfl hZ ?_
      refine EA.tMove 8 rfl (by kernel_rfl) rfl rfl rfl rfl hZ ?_
      refine EA.tField 9 rfl (by kernel_rfl) rfl rfl rfl rfl hZ ?_
      refine EA.tLoad 10 rfl (by kernel_rfl) rfl rfl rfl rfl (fun _ hz => hz.2.2.1) hZ ?_
      refine EA.tMove 11 rfl (by kernel_rfl) rfl rfl rfl rfl hZ ?_
      refine EA.tCmpF 12 rfl (by kernel_rfl) rfl rfl rfl rfl rfl rfl (by first | (dsimp only [cmpP]; omega) | exact rfl | exact Int.le_refl _) hZ ?_
      refine EA.tPickF 13 rfl (by kernel_rfl) rfl rfl rfl rfl rfl hZ ?_
      refine EA.tMove 14 rfl (by kernel_rfl) rfl rfl rfl rfl hZ ?_
      refine EA.tField 15 rfl (by kernel_rfl) rfl rfl rfl rfl hZ ?_
      refine EA.tLoad 16 rfl (by kernel_rfl) rfl rfl rfl rfl (fun _ hz => hz.2.2.2.1) hZ ?_
      refine EA.tMove 17 rfl (by kernel_rfl) rfl rfl rfl rfl hZ ?_
      refine EA.tCmpF 18 rfl (by kernel_rfl) rfl rfl rfl rfl rfl rfl (by first | (dsimp only [cmpP]; omega) | exact rfl | exact Int.le_refl _) hZ ?_
      refine EA.tPickF 19 rfl (by kernel_rfl) rfl rfl rfl rfl rfl hZ ?_
      refine EA.tMove 20 rfl (by kernel_rfl) rfl rfl rfl rfl hZ ?_
      refine EA.tField 21 rfl (by kernel_rfl) rfl rfl rfl rfl hZ ?_
      refine EA.tLoad 22 rfl (by kernel_rfl) rfl rfl rfl rfl (fun _ hz => hz.2.1) hZ ?_
      by_cases hbn : b ∈ nums R.log
      · rw [if_pos hbn] at hcv
        obtain ⟨-, hb⟩ : True /\ (nums R.log)[(nums R.log).idxOf b]? = some b := ⟨trivial, by
          have hlt := List.idxOf_lt_length_iff.2 hbn
          rw [List.getElem?_eq_getElem hlt]; simp⟩
        have hF : ((nums R.log).map R.v0)[(nums R.log).idxOf b]? = some (lookN s.hs (nm b)) := by rw [List.getElem?_map, hb, C.beg b hbc]; rfl
        have hinj : ∀ b', b' ∈ nums R.log -> nm b' = nm b -> b' = b := fun b' hb' e => C.inj b' b (by
          obtain ⟨e', he', rfl⟩ := (nums_mem _ _).1 hb'
          exact (C.log_at he').1) hbc e
        generalize (nums R.log).idxOf b = ix at hb hF hcv
        subst hcv
        refine EA.tCmpT 23 rfl (by kernel_rfl) rfl rfl rfl rfl rfl rfl (by first | (dsimp only [cmpP]; omega) | exact rfl | exact Int.le_refl _) hZ ?_
        refine EA.tMove 24 rfl (by kernel_rfl) rfl rfl rfl rfl hZ ?_
        refine EA.tMove 25 rfl (by kernel_rfl) rfl rfl rfl rfl hZ ?_
        refine EA.tNil 26 rfl (by kernel_rfl) rfl rfl rfl rfl hZ ?_
        refine EA.tField 27 rfl (by kernel_rfl) rfl rfl rfl rfl hZ ?_
        refine EA.tLoad 28 rfl (by kernel_rfl) rfl rfl rfl rfl (fun _ hz => hz.2.2.2.2.2.1) hZ ?_
        refine EA.tField 29 rfl (by kernel_rfl) rfl rfl rfl rfl hZ ?_
        refine EA.tLoad 30 rfl (by kernel_rfl) rfl rfl rfl rfl (fun _ hz => hz.2.1) hZ ?_
        refine EA.tLoadN (vs := nmeL (nm b)) 31 rfl (by kernel_rfl) rfl rfl rfl rfl rfl (fun _ hz => hz.2.2.2.2.2.2) hZ ?_
        refine EA.callR 32 rfl (by kernel_rfl) rfl rfl rfl rfl rfl rfl (is_ok (s := { s with q := q }) I N hb hF hinj hnl C.hsl) ?_
        rintro _ h6 δ6 ⟨rfl, rfl, I6, u6⟩
        have nx : ¬ (blk s.nv = some x \/ blk s.gv = some x) := fun hc => hc.elim (fun y => sliceO_ne I.nms hx (by decide) x y rfl) (fun y => sliceO_ne I.giv hx (by decide) x y rfl)
        have nz : ¬ (blk s.nv = some z \/ blk s.gv = some z) := fun hc => by have := nT _ hc; omega
        have nN : ¬ (blk s.nv = some yN \/ blk s.gv = some yN) := fun hc => by have := nT _ hc; omega
        have ny : ¬ (blk s.nv = some y \/ blk s.gv = some y) := fun hc => by have := nT _ hc; omega
        have hZ : _ /\ _ /\ _ /\ _ /\ _ /\ _ /\ _ := And.intro (u6.hcell z1 nz) ⟨u6.hcell z2 nz, u6.hcell z3 nz, u6.hcell z4 nz, u6.hcell z5 nz, u6.hcell x0 nx, fun j v hv => u6.hcell (rN j v hv) nN⟩
        refine ⟨hZ, ?_⟩
        refine EA.tNot 33 rfl (by kernel_rfl) rfl rfl rfl rfl hZ ?_
        refine EA.tPickT 34 rfl (by kernel_rfl) rfl rfl rfl rfl rfl hZ ?_
        refine EA.tPickF 35 rfl (by kernel_rfl) rfl rfl rfl rfl rfl hZ ?_
        refine EA.tMove 36 rfl (by kernel_rfl) rfl rfl rfl rfl hZ ?_
        refine EA.tField 37 rfl (by kernel_rfl) rfl rfl rfl rfl hZ ?_
        refine EA.tLoad 38 rfl (by kernel_rfl) rfl rfl rfl rfl (fun _ hz => hz.2.1) hZ ?_
        refine EA.tCmpF 39 rfl (by kernel_rfl) rfl rfl rfl rfl rfl rfl (by first | (dsimp only [cmpP]; omega) | exact rfl | exact Int.le_refl _) hZ ?_
        refine EA.tMove 40 rfl (by kernel_rfl) rfl rfl rfl rfl hZ ?_
        refine EA.takeNo 41 rfl (by kernel_rfl) rfl rfl rfl hZ ?_
        refine EA.takeNo 42 rfl (by kernel_rfl) rfl rfl rfl hZ ?_
        refine EA.takeNo 43 rfl (by kernel_rfl) rfl rfl rfl hZ ?_
        refine EA.takeNo 44 rfl (by kernel_rfl) rfl rfl rfl hZ ?_
        refine EA.takeNo 45 rfl (by kernel_rfl) rfl rfl rfl hZ ?_
        refine EA.takeNo 46 rfl (by kernel_rfl) rfl rfl rfl hZ ?_
        refine EA.takeNo 47 rfl (by kernel_rfl) rfl rfl rfl hZ ?_
        refine EA.takeNo 48 rfl (by kernel_rfl) rfl rfl rfl hZ ?_
        refine EA.takeNo 49 rfl (by kernel_rfl) rfl rfl rfl hZ ?_
        refine EA.tPickF 50 rfl (by kernel_rfl) rfl rfl rfl rfl rfl hZ ?_
        refine EA.tPickF 51 rfl (by kernel_rfl) rfl rfl rfl rfl rfl hZ ?_
        refine EA.done (by kernel_rfl) ?_
        exact EK.back (key () _ _ ⟨rfl, ⟨_, I6, N.set hb⟩, upd_then u5 u6 (fun c _ hc => .inr hc), u6.get hx nx, u6.get gy ny⟩) ⟨rfl, rfl, rfl, trivial⟩
      · rw [if_neg hbn] at hcv
        subst hcv
        have hvb : R.val b = lookN s.hs (nm b) := by rw [C.ok.chain.first hbn, C.beg b hbc]
        refine EA.tCmpF 23 rfl (by kernel_rfl) rfl rfl rfl rfl rfl rfl (by first | (dsimp only [cmpP]; omega) | exact rfl | exact Int.le_refl _) hZ ?_
        refine EA.tMove 24 rfl (by kernel_rfl) rfl rfl rfl rfl hZ ?_
        refine EA.takeNo 25 rfl (by kernel_rfl) rfl rfl rfl hZ ?_
        refine EA.takeNo 26 rfl (by kernel_rfl) rfl rfl rfl hZ ?_
        refine EA.takeNo 27 rfl (by kernel_rfl) rfl rfl rfl hZ ?_
        refine EA.takeNo 28 rfl (by kernel_rfl) rfl rfl rfl hZ ?_
        refine EA.takeNo 29 rfl (by kernel_rfl) rfl rfl rfl hZ ?_
        refine EA.takeNo 30 rfl (by kernel_rfl) rfl rfl rfl hZ ?_
        refine EA.takeNo 31 rfl (by kernel_rfl) rfl rfl rfl hZ ?_
        refine EA.takeNo 32 rfl (by kernel_rfl) rfl rfl rfl hZ ?_
        refine EA.takeNo 33 rfl (by kernel_rfl) rfl rfl rfl hZ ?_
        refine EA.tPickF 34 rfl (by kernel_rfl) rfl rfl rfl rfl rfl hZ ?_
        refine EA.tPickF 35 rfl (by kernel_rfl) rfl rfl rfl rfl rfl hZ ?_
        refine EA.tMove 36 rfl (by kernel_rfl) rfl rfl rfl rfl hZ ?_
        refine EA.tField 37 rfl (by kernel_rfl) rfl rfl rfl rfl hZ ?_
        refine EA.tLoad 38 rfl (by kernel_rfl) rfl rfl rfl rfl (fun _ hz => hz.2.1) hZ ?_
        refine EA.tCmpT 39 rfl (by kernel_rfl) rfl rfl rfl rfl rfl rfl (by first | (dsimp only [cmpP]; omega) | exact rfl | exact Int.le_refl _) hZ ?_
        refine EA.tMove 40 rfl (by kernel_rfl) rfl rfl rfl rfl hZ ?_
        refine EA.tField 41 rfl (by kernel_rfl) rfl rfl rfl rfl hZ ?_
        refine EA.tLoad 42 rfl (by kernel_rfl) rfl rfl rfl rfl (fun _ hz => hz.2.2.2.2.1) hZ ?_
        refine EA.tMove 43 rfl (by kernel_rfl) rfl rfl rfl rfl hZ ?_
        refine EA.tNil 44 rfl (by kernel_rfl) rfl rfl rfl rfl hZ ?_
        refine EA.tField 45 rfl (by kernel_rfl) rfl rfl rfl rfl hZ ?_
        refine EA.tLoad 46 rfl (by kernel_rfl) rfl rfl rfl rfl (fun _ hz => hz.2.2.2.2.2.1) hZ ?_
        refine EA.tLoadN (vs := nmeL (nm b)) 47 rfl (by kernel_rfl) rfl rfl rfl rfl rfl (fun _ hz => hz.2.2.2.2.2.2) hZ ?_
        refine EA.callR 48 rfl (by kernel_rfl) rfl rfl rfl rfl rfl rfl (begins_ok (s := { s with q := q }) I C.hsl) ?_
        rintro _ h6 δ6 ⟨rfl, rfl, u6⟩
        have hZ : _ /\ _ /\ _ /\ _ /\ _ /\ _ /\ _ := And.intro (u6.hcell z1 (fun x => x)) ⟨u6.hcell z2 (fun x => x), u6.hcell z3 (fun x => x), u6.hcell z4 (fun x => x), u6.hcell z5 (fun x => x), u6.hcell x0 (fun x => x), fun j v hv => u6.hcell (rN j v hv) (fun x => x)⟩
        refine ⟨hZ, ?_⟩
        refine EA.tCmpF 49 rfl (by kernel_rfl) rfl rfl rfl rfl rfl rfl (by first | (dsimp only [cmpP]; omega) | exact rfl | exact Int.le_refl _) hZ ?_
        refine EA.tPickT 50 rfl (by kernel_rfl) rfl rfl rfl rfl rfl hZ ?_
        refine EA.tPickF 51 rfl (by kernel_rfl) rfl rfl rfl rfl rfl hZ ?_
        refine EA.done (by kernel_rfl) ?_
        exact EK.back (key () _ _ ⟨rfl, ⟨q, I.upd0 u6, N⟩, upd_then u5 u6 (fun _ _ hc => hc.elim), u6.get hx (fun x => x), u6.get gy (fun x => x)⟩) ⟨rfl, rfl, rfl, trivial⟩
    clear I u5 hx gN gy gz z1 z2 z3 z4 z5 x0 rN eL hcv
    rintro _ h6 δ6 ⟨rfl, ⟨q6, I, N⟩, u6, hx, gy⟩
    refine EK.condF rfl (EK.skip ?_)
    (repeat (first | refine EK.seq ?_ | refine EK.region ?_ | refine ER.move rfl rfl rfl ?_ | refine ER.nilCheck rfl rfl rfl ?_ | refine ER.fieldAddr rfl rfl rfl ?_))
    have x2 : hcell h6 ⟨x, 2, none⟩ = some (.bool false) := hcell_of hx rfl
    refine ER.store1 rfl rfl rfl ⟨nofun, nofun⟩ ⟨_, x2⟩ (hfroz_of hx) (fun x => x) ?_
    have e7 : hset h6 ⟨x, 2, none⟩ (.bool true) = h6.setIfInBounds x (wrO W i true t2) := hset_block hx _
    change ER _ _ _ _ _ _ _ _ _ _ (hset h6 ⟨x, 2, none⟩ (.bool true)) _ _
    rw [e7]
    have hx7 : (h6.setIfInBounds x (wrO W i true t2))[x]? = some (wrO W i true t2) := get_set_same hx
    have gy7 : (h6.setIfInBounds x (wrO W i true t2))[y]? = some (accO acc0) := by rw [get_set_ne _ (by omega)]; exact gy
    have I7 := I.other hx hx0 (by decide) (by decide) (by decide) (by decide) (wrO W i true t2)
    have u7 : Upd (WT s x) h (h6.setIfInBounds x (wrO W i true t2)) := u6.trans (Upd.set _ _ _ (.inl rfl))
    clear e7 I u6 hx gy x2
    generalize h6.setIfInBounds x (wrO W i true t2) = h7 at hx7 gy7 I7 u7 ⊢
    (repeat (first | refine EK.seq ?_ | refine EK.region ?_ | refine ER.done ?_))
    refine ER.buildS (cells := acc0.toArray) rfl rfl (by rfl) rfl ?_
    refine ER.storeN (vs := acc0) rfl rfl rfl rfl (by simp [accL, OneCell]) (acc_all rfl gy7) ?_
    rw [row_set (c := acc0) (vs := acc0) gy7 rfl]
    (repeat (first | refine ER.done ?_ | refine EK.ret ?_))
    refine EU.retCell1 (vs := acc0) rfl rfl rfl (hrow_block (rest := []) (by rw [List.append_nil]; exact get_set_same gy7)) ⟨rfl, upd_then u7 (Upd.set (T := fun c => c = y) _ _ _ rfl) (fun c hc e => by omega), .inr ⟨rfl, rfl, ⟨⟨_, I7.other gy7 (by omega) (by decide) (by decide) (by decide) (by decide) _, N⟩, ⟨⟨t2, ht2, ho2, by rw [get_set_ne _ (by omega)]; exact hx7⟩, ⟨_, hmem⟩⟩, hx0⟩⟩⟩
end
end
section
open Go Go.TJ Go.Conc Go.Proofs
section
variable {Γ : Type} {main : Bool} {S : Sit Γ} {δ : Ix Γ} {R : Rec} {nm : Nat -> Nme} {lL lW lY lV sP : Value} {h0 h h' : Hp} {W x i t : Nat} {s : WS} {picks : List Int} {X : Us} {A : Type} {pf p : Pr A} {k : Int -> Pr A} {l : List Ev} {o : List A}
def WRes (R : Rec) (nm : Nat -> Nme) (lL lW lY lV : Value) (h0 : Hp) (W : Nat) (s : WS) (pf : Pr A) (x i : Nat) (r : Rq) (k : Int -> Pr A) (l : List Ev) (o : List A) (f : Int -> Value) (z : Value) (h : Hp) (v : Value) (h' : Hp) : Prop :=
  Upd (WT s x) h h' /\ ((∃ w l', l = evOf i r w :: l' /\ v = f w /\ WIn R nm lL lW lY lV h0 W s pf x i (k w) l' o h') \/ (o = [] /\ v = z /\ WOu R nm lL lW lY lV h0 W s x i h'))
set_option maxRecDepth 8000 in
set_option maxHeartbeats 1000000 in
theorem wload_ok (C : WC X picks R nm lL lW lY lV sP h0 s) (hpf : PF R i pf) {b : Nat} (w : WIn R nm lL lW lY lV h0 W s pf x i (.step ⟨1, b, 0, 0⟩ k) l o h) {n : Nme} (hn : n = nm b) :
    CallW Try.prog main (NoS (Γ := Γ)) 89 #[ptr x, nmeV n] h δ (Ret fun v h' δ' => δ' = δ /\ WRes R nm lL lW lY lV h0 W s pf x i ⟨1, b, 0, 0⟩ k l o (fun w => .int .i64 w) (.int .i64 0) h v h') := by
  subst hn
  refine CallW.start (n := 9) rfl rfl ?_
  (repeat (first | refine EK.seq ?_ | refine EK.region ?_ | refine ER.done ?_ | refine ER.move rfl rfl rfl ?_ | refine ER.assign rfl rfl rfl ?_ | refine ER.boxA rfl rfl rfl ?_))
  refine ER.loadN (vs := nmeL (nm b)) rfl rfl rfl rfl (hrow_block (rest := []) (by rw [List.append_nil]; exact get_push_new _ _)) ?_
  skip
  refine ER.callR rfl rfl rfl rfl rfl (does_ok (r := ⟨1, b, 0, 0⟩) C hpf (w.upd0 (Upd.push _ _)) rfl) ?_
  rintro _ h2 δ2 ⟨rfl, u2, hc⟩
  have uu : Upd (WT s x) h h2 := upd_then (Upd.push (T := WT s x) h (nmeO (nm b))) u2 (fun _ _ z => z)
  rcases hc with ⟨w', l', e1, rfl, w2⟩ | ⟨e1, rfl, w2⟩
  · refine ER.field (v := .int .i64 w') Try.underlying75 rfl Try.underlying2 rfl rfl rfl rfl rfl ?_
    (repeat (first | refine ER.done ?_ | refine ER.assign rfl rfl rfl ?_ | refine EK.ret ?_))
    exact EU.ret1 rfl rfl ⟨rfl, uu, .inl ⟨w', l', e1, rfl, w2⟩⟩
  · refine ER.field (v := .int .i64 0) Try.underlying75 rfl Try.underlying2 rfl rfl rfl rfl rfl ?_
    (repeat (first | refine ER.done ?_ | refine ER.assign rfl rfl rfl ?_ | refine EK.ret ?_))
    exact EU.ret1 rfl rfl ⟨rfl, uu, .inr ⟨e1, rfl, w2⟩⟩
set_option maxRecDepth 8000 in
set_option maxHeartbeats 1000000 in
theorem wcas_ok (C : WC X picks R nm lL lW lY lV sP h0 s) (hpf : PF R i pf) {b : Nat} {v c : Int} (w : WIn R nm lL lW lY lV h0 W s pf x i (.step ⟨3, b, v, c⟩ k) l o h) {n : Nme} (hn : n = nm b) :
    CallW Try.prog main (NoS (Γ := Γ)) 103 #[ptr x, nmeV n, .int .i64 v, .int .i64 c] h δ (Ret fun z h' δ' => δ' = δ /\ WRes R nm lL lW lY lV h0 W s pf x i ⟨3, b, v, c⟩ k l o (fun w => .bool (decide (w = v))) (.bool false) h z h') := by
  subst hn
  refine CallW.start (n := 15) rfl rfl ?_
  (repeat (first | refine EK.seq ?_ | refine EK.region ?_ | refine ER.done ?_ | refine ER.move rfl rfl rfl ?_ | refine ER.assign rfl rfl rfl ?_ | refine ER.boxA rfl rfl rfl ?_))
  refine ER.loadN (vs := nmeL (nm b)) rfl rfl rfl rfl (hrow_block (rest := []) (by rw [List.append_nil]; exact get_push_new _ _)) ?_
  (repeat refine ER.move rfl rfl rfl ?_)
  refine ER.callR rfl rfl rfl rfl rfl (does_ok (r := ⟨3, b, v, c⟩) C hpf (w.upd0 (Upd.push _ _)) rfl) ?_
  rintro _ h2 δ2 ⟨rfl, u2, hc⟩
  have uu : Upd (WT s x) h h2 := upd_then (Upd.push (T := WT s x) h (nmeO (nm b))) u2 (fun _ _ z => z)
  rcases hc with ⟨w', l', e1, rfl, w2⟩ | ⟨e1, rfl, w2⟩
  · refine ER.field (v := .bool (decide (w' = v))) Try.underlying75 rfl Try.underlying4 rfl rfl rfl rfl (by
      by_cases e : w' = v
      · simp [entL, accL, evOf, behind, e]
      · simp [entL, accL, evOf, behind, e]) ?_
    (repeat (first | refine ER.done ?_ | refine ER.assign rfl rfl rfl ?_ | refine EK.ret ?_))
    exact EU.ret1 rfl rfl ⟨rfl, uu, .inl ⟨w', l', e1, rfl, w2⟩⟩
  · refine ER.field (v := .bool false) Try.underlying75 rfl Try.underlying4 rfl rfl rfl rfl rfl ?_
    (repeat (first | refine ER.done ?_ | refine ER.assign rfl rfl rfl ?_ | refine EK.ret ?_))
    exact EU.ret1 rfl rfl ⟨rfl, uu, .inr ⟨e1, rfl, w2⟩⟩
set_option maxRecDepth 8000 in
set_option maxHeartbeats 1000000 in
theorem wadd_ok (C : WC X picks R nm lL lW lY lV sP h0 s) (hpf : PF R i pf) {b : Nat} {v : Int} (w : WIn R nm lL lW lY lV h0 W s pf x i (.step ⟨4, b, v, 0⟩ k) l o h) {n : Nme} (hn : n = nm b) :
    CallW Try.prog main (NoS (Γ := Γ)) 120 #[ptr x, nmeV n, .int .i64 v] h δ (Ret fun z h' δ' => δ' = δ /\ WRes R nm lL lW lY lV h0 W s pf x i ⟨4, b, v, 0⟩ k l o (fun w => .int .i64 (IntKind.i64.wrap (w + v))) (.int .i64 0) h z h') := by
  subst hn
  refine CallW.start (n := 12) rfl rfl ?_
  (repeat (first | refine EK.seq ?_ | refine EK.region ?_ | refine ER.done ?_ | refine ER.move rfl rfl rfl ?_ | refine ER.assign rfl rfl rfl ?_ | refine ER.boxA rfl rfl rfl ?_))
  refine ER.loadN (vs := nmeL (nm b)) rfl rfl rfl rfl (hrow_block (rest := []) (by rw [List.append_nil]; exact get_push_new _ _)) ?_
  (repeat refine ER.move rfl rfl rfl ?_)
  refine ER.callR rfl rfl rfl rfl rfl (does_ok (r := ⟨4, b, v, 0⟩) C hpf (w.upd0 (Upd.push _ _)) rfl) ?_
  rintro _ h2 δ2 ⟨rfl, u2, hc⟩
  have uu : Upd (WT s x) h h2 := upd_then (Upd.push (T := WT s x) h (nmeO (nm b))) u2 (fun _ _ z => z)
  rcases hc with ⟨w', l', e1, rfl, w2⟩ | ⟨e1, rfl, w2⟩
  · refine ER.field (v := .int .i64 (IntKind.i64.wrap (w' + v))) Try.underlying75 rfl Try.underlying2 rfl rfl rfl rfl rfl ?_
    (repeat (first | refine ER.done ?_ | refine ER.assign rfl rfl rfl ?_ | refine EK.ret ?_))
    exact EU.ret1 rfl rfl ⟨rfl, uu, .inl ⟨w', l', e1, rfl, w2⟩⟩
  · refine ER.field (v := .int .i64 0) Try.underlying75 rfl Try.underlying2 rfl rfl rfl rfl rfl ?_
    (repeat (first | refine ER.done ?_ | refine ER.assign rfl rfl rfl ?_ | refine EK.ret ?_))
    exact EU.ret1 rfl rfl ⟨rfl, uu, .inr ⟨e1, rfl, w2⟩⟩
def WNil (s : WS) (R : Rec) (nm : Nat -> Nme) (lL lW lY lV : Value) (h0 : Hp) (W x i : Nat) (h h' : Hp) : Prop := Upd (fun _ => False) h h' /\ WOu R nm lL lW lY lV h0 W s x i h'
set_option maxRecDepth 8000 in
set_option maxHeartbeats 1000000 in
theorem wload_out {n : Nme} (w : WOu R nm lL lW lY lV h0 W s x i h) :
    CallW Try.prog main (NoS (Γ := Γ)) 89 #[ptr x, nmeV n] h δ (Ret fun v h' δ' => δ' = δ /\ v = .int .i64 0 /\ WNil s R nm lL lW lY lV h0 W x i h h') := by
  refine CallW.start (n := 9) rfl rfl ?_
  obtain ⟨t, ht, hl, hx⟩ := w.out.at_
  (repeat (first | refine EK.seq ?_ | refine EK.region ?_ | refine ER.done ?_ | refine ER.move rfl rfl rfl ?_ | refine ER.assign rfl rfl rfl ?_ | refine ER.boxA rfl rfl rfl ?_))
  refine ER.loadN (vs := nmeL n) rfl rfl rfl rfl (hrow_block (rest := []) (by rw [List.append_nil]; exact get_push_new _ _)) ?_
  skip
  refine ER.callR rfl rfl rfl rfl rfl (does_out (get_push _ hx)) ?_
  rintro _ h2 δ2 ⟨rfl, rfl, u2⟩
  have uu : Upd (fun _ => False) h h2 := (Upd.push h (nmeO n)).trans u2
  have w2 := w.upd0 uu
  refine ER.field (v := .int .i64 0) Try.underlying75 rfl Try.underlying2 rfl rfl rfl rfl rfl ?_
  (repeat (first | refine ER.done ?_ | refine ER.assign rfl rfl rfl ?_ | refine EK.ret ?_))
  exact EU.ret1 rfl rfl ⟨rfl, rfl, uu, w2⟩
set_option maxRecDepth 8000 in
set_option maxHeartbeats 1000000 in
theorem wcas_out {n : Nme} {v c : Int} (w : WOu R nm lL lW lY lV h0 W s x i h) :
    CallW Try.prog main (NoS (Γ := Γ)) 103 #[ptr x, nmeV n, .int .i64 v, .int .i64 c] h δ (Ret fun z h' δ' => δ' = δ /\ z = .bool false /\ WNil s R nm lL lW lY lV h0 W x i h h') := by
  refine CallW.start (n := 15) rfl rfl ?_
  obtain ⟨t, ht, hl, hx⟩ := w.out.at_
  (repeat (first | refine EK.seq ?_ | refine EK.region ?_ | refine ER.done ?_ | refine ER.move rfl rfl rfl ?_ | refine ER.assign rfl rfl rfl ?_ | refine ER.boxA rfl rfl rfl ?_))
  refine ER.loadN (vs := nmeL n) rfl rfl rfl rfl (hrow_block (rest := []) (by rw [List.append_nil]; exact get_push_new _ _)) ?_
  (repeat refine ER.move rfl rfl rfl ?_)
  refine ER.callR rfl rfl rfl rfl rfl (does_out (get_push _ hx)) ?_
  rintro _ h2 δ2 ⟨rfl, rfl, u2⟩
  have uu : Upd (fun _ => False) h h2 := (Upd.push h (nmeO n)).trans u2
  have w2 := w.upd0 uu
  refine ER.field (v := .bool false) Try.underlying75 rfl Try.underlying4 rfl rfl rfl rfl rfl ?_
  (repeat (first | refine ER.done ?_ | refine ER.assign rfl rfl rfl ?_ | refine EK.ret ?_))
  exact EU.ret1 rfl rfl ⟨rfl, rfl, uu, w2⟩
set_option maxRecDepth 8000 in
set_option maxHeartbeats 1000000 in
theorem wadd_out {n : Nme} {v : Int} (w : WOu R nm lL lW lY lV h0 W s x i h) :
    CallW Try.prog main (NoS (Γ := Γ)) 120 #[ptr x, nmeV n, .int .i64 v] h δ (Ret fun z h' δ' => δ' = δ /\ z = .int .i64 0 /\ WNil s R nm lL lW lY lV h0 W x i h h') := by
  refine CallW.start (n := 12) rfl rfl ?_
  obtain ⟨t, ht, hl, hx⟩ := w.out.at_
  (repeat (first | refine EK.seq ?_ | refine EK.region ?_ | refine ER.done ?_ | refine ER.move rfl rfl rfl ?_ | refine ER.assign rfl rfl rfl ?_ | refine ER.boxA rfl rfl rfl ?_))
  refine ER.loadN (vs := nmeL n) rfl rfl rfl rfl (hrow_block (rest := []) (by rw [List.append_nil]; exact get_push_new _ _)) ?_
  (repeat refine ER.move rfl rfl rfl ?_)
  refine ER.callR rfl rfl rfl rfl rfl (does_out (get_push _ hx)) ?_
  rintro _ h2 δ2 ⟨rfl, rfl, u2⟩
  have uu : Upd (fun _ => False) h h2 := (Upd.push h (nmeO n)).trans u2
  have w2 := w.upd0 uu
  refine ER.field (v := .int .i64 0) Try.underlying75 rfl Try.underlying2 rfl rfl rfl rfl rfl ?_
  (repeat (first | refine ER.done ?_ | refine ER.assign rfl rfl rfl ?_ | refine EK.ret ?_))
  exact EU.ret1 rfl rfl ⟨rfl, rfl, uu, w2⟩
end
end
section
open Go Go.TJ Go.Conc Go.Proofs
def WX (R : Rec) (nm : Nat -> Nme) (lL lW lY lV : Value) (h0 : Hp) (W : Nat) (s : WS) {A : Type} (pf : Pr A) (x i : Nat) (o : List A) (p : Pr A) (m : Nat) (h : Hp) : Prop :=
  (∃ l : List Ev, l.length < m /\ WIn R nm lL lW lY lV h0 W s pf x i p l o h) \/ (o = [] /\ WOu R nm lL lW lY lV h0 W s x i h)
section
variable {Γ : Type} {main : Bool} {S : Sit Γ} {δ : Ix Γ} {R : Rec} {nm : Nat -> Nme} {lL lW lY lV sP : Value} {h0 h h' : Hp} {W x i t m : Nat} {s : WS} {picks : List Int} {X : Us} {A : Type} {pf p : Pr A} {k : Int -> Pr A} {l : List Ev} {o : List A}
theorem WIn.row (w : WIn R nm lL lW lY lV h0 W s pf x i p l o h) : hcell h ⟨x, 2, none⟩ = some (.bool false) := by
  obtain ⟨t, ht, hl, hx⟩ := w.at_.at_
  exact hcell_of hx rfl
theorem WOu.row (w : WOu R nm lL lW lY lV h0 W s x i h) : hcell h ⟨x, 2, none⟩ = some (.bool true) := by
  obtain ⟨t, ht, hl, hx⟩ := w.out.at_
  exact hcell_of hx rfl
theorem WX.upd0 (w : WX R nm lL lW lY lV h0 W s pf x i o p m h) (u : Upd (fun _ => False) h h') : WX R nm lL lW lY lV h0 W s pf x i o p m h' :=
  w.imp (fun ⟨l, hl, w⟩ => ⟨l, hl, w.upd0 u⟩) (fun ⟨e, w⟩ => ⟨e, w.upd0 u⟩)
theorem WX.wt (w : WX R nm lL lW lY lV h0 W s pf x i o p m h) : ∀ b, WT s x b -> h0.size <= b /\ b < h.size :=
  w.elim (fun ⟨_, _, w⟩ => w.wt) (fun ⟨_, w⟩ => w.wt)
theorem WX.all (w : WX R nm lL lW lY lV h0 W s pf x i o p m h) : WAll R nm lL lW lY lV h0 W s h :=
  w.elim (fun ⟨_, _, w⟩ => w.all) (fun ⟨_, w⟩ => w.all)
theorem WX.mono {m' : Nat} (w : WX R nm lL lW lY lV h0 W s pf x i o p m h) (hm : m <= m') : WX R nm lL lW lY lV h0 W s pf x i o p m' h :=
  w.imp (fun ⟨l, hl, w⟩ => ⟨l, Nat.lt_of_lt_of_le hl hm, w⟩) id
theorem WIn.setA {l : List Ev} (w : WIn R nm lL lW lY lV h0 W s pf x i p l o h) {y : Nat} {a : Array Value} {t : TypeId} (hy : h[y]? = some (.cells a t (0, 0))) (hy0 : h0.size <= y) (h1 : t ≠ 66) (h2 : t ≠ 210) (h3 : t ≠ 4) (h4 : t ≠ 2) (h5 : t ≠ 60) (ob : Obj) : WIn R nm lL lW lY lV h0 W s pf x i p l o (h.setIfInBounds y ob) := by
  obtain ⟨⟨q, I, N⟩, ⟨⟨t', q1, q2, q3⟩, g⟩, x0⟩ := w
  refine ⟨⟨q, I.other hy hy0 h1 h2 h3 h4 ob, N⟩, ⟨⟨t', q1, q2, ?_⟩, g⟩, x0⟩
  rw [get_set_ne _ (fun e => by
    rw [e, q3] at hy
    injection hy with hy
    injection hy with _ hy _
    exact h5 hy.symm)]
  exact q3
theorem WOu.setA (w : WOu R nm lL lW lY lV h0 W s x i h) {y : Nat} {a : Array Value} {t : TypeId} (hy : h[y]? = some (.cells a t (0, 0))) (hy0 : h0.size <= y) (h1 : t ≠ 66) (h2 : t ≠ 210) (h3 : t ≠ 4) (h4 : t ≠ 2) (h5 : t ≠ 60) (ob : Obj) : WOu R nm lL lW lY lV h0 W s x i (h.setIfInBounds y ob) := by
  obtain ⟨⟨q, I, N⟩, ⟨⟨t', q1, q2, q3⟩, g⟩, x0⟩ := w
  refine ⟨⟨q, I.other hy hy0 h1 h2 h3 h4 ob, N⟩, ⟨⟨t', q1, q2, ?_⟩, g⟩, x0⟩
  rw [get_set_ne _ (fun e => by
    rw [e, q3] at hy
    injection hy with hy
    injection hy with _ hy _
    exact h5 hy.symm)]
  exact q3
theorem WX.setA (w : WX R nm lL lW lY lV h0 W s pf x i o p m h) {y : Nat} {a : Array Value} {t : TypeId} (hy : h[y]? = some (.cells a t (0, 0))) (hy0 : h0.size <= y) (h1 : t ≠ 66) (h2 : t ≠ 210) (h3 : t ≠ 4) (h4 : t ≠ 2) (h5 : t ≠ 60) (ob : Obj) : WX R nm lL lW lY lV h0 W s pf x i o p m (h.setIfInBounds y ob) :=
  w.imp (fun ⟨l, hl, w⟩ => ⟨l, hl, w.setA hy hy0 h1 h2 h3 h4 h5 ob⟩) (fun ⟨e, w⟩ => ⟨e, w.setA hy hy0 h1 h2 h3 h4 h5 ob⟩)
theorem wloadX (C : WC X picks R nm lL lW lY lV sP h0 s) (hpf : PF R i pf) {b : Nat} (w : WX R nm lL lW lY lV h0 W s pf x i o (.step ⟨1, b, 0, 0⟩ k) m h) {n : Nme} (hn : n = nm b) :
    CallW Try.prog main (NoS (Γ := Γ)) 89 #[ptr x, nmeV n] h δ (Ret fun v h' δ' => δ' = δ /\ Upd (WT s x) h h' /\ ∃ z, v = .int .i64 z /\ WX R nm lL lW lY lV h0 W s pf x i o (k z) (m - 1) h') := by
  rcases w with ⟨l, hl, w⟩ | ⟨ho, w⟩
  · refine (wload_ok C hpf w hn).mono ?_
    rintro (v | ps) h' δ' hq
    · obtain ⟨e, u, ⟨z, l', e1, hv, w'⟩ | ⟨e1, hv, w'⟩⟩ := hq
      · exact ⟨e, u, z, hv, .inl ⟨l', by rw [e1] at hl; simp only [List.length_cons] at hl; omega, w'⟩⟩
      · exact ⟨e, u, 0, hv, .inr ⟨e1, w'⟩⟩
    · exact hq.elim
  · refine (wload_out w).mono ?_
    rintro (v | ps) h' δ' hq
    · obtain ⟨e, hv, u, w'⟩ := hq
      exact ⟨e, u.mono (fun _ _ z => z.elim), 0, hv, .inr ⟨ho, w'⟩⟩
    · exact hq.elim
theorem wcasX (C : WC X picks R nm lL lW lY lV sP h0 s) (hpf : PF R i pf) {b : Nat} {v c : Int} (w : WX R nm lL lW lY lV h0 W s pf x i o (.step ⟨3, b, v, c⟩ k) m h) {n : Nme} (hn : n = nm b) :
    CallW Try.prog main (NoS (Γ := Γ)) 103 #[ptr x, nmeV n, .int .i64 v, .int .i64 c] h δ (Ret fun q h' δ' => δ' = δ /\ Upd (WT s x) h h' /\ ∃ z, q = .bool (decide (z = v)) /\ WX R nm lL lW lY lV h0 W s pf x i o (k z) (m - 1) h') := by
  rcases w with ⟨l, hl, w⟩ | ⟨ho, w⟩
  · refine (wcas_ok C hpf w hn).mono ?_
    rintro (q | ps) h' δ' hq
    · obtain ⟨e, u, ⟨z, l', e1, hv, w'⟩ | ⟨e1, hv, w'⟩⟩ := hq
      · exact ⟨e, u, z, hv, .inl ⟨l', by rw [e1] at hl; simp only [List.length_cons] at hl; omega, w'⟩⟩
      · exact ⟨e, u, v + 1, by rw [hv, decide_eq_false (by omega)], .inr ⟨e1, w'⟩⟩
    · exact hq.elim
  · refine (wcas_out w).mono ?_
    rintro (q | ps) h' δ' hq
    · obtain ⟨e, hv, u, w'⟩ := hq
      exact ⟨e, u.mono (fun _ _ z => z.elim), v + 1, by rw [hv, decide_eq_false (by omega)], .inr ⟨ho, w'⟩⟩
    · exact hq.elim
theorem waddX (C : WC X picks R nm lL lW lY lV sP h0 s) (hpf : PF R i pf) {b : Nat} {v : Int} (w : WX R nm lL lW lY lV h0 W s pf x i o (.step ⟨4, b, v, 0⟩ k) m h) {n : Nme} (hn : n = nm b) :
    CallW Try.prog main (NoS (Γ := Γ)) 120 #[ptr x, nmeV n, .int .i64 v] h δ (Ret fun q h' δ' => δ' = δ /\ Upd (WT s x) h h' /\ ∃ z, q = .int .i64 (IntKind.i64.wrap (z + v)) /\ WX R nm lL lW lY lV h0 W s pf x i o (k z) (m - 1) h') := by
  have e0 : (0 : Int) = IntKind.i64.wrap (-v + v) := by rw [show -v + v = 0 by omega]; rfl
  rcases w with ⟨l, hl, w⟩ | ⟨ho, w⟩
  · refine (wadd_ok C hpf w hn).mono ?_
    rintro (q | ps) h' δ' hq
    · obtain ⟨e, u, ⟨z, l', e1, hv, w'⟩ | ⟨e1, hv, w'⟩⟩ := hq
      · exact ⟨e, u, z, hv, .inl ⟨l', by rw [e1] at hl; simp only [List.length_cons] at hl; omega, w'⟩⟩
      · exact ⟨e, u, -v, by rw [hv, <- e0], .inr ⟨e1, w'⟩⟩
    · exact hq.elim
  · refine (wadd_out w).mono ?_
    rintro (q | ps) h' δ' hq
    · obtain ⟨e, hv, u, w'⟩ := hq
      exact ⟨e, u.mono (fun _ _ z => z.elim), -v, by rw [hv, <- e0], .inr ⟨ho, w'⟩⟩
    · exact hq.elim
def RDidX (R : Rec) (nm : Nat -> Nme) (lL lW lY lV : Value) (h0 : Hp) (W : Nat) (s : WS) {A : Type} (enc : A -> List Value) (pf : Pr A) (x i : Nat) (o : List A) (k : A -> Pr A) (m : Nat) (h : Hp) (v : Value) (h' : Hp) : Prop :=
  Upd (WT s x) h h' /\ ∃ a : A, v = .agg (enc a).toArray /\ WX R nm lL lW lY lV h0 W s pf x i o (k a) m h'
theorem nme_all {y : Nat} {n : Nme} {h : Hp} (hy : h[y]? = some (nmeO n)) : ∀ j, j < 2 -> (∃ u, hcell h ⟨y, 0 + j, none⟩ = some u) /\ hfroz h ⟨y, 0 + j, none⟩ = false /\ ¬ (NoS (Γ := Γ)).still δ.g ⟨y, 0 + j, none⟩ := fun j hj => by
  refine ⟨?_, hfroz_of hy, fun x => x⟩
  rcases (show j = 0 \/ j = 1 by omega) with rfl | rfl
  · exact ⟨_, hcell_of hy rfl⟩
  · exact ⟨_, hcell_of hy rfl⟩
end
end
section
open Go Go.TJ Go.Conc Go.Proofs
structure WkR (R : Rec) (lL lW lY lV : Value) (h0 : Hp) (W : Nat) (nl : List Nme) (gl : List Bool) (fl : List Int) (hl : List Nme) (ol : List Int) (nv gv fv hv ov : Value) (h : Hp) : Prop where
  up : Upd (fun _ => False) h0 h
  row : h[W]? = some (wkO R.e R.log.length lL lW lY lV ⟨[], [], nv, gv, fv, hv, ov⟩)
  nms : SliceO h nv 210 2 nl.length (nl.flatMap nmeL)
  giv : SliceO h gv 4 1 gl.length (gl.map Value.bool)
  fst : SliceO h fv 2 1 fl.length (fl.map fun x => Value.int .i64 x)
  hav : SliceO h hv 210 2 hl.length (hl.flatMap nmeL)
  hol : SliceO h ov 2 1 ol.length (ol.map fun x => Value.int .i64 x)
  nW : h0.size <= W
  n1 : ∀ b, blk nv = some b -> h0.size <= b
  n2 : ∀ b, blk gv = some b -> h0.size <= b
  n3 : ∀ b, blk fv = some b -> h0.size <= b
  n4 : ∀ b, blk hv = some b -> h0.size <= b
  n5 : ∀ b, blk ov = some b -> h0.size <= b
  a1 : ∀ b, blk nv = some b -> blk hv ≠ some b
  a2 : ∀ b, blk fv = some b -> blk ov ≠ some b
section
variable {R : Rec} {lL lW lY lV : Value} {h0 h h1 : Hp} {W : Nat} {nl : List Nme} {gl : List Bool} {fl : List Int} {hl : List Nme} {ol : List Int} {nv gv fv hv ov s' : Value}
theorem WkR.upd0 (I : WkR R lL lW lY lV h0 W nl gl fl hl ol nv gv fv hv ov h) (u : Upd (fun _ => False) h h1) : WkR R lL lW lY lV h0 W nl gl fl hl ol nv gv fv hv ov h1 :=
  ⟨I.up.trans u, u.get I.row (fun x => x), I.nms.upd u (fun _ _ x => x), I.giv.upd u (fun _ _ x => x), I.fst.upd u (fun _ _ x => x), I.hav.upd u (fun _ _ x => x), I.hol.upd u (fun _ _ x => x), I.nW, I.n1, I.n2, I.n3, I.n4, I.n5, I.a1, I.a2⟩
theorem WkR.app_nms {x : Nme} (I : WkR R lL lW lY lV h0 W nl gl fl hl ol nv gv fv hv ov h) (u : Upd (fun b => blk nv = some b) h h1) (sl : SliceO h1 s' 210 2 (nl.length + 1) ((nl.flatMap nmeL) ++ nmeL x)) (hb : ∀ b, blk s' = some b -> blk nv = some b \/ h.size <= b) :
    WkR R lL lW lY lV h0 W (nl ++ [x]) gl fl hl ol s' gv fv hv ov (hset h1 ⟨W, 8, none⟩ s') := by
  have o1 := u.get I.row (fun hx => sliceO_ne I.nms I.row (by decide) W hx rfl)
  have e1 : hset h1 ⟨W, 8, none⟩ s' = h1.setIfInBounds W (wkO R.e R.log.length lL lW lY lV ⟨[], [], s', gv, fv, hv, ov⟩) := hset_block o1 _
  rw [e1]
  have uW : Upd (fun b => b = W) h1 (h1.setIfInBounds W (wkO R.e R.log.length lL lW lY lV ⟨[], [], s', gv, fv, hv, ov⟩)) := Upd.set _ _ _ rfl
  have hWl := lt_of_get I.row
  have hn : ∀ b, blk s' = some b -> h0.size <= b := fun b hbb => (hb b hbb).elim (I.n1 b) (fun y => Nat.le_trans I.up.size y)
  have hw : ∀ b, blk s' = some b -> b ≠ W := fun b hbb => (hb b hbb).elim (sliceO_ne I.nms I.row (by decide) b) (fun y => by omega)
  have nW := I.nW
  exact ⟨(I.up.over u (fun b hbb => I.n1 b hbb)).over uW (fun b e => by omega), get_set_same o1, by have := sl.upd uW hw; simpa [List.flatMap_append] using this, (I.giv.upd u (fun b hbb hx => sliceO_two I.giv I.nms (by decide) b hbb hx)).upd uW (sliceO_ne I.giv I.row (by decide)), (I.fst.upd u (fun b hbb hx => sliceO_two I.fst I.nms (by decide) b hbb hx)).upd uW (sliceO_ne I.fst I.row (by decide)), (I.hav.upd u (fun b hbb hx => I.a1 b hx hbb)).upd uW (sliceO_ne I.hav I.row (by decide)), (I.hol.upd u (fun b hbb hx => sliceO_two I.hol I.nms (by decide) b hbb hx)).upd uW (sliceO_ne I.hol I.row (by decide)), I.nW, hn, I.n2, I.n3, I.n4, I.n5, fun b hbb hx => (hb b hbb).elim (fun y => I.a1 b y hx) (fun y => by have := I.hav.lt hx; omega), I.a2⟩
theorem WkR.app_giv {x : Bool} (I : WkR R lL lW lY lV h0 W nl gl fl hl ol nv gv fv hv ov h) (u : Upd (fun b => blk gv = some b) h h1) (sl : SliceO h1 s' 4 1 (gl.length + 1) ((gl.map Value.bool) ++ [Value.bool x])) (hb : ∀ b, blk s' = some b -> blk gv = some b \/ h.size <= b) :
    WkR R lL lW lY lV h0 W nl (gl ++ [x]) fl hl ol nv s' fv hv ov (hset h1 ⟨W, 9, none⟩ s') := by
  have o1 := u.get I.row (fun hx => sliceO_ne I.giv I.row (by decide) W hx rfl)
  have e1 : hset h1 ⟨W, 9, none⟩ s' = h1.setIfInBounds W (wkO R.e R.log.length lL lW lY lV ⟨[], [], nv, s', fv, hv, ov⟩) := hset_block o1 _
  rw [e1]
  have uW : Upd (fun b => b = W) h1 (h1.setIfInBounds W (wkO R.e R.log.length lL lW lY lV ⟨[], [], nv, s', fv, hv, ov⟩)) := Upd.set _ _ _ rfl
  have hWl := lt_of_get I.row
  have hn : ∀ b, blk s' = some b -> h0.size <= b := fun b hbb => (hb b hbb).elim (I.n2 b) (fun y => Nat.le_trans I.up.size y)
  have hw : ∀ b, blk s' = some b -> b ≠ W := fun b hbb => (hb b hbb).elim (sliceO_ne I.giv I.row (by decide) b) (fun y => by omega)
  have nW := I.nW
  exact ⟨(I.up.over u (fun b hbb => I.n2 b hbb)).over uW (fun b e => by omega), get_set_same o1, (I.nms.upd u (fun b hbb hx => sliceO_two I.nms I.giv (by decide) b hbb hx)).upd uW (sliceO_ne I.nms I.row (by decide)), by have := sl.upd uW hw; simpa using this, (I.fst.upd u (fun b hbb hx => sliceO_two I.fst I.giv (by decide) b hbb hx)).upd uW (sliceO_ne I.fst I.row (by decide)), (I.hav.upd u (fun b hbb hx => sliceO_two I.hav I.giv (by decide) b hbb hx)).upd uW (sliceO_ne I.hav I.row (by decide)), (I.hol.upd u (fun b hbb hx => sliceO_two I.hol I.giv (by decide) b hbb hx)).upd uW (sliceO_ne I.hol I.row (by decide)), I.nW, I.n1, hn, I.n3, I.n4, I.n5, I.a1, I.a2⟩
theorem WkR.app_fst {x : Int} (I : WkR R lL lW lY lV h0 W nl gl fl hl ol nv gv fv hv ov h) (u : Upd (fun b => blk fv = some b) h h1) (sl : SliceO h1 s' 2 1 (fl.length + 1) ((fl.map fun x => Value.int .i64 x) ++ [Value.int .i64 x])) (hb : ∀ b, blk s' = some b -> blk fv = some b \/ h.size <= b) :
    WkR R lL lW lY lV h0 W nl gl (fl ++ [x]) hl ol nv gv s' hv ov (hset h1 ⟨W, 10, none⟩ s') := by
  have o1 := u.get I.row (fun hx => sliceO_ne I.fst I.row (by decide) W hx rfl)
  have e1 : hset h1 ⟨W, 10, none⟩ s' = h1.setIfInBounds W (wkO R.e R.log.length lL lW lY lV ⟨[], [], nv, gv, s', hv, ov⟩) := hset_block o1 _
  rw [e1]
  have uW : Upd (fun b => b = W) h1 (h1.setIfInBounds W (wkO R.e R.log.length lL lW lY lV ⟨[], [], nv, gv, s', hv, ov⟩)) := Upd.set _ _ _ rfl
  have hWl := lt_of_get I.row
  have hn : ∀ b, blk s' = some b -> h0.size <= b := fun b hbb => (hb b hbb).elim (I.n3 b) (fun y => Nat.le_trans I.up.size y)
  have hw : ∀ b, blk s' = some b -> b ≠ W := fun b hbb => (hb b hbb).elim (sliceO_ne I.fst I.row (by decide) b) (fun y => by omega)
  have nW := I.nW
  exact ⟨(I.up.over u (fun b hbb => I.n3 b hbb)).over uW (fun b e => by omega), get_set_same o1, (I.nms.upd u (fun b hbb hx => sliceO_two I.nms I.fst (by decide) b hbb hx)).upd uW (sliceO_ne I.nms I.row (by decide)), (I.giv.upd u (fun b hbb hx => sliceO_two I.giv I.fst (by decide) b hbb hx)).upd uW (sliceO_ne I.giv I.row (by decide)), by have := sl.upd uW hw; simpa using this, (I.hav.upd u (fun b hbb hx => sliceO_two I.hav I.fst (by decide) b hbb hx)).upd uW (sliceO_ne I.hav I.row (by decide)), (I.hol.upd u (fun b hbb hx => I.a2 b hx hbb)).upd uW (sliceO_ne I.hol I.row (by decide)), I.nW, I.n1, I.n2, hn, I.n4, I.n5, I.a1, fun b hbb hx => (hb b hbb).elim (fun y => I.a2 b y hx) (fun y => by have := I.hol.lt hx; omega)⟩
theorem WkR.app_hav {x : Nme} (I : WkR R lL lW lY lV h0 W nl gl fl hl ol nv gv fv hv ov h) (u : Upd (fun b => blk hv = some b) h h1) (sl : SliceO h1 s' 210 2 (hl.length + 1) ((hl.flatMap nmeL) ++ nmeL x)) (hb : ∀ b, blk s' = some b -> blk hv = some b \/ h.size <= b) :
    WkR R lL lW lY lV h0 W nl gl fl (hl ++ [x]) ol nv gv fv s' ov (hset h1 ⟨W, 11, none⟩ s') := by
  have o1 := u.get I.row (fun hx => sliceO_ne I.hav I.row (by decide) W hx rfl)
  have e1 : hset h1 ⟨W, 11, none⟩ s' = h1.setIfInBounds W (wkO R.e R.log.length lL lW lY lV ⟨[], [], nv, gv, fv, s', ov⟩) := hset_block o1 _
  rw [e1]
  have uW : Upd (fun b => b = W) h1 (h1.setIfInBounds W (wkO R.e R.log.length lL lW lY lV ⟨[], [], nv, gv, fv, s', ov⟩)) := Upd.set _ _ _ rfl
  have hWl := lt_of_get I.row
  have hn : ∀ b, blk s' = some b -> h0.size <= b := fun b hbb => (hb b hbb).elim (I.n4 b) (fun y => Nat.le_trans I.up.size y)
  have hw : ∀ b, blk s' = some b -> b ≠ W := fun b hbb => (hb b hbb).elim (sliceO_ne I.hav I.row (by decide) b) (fun y => by omega)
  have nW := I.nW
  exact ⟨(I.up.over u (fun b hbb => I.n4 b hbb)).over uW (fun b e => by omega), get_set_same o1, (I.nms.upd u (fun b hbb hx => I.a1 b hbb hx)).upd uW (sliceO_ne I.nms I.row (by decide)), (I.giv.upd u (fun b hbb hx => sliceO_two I.giv I.hav (by decide) b hbb hx)).upd uW (sliceO_ne I.giv I.row (by decide)), (I.fst.upd u (fun b hbb hx => sliceO_two I.fst I.hav (by decide) b hbb hx)).upd uW (sliceO_ne I.fst I.row (by decide)), by have := sl.upd uW hw; simpa [List.flatMap_append] using this, (I.hol.upd u (fun b hbb hx => sliceO_two I.hol I.hav (by decide) b hbb hx)).upd uW (sliceO_ne I.hol I.row (by decide)), I.nW, I.n1, I.n2, I.n3, hn, I.n5, fun b hbb hx => (hb b hx).elim (fun y => I.a1 b hbb y) (fun y => by have := I.nms.lt hbb; omega), I.a2⟩
theorem WkR.app_hol {x : Int} (I : WkR R lL lW lY lV h0 W nl gl fl hl ol nv gv fv hv ov h) (u : Upd (fun b => blk ov = some b) h h1) (sl : SliceO h1 s' 2 1 (ol.length + 1) ((ol.map fun x => Value.int .i64 x) ++ [Value.int .i64 x])) (hb : ∀ b, blk s' = some b -> blk ov = some b \/ h.size <= b) :
    WkR R lL lW lY lV h0 W nl gl fl hl (ol ++ [x]) nv gv fv hv s' (hset h1 ⟨W, 12, none⟩ s') := by
  have o1 := u.get I.row (fun hx => sliceO_ne I.hol I.row (by decide) W hx rfl)
  have e1 : hset h1 ⟨W, 12, none⟩ s' = h1.setIfInBounds W (wkO R.e R.log.length lL lW lY lV ⟨[], [], nv, gv, fv, hv, s'⟩) := hset_block o1 _
  rw [e1]
  have uW : Upd (fun b => b = W) h1 (h1.setIfInBounds W (wkO R.e R.log.length lL lW lY lV ⟨[], [], nv, gv, fv, hv, s'⟩)) := Upd.set _ _ _ rfl
  have hWl := lt_of_get I.row
  have hn : ∀ b, blk s' = some b -> h0.size <= b := fun b hbb => (hb b hbb).elim (I.n5 b) (fun y => Nat.le_trans I.up.size y)
  have hw : ∀ b, blk s' = some b -> b ≠ W := fun b hbb => (hb b hbb).elim (sliceO_ne I.hol I.row (by decide) b) (fun y => by omega)
  have nW := I.nW
  exact ⟨(I.up.over u (fun b hbb => I.n5 b hbb)).over uW (fun b e => by omega), get_set_same o1, (I.nms.upd u (fun b hbb hx => sliceO_two I.nms I.hol (by decide) b hbb hx)).upd uW (sliceO_ne I.nms I.row (by decide)), (I.giv.upd u (fun b hbb hx => sliceO_two I.giv I.hol (by decide) b hbb hx)).upd uW (sliceO_ne I.giv I.row (by decide)), (I.fst.upd u (fun b hbb hx => I.a2 b hbb hx)).upd uW (sliceO_ne I.fst I.row (by decide)), (I.hav.upd u (fun b hbb hx => sliceO_two I.hav I.hol (by decide) b hbb hx)).upd uW (sliceO_ne I.hav I.row (by decide)), by have := sl.upd uW hw; simpa using this, I.nW, I.n1, I.n2, I.n3, I.n4, hn, I.a1, fun b hbb hx => (hb b hx).elim (fun y => I.a2 b hbb y) (fun y => by have := I.fst.lt hbb; omega)⟩
end
end
section
open Go Go.TJ Go.Conc Go.Proofs
section
variable {Γ : Type} {main : Bool} {S : Sit Γ} {δ : Ix Γ} {R : Rec} {lL lW lY lV sP : Value} {h0 h h1 h' : Hp} {W : Nat} {nl : List Nme} {gl : List Bool} {fl : List Int} {hl : List Nme} {ol : List Int} {nv gv fv hv ov s' : Value} {picks : List Int} {X : Us} {nm : Nat -> Nme}
theorem WkR.toI {q : List (Bool × Nme)} {hs : List (Nme × Int)} (I : WkR R lL lW lY lV h0 W nl gl fl hl ol nv gv fv hv ov h) (h1 : q.map (·.2) = nl) (h2 : q.map (·.1) = gl) (h3 : hs.map (·.1) = hl) (h4 : hs.map (·.2) = ol) : WkI R nm lL lW lY lV h0 W fl ⟨q, hs, nv, gv, fv, hv, ov⟩ h := by
  subst h1 h2 h3 h4
  refine ⟨I.up, I.row, ?_, ?_, I.fst, ?_, ?_, I.nW, I.n1, I.n2, I.n3, I.n4, I.n5, I.a1, I.a2⟩
  · have := I.nms; rw [List.length_map, List.flatMap_map] at this; exact this
  · have := I.giv; rw [List.length_map, List.map_map] at this; exact this
  · have := I.hav; rw [List.length_map, List.flatMap_map] at this; exact this
  · have := I.hol; rw [List.length_map, List.map_map] at this; exact this
theorem WkR.keep {y : Nat} {a : Array Value} {t : TypeId} (I : WkR R lL lW lY lV h0 W nl gl fl hl ol nv gv fv hv ov h) (hy : h[y]? = some (.cells a t (0, 0))) (h1 : t ≠ 66) (h2 : t ≠ 210) (h3 : t ≠ 4) (h4 : t ≠ 2) :
    y ≠ W /\ ¬ blk nv = some y /\ ¬ blk gv = some y /\ ¬ blk fv = some y /\ ¬ blk hv = some y /\ ¬ blk ov = some y := by
  refine ⟨fun e => ?_, fun e => sliceO_ne I.nms hy (Ne.symm h2) y e rfl, fun e => sliceO_ne I.giv hy (Ne.symm h3) y e rfl, fun e => sliceO_ne I.fst hy (Ne.symm h4) y e rfl, fun e => sliceO_ne I.hav hy (Ne.symm h2) y e rfl, fun e => sliceO_ne I.hol hy (Ne.symm h4) y e rfl⟩
  have := I.row
  rw [<- e, hy] at this
  injection this with this
  injection this with _ this _
  exact h1 this
abbrev repOb (e : Int) (n : Nat) (lL lW lY lV : Value) : Obj := .cells (repL e n lL lW lY lV).toArray 49 (0, 0)
set_option maxHeartbeats 16000000 in
set_option maxRecDepth 8000 in
theorem newwalk_ok (ok : RecOk X picks R) (m : RecM R picks lL lW lY lV sP h) :
    CallW Try.prog main (NoS (Γ := Γ)) 20 #[.agg (repL R.e R.log.length lL lW lY lV).toArray] h δ (Ret fun v h' δ' => δ' = δ /\ ∃ (W : Nat) (nv gv fv : Value), v = ptr W /\ WkR R lL lW lY lV h W (List.replicate (nums R.log).length (0, 0)) (List.replicate (nums R.log).length false) ((nums R.log).map R.v0) [] [] nv gv fv nilS nilS h') := by
  have hlen : R.log.length <= 65536 := Nat.le_trans ok.len ok.most
  have hnl : ∀ k, (nums (R.log.take k)).length <= 65536 := fun k => by
    have h1 := nums_len (R.log.take k)
    have h2 := List.length_take_le k R.log
    have h3 : (R.log.take k).length <= R.log.length := by rw [List.length_take]; omega
    omega
  obtain ⟨aL, kL, eL⟩ := m.log.val
  subst eL
  obtain ⟨y, hy⟩ : ∃ y, y = h.size := ⟨_, rfl⟩
  refine CallW.start (n := 62) rfl rfl ?_
  (repeat (first | refine EK.seq ?_ | refine EK.region ?_ | refine ER.done ?_ | refine ER.assign rfl rfl rfl ?_ | refine ER.boxA rfl rfl rfl ?_))
  refine ER.gen (fun h' => Upd (fun _ => False) h h' /\ h'[y]? = some (repOb R.e R.log.length (.slice aL R.log.length kL) lW lY lV) /\ h'.size = h.size + 1) ⟨Upd.push _ _, by rw [hy]; exact get_push_new _ _, Array.size_push ..⟩ ?_
  rw [<- hy]
  rintro h1 ⟨u1, gy, s1⟩
  refine ER.loadN (vs := repL R.e R.log.length (.slice aL R.log.length kL) lW lY lV) rfl rfl rfl rfl (hrow_block (rest := []) (by rw [List.append_nil]; exact gy)) ?_
  refine ER.buildS (cells := (wkL R.e R.log.length (.slice aL R.log.length kL) lW lY lV ⟨[], [], nilS, nilS, nilS, nilS, nilS⟩).toArray) rfl rfl (by rfl) (by kernel_rfl) ?_
  (repeat (first | refine EK.seq ?_ | refine EK.region ?_ | refine ER.done ?_ | refine EK.block ?_ | refine ER.assign rfl rfl rfl ?_ | refine ER.boxA rfl rfl rfl ?_))
  obtain ⟨W, hW⟩ : ∃ W, W = h1.size := ⟨_, rfl⟩
  rw [<- hW]
  have no : ∀ (P : Prop) (b : Nat), blk nilS = some b -> P := fun P b hb => by cases hb
  refine EK.gen (fun h' => WkR R (.slice aL R.log.length kL) lW lY lV h W [] [] [] [] [] nilS nilS nilS nilS nilS h' /\ h'[y]? = some (repOb R.e R.log.length (.slice aL R.log.length kL) lW lY lV)) ⟨⟨u1.trans (Upd.push _ _), by rw [hW]; exact get_push_new _ _, SliceO.nil, SliceO.nil, SliceO.nil, SliceO.nil, SliceO.nil, by omega, fun b => no _ b, fun b => no _ b, fun b => no _ b, fun b => no _ b, fun b => no _ b, fun b => no _ b, fun b => no _ b⟩, get_push _ gy⟩ ?_
  rintro h2 ⟨I, gy⟩
  clear u1 hW s1 hy
  refine EK.loopInv (fun q : Nat × Value × Value × Value => [(4, .int .i64 q.1), (3, ptr W), (1, ptr y)]) (fun q h' δ' => δ' = δ /\ q.1 <= R.log.length /\ WkR R (.slice aL R.log.length kL) lW lY lV h W (List.replicate (nums (R.log.take q.1)).length (0, 0)) (List.replicate (nums (R.log.take q.1)).length false) ((nums (R.log.take q.1)).map R.v0) [] [] q.2.1 q.2.2.1 q.2.2.2 nilS nilS h' /\ h'[y]? = some (repOb R.e R.log.length (.slice aL R.log.length kL) lW lY lV)) (fun q => R.log.length - q.1) (0, nilS, nilS, nilS) ⟨rfl, rfl, rfl, trivial⟩ ⟨rfl, Nat.zero_le _, I, gy⟩ ?_
  clear I gy
  rintro ⟨k, nv, gv, fv⟩ h3 δ3 ⟨hδ, hk, I, gy⟩ again
  dsimp only at hδ hk I again ⊢
  subst hδ
  have c2 : hcell h3 ⟨y, 2, none⟩ = some (.slice aL R.log.length kL) := hcell_of gy rfl
  by_cases hin : k < R.log.length
  · obtain ⟨e, he⟩ : ∃ e, R.log[k]? = some e := ⟨_, List.getElem?_eq_getElem hin⟩
    obtain ⟨bL, ea, hrow, -⟩ := slice_row (entL_len (nums R.log)) (m.log.upd I.up (fun _ _ x => x)) he
    subst ea
    obtain ⟨i1, i2, i3, i4⟩ := idx_at he
    obtain ⟨w, i, r, cw, hr, e1, ch2⟩ := ok.chain.inv he
    have hwas : e.b ∉ nums (R.log.take k) -> e.was = R.v0 e.b := fun hn => by
      subst e1
      exact cw.first hn
    have w2 : hcell h3 ⟨bL, 0 + k * 8 + 2, none⟩ = some (.int .i64 ((nums R.log).idxOf e.b : Nat)) := hrow 2 _ rfl
    have hnk := hnl k
    have c10 : hcell h3 ⟨W, 10, none⟩ = some fv := hcell_of I.row rfl
    obtain ⟨aF, kF, eF⟩ := I.fst.val
    rw [List.length_map] at eF
    subst eF
    clear cw hr e1 ch2
    generalize (nums R.log).idxOf e.b = ix at i1 i2 i3 i4 w2
    (repeat (first | refine EK.seq ?_ | refine EK.region ?_ | refine ER.done ?_ | refine EK.skip ?_ | refine EK.block ?_ | refine ER.move rfl rfl rfl ?_ | refine ER.fieldAddr rfl rfl rfl ?_ | refine ER.load1 rfl rfl rfl (hcell_of (by assumption) rfl) ?_ | refine ER.cmpT rfl rfl rfl rfl rfl (by first | (dsimp only [cmpP]; omega) | exact rfl | exact Int.le_refl _) ?_ | refine ER.len1 rfl rfl rfl ?_ | refine EK.condT rfl ?_))
    refine EK.regionAny (fun h' => h' = h3) ?_
    have hZ : h3 = h3 := rfl
    refine EA.tField 0 rfl (by kernel_rfl) rfl rfl rfl rfl hZ ?_
    refine EA.tLoad 1 rfl (by kernel_rfl) rfl rfl rfl rfl (fun _ hz => (by rw [hz]; exact c2)) hZ ?_
    refine EA.tMove 2 rfl (by kernel_rfl) rfl rfl rfl rfl hZ ?_
    refine EA.tIdxS 3 rfl (by kernel_rfl) rfl rfl rfl rfl rfl (by omega) (by omega) hZ ?_
    refine EA.tField 4 rfl (by kernel_rfl) rfl rfl rfl rfl hZ ?_
    refine EA.tLoad 5 rfl (by kernel_rfl) rfl rfl rfl rfl (fun _ hz => (by rw [hz]; exact w2)) hZ ?_
    refine EA.tMove 6 rfl (by kernel_rfl) rfl rfl rfl rfl hZ ?_
    refine EA.tNil 7 rfl (by kernel_rfl) rfl rfl rfl rfl hZ ?_
    refine EA.tField 8 rfl (by kernel_rfl) rfl rfl rfl rfl hZ ?_
    refine EA.tLoad 9 rfl (by kernel_rfl) rfl rfl rfl rfl (fun _ hz => (by rw [hz]; exact c10)) hZ ?_
    refine EA.tLen1 10 rfl (by kernel_rfl) rfl rfl rfl rfl hZ ?_
    rcases i4 with ⟨j1, j2, j3⟩ | ⟨j1, j2, j3⟩
    · refine EA.tCmpF 11 rfl (by kernel_rfl) rfl rfl rfl rfl rfl rfl (by first | (dsimp only [cmpP]; omega) | exact rfl | exact Int.le_refl _) hZ ?_
      refine EA.done (by kernel_rfl) ?_
      clear hZ
      (repeat (first | refine EK.region ?_ | refine ER.done ?_ | refine EK.skip ?_ | refine EK.inBlock ?_ | refine ER.move rfl rfl rfl ?_ | refine ER.assign rfl rfl rfl ?_ | refine ER.add (kd := .i64) rfl rfl rfl rfl (i64_in (by omega) (by omega)) ?_ | refine EK.condF rfl ?_))
      exact EK.back (again (k + 1, nv, gv, _) _ _ (by dsimp only; omega) ⟨rfl, by dsimp only; omega, by dsimp only; rw [j2]; exact I, gy⟩) ⟨rfl, rfl, rfl, trivial⟩
    · refine EA.tCmpT 11 rfl (by kernel_rfl) rfl rfl rfl rfl rfl rfl (by first | (dsimp only [cmpP]; omega) | exact rfl | exact Int.le_refl _) hZ ?_
      refine EA.done (by kernel_rfl) ?_
      clear hZ c2 c10 hrow w2
      have b1 : (nums (R.log.take (k + 1))).length = (nums (R.log.take k)).length + 1 := by rw [j2, List.length_append]; rfl
      obtain ⟨aN, kN, eN⟩ := I.nms.val
      rw [List.length_replicate] at eN
      subst eN
      have c8 : hcell h3 ⟨W, 8, none⟩ = some (.slice aN (nums (R.log.take k)).length kN) := hcell_of I.row rfl
      (repeat (first | refine EK.seq ?_ | refine EK.region ?_ | refine ER.move rfl rfl rfl ?_ | refine ER.nilCheck rfl rfl rfl ?_ | refine ER.fieldAddr rfl rfl rfl ?_ | refine EK.condT rfl ?_ | refine ER.load1 rfl rfl rfl (by assumption) ?_))
      refine ER.buildS (cells := #[.int .i64 0, .int .i64 0]) rfl rfl (by rfl) (by rfl) ?_
      refine ER.slice1 (sz := 2) (z := .agg #[.int .i64 0, .int .i64 0]) (cells := #[.int .i64 0, .int .i64 0]) rfl rfl rfl (by omega) (by omega) rfl rfl ?_
      have I1 := I.upd0 (Upd.push h3 (.cells #[.int .i64 0, .int .i64 0] 210))
      have gy1 := get_push (o := .cells #[.int .i64 0, .int .i64 0] 210) gy
      have sl1 := I1.nms
      rw [List.length_replicate] at sl1
      refine ER.append1 (new := [.int .i64 0, .int .i64 0]) rfl rfl rfl rfl sl1 (get_push_new _ _) rfl (by simp [OneCell]) (by omega) (by omega) (by rfl) (fun _ _ _ x => x) ?_
      generalize h3.push (.cells #[.int .i64 0, .int .i64 0] 210) = h4 at I1 gy1 sl1 ⊢
      intro s4 h5 sl4 u4 hb4
      have ky := I1.keep gy1 (by decide) (by decide) (by decide) (by decide)
      have I2 := I1.app_nms (x := (0, 0)) u4 (by rw [List.length_replicate]; exact sl4) (fun b hb => (hb4 b hb).imp id (fun e => Nat.le_of_eq e.symm))
      have gy2 := u4.get gy1 ky.2.1
      have gyW : ∀ v j, (hset h5 ⟨W, j, none⟩ v)[y]? = h5[y]? := fun v j => hset_ne _ _ _ (Ne.symm ky.1)
      have o5 : ∃ v, hcell h5 ⟨W, 0 + 8, none⟩ = some v /\ hfroz h5 ⟨W, 0 + 8, none⟩ = false := by
        have o1 := u4.get I1.row (fun hx => sliceO_ne I1.nms I1.row (by decide) W hx rfl)
        exact ⟨_, hcell_of o1 rfl, hfroz_of o1⟩
      obtain ⟨v5, o5, f5⟩ := o5
      obtain ⟨a4, k4, e4⟩ := sl4.val
      (repeat (first | refine ER.nilCheck rfl rfl rfl ?_ | refine ER.fieldAddr rfl rfl rfl ?_))
      refine ER.store1 rfl rfl rfl (by rw [e4]; exact ⟨nofun, nofun⟩) ⟨_, o5⟩ f5 (fun x => x) ?_
      have gy3 : (hset h5 ⟨W, 8, none⟩ s4)[y]? = _ := (gyW s4 8).trans gy2
      change ER _ _ _ _ _ _ _ _ _ _ (hset h5 ⟨W, 8, none⟩ s4) _ _
      generalize hset h5 ⟨W, 8, none⟩ s4 = h6 at I2 gy3 ⊢
      clear I I1 gy gy1 gy2 gyW sl1 sl4 u4 hb4 ky o5 f5 c8 e4 a4 k4
      obtain ⟨aG, kG, eG⟩ := I2.giv.val
      rw [List.length_replicate] at eG
      subst eG
      have c9 : hcell h6 ⟨W, 9, none⟩ = some (.slice aG (nums (R.log.take k)).length kG) := hcell_of I2.row rfl
      (repeat (first | refine EK.seq ?_ | refine EK.region ?_ | refine ER.done ?_ | refine ER.move rfl rfl rfl ?_ | refine ER.nilCheck rfl rfl rfl ?_ | refine ER.fieldAddr rfl rfl rfl ?_ | refine ER.load1 rfl rfl rfl (by assumption) ?_))
      refine ER.slice1 (sz := 1) (z := .bool false) (cells := #[.bool false]) rfl rfl rfl (by omega) (by omega) rfl rfl ?_
      have I1 := I2.upd0 (Upd.push h6 (.cells #[.bool false] 4))
      have gy1 := get_push (o := .cells #[.bool false] 4) gy3
      have sl1 := I1.giv
      rw [List.length_replicate] at sl1
      refine ER.append1 (new := [.bool false]) rfl rfl rfl rfl sl1 (get_push_new _ _) rfl (by simp [OneCell]) (by omega) (by omega) (by rfl) (fun _ _ _ x => x) ?_
      generalize h6.push (.cells #[.bool false] 4) = h7 at I1 gy1 sl1 ⊢
      intro s5 h8 sl5 u5 hb5
      have ky := I1.keep gy1 (by decide) (by decide) (by decide) (by decide)
      have I3 := I1.app_giv (x := false) u5 (by rw [List.length_replicate]; exact sl5) (fun b hb => (hb5 b hb).imp id (fun e => Nat.le_of_eq e.symm))
      have gy2 := u5.get gy1 ky.2.2.1
      have gyW : ∀ v j, (hset h8 ⟨W, j, none⟩ v)[y]? = h8[y]? := fun v j => hset_ne _ _ _ (Ne.symm ky.1)
      have o5 : ∃ v, hcell h8 ⟨W, 0 + 9, none⟩ = some v /\ hfroz h8 ⟨W, 0 + 9, none⟩ = false := by
        have o1 := u5.get I1.row (fun hx => sliceO_ne I1.giv I1.row (by decide) W hx rfl)
        exact ⟨_, hcell_of o1 rfl, hfroz_of o1⟩
      obtain ⟨v5, o5, f5⟩ := o5
      obtain ⟨a4, k4, e4⟩ := sl5.val
      (repeat (first | refine ER.nilCheck rfl rfl rfl ?_ | refine ER.fieldAddr rfl rfl rfl ?_))
      refine ER.store1 rfl rfl rfl (by rw [e4]; exact ⟨nofun, nofun⟩) ⟨_, o5⟩ f5 (fun x => x) ?_
      have gy3' : (hset h8 ⟨W, 9, none⟩ s5)[y]? = _ := (gyW s5 9).trans gy2
      change ER _ _ _ _ _ _ _ _ _ _ (hset h8 ⟨W, 9, none⟩ s5) _ _
      generalize hset h8 ⟨W, 9, none⟩ s5 = h9 at I3 gy3' ⊢
      clear I2 I1 gy1 gy2 gyW sl1 sl5 u5 hb5 ky o5 f5 c9 e4 a4 k4 gy3
      have c10 : hcell h9 ⟨W, 10, none⟩ = some (.slice aF (nums (R.log.take k)).length kF) := hcell_of I3.row rfl
      have c2 : hcell h9 ⟨y, 2, none⟩ = some (.slice (some ⟨bL, 0, none⟩) R.log.length kL) := hcell_of gy3' rfl
      obtain ⟨bL', ea, hrow, -⟩ := slice_row (entL_len (nums R.log)) (m.log.upd I3.up (fun _ _ x => x)) he
      injection ea with ea
      injection ea with ea
      subst ea
      have w5 : hcell h9 ⟨bL, 0 + k * 8 + 5, none⟩ = some (.int .i64 e.was) := hrow 5 _ rfl
      (repeat refine ER.done ?_)
      refine EK.regionAnyL (fun h' => hcell h' ⟨W, 10, none⟩ = some (.slice aF (nums (R.log.take k)).length kF) /\ hcell h' ⟨y, 2, none⟩ = some (.slice (some ⟨bL, 0, none⟩) R.log.length kL) /\ hcell h' ⟨bL, 0 + k * 8 + 5, none⟩ = some (.int .i64 e.was)) 15 ?_
      have hZ : _ /\ _ /\ _ := And.intro c10 ⟨c2, w5⟩
      refine EA.tMove 0 rfl (by kernel_rfl) rfl rfl rfl rfl hZ ?_
      refine EA.tMove 1 rfl (by kernel_rfl) rfl rfl rfl rfl hZ ?_
      refine EA.tNil 2 rfl (by kernel_rfl) rfl rfl rfl rfl hZ ?_
      refine EA.tField 3 rfl (by kernel_rfl) rfl rfl rfl rfl hZ ?_
      refine EA.tLoad 4 rfl (by kernel_rfl) rfl rfl rfl rfl (fun _ hz => hz.1) hZ ?_
      refine EA.tField 5 rfl (by kernel_rfl) rfl rfl rfl rfl hZ ?_
      refine EA.tLoad 6 rfl (by kernel_rfl) rfl rfl rfl rfl (fun _ hz => hz.2.1) hZ ?_
      refine EA.tMove 7 rfl (by kernel_rfl) rfl rfl rfl rfl hZ ?_
      refine EA.tIdxS 8 rfl (by kernel_rfl) rfl rfl rfl rfl rfl (by omega) (by omega) hZ ?_
      refine EA.tField 9 rfl (by kernel_rfl) rfl rfl rfl rfl hZ ?_
      refine EA.tLoad 10 rfl (by kernel_rfl) rfl rfl rfl rfl (fun _ hz => hz.2.2) hZ ?_
      have up := Upd.push (T := fun _ => False) h9 (.cells #[.int .i64 e.was] 2)
      have hZ5 : _ /\ _ /\ _ := And.intro (up.hcell hZ.1 (fun x => x)) ⟨up.hcell hZ.2.1 (fun x => x), up.hcell hZ.2.2 (fun x => x)⟩
      refine EA.val (v := .slice (some ⟨h9.size, 0, none⟩) 1 1) (h' := h9.push (.cells #[.int .i64 e.was] 2)) 11 rfl (by kernel_rfl) rfl rfl rfl (fun ρ Q X hρ hq => sem_slice1 (sz := 1) hρ rfl (by omega) (by omega) rfl rfl hq) hZ5 ?_
      have I1 := I3.upd0 up
      have gy1 := get_push (o := .cells #[.int .i64 e.was] 2) gy3'
      have sl1 := I1.fst
      rw [List.length_map] at sl1
      refine EA.append1 (new := [.int .i64 e.was]) 12 rfl (by kernel_rfl) rfl rfl rfl rfl rfl sl1 (get_push_new _ _) rfl (by simp [OneCell]) (by omega) (by omega) rfl (fun _ _ _ x => x) ?_
      intro s6 h11 sl6 u6 hb6
      have ky := I1.keep gy1 (by decide) (by decide) (by decide) (by decide)
      have I4 := I1.app_fst (x := e.was) u6 (by rw [List.length_map]; exact sl6) (fun b hb => (hb6 b hb).imp id (fun e => Nat.le_of_eq e.symm))
      have gy2 := u6.get gy1 ky.2.2.2.1
      have o1 := u6.get I1.row (fun hx => sliceO_ne I1.fst I1.row (by decide) W hx rfl)
      have nb : ¬ blk (.slice aF (nums (R.log.take k)).length kF) = some bL := fun hx => by
        have := (m.log.upd I1.up (fun _ _ x => x))
        exact sliceO_two this I1.fst (by decide) bL rfl (by rw [hx])
      have hZ : _ /\ _ /\ _ := And.intro (hcell_of o1 rfl : hcell h11 ⟨W, 10, none⟩ = some (.slice aF (nums (R.log.take k)).length kF)) ⟨(hcell_of gy2 rfl : hcell h11 ⟨y, 2, none⟩ = some (.slice (some ⟨bL, 0, none⟩) R.log.length kL)), u6.hcell hZ5.2.2 nb⟩
      refine ⟨hZ, ?_⟩
      obtain ⟨a4, k4, e4⟩ := sl6.val
      refine EA.val 13 rfl (by kernel_rfl) rfl rfl rfl (fun ρ Q X hρ hq => sem_nilCheck (hρ _ _ rfl) hq) hZ ?_
      refine EA.tField 14 rfl (by kernel_rfl) rfl rfl rfl rfl hZ ?_
      refine EA.unitL (h' := hset h11 ⟨W, 10, none⟩ s6) 15 rfl (by kernel_rfl) rfl rfl rfl (fun ρ Q X hρ hq => sem_store1 (hρ _ _ rfl) (hρ _ _ rfl) (by rw [e4]; exact ⟨nofun, nofun⟩) ⟨_, hZ.1⟩ (hfroz_of o1) (fun x => x) hq) ?_
      refine EA.done (by kernel_rfl) ?_
      have gy3 : (hset h11 ⟨W, 10, none⟩ s6)[y]? = _ := (hset_ne _ _ _ (Ne.symm ky.1)).trans gy2
      (repeat (first | refine EK.region ?_ | refine ER.done ?_ | refine EK.inBlock ?_ | refine ER.move rfl rfl rfl ?_ | refine ER.assign rfl rfl rfl ?_ | refine ER.add (kd := .i64) rfl rfl rfl rfl (i64_in (by omega) (by omega)) ?_))
      refine EK.back (again (k + 1, s4, s5, s6) _ _ (by dsimp only; omega) ⟨rfl, by dsimp only; omega, ?_, gy3⟩) ⟨rfl, rfl, rfl, trivial⟩
      dsimp only
      rw [b1, j2, List.map_append, List.replicate_succ', List.replicate_succ']
      have : [e.b].map R.v0 = [e.was] := by rw [hwas j1]; rfl
      rw [this]
      exact I4
  · obtain rfl : k = R.log.length := by omega
    (repeat (first | refine EK.seq ?_ | refine EK.region ?_ | refine ER.done ?_ | refine ER.move rfl rfl rfl ?_ | refine ER.assign rfl rfl rfl ?_ | refine ER.fieldAddr rfl rfl rfl ?_ | refine ER.load1 rfl rfl rfl (hcell_of (by assumption) rfl) ?_ | refine ER.cmpF rfl rfl rfl rfl rfl (by first | (dsimp only [cmpP]; omega) | exact rfl | exact Int.le_refl _) ?_ | refine ER.len1 rfl rfl rfl ?_ | refine EK.condF rfl ?_ | refine EK.ret ?_ | refine EK.exit rfl ?_))
    rw [List.take_length] at I
    exact EU.ret1 rfl rfl ⟨rfl, W, nv, gv, fv, rfl, I⟩
end
end
section
open Go Go.TJ Go.Conc Go.Proofs
section
variable {Γ : Type} {main : Bool} {S : Sit Γ} {δ : Ix Γ} {R : Rec} {lL lW lY lV sP : Value} {h0 h h1 h' : Hp} {W : Nat} {nl : List Nme} {gl : List Bool} {fl : List Int} {hl : List Nme} {ol : List Int} {nv gv fv hv ov s' : Value} {picks : List Int} {X : Us} {nm : Nat -> Nme}
set_option maxHeartbeats 16000000 in
set_option maxRecDepth 8000 in
theorem have_ok {n : Nme} {v : Int} (I : WkR R lL lW lY lV h0 W nl gl fl hl ol nv gv fv hv ov h) (hh : hl.length <= 5000) (ho : ol.length = hl.length) :
    CallW Try.prog main (NoS (Γ := Γ)) 82 #[ptr W, nmeV n, .int .i64 v] h δ (Ret fun _ h' δ' => δ' = δ /\ ∃ hv' ov', WkR R lL lW lY lV h0 W nl gl fl (hl ++ [n]) (ol ++ [v]) nv gv fv hv' ov' h' /\
      ∀ (y : Nat) (a : Array Value) (t : TypeId), h[y]? = some (.cells a t (0, 0)) -> t ≠ 66 -> t ≠ 210 -> t ≠ 4 -> t ≠ 2 -> h'[y]? = some (.cells a t (0, 0))) := by
  obtain ⟨y, hy⟩ : ∃ y, y = h.size := ⟨_, rfl⟩
  obtain ⟨aH, kH, eH⟩ := I.hav.val
  obtain ⟨aO, kO, eO⟩ := I.hol.val
  subst eH eO
  refine CallW.start (n := 26) rfl rfl ?_
  (repeat (first | refine EK.seq ?_ | refine EK.region ?_ | refine ER.done ?_ | refine ER.boxA rfl rfl rfl ?_))
  refine EK.gen (fun h' => WkR R lL lW lY lV h0 W nl gl fl hl ol nv gv fv (.slice aH hl.length kH) (.slice aO ol.length kO) h' /\ h'[y]? = some (nmeO n) /\ ∀ (y : Nat) (a : Array Value) (t : TypeId), h[y]? = some (.cells a t (0, 0)) -> h'[y]? = some (.cells a t (0, 0))) ⟨I.upd0 (Upd.push _ _), by rw [hy]; exact get_push_new _ _, fun y a t hy => get_push _ hy⟩ ?_
  rw [<- hy]
  have lH : ∀ b, blk (.slice aH hl.length kH) = some b -> b < y := fun b hb => by rw [hy]; exact I.hav.lt hb
  clear I hy
  have yH : ¬ blk (.slice aH hl.length kH) = some y := fun hx => by have := lH y hx; omega
  rintro h1 ⟨I, gy, old⟩
  have c11 : hcell h1 ⟨W, 11, none⟩ = some (.slice aH hl.length kH) := hcell_of I.row rfl
  have rY : TJ.hrow h1 y 0 (nmeL n) := hrow_block (rest := []) (by rw [List.append_nil]; exact gy)
  refine EK.regionAnyL (fun h' => hcell h' ⟨W, 11, none⟩ = some (.slice aH hl.length kH) /\ TJ.hrow h' y 0 (nmeL n)) 10 ?_
  have hZ : _ /\ _ := And.intro c11 rY
  refine EA.tMove 0 rfl (by kernel_rfl) rfl rfl rfl rfl hZ ?_
  refine EA.tMove 1 rfl (by kernel_rfl) rfl rfl rfl rfl hZ ?_
  refine EA.tNil 2 rfl (by kernel_rfl) rfl rfl rfl rfl hZ ?_
  refine EA.tField 3 rfl (by kernel_rfl) rfl rfl rfl rfl hZ ?_
  refine EA.tLoad 4 rfl (by kernel_rfl) rfl rfl rfl rfl (fun _ hz => hz.1) hZ ?_
  refine EA.tLoadN (vs := nmeL n) 5 rfl (by kernel_rfl) rfl rfl rfl rfl rfl (fun _ hz => hz.2) hZ ?_
  have up := Upd.push (T := fun _ => False) h1 (.cells #[.int .i64 n.1, .int .i64 n.2] 210)
  have hZ5 : _ /\ _ := And.intro (up.hcell hZ.1 (fun x => x)) (fun j v hv => up.hcell (hZ.2 j v hv) (fun x => x) : TJ.hrow _ y 0 (nmeL n))
  refine EA.val (v := .slice (some ⟨h1.size, 0, none⟩) 1 1) (h' := h1.push (.cells #[.int .i64 n.1, .int .i64 n.2] 210)) 6 rfl (by kernel_rfl) rfl rfl rfl (fun ρ Q X hρ hq => sem_slice1 (sz := 2) hρ rfl (by omega) (by omega) rfl rfl hq) hZ5 ?_
  have I1 := I.upd0 up
  have old1 : ∀ (y : Nat) (a : Array Value) (t : TypeId), h[y]? = some (.cells a t (0, 0)) -> (h1.push (.cells #[.int .i64 n.1, .int .i64 n.2] 210))[y]? = some (.cells a t (0, 0)) := fun y a t hy => get_push _ (old y a t hy)
  have gy1 := get_push (o := .cells #[.int .i64 n.1, .int .i64 n.2] 210) gy
  have sl1 := I1.hav
  have yl := lt_of_get gy
  refine EA.append1 (new := [.int .i64 n.1, .int .i64 n.2]) 7 rfl (by kernel_rfl) rfl rfl rfl rfl rfl sl1 (get_push_new _ _) rfl (by simp [OneCell]) (by omega) (by omega) rfl (fun _ _ _ x => x) ?_
  intro s6 h3 sl6 u6 hb6
  have hne : ¬ blk (.slice aH hl.length kH) = some y := yH
  have I2 := I1.app_hav (x := n) u6 sl6 (fun b hb => (hb6 b hb).imp id (fun e => Nat.le_of_eq e.symm))
  have o1 := u6.get I1.row (fun hx => sliceO_ne I1.hav I1.row (by decide) W hx rfl)
  have hZ : _ /\ _ := And.intro (hcell_of o1 rfl : hcell h3 ⟨W, 11, none⟩ = some (.slice aH hl.length kH)) (fun j v hv => u6.hcell (hZ5.2 j v hv) hne : TJ.hrow h3 y 0 (nmeL n))
  refine ⟨hZ, ?_⟩
  obtain ⟨a4, k4, e4⟩ := sl6.val
  refine EA.val 8 rfl (by kernel_rfl) rfl rfl rfl (fun ρ Q X hρ hq => sem_nilCheck (hρ _ _ rfl) hq) hZ ?_
  refine EA.tField 9 rfl (by kernel_rfl) rfl rfl rfl rfl hZ ?_
  refine EA.unitL (h' := hset h3 ⟨W, 11, none⟩ s6) 10 rfl (by kernel_rfl) rfl rfl rfl (fun ρ Q X hρ hq => sem_store1 (hρ _ _ rfl) (hρ _ _ rfl) (by rw [e4]; exact ⟨nofun, nofun⟩) ⟨_, hZ.1⟩ (hfroz_of o1) (fun x => x) hq) ?_
  refine EA.done (by kernel_rfl) ?_
  have old2 : ∀ (y : Nat) (a : Array Value) (t : TypeId), h[y]? = some (.cells a t (0, 0)) -> t ≠ 66 -> t ≠ 210 -> t ≠ 4 -> t ≠ 2 -> (hset h3 ⟨W, 11, none⟩ s6)[y]? = some (.cells a t (0, 0)) := fun y a t hy q1 q2 q3 q4 => by
    have ky := I1.keep (old1 y a t hy) q1 q2 q3 q4
    exact (hset_ne _ _ _ (Ne.symm ky.1)).trans (u6.get (old1 y a t hy) ky.2.2.2.2.1)
  generalize hset h3 ⟨W, 11, none⟩ s6 = h4 at I2 old2 ⊢
  clear hZ hZ5 I I1 gy gy1 old old1 up sl1 sl6 u6 hb6 hne o1 c11 rY e4 a4 k4 yH yl
  have c12 : hcell h4 ⟨W, 12, none⟩ = some (.slice aO ol.length kO) := hcell_of I2.row rfl
  (repeat (first | refine EK.region ?_ | refine ER.move rfl rfl rfl ?_ | refine ER.nilCheck rfl rfl rfl ?_ | refine ER.fieldAddr rfl rfl rfl ?_ | refine ER.load1 rfl rfl rfl (by assumption) ?_))
  refine ER.slice1 (sz := 1) (z := .int .i64 0) (cells := #[.int .i64 v]) rfl rfl rfl (by omega) (by omega) rfl rfl ?_
  have I1 := I2.upd0 (Upd.push h4 (.cells #[.int .i64 v] 2))
  have sl1 := I1.hol
  refine ER.append1 (new := [.int .i64 v]) rfl rfl rfl rfl sl1 (get_push_new _ _) rfl (by simp [OneCell]) (by omega) (by omega) (by rfl) (fun _ _ _ x => x) ?_
  have old3 : ∀ (y : Nat) (a : Array Value) (t : TypeId), h[y]? = some (.cells a t (0, 0)) -> t ≠ 66 -> t ≠ 210 -> t ≠ 4 -> t ≠ 2 -> (h4.push (.cells #[.int .i64 v] 2))[y]? = some (.cells a t (0, 0)) := fun y a t hy q1 q2 q3 q4 => get_push _ (old2 y a t hy q1 q2 q3 q4)
  generalize h4.push (.cells #[.int .i64 v] 2) = h5 at I1 sl1 old3 ⊢
  intro s7 h6 sl7 u7 hb7
  have I3 := I1.app_hol (x := v) u7 sl7 (fun b hb => (hb7 b hb).imp id (fun e => Nat.le_of_eq e.symm))
  have o5 : ∃ v, hcell h6 ⟨W, 0 + 12, none⟩ = some v /\ hfroz h6 ⟨W, 0 + 12, none⟩ = false := by
    have o1 := u7.get I1.row (fun hx => sliceO_ne I1.hol I1.row (by decide) W hx rfl)
    exact ⟨_, hcell_of o1 rfl, hfroz_of o1⟩
  obtain ⟨v5, o5, f5⟩ := o5
  obtain ⟨a4, k4, e4⟩ := sl7.val
  (repeat (first | refine ER.nilCheck rfl rfl rfl ?_ | refine ER.fieldAddr rfl rfl rfl ?_))
  refine ER.store1 rfl rfl rfl (by rw [e4]; exact ⟨nofun, nofun⟩) ⟨_, o5⟩ f5 (fun x => x) ?_
  have old4 : ∀ (y : Nat) (a : Array Value) (t : TypeId), h[y]? = some (.cells a t (0, 0)) -> t ≠ 66 -> t ≠ 210 -> t ≠ 4 -> t ≠ 2 -> (hset h6 ⟨W, 12, none⟩ s7)[y]? = some (.cells a t (0, 0)) := fun y a t hy q1 q2 q3 q4 => by
    have ky := I1.keep (old3 y a t hy q1 q2 q3 q4) q1 q2 q3 q4
    exact (hset_ne _ _ _ (Ne.symm ky.1)).trans (u7.get (old3 y a t hy q1 q2 q3 q4) ky.2.2.2.2.2)
  (repeat refine ER.done ?_)
  exact EK.done (EU.ret0 rfl ⟨rfl, _, _, I3, old4⟩)
set_option maxRecDepth 8000 in
theorem of_ok {i : Nat} : CallW Try.prog main S 22 #[ptr W, .int .i64 i] h δ (Ret fun v h' δ' => δ' = δ /\ ∃ x, v = ptr x /\ x = h.size /\ h'[x]? = some (wrO W i false 0) /\ Upd (fun _ => False) h h') := by
  refine CallW.start (n := 9) rfl rfl ?_
  (repeat (first | refine EK.seq ?_ | refine EK.region ?_ | refine ER.done ?_ | refine ER.move rfl rfl rfl ?_ | refine ER.assign rfl rfl rfl ?_))
  refine ER.buildS (cells := #[ptr W, .int .i64 i, .bool false, .int .i64 0]) rfl rfl (by rfl) (by rfl) ?_
  (repeat (first | refine ER.done ?_ | refine ER.assign rfl rfl rfl ?_ | refine ER.boxA rfl rfl rfl ?_ | refine EK.ret ?_))
  exact EU.ret1 rfl rfl ⟨rfl, _, rfl, rfl, get_push_new _ _, Upd.push _ _⟩
end
end
section
open Go Go.TJ Go.Conc Go.Proofs
class EqIBI (P : Program) (t : TypeId) (k1 k3 : outParam IntKind) : Prop where
  out : P.stoodInHeld t = false /\ P.eqGuardType P.depth t = false /\ ∃ f1 f2 f3 : Field, P.underlying t = some (.struct #[f1, f2, f3]) /\ f1.name ≠ "_" /\ f2.name ≠ "_" /\ f3.name ≠ "_" /\ f1.offset = 0 /\ f2.offset = 1 /\ f3.offset = 2 /\ P.underlying f1.type = some (.int k1) /\ P.underlying f2.type = some .bool /\ P.underlying f3.type = some (.int k3)
section
variable {Γ : Type} {P : Program} {main : Bool} {S : Sit Γ} {f : FuncId} {n : Nat} {k : List Item} {env : Env} {ds : List Deferred} {h : Hp} {δ : Ix Γ} {R : Post Γ}
variable {ops : Array Oper} {l : List Oper} {d : Nat} {ty : TypeId} {pos : String} {af : Array Edge} {g : Option (Nat × Bool)} {Z : Hp -> Prop} {zz : Nat} {m : Nat} {listed l' : Array Bool}
theorem semW_partB {t : TypeId} {cs : Array Value} {o : Nat} {v : Value} (hu : P.underlying t = some .bool) (hv : cs[o]? = some v) {Q : Value -> Hp -> Ix Γ -> Prop} {X : Value -> Hp -> Ix Γ -> Prop} (hq : Q v h δ) : SemW P S (part t cs o) h δ Q X := by
  unfold part isAgg
  refine semW_bind _ _ _ _ _ _ ?_
  refine semW_underlying hu ?_
  simp only [hv]
  exact hq
theorem semW_eqBool {dd : Nat} {t : TypeId} {a : Bool} (hu : P.underlying t = some .bool) {Q : Bool -> Hp -> Ix Γ -> Prop} {X : Value -> Hp -> Ix Γ -> Prop} (hq : Q true h δ) : SemW P S (Op.equalIn (dd + 1) t (.bool a) (.bool a)) h δ Q X := by
  unfold Op.equalIn
  refine semW_underlying hu ?_
  simp only [beq_self_eq_true]
  exact hq
theorem semW_eqI3 {t : TypeId} {k1 k3 : IntKind} [e : EqIBI P t k1 k3] {a1 a3 : Int} {a2 : Bool} {Q : Bool -> Hp -> Ix Γ -> Prop} {X : Value -> Hp -> Ix Γ -> Prop} (hq : Q true h δ) :
    SemW P S (Op.equal t (.agg #[.int k1 a1, .bool a2, .int k3 a3]) (.agg #[.int k1 a1, .bool a2, .int k3 a3])) h δ Q X := by
  obtain ⟨hs, -, f1, f2, f3, hu, hn1, hn2, hn3, ho1, ho2, ho3, hu1, hu2, hu3⟩ := e.out
  unfold Op.equal Op.maxDepth Op.equalIn
  refine semW_underlying hu ?_
  simp only
  change SemW P S (Sem.bind (Sem.program Sem.pure) _) h δ Q X
  simp only [Sem.bind, SemW, hs]
  rw [if_neg (by simp)]
  rw [<- Array.forIn_toList]
  simp only [List.forIn_cons, List.forIn_nil, hn1, hn2, hn3, ho1, ho2, ho3, ne_eq, not_false_eq_true, if_true]
  refine semW_bind _ _ _ _ _ _ (semW_bind _ _ _ _ _ _ (semW_bind _ _ _ _ _ _ (semW_partI hu1 rfl (semW_bind _ _ _ _ _ _ (semW_partI hu1 rfl (semW_bind _ _ _ _ _ _ (semW_eqInt (dd := 9998) hu1 ?_)))))))
  rw [beq_self_eq_true]
  simp only [Bool.not_true, Bool.false_eq_true, if_false]
  refine semW_pure (Q := _) ?_
  simp only
  refine semW_bind _ _ _ _ _ _ (semW_bind _ _ _ _ _ _ (semW_partB hu2 rfl (semW_bind _ _ _ _ _ _ (semW_partB hu2 rfl (semW_bind _ _ _ _ _ _ (semW_eqBool (dd := 9998) hu2 ?_))))))
  simp only [Bool.not_true, Bool.false_eq_true, if_false]
  refine semW_pure (Q := _) ?_
  simp only
  refine semW_bind _ _ _ _ _ _ (semW_bind _ _ _ _ _ _ (semW_partI hu3 rfl (semW_bind _ _ _ _ _ _ (semW_partI hu3 rfl (semW_bind _ _ _ _ _ _ (semW_eqInt (dd := 9998) hu3 ?_))))))
  rw [beq_self_eq_true]
  exact hq
theorem eqGuard_agg3 {op : BinOp} {t : TypeId} {k1 k3 : IntKind} [e : EqIBI P t k1 k3] {x y : Operand} {a b : Array Value} {Q : Unit -> Hp -> Ix Γ -> Prop} {X : Value -> Hp -> Ix Γ -> Prop} (hq : Q () h δ) : SemW P S (eqGuard op t x y (.agg a) (.agg b)) h δ Q X := by
  obtain ⟨-, hg, -⟩ := e.out
  unfold eqGuard
  have key : SemW P S (do if !(← program).eqGuardType (← program).depth t then return
                          if <- Op.eqGuardIn Op.maxDepth t (.agg a) (.agg b) then unsupported (.noEntry "binop/eql: two nil values of an interface type with methods, in a part of a struct or an array")) h δ Q X := by
    change SemW P S (Sem.bind (Sem.program Sem.pure) fun p => Sem.bind (Sem.program Sem.pure) fun q => if (!p.eqGuardType q.depth t) = true then _ else _) h δ Q X
    simp only [Sem.bind, SemW, hg]
    exact hq
  cases op <;> first | exact hq | exact key
theorem sem_neqA3 {t t2 : TypeId} {k1 k3 : IntKind} [EqIBI P t k1 k3] {x y : Operand} {a1 a3 : Int} {a2 : Bool} {ρ : Operand -> Value} {dst : Option Nat} {Q : Next -> Hp -> Ix Γ -> Prop} {X : Value -> Hp -> Ix Γ -> Prop} (hx : ρ x = .agg #[.int k1 a1, .bool a2, .int k3 a3]) (hy : ρ y = .agg #[.int k1 a1, .bool a2, .int k3 a3]) (hq : Q (.value (.bool false)) h δ) : SemW P S (execOp ρ ⟨dst, .binOp .neq t x y t2, ty, pos, af, g⟩) h δ Q X :=
  semW_binOp (by
    rw [hx, hy]
    exact eqGuard_agg3 (by
      show SemW P S (Op.equal t _ _ >>= fun b => pure (Value.bool (!b))) h δ _ X
      exact semW_bind _ _ _ _ _ _ (semW_eqI3 (by exact hq))))
end
end
section
open Go Go.TJ Go.Conc Go.Proofs
instance : EqIBI Try.prog 116 .i64 .i64 := ⟨by kernel_rfl, by kernel_rfl, _, _, _, Try.underlying116, by decide, by decide, by decide, rfl, rfl, rfl, Try.underlying2, Try.underlying4, Try.underlying34⟩
def nmC (n k : Nat) : Nme := if k = 4 + n then (41, 0) else if k = 5 + n then (42, 0) else (40, ((k - 4 : Nat) : Int))
theorem nmC_inj {n j k : Nat} (hj : csC n j) (hk : csC n k) (h : nmC n j = nmC n k) : j = k := by
  obtain ⟨j1, j2⟩ := hj
  obtain ⟨k1, k2⟩ := hk
  unfold nmC at h
  split at h <;> split at h <;> (try split at h) <;> (try split at h) <;> first | omega | (injection h with h1 h2; omega)
def hsC (pk tk : Int) : List (Nme × Int) := [((41, 0), pk), ((42, 0), tk)]
theorem look_hsC {n : Nat} {pk tk : Int} {k : Nat} (hk : csC n k) : lookN (hsC pk tk) (nmC n k) = v1C n pk tk k := by
  obtain ⟨k1, k2⟩ := hk
  unfold nmC v1C
  by_cases h2 : k = 4 + n
  · rw [if_pos h2, if_pos h2]
    exact lookN_at (k := 0) (fun j z hj hz => by omega) rfl
  · by_cases h3 : k = 5 + n
    · rw [if_neg h2, if_pos h3, if_neg h2, if_pos h3]
      refine lookN_at (k := 1) (fun j z hj hz => ?_) rfl
      obtain rfl : j = 0 := by omega
      injection hz with hz
      subst hz
      exact fun e => by injection e with e1 e2; omega
    · rw [if_neg h2, if_neg h3, if_neg h2, if_neg h3]
      refine lookN_no fun z hz => ?_
      rcases List.mem_cons.1 hz with rfl | hz
      · exact fun e => by injection e with e1 e2; omega
      · obtain rfl := List.mem_singleton.1 hz
        exact fun e => by injection e with e1 e2; omega
section
variable {Γ : Type} {main : Bool} {S : Sit Γ} {δ : Ix Γ} {h : Hp}
abbrev madeL (a pk tk : Int) : List Value := [.int .i64 a, .int .i64 pk, .int .i64 tk]
theorem rpeak_ok : CallW Try.prog main (NoS (Γ := Γ)) 118 #[] h δ (Ret fun v h' δ' => δ' = δ /\ v = nmeV (41, 0) /\ Upd (fun _ => False) h h') := by
  refine CallW.start (n := 2) rfl rfl ?_
  (repeat (first | refine EK.seq ?_ | refine EK.region ?_ | refine ER.done ?_ | refine ER.allocA rfl rfl ?_))
  refine ER.buildS (cells := #[.int .i64 41, .int .i64 0]) rfl rfl (by rfl) (by rfl) ?_
  refine ER.storeN (vs := nmeL (41, 0)) rfl rfl rfl rfl (by simp [nmeL, OneCell]) (nme_all (n := (0, 0)) (get_push_new _ _)) ?_
  rw [hsetRow_push (c := [.int .i64 0, .int .i64 0]) (vs := nmeL (41, 0)) rfl]
  (repeat (first | refine ER.done ?_ | refine EK.ret ?_))
  exact EU.retCell1 (vs := nmeL (41, 0)) rfl rfl rfl (hrow_block (rest := []) (by rw [List.append_nil]; exact get_push_new _ _)) ⟨rfl, rfl, Upd.push _ _⟩
theorem rtick_ok : CallW Try.prog main (NoS (Γ := Γ)) 119 #[] h δ (Ret fun v h' δ' => δ' = δ /\ v = nmeV (42, 0) /\ Upd (fun _ => False) h h') := by
  refine CallW.start (n := 2) rfl rfl ?_
  (repeat (first | refine EK.seq ?_ | refine EK.region ?_ | refine ER.done ?_ | refine ER.allocA rfl rfl ?_))
  refine ER.buildS (cells := #[.int .i64 42, .int .i64 0]) rfl rfl (by rfl) (by rfl) ?_
  refine ER.storeN (vs := nmeL (42, 0)) rfl rfl rfl rfl (by simp [nmeL, OneCell]) (nme_all (n := (0, 0)) (get_push_new _ _)) ?_
  rw [hsetRow_push (c := [.int .i64 0, .int .i64 0]) (vs := nmeL (42, 0)) rfl]
  (repeat (first | refine ER.done ?_ | refine EK.ret ?_))
  exact EU.retCell1 (vs := nmeL (42, 0)) rfl rfl rfl (hrow_block (rest := []) (by rw [List.append_nil]; exact get_push_new _ _)) ⟨rfl, rfl, Upd.push _ _⟩
theorem rstripe_ok {j : Int} : CallW Try.prog main (NoS (Γ := Γ)) 121 #[.int .i64 j] h δ (Ret fun v h' δ' => δ' = δ /\ v = nmeV (40, j) /\ Upd (fun _ => False) h h') := by
  refine CallW.start (n := 5) rfl rfl ?_
  (repeat (first | refine EK.seq ?_ | refine EK.region ?_ | refine ER.done ?_ | refine ER.move rfl rfl rfl ?_ | refine ER.allocA rfl rfl ?_))
  refine ER.buildS (cells := #[.int .i64 40, .int .i64 j]) rfl rfl (by rfl) (by rfl) ?_
  refine ER.storeN (vs := nmeL (40, j)) rfl rfl rfl rfl (by simp [nmeL, OneCell]) (nme_all (n := (0, 0)) (get_push_new _ _)) ?_
  rw [hsetRow_push (c := [.int .i64 0, .int .i64 0]) (vs := nmeL (40, j)) rfl]
  (repeat (first | refine ER.done ?_ | refine EK.ret ?_))
  exact EU.retCell1 (vs := nmeL (40, j)) rfl rfl rfl (hrow_block (rest := []) (by rw [List.append_nil]; exact get_push_new _ _)) ⟨rfl, rfl, Upd.push _ _⟩
end
section
variable {Γ : Type} {main : Bool} {S : Sit Γ} {δ : Ix Γ} {R : Rec} {lL lW lY lV sP : Value} {h0 h h1 h' : Hp} {W n : Nat} {nl : List Nme} {gl : List Bool} {fl : List Int} {nv gv fv : Value}
set_option maxRecDepth 8000 in
set_option maxHeartbeats 4000000 in
theorem gbegin_ok {pk tk : Int} (I : WkR R lL lW lY lV h0 W nl gl fl [] [] nv gv fv nilS nilS h) :
    CallW Try.prog main (NoS (Γ := Γ)) 50 #[ptr W, .agg #[.int .i64 (n : Int), .int .i64 pk, .int .i64 tk]] h δ (Ret fun _ h' δ' => δ' = δ /\ ∃ hv ov, WkR R lL lW lY lV h0 W nl gl fl ((hsC pk tk).map (·.1)) ((hsC pk tk).map (·.2)) nv gv fv hv ov h') := by
  obtain ⟨y, hy⟩ : ∃ y, y = h.size := ⟨_, rfl⟩
  refine CallW.start (n := 14) rfl rfl ?_
  (repeat (first | refine EK.seq ?_ | refine EK.region ?_ | refine ER.done ?_ | refine ER.boxA rfl rfl rfl ?_))
  refine EK.gen (fun h' => WkR R lL lW lY lV h0 W nl gl fl [] [] nv gv fv nilS nilS h' /\ h'[y]? = some (.cells (madeL n pk tk).toArray 107 (0, 0))) ⟨I.upd0 (Upd.push _ _), by rw [hy]; exact get_push_new _ _⟩ ?_
  rw [<- hy]
  clear I hy
  rintro h1 ⟨I, gy⟩
  refine EK.regionAny (fun h' => h'[y]? = some (.cells (madeL n pk tk).toArray 107 (0, 0))) ?_
  have hZ := gy
  refine EA.tMove 0 rfl (by kernel_rfl) rfl rfl rfl rfl hZ ?_
  refine EA.tField 2 rfl (by kernel_rfl) rfl rfl rfl rfl hZ ?_
  refine EA.tLoad 3 rfl (by kernel_rfl) rfl rfl rfl rfl (fun _ hz => (hcell_of hz rfl)) hZ ?_
  refine EA.callR 1 rfl (by kernel_rfl) rfl rfl rfl rfl rfl rfl rpeak_ok ?_
  rintro _ h2 δ2 ⟨rfl, rfl, u2⟩
  replace I := I.upd0 u2
  replace gy := u2.get gy (fun x => x)
  refine ⟨gy, ?_⟩
  clear u2 hZ
  refine EA.callR 4 rfl (by kernel_rfl) rfl rfl rfl rfl rfl rfl (have_ok I (by simp) rfl) ?_
  clear I
  rintro _ h3 δ3 ⟨rfl, hv, ov, I, keep⟩
  replace gy := keep y _ _ gy (by decide) (by decide) (by decide) (by decide)
  refine ⟨gy, EA.done (by kernel_rfl) ?_⟩
  clear keep
  skip
  refine EK.regionAny (fun h' => h'[y]? = some (.cells (madeL n pk tk).toArray 107 (0, 0))) ?_
  have hZ := gy
  refine EA.tMove 0 rfl (by kernel_rfl) rfl rfl rfl rfl hZ ?_
  refine EA.tField 2 rfl (by kernel_rfl) rfl rfl rfl rfl hZ ?_
  refine EA.tLoad 3 rfl (by kernel_rfl) rfl rfl rfl rfl (fun _ hz => (hcell_of hz rfl)) hZ ?_
  refine EA.callR 1 rfl (by kernel_rfl) rfl rfl rfl rfl rfl rfl rtick_ok ?_
  rintro _ h2 δ2 ⟨rfl, rfl, u2⟩
  replace I := I.upd0 u2
  replace gy := u2.get gy (fun x => x)
  refine ⟨gy, ?_⟩
  clear u2 hZ
  refine EA.callR 4 rfl (by kernel_rfl) rfl rfl rfl rfl rfl rfl (have_ok I (by simp) rfl) ?_
  clear I
  rintro _ h3 δ3 ⟨rfl, hv, ov, I, keep⟩
  replace gy := keep y _ _ gy (by decide) (by decide) (by decide) (by decide)
  refine ⟨gy, EA.done (by kernel_rfl) ?_⟩
  clear keep
  skip
  exact EK.done (EU.ret0 rfl ⟨rfl, hv, ov, I⟩)
end
section
variable {Γ : Type} {δ : Ix Γ} {nm : Nat -> Nme} {n : Nat} {B : Nat -> Nat}
theorem ans_all {y : Nat} {a : GAns} {h : Hp} (hy : h[y]? = some (gansO a)) : ∀ j, j < 3 -> (∃ u, hcell h ⟨y, 0 + j, none⟩ = some u) /\ hfroz h ⟨y, 0 + j, none⟩ = false /\ ¬ (NoS (Γ := Γ)).still δ.g ⟨y, 0 + j, none⟩ := fun j hj => by
  refine ⟨?_, hfroz_of hy, fun x => x⟩
  rcases (show j = 0 \/ j = 1 \/ j = 2 by omega) with rfl | rfl | rfl <;> exact ⟨_, hcell_of hy rfl⟩
def NmsC (n : Nat) (B : Nat -> Nat) (nm : Nat -> Nme) : Prop := ∀ k, csC n k -> nm (B k) = nmC n k
theorem NmsC.pk (N : NmsC n B nm) : ((41 : Int), (0 : Int)) = nm (B (4 + n)) := by rw [N (4 + n) ⟨by omega, by omega⟩]; exact (if_pos rfl).symm
theorem NmsC.tk (N : NmsC n B nm) : ((42 : Int), (0 : Int)) = nm (B (5 + n)) := by rw [N (5 + n) ⟨by omega, by omega⟩]; exact ((if_neg (by omega)).trans (if_pos rfl)).symm
theorem NmsC.st (N : NmsC n B nm) {j : Nat} (hj : j < n) : ((40 : Int), (j : Int)) = nm (B (4 + j)) := by
  rw [N (4 + j) ⟨by omega, by omega⟩]
  unfold nmC
  rw [if_neg (by omega), if_neg (by omega), show 4 + j - 4 = j by omega]
end
end
section
open Go Go.TJ Go.Conc Go.Proofs
section
variable {Γ : Type} {main : Bool} {S : Sit Γ} {δ : Ix Γ} {R : Rec} {nm : Nat -> Nme} {lL lW lY lV sP : Value} {h0 h h' : Hp} {W x i t n f : Nat} {B : Nat -> Nat} {s : WS} {picks : List Int} {X : Us} {pf p : Pr GAns} {l : List Ev} {o : List GAns}
set_option maxRecDepth 8000 in
set_option maxHeartbeats 16000000 in
theorem gdoes_w (C : WC X picks R nm lL lW lY lV sP h0 s) (hpf : PF R i pf) {q : GCall} {pk tk : Int} {k : GAns -> Pr GAns} (w : WX R nm lL lW lY lV h0 W s pf x i o (callC n B tk f q k) f h) (N : NmsC n B nm) (hn1 : 1 <= n) (hn : n <= 64) :
    CallW Try.prog main (NoS (Γ := Γ)) 51 #[ptr x, .agg (madeL n pk tk).toArray, .agg (gcallL q).toArray] h δ (Ret fun v h' δ' => δ' = δ /\ RDidX R nm lL lW lY lV h0 W s gansL pf x i o k f h v h') := by
  obtain ⟨d, v0, v⟩ := q
  have wt := w.wt
  have hh0 : h0.size <= h.size := by have := (wt x (.inl rfl)); omega
  obtain ⟨y4, hy4⟩ : ∃ y4, y4 = h.size := ⟨_, rfl⟩
  obtain ⟨y5, hy5⟩ : ∃ y5, y5 = h.size + 1 := ⟨_, rfl⟩
  obtain ⟨y6, hy6⟩ : ∃ y6, y6 = h.size + 1 + 1 := ⟨_, rfl⟩
  refine CallW.start (n := 123) rfl rfl ?_
  have u0 : Upd (fun _ => False) h (((h.push (.cells (madeL n pk tk).toArray 107)).push (.cells (gcallL (d, v0, v)).toArray 119)).push (gansO (0, false, 0))) := ((Upd.push _ _).trans (Upd.push _ _)).trans (Upd.push _ _)
  refine EK.seq ?_
  refine EK.region ?_
  refine ER.box rfl rfl rfl ?_
  refine ER.box rfl rfl rfl ?_
  refine ER.allocA rfl rfl ?_
  refine ER.done ?_
  simp only [Array.size_push]
  refine EK.gen (fun h' => WX R nm lL lW lY lV h0 W s pf x i o (callC n B tk f (d, v0, v) k) f h' /\ Upd (fun _ => False) h h' /\ h'[y4]? = some (.cells (madeL n pk tk).toArray 107 (0, 0)) /\ h'[y5]? = some (.cells (gcallL (d, v0, v)).toArray 119 (0, 0)) /\ h'[y6]? = some (gansO (0, false, 0))) ⟨w.upd0 u0, u0, ?_, ?_, ?_⟩ ?_
  · rw [hy4]; exact get_push _ (get_push _ (get_push_new _ _))
  · have := get_push (o := gansO (0, false, 0)) (get_push_new (h.push (.cells (madeL n pk tk).toArray 107)) (.cells (gcallL (d, v0, v)).toArray 119))
    rw [Array.size_push] at this
    rw [hy5]; exact this
  · have := get_push_new ((h.push (.cells (madeL n pk tk).toArray 107)).push (.cells (gcallL (d, v0, v)).toArray 119)) (gansO (0, false, 0))
    rw [Array.size_push, Array.size_push] at this
    rw [hy6]; exact this
  rw [<- hy6, <- hy5, <- hy4]
  clear w u0
  rintro hh ⟨w, u1, g4, g5, g6⟩
  have n4 : ¬ WT s x y4 := fun hc => by have := (wt _ hc).2; omega
  have n5 : ¬ WT s x y5 := fun hc => by have := (wt _ hc).2; omega
  have n6 : ¬ WT s x y6 := fun hc => by have := (wt _ hc).2; omega
  have uu : Upd (WT s x) h hh := u1.mono (fun _ _ z => z.elim)
  clear u1 wt
  have c50 : hcell hh ⟨y5, 0, none⟩ = some (.int .i64 d) := hcell_of g5 rfl
  by_cases h0' : d = 0
  · subst h0'
    rw [callC0] at w
    unfold addP at w
    (repeat (first | refine EK.seq ?_ | refine EK.region ?_ | refine ER.done ?_ | refine EK.block ?_ | refine ER.assign rfl rfl rfl ?_ | refine ER.fieldAddr rfl rfl rfl ?_ | refine ER.load1 rfl rfl rfl (hcell_of (by assumption) rfl) ?_ | refine ER.cmpT rfl rfl rfl rfl rfl (by first | (dsimp only [cmpP]; omega) | exact rfl | exact Int.le_refl _) ?_ | refine EK.condT rfl ?_))
    clear c50
    refine EK.regionAny (fun h' => h'[y4]? = some (.cells (madeL n pk tk).toArray 107 (0, 0)) /\ h'[y5]? = some (.cells (gcallL (0, v0, v)).toArray 119 (0, 0))) ?_
    have hZ := And.intro g4 g5
    refine EA.tMove 0 rfl (by kernel_rfl) rfl rfl rfl rfl hZ ?_
    refine EA.tField 1 rfl (by kernel_rfl) rfl rfl rfl rfl hZ ?_
    refine EA.tLoad 2 rfl (by kernel_rfl) rfl rfl rfl rfl (fun _ hz => (hcell_of hz.2 rfl)) hZ ?_
    refine EA.tField 3 rfl (by kernel_rfl) rfl rfl rfl rfl hZ ?_
    refine EA.tLoad 4 rfl (by kernel_rfl) rfl rfl rfl rfl (fun _ hz => (hcell_of hz.1 rfl)) hZ ?_
    refine EA.tField 7 rfl (by kernel_rfl) rfl rfl rfl rfl hZ ?_
    refine EA.tLoad 8 rfl (by kernel_rfl) rfl rfl rfl rfl (fun _ hz => (hcell_of hz.2 rfl)) hZ ?_
    refine EA.callD 5 rfl (by kernel_rfl) rfl rfl rfl rfl rfl rfl (place_ok (x := v0) (n := n) (by omega) (by omega)) hZ ?_
    rw [sIx_mod (by omega)]
    refine EA.callR 6 rfl (by kernel_rfl) rfl rfl rfl rfl rfl rfl rstripe_ok ?_
    rintro _ hh δ2 ⟨rfl, rfl, u2⟩
    replace w := w.upd0 u2
    replace uu : Upd (WT s x) h hh := uu.trans (u2.mono (fun _ _ z => z.elim))
    replace g4 := u2.get g4 (fun z => z)
    replace g5 := u2.get g5 (fun z => z)
    replace g6 := u2.get g6 (fun z => z)
    refine ⟨⟨g4, g5⟩, ?_⟩
    clear u2 hZ
    refine EA.callR 9 rfl (by kernel_rfl) rfl rfl rfl rfl rfl rfl (waddX C hpf w (N.st (sIx_lt (by omega) v0))) ?_
    clear w
    rintro _ hh δ2 ⟨rfl, u2, z, rfl, w⟩
    replace uu := uu.trans u2
    replace g4 := u2.get g4 n4
    replace g5 := u2.get g5 n5
    replace g6 := u2.get g6 n6
    refine ⟨⟨g4, g5⟩, EA.done (by kernel_rfl) ?_⟩
    clear u2
    (repeat (first | refine EK.seq ?_ | refine EK.region ?_ | refine EK.inBlock ?_))
    refine ER.buildS (cells := (gansL (0, false, 0)).toArray) rfl rfl (by rfl) (by rfl) ?_
    refine ER.storeN (vs := gansL (0, false, 0)) rfl rfl rfl rfl (by simp [gansL, OneCell]) (ans_all g6) ?_
    rw [row_set (c := gansL (0, false, 0)) (vs := gansL (0, false, 0)) g6 rfl]
    (repeat (first | refine ER.done ?_ | refine EK.ret ?_))
    exact EU.retCell1 (vs := gansL (0, false, 0)) rfl rfl rfl (hrow_block (rest := []) (by rw [List.append_nil]; exact get_set_same g6)) ⟨rfl, upd_then uu (Upd.set (T := fun c => c = y6) _ _ _ rfl) (fun c hc e => by omega), (0, false, 0), rfl, (show WX R nm lL lW lY lV h0 W s pf x i o (k (0, false, 0)) f hh from (w.mono (by omega))).setA g6 (by omega) (by decide) (by decide) (by decide) (by decide) (by decide) _⟩
  by_cases h1' : d = 1
  · subst h1'
    rw [callC1] at w
    (repeat (first | refine EK.seq ?_ | refine EK.region ?_ | refine ER.done ?_ | refine EK.block ?_ | refine ER.assign rfl rfl rfl ?_ | refine ER.fieldAddr rfl rfl rfl ?_ | refine ER.load1 rfl rfl rfl (hcell_of (by assumption) rfl) ?_ | refine ER.cmpT rfl rfl rfl rfl rfl (by first | (dsimp only [cmpP]; omega) | exact rfl | exact Int.le_refl _) ?_ | refine ER.cmpF rfl rfl rfl rfl rfl (by first | (dsimp only [cmpP]; omega) | exact rfl | exact Int.le_refl _) ?_ | refine EK.condT rfl ?_ | refine EK.condF rfl ?_))
    clear c50
    refine EK.loopInv (fun q : Nat × Nat × Int => [(8, .int .i64 q.1), (7, .int .i64 q.2.2), (0, ptr x), (4, ptr y4), (6, ptr y6)]) (fun q h' δ' => δ' = δ /\ q.1 <= n /\ Upd (WT s x) h h' /\ h'[y4]? = some (.cells (madeL n pk tk).toArray 107 (0, 0)) /\ h'[y6]? = some (gansO (0, false, 0)) /\ WX R nm lL lW lY lV h0 W s pf x i o (sumP B (fun v => k (v, false, 0)) (n - q.1) q.1 q.2.2) q.2.1 h' /\ q.2.1 <= f) (fun q => n - q.1) (0, f, 0) ⟨rfl, rfl, rfl, rfl, rfl, trivial⟩ ⟨rfl, Nat.zero_le _, uu, g4, g6, w, Nat.le_refl _⟩ ?_
    clear w uu g4 g5 g6
    rintro ⟨j, m1, sm⟩ hh δ1 ⟨rfl, hj, uu, g4, g6, w, hm1'⟩ again
    dsimp only at hj w hm1' again
    have c4 : hcell hh ⟨y4, 0, none⟩ = some (.int .i64 n) := hcell_of g4 rfl
    by_cases hjn : j < n
    · rw [show n - j = (n - (j + 1)) + 1 by omega] at w
      unfold sumP at w
      (repeat (first | refine EK.seq ?_ | refine EK.region ?_ | refine ER.done ?_ | refine EK.skip ?_ | refine EK.block ?_ | refine ER.move rfl rfl rfl ?_ | refine ER.fieldAddr rfl rfl rfl ?_ | refine ER.load1 rfl rfl rfl (hcell_of (by assumption) rfl) ?_ | refine ER.cmpT rfl rfl rfl rfl rfl (by first | (dsimp only [cmpP]; omega) | exact rfl | exact Int.le_refl _) ?_ | refine EK.condT rfl ?_))
      clear c4
      refine ER.callR rfl rfl rfl rfl rfl rstripe_ok ?_
      rintro _ hh δ2 ⟨rfl, rfl, u2⟩
      replace w := w.upd0 u2
      replace uu : Upd (WT s x) h hh := uu.trans (u2.mono (fun _ _ z => z.elim))
      replace g4 := u2.get g4 (fun z => z)
      replace g6 := u2.get g6 (fun z => z)
      clear u2
      refine ER.callR rfl rfl rfl rfl rfl (wloadX C hpf w (N.st hjn)) ?_
      clear w
      rintro _ hh δ2 ⟨rfl, u2, z, rfl, w⟩
      replace uu := uu.trans u2
      replace g4 := u2.get g4 n4
      replace g6 := u2.get g6 n6
      clear u2
      refine ER.add (r := W64 (sm + z)) rfl rfl rfl rfl rfl ?_
      (repeat (first | refine EK.region ?_ | refine ER.done ?_ | refine EK.inBlock ?_ | refine ER.move rfl rfl rfl ?_ | refine ER.assign rfl rfl rfl ?_ | refine ER.add (kd := .i64) rfl rfl rfl rfl (i64_in (by omega) (by omega)) ?_))
      exact EK.back (again (j + 1, m1 - 1, W64 (sm + z)) _ _ (by dsimp only; omega) ⟨rfl, by dsimp only; omega, uu, g4, g6, w, by dsimp only; omega⟩) ⟨rfl, rfl, rfl, rfl, rfl, trivial⟩
    · obtain rfl : j = n := by omega
      rw [Nat.sub_self] at w
      clear again
      (repeat (first | refine EK.seq ?_ | refine EK.region ?_ | refine ER.done ?_ | refine ER.move rfl rfl rfl ?_ | refine ER.fieldAddr rfl rfl rfl ?_ | refine ER.load1 rfl rfl rfl (hcell_of (by assumption) rfl) ?_ | refine ER.cmpF rfl rfl rfl rfl rfl (by first | (dsimp only [cmpP]; omega) | exact rfl | exact Int.le_refl _) ?_ | refine EK.condF rfl ?_ | refine EK.exit rfl ?_))
      refine ER.buildS (cells := (gansL (sm, false, 0)).toArray) rfl rfl (by rfl) (by rfl) ?_
      refine ER.storeN (vs := gansL (sm, false, 0)) rfl rfl rfl rfl (by simp [gansL, OneCell]) (ans_all g6) ?_
      rw [row_set (c := gansL (0, false, 0)) (vs := gansL (sm, false, 0)) g6 rfl]
      (repeat (first | refine ER.done ?_ | refine EK.ret ?_))
      exact EU.retCell1 (vs := gansL (sm, false, 0)) rfl rfl rfl (hrow_block (rest := []) (by rw [List.append_nil]; exact get_set_same g6)) ⟨rfl, upd_then uu (Upd.set (T := fun c => c = y6) _ _ _ rfl) (fun c hc e => by omega), (sm, false, 0), rfl, (show WX R nm lL lW lY lV h0 W s pf x i o (k (sm, false, 0)) f hh from (w.mono hm1')).setA g6 (by omega) (by decide) (by decide) (by decide) (by decide) (by decide) _⟩
  by_cases h2' : d = 2
  · subst h2'
    rw [callC2] at w
    (repeat (first | refine EK.seq ?_ | refine EK.region ?_ | refine ER.done ?_ | refine EK.block ?_ | refine ER.assign rfl rfl rfl ?_ | refine ER.fieldAddr rfl rfl rfl ?_ | refine ER.load1 rfl rfl rfl (hcell_of (by assumption) rfl) ?_ | refine ER.cmpT rfl rfl rfl rfl rfl (by first | (dsimp only [cmpP]; omega) | exact rfl | exact Int.le_refl _) ?_ | refine ER.cmpF rfl rfl rfl rfl rfl (by first | (dsimp only [cmpP]; omega) | exact rfl | exact Int.le_refl _) ?_ | refine EK.condT rfl ?_ | refine EK.condF rfl ?_))
    clear c50
    refine EK.loopInv (fun _ : Nat × Nat => [(0, ptr x), (4, ptr y4), (5, ptr y5), (6, ptr y6)]) (fun q h' δ' => δ' = δ /\ Upd (WT s x) h h' /\ h'[y4]? = some (.cells (madeL n pk tk).toArray 107 (0, 0)) /\ h'[y5]? = some (.cells (gcallL (2, v0, v)).toArray 119 (0, 0)) /\ h'[y6]? = some (gansO (0, false, 0)) /\ WX R nm lL lW lY lV h0 W s pf x i o (raiseP (B (4 + n)) v (fun b => k (0, b, 0)) q.1) q.2 h' /\ q.2 <= q.1 /\ q.2 <= f) (fun q => q.2) (f, f) ⟨rfl, rfl, rfl, rfl, trivial⟩ ⟨rfl, uu, g4, g5, g6, w, Nat.le_refl _, Nat.le_refl _⟩ ?_
    clear w uu g4 g5 g6
    rintro ⟨f1, m1⟩ hh δ1 ⟨rfl, uu, g4, g5, g6, w, hf1, hm1'⟩ again
    dsimp only at w hf1 hm1' again
    rcases w with ⟨l1, hl1, w⟩ | ⟨ho, w⟩
    · have r1 := w.row
      obtain ⟨f2, rfl⟩ : ∃ f2, f1 = f2 + 1 := ⟨f1 - 1, by omega⟩
      replace w : WX R nm lL lW lY lV h0 W s pf x i o (raiseP (B (4 + n)) v (fun b => k (0, b, 0)) (f2 + 1)) m1 hh := .inl ⟨l1, hl1, w⟩
      unfold raiseP at w
      (repeat (first | refine EK.seq ?_ | refine EK.region ?_ | refine ER.done ?_ | refine EK.skip ?_ | refine EK.block ?_ | refine ER.move rfl rfl rfl ?_ | refine ER.nilCheck rfl rfl rfl ?_ | refine ER.fieldAddr rfl rfl rfl ?_ | refine ER.notB rfl rfl rfl ?_ | refine EK.condT rfl ?_ | refine ER.load1 rfl rfl rfl (by assumption) ?_))
      clear r1
      refine ER.callR rfl rfl rfl rfl rfl rpeak_ok ?_
      rintro _ hh δ2 ⟨rfl, rfl, u2⟩
      replace w := w.upd0 u2
      replace uu : Upd (WT s x) h hh := uu.trans (u2.mono (fun _ _ z => z.elim))
      replace g4 := u2.get g4 (fun z => z)
      replace g5 := u2.get g5 (fun z => z)
      replace g6 := u2.get g6 (fun z => z)
      clear u2
      refine ER.callR rfl rfl rfl rfl rfl (wloadX C hpf w N.pk) ?_
      clear w
      rintro _ hh δ2 ⟨rfl, u2, z, rfl, w⟩
      replace uu := uu.trans u2
      replace g4 := u2.get g4 n4
      replace g5 := u2.get g5 n5
      replace g6 := u2.get g6 n6
      clear u2
      have c52 : hcell hh ⟨y5, 2, none⟩ = some (.int .i64 v) := hcell_of g5 rfl
      by_cases hz : z < v
      · rw [if_pos hz] at w
        (repeat (first | refine EK.seq ?_ | refine EK.region ?_ | refine ER.done ?_ | refine EK.skip ?_ | refine ER.move rfl rfl rfl ?_ | refine ER.assign rfl rfl rfl ?_ | refine ER.fieldAddr rfl rfl rfl ?_ | refine ER.load1 rfl rfl rfl (hcell_of (by assumption) rfl) ?_ | refine ER.cmpF rfl rfl rfl rfl rfl (by first | (dsimp only [cmpP]; omega) | exact rfl | exact Int.le_refl _) ?_ | refine EK.condF rfl ?_))
        clear c52
        refine EK.regionAny (fun h' => h'[y5]? = some (.cells (gcallL (2, v0, v)).toArray 119 (0, 0))) ?_
        have hZ := g5
        refine EA.tMove 0 rfl (by kernel_rfl) rfl rfl rfl rfl hZ ?_
        refine EA.tMove 2 rfl (by kernel_rfl) rfl rfl rfl rfl hZ ?_
        refine EA.tField 3 rfl (by kernel_rfl) rfl rfl rfl rfl hZ ?_
        refine EA.tLoad 4 rfl (by kernel_rfl) rfl rfl rfl rfl (fun _ hz => (hcell_of hz rfl)) hZ ?_
        refine EA.callR 1 rfl (by kernel_rfl) rfl rfl rfl rfl rfl rfl rpeak_ok ?_
        rintro _ hh δ2 ⟨rfl, rfl, u2⟩
        replace w := w.upd0 u2
        replace uu : Upd (WT s x) h hh := uu.trans (u2.mono (fun _ _ z => z.elim))
        replace g4 := u2.get g4 (fun z => z)
        replace g5 := u2.get g5 (fun z => z)
        replace g6 := u2.get g6 (fun z => z)
        refine ⟨g5, ?_⟩
        clear u2 hZ
        refine EA.callR 5 rfl (by kernel_rfl) rfl rfl rfl rfl rfl rfl (wcasX C hpf w N.pk) ?_
        clear w
        rintro _ hh δ2 ⟨rfl, u2, c, rfl, w⟩
        replace uu := uu.trans u2
        replace g4 := u2.get g4 n4
        replace g5 := u2.get g5 n5
        replace g6 := u2.get g6 n6
        refine ⟨g5, EA.done (by kernel_rfl) ?_⟩
        clear u2
        by_cases hc : c = z
        · rw [if_pos hc] at w
          rw [decide_eq_true hc]
          (repeat (first | refine EK.seq ?_ | refine EK.region ?_ | refine EK.condT rfl ?_))
          refine ER.buildS (cells := (gansL (0, true, 0)).toArray) rfl rfl (by rfl) (by rfl) ?_
          refine ER.storeN (vs := gansL (0, true, 0)) rfl rfl rfl rfl (by simp [gansL, OneCell]) (ans_all g6) ?_
          rw [row_set (c := gansL (0, false, 0)) (vs := gansL (0, true, 0)) g6 rfl]
          (repeat (first | refine ER.done ?_ | refine EK.ret ?_))
          exact EU.retCell1 (vs := gansL (0, true, 0)) rfl rfl rfl (hrow_block (rest := []) (by rw [List.append_nil]; exact get_set_same g6)) ⟨rfl, upd_then uu (Upd.set (T := fun c => c = y6) _ _ _ rfl) (fun c hc e => by omega), (0, true, 0), rfl, (show WX R nm lL lW lY lV h0 W s pf x i o (k (0, true, 0)) f hh from (w.mono (by omega))).setA g6 (by omega) (by decide) (by decide) (by decide) (by decide) (by decide) _⟩
        · rw [if_neg hc] at w
          rw [decide_eq_false hc]
          (repeat (first | refine EK.skip ?_ | refine EK.inBlock ?_ | refine EK.condF rfl ?_))
          exact EK.back (again (f2, m1 - 1 - 1) _ _ (by dsimp only; omega) ⟨rfl, uu, g4, g5, g6, w, by dsimp only; omega, by dsimp only; omega⟩) ⟨rfl, rfl, rfl, rfl, trivial⟩
      · rw [if_neg hz] at w
        (repeat (first | refine EK.seq ?_ | refine EK.region ?_ | refine ER.done ?_ | refine ER.move rfl rfl rfl ?_ | refine ER.assign rfl rfl rfl ?_ | refine ER.fieldAddr rfl rfl rfl ?_ | refine ER.load1 rfl rfl rfl (hcell_of (by assumption) rfl) ?_ | refine ER.cmpT rfl rfl rfl rfl rfl (by first | (dsimp only [cmpP]; omega) | exact rfl | exact Int.le_refl _) ?_ | refine EK.condT rfl ?_))
        refine ER.buildS (cells := (gansL (0, false, 0)).toArray) rfl rfl (by rfl) (by rfl) ?_
        refine ER.storeN (vs := gansL (0, false, 0)) rfl rfl rfl rfl (by simp [gansL, OneCell]) (ans_all g6) ?_
        rw [row_set (c := gansL (0, false, 0)) (vs := gansL (0, false, 0)) g6 rfl]
        (repeat (first | refine ER.done ?_ | refine EK.ret ?_))
        exact EU.retCell1 (vs := gansL (0, false, 0)) rfl rfl rfl (hrow_block (rest := []) (by rw [List.append_nil]; exact get_set_same g6)) ⟨rfl, upd_then uu (Upd.set (T := fun c => c = y6) _ _ _ rfl) (fun c hc e => by omega), (0, false, 0), rfl, (show WX R nm lL lW lY lV h0 W s pf x i o (k (0, false, 0)) f hh from (w.mono (by omega))).setA g6 (by omega) (by decide) (by decide) (by decide) (by decide) (by decide) _⟩
    · have r1 := w.row
      clear again
      (repeat (first | refine EK.seq ?_ | refine EK.region ?_ | refine ER.done ?_ | refine EK.inBlock ?_ | refine ER.move rfl rfl rfl ?_ | refine ER.nilCheck rfl rfl rfl ?_ | refine ER.fieldAddr rfl rfl rfl ?_ | refine ER.notB rfl rfl rfl ?_ | refine EK.condF rfl ?_ | refine EK.exit rfl ?_ | refine ER.load1 rfl rfl rfl (by assumption) ?_))
      refine ER.buildS (cells := (gansL (0, false, 0)).toArray) rfl rfl (by rfl) (by rfl) ?_
      refine ER.storeN (vs := gansL (0, false, 0)) rfl rfl rfl rfl (by simp [gansL, OneCell]) (ans_all g6) ?_
      rw [row_set (c := gansL (0, false, 0)) (vs := gansL (0, false, 0)) g6 rfl]
      (repeat (first | refine ER.done ?_ | refine EK.ret ?_))
      exact EU.retCell1 (vs := gansL (0, false, 0)) rfl rfl rfl (hrow_block (rest := []) (by rw [List.append_nil]; exact get_set_same g6)) ⟨rfl, upd_then uu (Upd.set (T := fun c => c = y6) _ _ _ rfl) (fun c hc e => by omega), (0, false, 0), rfl, (show WX R nm lL lW lY lV h0 W s pf x i o (k (0, false, 0)) f hh from (.inr ⟨ho, w⟩)).setA g6 (by omega) (by decide) (by decide) (by decide) (by decide) (by decide) _⟩
  by_cases h3' : d = 3
  · subst h3'
    rw [callC3] at w
    unfold loadP at w
    (repeat (first | refine EK.seq ?_ | refine EK.region ?_ | refine ER.done ?_ | refine EK.block ?_ | refine ER.move rfl rfl rfl ?_ | refine ER.assign rfl rfl rfl ?_ | refine ER.fieldAddr rfl rfl rfl ?_ | refine ER.load1 rfl rfl rfl (hcell_of (by assumption) rfl) ?_ | refine ER.cmpT rfl rfl rfl rfl rfl (by first | (dsimp only [cmpP]; omega) | exact rfl | exact Int.le_refl _) ?_ | refine ER.cmpF rfl rfl rfl rfl rfl (by first | (dsimp only [cmpP]; omega) | exact rfl | exact Int.le_refl _) ?_ | refine EK.condT rfl ?_ | refine EK.condF rfl ?_))
    clear c50
    refine ER.callR rfl rfl rfl rfl rfl rpeak_ok ?_
    rintro _ hh δ2 ⟨rfl, rfl, u2⟩
    replace w := w.upd0 u2
    replace uu : Upd (WT s x) h hh := uu.trans (u2.mono (fun _ _ z => z.elim))
    replace g4 := u2.get g4 (fun z => z)
    replace g5 := u2.get g5 (fun z => z)
    replace g6 := u2.get g6 (fun z => z)
    clear u2
    refine ER.callR rfl rfl rfl rfl rfl (wloadX C hpf w N.pk) ?_
    clear w
    rintro _ hh δ2 ⟨rfl, u2, z, rfl, w⟩
    replace uu := uu.trans u2
    replace g4 := u2.get g4 n4
    replace g5 := u2.get g5 n5
    replace g6 := u2.get g6 n6
    clear u2
    skip
    refine ER.buildS (cells := (gansL (z, false, 0)).toArray) rfl rfl (by rfl) (by rfl) ?_
    refine ER.storeN (vs := gansL (z, false, 0)) rfl rfl rfl rfl (by simp [gansL, OneCell]) (ans_all g6) ?_
    rw [row_set (c := gansL (0, false, 0)) (vs := gansL (z, false, 0)) g6 rfl]
    (repeat (first | refine ER.done ?_ | refine EK.ret ?_))
    exact EU.retCell1 (vs := gansL (z, false, 0)) rfl rfl rfl (hrow_block (rest := []) (by rw [List.append_nil]; exact get_set_same g6)) ⟨rfl, upd_then uu (Upd.set (T := fun c => c = y6) _ _ _ rfl) (fun c hc e => by omega), (z, false, 0), rfl, (show WX R nm lL lW lY lV h0 W s pf x i o (k (z, false, 0)) f hh from (w.mono (by omega))).setA g6 (by omega) (by decide) (by decide) (by decide) (by decide) (by decide) _⟩
  by_cases h4' : d = 4
  · subst h4'
    rw [callC4] at w
    (repeat (first | refine EK.seq ?_ | refine EK.region ?_ | refine ER.done ?_ | refine EK.block ?_ | refine ER.assign rfl rfl rfl ?_ | refine ER.fieldAddr rfl rfl rfl ?_ | refine ER.load1 rfl rfl rfl (hcell_of (by assumption) rfl) ?_ | refine ER.cmpT rfl rfl rfl rfl rfl (by first | (dsimp only [cmpP]; omega) | exact rfl | exact Int.le_refl _) ?_ | refine ER.cmpF rfl rfl rfl rfl rfl (by first | (dsimp only [cmpP]; omega) | exact rfl | exact Int.le_refl _) ?_ | refine EK.condT rfl ?_ | refine EK.condF rfl ?_))
    clear c50
    refine EK.loopInv (fun _ : Nat × Nat => [(0, ptr x), (4, ptr y4), (5, ptr y5), (6, ptr y6)]) (fun q h' δ' => δ' = δ /\ Upd (WT s x) h h' /\ h'[y4]? = some (.cells (madeL n pk tk).toArray 107 (0, 0)) /\ h'[y5]? = some (.cells (gcallL (4, v0, v)).toArray 119 (0, 0)) /\ h'[y6]? = some (gansO (0, false, 0)) /\ WX R nm lL lW lY lV h0 W s pf x i o (takeP (B (5 + n)) (fun b => k (0, b, 0)) q.1) q.2 h' /\ q.2 <= q.1 /\ q.2 <= f) (fun q => q.2) (f, f) ⟨rfl, rfl, rfl, rfl, trivial⟩ ⟨rfl, uu, g4, g5, g6, w, Nat.le_refl _, Nat.le_refl _⟩ ?_
    clear w uu g4 g5 g6
    rintro ⟨f1, m1⟩ hh δ1 ⟨rfl, uu, g4, g5, g6, w, hf1, hm1'⟩ again
    dsimp only at w hf1 hm1' again
    rcases w with ⟨l1, hl1, w⟩ | ⟨ho, w⟩
    · have r1 := w.row
      obtain ⟨f2, rfl⟩ : ∃ f2, f1 = f2 + 1 := ⟨f1 - 1, by omega⟩
      replace w : WX R nm lL lW lY lV h0 W s pf x i o (takeP (B (5 + n)) (fun b => k (0, b, 0)) (f2 + 1)) m1 hh := .inl ⟨l1, hl1, w⟩
      unfold takeP at w
      (repeat (first | refine EK.seq ?_ | refine EK.region ?_ | refine ER.done ?_ | refine EK.skip ?_ | refine EK.block ?_ | refine ER.move rfl rfl rfl ?_ | refine ER.nilCheck rfl rfl rfl ?_ | refine ER.fieldAddr rfl rfl rfl ?_ | refine ER.notB rfl rfl rfl ?_ | refine EK.condT rfl ?_ | refine ER.load1 rfl rfl rfl (by assumption) ?_))
      clear r1
      refine ER.callR rfl rfl rfl rfl rfl rtick_ok ?_
      rintro _ hh δ2 ⟨rfl, rfl, u2⟩
      replace w := w.upd0 u2
      replace uu : Upd (WT s x) h hh := uu.trans (u2.mono (fun _ _ z => z.elim))
      replace g4 := u2.get g4 (fun z => z)
      replace g5 := u2.get g5 (fun z => z)
      replace g6 := u2.get g6 (fun z => z)
      clear u2
      refine ER.callR rfl rfl rfl rfl rfl (wloadX C hpf w N.tk) ?_
      clear w
      rintro _ hh δ2 ⟨rfl, u2, z, rfl, w⟩
      replace uu := uu.trans u2
      replace g4 := u2.get g4 n4
      replace g5 := u2.get g5 n5
      replace g6 := u2.get g6 n6
      clear u2
      by_cases hz : z = 0
      · rw [if_pos hz] at w
        (repeat (first | refine EK.seq ?_ | refine EK.region ?_ | refine ER.done ?_ | refine ER.move rfl rfl rfl ?_ | refine ER.assign rfl rfl rfl ?_ | refine ER.cmpT rfl rfl rfl rfl rfl (by first | (dsimp only [cmpP]; omega) | exact rfl | exact Int.le_refl _) ?_ | refine EK.condT rfl ?_))
        refine ER.buildS (cells := (gansL (0, false, 0)).toArray) rfl rfl (by rfl) (by rfl) ?_
        refine ER.storeN (vs := gansL (0, false, 0)) rfl rfl rfl rfl (by simp [gansL, OneCell]) (ans_all g6) ?_
        rw [row_set (c := gansL (0, false, 0)) (vs := gansL (0, false, 0)) g6 rfl]
        (repeat (first | refine ER.done ?_ | refine EK.ret ?_))
        exact EU.retCell1 (vs := gansL (0, false, 0)) rfl rfl rfl (hrow_block (rest := []) (by rw [List.append_nil]; exact get_set_same g6)) ⟨rfl, upd_then uu (Upd.set (T := fun c => c = y6) _ _ _ rfl) (fun c hc e => by omega), (0, false, 0), rfl, (show WX R nm lL lW lY lV h0 W s pf x i o (k (0, false, 0)) f hh from (w.mono (by omega))).setA g6 (by omega) (by decide) (by decide) (by decide) (by decide) (by decide) _⟩
      · rw [if_neg hz] at w
        (repeat (first | refine EK.seq ?_ | refine EK.region ?_ | refine ER.done ?_ | refine EK.skip ?_ | refine ER.move rfl rfl rfl ?_ | refine ER.assign rfl rfl rfl ?_ | refine ER.cmpF rfl rfl rfl rfl rfl (by first | (dsimp only [cmpP]; omega) | exact rfl | exact Int.le_refl _) ?_ | refine EK.condF rfl ?_))
        refine ER.callR rfl rfl rfl rfl rfl rtick_ok ?_
        rintro _ hh δ2 ⟨rfl, rfl, u2⟩
        replace w := w.upd0 u2
        replace uu : Upd (WT s x) h hh := uu.trans (u2.mono (fun _ _ z => z.elim))
        replace g4 := u2.get g4 (fun z => z)
        replace g5 := u2.get g5 (fun z => z)
        replace g6 := u2.get g6 (fun z => z)
        clear u2
        (repeat refine ER.move rfl rfl rfl ?_)
        refine ER.sub' (r := W64 (z - 1)) rfl rfl rfl rfl rfl ?_
        refine ER.callR rfl rfl rfl rfl rfl (wcasX C hpf w N.tk) ?_
        clear w
        rintro _ hh δ2 ⟨rfl, u2, c, rfl, w⟩
        replace uu := uu.trans u2
        replace g4 := u2.get g4 n4
        replace g5 := u2.get g5 n5
        replace g6 := u2.get g6 n6
        clear u2
        by_cases hc : c = z
        · rw [if_pos hc] at w
          rw [decide_eq_true hc]
          (repeat (first | refine EK.seq ?_ | refine EK.region ?_ | refine ER.done ?_ | refine EK.condT rfl ?_))
          refine ER.buildS (cells := (gansL (0, true, 0)).toArray) rfl rfl (by rfl) (by rfl) ?_
          refine ER.storeN (vs := gansL (0, true, 0)) rfl rfl rfl rfl (by simp [gansL, OneCell]) (ans_all g6) ?_
          rw [row_set (c := gansL (0, false, 0)) (vs := gansL (0, true, 0)) g6 rfl]
          (repeat (first | refine ER.done ?_ | refine EK.ret ?_))
          exact EU.retCell1 (vs := gansL (0, true, 0)) rfl rfl rfl (hrow_block (rest := []) (by rw [List.append_nil]; exact get_set_same g6)) ⟨rfl, upd_then uu (Upd.set (T := fun c => c = y6) _ _ _ rfl) (fun c hc e => by omega), (0, true, 0), rfl, (show WX R nm lL lW lY lV h0 W s pf x i o (k (0, true, 0)) f hh from (w.mono (by omega))).setA g6 (by omega) (by decide) (by decide) (by decide) (by decide) (by decide) _⟩
        · rw [if_neg hc] at w
          rw [decide_eq_false hc]
          (repeat (first | refine ER.done ?_ | refine EK.skip ?_ | refine EK.inBlock ?_ | refine EK.condF rfl ?_))
          exact EK.back (again (f2, m1 - 1 - 1) _ _ (by dsimp only; omega) ⟨rfl, uu, g4, g5, g6, w, by dsimp only; omega, by dsimp only; omega⟩) ⟨rfl, rfl, rfl, rfl, trivial⟩
    · have r1 := w.row
      clear again
      (repeat (first | refine EK.seq ?_ | refine EK.region ?_ | refine ER.done ?_ | refine EK.inBlock ?_ | refine ER.move rfl rfl rfl ?_ | refine ER.nilCheck rfl rfl rfl ?_ | refine ER.fieldAddr rfl rfl rfl ?_ | refine ER.notB rfl rfl rfl ?_ | refine EK.condF rfl ?_ | refine EK.exit rfl ?_ | refine ER.load1 rfl rfl rfl (by assumption) ?_))
      refine ER.buildS (cells := (gansL (0, false, 0)).toArray) rfl rfl (by rfl) (by rfl) ?_
      refine ER.storeN (vs := gansL (0, false, 0)) rfl rfl rfl rfl (by simp [gansL, OneCell]) (ans_all g6) ?_
      rw [row_set (c := gansL (0, false, 0)) (vs := gansL (0, false, 0)) g6 rfl]
      (repeat (first | refine ER.done ?_ | refine EK.ret ?_))
      exact EU.retCell1 (vs := gansL (0, false, 0)) rfl rfl rfl (hrow_block (rest := []) (by rw [List.append_nil]; exact get_set_same g6)) ⟨rfl, upd_then uu (Upd.set (T := fun c => c = y6) _ _ _ rfl) (fun c hc e => by omega), (0, false, 0), rfl, (show WX R nm lL lW lY lV h0 W s pf x i o (k (0, false, 0)) f hh from (.inr ⟨ho, w⟩)).setA g6 (by omega) (by decide) (by decide) (by decide) (by decide) (by decide) _⟩
  by_cases h5' : d = 5
  · subst h5'
    rw [callC5] at w
    (repeat (first | refine EK.seq ?_ | refine EK.region ?_ | refine ER.done ?_ | refine EK.block ?_ | refine ER.assign rfl rfl rfl ?_ | refine ER.fieldAddr rfl rfl rfl ?_ | refine ER.load1 rfl rfl rfl (hcell_of (by assumption) rfl) ?_ | refine ER.cmpT rfl rfl rfl rfl rfl (by first | (dsimp only [cmpP]; omega) | exact rfl | exact Int.le_refl _) ?_ | refine ER.cmpF rfl rfl rfl rfl rfl (by first | (dsimp only [cmpP]; omega) | exact rfl | exact Int.le_refl _) ?_ | refine EK.condT rfl ?_ | refine EK.condF rfl ?_))
    clear c50
    refine EK.loopInv (fun _ : Nat × Nat => [(0, ptr x), (4, ptr y4), (5, ptr y5), (6, ptr y6)]) (fun q h' δ' => δ' = δ /\ Upd (WT s x) h h' /\ h'[y4]? = some (.cells (madeL n pk tk).toArray 107 (0, 0)) /\ h'[y5]? = some (.cells (gcallL (5, v0, v)).toArray 119 (0, 0)) /\ h'[y6]? = some (gansO (0, false, 0)) /\ WX R nm lL lW lY lV h0 W s pf x i o (backP (B (5 + n)) tk (fun e => k (0, false, e)) q.1) q.2 h' /\ q.2 <= q.1 /\ q.2 <= f) (fun q => q.2) (f, f) ⟨rfl, rfl, rfl, rfl, trivial⟩ ⟨rfl, uu, g4, g5, g6, w, Nat.le_refl _, Nat.le_refl _⟩ ?_
    clear w uu g4 g5 g6
    rintro ⟨f1, m1⟩ hh δ1 ⟨rfl, uu, g4, g5, g6, w, hf1, hm1'⟩ again
    dsimp only at w hf1 hm1' again
    rcases w with ⟨l1, hl1, w⟩ | ⟨ho, w⟩
    · have r1 := w.row
      obtain ⟨f2, rfl⟩ : ∃ f2, f1 = f2 + 1 := ⟨f1 - 1, by omega⟩
      replace w : WX R nm lL lW lY lV h0 W s pf x i o (backP (B (5 + n)) tk (fun e => k (0, false, e)) (f2 + 1)) m1 hh := .inl ⟨l1, hl1, w⟩
      unfold backP at w
      (repeat (first | refine EK.seq ?_ | refine EK.region ?_ | refine ER.done ?_ | refine EK.skip ?_ | refine EK.block ?_ | refine ER.move rfl rfl rfl ?_ | refine ER.nilCheck rfl rfl rfl ?_ | refine ER.fieldAddr rfl rfl rfl ?_ | refine ER.notB rfl rfl rfl ?_ | refine EK.condT rfl ?_ | refine ER.load1 rfl rfl rfl (by assumption) ?_))
      clear r1
      refine ER.callR rfl rfl rfl rfl rfl rtick_ok ?_
      rintro _ hh δ2 ⟨rfl, rfl, u2⟩
      replace w := w.upd0 u2
      replace uu : Upd (WT s x) h hh := uu.trans (u2.mono (fun _ _ z => z.elim))
      replace g4 := u2.get g4 (fun z => z)
      replace g5 := u2.get g5 (fun z => z)
      replace g6 := u2.get g6 (fun z => z)
      clear u2
      refine ER.callR rfl rfl rfl rfl rfl (wloadX C hpf w N.tk) ?_
      clear w
      rintro _ hh δ2 ⟨rfl, u2, z, rfl, w⟩
      replace uu := uu.trans u2
      replace g4 := u2.get g4 n4
      replace g5 := u2.get g5 n5
      replace g6 := u2.get g6 n6
      clear u2
      have c4 : hcell hh ⟨y4, 2, none⟩ = some (.int .i64 tk) := hcell_of g4 rfl
      rcases w with ⟨l2, hl2, w⟩ | ⟨ho, w⟩
      · have r2 := w.row
        by_cases hz : z = tk
        · rw [if_pos hz] at w
          (repeat (first | refine EK.seq ?_ | refine EK.region ?_ | refine ER.done ?_ | refine EK.skip ?_ | refine ER.move rfl rfl rfl ?_ | refine ER.assign rfl rfl rfl ?_ | refine ER.nilCheck rfl rfl rfl ?_ | refine ER.fieldAddr rfl rfl rfl ?_ | refine ER.load1 rfl rfl rfl (hcell_of (by assumption) rfl) ?_ | refine ER.cmpT rfl rfl rfl rfl rfl (by first | (dsimp only [cmpP]; omega) | exact rfl | exact Int.le_refl _) ?_ | refine EK.condT rfl ?_ | refine EK.condF rfl ?_ | refine ER.load1 rfl rfl rfl (by assumption) ?_))
          refine ER.buildS (cells := (gansL (0, false, 1)).toArray) rfl rfl (by rfl) (by rfl) ?_
          refine ER.storeN (vs := gansL (0, false, 1)) rfl rfl rfl rfl (by simp [gansL, OneCell]) (ans_all g6) ?_
          rw [row_set (c := gansL (0, false, 0)) (vs := gansL (0, false, 1)) g6 rfl]
          (repeat (first | refine ER.done ?_ | refine EK.ret ?_))
          exact EU.retCell1 (vs := gansL (0, false, 1)) rfl rfl rfl (hrow_block (rest := []) (by rw [List.append_nil]; exact get_set_same g6)) ⟨rfl, upd_then uu (Upd.set (T := fun c => c = y6) _ _ _ rfl) (fun c hc e => by omega), (0, false, 1), rfl, (show WX R nm lL lW lY lV h0 W s pf x i o (k (0, false, 1)) f hh from (.inl ⟨l2, by omega, w⟩)).setA g6 (by omega) (by decide) (by decide) (by decide) (by decide) (by decide) _⟩
        · rw [if_neg hz] at w
          replace w : WX R nm lL lW lY lV h0 W s pf x i o _ (m1 - 1) hh := .inl ⟨l2, hl2, w⟩
          (repeat (first | refine EK.seq ?_ | refine EK.region ?_ | refine ER.done ?_ | refine EK.skip ?_ | refine ER.move rfl rfl rfl ?_ | refine ER.assign rfl rfl rfl ?_ | refine ER.nilCheck rfl rfl rfl ?_ | refine ER.fieldAddr rfl rfl rfl ?_ | refine ER.load1 rfl rfl rfl (hcell_of (by assumption) rfl) ?_ | refine ER.cmpF rfl rfl rfl rfl rfl (by first | (dsimp only [cmpP]; omega) | exact rfl | exact Int.le_refl _) ?_ | refine EK.condF rfl ?_ | refine ER.load1 rfl rfl rfl (by assumption) ?_))
          clear r2 c4
          refine ER.callR rfl rfl rfl rfl rfl rtick_ok ?_
          rintro _ hh δ2 ⟨rfl, rfl, u2⟩
          replace w := w.upd0 u2
          replace uu : Upd (WT s x) h hh := uu.trans (u2.mono (fun _ _ z => z.elim))
          replace g4 := u2.get g4 (fun z => z)
          replace g5 := u2.get g5 (fun z => z)
          replace g6 := u2.get g6 (fun z => z)
          clear u2
          (repeat refine ER.move rfl rfl rfl ?_)
          refine ER.add (r := W64 (z + 1)) rfl rfl rfl rfl rfl ?_
          refine ER.callR rfl rfl rfl rfl rfl (wcasX C hpf w N.tk) ?_
          clear w
          rintro _ hh δ2 ⟨rfl, u2, c, rfl, w⟩
          replace uu := uu.trans u2
          replace g4 := u2.get g4 n4
          replace g5 := u2.get g5 n5
          replace g6 := u2.get g6 n6
          clear u2
          by_cases hc : c = z
          · rw [if_pos hc] at w
            rw [decide_eq_true hc]
            (repeat (first | refine EK.seq ?_ | refine EK.region ?_ | refine ER.done ?_ | refine EK.condT rfl ?_))
            refine ER.buildS (cells := (gansL (0, false, 0)).toArray) rfl rfl (by rfl) (by rfl) ?_
            refine ER.storeN (vs := gansL (0, false, 0)) rfl rfl rfl rfl (by simp [gansL, OneCell]) (ans_all g6) ?_
            rw [row_set (c := gansL (0, false, 0)) (vs := gansL (0, false, 0)) g6 rfl]
            (repeat (first | refine ER.done ?_ | refine EK.ret ?_))
            exact EU.retCell1 (vs := gansL (0, false, 0)) rfl rfl rfl (hrow_block (rest := []) (by rw [List.append_nil]; exact get_set_same g6)) ⟨rfl, upd_then uu (Upd.set (T := fun c => c = y6) _ _ _ rfl) (fun c hc e => by omega), (0, false, 0), rfl, (show WX R nm lL lW lY lV h0 W s pf x i o (k (0, false, 0)) f hh from (w.mono (by omega))).setA g6 (by omega) (by decide) (by decide) (by decide) (by decide) (by decide) _⟩
          · rw [if_neg hc] at w
            rw [decide_eq_false hc]
            (repeat (first | refine ER.done ?_ | refine EK.skip ?_ | refine EK.inBlock ?_ | refine EK.condF rfl ?_))
            exact EK.back (again (f2, m1 - 1 - 1) _ _ (by dsimp only; omega) ⟨rfl, uu, g4, g5, g6, w, by dsimp only; omega, by dsimp only; omega⟩) ⟨rfl, rfl, rfl, rfl, trivial⟩
      · have r2 := w.row
        clear again
        (repeat (first | refine EK.seq ?_ | refine EK.region ?_ | refine ER.done ?_ | refine EK.inBlock ?_ | refine ER.move rfl rfl rfl ?_ | refine ER.assign rfl rfl rfl ?_ | refine ER.nilCheck rfl rfl rfl ?_ | refine ER.fieldAddr rfl rfl rfl ?_ | refine EK.condT rfl ?_ | refine EK.exit rfl ?_ | refine ER.load1 rfl rfl rfl (by assumption) ?_))
        refine ER.buildS (cells := (gansL (0, false, 0)).toArray) rfl rfl (by rfl) (by rfl) ?_
        refine ER.storeN (vs := gansL (0, false, 0)) rfl rfl rfl rfl (by simp [gansL, OneCell]) (ans_all g6) ?_
        rw [row_set (c := gansL (0, false, 0)) (vs := gansL (0, false, 0)) g6 rfl]
        (repeat (first | refine ER.done ?_ | refine EK.ret ?_))
        exact EU.retCell1 (vs := gansL (0, false, 0)) rfl rfl rfl (hrow_block (rest := []) (by rw [List.append_nil]; exact get_set_same g6)) ⟨rfl, upd_then uu (Upd.set (T := fun c => c = y6) _ _ _ rfl) (fun c hc e => by omega), (0, false, 0), rfl, (show WX R nm lL lW lY lV h0 W s pf x i o (k (0, false, 0)) f hh from (.inr ⟨ho, w⟩)).setA g6 (by omega) (by decide) (by decide) (by decide) (by decide) (by decide) _⟩
    · have r1 := w.row
      clear again
      (repeat (first | refine EK.seq ?_ | refine EK.region ?_ | refine ER.done ?_ | refine EK.inBlock ?_ | refine ER.move rfl rfl rfl ?_ | refine ER.nilCheck rfl rfl rfl ?_ | refine ER.fieldAddr rfl rfl rfl ?_ | refine ER.notB rfl rfl rfl ?_ | refine EK.condF rfl ?_ | refine EK.exit rfl ?_ | refine ER.load1 rfl rfl rfl (by assumption) ?_))
      refine ER.buildS (cells := (gansL (0, false, 0)).toArray) rfl rfl (by rfl) (by rfl) ?_
      refine ER.storeN (vs := gansL (0, false, 0)) rfl rfl rfl rfl (by simp [gansL, OneCell]) (ans_all g6) ?_
      rw [row_set (c := gansL (0, false, 0)) (vs := gansL (0, false, 0)) g6 rfl]
      (repeat (first | refine ER.done ?_ | refine EK.ret ?_))
      exact EU.retCell1 (vs := gansL (0, false, 0)) rfl rfl rfl (hrow_block (rest := []) (by rw [List.append_nil]; exact get_set_same g6)) ⟨rfl, upd_then uu (Upd.set (T := fun c => c = y6) _ _ _ rfl) (fun c hc e => by omega), (0, false, 0), rfl, (show WX R nm lL lW lY lV h0 W s pf x i o (k (0, false, 0)) f hh from (.inr ⟨ho, w⟩)).setA g6 (by omega) (by decide) (by decide) (by decide) (by decide) (by decide) _⟩
  by_cases h6' : d = 6
  · subst h6'
    rw [callC6] at w
    unfold loadP at w
    (repeat (first | refine EK.seq ?_ | refine EK.region ?_ | refine ER.done ?_ | refine EK.block ?_ | refine ER.move rfl rfl rfl ?_ | refine ER.assign rfl rfl rfl ?_ | refine ER.fieldAddr rfl rfl rfl ?_ | refine ER.load1 rfl rfl rfl (hcell_of (by assumption) rfl) ?_ | refine ER.cmpT rfl rfl rfl rfl rfl (by first | (dsimp only [cmpP]; omega) | exact rfl | exact Int.le_refl _) ?_ | refine ER.cmpF rfl rfl rfl rfl rfl (by first | (dsimp only [cmpP]; omega) | exact rfl | exact Int.le_refl _) ?_ | refine EK.condT rfl ?_ | refine EK.condF rfl ?_))
    clear c50
    refine ER.callR rfl rfl rfl rfl rfl rtick_ok ?_
    rintro _ hh δ2 ⟨rfl, rfl, u2⟩
    replace w := w.upd0 u2
    replace uu : Upd (WT s x) h hh := uu.trans (u2.mono (fun _ _ z => z.elim))
    replace g4 := u2.get g4 (fun z => z)
    replace g5 := u2.get g5 (fun z => z)
    replace g6 := u2.get g6 (fun z => z)
    clear u2
    refine ER.callR rfl rfl rfl rfl rfl (wloadX C hpf w N.tk) ?_
    clear w
    rintro _ hh δ2 ⟨rfl, u2, z, rfl, w⟩
    replace uu := uu.trans u2
    replace g4 := u2.get g4 n4
    replace g5 := u2.get g5 n5
    replace g6 := u2.get g6 n6
    clear u2
    skip
    refine ER.buildS (cells := (gansL (z, false, 0)).toArray) rfl rfl (by rfl) (by rfl) ?_
    refine ER.storeN (vs := gansL (z, false, 0)) rfl rfl rfl rfl (by simp [gansL, OneCell]) (ans_all g6) ?_
    rw [row_set (c := gansL (0, false, 0)) (vs := gansL (z, false, 0)) g6 rfl]
    (repeat (first | refine ER.done ?_ | refine EK.ret ?_))
    exact EU.retCell1 (vs := gansL (z, false, 0)) rfl rfl rfl (hrow_block (rest := []) (by rw [List.append_nil]; exact get_set_same g6)) ⟨rfl, upd_then uu (Upd.set (T := fun c => c = y6) _ _ _ rfl) (fun c hc e => by omega), (z, false, 0), rfl, (show WX R nm lL lW lY lV h0 W s pf x i o (k (z, false, 0)) f hh from (w.mono (by omega))).setA g6 (by omega) (by decide) (by decide) (by decide) (by decide) (by decide) _⟩
  · rw [callC7 h0' h1' h2' h3' h4' h5' h6'] at w
    (repeat (first | refine EK.seq ?_ | refine EK.region ?_ | refine ER.done ?_ | refine EK.skip ?_ | refine EK.block ?_ | refine EK.inBlock ?_ | refine ER.assign rfl rfl rfl ?_ | refine ER.fieldAddr rfl rfl rfl ?_ | refine ER.load1 rfl rfl rfl (hcell_of (by assumption) rfl) ?_ | refine ER.cmpF rfl rfl rfl rfl rfl (by first | (dsimp only [cmpP]; omega) | exact rfl | exact Int.le_refl _) ?_ | refine EK.condF rfl ?_))
    refine ER.buildS (cells := (gansL (0, false, 0)).toArray) rfl rfl (by rfl) (by rfl) ?_
    refine ER.storeN (vs := gansL (0, false, 0)) rfl rfl rfl rfl (by simp [gansL, OneCell]) (ans_all g6) ?_
    rw [row_set (c := gansL (0, false, 0)) (vs := gansL (0, false, 0)) g6 rfl]
    (repeat (first | refine ER.done ?_ | refine EK.ret ?_))
    exact EU.retCell1 (vs := gansL (0, false, 0)) rfl rfl rfl (hrow_block (rest := []) (by rw [List.append_nil]; exact get_set_same g6)) ⟨rfl, upd_then uu (Upd.set (T := fun c => c = y6) _ _ _ rfl) (fun c hc e => by omega), (0, false, 0), rfl, (show WX R nm lL lW lY lV h0 W s pf x i o (k (0, false, 0)) f hh from w).setA g6 (by omega) (by decide) (by decide) (by decide) (by decide) (by decide) _⟩
end
end
section
open Go Go.TJ Go.Conc Go.Proofs
section
variable {Γ : Type} {main : Bool} {S : Sit Γ} {δ : Ix Γ} {R : Rec} {nm : Nat -> Nme} {lL lW lY lV sP : Value} {h0 h h' : Hp} {W x i t : Nat} {s : WS} {picks : List Int} {X : Us} {A : Type} {pf p : Pr A} {out : Bool}
set_option maxHeartbeats 8000000 in
set_option maxRecDepth 8000 in
theorem end_ok (C : WC X picks R nm lL lW lY lV sP h0 s) (a : WAll R nm lL lW lY lV h0 W s h) (hx : h[x]? = some (wrO W i out t)) (hx0 : h0.size <= x) (ht : t <= R.log.length) (ho : ownFrom R i t = []) (hl : out = true ↔ ∃ q, q ∈ R.left /\ q.1 = i) :
    CallW Try.prog main (NoS (Γ := Γ)) 24 #[ptr x, .bool false] h δ (Ret fun _ h' δ' => δ' = δ /\ WAll R nm lL lW lY lV h0 W s h' /\ Upd (fun b => b = x) h h') := by
  obtain ⟨q, I, N⟩ := a
  have hlen : R.log.length <= 65536 := Nat.le_trans C.ok.len C.ok.most
  have hll := Nat.le_trans C.ok.left_len (show 64 <= 65536 by decide)
  refine CallW.start (n := 72) rfl rfl ?_
  (repeat (first | refine EK.seq ?_ | refine EK.region ?_ | refine ER.move rfl rfl rfl ?_))
  refine ER.callR rfl rfl rfl rfl rfl (wnext_ok C.m hlen I hx hx0 ht) ?_
  clear I hx
  rintro _ h2 δ2 ⟨rfl, t2, ht2, hx, I, u2, ⟨e, ho2, -, -⟩ | ⟨-, ho2, rfl⟩⟩
  · rw [ho] at ho2; cases ho2
  (repeat (first | refine ER.move rfl rfl rfl ?_ | refine ER.extract rfl rfl rfl rfl ?_ | refine ER.allocA rfl rfl ?_))
  refine ER.storeN (vs := acc0) rfl rfl rfl rfl (by simp [accL, OneCell]) (acc_all (vs := acc0) rfl (get_push_new _ _)) ?_
  rw [hsetRow_push (c := [.int .i64 0, .int .i8 0, .int .i64 0, .int .i64 0, .int .i64 0, .int .i64 0, .int .i64 0, .bool false]) (vs := acc0) rfl]
  refine ER.gen (fun h' => WkI R nm lL lW lY lV h0 W ((nums R.log).map R.v0) { s with q := q } h' /\ Upd (fun b => b = x) h h' /\ h'[x]? = some (wrO W i out t2)) ⟨I.upd0 (Upd.push _ _), u2.trans (Upd.push _ _), get_push _ hx⟩ ?_
  clear I u2 hx
  rintro h3 ⟨I, u3, hx⟩
  (repeat (first | refine EK.seq ?_ | refine EK.region ?_ | refine ER.done ?_ | refine ER.move rfl rfl rfl ?_ | refine ER.assign rfl rfl rfl ?_))
  refine ER.callR rfl rfl rfl rfl rfl (wleft_ok C.m hll I hx hx0) ?_
  rintro v4 h4 δ4 ⟨rfl, u4, hc⟩
  obtain ⟨vs, hvs, rfl, hl8⟩ : ∃ vs : List Value, vs.length = 8 /\ v4 = Value.tuple #[.agg vs.toArray, .bool out] /\ ∀ v ∈ vs, OneCell v := by
    rcases hc with ⟨q', hq', e, rfl⟩ | ⟨hn, rfl⟩
    · have : out = true := hl.2 ⟨q', hq', e⟩
      subst this
      exact ⟨leftE (nums R.log) R.val q', rfl, rfl, by simp [leftE, accL, OneCell]⟩
    · have : out = false := by
        cases out with
        | false => rfl
        | true => obtain ⟨q', hq', e⟩ := hl.1 rfl; exact absurd e (hn q' hq')
      subst this
      exact ⟨acc0, rfl, rfl, by simp [accL, OneCell]⟩
  replace I := I.upd0 u4
  replace hx := u4.get hx (fun z => z)
  replace u3 : Upd (fun b => b = x) h h4 := u3.trans (u4.mono (fun _ _ z => z.elim))
  clear u4 hc
  (repeat (first | refine ER.move rfl rfl rfl ?_ | refine ER.extract rfl rfl rfl rfl ?_ | refine ER.allocA rfl rfl ?_))
  refine ER.storeN (vs := vs) rfl rfl rfl hvs hl8 (acc_all (vs := acc0) rfl (get_push_new _ _)) ?_
  rw [hsetRow_push (c := [.int .i64 0, .int .i8 0, .int .i64 0, .int .i64 0, .int .i64 0, .int .i64 0, .int .i64 0, .bool false]) (vs := vs) (by rw [hvs]; rfl)]
  refine ER.gen (fun h' => WkI R nm lL lW lY lV h0 W ((nums R.log).map R.v0) { s with q := q } h' /\ Upd (fun b => b = x) h h' /\ h'[x]? = some (wrO W i out t2)) ⟨I.upd0 (Upd.push _ _), u3.trans (Upd.push _ _), get_push _ hx⟩ ?_
  clear I u3 hx
  rintro h5 ⟨I, u5, hx⟩
  have x0 : hcell h5 ⟨x, 0, none⟩ = some (ptr W) := hcell_of hx rfl
  have x1 : hcell h5 ⟨x, 1, none⟩ = some (.int .i64 i) := hcell_of hx rfl
  have x2 : hcell h5 ⟨x, 2, none⟩ = some (.bool out) := hcell_of hx rfl
  (repeat (first | refine EK.seq ?_ | refine ER.done ?_ | refine ER.assign rfl rfl rfl ?_))
  refine EK.regionAny (fun h' => h' = h5) ?_
  have hZ : h5 = h5 := rfl
  refine EA.tMove 0 rfl (by kernel_rfl) rfl rfl rfl rfl hZ ?_
  refine EA.tMove 1 rfl (by kernel_rfl) rfl rfl rfl rfl hZ ?_
  refine EA.tMove 2 rfl (by kernel_rfl) rfl rfl rfl rfl hZ ?_
  refine EA.tMove 3 rfl (by kernel_rfl) rfl rfl rfl rfl hZ ?_
  refine EA.tNil 4 rfl (by kernel_rfl) rfl rfl rfl rfl hZ ?_
  refine EA.tField 5 rfl (by kernel_rfl) rfl rfl rfl rfl hZ ?_
  refine EA.tLoad 6 rfl (by kernel_rfl) rfl rfl rfl rfl (fun _ hz => (by rw [hz]; exact x2)) hZ ?_
  refine EA.tNeqB (r := true) 7 rfl (by kernel_rfl) rfl rfl rfl rfl rfl (by cases out <;> rfl) hZ ?_
  refine EA.tPickF 8 rfl (by kernel_rfl) rfl rfl rfl rfl rfl hZ ?_
  refine EA.tMove 9 rfl (by kernel_rfl) rfl rfl rfl rfl hZ ?_
  refine EA.tMove 10 rfl (by kernel_rfl) rfl rfl rfl rfl hZ ?_
  refine EA.tMove 11 rfl (by kernel_rfl) rfl rfl rfl rfl hZ ?_
  refine EA.takeNo 12 rfl (by kernel_rfl) rfl rfl rfl hZ ?_
  refine EA.takeNo 13 rfl (by kernel_rfl) rfl rfl rfl hZ ?_
  refine EA.takeNo 14 rfl (by kernel_rfl) rfl rfl rfl hZ ?_
  refine EA.takeNo 15 rfl (by kernel_rfl) rfl rfl rfl hZ ?_
  refine EA.takeNo 16 rfl (by kernel_rfl) rfl rfl rfl hZ ?_
  refine EA.takeNo 17 rfl (by kernel_rfl) rfl rfl rfl hZ ?_
  refine EA.takeNo 18 rfl (by kernel_rfl) rfl rfl rfl hZ ?_
  refine EA.takeNo 19 rfl (by kernel_rfl) rfl rfl rfl hZ ?_
  refine EA.takeNo 20 rfl (by kernel_rfl) rfl rfl rfl hZ ?_
  refine EA.takeNo 21 rfl (by kernel_rfl) rfl rfl rfl hZ ?_
  refine EA.takeNo 22 rfl (by kernel_rfl) rfl rfl rfl hZ ?_
  refine EA.takeNo 23 rfl (by kernel_rfl) rfl rfl rfl hZ ?_
  refine EA.takeNo 24 rfl (by kernel_rfl) rfl rfl rfl hZ ?_
  refine EA.takeNo 25 rfl (by kernel_rfl) rfl rfl rfl hZ ?_
  refine EA.takeNo 26 rfl (by kernel_rfl) rfl rfl rfl hZ ?_
  refine EA.tPickF 27 rfl (by kernel_rfl) rfl rfl rfl rfl rfl hZ ?_
  refine EA.tPickF 28 rfl (by kernel_rfl) rfl rfl rfl rfl rfl hZ ?_
  refine EA.done (by kernel_rfl) ?_
  (repeat (first | refine EK.seq ?_ | refine EK.skip ?_ | refine EK.condF rfl ?_))
  refine EK.regionAny (fun h' => h' = h5) ?_
  refine EA.tMove 0 rfl (by kernel_rfl) rfl rfl rfl rfl hZ ?_
  refine EA.tNot 1 rfl (by kernel_rfl) rfl rfl rfl rfl hZ ?_
  refine EA.tMove 2 rfl (by kernel_rfl) rfl rfl rfl rfl hZ ?_
  refine EA.tMove 3 rfl (by kernel_rfl) rfl rfl rfl rfl hZ ?_
  refine EA.tNil 4 rfl (by kernel_rfl) rfl rfl rfl rfl hZ ?_
  refine EA.tField 5 rfl (by kernel_rfl) rfl rfl rfl rfl hZ ?_
  refine EA.tLoad 6 rfl (by kernel_rfl) rfl rfl rfl rfl (fun _ hz => (by rw [hz]; exact x0)) hZ ?_
  refine EA.tMove 7 rfl (by kernel_rfl) rfl rfl rfl rfl hZ ?_
  refine EA.tNil 8 rfl (by kernel_rfl) rfl rfl rfl rfl hZ ?_
  refine EA.tField 9 rfl (by kernel_rfl) rfl rfl rfl rfl hZ ?_
  refine EA.tLoad 10 rfl (by kernel_rfl) rfl rfl rfl rfl (fun _ hz => (by rw [hz]; exact x1)) hZ ?_
  refine EA.callD 11 rfl (by kernel_rfl) rfl rfl rfl rfl rfl rfl (fell_ok I) hZ ?_
  refine EA.tPickT 12 rfl (by kernel_rfl) rfl rfl rfl rfl rfl hZ ?_
  refine EA.done (by kernel_rfl) ?_
  (repeat (first | refine EK.skip ?_ | refine EK.condF rfl ?_))
  exact EK.done (EU.ret0 rfl ⟨rfl, ⟨q, I, N⟩, u5⟩)
end
end
end Go.Proofs.Ytcpcdnkemobneaa
