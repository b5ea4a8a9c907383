/- Steps of the walk and of the plain law (RunK to Row). Conditions: as each lemma says. -/
import Derived.Test.YtcpcdnkemobneaaDPC
section
namespace Go.Proofs.Ytcpcdnkemobneaa
open Go Go.TJ Go.Conc Go.Proofs
theorem ev_sub' {e env : Env} (hs : subE e env) {x : Operand} {v : Value} (hx : ev e x = some v) : ev env x = some v := by
  cases x with
  | tmp t => exact subE_look hs hx
  | const c => exact hx
  | global g => exact hx
  | func f => exact hx
section
variable {X : Us} {W : Nat → Prop} {s : Sls} {M : Mem Nm} {h : Hp} {γ : GG X}
set_option maxHeartbeats 4000000 in
set_option maxRecDepth 8000 in
theorem beginG (hX : X.Ok) {p0 : PS X.U} (hv : Mine X γ.p p0) {b : FuncId} {cap : Array Value} [HasBody Try.prog b] (g : GI X W p0 (nums p0.log) s M h) (hI : X.I p0.u h) (hJ : X.J p0.log p0.u p0.val) (hQ : ∀ x, X.Q x (ownOf x p0.log) (p0.st x) p0.u) (hs : p0.stops = false) (hlog : p0.log = []) (hn : p0.num < 64) (hfl : p0.fl = p0.num) (hW : ∀ c, h.size ≤ c → W c)
    (hbody : Body X p0.num b cap) (hQ0 : p0.st p0.num = .born) :
    CallW Try.prog true (SitM Try.prog (PX X)) 144 #[ptr p0.R, .func (.func b) #[] cap] h ⟨0, γ⟩ (Ret fun _ h' δ' => ∃ γ' t w sd bx bf br, δ' = ⟨0, γ'⟩ ∧ γ'.was = { p0.newT t w sd bx bf br (.func (.func b) #[] cap) with fl := p0.fl + 1 } ∧ γ'.W = W ∧ γ'.run = p0.num ∧ P0 X γ' h' ∧ Upd W h h' ∧ h.size ≤ γ'.base.size) := by
  obtain ⟨n, hnn⟩ : ∃ n, n = p0.num := ⟨_, rfl⟩
  obtain ⟨R, hRR⟩ : ∃ R, R = p0.R := ⟨_, rfl⟩
  have hrun := g.runAt
  have hthr := g.all .thr
  obtain ⟨aT, kT, eT⟩ := Mem.Sl.val hthr
  have hfell := g.all .fell
  obtain ⟨aF, kF, eF⟩ := Mem.Sl.val hfell
  have hnew : ∀ {c o}, h.size ≤ c → ¬ (SitM Try.prog (PX X)).still γ ⟨c, o, none⟩ := fun {c o} hc => stillM_new hv g hc
  have hRs : ∀ o, ¬ (SitM Try.prog (PX X)).still γ ⟨R, o, none⟩ := fun o => by
    have x := g.all .run
    rw [hRR, ← x.2.1]; exact stillM_nm hv g x.1 (fun j => ⟨nofun, nofun⟩)
  have hTs : ∀ c o, blk s.T = some c → ¬ (SitM Try.prog (PX X)).still γ ⟨c, o, none⟩ := fun c o hc => by
    obtain ⟨x1, x2⟩ := Mem.Sl.blk hthr hc
    rw [x2]; exact stillM_nm hv g x1 (fun j => ⟨nofun, nofun⟩)
  have hFs : ∀ c o, blk s.F = some c → ¬ (SitM Try.prog (PX X)).still γ ⟨c, o, none⟩ := fun c o hc => by
    obtain ⟨x1, x2⟩ := Mem.Sl.blk hfell hc
    rw [x2]; exact stillM_nm hv g x1 (fun j => ⟨nofun, nofun⟩)
  rw [← hRR] at hrun ⊢
  have hR0 : hcell h ⟨R, 0, none⟩ = some (.slice aT n kT) := by rw [hnn, ← eT]; exact hcell_of hrun rfl
  have hRlt := lt_of_get hrun
  refine CallW.start (n := 39) rfl rfl ?_
  clear hthr hfell
  (repeat (first | refine EK.seq ?_ | refine EK.region ?_ | refine ER.done ?_ | refine ER.assign rfl rfl rfl ?_ | refine ER.box rfl rfl rfl ?_))
  refine EK.regionAnyL (fun h' => hcell h' ⟨h.size, 0, none⟩ = some (ptr R) ∧ hcell h' ⟨R, 0, none⟩ = some (.slice aT n kT)) 11 ?_
  have hZ : hcell ((h.push (.cells (ptr R).cells 192)).push (.cells (Value.func (.func b) #[] cap).cells 45)) ⟨h.size, 0, none⟩ = some (ptr R) ∧ hcell ((h.push (.cells (ptr R).cells 192)).push (.cells (Value.func (.func b) #[] cap).cells 45)) ⟨R, 0, none⟩ = some (.slice aT n kT) :=
    ⟨hcell_push (hcell_of (get_push_new _ _) rfl), hcell_push (hcell_push hR0)⟩
  refine EA.tLoad 0 rfl (by kernel_rfl) rfl rfl rfl rfl (fun _ hz => hz.1) hZ ?_
  refine EA.tLoad 1 rfl (by kernel_rfl) rfl rfl rfl rfl (fun _ hz => hz.1) hZ ?_
  refine EA.tNil 2 rfl (by kernel_rfl) rfl rfl rfl rfl hZ ?_
  refine EA.tField 3 rfl (by kernel_rfl) rfl rfl rfl rfl hZ ?_
  refine EA.tLoad 4 rfl (by kernel_rfl) rfl rfl rfl rfl (fun _ hz => hz.2) hZ ?_
  refine EA.tLen1 5 rfl (by kernel_rfl) rfl rfl rfl rfl hZ ?_
  refine EA.listed (l' := lst false false false false false) (by kernel_rfl) ?_
  refine EA.chans2 (h0 := (h.push (.cells (ptr R).cells 192)).push (.cells (Value.func (.func b) #[] cap).cells 45)) (D := fun i => if i = 10 then 5 else i + 6) (e0 := fun i => if i = 2 then some (ptr h.size) else if i = 3 then some (ptr (h.size + 1)) else if i = 6 then some (ptr R) else if i = 11 then some (.int .i64 n) else none) (F := fun _ => none) (tc := 199) (ts := 202) (ta := 32)
    (cells := fun w q => #[ptr R, .int .i64 n, .chan (some w), .chan (some q), .pointer none, .int .i64 0, .int .i8 0, .int .i64 0, .int .i64 0, .int .i64 0, .int .i64 0, .int .i64 0, .bool false, .bool false])
    (by exact rfl) (by exact rfl) (by exact rfl) (by exact rfl) (by exact rfl) ?hr ?hD ?hDn ?he0 ?hZ ?hb ?fin 6 false false false false false _ _ rfl ?inv hZ
  case hr => intro a b c d e; cases a <;> cases b <;> cases c <;> cases d <;> cases e <;> kernel_rfl
  case hD => intro i j a1 a2 a3 a4 e; split at e <;> split at e <;> omega
  case hDn => intro i a1 a2; rcases (show i = 6 ∨ i = 7 ∨ i = 8 ∨ i = 9 ∨ i = 10 by omega) with rfl | rfl | rfl | rfl | rfl <;> rfl
  case he0 => intro i a1 a2; rcases (show i = 6 ∨ i = 7 ∨ i = 8 ∨ i = 9 ∨ i = 10 by omega) with rfl | rfl | rfl | rfl | rfl <;> rfl
  case hZ => exact fun h o x => ⟨hcell_push x.1, hcell_push x.2⟩
  case inv =>
    refine ⟨Made.none _, fun i v e => ?_, fun x => (by cases x), fun x => (by cases x), fun x => (by cases x), fun x => (by cases x), fun x => (by cases x), fun x => (by cases x), fun x => (by cases x)⟩
    split at e
    · rename_i e'; subst e'; exact e
    · split at e
      · rename_i e'; subst e'; rw [← e, show h.size + 1 = (h.push (.cells (ptr R).cells 192)).size by simp]; rfl
      · split at e
        · rename_i e'; subst e'; exact e
        · split at e
          · rename_i e'; subst e'; exact e
          · cases e
  case hb =>
    intro env w q ho hw hs ρ h' Q X hρ hq
    have hsub : subE [(6, ptr R), (11, .int .i64 n), (12, .chan (some w)), (13, .chan (some q))] env := ⟨ho 6 _ rfl, ho 11 _ rfl, hw, hs, trivial⟩
    exact sem_buildS (env := [(6, ptr R), (11, .int .i64 n), (12, .chan (some w)), (13, .chan (some q))]) (fun x v hx => hρ x v (ev_sub' hsub hx)) rfl rfl hq
  case fin =>
    intro env h1 F I hz
    obtain ⟨w, q, t, f6, f7, f9, l9⟩ := I.d1 rfl
    obtain ⟨p, f10, l10⟩ := I.e1 rfl
    have hsub : subE [(2, ptr h.size), (3, ptr (h.size + 1)), (5, ptr p), (15, ptr t)] env := ⟨I.old 2 _ rfl, I.old 3 _ rfl, l10, l9, trivial⟩
    refine EA.sub hsub ?_
    obtain ⟨g6, b6⟩ := I.made.has _ _ _ f6
    obtain ⟨g7, b7⟩ := I.made.has _ _ _ f7
    obtain ⟨g9, b9⟩ := I.made.has _ _ _ f9
    obtain ⟨g10, b10⟩ := I.made.has _ _ _ f10
    have n67 : w ≠ q := fun e => absurd (I.made.inj 6 7 _ _ _ f6 (by rw [e]; exact f7)) (by decide)
    have n610 : w ≠ p := fun e => absurd (I.made.inj 6 10 _ _ _ f6 (by rw [e]; exact f10)) (by decide)
    have n710 : q ≠ p := fun e => absurd (I.made.inj 7 10 _ _ _ f7 (by rw [e]; exact f10)) (by decide)
    have n910 : t ≠ p := fun e => absurd (I.made.inj 9 10 _ _ _ f9 (by rw [e]; exact f10)) (by decide)
    simp only [Array.size_push] at g6 g7 g9 g10
    have uA : Upd (fun _ => False) h h1 := ((Upd.push h _).trans (Upd.push _ _)).trans I.made.upd
    have c1 : h1[h.size]? = some (.cells #[ptr R] 192 (0, 0)) := I.made.upd.get (get_push _ (get_push_new _ _)) (fun x => x)
    have c2 : h1[h.size + 1]? = some (.cells #[.func (.func b) #[] cap] 45 (0, 0)) := I.made.upd.get (by
      have := get_push_new (h.push (.cells (ptr R).cells 192)) (.cells (Value.func (.func b) #[] cap).cells 45)
      rw [Array.size_push] at this
      exact this) (fun x => x)
    have hno : ∀ {c o}, h.size ≤ c → ¬ (SitM Try.prog (PX X)).still γ ⟨c, o, none⟩ := hnew
    refine EA.unitL (h' := hset h1 ⟨p, 0, none⟩ (ptr t)) 11 rfl (by kernel_rfl) rfl rfl rfl (fun ρ Q X hρ hq => sem_store1 (hρ _ _ rfl) (hρ _ _ rfl) ⟨nofun, nofun⟩ ⟨_, hcell_of b10 rfl⟩ (hfroz_of b10) (hno (by omega)) hq) ?_
    refine EA.done (by kernel_rfl) ?_
    rw [hset_block b10]
    have oldK : ∀ k, M.ok k → M.B k < h.size := fun k hk => g.lt hk
    have oC : ∀ b, X.isC b → b < h.size := fun b hb => lt_of_get (g.cel b hb).1
    have oD : ∀ b, X.Dom p0.u b → b < h.size := fun b hb => (g.dom b hb).1
    have oP : ∀ i, i < p0.num → ∀ q, q ∈ p0.prv i → q.1 < h.size := fun i hi q hq => lt_of_get (g.prv i hi q hq).1
    have gA := (g.upd0 uA).loose (x := p) (fun k hk e => by have := oldK k hk; omega) (fun hc => by have := oC _ hc; omega) (fun i hi q hq e => by have := oP i hi q hq; omega) (.cells (#[.pointer none].setIfInBounds 0 (ptr t)) 32 (0, 0))
    have uB := uA.over (Upd.set (T := fun b => b = p) h1 p (.cells (#[.pointer none].setIfInBounds 0 (ptr t)) 32 (0, 0)) rfl) (fun b hb => by omega)
    have d6 := (get_set_ne (.cells (#[.pointer none].setIfInBounds 0 (ptr t)) 32 (0, 0)) (Ne.symm n610)).trans b6
    have d7 := (get_set_ne (.cells (#[.pointer none].setIfInBounds 0 (ptr t)) 32 (0, 0)) (Ne.symm n710)).trans b7
    have d9 := (get_set_ne (.cells (#[.pointer none].setIfInBounds 0 (ptr t)) 32 (0, 0)) (Ne.symm n910)).trans b9
    have d1 := (get_set_ne (.cells (#[.pointer none].setIfInBounds 0 (ptr t)) 32 (0, 0)) (show p ≠ h.size by omega)).trans c1
    have d2 := (get_set_ne (.cells (#[.pointer none].setIfInBounds 0 (ptr t)) 32 (0, 0)) (show p ≠ h.size + 1 by omega)).trans c2
    have d10 : (h1.setIfInBounds p (.cells (#[.pointer none].setIfInBounds 0 (ptr t)) 32 (0, 0)))[p]? = some (.cells #[ptr t] 32 (0, 0)) := get_set_same b10
    generalize h1.setIfInBounds p (.cells (#[.pointer none].setIfInBounds 0 (ptr t)) 32 (0, 0)) = h2 at gA uB d6 d7 d9 d1 d2 d10 ⊢
    rw [hRR] at d1
    have e9 : h2[t]? = some (thrO p0.R p0.num w q (.pointer none) (accL 0 0 0 0 0 0 0 false) false) := by rw [← hRR, ← hnn]; exact d9
    obtain ⟨M1, gB, N⟩ := gA.newThr (n0 := h.size) e9 d6 d7 d10 d2 d1 n67 (by omega) (by omega) (by omega) (by omega) (by omega) (by omega) oldK oC oD oP hW
    rw [← hRR] at d1
    clear hz c1 c2 b6 b7 b9 b10 uA I d6 d7 d9 e9 gA
    (repeat refine EK.seq ?_)
    have hrunB := gB.runAt
    rw [← hRR] at hrunB
    have z1 : hcell h2 ⟨h.size, 0, none⟩ = some (ptr R) := hcell_of d1 rfl
    have z2 : hcell h2 ⟨R, 0, none⟩ = some (.slice aT n kT) := by rw [hnn, ← eT]; exact hcell_of hrunB rfl
    have z3 : hcell h2 ⟨p, 0, none⟩ = some (ptr t) := hcell_of d10 rfl
    refine EK.regionAnyL (fun h' => hcell h' ⟨h.size, 0, none⟩ = some (ptr R) ∧ hcell h' ⟨R, 0, none⟩ = some (.slice aT n kT) ∧ hcell h' ⟨p, 0, none⟩ = some (ptr t)) 10 ?_
    have hZ : hcell h2 ⟨h.size, 0, none⟩ = some (ptr R) ∧ hcell h2 ⟨R, 0, none⟩ = some (.slice aT n kT) ∧ hcell h2 ⟨p, 0, none⟩ = some (ptr t) := ⟨z1, z2, z3⟩
    refine EA.tLoad 0 rfl (by kernel_rfl) rfl rfl rfl rfl (fun _ hz => hz.1) hZ ?_
    refine EA.tLoad 1 rfl (by kernel_rfl) rfl rfl rfl rfl (fun _ hz => hz.1) hZ ?_
    refine EA.tNil 2 rfl (by kernel_rfl) rfl rfl rfl rfl hZ ?_
    refine EA.tField 3 rfl (by kernel_rfl) rfl rfl rfl rfl hZ ?_
    refine EA.tLoad 4 rfl (by kernel_rfl) rfl rfl rfl rfl (fun _ hz => hz.2.1) hZ ?_
    refine EA.tLoad 5 rfl (by kernel_rfl) rfl rfl rfl rfl (fun _ hz => hz.2.2) hZ ?_
    have hZ3 : _ ∧ _ ∧ _ := ⟨hcell_push (o := .cells #[ptr t] 32) z1, hcell_push (o := .cells #[ptr t] 32) z2, hcell_push (o := .cells #[ptr t] 32) z3⟩
    refine EA.val (v := .slice (some ⟨h2.size, 0, none⟩) 1 1) (h' := h2.push (.cells #[ptr t] 32)) 6 rfl (by kernel_rfl) rfl rfl rfl (fun ρ Q X hρ hq => sem_slice1 (sz := 1) hρ rfl (by omega) (by omega) rfl rfl hq) hZ3 ?_
    have gB2 := gB.upd0 (Upd.push h2 (.cells #[ptr t] 32))
    have uB2 := uB.trans (Upd.push h2 (.cells #[ptr t] 32))
    have hthr : M1.Sl .thr (.slice aT n kT) 32 1 n ((List.range n).map fun i => ptr (p0.tb i)) := by
      have := gB.all .thr
      rw [hnn, ← eT]; exact this
    have hsz2 := uB.size
    have hblk : ∀ c, blk (.slice aT n kT) = some c → ∃ k, M.ok k ∧ M.B k = c ∧ ∀ j, k ≠ .t j ∧ k ≠ .bx j := fun c hc => by
      have h0 : M.Sl .thr s.T 32 1 p0.num ((List.range p0.num).map fun i => ptr (p0.tb i)) := g.all .thr
      rw [eT, ← hnn] at h0
      obtain ⟨y1, y2⟩ := h0.blk hc
      exact ⟨_, y1, y2.symm, fun j => ⟨nofun, nofun⟩⟩
    refine EA.append1 (new := [ptr t]) 7 rfl (by kernel_rfl) rfl rfl rfl rfl rfl (hthr.slice gB2.rep) (get_push_new _ _) rfl (by simp [OneCell]) (by omega) (by omega) rfl (fun c o hc => ?_) ?_
    · obtain ⟨k, hk, e, hne⟩ := hblk c hc
      rw [← e]; exact stillM_nm hv g hk hne
    intro s3 h3 sl3 u3 hb3
    have nb3 : ∀ c, (∀ k, M1.ok k → k ≠ .thr → M1.B k = c → ¬ blk (.slice aT n kT) = some c) := fun c k hk hne e hc => by
      obtain ⟨y1, y2⟩ := hthr.blk hc
      exact gB2.ne hk y1 hne (e.trans y2)
    have hrB := gB2.all .run
    have nR3 : ¬ blk (.slice aT n kT) = some R := nb3 R .run hrB.1 nofun (hrB.2.1.trans hRR.symm)
    have nbr3 : ¬ blk (.slice aT n kT) = some h.size := nb3 _ _ N.nbr.1 nofun N.nbr.2.1
    have nbx3 : ¬ blk (.slice aT n kT) = some p := nb3 _ _ N.nbx.1 nofun N.nbx.2.1
    have z1' := u3.hcell hZ3.1 nbr3
    have z2' := u3.hcell hZ3.2.1 nR3
    have z3' := u3.hcell hZ3.2.2 nbx3
    have hrun3 := u3.get ((Upd.push (T := fun _ => False) h2 (.cells #[ptr t] 32)).get hrunB (fun x => x)) nR3
    refine ⟨⟨z1', z2', z3'⟩, ?_⟩
    obtain ⟨aA, kA, eA⟩ := sl3.val
    refine EA.val 8 rfl (by kernel_rfl) rfl rfl rfl (fun ρ Q X hρ hq => sem_nilCheck (hρ _ _ rfl) hq) ⟨z1', z2', z3'⟩ ?_
    have hZ := And.intro z1' (And.intro z2' z3')
    refine EA.tField 9 rfl (by kernel_rfl) rfl rfl rfl rfl hZ ?_
    refine EA.unitL (h' := hset h3 ⟨R, 0, none⟩ s3) 10 rfl (by kernel_rfl) rfl rfl rfl (fun ρ Q X hρ hq => sem_store1 (hρ _ _ rfl) (hρ _ _ rfl) (by rw [eA]; exact ⟨nofun, nofun⟩) ⟨_, z2'⟩ (hfroz_of hrun3) (hRs _) hq) ?_
    refine EA.done (by kernel_rfl) ?_
    obtain ⟨M2, gC⟩ := gB2.app (p' := p0.newT t w q p (h.size + 1) h.size (.func (.func b) #[] cap)) (sl := { s with T := s3 }) .thr hthr sl3 u3 hb3 (fun c hc => hW c (Nat.le_trans uB2.size hc)) nofun rfl rfl (fun i hi x hx => by
      change x ∈ ut p0.prv p0.num [] i at hx
      have hi' : i < p0.num + 1 := hi
      by_cases e : i = p0.num
      · rw [e, ut_same] at hx; cases hx
      · rw [ut_ne _ _ e] at hx; exact ⟨by omega, hx⟩) rfl rfl rfl (fun k' h1 h2 => nm_newT gB2 N s3 k' h1 h2) (fun N' y => by
      show N'.Sl .thr s3 32 1 (p0.num + 1) ((List.range (p0.num + 1)).map fun i => ptr (ut p0.tb p0.num t i))
      rw [List.range_succ, List.map_append, List.map_singleton, ut_same]
      rw [hnn] at y
      have : (List.range p0.num).map (fun i => ptr (ut p0.tb p0.num t i)) = (List.range p0.num).map fun i => ptr (p0.tb i) := List.map_congr_left fun i hi => by
        rw [ut_ne _ _ (by have := List.mem_range.1 hi; omega)]
      rw [this]; exact y) g.isin
    rw [← hRR] at gC
    have eC : hset h3 ⟨R, 0, none⟩ s3 = h3.setIfInBounds R (runO { s with T := s3 } p0.mb p0.stops) := hset_block hrun3 _
    rw [eC]
    have u4 : Upd (fun c => blk (.slice aT n kT) = some c ∨ c = R) h (h3.setIfInBounds R (runO { s with T := s3 } p0.mb p0.stops)) := ((uB2.mono (T' := fun c => blk (.slice aT n kT) = some c ∨ c = R) fun _ _ x => x.elim).trans (u3.mono fun _ _ x => .inl x)).trans (Upd.set _ _ _ (.inr rfl))
    generalize h3.setIfInBounds R (runO { s with T := s3 } p0.mb p0.stops) = h4 at gC u4 ⊢
    clear hZ hZ3 z1 z2 z3 z1' z2' z3' gB gB2 uB uB2 sl3 u3 hb3 hrunB hrun3 eC d1 d10 N nb3 nR3 nbr3 nbx3 hrB eA hthr
    (repeat refine EK.seq ?_)
    have hrunC : h4[R]? = some (runO { s with T := s3 } p0.mb p0.stops) := by rw [hRR]; exact gC.runAt
    have hbrC : h4[h.size]? = some (.cells #[ptr R] 192 (0, 0)) := by
      have := gC.brAt (i := p0.num) (Nat.lt_succ_self _)
      rw [show (p0.newT t w q p (h.size + 1) h.size (.func (.func b) #[] cap)).br p0.num = h.size from ut_same _ _ _] at this
      rw [hRR]; exact this
    have z1 : hcell h4 ⟨h.size, 0, none⟩ = some (ptr R) := hcell_of hbrC rfl
    have z2 : hcell h4 ⟨R, 5, none⟩ = some (.slice aF n kF) := by rw [hnn, ← hfl, ← eF]; exact hcell_of hrunC rfl
    refine EK.regionAnyL (fun h' => hcell h' ⟨h.size, 0, none⟩ = some (ptr R) ∧ hcell h' ⟨R, 5, none⟩ = some (.slice aF n kF)) 9 ?_
    have hZ := And.intro z1 z2
    refine EA.tLoad 0 rfl (by kernel_rfl) rfl rfl rfl rfl (fun _ hz => hz.1) hZ ?_
    refine EA.tLoad 1 rfl (by kernel_rfl) rfl rfl rfl rfl (fun _ hz => hz.1) hZ ?_
    refine EA.tNil 2 rfl (by kernel_rfl) rfl rfl rfl rfl hZ ?_
    refine EA.tField 3 rfl (by kernel_rfl) rfl rfl rfl rfl hZ ?_
    refine EA.tLoad 4 rfl (by kernel_rfl) rfl rfl rfl rfl (fun _ hz => hz.2) hZ ?_
    have hZ3 : _ ∧ _ := ⟨hcell_push (o := .cells #[.bool false] 4) z1, hcell_push (o := .cells #[.bool false] 4) z2⟩
    refine EA.val (v := .slice (some ⟨h4.size, 0, none⟩) 1 1) (h' := h4.push (.cells #[.bool false] 4)) 5 rfl (by kernel_rfl) rfl rfl rfl (fun ρ Q X hρ hq => sem_slice1 (sz := 1) hρ rfl (by omega) (by omega) rfl rfl hq) hZ3 ?_
    have gD := gC.upd0 (Upd.push h4 (.cells #[.bool false] 4))
    have uD := u4.trans (Upd.push h4 (.cells #[.bool false] 4))
    have hfell : M2.Sl .fell (.slice aF n kF) 4 1 n (List.replicate n (.bool false)) := by
      have := gC.all .fell
      rw [hnn, ← hfl, ← eF]; exact this
    have hblkF : ∀ c, blk (.slice aF n kF) = some c → ∃ k, M.ok k ∧ M.B k = c ∧ ∀ j, k ≠ .t j ∧ k ≠ .bx j := fun c hc => by
      have h0 : M.Sl .fell s.F 4 1 p0.fl (List.replicate p0.fl (.bool false)) := g.all .fell
      rw [eF, hfl, ← hnn] at h0
      obtain ⟨y1, y2⟩ := h0.blk hc
      exact ⟨_, y1, y2.symm, fun j => ⟨nofun, nofun⟩⟩
    refine EA.append1 (new := [.bool false]) 6 rfl (by kernel_rfl) rfl rfl rfl rfl rfl (hfell.slice gD.rep) (get_push_new _ _) rfl (by simp [OneCell]) (by omega) (by omega) rfl (fun c o hc => ?_) ?_
    · obtain ⟨k, hk, e, hne⟩ := hblkF c hc
      rw [← e]; exact stillM_nm hv g hk hne
    intro s5 h5 sl5 u5 hb5
    have nb5 : ∀ c, (∀ k, M2.ok k → k ≠ .fell → M2.B k = c → ¬ blk (.slice aF n kF) = some c) := fun c k hk hne e hc => by
      obtain ⟨y1, y2⟩ := hfell.blk hc
      exact gD.ne hk y1 hne (e.trans y2)
    have hrD := gD.all .run
    have hbrD := gD.all (.br p0.num) (Nat.lt_succ_self _)
    have nR5 : ¬ blk (.slice aF n kF) = some R := nb5 R .run hrD.1 nofun (hrD.2.1.trans hRR.symm)
    have nbr5 : ¬ blk (.slice aF n kF) = some h.size := nb5 _ _ hbrD.1 nofun (hbrD.2.1.trans (ut_same _ _ _))
    have z1' := u5.hcell hZ3.1 nbr5
    have z2' := u5.hcell hZ3.2 nR5
    have hrun5 := u5.get ((Upd.push (T := fun _ => False) h4 (.cells #[.bool false] 4)).get hrunC (fun x => x)) nR5
    refine ⟨⟨z1', z2'⟩, ?_⟩
    obtain ⟨aA, kA, eA⟩ := sl5.val
    refine EA.val 7 rfl (by kernel_rfl) rfl rfl rfl (fun ρ Q X hρ hq => sem_nilCheck (hρ _ _ rfl) hq) ⟨z1', z2'⟩ ?_
    have hZ := And.intro z1' z2'
    refine EA.tField 8 rfl (by kernel_rfl) rfl rfl rfl rfl hZ ?_
    refine EA.unitL (h' := hset h5 ⟨R, 5, none⟩ s5) 9 rfl (by kernel_rfl) rfl rfl rfl (fun ρ Q X hρ hq => sem_store1 (hρ _ _ rfl) (hρ _ _ rfl) (by rw [eA]; exact ⟨nofun, nofun⟩) ⟨_, z2'⟩ (hfroz_of hrun5) (hRs _) hq) ?_
    refine EA.done (by kernel_rfl) ?_
    obtain ⟨M3, gE⟩ := gD.app (p' := { p0.newT t w q p (h.size + 1) h.size (.func (.func b) #[] cap) with fl := p0.fl + 1 }) (sl := { s with T := s3, F := s5 }) .fell hfell sl5 u5 hb5 (fun c hc => hW c (Nat.le_trans uD.size hc)) nofun rfl rfl (fun i hi x hx => ⟨hi, hx⟩) rfl rfl rfl (fun k' h1 h2 => by
      have y := gD.all k'
      cases k' with
      | fell => exact absurd rfl h1
      | run => exact absurd rfl h2
      | _ => exact y) (fun N' y => by
      show N'.Sl .fell s5 4 1 (p0.fl + 1) (List.replicate (p0.fl + 1) (.bool false))
      rw [List.replicate_succ', hfl, ← hnn]; exact y) gD.isin
    have eE : hset h5 ⟨R, 5, none⟩ s5 = h5.setIfInBounds R (runO { s with T := s3, F := s5 } p0.mb p0.stops) := hset_block hrun5 _
    have eRn : (p0.newT t w q p (h.size + 1) h.size (.func (.func b) #[] cap)).R = R := hRR.symm
    have e6 : h5.setIfInBounds (p0.newT t w q p (h.size + 1) h.size (.func (.func b) #[] cap)).R (runO { s with T := s3, F := s5 } (p0.newT t w q p (h.size + 1) h.size (.func (.func b) #[] cap)).mb (p0.newT t w q p (h.size + 1) h.size (.func (.func b) #[] cap)).stops) = h5.setIfInBounds R (runO { s with T := s3, F := s5 } p0.mb p0.stops) := by rw [eRn]; rfl
    rw [e6] at gE
    rw [eE]
    have u6 : Upd (fun c => (∃ k, M.ok k ∧ M.B k = c)) h (h5.setIfInBounds R (runO { s with T := s3, F := s5 } p0.mb p0.stops)) := by
      have hR' : ∃ k, M.ok k ∧ M.B k = R := ⟨.run, (g.all .run).1, (g.all .run).2.1.trans hRR.symm⟩
      refine ((uD.mono fun c _ hc => ?_).trans (u5.mono fun c _ hc => ?_)).trans (Upd.set _ _ _ hR')
      · rcases hc with hc | rfl
        · obtain ⟨k, hk, e, _⟩ := hblk c hc; exact ⟨k, hk, e⟩
        · exact hR'
      · obtain ⟨k, hk, e, _⟩ := hblkF c hc; exact ⟨k, hk, e⟩
    generalize h5.setIfInBounds R (runO { s with T := s3, F := s5 } p0.mb p0.stops) = h6 at gE u6 ⊢
    clear hZ hZ3 z1 z2 z1' z2' gC gD uD sl5 u5 hb5 hrunC hrun5 eE nb5 nR5 nbr5 hrD hbrD eA hfell hblk hblkF u4 hbrC
    obtain ⟨p2, hp2⟩ : ∃ p2 : PS X.U, p2 = { p0.newT t w q p (h.size + 1) h.size (.func (.func b) #[] cap) with fl := p0.fl + 1 } := ⟨_, rfl⟩
    have k1 : p2.num = p0.num + 1 := by rw [hp2]; rfl
    have k2 : p2.R = p0.R := by rw [hp2]; rfl
    have k3 : p2.tb = ut p0.tb p0.num t := by rw [hp2]; rfl
    have k4 : p2.wk = ut p0.wk p0.num w := by rw [hp2]; rfl
    have k5 : p2.sd = ut p0.sd p0.num q := by rw [hp2]; rfl
    have k6 : p2.bx = ut p0.bx p0.num p := by rw [hp2]; rfl
    have k7 : p2.bf = ut p0.bf p0.num (h.size + 1) := by rw [hp2]; rfl
    have k8 : p2.br = ut p0.br p0.num h.size := by rw [hp2]; rfl
    have k9 : p2.fn = ut p0.fn p0.num (.func (.func b) #[] cap) := by rw [hp2]; rfl
    have k10 : p2.st = ut p0.st p0.num .born := by rw [hp2]; rfl
    have k11 : p2.gone = ut p0.gone p0.num false := by rw [hp2]; rfl
    have k12 : p2.prv = ut p0.prv p0.num [] := by rw [hp2]; rfl
    have k13 : p2.log = p0.log := by rw [hp2]; rfl
    have k14 : p2.u = p0.u := by rw [hp2]; rfl
    have k15 : p2.val = p0.val := by rw [hp2]; rfl
    have k16 : p2.stops = p0.stops := by rw [hp2]; rfl
    have gF : GI X W p2 (nums p2.log) { s with T := s3, F := s5 } M3 h6 := by rw [hp2]; exact gE
    have hP2 : p2 = { p0.newT t w q p (h.size + 1) h.size (.func (.func b) #[] cap) with fl := p0.fl + 1 } := hp2
    clear gE hp2
    have hlt2 : p0.num < p2.num := by rw [k1]; exact Nat.lt_succ_self _
    (repeat (first | refine EK.seq ?_ | refine EK.region ?_))
    refine ER.makeFunc (fv := #[]) (cv := #[ptr h.size, ptr p, ptr (h.size + 1)]) rfl rfl (fun ρ hρ => ⟨map_ofL hρ (vs := []) rfl, map_ofL hρ (vs := [ptr h.size, ptr p, ptr (h.size + 1)]) rfl⟩) ?_
    refine ER.goes (X := PX X) (γ₁ := { γ with p := p2, run := p0.num }) rfl rfl rfl (by show p2.num + 1 = γ.p.num + 1 + 1; rw [k1, hv.num]) ?oth ?sit ?_
    case oth =>
      intro x hx hl
      cases x with
      | zero => exact absurd rfl hx
      | succ j =>
        have hjl : j < γ.p.num := Nat.lt_of_succ_lt_succ hl
        have hj : j ≠ p0.num := by rw [hv.num]; omega
        have v1 := hv.view hX hjl
        have v2 : View X j p0 p2 := ⟨by rw [k1]; omega, k2, (congrFun k3 j).trans (ut_ne _ _ hj), (congrFun k4 j).trans (ut_ne _ _ hj), (congrFun k5 j).trans (ut_ne _ _ hj), (congrFun k6 j).trans (ut_ne _ _ hj), (congrFun k7 j).trans (ut_ne _ _ hj), (congrFun k8 j).trans (ut_ne _ _ hj), (congrFun k9 j).trans (ut_ne _ _ hj), (congrFun k10 j).trans (ut_ne _ _ hj), (congrFun k11 j).trans (ut_ne _ _ hj), (congrFun k12 j).trans (ut_ne _ _ hj), by rw [k13], by rw [k14]; exact hX.vrefl _ _⟩
        have v := v1.trans hX v2
        refine ⟨?_, ?_, v⟩
        · show (if p2.gone j = true then none else some (p2.wk j)) = (if γ.p.gone j = true then none else some (γ.p.wk j))
          rw [v.gone, v.wk]
        · show cT _ j = cT γ j
          funext a
          show (if a = ⟨p2.tb j, 2, none⟩ then some (Value.chan (some (p2.wk j))) else if a = ⟨p2.bx j, 0, none⟩ then some (.pointer (some ⟨p2.tb j, 0, none⟩)) else none) = (if a = ⟨γ.p.tb j, 2, none⟩ then some (Value.chan (some (γ.p.wk j))) else if a = ⟨γ.p.bx j, 0, none⟩ then some (.pointer (some ⟨γ.p.tb j, 0, none⟩)) else none)
          rw [v.tb, v.wk, v.bx]
    case sit =>
      rw [show (PX X).num γ = p0.num + 1 by show γ.p.num + 1 = _; rw [hv.num]]
      have := childG (γ := { γ with p := p2, run := p0.num }) (i := p0.num) (b := b) (cap := cap) hX gF hlt2 (by show p2.gone _ = _; rw [k11, ut_same]) (by show p2.st _ = _; rw [k10, ut_same]) (by show p2.prv _ = _; rw [k12, ut_same]) (by show ownOf _ p2.log = _; rw [k13, hlog]; rfl) (by show p2.fn _ = _; rw [k9, ut_same]) ?_ hbody
      · dsimp only at this
        rw [k8, k6, k7, ut_same, ut_same, ut_same] at this
        exact this
      · intro x hx hl e
        have wn := gF.all (.wk p0.num) hlt2
        cases x with
        | zero =>
          have e' : p2.sd p0.num = p2.wk p0.num := Option.some.inj e
          have sn := gF.all (.sd p0.num) hlt2
          exact gF.ne wn.1 sn.1 nofun (wn.2.1.trans (e'.symm.trans sn.2.1.symm))
        | succ j =>
          change (if p2.gone j = true then none else some (p2.wk j)) = some (p2.wk p0.num) at e
          split at e
          · cases e
          · have e' := Option.some.inj e
            have hj : j ≠ p0.num := fun e => hx (by rw [e])
            have wj := gF.all (.wk j) (Nat.lt_of_succ_lt_succ hl)
            exact gF.ne wj.1 wn.1 (fun z => hj (by injection z)) (wj.2.1.trans (e'.trans wn.2.1.symm))
    have z5 : hcell h6 ⟨p, 0, none⟩ = some (ptr (p2.tb p0.num)) := by
      have := gF.bxAt hlt2
      rw [k6, ut_same] at this
      exact hcell_of this rfl
    have I6 : X.I p2.u h6 := by
      rw [k14]
      exact hX.loc _ _ _ (fun c hc => u6.2 c (g.dom c hc).1 (fun ⟨k, hk, e⟩ => (g.apart k hk).2 (e ▸ hc))) hI
    (repeat (first | refine EK.seq ?_ | refine EK.region ?_ | refine ER.done ?_))
    refine ER.load1 rfl rfl rfl z5 ?_
    refine ER.callR rfl rfl rfl rfl rfl (goesG (γ := { γ with p := p2, run := p0.num }) (j := p0.num) hX (Mine.refl _) gF I6 (by rw [k13, k14, k15]; exact hJ) (fun x => ?_) hlt2 (by rw [k11, ut_same]) (fun _ => by rw [k13, hlog]; decide) (fun _ => k16.trans hs)) ?_
    · have e : ut p0.st p0.num .born = p0.st := by rw [← hQ0]; exact ut_self _ _
      rw [k13, k10, k14, e]; exact hQ x
    rintro v h7 δ7 ⟨γ', rfl, e1, e2, e3, e4, hP⟩
    have hP' := hP
    obtain ⟨y1, y2, y3⟩ := hP'
    obtain ⟨s7, M7, g7⟩ := y3.gi
    obtain ⟨t1, t2, t3, t4, t5, t6, t7, t8, _⟩ := turned_same y2
    have z7 : hcell h7 ⟨p, 0, none⟩ = some (ptr (γ'.p.tb p0.num)) := by
      have := g7.bxAt (i := p0.num) (by rw [t3, e1]; exact hlt2)
      rw [t8, e1, k6, ut_same] at this
      exact hcell_of this rfl
    (repeat (first | refine EK.seq ?_ | refine EK.region ?_ | refine ER.done ?_))
    refine ER.load1 rfl rfl rfl z7 ?_
    (repeat (first | refine ER.done ?_ | refine ER.assign rfl rfl rfl ?_ | refine EK.ret ?_))
    refine EU.ret1 rfl rfl ⟨γ', t, w, q, p, h.size + 1, h.size, rfl, e1.trans hP2, e3, e4, hP, ?_, by rw [e2]; exact u6.size⟩
    have u7 := y3.upd
    rw [e2, e3] at u7
    exact (u6.mono fun c _ ⟨k, hk, e⟩ => e ▸ g.wide k hk).trans u7
end
end Go.Proofs.Ytcpcdnkemobneaa
end
section
namespace Go.Proofs.Ytcpcdnkemobneaa
open Go Go.TJ Go.Conc Go.Proofs
section
variable {X : Us} {W : Nat → Prop} {p : PS X.U} {ns : List Nat} {s : Sls} {M : Mem Nm} {h : Hp} {γ : GG X}
def PS.live {U : Type} (p : PS U) (k : Nat) : List Nat := (List.range k).filter (fun j => !p.gone j)
theorem live_yes {U : Type} {p : PS U} {k : Nat} (hg : p.gone k = false) : p.live (k + 1) = p.live k ++ [k] := by
  unfold PS.live
  rw [List.range_succ, List.filter_append]
  simp [hg]
theorem live_no {U : Type} {p : PS U} {k : Nat} (hg : p.gone k = true) : p.live (k + 1) = p.live k := by
  unfold PS.live
  rw [List.range_succ, List.filter_append]
  simp [hg]
section
variable {Γ : Type} {main : Bool} {S : Sit Γ} {δ : Ix Γ}
set_option maxHeartbeats 1000000 in
theorem can_gone {t : Nat} (h1 : hcell h ⟨t, 13, none⟩ = some (.bool true)) : CallW Try.prog main S 176 #[ptr t] h δ (Ret (Det (.bool false) h δ)) := by
  refine CallW.start (n := 29) rfl rfl ?_
  (repeat (first | refine EK.seq ?_ | refine EK.region ?_ | refine ER.done ?_ | refine ER.assign rfl rfl rfl ?_))
  refine EK.regionAnyL (fun h' => hcell h' ⟨t, 13, none⟩ = some (.bool true)) 26 ?_
  have hZ := h1
  refine EA.tMove 0 rfl (by kernel_rfl) rfl rfl rfl rfl hZ ?_
  refine EA.tNil 1 rfl (by kernel_rfl) rfl rfl rfl rfl hZ ?_
  refine EA.tField 2 rfl (by kernel_rfl) rfl rfl rfl rfl hZ ?_
  refine EA.tLoad 3 rfl (by kernel_rfl) rfl rfl rfl rfl (fun _ hz => hz) hZ ?_
  refine EA.tNot 4 rfl (by kernel_rfl) rfl rfl rfl rfl hZ ?_
  refine EA.tMove 5 rfl (by kernel_rfl) rfl rfl rfl rfl hZ ?_
  refine EA.takeNo 6 rfl (by kernel_rfl) rfl rfl rfl hZ ?_
  refine EA.takeNo 7 rfl (by kernel_rfl) rfl rfl rfl hZ ?_
  refine EA.takeNo 8 rfl (by kernel_rfl) rfl rfl rfl hZ ?_
  refine EA.takeNo 9 rfl (by kernel_rfl) rfl rfl rfl hZ ?_
  refine EA.takeNo 10 rfl (by kernel_rfl) rfl rfl rfl hZ ?_
  refine EA.takeNo 11 rfl (by kernel_rfl) rfl rfl rfl hZ ?_
  refine EA.takeNo 12 rfl (by kernel_rfl) rfl rfl rfl hZ ?_
  refine EA.takeNo 13 rfl (by kernel_rfl) rfl rfl rfl hZ ?_
  refine EA.takeNo 14 rfl (by kernel_rfl) rfl rfl rfl hZ ?_
  refine EA.takeNo 15 rfl (by kernel_rfl) rfl rfl rfl hZ ?_
  refine EA.takeNo 16 rfl (by kernel_rfl) rfl rfl rfl hZ ?_
  refine EA.takeNo 17 rfl (by kernel_rfl) rfl rfl rfl hZ ?_
  refine EA.takeNo 18 rfl (by kernel_rfl) rfl rfl rfl hZ ?_
  refine EA.takeNo 19 rfl (by kernel_rfl) rfl rfl rfl hZ ?_
  refine EA.takeNo 20 rfl (by kernel_rfl) rfl rfl rfl hZ ?_
  refine EA.takeNo 21 rfl (by kernel_rfl) rfl rfl rfl hZ ?_
  refine EA.takeNo 22 rfl (by kernel_rfl) rfl rfl rfl hZ ?_
  refine EA.takeNo 23 rfl (by kernel_rfl) rfl rfl rfl hZ ?_
  refine EA.takeNo 24 rfl (by kernel_rfl) rfl rfl rfl hZ ?_
  refine EA.tPickF 25 rfl (by kernel_rfl) rfl rfl rfl rfl rfl hZ ?_
  refine EA.tAssign 26 rfl (by kernel_rfl) rfl rfl rfl rfl hZ ?_
  refine EA.done (by kernel_rfl) ?_
  (repeat refine EK.ret ?_)
  exact EU.ret1 rfl rfl det
set_option maxHeartbeats 1000000 in
theorem can_live {t : Nat} {o : Int} (h1 : hcell h ⟨t, 13, none⟩ = some (.bool false)) (h2 : hcell h ⟨t, 6, none⟩ = some (.int .i8 o)) (ho : o ≠ 6) : CallW Try.prog main S 176 #[ptr t] h δ (Ret (Det (.bool true) h δ)) := by
  refine CallW.start (n := 29) rfl rfl ?_
  (repeat (first | refine EK.seq ?_ | refine EK.region ?_ | refine ER.done ?_ | refine ER.assign rfl rfl rfl ?_))
  refine EK.regionAnyL (fun h' => hcell h' ⟨t, 13, none⟩ = some (.bool false) ∧ hcell h' ⟨t, 6, none⟩ = some (.int .i8 o)) 26 ?_
  have hZ := And.intro h1 h2
  refine EA.tMove 0 rfl (by kernel_rfl) rfl rfl rfl rfl hZ ?_
  refine EA.tNil 1 rfl (by kernel_rfl) rfl rfl rfl rfl hZ ?_
  refine EA.tField 2 rfl (by kernel_rfl) rfl rfl rfl rfl hZ ?_
  refine EA.tLoad 3 rfl (by kernel_rfl) rfl rfl rfl rfl (fun _ hz => hz.1) hZ ?_
  refine EA.tNot 4 rfl (by kernel_rfl) rfl rfl rfl rfl hZ ?_
  refine EA.tMove 5 rfl (by kernel_rfl) rfl rfl rfl rfl hZ ?_
  refine EA.tMove 6 rfl (by kernel_rfl) rfl rfl rfl rfl hZ ?_
  refine EA.tNil 7 rfl (by kernel_rfl) rfl rfl rfl rfl hZ ?_
  refine EA.tField 8 rfl (by kernel_rfl) rfl rfl rfl rfl hZ ?_
  refine EA.tField 9 rfl (by kernel_rfl) rfl rfl rfl rfl hZ ?_
  refine EA.tLoad 10 rfl (by kernel_rfl) rfl rfl rfl rfl (fun _ hz => hz.2) hZ ?_
  refine EA.tCmpT 11 rfl (by kernel_rfl) rfl rfl rfl rfl rfl rfl (by first | (dsimp only [cmpP]; omega) | exact rfl | exact Int.le_refl _) hZ ?_
  refine EA.tMove 12 rfl (by kernel_rfl) rfl rfl rfl rfl hZ ?_
  refine EA.takeNo 13 rfl (by kernel_rfl) rfl rfl rfl hZ ?_
  refine EA.takeNo 14 rfl (by kernel_rfl) rfl rfl rfl hZ ?_
  refine EA.takeNo 15 rfl (by kernel_rfl) rfl rfl rfl hZ ?_
  refine EA.takeNo 16 rfl (by kernel_rfl) rfl rfl rfl hZ ?_
  refine EA.takeNo 17 rfl (by kernel_rfl) rfl rfl rfl hZ ?_
  refine EA.takeNo 18 rfl (by kernel_rfl) rfl rfl rfl hZ ?_
  refine EA.takeNo 19 rfl (by kernel_rfl) rfl rfl rfl hZ ?_
  refine EA.takeNo 20 rfl (by kernel_rfl) rfl rfl rfl hZ ?_
  refine EA.takeNo 21 rfl (by kernel_rfl) rfl rfl rfl hZ ?_
  refine EA.takeNo 22 rfl (by kernel_rfl) rfl rfl rfl hZ ?_
  refine EA.takeNo 23 rfl (by kernel_rfl) rfl rfl rfl hZ ?_
  refine EA.tPickT 24 rfl (by kernel_rfl) rfl rfl rfl rfl rfl hZ ?_
  refine EA.tPickT 25 rfl (by kernel_rfl) rfl rfl rfl rfl rfl hZ ?_
  refine EA.tAssign 26 rfl (by kernel_rfl) rfl rfl rfl rfl hZ ?_
  refine EA.done (by kernel_rfl) ?_
  (repeat refine EK.ret ?_)
  exact EU.ret1 rfl rfl det
end
theorem GI.thrCell (g : GI X W p ns s M h) {i : Nat} (hi : i < p.num) : ∃ b k, s.T = .slice (some ⟨b, 0, none⟩) p.num k ∧ hcell h ⟨b, 0 + i * 1, none⟩ = some (ptr (p.tb i)) ∧ M.ok .thr ∧ b = M.B .thr := by
  have x : M.Sl .thr s.T 32 1 p.num ((List.range p.num).map fun i => ptr (p.tb i)) := g.all .thr
  obtain ⟨cap, e, hk, hc, _⟩ := x.cell g.rep (by omega)
  refine ⟨_, cap, e, ?_, hk, rfl⟩
  rw [Nat.zero_add, Nat.mul_one]
  refine hc i _ ?_
  simp [hi]
set_option maxHeartbeats 4000000 in
set_option maxRecDepth 8000 in
theorem ableG (hv : Mine X γ.p p) (g : GI X W p ns s M h) (hn : p.num ≤ 64) (hst : ∀ j, j < p.num → p.gone j = false → ∃ r, p.st j = .stands r ∧ RqOk X r) :
    CallW Try.prog true (SitM Try.prog (PX X)) 145 #[ptr p.R] h ⟨0, γ⟩ (Ret fun v h' δ' => δ' = ⟨0, γ⟩ ∧ ∃ lv, v = .tuple #[lv, .bool (p.live p.num).isEmpty] ∧ Upd (fun _ => False) h h' ∧ SliceO h' lv 32 1 (p.live p.num).length ((p.live p.num).map fun j => ptr (p.tb j)) ∧ ∀ b, blk lv = some b → h.size ≤ b) := by
  obtain ⟨aT, kT, eT⟩ := Mem.Sl.val (show M.Sl .thr s.T 32 1 p.num ((List.range p.num).map fun i => ptr (p.tb i)) from g.all .thr)
  have hrun := g.runAt
  have hR0 : hcell h ⟨p.R, 0, none⟩ = some (.slice aT p.num kT) := by rw [← eT]; exact hcell_of hrun rfl
  refine CallW.start (n := 31) rfl rfl ?_
  clear hrun
  (repeat (first | refine EK.seq ?_ | refine EK.region ?_ | refine ER.done ?_ | refine EK.block ?_ | refine ER.move rfl rfl rfl ?_ | refine ER.assign rfl rfl rfl ?_ | refine ER.nilCheck rfl rfl rfl ?_ | refine ER.fieldAddr rfl rfl rfl ?_ | refine ER.len1 rfl rfl rfl ?_ | refine ER.load1 rfl rfl rfl (by assumption) ?_))
  refine EK.loopInv (fun q : Nat × Value => [(11, .int .i64 q.1), (2, q.2), (3, .bool (p.live q.1).isEmpty), (9, .slice aT p.num kT), (10, .int .i64 p.num)]) (fun q h' δ' => q.1 ≤ p.num ∧ δ' = ⟨0, γ⟩ ∧ Upd (fun _ => False) h h' ∧ SliceO h' q.2 32 1 (p.live q.1).length ((p.live q.1).map fun j => ptr (p.tb j)) ∧ ∀ b, blk q.2 = some b → h.size ≤ b) (fun q => p.num - q.1) (0, nilS) ⟨rfl, rfl, rfl, rfl, rfl, trivial⟩ ⟨Nat.zero_le _, rfl, Upd.refl _ _, SliceO.nil, fun b hb => by cases hb⟩ ?_
  rintro ⟨i, lv⟩ h1 δ1 ⟨hi, hδ, u1, sl, hb⟩ again
  dsimp only at hi sl hb again hδ ⊢
  subst hδ
  by_cases hin : i < p.num
  · obtain ⟨b, k, eT', hc, hk, ebT⟩ := g.thrCell hin
    rw [eT] at eT'
    injection eT' with e1 e2 e3
    subst e1
    obtain ⟨v, a, hat, hrow⟩ := g.thrAt hin
    have hc1 := u1.hcell hc (fun x => x)
    have hrow1 := u1.get hrow (fun x => x)
    obtain ⟨_, t, o, c, b0, n, w, x, kk, rfl⟩ := hat.form
    have d13 : hcell h1 ⟨p.tb i, 13, none⟩ = some (.bool (p.gone i)) := hcell_of hrow1 rfl
    have hlen : (p.live i).length ≤ i := by
      unfold PS.live
      have := List.length_filter_le (fun j => !p.gone j) (List.range i)
      simpa using this
    have hSl : ∀ c o, blk lv = some c → ¬ (SitM Try.prog (PX X)).still γ ⟨c, o, none⟩ := fun c o hc => stillM_new hv g (hb c hc)
    cases hg : p.gone i with
    | true =>
      rw [hg] at d13 hrow1
      rw [← live_no hg] at sl
      have el := live_no hg
      cases hl : (p.live i).isEmpty with
      | true =>
        (repeat (first | refine EK.seq ?_ | refine EK.region ?_ | refine ER.done ?_ | refine EK.skip ?_ | refine EK.block ?_ | refine ER.move rfl rfl rfl ?_ | refine ER.assign rfl rfl rfl ?_ | refine ER.nilCheck rfl rfl rfl ?_ | refine ER.fieldAddr rfl rfl rfl ?_ | refine ER.load1 rfl rfl rfl (hcell_of (by assumption) rfl) ?_ | refine ER.pickT rfl rfl rfl rfl ?_ | refine ER.cmpT rfl rfl rfl rfl rfl (by first | (dsimp only [cmpP]; omega) | exact rfl | exact Int.le_refl _) ?_ | refine ER.indexSl rfl rfl rfl rfl (by omega) (by omega) ?_ | refine EK.condT rfl ?_ | refine ER.load1 rfl rfl rfl (by assumption) ?_))
        refine ER.callD rfl rfl rfl rfl rfl (can_gone d13) ?_
        (repeat (first | refine EK.region ?_ | refine ER.done ?_ | refine EK.skip ?_ | refine EK.inBlock ?_ | refine ER.move rfl rfl rfl ?_ | refine ER.add (kd := .i64) rfl rfl rfl rfl (i64_in (by omega) (by omega)) ?_ | refine EK.condF rfl ?_))
        refine EK.back (again (i + 1, lv) _ _ (by dsimp only; omega) ⟨by dsimp only; omega, rfl, u1, sl, hb⟩) ⟨rfl, rfl, ?_, rfl, rfl, trivial⟩
        dsimp only; rw [el, hl]; rfl
      | false =>
        (repeat (first | refine EK.seq ?_ | refine EK.region ?_ | refine ER.done ?_ | refine EK.skip ?_ | refine EK.block ?_ | refine ER.move rfl rfl rfl ?_ | refine ER.assign rfl rfl rfl ?_ | refine ER.no rfl rfl ?_ | refine ER.pickF rfl rfl rfl rfl ?_ | refine ER.cmpT rfl rfl rfl rfl rfl (by first | (dsimp only [cmpP]; omega) | exact rfl | exact Int.le_refl _) ?_ | refine ER.indexSl rfl rfl rfl rfl (by omega) (by omega) ?_ | refine EK.condT rfl ?_ | refine ER.load1 rfl rfl rfl (by assumption) ?_))
        refine ER.callD rfl rfl rfl rfl rfl (can_gone d13) ?_
        (repeat (first | refine EK.region ?_ | refine ER.done ?_ | refine EK.skip ?_ | refine EK.inBlock ?_ | refine ER.move rfl rfl rfl ?_ | refine ER.add (kd := .i64) rfl rfl rfl rfl (i64_in (by omega) (by omega)) ?_ | refine EK.condF rfl ?_))
        refine EK.back (again (i + 1, lv) _ _ (by dsimp only; omega) ⟨by dsimp only; omega, rfl, u1, sl, hb⟩) ⟨rfl, rfl, ?_, rfl, rfl, trivial⟩
        dsimp only; rw [el, hl]; rfl
    | false =>
      rw [hg] at d13 hrow1
      obtain ⟨r, hr1, hr2⟩ := hst i hin hg
      rw [hr1] at hat
      have eo : o = r.op := by have := hat.2; unfold rqL accL at this; injection this with _ this; injection this with this _; injection this
      have d6 : hcell h1 ⟨p.tb i, 6, none⟩ = some (.int .i8 o) := hcell_of hrow1 rfl
      have ho : o ≠ 6 := by have := hr2.op2; omega
      have el := live_yes hg
      have em : (p.live (i + 1)).isEmpty = false := by rw [el]; simp
      cases hl : (p.live i).isEmpty with
      | true =>
        (repeat (first | refine EK.seq ?_ | refine EK.region ?_ | refine ER.done ?_ | refine EK.skip ?_ | refine EK.block ?_ | refine ER.move rfl rfl rfl ?_ | refine ER.assign rfl rfl rfl ?_ | refine ER.nilCheck rfl rfl rfl ?_ | refine ER.fieldAddr rfl rfl rfl ?_ | refine ER.load1 rfl rfl rfl (hcell_of (by assumption) rfl) ?_ | refine ER.pickT rfl rfl rfl rfl ?_ | refine ER.cmpT rfl rfl rfl rfl rfl (by first | (dsimp only [cmpP]; omega) | exact rfl | exact Int.le_refl _) ?_ | refine ER.indexSl rfl rfl rfl rfl (by omega) (by omega) ?_ | refine EK.condT rfl ?_ | refine ER.load1 rfl rfl rfl (by assumption) ?_))
        refine ER.callD rfl rfl rfl rfl rfl (can_live d13 d6 ho) ?_
        (repeat (first | refine EK.region ?_ | refine ER.done ?_ | refine ER.move rfl rfl rfl ?_ | refine EK.condT rfl ?_))
        refine ER.slice1 (cells := #[ptr (p.tb i)]) rfl rfl rfl (by omega) (by omega) (by rfl) rfl ?_
        refine ER.append1 (new := [ptr (p.tb i)]) rfl rfl rfl rfl (sl.upd (Upd.push (T := fun _ => False) h1 _) (fun _ _ x => x)) (get_push_new _ _) rfl (by simp [OneCell]) (by omega) (by omega) (by rfl) hSl ?_
        intro s2 h2 sl2 u2 hb2
        have u12 : Upd (fun _ => False) h h2 := (u1.trans (Upd.push h1 _)).over u2 hb
        (repeat (first | refine EK.region ?_ | refine ER.done ?_ | refine EK.inBlock ?_ | refine ER.move rfl rfl rfl ?_ | refine ER.assign rfl rfl rfl ?_ | refine ER.add (kd := .i64) rfl rfl rfl rfl (i64_in (by omega) (by omega)) ?_))
        refine EK.back (again (i + 1, s2) _ _ (by dsimp only; omega) ⟨by dsimp only; omega, rfl, u12, ?_, fun b' hb' => ?_⟩) ⟨rfl, rfl, ?_, rfl, rfl, trivial⟩
        · dsimp only; rw [el]; simpa using sl2
        · rcases hb2 b' hb' with y | y
          · exact hb _ y
          · have := u1.size; rw [Array.size_push] at y; omega
        · dsimp only; rw [em]; rfl
      | false =>
        (repeat (first | refine EK.seq ?_ | refine EK.region ?_ | refine ER.done ?_ | refine EK.skip ?_ | refine EK.block ?_ | refine ER.move rfl rfl rfl ?_ | refine ER.assign rfl rfl rfl ?_ | refine ER.no rfl rfl ?_ | refine ER.pickF rfl rfl rfl rfl ?_ | refine ER.cmpT rfl rfl rfl rfl rfl (by first | (dsimp only [cmpP]; omega) | exact rfl | exact Int.le_refl _) ?_ | refine ER.indexSl rfl rfl rfl rfl (by omega) (by omega) ?_ | refine EK.condT rfl ?_ | refine ER.load1 rfl rfl rfl (by assumption) ?_))
        refine ER.callD rfl rfl rfl rfl rfl (can_live d13 d6 ho) ?_
        (repeat (first | refine EK.region ?_ | refine ER.done ?_ | refine ER.move rfl rfl rfl ?_ | refine EK.condT rfl ?_))
        refine ER.slice1 (cells := #[ptr (p.tb i)]) rfl rfl rfl (by omega) (by omega) (by rfl) rfl ?_
        refine ER.append1 (new := [ptr (p.tb i)]) rfl rfl rfl rfl (sl.upd (Upd.push (T := fun _ => False) h1 _) (fun _ _ x => x)) (get_push_new _ _) rfl (by simp [OneCell]) (by omega) (by omega) (by rfl) hSl ?_
        intro s2 h2 sl2 u2 hb2
        have u12 : Upd (fun _ => False) h h2 := (u1.trans (Upd.push h1 _)).over u2 hb
        (repeat (first | refine EK.region ?_ | refine ER.done ?_ | refine EK.inBlock ?_ | refine ER.move rfl rfl rfl ?_ | refine ER.assign rfl rfl rfl ?_ | refine ER.add (kd := .i64) rfl rfl rfl rfl (i64_in (by omega) (by omega)) ?_))
        refine EK.back (again (i + 1, s2) _ _ (by dsimp only; omega) ⟨by dsimp only; omega, rfl, u12, ?_, fun b' hb' => ?_⟩) ⟨rfl, rfl, ?_, rfl, rfl, trivial⟩
        · dsimp only; rw [el]; simpa using sl2
        · rcases hb2 b' hb' with y | y
          · exact hb _ y
          · have := u1.size; rw [Array.size_push] at y; omega
        · dsimp only; rw [em]; rfl
  · obtain rfl : i = p.num := by omega
    clear again
    (repeat (first | refine EK.seq ?_ | refine EK.region ?_ | refine ER.done ?_ | refine ER.move rfl rfl rfl ?_ | refine ER.assign rfl rfl rfl ?_ | refine ER.cmpF rfl rfl rfl rfl rfl (by first | (dsimp only [cmpP]; omega) | exact rfl | exact Int.le_refl _) ?_ | refine EK.condF rfl ?_ | refine EK.ret ?_ | refine EK.exit rfl ?_))
    exact EU.ret2 rfl rfl rfl ⟨rfl, lv, rfl, u1, sl, hb⟩
end
end Go.Proofs.Ytcpcdnkemobneaa
end
section
namespace Go.Proofs.Ytcpcdnkemobneaa
open Go Go.TJ Go.Conc Go.Proofs
def placed (x : Int) (l : List Nat) : Nat := l.getD (x % (l.length : Int)).toNat 0
def roundOf (l : List Nat) (last : Int) : Nat := (l.find? (fun (j : Nat) => decide (last < (j : Int)))).getD (l.headD 0)
def lastOf (went : List Nat) : Int := match went.getLast? with
  | some j => j
  | none => -1
def pickOf (picks : List Int) (went l : List Nat) : Nat := match picks[went.length]? with
  | some x => placed x l
  | none => roundOf l (lastOf went)
theorem tmod_twice (x : Int) {m : Int} (hm : 0 < m) : (x.tmod m + m).tmod m = x % m := by
  have h1 := Int.lt_tmod_of_pos x hm
  rw [Int.tmod_eq_emod_of_nonneg (by omega), Int.add_emod_right]
  have h := Int.mul_tdiv_add_tmod x m
  have : x.tmod m = x - m * x.tdiv m := by omega
  rw [this, Int.sub_mul_emod_self_left]
theorem placed_mem (x : Int) {l : List Nat} (hl : l ≠ []) : ∃ k, k < l.length ∧ l[k]? = some (placed x l) ∧ (x % (l.length : Int)).toNat = k := by
  have hp : 0 < l.length := List.length_pos_iff.2 hl
  have h1 := Int.emod_nonneg x (b := (l.length : Int)) (by omega)
  have h2 := Int.emod_lt_of_pos x (b := (l.length : Int)) (by omega)
  refine ⟨(x % (l.length : Int)).toNat, by omega, ?_, rfl⟩
  unfold placed
  rw [List.getD_eq_getElem?_getD, List.getElem?_eq_getElem (show (x % (l.length : Int)).toNat < l.length by omega)]
  rfl
theorem round_at {l : List Nat} {last : Int} {i j : Nat} (hi : l[i]? = some j) (hj : last < (j : Int)) (hb : ∀ (k x : Nat), k < i → l[k]? = some x → (x : Int) ≤ last) : roundOf l last = j := by
  unfold roundOf
  have : l.find? (fun (j : Nat) => decide (last < (j : Int))) = some j := by
    have hlt : i < l.length := by
      rcases Nat.lt_or_ge i l.length with y | y
      · exact y
      · rw [List.getElem?_eq_none y] at hi; cases hi
    refine List.find?_eq_some_iff_append.2 ⟨by simpa using hj, l.take i, l.drop (i + 1), ?_, fun a ha => ?_⟩
    · have e : l[i] = j := by rw [List.getElem?_eq_getElem hlt] at hi; exact Option.some.inj hi
      rw [← e, List.getElem_cons_drop, List.take_append_drop]
    · obtain ⟨k, hk, rfl⟩ := List.mem_iff_getElem.1 ha
      have hk' : k < i := by simp at hk; omega
      have := hb k l[k] hk' (List.getElem?_eq_getElem (by omega))
      simp only [List.getElem_take]
      simpa using this
  rw [this]; rfl
theorem round_none {l : List Nat} {last : Int} (hb : ∀ (k x : Nat), l[k]? = some x → (x : Int) ≤ last) : roundOf l last = l.headD 0 := by
  unfold roundOf
  have : l.find? (fun (j : Nat) => decide (last < (j : Int))) = none := List.find?_eq_none.2 fun x hx => by
    obtain ⟨k, hk, rfl⟩ := List.mem_iff_getElem.1 hx
    have := hb k _ (List.getElem?_eq_getElem hk)
    simpa using this
  rw [this]; rfl
section
variable {Γ : Type} {main : Bool} {S : Sit Γ} {δ : Ix Γ} {h : Hp}
set_option maxHeartbeats 4000000 in
set_option maxRecDepth 8000 in
theorem schedG {picks : List Int} {went l : List Nat} {tb : Nat → Nat} {sP sW lv : Value} {bP bR R : Nat} (hP : SliceO h sP 3 1 picks.length (picks.map fun x => .int .i64 x)) (hbox : hcell h ⟨bP, 0, none⟩ = some sP) (hr : hcell h ⟨bR, 0, none⟩ = some (ptr R)) (hw : hcell h ⟨R, 3, none⟩ = some sW)
    (hW : SliceO h sW 3 1 went.length (went.map fun (n : Nat) => Value.int .i64 (n : Int))) (hl : SliceO h lv 32 1 l.length (l.map fun j => ptr (tb j))) (hne : l ≠ []) (hlen : l.length ≤ 64) (hwl : went.length ≤ 65536) (hnum : ∀ j, j ∈ l → hcell h ⟨tb j, 1, none⟩ = some (.int .i64 (j : Int))) :
    CallW Try.prog main S 76 #[.int .i64 went.length, lv, ptr bP, ptr bR] h δ (Ret (Det (ptr (tb (pickOf picks went l))) h δ)) := by
  have hpos : 0 < l.length := List.length_pos_iff.2 hne
  obtain ⟨aP, kP, rfl⟩ := hP.val
  obtain ⟨bL, kL, rfl, hL, _⟩ := hl.cell hpos
  have hLc : ∀ k j, l[k]? = some j → hcell h ⟨bL, 0 + k * 1, none⟩ = some (ptr (tb j)) := fun k j hk => by
    rw [Nat.zero_add, Nat.mul_one]; exact hL k _ (by rw [List.getElem?_map, hk]; rfl)
  refine CallW.start (n := 57) rfl rfl ?_
  by_cases hlt : went.length < picks.length
  · obtain ⟨x, hx⟩ : ∃ x, picks[went.length]? = some x := ⟨_, List.getElem?_eq_getElem hlt⟩
    obtain ⟨bq, kq, e, hPc, _⟩ := hP.cell (by omega)
    injection e with e1 e2 e3
    subst e1 e3
    have hxc : hcell h ⟨bq, 0 + went.length * 1, none⟩ = some (.int .i64 x) := by
      rw [Nat.zero_add, Nat.mul_one]; exact hPc _ _ (by rw [List.getElem?_map, hx]; rfl)
    obtain ⟨k, hk, hk2, hk3⟩ := placed_mem x hne
    have h1 := Int.lt_tmod_of_pos x (b := (l.length : Int)) (by omega)
    have h2 := Int.tmod_lt_of_pos x (b := (l.length : Int)) (by omega)
    have h3 := Int.emod_nonneg x (b := (l.length : Int)) (by omega)
    have h4 := Int.emod_lt_of_pos x (b := (l.length : Int)) (by omega)
    have hc := hLc k _ hk2
    (repeat (first | refine EK.seq ?_ | refine EK.region ?_ | refine ER.done ?_ | refine ER.move rfl rfl rfl ?_ | refine ER.assign rfl rfl rfl ?_ | refine ER.cmpT rfl rfl rfl rfl rfl (by first | (dsimp only [cmpP]; omega) | exact rfl | exact Int.le_refl _) ?_ | refine ER.len1 rfl rfl rfl ?_ | refine ER.indexSl rfl rfl rfl rfl (by omega) (by omega) ?_ | refine EK.condT rfl ?_ | refine ER.load1 rfl rfl rfl (by assumption) ?_))
    refine ER.rem (r := x.tmod (l.length : Int)) rfl rfl rfl rfl (by omega) rfl ?_
    (repeat (first | refine ER.move rfl rfl rfl ?_ | refine ER.add (kd := .i64) rfl rfl rfl rfl (i64_in (by omega) (by omega)) ?_ | refine ER.len1 rfl rfl rfl ?_))
    refine ER.rem (r := x % (l.length : Int)) rfl rfl rfl rfl (by omega) (tmod_twice x (by omega)) ?_
    refine ER.indexSl rfl rfl rfl rfl h3 h4 ?_
    rw [hk3]
    (repeat (first | refine ER.done ?_ | refine ER.assign rfl rfl rfl ?_ | refine EK.ret ?_ | refine ER.load1 rfl rfl rfl (by assumption) ?_))
    refine EU.ret1 rfl rfl ?_
    rw [show pickOf picks went l = placed x l by unfold pickOf; rw [hx]]
    exact det
  · have hx : picks[went.length]? = none := List.getElem?_eq_none (by omega)
    have hpick : pickOf picks went l = roundOf l (lastOf went) := by unfold pickOf; rw [hx]
    rw [hpick]
    have e0 : l[0]? = some (l.headD 0) := by cases l with | nil => exact absurd rfl hne | cons a t => rfl
    have hc0 := hLc 0 _ e0
    obtain ⟨last, hlast⟩ : ∃ last, last = lastOf went := ⟨_, rfl⟩
    rw [← hlast]
    by_cases hw0 : 0 < went.length
    · obtain ⟨bw, kw, rfl, hWc, _⟩ := hW.cell hw0
      have hwc : hcell h ⟨bw, 0 + ((went.length : Int) - 1).toNat * 1, none⟩ = some (.int .i64 last) := by
        rw [Nat.zero_add, Nat.mul_one, show ((went.length : Int) - 1).toNat = went.length - 1 by omega]
        refine hWc _ _ ?_
        rw [List.getElem?_map, hlast]
        unfold lastOf
        rw [List.getLast?_eq_getElem?, List.getElem?_eq_getElem (show went.length - 1 < went.length by omega)]
        rfl
      (repeat (first | refine EK.seq ?_ | refine EK.region ?_ | refine ER.done ?_ | refine EK.skip ?_ | refine EK.block ?_ | refine ER.move rfl rfl rfl ?_ | refine ER.assign rfl rfl rfl ?_ | refine ER.nilCheck rfl rfl rfl ?_ | refine ER.fieldAddr rfl rfl rfl ?_ | refine ER.cmpT rfl rfl rfl rfl rfl (by first | (dsimp only [cmpP]; omega) | exact rfl | exact Int.le_refl _) ?_ | refine ER.cmpF rfl rfl rfl rfl rfl (by first | (dsimp only [cmpP]; omega) | exact rfl | exact Int.le_refl _) ?_ | refine ER.sub' (kd := .i64) rfl rfl rfl rfl (i64_in (by omega) (by omega)) ?_ | refine ER.len1 rfl rfl rfl ?_ | refine ER.indexSl rfl rfl rfl rfl (by omega) (by omega) ?_ | refine EK.condT rfl ?_ | refine EK.condF rfl ?_ | refine ER.load1 rfl rfl rfl (by assumption) ?_))
      refine EK.loopInv (fun i : Nat => [(42, .int .i64 i), (41, .int .i64 l.length), (40, .slice (some ⟨bL, 0, none⟩) l.length kL), (7, .int .i64 last), (1, .slice (some ⟨bL, 0, none⟩) l.length kL)]) (fun i h' δ' => i ≤ l.length ∧ h' = h ∧ δ' = δ ∧ ∀ (k x : Nat), k < i → l[k]? = some x → (x : Int) ≤ last) (fun i => l.length - i) 0 ⟨rfl, rfl, rfl, rfl, rfl, trivial⟩ ⟨Nat.zero_le _, rfl, rfl, fun k x hk => by omega⟩ ?_
      rintro i h1 δ1 ⟨hi, rfl, rfl, hb⟩ again
      by_cases hin : i < l.length
      · obtain ⟨j, hj⟩ : ∃ j, l[i]? = some j := ⟨_, List.getElem?_eq_getElem hin⟩
        have hc := hLc i j hj
        have hn := hnum j (List.mem_of_getElem? hj)
        by_cases hgt : last < (j : Int)
        · (repeat (first | refine EK.seq ?_ | refine EK.region ?_ | refine ER.done ?_ | refine EK.skip ?_ | refine EK.block ?_ | refine ER.move rfl rfl rfl ?_ | refine ER.assign rfl rfl rfl ?_ | refine ER.nilCheck rfl rfl rfl ?_ | refine ER.fieldAddr rfl rfl rfl ?_ | refine ER.cmpT rfl rfl rfl rfl rfl (by first | (dsimp only [cmpP]; omega) | exact rfl | exact Int.le_refl _) ?_ | refine ER.indexSl rfl rfl rfl rfl (by omega) (by omega) ?_ | refine EK.condT rfl ?_ | refine EK.ret ?_ | refine ER.load1 rfl rfl rfl (by assumption) ?_))
          refine EU.ret1 rfl rfl ?_
          rw [round_at hj hgt hb]
          exact det
        · (repeat (first | refine EK.seq ?_ | refine EK.region ?_ | refine ER.done ?_ | refine EK.skip ?_ | refine EK.block ?_ | refine EK.inBlock ?_ | refine ER.move rfl rfl rfl ?_ | refine ER.assign rfl rfl rfl ?_ | refine ER.nilCheck rfl rfl rfl ?_ | refine ER.fieldAddr rfl rfl rfl ?_ | refine ER.cmpT rfl rfl rfl rfl rfl (by first | (dsimp only [cmpP]; omega) | exact rfl | exact Int.le_refl _) ?_ | refine ER.cmpF rfl rfl rfl rfl rfl (by first | (dsimp only [cmpP]; omega) | exact rfl | exact Int.le_refl _) ?_ | refine ER.add (kd := .i64) rfl rfl rfl rfl (i64_in (by omega) (by omega)) ?_ | refine ER.indexSl rfl rfl rfl rfl (by omega) (by omega) ?_ | refine EK.condT rfl ?_ | refine EK.condF rfl ?_ | refine ER.load1 rfl rfl rfl (by assumption) ?_))
          refine EK.back (again (i + 1) _ _ (by omega) ⟨by omega, rfl, rfl, fun k x hk hx => ?_⟩) ⟨rfl, rfl, rfl, rfl, rfl, trivial⟩
          by_cases e : k = i
          · subst e
            rw [hj] at hx; cases hx; omega
          · exact hb k x (by omega) hx
      · obtain rfl : i = l.length := by omega
        clear again
        (repeat (first | refine EK.seq ?_ | refine EK.region ?_ | refine ER.done ?_ | refine ER.move rfl rfl rfl ?_ | refine ER.assign rfl rfl rfl ?_ | refine ER.cmpF rfl rfl rfl rfl rfl (by first | (dsimp only [cmpP]; omega) | exact rfl | exact Int.le_refl _) ?_ | refine ER.indexSl rfl rfl rfl rfl (by omega) (by omega) ?_ | refine EK.condF rfl ?_ | refine EK.ret ?_ | refine EK.exit rfl ?_ | refine ER.load1 rfl rfl rfl (by assumption) ?_))
        refine EU.ret1 rfl rfl ?_
        rw [round_none (fun k x hx => hb k x (by
          rcases Nat.lt_or_ge k l.length with y | y
          · exact y
          · rw [List.getElem?_eq_none y] at hx; cases hx) hx)]
        exact det
    · have : went = [] := by
        cases went with
        | nil => rfl
        | cons a t => simp at hw0
      subst this
      have hl1 : last = -1 := hlast
      subst hl1
      (repeat (first | refine EK.seq ?_ | refine EK.region ?_ | refine ER.done ?_ | refine EK.skip ?_ | refine EK.block ?_ | refine ER.move rfl rfl rfl ?_ | refine ER.assign rfl rfl rfl ?_ | refine ER.cmpF rfl rfl rfl rfl rfl (by first | (dsimp only [cmpP]; omega) | exact rfl | exact Int.le_refl _) ?_ | refine ER.len1 rfl rfl rfl ?_ | refine EK.condF rfl ?_ | refine ER.load1 rfl rfl rfl (by assumption) ?_))
      generalize (-1 : Int) = last
      refine EK.loopInv (fun i : Nat => [(42, .int .i64 i), (41, .int .i64 l.length), (40, .slice (some ⟨bL, 0, none⟩) l.length kL), (7, .int .i64 last), (1, .slice (some ⟨bL, 0, none⟩) l.length kL)]) (fun i h' δ' => i ≤ l.length ∧ h' = h ∧ δ' = δ ∧ ∀ (k x : Nat), k < i → l[k]? = some x → (x : Int) ≤ last) (fun i => l.length - i) 0 ⟨rfl, rfl, rfl, rfl, rfl, trivial⟩ ⟨Nat.zero_le _, rfl, rfl, fun k x hk => by omega⟩ ?_
      rintro i h1 δ1 ⟨hi, rfl, rfl, hb⟩ again
      by_cases hin : i < l.length
      · obtain ⟨j, hj⟩ : ∃ j, l[i]? = some j := ⟨_, List.getElem?_eq_getElem hin⟩
        have hc := hLc i j hj
        have hn := hnum j (List.mem_of_getElem? hj)
        by_cases hgt : last < (j : Int)
        · (repeat (first | refine EK.seq ?_ | refine EK.region ?_ | refine ER.done ?_ | refine EK.skip ?_ | refine EK.block ?_ | refine ER.move rfl rfl rfl ?_ | refine ER.assign rfl rfl rfl ?_ | refine ER.nilCheck rfl rfl rfl ?_ | refine ER.fieldAddr rfl rfl rfl ?_ | refine ER.cmpT rfl rfl rfl rfl rfl (by first | (dsimp only [cmpP]; omega) | exact rfl | exact Int.le_refl _) ?_ | refine ER.indexSl rfl rfl rfl rfl (by omega) (by omega) ?_ | refine EK.condT rfl ?_ | refine EK.ret ?_ | refine ER.load1 rfl rfl rfl (by assumption) ?_))
          refine EU.ret1 rfl rfl ?_
          rw [round_at hj hgt hb]
          exact det
        · (repeat (first | refine EK.seq ?_ | refine EK.region ?_ | refine ER.done ?_ | refine EK.skip ?_ | refine EK.block ?_ | refine EK.inBlock ?_ | refine ER.move rfl rfl rfl ?_ | refine ER.assign rfl rfl rfl ?_ | refine ER.nilCheck rfl rfl rfl ?_ | refine ER.fieldAddr rfl rfl rfl ?_ | refine ER.cmpT rfl rfl rfl rfl rfl (by first | (dsimp only [cmpP]; omega) | exact rfl | exact Int.le_refl _) ?_ | refine ER.cmpF rfl rfl rfl rfl rfl (by first | (dsimp only [cmpP]; omega) | exact rfl | exact Int.le_refl _) ?_ | refine ER.add (kd := .i64) rfl rfl rfl rfl (i64_in (by omega) (by omega)) ?_ | refine ER.indexSl rfl rfl rfl rfl (by omega) (by omega) ?_ | refine EK.condT rfl ?_ | refine EK.condF rfl ?_ | refine ER.load1 rfl rfl rfl (by assumption) ?_))
          refine EK.back (again (i + 1) _ _ (by omega) ⟨by omega, rfl, rfl, fun k x hk hx => ?_⟩) ⟨rfl, rfl, rfl, rfl, rfl, trivial⟩
          by_cases e : k = i
          · subst e
            rw [hj] at hx; cases hx; omega
          · exact hb k x (by omega) hx
      · obtain rfl : i = l.length := by omega
        clear again
        (repeat (first | refine EK.seq ?_ | refine EK.region ?_ | refine ER.done ?_ | refine ER.move rfl rfl rfl ?_ | refine ER.assign rfl rfl rfl ?_ | refine ER.cmpF rfl rfl rfl rfl rfl (by first | (dsimp only [cmpP]; omega) | exact rfl | exact Int.le_refl _) ?_ | refine ER.indexSl rfl rfl rfl rfl (by omega) (by omega) ?_ | refine EK.condF rfl ?_ | refine EK.ret ?_ | refine EK.exit rfl ?_ | refine ER.load1 rfl rfl rfl (by assumption) ?_))
        refine EU.ret1 rfl rfl ?_
        rw [round_none (fun k x hx => hb k x (by
          rcases Nat.lt_or_ge k l.length with y | y
          · exact y
          · rw [List.getElem?_eq_none y] at hx; cases hx) hx)]
        exact det
end
end Go.Proofs.Ytcpcdnkemobneaa
end
section
namespace Go.Proofs.Ytcpcdnkemobneaa
open Go Go.TJ Go.Conc Go.Proofs
inductive Chain (X : Us) (v0 : Nat → Int) : List Ev → (Nat → Int) → Prop
  | nil : Chain X v0 [] v0
  | snoc {l : List Ev} {v : Nat → Int} (i : Nat) (r : Rq) : Chain X v0 l v → RqOk X r → Chain X v0 (l ++ [evOf i r (v r.b)]) (ut v r.b (behind r.op (v r.b) r.arg r.new).1)
def aliveAt {U : Type} (p : PS U) (k : Nat) : List Nat := (List.range p.num).filter (fun j => !p.gone j || (p.log.drop k).any (fun e => e.thr == j))
structure Reg (X : Us) (v0 : Nat → Int) (picks : List Int) (nb : Nat) (p : PS X.U) : Prop where
  num : p.num = nb
  fl : p.fl = nb
  stops : p.stops = false
  went : p.went = p.log.map (·.thr)
  rdy : p.rdy.length = p.log.length
  alive : ∀ j, j < nb → (p.gone j = false ∧ ∃ r, p.st j = .stands r ∧ RqOk X r) ∨ (p.gone j = true ∧ p.st j = .over)
  chain : Chain X v0 p.log p.val
  turns : ∀ (k : Nat) (e : Ev), p.log[k]? = some e → p.rdy[k]? = some (aliveAt p k).length ∧ e.thr = pickOf picks ((p.log.take k).map (·.thr)) (aliveAt p k) ∧ e.thr ∈ aliveAt p k
section
variable {X : Us} {v0 : Nat → Int} {picks : List Int} {nb : Nat} {p : PS X.U}
theorem aliveAt_end {U : Type} {p : PS U} {k : Nat} (hk : p.log.length ≤ k) : aliveAt p k = p.live p.num := by
  unfold aliveAt PS.live
  rw [List.drop_eq_nil_of_le hk]
  simp
theorem mem_live {U : Type} {p : PS U} {n j : Nat} : j ∈ p.live n ↔ j < n ∧ p.gone j = false := by
  unfold PS.live
  simp
theorem pick_mem {l : List Nat} (hl : l ≠ []) (picks : List Int) (went : List Nat) : pickOf picks went l ∈ l := by
  unfold pickOf
  split
  · rename_i x _
    obtain ⟨k, _, h, _⟩ := placed_mem x hl
    exact List.mem_of_getElem? h
  · unfold roundOf
    cases h : l.find? (fun (j : Nat) => decide (lastOf went < (j : Int))) with
    | some y => exact List.mem_of_find?_eq_some h
    | none => cases l with
      | nil => exact absurd rfl hl
      | cons a t => simp
theorem Reg.turn (R : Reg X v0 picks nb p) {j : Nat} (hj : j = pickOf picks p.went (p.live nb)) (hl : p.live nb ≠ []) {u : X.U} {L : List (Nat × Obj)} {t : Ph} (ht : t ≠ .born) (ht' : ∀ r, t = .stands r → RqOk X r) :
    Reg X v0 picks nb (PS.turn { p with went := p.went ++ [j], rdy := p.rdy ++ [(p.live nb).length] } j u L t (isOver t)) := by
  have hjm : j ∈ p.live nb := by rw [hj]; exact pick_mem hl _ _
  obtain ⟨hjn, hjg⟩ := mem_live.1 hjm
  obtain ⟨r, hr, hrok⟩ : ∃ r, p.st j = .stands r ∧ RqOk X r := by
    rcases R.alive j hjn with ⟨_, r, h1, h2⟩ | ⟨h1, _⟩
    · exact ⟨r, h1, h2⟩
    · rw [hjg] at h1; cases h1
  have ea : PS.acc { p with went := p.went ++ [j], rdy := p.rdy ++ [(p.live nb).length] } j = { p with went := p.went ++ [j], rdy := p.rdy ++ [(p.live nb).length], log := p.log ++ [evOf j r (p.val r.b)], val := ut p.val r.b (behind r.op (p.val r.b) r.arg r.new).1 } := acc_stands _ _ hr
  unfold PS.turn
  rw [ea]
  dsimp only
  have hg : ∀ x, ut p.gone j (isOver t) x = if x = j then isOver t else p.gone x := fun x => rfl
  have al : ∀ k, k ≤ p.log.length → aliveAt { p with u := u, prv := ut p.prv j L, st := ut p.st j t, gone := ut p.gone j (isOver t), went := p.went ++ [j], rdy := p.rdy ++ [(p.live nb).length], log := p.log ++ [evOf j r (p.val r.b)], val := ut p.val r.b (behind r.op (p.val r.b) r.arg r.new).1 } k = aliveAt p k := fun k hk => by
    unfold aliveAt
    dsimp only
    refine List.filter_congr fun x hx => ?_
    rw [List.drop_append_of_le_length hk, List.any_append, hg]
    by_cases e : x = j
    · subst e
      rw [hjg]
      simp [evOf]
    · rw [if_neg e]
      have : (([evOf j r (p.val r.b)] : List Ev).any fun e => e.thr == x) = false := by
        simp only [List.any_cons, List.any_nil, Bool.or_false]
        show (j == x) = false
        simpa using Ne.symm e
      rw [this, Bool.or_false]
  refine ⟨R.num, R.fl, R.stops, ?_, ?_, fun x hx => ?_, Chain.snoc j r R.chain hrok, fun k e hk => ?_⟩
  · rw [List.map_append, R.went]; rfl
  · simp [R.rdy]
  · dsimp only
    by_cases e : x = j
    · subst e
      rw [ut_same, ut_same]
      cases t with
      | born => exact absurd rfl ht
      | stands r => exact .inl ⟨rfl, r, rfl, ht' r rfl⟩
      | over => exact .inr ⟨rfl, rfl⟩
    · rw [ut_ne _ _ e, ut_ne _ _ e]; exact R.alive x hx
  · dsimp only at hk
    rcases Nat.lt_or_ge k p.log.length with y | y
    · rw [List.getElem?_append_left y] at hk
      obtain ⟨h1, h2, h3⟩ := R.turns k e hk
      rw [al k (by omega)]
      dsimp only
      rw [List.getElem?_append_left (by rw [R.rdy]; exact y), List.take_append_of_le_length (by omega)]
      exact ⟨h1, h2, h3⟩
    · have hk2 : k < (p.log ++ [evOf j r (p.val r.b)]).length := by
        rcases Nat.lt_or_ge k (p.log ++ [evOf j r (p.val r.b)]).length with z | z
        · exact z
        · rw [List.getElem?_eq_none z] at hk; cases hk
      obtain rfl : k = p.log.length := by simp at hk2; omega
      rw [List.getElem?_append_right (Nat.le_refl _), Nat.sub_self] at hk
      obtain rfl : evOf j r (p.val r.b) = e := by simpa using hk
      rw [al _ (Nat.le_refl _), aliveAt_end (Nat.le_refl _), R.num]
      dsimp only
      refine ⟨?_, ?_, hjm⟩
      · rw [← R.rdy, List.getElem?_append_right (Nat.le_refl _), Nat.sub_self]; rfl
      · rw [List.take_left, ← R.went]; exact hj
end
end Go.Proofs.Ytcpcdnkemobneaa
end
section
namespace Go.Proofs.Ytcpcdnkemobneaa
open Go Go.TJ Go.Conc Go.Proofs
section
variable {X : Us} {h : Hp} {γ : GG X}
structure Sta (X : Us) (W : Nat → Prop) (h0 : Hp) (R : Nat) (p : PS X.U) (h : Hp) : Prop where
  gi : ∃ s M, GI X W p (nums p.log) s M h
  I : X.I p.u h
  J : X.J p.log p.u p.val
  Q : ∀ x, X.Q x (ownOf x p.log) (p.st x) p.u
  R : p.R = R
  upd : Upd W h0 h
theorem I_upd (hX : X.Ok) {W T : Nat → Prop} {p : PS X.U} {ns : List Nat} {s : Sls} {M : Mem Nm} {h h' : Hp} (g : GI X W p ns s M h) (u : Upd T h h') (hT : ∀ c, T c → ∃ k, M.ok k ∧ M.B k = c) (hI : X.I p.u h) : X.I p.u h' :=
  hX.loc _ _ _ (fun b hb => u.2 b (g.dom b hb).1 (fun x => by
    obtain ⟨k, hk, e⟩ := hT b x
    exact (g.apart k hk).2 (by rw [e]; exact hb))) hI
theorem Sta.of {W : Nat → Prop} {h0 h' : Hp} {R : Nat} {γ' : GG X} (hW : ∀ c, h0.size ≤ c → W c) (hP : P0 X γ' h') (e3 : γ'.W = W) (hb : h0.size ≤ γ'.base.size) (u : Upd W h0 h') (eR : γ'.was.R = R) : Sta X W h0 R γ'.p h' := by
  obtain ⟨y1, y2, y3⟩ := hP
  obtain ⟨s, M, g⟩ := y3.gi
  have hwd : ∀ b, Wide γ'.W γ'.base b → W b := fun b hb' => by
    rw [e3] at hb'
    exact hb'.elim id fun y => hW b (Nat.le_trans hb y)
  exact ⟨⟨s, M, g.monoW hwd⟩, y3.I, y3.J, y3.Q, (turned_same y2).1.trans eR, u⟩
theorem begun {γ' : GG X} {i : Nat} {p : PS X.U} {t w sd bx bf br : Nat} {fv : Value} (hi : p.num = i) (hs : p.stops = false) (hl : p.log = []) (ew : γ'.was = { p.newT t w sd bx bf br fv with fl := p.fl + 1 }) (hT : Turned X γ'.was γ'.p i) :
    γ'.p.num = i + 1 ∧ γ'.p.fl = p.fl + 1 ∧ γ'.p.log = [] ∧ γ'.p.went = p.went ∧ γ'.p.rdy = p.rdy ∧ γ'.p.stops = false ∧ γ'.p.val = p.val ∧ (∀ j, i + 1 ≤ j → γ'.p.st j = p.st j) ∧ (∀ j, j < i → γ'.p.st j = p.st j ∧ γ'.p.gone j = p.gone j) ∧ ((γ'.p.gone i = false ∧ ∃ r, γ'.p.st i = .stands r ∧ RqOk X r) ∨ (γ'.p.gone i = true ∧ γ'.p.st i = .over)) := by
  subst hi
  rcases hT with ⟨_, u, L, z, e, hz, hr⟩ | ⟨h1, _⟩
  · have hb : γ'.was.st p.num = .born := by rw [ew]; exact ut_same _ _ _
    have ea := acc_born γ'.was p.num hb
    unfold PS.turn at e
    rw [ea, ew] at e
    rw [e]
    refine ⟨rfl, rfl, hl, rfl, rfl, hs, rfl, fun j hj => ?_, fun j hj => ⟨?_, ?_⟩, ?_⟩
    · show ut (ut p.st p.num .born) p.num z j = _
      rw [ut_ne _ _ (by omega), ut_ne _ _ (by omega)]
    · show ut (ut p.st p.num .born) p.num z j = _
      rw [ut_ne _ _ (by omega), ut_ne _ _ (by omega)]
    · show ut (ut p.gone p.num false) p.num (isOver z) j = _
      rw [ut_ne _ _ (by omega), ut_ne _ _ (by omega)]
    · show (ut (ut p.gone p.num false) p.num (isOver z) p.num = false ∧ ∃ r, ut (ut p.st p.num .born) p.num z p.num = .stands r ∧ RqOk X r) ∨ (ut (ut p.gone p.num false) p.num (isOver z) p.num = true ∧ ut (ut p.st p.num .born) p.num z p.num = .over)
      rw [ut_same, ut_same]
      cases z with
      | born => exact absurd rfl hz
      | stands r => exact .inl ⟨rfl, r, rfl, hr r rfl⟩
      | over => exact .inr ⟨rfl, rfl⟩
  · rw [ew] at h1
    have h1' : p.stops = true := h1
    rw [hs] at h1'; cases h1'
set_option maxHeartbeats 8000000 in
set_option maxRecDepth 8000 in
theorem untilG (hX : X.Ok) {p0 : PS X.U} (hv0 : Mine X γ.p p0) {W : Nat → Prop} {R bP bR : Nat} {sP : Value} {picks : List Int} {most : Nat} {bods : List (FuncId × Array Value)} {sB : Value} (hW : ∀ c, h.size ≤ c → W c) (s0 : Sta X W h R p0 h)
    (hst : p0.num = 0 ∧ p0.fl = 0 ∧ p0.log = [] ∧ p0.went = [] ∧ p0.rdy = [] ∧ p0.stops = false ∧ ∀ j, p0.st j = .born) (hm : most ≤ 65536) (hnb : bods.length ≤ 64)
    (hB : SliceO h sB 45 1 bods.length (bods.map fun q => .func (.func q.1) #[] q.2)) (hBW : ∀ c, blk sB = some c → ¬ W c) (hP : SliceO h sP 3 1 picks.length (picks.map fun x => .int .i64 x)) (hPW : ∀ c, blk sP = some c → ¬ W c)
    (hbP : hcell h ⟨bP, 0, none⟩ = some sP) (hbPW : ¬ W bP) (hbR : hcell h ⟨bR, 0, none⟩ = some (ptr R)) (hbRW : ¬ W bR) (hbody : ∀ (k : Nat) (q : FuncId × Array Value), bods[k]? = some q → HasBody Try.prog q.1 ∧ Body X k q.1 q.2) :
    CallW Try.prog true (SitM Try.prog (PX X)) 75 #[ptr R, .int .i64 most, sB, .func (.func 76) #[] #[ptr bP, ptr bR]] h ⟨0, γ⟩
      (Ret fun v h' δ' => ∃ γ' p' e, δ' = ⟨0, γ'⟩ ∧ Mine X γ'.p p' ∧ Sta X W h R p' h' ∧ Reg X p0.val picks bods.length p' ∧ v = .tuple #[.int .i8 e, .bool true] ∧ ((e = 1 ∧ p'.live bods.length = [] ∧ p'.log.length ≤ most) ∨ (e = 2 ∧ p'.live bods.length ≠ [] ∧ p'.log.length = most))) := by
  obtain ⟨b1, b2, b3, b4, b5, b6, b7⟩ := hst
  obtain ⟨aB, kB, eB⟩ := hB.val
  subst eB
  refine CallW.start (n := 80) rfl rfl ?_
  (repeat (first | refine EK.seq ?_ | refine EK.region ?_ | refine ER.done ?_ | refine EK.block ?_ | refine ER.move rfl rfl rfl ?_ | refine ER.assign rfl rfl rfl ?_ | refine ER.len1 rfl rfl rfl ?_))
  refine EK.loopInv (fun q : Nat × GG X × PS X.U => [(17, .int .i64 q.1), (15, .slice aB bods.length kB), (16, .int .i64 bods.length), (0, ptr R), (1, .int .i64 most), (3, .func (.func 76) #[] #[ptr bP, ptr bR])]) (fun q h' δ' => q.1 ≤ bods.length ∧ δ' = ⟨0, q.2.1⟩ ∧ Mine X q.2.1.p q.2.2 ∧ Sta X W h R q.2.2 h' ∧ q.2.2.num = q.1 ∧ q.2.2.fl = q.1 ∧ q.2.2.log = [] ∧ q.2.2.went = [] ∧ q.2.2.rdy = [] ∧ q.2.2.stops = false ∧ q.2.2.val = p0.val ∧ (∀ j, q.1 ≤ j → q.2.2.st j = .born) ∧ ∀ j, j < q.1 → (q.2.2.gone j = false ∧ ∃ r, q.2.2.st j = .stands r ∧ RqOk X r) ∨ (q.2.2.gone j = true ∧ q.2.2.st j = .over))
    (fun q => bods.length - q.1) (0, γ, p0) ⟨rfl, rfl, rfl, rfl, rfl, rfl, trivial⟩ ⟨Nat.zero_le _, rfl, hv0, s0, b1, b2, b3, b4, b5, b6, rfl, fun j _ => b7 j, fun j hj => by omega⟩ ?_
  rintro ⟨i, γ1, p1⟩ h1 δ1 ⟨hi, hδ, hv, sa, c1, c2, c3, c4, c5, c6, c7, c8, c9⟩ again
  dsimp only at hi hv sa c1 c2 c3 c4 c5 c6 c7 c8 c9 again hδ ⊢
  subst hδ
  by_cases hin : i < bods.length
  · obtain ⟨bb, kk, e, hBc, _⟩ := hB.cell (by omega)
    injection e with e1 e2 e3
    subst e1 e3
    obtain ⟨⟨fb, cap⟩, hq⟩ : ∃ q, bods[i]? = some q := ⟨_, List.getElem?_eq_getElem hin⟩
    obtain ⟨hasB, hbd⟩ := hbody i _ hq
    have hc : hcell h1 ⟨bb, 0 + i * 1, none⟩ = some (.func (.func fb) #[] cap) := by
      rw [Nat.zero_add, Nat.mul_one]
      exact sa.upd.hcell (hBc i _ (by rw [List.getElem?_map, hq]; rfl)) (hBW bb rfl)
    obtain ⟨s, M, g⟩ := sa.gi
    have hbegin := beginG (γ := γ1) (p0 := p1) hX hv (b := fb) (cap := cap) g sa.I sa.J sa.Q c6 c3 (by omega) (by rw [c1, c2]) (fun c hc => hW c (Nat.le_trans sa.upd.size hc)) (by rw [c1]; exact hbd) (by rw [c1]; exact c8 i (Nat.le_refl _))
    rw [sa.R] at hbegin
    (repeat (first | refine EK.seq ?_ | refine EK.region ?_ | refine ER.done ?_ | refine EK.skip ?_ | refine EK.block ?_ | refine ER.move rfl rfl rfl ?_ | refine ER.assign rfl rfl rfl ?_ | refine ER.cmpT rfl rfl rfl rfl rfl (by first | (dsimp only [cmpP]; omega) | exact rfl | exact Int.le_refl _) ?_ | refine ER.indexSl rfl rfl rfl rfl (by omega) (by omega) ?_ | refine EK.condT rfl ?_ | refine ER.load1 rfl rfl rfl (by assumption) ?_))
    refine ER.callR rfl rfl rfl rfl rfl hbegin ?_
    rintro v h2 δ2 ⟨γ2, t, w, sd, bx, bf, br, rfl, ew, eW, er, hP0, u2, hbs⟩
    have hT := hP0.2.1
    rw [er, c1] at hT
    obtain ⟨d1, d2, d3, d4, d5, d6, d7, d8, d9, d10⟩ := begun c1 c6 c3 ew hT
    have sb : Sta X W h R γ2.p h2 := Sta.of hW hP0 eW (Nat.le_trans sa.upd.size hbs) (sa.upd.trans u2) (by rw [ew]; exact sa.R)
    (repeat (first | refine EK.region ?_ | refine ER.done ?_ | refine EK.inBlock ?_ | refine ER.move rfl rfl rfl ?_ | refine ER.add (kd := .i64) rfl rfl rfl rfl (i64_in (by omega) (by omega)) ?_))
    refine EK.back (again (i + 1, γ2, γ2.p) _ _ (by dsimp only; omega) ⟨by dsimp only; omega, rfl, Mine.refl _, sb, d1, by rw [d2, c2], d3, d4.trans c4, d5.trans c5, d6, d7.trans c7, fun j hj => (d8 j hj).trans (c8 j (by dsimp only at hj; omega)), fun j hj => ?_⟩) ⟨rfl, rfl, rfl, rfl, rfl, rfl, trivial⟩
    dsimp only at hj ⊢
    by_cases e : j = i
    · subst e; exact d10
    · obtain ⟨q1, q2⟩ := d9 j (by omega)
      rw [q1, q2]; exact c9 j (by omega)
  · obtain rfl : i = bods.length := by omega
    clear again
    (repeat (first | refine EK.seq ?_ | refine EK.region ?_ | refine ER.done ?_ | refine EK.block ?_ | refine ER.cmpF rfl rfl rfl rfl rfl (by first | (dsimp only [cmpP]; omega) | exact rfl | exact Int.le_refl _) ?_ | refine EK.condF rfl ?_ | refine EK.exit rfl ?_))
    have reg0 : Reg X p0.val picks bods.length p1 := ⟨c1, c2, c6, by rw [c4, c3]; rfl, by rw [c5, c3]; rfl, c9, by rw [c3, c7]; exact Chain.nil, fun k e hk => by rw [c3] at hk; simp at hk⟩
    refine EK.loopInv (fun _ : GG X × PS X.U => [(0, ptr R), (1, .int .i64 most), (3, .func (.func 76) #[] #[ptr bP, ptr bR])]) (fun q h' δ' => δ' = ⟨0, q.1⟩ ∧ Mine X q.1.p q.2 ∧ Sta X W h R q.2 h' ∧ Reg X p0.val picks bods.length q.2 ∧ q.2.log.length ≤ most)
      (fun q => most - q.2.log.length) (γ1, p1) ⟨rfl, rfl, rfl, trivial⟩ ⟨rfl, hv, sa, reg0, by rw [c3]; exact Nat.zero_le _⟩ ?_
    clear sa reg0 c1 c2 c3 c4 c5 c6 c7 c8 c9 hi hin hv h1 p1 γ1
    rintro ⟨γ1, p1⟩ h1 δ1 ⟨hδ, hv, sa, rg, hlm⟩ again
    dsimp only at hv sa rg hlm again hδ ⊢
    subst hδ
    obtain ⟨s, M, g⟩ := sa.gi
    have hnum := rg.num
    have hable := ableG (p := p1) (γ := γ1) hv g (by rw [hnum]; exact hnb) (fun j hj hg => by
      rcases rg.alive j (by rw [← hnum]; exact hj) with ⟨_, r, y1, y2⟩ | ⟨y, _⟩
      · exact ⟨r, y1, y2⟩
      · rw [hg] at y; cases y)
    rw [sa.R, hnum] at hable
    (repeat (first | refine EK.seq ?_ | refine EK.region ?_ | refine EK.block ?_ | refine ER.move rfl rfl rfl ?_))
    refine ER.callR rfl rfl rfl rfl rfl hable ?_
    rintro _ h2 δ2 ⟨rfl, lv, rfl, u2, sl, hlb⟩
    obtain ⟨aL, kL, eL⟩ := sl.val
    subst eL
    have g2 := g.upd0 u2
    have uh2 : Upd W h h2 := sa.upd.trans (u2.mono fun _ _ x => x.elim)
    have I2 : X.I p1.u h2 := hX.loc _ _ _ (fun b hb => u2.2 b (g.dom b hb).1 (fun x => x)) sa.I
    have sb : Sta X W h R p1 h2 := ⟨⟨s, M, g2⟩, I2, sa.J, sa.Q, sa.R, uh2⟩
    cases hl : p1.live bods.length with
    | nil =>
      rw [hl] at sl hlb
      (repeat (first | refine EK.seq ?_ | refine EK.region ?_ | refine ER.done ?_ | refine EK.block ?_ | refine ER.move rfl rfl rfl ?_ | refine ER.assign rfl rfl rfl ?_ | refine ER.extract rfl rfl rfl rfl ?_ | refine EK.condT rfl ?_ | refine EK.ret ?_))
      exact EU.ret2 rfl rfl rfl ⟨γ1, p1, 1, rfl, hv, sb, rg, rfl, .inl ⟨rfl, hl, hlm⟩⟩
    | cons j0 lt =>
      have hlne : p1.live bods.length ≠ [] := by rw [hl]; exact nofun
      have hlen0 : 0 < (p1.live bods.length).length := List.length_pos_iff.2 hlne
      have hemp : (j0 :: lt).isEmpty = false := rfl
      rw [hemp]
      rw [← hl]
      have hlen64 : (p1.live bods.length).length ≤ 64 := by
        unfold PS.live
        have := List.length_filter_le (fun j => !p1.gone j) (List.range bods.length)
        rw [List.length_range] at this; omega
      obtain ⟨aW, kW, eW⟩ := Mem.Sl.val (show M.Sl .went s.W 3 1 p1.went.length (p1.went.map fun (n : Nat) => Value.int .i64 (n : Int)) from g.all .went)
      have hrun2 := g2.runAt
      rw [sa.R] at hrun2
      have w3 : hcell h2 ⟨R, 3, none⟩ = some (.slice aW p1.went.length kW) := by rw [← eW]; exact hcell_of hrun2 rfl
      have hwl : p1.went.length = p1.log.length := by rw [rg.went, List.length_map]
      clear hrun2
      by_cases hcut : p1.went.length = most
      · (repeat (first | refine EK.seq ?_ | refine EK.region ?_ | refine ER.done ?_ | refine EK.block ?_ | refine ER.move rfl rfl rfl ?_ | refine ER.assign rfl rfl rfl ?_ | refine ER.nilCheck rfl rfl rfl ?_ | refine ER.fieldAddr rfl rfl rfl ?_ | refine ER.extract rfl rfl rfl rfl ?_ | refine ER.cmpT rfl rfl rfl rfl rfl (by first | (dsimp only [cmpP]; omega) | exact rfl | exact Int.le_refl _) ?_ | refine ER.cmpF rfl rfl rfl rfl rfl (by first | (dsimp only [cmpP]; omega) | exact rfl | exact Int.le_refl _) ?_ | refine ER.len1 rfl rfl rfl ?_ | refine EK.condT rfl ?_ | refine EK.condF rfl ?_ | refine EK.ret ?_ | refine ER.load1 rfl rfl rfl (by assumption) ?_))
        exact EU.ret2 rfl rfl rfl ⟨γ1, p1, 2, rfl, hv, sb, rg, rfl, .inr ⟨rfl, hlne, hwl.symm.trans hcut⟩⟩
      · have hjm := pick_mem hlne picks p1.went
        have hsch := schedG (main := true) (S := SitM Try.prog (PX X)) (δ := ⟨0, γ1⟩) (picks := picks) (went := p1.went) (l := p1.live bods.length) (tb := p1.tb) (hP.upd uh2 hPW) (uh2.hcell hbP hbPW) (uh2.hcell hbR hbRW) w3 (by rw [← eW]; exact Mem.Sl.slice g2.rep (g2.all .went)) sl hlne hlen64 (by omega) (fun j hj => by
          obtain ⟨v, a, _, hrow⟩ := g2.thrAt (i := j) (by rw [hnum]; exact (mem_live.1 hj).1)
          exact hcell_of hrow rfl)
        obtain ⟨j, hj⟩ : ∃ j, j = pickOf picks p1.went (p1.live bods.length) := ⟨_, rfl⟩
        rw [← hj] at hsch hjm
        obtain ⟨hjn, hjg⟩ := mem_live.1 hjm
        have hjn' : j < p1.num := by rw [hnum]; exact hjn
        have wj : hcell h2 ⟨p1.tb j, 1, none⟩ = some (.int .i64 j) := by
          obtain ⟨v, a, _, hrow⟩ := g2.thrAt hjn'
          exact hcell_of hrow rfl
        have hRs : ∀ o, ¬ (SitM Try.prog (PX X)).still γ1 ⟨R, o, none⟩ := fun o => by
          have x := g2.all .run
          rw [← sa.R, ← x.2.1]; exact stillM_nm hv g2 x.1 (fun j => ⟨nofun, nofun⟩)
        have hwent : M.Sl .went (.slice aW p1.went.length kW) 3 1 p1.went.length (p1.went.map fun (n : Nat) => Value.int .i64 (n : Int)) := by
          have := g2.all .went
          rw [← eW]; exact this
        (repeat (first | refine EK.seq ?_ | refine EK.region ?_ | refine ER.done ?_ | refine EK.skip ?_ | refine EK.block ?_ | refine EK.inBlock ?_ | refine ER.move rfl rfl rfl ?_ | refine ER.assign rfl rfl rfl ?_ | refine ER.nilCheck rfl rfl rfl ?_ | refine ER.fieldAddr rfl rfl rfl ?_ | refine ER.extract rfl rfl rfl rfl ?_ | refine ER.cmpF rfl rfl rfl rfl rfl (by first | (dsimp only [cmpP]; omega) | exact rfl | exact Int.le_refl _) ?_ | refine ER.len1 rfl rfl rfl ?_ | refine EK.condF rfl ?_ | refine ER.load1 rfl rfl rfl (by assumption) ?_))
        refine ER.callD rfl rfl rfl rfl rfl hsch ?_
        (repeat (first | refine EK.seq ?_ | refine EK.region ?_ | refine ER.done ?_ | refine EK.skip ?_ | refine ER.move rfl rfl rfl ?_ | refine ER.assign rfl rfl rfl ?_ | refine ER.eqV rfl rfl rfl rfl rfl ?_ | refine EK.condF rfl ?_))
        refine EK.regionAnyL (fun h' => hcell h' ⟨R, 3, none⟩ = some (.slice aW p1.went.length kW) ∧ hcell h' ⟨p1.tb j, 1, none⟩ = some (.int .i64 j)) 13 ?_
        have hZ := And.intro w3 wj
        refine EA.tMove 0 rfl (by kernel_rfl) rfl rfl rfl rfl hZ ?_
        refine EA.tMove 1 rfl (by kernel_rfl) rfl rfl rfl rfl hZ ?_
        refine EA.tNil 2 rfl (by kernel_rfl) rfl rfl rfl rfl hZ ?_
        refine EA.tField 3 rfl (by kernel_rfl) rfl rfl rfl rfl hZ ?_
        refine EA.tLoad 4 rfl (by kernel_rfl) rfl rfl rfl rfl (fun _ hz => hz.1) hZ ?_
        refine EA.tMove 5 rfl (by kernel_rfl) rfl rfl rfl rfl hZ ?_
        refine EA.tNil 6 rfl (by kernel_rfl) rfl rfl rfl rfl hZ ?_
        refine EA.tField 7 rfl (by kernel_rfl) rfl rfl rfl rfl hZ ?_
        refine EA.tLoad 8 rfl (by kernel_rfl) rfl rfl rfl rfl (fun _ hz => hz.2) hZ ?_
        have hZ3 : _ ∧ _ := ⟨hcell_push (o := .cells #[.int .i64 j] 3) w3, hcell_push (o := .cells #[.int .i64 j] 3) wj⟩
        refine EA.val (v := .slice (some ⟨h2.size, 0, none⟩) 1 1) (h' := h2.push (.cells #[.int .i64 j] 3)) 9 rfl (by kernel_rfl) rfl rfl rfl (fun ρ Q X hρ hq => sem_slice1 (sz := 1) hρ rfl (by omega) (by omega) rfl rfl hq) hZ3 ?_
        have g3 := g2.upd0 (Upd.push h2 (.cells #[.int .i64 j] 3))
        refine EA.append1 (new := [.int .i64 j]) 10 rfl (by kernel_rfl) rfl rfl rfl rfl rfl (hwent.slice g3.rep) (get_push_new _ _) rfl (by simp [OneCell]) (by omega) (by omega) rfl (fun c o hc => ?_) ?_
        · obtain ⟨y1, y2⟩ := hwent.blk hc
          rw [y2]; exact stillM_nm hv g2 y1 (fun j => ⟨nofun, nofun⟩)
        intro s4 h4 sl4 u4 hb4
        have nW : ∀ k, M.ok k → k ≠ .went → ¬ blk (.slice aW p1.went.length kW) = some (M.B k) := fun k hk hne e => by
          obtain ⟨y1, y2⟩ := hwent.blk e
          exact g3.ne hk y1 hne y2
        have hr3 := g3.all .run
        have hrun3 : (h2.push (.cells #[.int .i64 j] 3))[R]? = some (runO s p1.mb p1.stops) := by rw [← sa.R]; exact g3.runAt
        have nR : ¬ blk (.slice aW p1.went.length kW) = some R := by have := nW .run hr3.1 nofun; rwa [hr3.2.1, sa.R] at this
        have ht3 := g3.all (.t j) hjn'
        have nT : ¬ blk (.slice aW p1.went.length kW) = some (p1.tb j) := by have := nW (.t j) ht3.1 nofun; rwa [ht3.2.1] at this
        have hrun4 := u4.get hrun3 nR
        have hZ4 := And.intro (u4.hcell hZ3.1 nR) (u4.hcell hZ3.2 nT)
        refine ⟨hZ4, ?_⟩
        obtain ⟨aQ, kQ, eQ⟩ := sl4.val
        refine EA.val 11 rfl (by kernel_rfl) rfl rfl rfl (fun ρ Q X hρ hq => sem_nilCheck (hρ _ _ rfl) hq) hZ4 ?_
        have hZ := hZ4
        refine EA.tField 12 rfl (by kernel_rfl) rfl rfl rfl rfl hZ ?_
        refine EA.unitL (h' := hset h4 ⟨R, 3, none⟩ s4) 13 rfl (by kernel_rfl) rfl rfl rfl (fun ρ Q X hρ hq => sem_store1 (hρ _ _ rfl) (hρ _ _ rfl) (by rw [eQ]; exact ⟨nofun, nofun⟩) ⟨_, hZ4.1⟩ (hfroz_of hrun4) (hRs _) hq) ?_
        refine EA.done (by kernel_rfl) ?_
        have uP2 := uh2.trans (Upd.push (T := W) h2 (.cells #[.int .i64 j] 3))
        obtain ⟨M5, g5⟩ := g3.app (p' := { p1 with went := p1.went ++ [j] }) (sl := { s with W := s4 }) .went hwent sl4 u4 hb4 (fun c hc => hW c (Nat.le_trans uP2.size hc)) nofun rfl rfl (fun i hi x hx => ⟨hi, hx⟩) rfl rfl rfl (fun k' h1 h2 => by
          have y := g3.all k'
          cases k' with
          | went => exact absurd rfl h1
          | run => exact absurd rfl h2
          | _ => exact y) (fun N' y => by
          show N'.Sl .went s4 3 1 (p1.went ++ [j]).length ((p1.went ++ [j]).map fun (n : Nat) => Value.int .i64 (n : Int))
          rw [List.length_append, List.map_append]; exact y) g3.isin
        rw [show h4.setIfInBounds p1.R (runO { s with W := s4 } p1.mb p1.stops) = h4.setIfInBounds R (runO { s with W := s4 } p1.mb p1.stops) by rw [sa.R]] at g5
        have e5 : hset h4 ⟨R, 3, none⟩ s4 = h4.setIfInBounds R (runO { s with W := s4 } p1.mb p1.stops) := hset_block hrun4 _
        rw [e5]
        have hWk : ∀ c, blk (.slice aW p1.went.length kW) = some c → W c := fun c hc => by
          obtain ⟨y1, y2⟩ := hwent.blk hc
          rw [y2]; exact g3.wide _ y1
        have hWR : W R := by have := g3.wide _ hr3.1; rwa [hr3.2.1, sa.R] at this
        have u5 : Upd W h (h4.setIfInBounds R (runO { s with W := s4 } p1.mb p1.stops)) := (uP2.trans (u4.mono fun c _ hc => hWk c hc)).trans (Upd.set _ _ _ hWR)
        have v5 : Upd (fun c => ∃ k, M.ok k ∧ M.B k = c) h2 (h4.setIfInBounds R (runO { s with W := s4 } p1.mb p1.stops)) := ((Upd.push h2 (.cells #[.int .i64 j] 3)).trans (u4.mono fun c _ hc => by
          obtain ⟨y1, y2⟩ := hwent.blk hc
          exact ⟨_, y1, y2.symm⟩)).trans (Upd.set _ _ _ ⟨_, hr3.1, hr3.2.1.trans sa.R⟩)
        have I5 := I_upd hX g2 v5 (fun c x => x) I2
        generalize h4.setIfInBounds R (runO { s with W := s4 } p1.mb p1.stops) = h5 at g5 u5 I5 ⊢
        clear hZ hZ3 hZ4 u4 sl4 hb4 nW hr3 hrun3 nR ht3 nT hrun4 eQ uP2 e5 hWk w3 wj hsch hwent v5
        obtain ⟨aY, kY, eY⟩ := Mem.Sl.val (show M5.Sl .rdy s.Y 3 1 p1.rdy.length (p1.rdy.map fun (n : Nat) => Value.int .i64 (n : Int)) from g5.all .rdy)
        have y4 : hcell h5 ⟨R, 4, none⟩ = some (.slice aY p1.rdy.length kY) := by
          have := g5.runAt
          rw [← eY, ← sa.R]; exact hcell_of this rfl
        have hrdy : M5.Sl .rdy (.slice aY p1.rdy.length kY) 3 1 p1.rdy.length (p1.rdy.map fun (n : Nat) => Value.int .i64 (n : Int)) := by
          have := g5.all .rdy
          rw [← eY]; exact this
        have hrl : p1.rdy.length ≤ 65536 := by rw [rg.rdy]; omega
        have mn : Mine X γ1.p { p1 with went := p1.went ++ [j] } := hv.more rfl
        (repeat (first | refine EK.seq ?_ | refine EK.region ?_ | refine ER.move rfl rfl rfl ?_ | refine ER.nilCheck rfl rfl rfl ?_ | refine ER.fieldAddr rfl rfl rfl ?_ | refine ER.len1 rfl rfl rfl ?_ | refine ER.load1 rfl rfl rfl (by assumption) ?_))
        refine ER.slice1 (cells := #[.int .i64 ((p1.live bods.length).length : Int)]) rfl rfl rfl (by omega) (by omega) (by rfl) rfl ?_
        have g6 := g5.upd0 (Upd.push h5 (.cells #[.int .i64 ((p1.live bods.length).length : Int)] 3))
        refine ER.append1 (new := [.int .i64 ((p1.live bods.length).length : Int)]) rfl rfl rfl rfl (hrdy.slice g6.rep) (get_push_new _ _) rfl (by simp [OneCell]) (by omega) (by omega) (by rfl) (fun c o hc => ?_) ?_
        · obtain ⟨y1, y2⟩ := hrdy.blk hc
          rw [y2]; exact stillM_nm mn g5 y1 (fun j => ⟨nofun, nofun⟩)
        intro s7 h7 sl7 u7 hb7
        have hr6 := g6.all .run
        have nR : ¬ blk (.slice aY p1.rdy.length kY) = some R := fun e => by
          obtain ⟨y1, y2⟩ := hrdy.blk e
          exact g6.ne hr6.1 y1 nofun ((hr6.2.1.trans sa.R).trans y2)
        have hrun6 : (h5.push (.cells #[.int .i64 ((p1.live bods.length).length : Int)] 3))[R]? = some (runO { s with W := s4 } p1.mb p1.stops) := by rw [← sa.R]; exact g6.runAt
        have hrun7 := u7.get hrun6 nR
        have y7 : hcell h7 ⟨R, 4, none⟩ = some s.Y := hcell_of hrun7 rfl
        have hz7 : hfroz h7 ⟨R, 4, none⟩ = false := hfroz_of hrun7
        obtain ⟨aQ, kQ, eQ⟩ := sl7.val
        have hOne : OneCell s7 := by rw [eQ]; exact ⟨nofun, nofun⟩
        have e8 : hset h7 ⟨R, 4, none⟩ s7 = h7.setIfInBounds R (runO { s with W := s4, Y := s7 } p1.mb p1.stops) := hset_block hrun7 _
        have uP5 := u5.trans (Upd.push (T := W) h5 (.cells #[.int .i64 ((p1.live bods.length).length : Int)] 3))
        obtain ⟨M8, g8⟩ := g6.app (p' := { p1 with went := p1.went ++ [j], rdy := p1.rdy ++ [(p1.live bods.length).length] }) (sl := { s with W := s4, Y := s7 }) .rdy hrdy sl7 u7 hb7 (fun c hc => hW c (Nat.le_trans uP5.size hc)) nofun rfl rfl (fun i hi x hx => ⟨hi, hx⟩) rfl rfl rfl (fun k' h1 h2 => by
          have y := g6.all k'
          cases k' with
          | rdy => exact absurd rfl h1
          | run => exact absurd rfl h2
          | _ => exact y) (fun N' y => by
          show N'.Sl .rdy s7 3 1 (p1.rdy ++ [(p1.live bods.length).length]).length ((p1.rdy ++ [(p1.live bods.length).length]).map fun (n : Nat) => Value.int .i64 (n : Int))
          rw [List.length_append, List.map_append]; exact y) g6.isin
        rw [show h7.setIfInBounds ({ p1 with went := p1.went ++ [j] } : PS X.U).R (runO { s with W := s4, Y := s7 } p1.mb p1.stops) = h7.setIfInBounds R (runO { s with W := s4, Y := s7 } p1.mb p1.stops) by show h7.setIfInBounds p1.R _ = _; rw [sa.R]] at g8
        have hWk : ∀ c, blk (.slice aY p1.rdy.length kY) = some c → W c := fun c hc => by
          obtain ⟨y1, y2⟩ := hrdy.blk hc
          rw [y2]; exact g6.wide _ y1
        have u8 : Upd W h (h7.setIfInBounds R (runO { s with W := s4, Y := s7 } p1.mb p1.stops)) := (uP5.trans (u7.mono fun c _ hc => hWk c hc)).trans (Upd.set _ _ _ hWR)
        have v8 : Upd (fun c => ∃ k, M5.ok k ∧ M5.B k = c) h5 (h7.setIfInBounds R (runO { s with W := s4, Y := s7 } p1.mb p1.stops)) := ((Upd.push h5 (.cells #[.int .i64 ((p1.live bods.length).length : Int)] 3)).trans (u7.mono fun c _ hc => by
          obtain ⟨y1, y2⟩ := hrdy.blk hc
          exact ⟨_, y1, y2.symm⟩)).trans (Upd.set _ _ _ ⟨_, hr6.1, hr6.2.1.trans sa.R⟩)
        have I8 := I_upd hX g5 v8 (fun c x => x) I5
        clear hrun6 hrun7
        (repeat (first | refine ER.nilCheck rfl rfl rfl ?_ | refine ER.fieldAddr rfl rfl rfl ?_))
        refine ER.store1 rfl rfl rfl hOne ⟨_, y7⟩ hz7 (hRs _) ?_
        rw [e8]
        clear e8 y7 hz7 u7 sl7 hb7 uP5 v8 g6 hr6 eQ hOne hWk hrdy y4 g5 u5 I5
        generalize h7.setIfInBounds R (runO { s with W := s4, Y := s7 } p1.mb p1.stops) = h8 at g8 u8 I8 ⊢
        have mn2 : Mine X γ1.p { p1 with went := p1.went ++ [j], rdy := p1.rdy ++ [(p1.live bods.length).length] } := hv.more (c := p1.stops) rfl
        (repeat (first | refine EK.region ?_ | refine ER.done ?_ | refine ER.move rfl rfl rfl ?_))
        refine ER.callR rfl rfl rfl rfl rfl (goesG (γ := γ1) (p := { p1 with went := p1.went ++ [j], rdy := p1.rdy ++ [(p1.live bods.length).length] }) (j := j) hX mn2 g8 I8 sa.J sa.Q hjn' hjg (fun _ => by show p1.log.length < 65536; omega) (fun _ => rg.stops)) ?_
        rintro v h9 δ9 ⟨γ3, rfl, e1, e2, e3, e4, hP0⟩
        have hT := hP0.2.1
        rw [e1, e4] at hT
        have sc : Sta X W h R γ3.p h9 := Sta.of hW hP0 e3 (by rw [e2]; exact u8.size) (u8.trans (by have := hP0.2.2.upd; rw [e2, e3] at this; exact this)) (by rw [e1]; exact sa.R)
        have rg3 : Reg X p0.val picks bods.length γ3.p := by
          rcases hT with ⟨_, u', L, z, e, hz, hr⟩ | ⟨h1, _⟩
          · rw [e]; exact rg.turn hj hlne hz hr
          · have h1' : p1.stops = true := h1
            rw [rg.stops] at h1'; cases h1'
        have hlen3 : γ3.p.log.length = p1.log.length + 1 := by
          have y1 : γ3.p.went = p1.went ++ [j] := (turned_same hT).2.2.2.2.2.2.2.2.2.2.2.1
          have y2 := rg3.went
          rw [y1] at y2
          have := congrArg List.length y2
          simp only [List.length_append, List.length_map, List.length_cons, List.length_nil] at this
          omega
        (repeat (first | refine ER.done ?_ | refine EK.inBlock ?_))
        exact EK.back (again (γ3, γ3.p) _ _ (by dsimp only; omega) ⟨rfl, Mine.refl _, sc, rg3, by dsimp only; omega⟩) ⟨rfl, rfl, rfl, trivial⟩
end
end Go.Proofs.Ytcpcdnkemobneaa
end
section
namespace Go.Proofs.Ytcpcdnkemobneaa
open Go Go.TJ Go.Conc Go.Proofs
section
variable {ty : TypeId} {pos : String} {af : Array Edge} {g : Option (Nat × Bool)}
theorem sem_extract {Γ : Type} {P : Program} {S : Sit Γ} {h : Hp} {δ : Ix Γ} {x : Operand} {i : Nat} {vs : Array Value} {v : Value} {ρ : Operand → Value} {dst : Option Nat} {Q : Next → Hp → Ix Γ → Prop} {Y : Value → Hp → Ix Γ → Prop} (hx : ρ x = .tuple vs) (hv : vs[i]? = some v) (hq : Q (.value v) h δ) : SemW P S (execOp ρ ⟨dst, .extract x i, ty, pos, af, g⟩) h δ Q Y := by
  show SemW P S (Instr.extract (ρ x) i >>= fun v => pure (.value v)) h δ Q Y
  rw [hx]
  unfold Instr.extract
  simp only [hv]
  exact hq
theorem sem_lookupOk {Γ : Type} {P : Program} {S : Sit Γ} {h : Hp} {δ : Ix Γ} {t kt et el sz by_ s2 b2 : Nat} {z z2 : Value} [ht : Und P t (.map kt et)] [hu : Und P kt (.pointer el)] [i2 : Inf P el s2 b2 z2] [Inf P et sz by_ z] {x y : Operand} {r c : Nat} {es : Array MapEntry} {ls : List (Addr × Value)} {a : Addr} {v : Value} {ρ : Operand → Value} {dst : Option Nat} {Q : Next → Hp → Ix Γ → Prop} {Y : Value → Hp → Ix Γ → Prop}
    (hx : ρ x = .map (some r)) (hy : ρ y = .pointer (some a)) (hsz : s2 ≠ 0) (hr : h[r]? = some (.map es c)) (ha : Plain h a.block) (hp : ∀ p ∈ ls, Plain h p.1.block) (hk : Keyed es ls)
    (hv : (match pfind a ls 0 with | some p => .tuple #[p.2, .bool true] | none => .tuple #[z, .bool false]) = v) (hq : Q (.value v) h δ) : SemW P S (execOp ρ ⟨dst, .lookup t x y true, ty, pos, af, g⟩) h δ Q Y := by
  show SemW P S (Instr.lookup t (ρ x) (ρ y) true >>= fun v => pure (.value v)) h δ Q Y
  rw [hx, hy]
  exact semW_bind _ _ _ _ _ _ (semW_lookup ht.out hu.out i2 hsz hr ha hp hk (by revert hq; rw [← hv]; cases pfind a ls 0 <;> exact id))
theorem tExtract {Γ : Type} {P : Program} {main : Bool} {S : Sit Γ} {f : FuncId} {n : Nat} {k : List Item} {env : Env} {ds : List Deferred} {h : Hp} {δ : Ix Γ} {R : Post Γ} {ops : Array Oper} {d : Nat} {Z : Hp → Prop} {zz : Nat} {m : Nat} {listed l' : Array Bool} (i : Nat) {x : Operand} {q : Nat} {vs : Array Value} {v : Value} (hi : ops[i]? = some ⟨some d, .extract x q, ty, pos, af, g⟩) (hs : takeB ops listed zz i = true) (hl : listed.setIfInBounds i true = l')
    (hd : Nat.blt d n = true) (hw : wantE ops env g = some true) (hx : ev env x = some (.tuple vs)) (hv : vs[q]? = some v) (hZ : Z h)
    (hn : EA P main S f n ops Z zz m l' k ((d, v) :: env) ds h δ R) : EA P main S f n ops Z zz (m + 1) listed k env ds h δ R :=
  EA.take i hi hs hl hd hw (fun _ _ _ _ _ hρ _ hq => sem_extract (hρ _ _ hx) hv hq) hZ hn
end
def leftL {U : Type} (p : PS U) (ns : List Nat) (j : Nat) : List Value := match p.st j with
  | .stands r => accL j r.op (if r.b ∈ ns then (ns.idxOf r.b : Int) else -1) r.arg r.new (p.val r.b) (p.val r.b) false
  | _ => []
theorem row_at {h : Hp} {t R i wk sd : Nat} {v : Value} {a b c d e f x : Int} {k g : Bool} (hr : h[t]? = some (thrO R i wk sd v (accL a b c d e f x k) g)) : hrow h t (0 + 5) (accL a b c d e f x k) := by
  intro q v hq
  have hq' : q < 8 := by
    rcases Nat.lt_or_ge q 8 with y | y
    · exact y
    · rw [List.getElem?_eq_none (show (accL a b c d e f x k).length ≤ q from y)] at hq; cases hq
  rcases (show q = 0 ∨ q = 1 ∨ q = 2 ∨ q = 3 ∨ q = 4 ∨ q = 5 ∨ q = 6 ∨ q = 7 by omega) with rfl | rfl | rfl | rfl | rfl | rfl | rfl | rfl <;> (injection hq with hq; subst hq; exact hcell_of hr rfl)
section
variable {X : Us} {W : Nat → Prop} {p : PS X.U} {ns : List Nat} {s : Sls} {M : Mem Nm} {h : Hp} {γ : GG X}
def goneTo {U : Type} (p : PS U) (i : Nat) : PS U := { p with stops := true, gone := fun j => p.gone j || decide (j < i) }
abbrev allGone {U : Type} (p : PS U) : PS U := goneTo p p.num
theorem goneTo_step {U : Type} {p : PS U} {i : Nat} : ({ goneTo p i with gone := ut (goneTo p i).gone i true } : PS U) = goneTo p (i + 1) := by
  unfold goneTo
  have : (ut (fun j => p.gone j || decide (j < i)) i true) = fun j => p.gone j || decide (j < i + 1) := by
    funext j
    by_cases e : j = i
    · subst e; rw [ut_same]; simp
    · rw [ut_ne _ _ e]
      have : decide (j < i + 1) = decide (j < i) := by simp; omega
      rw [this]
  dsimp only
  rw [this]
theorem goneTo_skip {U : Type} {p : PS U} {i : Nat} (h : p.gone i = true) : goneTo p i = goneTo p (i + 1) := by
  unfold goneTo
  have : (fun j => p.gone j || decide (j < i)) = fun j => p.gone j || decide (j < i + 1) := by
    funext j
    by_cases e : j = i
    · subst e; rw [h]; simp
    · have : decide (j < i + 1) = decide (j < i) := by simp; omega
      rw [this]
  rw [this]
set_option maxHeartbeats 8000000 in
set_option maxRecDepth 8000 in
theorem endsG (hX : X.Ok) (hv : Mine X γ.p p) (g : GI X W p (nums p.log) s M h) (hI : X.I p.u h) (hJ : X.J p.log p.u p.val) (hQ : ∀ x, X.Q x (ownOf x p.log) (p.st x) p.u) (hn : p.num ≤ 64) (hst : ∀ j, j < p.num → p.gone j = false → ∃ r, p.st j = .stands r ∧ RqOk X r) :
    CallW Try.prog true (SitM Try.prog (PX X)) 147 #[ptr p.R] h ⟨0, γ⟩ (Ret fun v h' δ' => ∃ γ' : GG X, δ' = ⟨0, γ'⟩ ∧ Mine X γ'.p (allGone p) ∧ (∃ s' M', GI X (fun b => Ours X p M b ∨ h.size ≤ b) (allGone p) (nums p.log) s' M' h') ∧ X.I p.u h' ∧ Upd (Ours X p M) h h' ∧
      SliceO h' v 75 8 (p.live p.num).length ((p.live p.num).flatMap (leftL p (nums p.log))) ∧ ∀ b, blk v = some b → h.size ≤ b ∧ b < h'.size) := by
  obtain ⟨aT, kT, eT⟩ := Mem.Sl.val (show M.Sl .thr s.T 32 1 p.num ((List.range p.num).map fun i => ptr (p.tb i)) from g.all .thr)
  have hrun := g.runAt
  have hR0 : hcell h ⟨p.R, 0, none⟩ = some (.slice aT p.num kT) := by rw [← eT]; exact hcell_of hrun rfl
  have hR1 : hcell h ⟨p.R, 1, none⟩ = some (.map (some p.mb)) := hcell_of hrun rfl
  refine CallW.start (n := 89) rfl rfl ?_
  clear hrun
  (repeat (first | refine EK.seq ?_ | refine EK.region ?_ | refine ER.done ?_ | refine EK.block ?_ | refine ER.move rfl rfl rfl ?_ | refine ER.assign rfl rfl rfl ?_ | refine ER.nilCheck rfl rfl rfl ?_ | refine ER.fieldAddr rfl rfl rfl ?_ | refine ER.len1 rfl rfl rfl ?_ | refine ER.load1 rfl rfl rfl (by assumption) ?_))
  refine EK.loopInv (fun q : Nat × Value => [(16, .int .i64 q.1), (3, q.2), (14, .slice aT p.num kT), (15, .int .i64 p.num), (0, ptr p.R)]) (fun q h' δ' => q.1 ≤ p.num ∧ δ' = ⟨0, γ⟩ ∧ Upd (fun _ => False) h h' ∧ SliceO h' q.2 75 8 (p.live q.1).length ((p.live q.1).flatMap (leftL p (nums p.log))) ∧ ∀ b, blk q.2 = some b → h.size ≤ b) (fun q => p.num - q.1) (0, nilS) ⟨rfl, rfl, rfl, rfl, rfl, trivial⟩ ⟨Nat.zero_le _, rfl, Upd.refl _ _, SliceO.nil, fun b hb => by cases hb⟩ ?_
  rintro ⟨i, lv⟩ h1 δ1 ⟨hi, hδ, u1, sl, hb⟩ again
  dsimp only at hi sl hb again hδ ⊢
  subst hδ
  by_cases hin : i < p.num
  · obtain ⟨b, k, eT', hc, hk, ebT⟩ := g.thrCell hin
    rw [eT] at eT'
    injection eT' with e1 e2 e3
    subst e1
    obtain ⟨v, a, hat, hrw⟩ := g.thrAt hin
    have hc1 := u1.hcell hc (fun x => x)
    have hrow1 := u1.get hrw (fun x => x)
    obtain ⟨_, t, o, c, b0, n, w, x, kk, rfl⟩ := hat.form
    have d13 : hcell h1 ⟨p.tb i, 13, none⟩ = some (.bool (p.gone i)) := hcell_of hrow1 rfl
    have hlen : (p.live i).length ≤ i := by
      unfold PS.live
      have := List.length_filter_le (fun j => !p.gone j) (List.range i)
      simpa using this
    have hSn : ∀ {c o}, h.size ≤ c → ¬ (SitM Try.prog (PX X)).still γ ⟨c, o, none⟩ := fun hc => stillM_new hv g hc
    cases hg : p.gone i with
    | true =>
      rw [hg] at d13
      clear hrow1 hrw
      rw [← live_no hg] at sl
      (repeat (first | refine EK.seq ?_ | refine EK.region ?_ | refine ER.done ?_ | refine EK.skip ?_ | refine EK.block ?_ | refine ER.move rfl rfl rfl ?_ | refine ER.assign rfl rfl rfl ?_ | refine ER.nilCheck rfl rfl rfl ?_ | refine ER.fieldAddr rfl rfl rfl ?_ | refine ER.cmpT rfl rfl rfl rfl rfl (by first | (dsimp only [cmpP]; omega) | exact rfl | exact Int.le_refl _) ?_ | refine ER.add (kd := .i64) rfl rfl rfl rfl (i64_in (by omega) (by omega)) ?_ | refine ER.indexSl rfl rfl rfl rfl (by omega) (by omega) ?_ | refine EK.condT rfl ?_ | refine EK.exit rfl ?_ | refine ER.load1 rfl rfl rfl (by assumption) ?_))
      exact EK.back (again (i + 1, lv) _ _ (by dsimp only; omega) ⟨by dsimp only; omega, rfl, u1, sl, hb⟩) ⟨rfl, rfl, rfl, rfl, rfl, trivial⟩
    | false =>
      rw [hg] at d13 hrow1
      obtain ⟨r, hr1, hr2⟩ := hst i hin hg
      rw [hr1] at hat
      obtain ⟨ev, ea⟩ := hat
      rw [ea] at hrow1
      subst ev
      have d4 : hcell h1 ⟨p.tb i, 4, none⟩ = some (ptr r.b) := hcell_of hrow1 rfl
      have d5 : hrow h1 (p.tb i) (0 + 5) (rqL i r) := row_at hrow1
      have hR1' := u1.hcell hR1 (fun x => x)
      have g1 := g.upd0 u1
      have hle := u1.size
      clear hrw hrow1 ea hc
      (repeat (first | refine EK.seq ?_ | refine EK.region ?_ | refine ER.done ?_ | refine EK.skip ?_ | refine EK.block ?_ | refine ER.move rfl rfl rfl ?_ | refine ER.assign rfl rfl rfl ?_ | refine ER.nilCheck rfl rfl rfl ?_ | refine ER.fieldAddr rfl rfl rfl ?_ | refine ER.cmpT rfl rfl rfl rfl rfl (by first | (dsimp only [cmpP]; omega) | exact rfl | exact Int.le_refl _) ?_ | refine ER.indexSl rfl rfl rfl rfl (by omega) (by omega) ?_ | refine EK.condT rfl ?_ | refine EK.condF rfl ?_ | refine ER.load1 rfl rfl rfl (by assumption) ?_))
      refine ER.loadN (vs := rqL i r) rfl rfl rfl rfl d5 ?_
      (repeat refine ER.allocA rfl rfl ?_)
      refine ER.storeN (vs := rqL i r) rfl rfl rfl rfl (by simp [rqL, accL, OneCell]) (fun j hj => ⟨?_, hfroz_of (get_push_new _ _), hSn hle⟩) ?_
      · have hj' : j < 8 := hj
        rcases (show j = 0 ∨ j = 1 ∨ j = 2 ∨ j = 3 ∨ j = 4 ∨ j = 5 ∨ j = 6 ∨ j = 7 by omega) with rfl | rfl | rfl | rfl | rfl | rfl | rfl | rfl <;> exact ⟨_, hcell_of (get_push_new _ _) rfl⟩
      rw [hsetRow_push (c := [.int .i64 0, .int .i8 0, .int .i64 0, .int .i64 0, .int .i64 0, .int .i64 0, .int .i64 0, .bool false]) (vs := rqL i r) rfl]
      refine ER.gen (fun h' => Upd (fun _ => False) h1 h' ∧ h'[h1.size]? = some (accO (rqL i r))) ⟨Upd.push _ _, get_push_new _ _⟩ ?_
      obtain ⟨y, hy⟩ : ∃ y, y = h1.size := ⟨_, rfl⟩
      rw [← hy]
      rintro h2 ⟨u2, lx⟩
      have d4' := u2.hcell d4 (fun x => x)
      have hR1'' := u2.hcell hR1' (fun x => x)
      have g2 := g1.upd0 u2
      have hle2 : h.size ≤ y := by omega
      (repeat (first | refine EK.seq ?_ | refine EK.region ?_ | refine ER.done ?_ | refine ER.move rfl rfl rfl ?_ | refine ER.nilCheck rfl rfl rfl ?_ | refine ER.fieldAddr rfl rfl rfl ?_ | refine ER.neqV rfl rfl rfl rfl rfl ?_ | refine EK.condT rfl ?_ | refine ER.load1 rfl rfl rfl (by assumption) ?_))
      refine EK.regionAny (fun h' => hcell h' ⟨p.R, 1, none⟩ = some (.map (some p.mb)) ∧ hcell h' ⟨p.tb i, 4, none⟩ = some (ptr r.b)) ?_
      have hZ := And.intro hR1'' d4'
      refine EA.tMove 0 rfl (by kernel_rfl) rfl rfl rfl rfl hZ ?_
      refine EA.tNil 1 rfl (by kernel_rfl) rfl rfl rfl rfl hZ ?_
      refine EA.tField 2 rfl (by kernel_rfl) rfl rfl rfl rfl hZ ?_
      refine EA.tLoad 3 rfl (by kernel_rfl) rfl rfl rfl rfl (fun _ hz => hz.1) hZ ?_
      refine EA.tMove 4 rfl (by kernel_rfl) rfl rfl rfl rfl hZ ?_
      refine EA.tNil 5 rfl (by kernel_rfl) rfl rfl rfl rfl hZ ?_
      refine EA.tField 6 rfl (by kernel_rfl) rfl rfl rfl rfl hZ ?_
      refine EA.tLoad 7 rfl (by kernel_rfl) rfl rfl rfl rfl (fun _ hz => hz.2) hZ ?_
      obtain ⟨x1, x2, es, cc, x3, x4⟩ := g2.all .map
      have hm : h2[p.mb]? = some (.map es cc) := by rw [← x2, ← x3]; exact g2.rep.has _ x1
      have hcb := (g2.cel r.b hr2.cell).1
      have hpl : ∀ q, q ∈ keysFrom (nums p.log) 0 → Plain h2 q.1.block := fun q hq => ⟨_, _, (g2.cel _ (g2.num _ (keysFrom_mem _ _ _ hq))).1⟩
      obtain ⟨nv, ok, hlk⟩ : ∃ nv ok, (match pfind ⟨r.b, 0, none⟩ (keysFrom (nums p.log) 0) 0 with | some p => Value.tuple #[p.2, .bool true] | none => .tuple #[.int .i64 0, .bool false]) = .tuple #[.int .i64 nv, .bool ok] ∧ ((ok = true ∧ r.b ∈ nums p.log ∧ nv = (nums p.log).idxOf r.b) ∨ (ok = false ∧ r.b ∉ nums p.log)) := by
        rw [pfind_keys]
        by_cases hb' : r.b ∈ nums p.log
        · rw [if_pos hb']
          exact ⟨(nums p.log).idxOf r.b, true, by simp, .inl ⟨rfl, hb', rfl⟩⟩
        · rw [if_neg hb']
          exact ⟨0, false, rfl, .inr ⟨rfl, hb'⟩⟩
      refine EA.val (v := .tuple #[.int .i64 nv, .bool ok]) (h' := h2) 8 rfl (by kernel_rfl) rfl rfl rfl (fun ρ Q Y hρ hq => sem_lookupOk (a := ⟨r.b, 0, none⟩) (hρ _ _ rfl) (hρ _ _ rfl) (by decide) hm ⟨_, _, hcb⟩ hpl x4 hlk.1 hq) hZ ?_
      refine EA.tMove 9 rfl (by kernel_rfl) rfl rfl rfl rfl hZ ?_
      refine tExtract 10 rfl (by kernel_rfl) rfl rfl rfl rfl rfl hZ ?_
      refine tExtract 11 rfl (by kernel_rfl) rfl rfl rfl rfl rfl hZ ?_
      refine EA.tAssign 12 rfl (by kernel_rfl) rfl rfl rfl rfl hZ ?_
      refine EA.tAssign 13 rfl (by kernel_rfl) rfl rfl rfl rfl hZ ?_
      refine EA.done (by kernel_rfl) ?_
      clear hm hpl x1 x2 x3 x4 hZ hR1''
      rcases hlk with ⟨-, ⟨rfl, hmem, rfl⟩ | ⟨rfl, hmem⟩⟩
      · (repeat (first | refine EK.seq ?_ | refine EK.region ?_ | refine ER.done ?_ | refine ER.move rfl rfl rfl ?_ | refine ER.fieldAddr rfl rfl rfl ?_ | refine EK.condT rfl ?_))
        refine ER.store1 rfl rfl rfl ⟨nofun, nofun⟩ ⟨_, hcell_of lx rfl⟩ (hfroz_of lx) (hSn hle2) ?_
        refine ER.gen (fun h' => Upd (fun _ => False) h1 h' ∧ h'[y]? = some (accO (accL i r.op (if r.b ∈ nums p.log then ((nums p.log).idxOf r.b : Int) else -1) r.arg r.new 0 0 false))) (by rw [hset_block lx, if_pos hmem]; exact ⟨u2.over (Upd.set (T := fun b => b = y) _ _ _ rfl) (fun b hb => by omega), get_set_same lx⟩) ?_
        clear u2 lx d4' g2 hcb
        rintro h3 ⟨u3, lx⟩
        have d4' := u3.hcell d4 (fun x => x)
        have hcb := ((g1.upd0 u3).cel r.b hr2.cell).1
        (repeat (first | refine EK.seq ?_ | refine EK.region ?_ | refine ER.done ?_ | refine ER.move rfl rfl rfl ?_ | refine ER.nilCheck rfl rfl rfl ?_ | refine ER.fieldAddr rfl rfl rfl ?_ | refine ER.load1 rfl rfl rfl (by assumption) ?_))
        refine ER.callD rfl rfl rfl rfl rfl (aload_ok (v := p.val r.b) (hcell_of hcb rfl)) ?_
        (repeat refine ER.fieldAddr rfl rfl rfl ?_)
        refine ER.store1 rfl rfl rfl ⟨nofun, nofun⟩ ⟨_, hcell_of lx rfl⟩ (hfroz_of lx) (hSn hle2) ?_
        refine ER.gen (fun h' => Upd (fun _ => False) h1 h' ∧ h'[y]? = some (accO (accL i r.op (if r.b ∈ nums p.log then ((nums p.log).idxOf r.b : Int) else -1) r.arg r.new (p.val r.b) 0 false))) (by rw [hset_block lx]; exact ⟨u3.over (Upd.set (T := fun b => b = y) _ _ _ rfl) (fun b hb => by omega), get_set_same lx⟩) ?_
        clear u3 lx d4' hcb
        rintro h4 ⟨u4, lx⟩
        have lx5 : hcell h4 ⟨y, 5, none⟩ = some (.int .i64 (p.val r.b)) := hcell_of lx rfl
        have lxz : hfroz h4 ⟨y, 6, none⟩ = false := hfroz_of lx
        have lx6 : hcell h4 ⟨y, 6, none⟩ = some (.int .i64 0) := hcell_of lx rfl
        have eG : hset h4 ⟨y, 6, none⟩ (.int .i64 (p.val r.b)) = h4.setIfInBounds y (accO (accL i r.op (if r.b ∈ nums p.log then ((nums p.log).idxOf r.b : Int) else -1) r.arg r.new (p.val r.b) (p.val r.b) false)) := hset_block lx _
        have lxs := get_set_same lx (o' := accO (accL i r.op (if r.b ∈ nums p.log then ((nums p.log).idxOf r.b : Int) else -1) r.arg r.new (p.val r.b) (p.val r.b) false))
        have u5 := u4.over (Upd.set (T := fun b => b = y) h4 y (accO (accL i r.op (if r.b ∈ nums p.log then ((nums p.log).idxOf r.b : Int) else -1) r.arg r.new (p.val r.b) (p.val r.b) false)) rfl) (fun b hb => by omega)
        clear lx
        (repeat (first | refine EK.region ?_ | refine ER.done ?_ | refine ER.fieldAddr rfl rfl rfl ?_ | refine ER.load1 rfl rfl rfl (by assumption) ?_))
        refine ER.store1 rfl rfl rfl ⟨nofun, nofun⟩ ⟨_, lx6⟩ lxz (hSn hle2) ?_
        rw [eG]
        clear eG lx5 lx6 lxz u4
        generalize h4.setIfInBounds y (accO (accL i r.op (if r.b ∈ nums p.log then ((nums p.log).idxOf r.b : Int) else -1) r.arg r.new (p.val r.b) (p.val r.b) false)) = h5 at lxs u5 ⊢
        generalize hcv : (if r.b ∈ nums p.log then ((nums p.log).idxOf r.b : Int) else -1) = cv at lxs ⊢
        (repeat (first | refine EK.region ?_ | refine ER.done ?_ | refine ER.move rfl rfl rfl ?_))
        refine ER.loadN (vs := accL i r.op cv r.arg r.new (p.val r.b) (p.val r.b) false) rfl rfl rfl rfl (hrow_block (rest := []) (by rw [List.append_nil]; exact lxs)) ?_
        refine ER.slice1 (z := .agg #[.int .i64 0, .int .i8 0, .int .i64 0, .int .i64 0, .int .i64 0, .int .i64 0, .int .i64 0, .bool false]) (cells := (accL i r.op cv r.arg r.new (p.val r.b) (p.val r.b) false).toArray) rfl rfl rfl (by omega) (by omega) (by rfl) (fill_acc _ _ _ _ _ _ _ _) ?_
        refine ER.append1 (new := accL i r.op cv r.arg r.new (p.val r.b) (p.val r.b) false) rfl rfl rfl rfl ((sl.upd u5 (fun _ _ x => x)).upd (Upd.push (T := fun _ => False) h5 _) (fun _ _ x => x)) (get_push_new _ _) rfl (by simp [accL, OneCell]) (by omega) (by omega) (by rfl) (fun c o hc => hSn (hb c hc)) ?_
        intro s6 h6 sl6 u6 hb6
        have u16 : Upd (fun _ => False) h h6 := ((u1.trans u5).trans (Upd.push h5 _)).over u6 hb
        (repeat (first | refine EK.region ?_ | refine ER.done ?_ | refine EK.inBlock ?_ | refine ER.move rfl rfl rfl ?_ | refine ER.assign rfl rfl rfl ?_ | refine ER.add (kd := .i64) rfl rfl rfl rfl (i64_in (by omega) (by omega)) ?_))
        refine EK.back (again (i + 1, s6) _ _ (by dsimp only; omega) ⟨by dsimp only; omega, rfl, u16, ?_, fun b' hb' => ?_⟩) ⟨rfl, rfl, rfl, rfl, rfl, trivial⟩
        · dsimp only
          rw [live_yes hg, List.flatMap_append, List.length_append]
          have : leftL p (nums p.log) i = accL i r.op cv r.arg r.new (p.val r.b) (p.val r.b) false := by unfold leftL; rw [hr1, ← hcv]
          simp only [List.flatMap_cons, List.flatMap_nil, List.append_nil, this]
          exact sl6
        · rcases hb6 b' hb' with z | z
          · exact hb _ z
          · have := u5.size; rw [Array.size_push] at z; omega
      · replace lx : h2[y]? = some (accO (accL i r.op (if r.b ∈ nums p.log then ((nums p.log).idxOf r.b : Int) else -1) r.arg r.new 0 0 false)) := by rw [if_neg hmem]; exact lx
        (repeat (first | refine EK.seq ?_ | refine EK.region ?_ | refine ER.done ?_ | refine EK.skip ?_ | refine ER.move rfl rfl rfl ?_ | refine ER.nilCheck rfl rfl rfl ?_ | refine ER.fieldAddr rfl rfl rfl ?_ | refine EK.condF rfl ?_ | refine ER.load1 rfl rfl rfl (by assumption) ?_))
        revert u2 lx
        clear d4' g2 hcb
        generalize h2 = h3
        intro u3 lx
        have d4' := u3.hcell d4 (fun x => x)
        have hcb := ((g1.upd0 u3).cel r.b hr2.cell).1
        skip
        refine ER.callD rfl rfl rfl rfl rfl (aload_ok (v := p.val r.b) (hcell_of hcb rfl)) ?_
        (repeat refine ER.fieldAddr rfl rfl rfl ?_)
        refine ER.store1 rfl rfl rfl ⟨nofun, nofun⟩ ⟨_, hcell_of lx rfl⟩ (hfroz_of lx) (hSn hle2) ?_
        refine ER.gen (fun h' => Upd (fun _ => False) h1 h' ∧ h'[y]? = some (accO (accL i r.op (if r.b ∈ nums p.log then ((nums p.log).idxOf r.b : Int) else -1) r.arg r.new (p.val r.b) 0 false))) (by rw [hset_block lx]; exact ⟨u3.over (Upd.set (T := fun b => b = y) _ _ _ rfl) (fun b hb => by omega), get_set_same lx⟩) ?_
        clear u3 lx d4' hcb
        rintro h4 ⟨u4, lx⟩
        have lx5 : hcell h4 ⟨y, 5, none⟩ = some (.int .i64 (p.val r.b)) := hcell_of lx rfl
        have lxz : hfroz h4 ⟨y, 6, none⟩ = false := hfroz_of lx
        have lx6 : hcell h4 ⟨y, 6, none⟩ = some (.int .i64 0) := hcell_of lx rfl
        have eG : hset h4 ⟨y, 6, none⟩ (.int .i64 (p.val r.b)) = h4.setIfInBounds y (accO (accL i r.op (if r.b ∈ nums p.log then ((nums p.log).idxOf r.b : Int) else -1) r.arg r.new (p.val r.b) (p.val r.b) false)) := hset_block lx _
        have lxs := get_set_same lx (o' := accO (accL i r.op (if r.b ∈ nums p.log then ((nums p.log).idxOf r.b : Int) else -1) r.arg r.new (p.val r.b) (p.val r.b) false))
        have u5 := u4.over (Upd.set (T := fun b => b = y) h4 y (accO (accL i r.op (if r.b ∈ nums p.log then ((nums p.log).idxOf r.b : Int) else -1) r.arg r.new (p.val r.b) (p.val r.b) false)) rfl) (fun b hb => by omega)
        clear lx
        (repeat (first | refine EK.region ?_ | refine ER.done ?_ | refine ER.fieldAddr rfl rfl rfl ?_ | refine ER.load1 rfl rfl rfl (by assumption) ?_))
        refine ER.store1 rfl rfl rfl ⟨nofun, nofun⟩ ⟨_, lx6⟩ lxz (hSn hle2) ?_
        rw [eG]
        clear eG lx5 lx6 lxz u4
        generalize h4.setIfInBounds y (accO (accL i r.op (if r.b ∈ nums p.log then ((nums p.log).idxOf r.b : Int) else -1) r.arg r.new (p.val r.b) (p.val r.b) false)) = h5 at lxs u5 ⊢
        generalize hcv : (if r.b ∈ nums p.log then ((nums p.log).idxOf r.b : Int) else -1) = cv at lxs ⊢
        (repeat (first | refine EK.region ?_ | refine ER.done ?_ | refine ER.move rfl rfl rfl ?_))
        refine ER.loadN (vs := accL i r.op cv r.arg r.new (p.val r.b) (p.val r.b) false) rfl rfl rfl rfl (hrow_block (rest := []) (by rw [List.append_nil]; exact lxs)) ?_
        refine ER.slice1 (z := .agg #[.int .i64 0, .int .i8 0, .int .i64 0, .int .i64 0, .int .i64 0, .int .i64 0, .int .i64 0, .bool false]) (cells := (accL i r.op cv r.arg r.new (p.val r.b) (p.val r.b) false).toArray) rfl rfl rfl (by omega) (by omega) (by rfl) (fill_acc _ _ _ _ _ _ _ _) ?_
        refine ER.append1 (new := accL i r.op cv r.arg r.new (p.val r.b) (p.val r.b) false) rfl rfl rfl rfl ((sl.upd u5 (fun _ _ x => x)).upd (Upd.push (T := fun _ => False) h5 _) (fun _ _ x => x)) (get_push_new _ _) rfl (by simp [accL, OneCell]) (by omega) (by omega) (by rfl) (fun c o hc => hSn (hb c hc)) ?_
        intro s6 h6 sl6 u6 hb6
        have u16 : Upd (fun _ => False) h h6 := ((u1.trans u5).trans (Upd.push h5 _)).over u6 hb
        (repeat (first | refine EK.region ?_ | refine ER.done ?_ | refine EK.inBlock ?_ | refine ER.move rfl rfl rfl ?_ | refine ER.assign rfl rfl rfl ?_ | refine ER.add (kd := .i64) rfl rfl rfl rfl (i64_in (by omega) (by omega)) ?_))
        refine EK.back (again (i + 1, s6) _ _ (by dsimp only; omega) ⟨by dsimp only; omega, rfl, u16, ?_, fun b' hb' => ?_⟩) ⟨rfl, rfl, rfl, rfl, rfl, trivial⟩
        · dsimp only
          rw [live_yes hg, List.flatMap_append, List.length_append]
          have : leftL p (nums p.log) i = accL i r.op cv r.arg r.new (p.val r.b) (p.val r.b) false := by unfold leftL; rw [hr1, ← hcv]
          simp only [List.flatMap_cons, List.flatMap_nil, List.append_nil, this]
          exact sl6
        · rcases hb6 b' hb' with z | z
          · exact hb _ z
          · have := u5.size; rw [Array.size_push] at z; omega
  · obtain rfl : i = p.num := by omega
    clear again
    have g1 := g.upd0 u1
    have hx := g1.all .run
    have hr1 := g1.runAt
    have hRs : ∀ o, ¬ (SitM Try.prog (PX X)).still γ ⟨p.R, o, none⟩ := fun o => by
      rw [← hx.2.1]; exact stillM_nm hv g1 hx.1 (fun j => ⟨nofun, nofun⟩)
    have r6 : ∃ z, hcell h1 ⟨p.R, 6, none⟩ = some z := ⟨_, hcell_of hr1 rfl⟩
    have rz : hfroz h1 ⟨p.R, 6, none⟩ = false := hfroz_of hr1
    have e2 : hset h1 ⟨p.R, 6, none⟩ (.bool true) = h1.setIfInBounds p.R (runO s p.mb true) := hset_block hr1 _
    have g2 := g1.set (p' := goneTo p 0) hx.1 (runO s p.mb true) rfl rfl rfl rfl (fun k' hk y => by
      cases k' with
      | run => exact absurd rfl hk
      | t i =>
        intro hi
        obtain ⟨y1, y2, v, a, y3, y4⟩ := y hi
        refine ⟨y1, y2, v, a, y3, ?_⟩
        show _ = thrO p.R i (p.wk i) (p.sd i) v a (p.gone i || decide (i < 0))
        rw [show decide (i < 0) = false by simp, Bool.or_false]; exact y4
      | _ => exact y) ⟨hx.1, hx.2.1, mem_same _ _ _⟩ g.num g.isin
    rw [hx.2.1] at g2
    have uR : Upd (Ours X p M) h (h1.setIfInBounds p.R (runO s p.mb true)) := (u1.mono fun _ _ x => x.elim).trans (Upd.set _ _ _ (.inl ⟨_, hx.1, hx.2.1⟩))
    have I2 : X.I p.u (h1.setIfInBounds p.R (runO s p.mb true)) := hX.loc _ _ _ (fun b hb => (get_set_ne _ (fun e => (g1.apart _ hx.1).2 (by rw [hx.2.1, e]; exact hb))).trans (u1.2 b (g.dom b hb).1 (fun x => x))) hI
    have sl2 : SliceO (h1.setIfInBounds p.R (runO s p.mb true)) lv 75 8 (p.live p.num).length ((p.live p.num).flatMap (leftL p (nums p.log))) := sl.upd (Upd.set (T := fun b => b = p.R) _ _ _ rfl) (fun b hb' e => by
      have h3 := hb b hb'
      have h4 := g.lt hx.1
      rw [hx.2.1] at h4
      omega)
    have hlt2 : ∀ b, blk lv = some b → h.size ≤ b ∧ b < (h1.setIfInBounds p.R (runO s p.mb true)).size := fun b hb' => ⟨hb b hb', sl2.lt hb'⟩
    have hsz2 : h.size ≤ (h1.setIfInBounds p.R (runO s p.mb true)).size := uR.size
    clear hr1
    (repeat (first | refine EK.seq ?_ | refine EK.region ?_ | refine ER.done ?_ | refine ER.move rfl rfl rfl ?_ | refine ER.nilCheck rfl rfl rfl ?_ | refine ER.fieldAddr rfl rfl rfl ?_ | refine ER.cmpF rfl rfl rfl rfl rfl (by first | (dsimp only [cmpP]; omega) | exact rfl | exact Int.le_refl _) ?_ | refine EK.condF rfl ?_ | refine EK.exit rfl ?_))
    refine ER.store1 rfl rfl rfl ⟨nofun, nofun⟩ r6 rz (hRs _) ?_
    rw [e2]
    clear e2 r6 rz sl hb g1 hR0 hR1
    generalize h1.setIfInBounds p.R (runO s p.mb true) = h2 at g2 uR I2 sl2 hlt2 hsz2 ⊢
    obtain ⟨W2, hW2⟩ : ∃ W2 : Nat → Prop, W2 = fun b => Ours X p M b ∨ h2.size ≤ b := ⟨_, rfl⟩
    have g3 : GI X W2 (goneTo p 0) (nums p.log) s (M.set .run (runO s p.mb true)) h2 := g2.ours.monoW (fun b hb => by rw [hW2]; exact .inl hb)
    have old : ∀ b, b < h.size → W2 b → Ours X p M b := fun b hb hw => by
      rw [hW2] at hw
      exact hw.resolve_right (by omega)
    have nL : ∀ b, blk lv = some b → ¬ W2 b := fun b hb hw => by
      obtain ⟨y1, y2⟩ := hlt2 b hb
      rw [hW2] at hw
      rcases hw with (⟨k, hk, e⟩ | hw | hw | ⟨i, hi, q, hq, e⟩) | hw
      · have := g.lt hk; omega
      · have := lt_of_get (g.cel b hw).1; omega
      · have := (g.dom b hw).1; omega
      · have := lt_of_get (g.prv i hi q hq).1; omega
      · omega
    have wide2 : ∀ b, W2 b → Ours X p M b ∨ h.size ≤ b := fun b hw => by
      rw [hW2] at hw
      exact hw.imp id fun y => by omega
    have new2 : ∀ b, h2.size ≤ b → W2 b := fun b hb => by rw [hW2]; exact .inr hb
    clear g2 hW2
    (repeat (first | refine EK.seq ?_ | refine EK.region ?_ | refine ER.done ?_ | refine EK.block ?_ | refine ER.assign rfl rfl rfl ?_))
    refine EK.loopInv (fun q : Nat × GG X => [(9, .int .i64 q.1), (3, lv), (0, ptr p.R)]) (fun q h' δ' => q.1 ≤ p.num ∧ δ' = ⟨0, q.2⟩ ∧ Mine X q.2.p (goneTo p q.1) ∧ (∃ s' M', GI X W2 (goneTo p q.1) (nums p.log) s' M' h') ∧ X.I p.u h' ∧ Upd W2 h2 h') (fun q => p.num - q.1) (0, γ) ⟨rfl, rfl, rfl, trivial⟩ ⟨Nat.zero_le _, rfl, hv.more (a := p.went) (b := p.rdy) (c := true) (by
      unfold goneTo
      congr 1
      funext j; simp), ⟨s, _, g3⟩, I2, Upd.refl _ _⟩ ?_
    clear g3 I2
    rintro ⟨i, γ1⟩ h3 δ3 ⟨hi, hδ, mn, ⟨s3, M3, g3⟩, I3, u3⟩ again
    dsimp only at hi mn g3 again hδ ⊢
    subst hδ
    obtain ⟨aT3, kT3, eT3⟩ := Mem.Sl.val (show M3.Sl .thr s3.T 32 1 p.num ((List.range p.num).map fun i => ptr (p.tb i)) from g3.all .thr)
    have hR0 : hcell h3 ⟨p.R, 0, none⟩ = some (.slice aT3 p.num kT3) := by
      have := g3.runAt
      rw [← eT3]; exact hcell_of this rfl
    by_cases hin : i < p.num
    · obtain ⟨b, k, eT', hc, hk, ebT⟩ := g3.thrCell (i := i) hin
      rw [eT3] at eT'
      injection eT' with e1 e2 e3
      subst e1
      obtain ⟨v, a, hat, hrw⟩ := g3.thrAt (i := i) hin
      obtain ⟨_, t, o, c, b0, n, w, x, kk, rfl⟩ := hat.form
      have d13 : hcell h3 ⟨p.tb i, 13, none⟩ = some (.bool (p.gone i || decide (i < i))) := hcell_of hrw rfl
      rw [show decide (i < i) = false by simp, Bool.or_false] at d13
      have hcc : hcell h3 ⟨b, 0 + i * 1, none⟩ = some (ptr (p.tb i)) := hc
      clear hrw hat
      cases hg : p.gone i with
      | true =>
        rw [hg] at d13
        (repeat (first | refine EK.seq ?_ | refine EK.region ?_ | refine ER.done ?_ | refine EK.skip ?_ | refine EK.block ?_ | refine EK.inBlock ?_ | refine ER.move rfl rfl rfl ?_ | refine ER.assign rfl rfl rfl ?_ | refine ER.nilCheck rfl rfl rfl ?_ | refine ER.fieldAddr rfl rfl rfl ?_ | refine ER.notB rfl rfl rfl ?_ | refine ER.cmpT rfl rfl rfl rfl rfl (by first | (dsimp only [cmpP]; omega) | exact rfl | exact Int.le_refl _) ?_ | refine ER.add (kd := .i64) rfl rfl rfl rfl (i64_in (by omega) (by omega)) ?_ | refine ER.len1 rfl rfl rfl ?_ | refine ER.indexSl rfl rfl rfl rfl (by omega) (by omega) ?_ | refine EK.condT rfl ?_ | refine EK.condF rfl ?_ | refine ER.load1 rfl rfl rfl (by assumption) ?_))
        exact EK.back (again (i + 1, γ1) _ _ (by dsimp only; omega) ⟨by dsimp only; omega, rfl, by dsimp only; rw [← goneTo_skip hg]; exact mn, ⟨s3, M3, by dsimp only; rw [← goneTo_skip hg]; exact g3⟩, I3, u3⟩) ⟨rfl, rfl, rfl, trivial⟩
      | false =>
        rw [hg] at d13
        obtain ⟨r, hr1, hr2⟩ := hst i hin hg
        have hgo := goesG (γ := γ1) (p := goneTo p i) (j := i) hX mn g3 I3 hJ hQ hin (by show (p.gone i || decide (i < i)) = false; rw [hg]; simp) (fun e => by cases e) (fun e => by
          have : p.st i = .born := e
          rw [hr1] at this; cases this)
        have hgo' : CallW Try.prog true (SitM Try.prog (PX X)) 146 #[ptr (p.tb i)] h3 ⟨0, γ1⟩ _ := hgo
        (repeat (first | refine EK.seq ?_ | refine EK.region ?_ | refine ER.done ?_ | refine EK.skip ?_ | refine EK.block ?_ | refine ER.move rfl rfl rfl ?_ | refine ER.assign rfl rfl rfl ?_ | refine ER.nilCheck rfl rfl rfl ?_ | refine ER.fieldAddr rfl rfl rfl ?_ | refine ER.notB rfl rfl rfl ?_ | refine ER.cmpT rfl rfl rfl rfl rfl (by first | (dsimp only [cmpP]; omega) | exact rfl | exact Int.le_refl _) ?_ | refine ER.len1 rfl rfl rfl ?_ | refine ER.indexSl rfl rfl rfl rfl (by omega) (by omega) ?_ | refine EK.condT rfl ?_ | refine ER.load1 rfl rfl rfl (by assumption) ?_))
        refine ER.callR rfl rfl rfl rfl rfl hgo' ?_
        rintro v h4 δ4 ⟨γ3, rfl, q1, q2, q3, q4, hP0⟩
        have hT := hP0.2.1
        rw [q1, q4] at hT
        have ep : γ3.p = goneTo p (i + 1) := by
          rcases hT with ⟨h1, _⟩ | ⟨_, e⟩
          · cases h1
          · rw [e]; exact goneTo_step
        obtain ⟨s4, M4, g4⟩ := hP0.2.2.gi
        rw [q2, q3] at g4
        have u4 := hP0.2.2.upd
        rw [q2, q3] at u4
        have I4 := hP0.2.2.I
        rw [ep] at I4 g4
        (repeat (first | refine EK.region ?_ | refine ER.done ?_ | refine EK.inBlock ?_ | refine ER.move rfl rfl rfl ?_ | refine ER.assign rfl rfl rfl ?_ | refine ER.add (kd := .i64) rfl rfl rfl rfl (i64_in (by omega) (by omega)) ?_))
        exact EK.back (again (i + 1, γ3) _ _ (by dsimp only; omega) ⟨by dsimp only; omega, rfl, by dsimp only; rw [ep]; exact Mine.refl _, ⟨s4, M4, g4.monoW (fun b hb => hb.elim id fun y => new2 b (Nat.le_trans u3.size y))⟩, I4, u3.trans u4⟩) ⟨rfl, rfl, rfl, trivial⟩
    · obtain rfl : i = p.num := by omega
      clear again
      (repeat (first | refine EK.seq ?_ | refine EK.region ?_ | refine ER.done ?_ | refine ER.move rfl rfl rfl ?_ | refine ER.assign rfl rfl rfl ?_ | refine ER.nilCheck rfl rfl rfl ?_ | refine ER.fieldAddr rfl rfl rfl ?_ | refine ER.cmpF rfl rfl rfl rfl rfl (by first | (dsimp only [cmpP]; omega) | exact rfl | exact Int.le_refl _) ?_ | refine ER.len1 rfl rfl rfl ?_ | refine EK.condF rfl ?_ | refine EK.ret ?_ | refine EK.exit rfl ?_ | refine ER.load1 rfl rfl rfl (by assumption) ?_))
      refine EU.ret1 rfl rfl ⟨γ1, rfl, mn, ⟨s3, M3, g3.monoW wide2⟩, I3, ⟨Nat.le_trans hsz2 u3.size, fun b hb hn => ?_⟩, sl2.upd u3 nL, fun b hb => ⟨(hlt2 b hb).1, Nat.lt_of_lt_of_le (hlt2 b hb).2 u3.size⟩⟩
      exact (u3.2 b (by omega) (fun y => hn (old b hb y))).trans (uR.2 b hb hn)
end
end Go.Proofs.Ytcpcdnkemobneaa
end
section
namespace Go.Proofs.Ytcpcdnkemobneaa
open Go Go.TJ Go.Conc Go.Proofs
section
variable {X : Us} {W : Nat → Prop} {p : PS X.U} {s : Sls} {M : Mem Nm} {h : Hp} {γ : GG X}
abbrev repL (e : Int) (n : Nat) (a b c d : Value) : List Value := [.int .i8 e, .int .i64 n, a, b, c, d, nilS]
abbrev repZ : List Value := [.int .i8 0, .int .i64 0, nilS, nilS, nilS, nilS, nilS]
set_option maxHeartbeats 8000000 in
set_option maxRecDepth 8000 in
theorem reportG (hX : X.Ok) (hv : Mine X γ.p p) (g : GI X W p (nums p.log) s M h) (hI : X.I p.u h) (hJ : X.J p.log p.u p.val) (hQ : ∀ x, X.Q x (ownOf x p.log) (p.st x) p.u) (hn : p.num ≤ 64) (hfl : p.fl ≤ 64) (hst : ∀ j, j < p.num → p.gone j = false → ∃ r, p.st j = .stands r ∧ RqOk X r) {e : Int} :
    CallW Try.prog true (SitM Try.prog (PX X)) 77 #[ptr p.R, .int .i8 e] h ⟨0, γ⟩ (Ret fun v h' δ' => ∃ (γ' : GG X) (s' : Sls) (M' : Mem Nm) (lv : Value), δ' = ⟨0, γ'⟩ ∧ Mine X γ'.p (allGone p) ∧ GI X (fun b => Ours X p M b ∨ h.size ≤ b) (allGone p) (nums p.log) s' M' h' ∧ X.I p.u h' ∧ Upd (Ours X p M) h h' ∧
      SliceO h' lv 75 8 (p.live p.num).length ((p.live p.num).flatMap (leftL p (nums p.log))) ∧ v = .agg (repL e p.went.length s'.L s'.W s'.Y lv).toArray) := by
  refine CallW.start (n := 48) rfl rfl ?_
  have uA : Upd (fun _ => False) h (h.push (.cells repZ.toArray 49)) := Upd.push _ _
  have nA : (h.push (.cells repZ.toArray 49))[h.size]? = some (.cells repZ.toArray 49 (0, 0)) := get_push_new _ _
  have gA := g.upd0 uA
  have IA := hX.loc _ _ _ (fun b hb => uA.2 b (g.dom b hb).1 (fun x => x)) hI
  have sA : (h.push (.cells repZ.toArray 49)).size = h.size + 1 := Array.size_push _
  have hends := endsG hX hv gA IA hJ hQ hn hst
  (repeat (first | refine EK.seq ?_ | refine EK.region ?_ | refine ER.done ?_ | refine ER.move rfl rfl rfl ?_ | refine ER.allocA rfl rfl ?_))
  refine ER.callR rfl rfl rfl rfl rfl hends ?_
  clear hends
  rintro lv h1 δ1 ⟨γ1, rfl, mn, ⟨s1, M1, g1⟩, I1, u1, sl, hlb⟩
  have nO : ¬ Ours X p M h.size := fun x => by
    rcases x with ⟨k, hk, e⟩ | x | x | ⟨i, hi, q, hq, e⟩
    · have := g.lt hk; omega
    · have := lt_of_get (g.cel _ x).1; omega
    · have := (g.dom _ x).1; omega
    · have := lt_of_get (g.prv i hi q hq).1; omega
  have n1 := u1.get nA nO
  obtain ⟨aF, kF, eF⟩ := Mem.Sl.val (show M1.Sl .fell s1.F 4 1 p.fl (List.replicate p.fl (.bool false)) from g1.all .fell)
  obtain ⟨aL, kL, eL⟩ := Mem.Sl.val (show M1.Sl .log s1.L 75 8 p.log.length (p.log.flatMap (entL (nums p.log))) from g1.all .log)
  obtain ⟨aW, kW, eW⟩ := Mem.Sl.val (show M1.Sl .went s1.W 3 1 p.went.length (p.went.map fun (n : Nat) => Value.int .i64 (n : Int)) from g1.all .went)
  obtain ⟨aY, kY, eY⟩ := Mem.Sl.val (show M1.Sl .rdy s1.Y 3 1 p.rdy.length (p.rdy.map fun (n : Nat) => Value.int .i64 (n : Int)) from g1.all .rdy)
  obtain ⟨aV, kV, eV⟩ := sl.val
  subst eV
  have hr := g1.runAt
  have c2 : hcell h1 ⟨p.R, 2, none⟩ = some (.slice aL p.log.length kL) := by rw [← eL]; exact hcell_of hr rfl
  have c3 : hcell h1 ⟨p.R, 3, none⟩ = some (.slice aW p.went.length kW) := by rw [← eW]; exact hcell_of hr rfl
  have c4 : hcell h1 ⟨p.R, 4, none⟩ = some (.slice aY p.rdy.length kY) := by rw [← eY]; exact hcell_of hr rfl
  have c5 : hcell h1 ⟨p.R, 5, none⟩ = some (.slice aF p.fl kF) := by rw [← eF]; exact hcell_of hr rfl
  have hfell : M1.Sl .fell (.slice aF p.fl kF) 4 1 p.fl (List.replicate p.fl (.bool false)) := by
    have := g1.all .fell
    rw [← eF]; exact this
  have hSD : ∀ o, ¬ (SitM Try.prog (PX X)).still γ1 ⟨h.size, o, none⟩ := fun o => stillM_out mn g1 (fun k hk e => by
    rcases g1.wide k hk with y | y
    · exact nO (e ▸ y)
    · omega)
  clear hr
  obtain ⟨D, hD⟩ : ∃ D, D = h.size := ⟨_, rfl⟩
  rw [← hD] at n1 hSD nO ⊢
  (repeat (first | refine EK.seq ?_ | refine EK.region ?_ | refine ER.done ?_ | refine EK.block ?_ | refine ER.move rfl rfl rfl ?_ | refine ER.assign rfl rfl rfl ?_ | refine ER.nilCheck rfl rfl rfl ?_ | refine ER.fieldAddr rfl rfl rfl ?_ | refine ER.len1 rfl rfl rfl ?_ | refine ER.load1 rfl rfl rfl (by assumption) ?_))
  refine EK.loopInv (fun i : Nat => [(16, .int .i64 i), (14, .slice aF p.fl kF), (15, .int .i64 p.fl), (6, nilS), (0, ptr p.R), (1, .int .i8 e), (5, .slice aV (p.live p.num).length kV), (4, ptr D)]) (fun i h' δ' => i ≤ p.fl ∧ h' = h1 ∧ δ' = ⟨0, γ1⟩) (fun i => p.fl - i) 0 ⟨rfl, rfl, rfl, rfl, rfl, rfl, rfl, rfl, trivial⟩ ⟨Nat.zero_le _, rfl, rfl⟩ ?_
  rintro i h2 δ2 ⟨hi, rfl, rfl⟩ again
  by_cases hin : i < p.fl
  · obtain ⟨cap, e1, hk, hc, _⟩ := hfell.cell g1.rep (by omega)
    injection e1 with e1 e2 e3
    subst e1 e3
    have hci : hcell h2 ⟨M1.B .fell, 0 + i * 1, none⟩ = some (.bool false) := by
      rw [Nat.zero_add, Nat.mul_one]; exact hc i _ (by simp [hin])
    (repeat (first | refine EK.seq ?_ | refine EK.region ?_ | refine ER.done ?_ | refine EK.skip ?_ | refine EK.block ?_ | refine EK.inBlock ?_ | refine ER.move rfl rfl rfl ?_ | refine ER.assign rfl rfl rfl ?_ | refine ER.cmpT rfl rfl rfl rfl rfl (by first | (dsimp only [cmpP]; omega) | exact rfl | exact Int.le_refl _) ?_ | refine ER.add (kd := .i64) rfl rfl rfl rfl (i64_in (by omega) (by omega)) ?_ | refine ER.indexSl rfl rfl rfl rfl (by omega) (by omega) ?_ | refine EK.condT rfl ?_ | refine EK.condF rfl ?_ | refine ER.load1 rfl rfl rfl (by assumption) ?_))
    exact EK.back (again (i + 1) _ _ (by omega) ⟨by omega, rfl, rfl⟩) ⟨rfl, rfl, rfl, rfl, rfl, rfl, rfl, rfl, trivial⟩
  · obtain rfl : i = p.fl := by omega
    clear again
    (repeat (first | refine EK.seq ?_ | refine EK.region ?_ | refine ER.done ?_ | refine ER.cmpF rfl rfl rfl rfl rfl (by first | (dsimp only [cmpP]; omega) | exact rfl | exact Int.le_refl _) ?_ | refine EK.condF rfl ?_ | refine EK.exit rfl ?_))
    refine EK.regionAnyL (fun h' => hcell h' ⟨p.R, 2, none⟩ = some (.slice aL p.log.length kL) ∧ hcell h' ⟨p.R, 3, none⟩ = some (.slice aW p.went.length kW) ∧ hcell h' ⟨p.R, 4, none⟩ = some (.slice aY p.rdy.length kY)) 21 ?_
    have hZ := And.intro c2 (And.intro c3 c4)
    refine EA.tMove 0 rfl (by kernel_rfl) rfl rfl rfl rfl hZ ?_
    refine EA.tMove 1 rfl (by kernel_rfl) rfl rfl rfl rfl hZ ?_
    refine EA.tNil 2 rfl (by kernel_rfl) rfl rfl rfl rfl hZ ?_
    refine EA.tField 3 rfl (by kernel_rfl) rfl rfl rfl rfl hZ ?_
    refine EA.tLoad 4 rfl (by kernel_rfl) rfl rfl rfl rfl (fun _ hz => hz.2.1) hZ ?_
    refine EA.tLen1 5 rfl (by kernel_rfl) rfl rfl rfl rfl hZ ?_
    refine EA.tMove 6 rfl (by kernel_rfl) rfl rfl rfl rfl hZ ?_
    refine EA.tNil 7 rfl (by kernel_rfl) rfl rfl rfl rfl hZ ?_
    refine EA.tField 8 rfl (by kernel_rfl) rfl rfl rfl rfl hZ ?_
    refine EA.tLoad 9 rfl (by kernel_rfl) rfl rfl rfl rfl (fun _ hz => hz.1) hZ ?_
    refine EA.tMove 10 rfl (by kernel_rfl) rfl rfl rfl rfl hZ ?_
    refine EA.tNil 11 rfl (by kernel_rfl) rfl rfl rfl rfl hZ ?_
    refine EA.tField 12 rfl (by kernel_rfl) rfl rfl rfl rfl hZ ?_
    refine EA.tLoad 13 rfl (by kernel_rfl) rfl rfl rfl rfl (fun _ hz => hz.2.1) hZ ?_
    refine EA.tMove 14 rfl (by kernel_rfl) rfl rfl rfl rfl hZ ?_
    refine EA.tNil 15 rfl (by kernel_rfl) rfl rfl rfl rfl hZ ?_
    refine EA.tField 16 rfl (by kernel_rfl) rfl rfl rfl rfl hZ ?_
    refine EA.tLoad 17 rfl (by kernel_rfl) rfl rfl rfl rfl (fun _ hz => hz.2.2) hZ ?_
    refine EA.tMove 18 rfl (by kernel_rfl) rfl rfl rfl rfl hZ ?_
    refine EA.tMove 19 rfl (by kernel_rfl) rfl rfl rfl rfl hZ ?_
    refine EA.val (v := .agg (repL e p.went.length (.slice aL p.log.length kL) (.slice aW p.went.length kW) (.slice aY p.rdy.length kY) (.slice aV (p.live p.num).length kV)).toArray) (h' := h2) 20 rfl (by kernel_rfl) rfl rfl rfl (fun ρ Q X hρ hq => sem_buildS hρ rfl rfl hq) hZ ?_
    have hcs : ∀ j, j < 7 → (∃ u, hcell h2 ⟨D, 0 + j, none⟩ = some u) ∧ hfroz h2 ⟨D, 0 + j, none⟩ = false ∧ ¬ (SitM Try.prog (PX X)).still γ1 ⟨D, 0 + j, none⟩ := fun j hj => by
      refine ⟨?_, hfroz_of n1, hSD _⟩
      rcases (show j = 0 ∨ j = 1 ∨ j = 2 ∨ j = 3 ∨ j = 4 ∨ j = 5 ∨ j = 6 by omega) with rfl | rfl | rfl | rfl | rfl | rfl | rfl <;> exact ⟨_, hcell_of n1 rfl⟩
    refine EA.unitL (h' := hsetRow h2 D 0 (repL e p.went.length (.slice aL p.log.length kL) (.slice aW p.went.length kW) (.slice aY p.rdy.length kY) (.slice aV (p.live p.num).length kV))) 21 rfl (by kernel_rfl) rfl rfl rfl (fun ρ Q X hρ hq => sem_storeN (vs := (repL e p.went.length (.slice aL p.log.length kL) (.slice aW p.went.length kW) (.slice aY p.rdy.length kY) (.slice aV (p.live p.num).length kV))) (hρ _ _ rfl) (hρ _ _ rfl) rfl (by simp [OneCell]) hcs hq) ?_
    refine EA.done (by kernel_rfl) ?_
    rw [row_set (c := repZ) (vs := (repL e p.went.length (.slice aL p.log.length kL) (.slice aW p.went.length kW) (.slice aY p.rdy.length kY) (.slice aV (p.live p.num).length kV))) n1 rfl]
    (repeat refine EK.ret ?_)
    have nC : (h2.setIfInBounds D (.cells (repL e p.went.length (.slice aL p.log.length kL) (.slice aW p.went.length kW) (.slice aY p.rdy.length kY) (.slice aV (p.live p.num).length kV)).toArray 49 (0, 0)))[D]? = some (.cells ((repL e p.went.length (.slice aL p.log.length kL) (.slice aW p.went.length kW) (.slice aY p.rdy.length kY) (.slice aV (p.live p.num).length kV)) ++ []).toArray 49 (0, 0)) := by rw [List.append_nil]; exact get_set_same n1
    have nK : ∀ k, M1.ok k → M1.B k ≠ D := fun k hk e => by
      rcases g1.wide k hk with y | y
      · exact nO (e ▸ y)
      · omega
    have nD : ¬ X.Dom p.u D := fun x => nO (.inr (.inr (.inl x)))
    have nCc : ¬ X.isC D := fun x => nO (.inr (.inl x))
    have g2 := g1.loose nK nCc (fun j hj q hq e => nO (.inr (.inr (.inr ⟨j, hj, q, hq, e⟩)))) (.cells (repL e p.went.length (.slice aL p.log.length kL) (.slice aW p.went.length kW) (.slice aY p.rdy.length kY) (.slice aV (p.live p.num).length kV)).toArray 49 (0, 0))
    refine EU.retCell1 (vs := (repL e p.went.length (.slice aL p.log.length kL) (.slice aW p.went.length kW) (.slice aY p.rdy.length kY) (.slice aV (p.live p.num).length kV))) rfl rfl rfl (hrow_block nC) ⟨γ1, s1, M1, _, rfl, mn, g2.monoW (fun b hb => hb.imp id fun y => by omega), hX.loc _ _ _ (fun b hb => get_set_ne _ (fun e => nD (e ▸ hb))) I1, ⟨?_, fun x hx hn => ?_⟩, sl.upd (Upd.set (T := fun b => b = D) _ _ _ rfl) (fun b hb e => ?_), by rw [eL, eW, eY]⟩
    · rw [Array.size_setIfInBounds]; have := u1.size; omega
    · rw [get_set_ne _ (by omega), u1.2 x (by omega) hn]
      exact uA.2 x hx (fun x => x)
    · have := (hlb b hb).1; omega
end
end Go.Proofs.Ytcpcdnkemobneaa
end
section
namespace Go.Proofs.Ytcpcdnkemobneaa
open Go Go.TJ Go.Conc Go.Proofs
theorem sliceO_ne {h : Hp} {s : Value} {e sz n : Nat} {cells : List Value} (x : SliceO h s e sz n cells) {R : Nat} {c : Array Value} {e' : TypeId} {f : Nat × Nat} (hR : h[R]? = some (.cells c e' f)) (hne : e ≠ e') : ∀ b, blk s = some b → b ≠ R := by
  rintro b hb rfl
  obtain ⟨_, ⟨rfl, _⟩ | ⟨b', cap, rest, rfl, h1, h2, h3⟩⟩ := x
  · cases hb
  · cases hb
    rw [h3] at hR
    injection hR with hR
    injection hR with _ hR _
    exact hne hR
section
variable {X : Us} {h : Hp} {γ : GG X}
structure Ended (X : Us) (v0 : Nat → Int) (picks : List Int) (nb most : Nat) (p : PS X.U) (e : Int) (lL lW lY lV : Value) (h : Hp) : Prop where
  reg : Reg X v0 picks nb p
  how : (e = 1 ∧ p.live nb = [] ∧ p.log.length ≤ most) ∨ (e = 2 ∧ p.live nb ≠ [] ∧ p.log.length = most)
  log : SliceO h lL 75 8 p.log.length (p.log.flatMap (entL (nums p.log)))
  went : SliceO h lW 3 1 p.went.length (p.went.map fun (n : Nat) => Value.int .i64 (n : Int))
  rdy : SliceO h lY 3 1 p.rdy.length (p.rdy.map fun (n : Nat) => Value.int .i64 (n : Int))
  left : SliceO h lV 75 8 (p.live nb).length ((p.live nb).flatMap (leftL p (nums p.log)))
  I : X.I p.u h
  J : X.J p.log p.u p.val
  Q : ∀ x, X.Q x (ownOf x p.log) (p.st x) p.u
  cel : ∀ b, X.isC b → h[b]? = some (cellO (p.val b))
def psZ {U : Type} (R mb : Nat) (v0 : Nat → Int) (u0 : U) : PS U := ⟨R, mb, 0, 0, fun _ => 0, fun _ => 0, fun _ => 0, fun _ => 0, fun _ => 0, fun _ => 0, fun _ => .nilFunc, fun _ => .born, fun _ => false, fun _ => [], [], [], [], v0, false, u0⟩
abbrev slsZ : Sls := ⟨nilS, nilS, nilS, nilS, nilS⟩
def memZ (R mb : Nat) : Mem Nm := ⟨fun k => k = .run ∨ k = .map, fun k => if k = .run then R else mb, fun k => if k = .run then runO slsZ mb false else .map #[] 0⟩
theorem giZ {R mb : Nat} {v0 : Nat → Int} {u0 : X.U} {W : Nat → Prop} (hR : h[R]? = some (runO slsZ mb false)) (hm : h[mb]? = some (.map #[] 0)) (hWR : W R) (hWm : W mb) (hC : ∀ b, X.isC b → h[b]? = some (cellO (v0 b)) ∧ W b) (hD : ∀ b, X.Dom u0 b → b < h.size ∧ W b) (h1 : ¬ X.isC R ∧ ¬ X.Dom u0 R) (h2 : ¬ X.isC mb ∧ ¬ X.Dom u0 mb) : GI X W (psZ R mb v0 u0) [] slsZ (memZ R mb) h := by
  have hne : R ≠ mb := fun e => by rw [e, hm] at hR; cases hR
  have key : ∀ k, (memZ R mb).ok k → (k = .run ∧ (memZ R mb).B k = R) ∨ (k = .map ∧ (memZ R mb).B k = mb) := fun k hk => by
    rcases hk with rfl | rfl
    · exact .inl ⟨rfl, rfl⟩
    · exact .inr ⟨rfl, rfl⟩
  refine ⟨⟨fun k hk => ?_, fun k k' hk hk' e => ?_⟩, fun k => ?_, fun k hk => ?_, hC, fun k hk => ?_, hD, fun b hb => (by cases hb), fun e he => (by cases he), fun i hi => absurd hi (Nat.not_lt_zero _), fun i j hi => absurd hi (Nat.not_lt_zero _)⟩
  · rcases key k hk with ⟨rfl, _⟩ | ⟨rfl, _⟩
    · exact hR
    · exact hm
  · rcases key k hk with ⟨rfl, e1⟩ | ⟨rfl, e1⟩ <;> rcases key k' hk' with ⟨rfl, e2⟩ | ⟨rfl, e2⟩
    · rfl
    · exact absurd (e1.symm.trans (e.trans e2)) hne
    · exact absurd (e2.symm.trans (e.symm.trans e1)) hne
    · rfl
  · have no : ∀ {k : Nm}, k ≠ .run → k ≠ .map → ¬ (memZ R mb).ok k := fun a b x => x.elim a b
    cases k with
    | run => exact ⟨.inl rfl, rfl, rfl⟩
    | map => exact ⟨.inr rfl, rfl, #[], 0, rfl, Keyed.nil⟩
    | thr => exact Mem.Sl.nil (no nofun nofun)
    | log => exact Mem.Sl.nil (no nofun nofun)
    | went => exact Mem.Sl.nil (no nofun nofun)
    | rdy => exact Mem.Sl.nil (no nofun nofun)
    | fell => exact Mem.Sl.nil (no nofun nofun)
    | _ => exact fun hi => absurd hi (Nat.not_lt_zero _)
  · rcases key k hk with ⟨_, e⟩ | ⟨_, e⟩ <;> rw [e] <;> assumption
  · rcases key k hk with ⟨_, e⟩ | ⟨_, e⟩ <;> rw [e] <;> assumption
set_option maxHeartbeats 8000000 in
set_option maxRecDepth 8000 in
theorem runG (hX : X.Ok) {v0 : Nat → Int} {u0 : X.U} {picks : List Int} {m : Int} {bods : List (FuncId × Array Value)} {sP sB : Value} (h0 : γ.p.num = 0) (hm0 : 0 ≤ m) (hm1 : m ≤ 65536) (hC : ∀ b, X.isC b → h[b]? = some (cellO (v0 b))) (hD : ∀ b, X.Dom u0 b → b < h.size) (hI : X.I u0 h) (hJ : X.J [] u0 v0) (hQ : ∀ x, X.Q x [] .born u0)
    (hnb : bods.length ≤ 64) (hB : SliceO h sB 45 1 bods.length (bods.map fun q => .func (.func q.1) #[] q.2)) (hBn : ∀ c, blk sB = some c → ¬ X.isC c ∧ ¬ X.Dom u0 c) (hP : SliceO h sP 3 1 picks.length (picks.map fun x => .int .i64 x)) (hPn : ∀ c, blk sP = some c → ¬ X.isC c ∧ ¬ X.Dom u0 c)
    (hbody : ∀ (k : Nat) (q : FuncId × Array Value), bods[k]? = some q → HasBody Try.prog q.1 ∧ Body X k q.1 q.2) :
    CallW Try.prog true (SitM Try.prog (PX X)) 17 #[sP, .int .i64 m, sB] h ⟨0, γ⟩ (Ret fun v h' δ' => ∃ (γ' : GG X) (p : PS X.U) (e : Int) (lL lW lY lV : Value), δ' = ⟨0, γ'⟩ ∧ (∀ a, ¬ (SitM Try.prog (PX X)).still γ' a) ∧ (∀ i, i ≠ 0 → i < (PX X).num γ' → (PX X).ch γ' i = none) ∧ v = .agg (repL e p.log.length lL lW lY lV).toArray ∧ Ended X v0 picks bods.length m.toNat p e lL lW lY lV h' ∧ Upd (fun b => X.isC b ∨ X.Dom u0 b) h h') := by
  have no0 : ∀ a, ¬ (SitM Try.prog (PX X)).still γ a := fun a x => by
    obtain ⟨j, hj, _⟩ := stillM_of x
    omega
  obtain ⟨aP, kP, eP⟩ := hP.val
  obtain ⟨aB, kB, eB⟩ := hB.val
  subst eP eB
  refine CallW.start (n := 30) rfl rfl ?_
  (repeat (first | refine EK.seq ?_ | refine EK.region ?_ | refine ER.done ?_ | refine EK.skip ?_ | refine ER.move rfl rfl rfl ?_ | refine ER.cmpF rfl rfl rfl rfl rfl (by first | (dsimp only [cmpP]; omega) | exact rfl | exact Int.le_refl _) ?_ | refine ER.box rfl rfl rfl ?_ | refine ER.allocA rfl rfl ?_ | refine ER.len1 rfl rfl rfl ?_ | refine EK.condF rfl ?_))
  refine ER.makeMap rfl rfl ?_
  refine ER.buildS (cells := #[nilS, .map (some (h.size + 2)), nilS, nilS, nilS, nilS, .bool false]) rfl rfl (by simp only [Array.size_push]; rfl) rfl ?_
  (repeat (first | refine ER.boxA rfl rfl rfl ?_ | refine ER.alloc rfl rfl ?_))
  refine ER.storeNew rfl rfl rfl rfl ⟨nofun, nofun⟩ (no0 _) ?_
  simp only [Array.size_push]
  refine ER.gen (fun h5 => Upd (fun _ => False) h h5 ∧ h5.size = h.size + 5 ∧ h5[h.size]? = some (.cells #[.slice aP picks.length kP] 25 (0, 0)) ∧ h5[h.size + 1]? = some (.cells repZ.toArray 49 (0, 0)) ∧ h5[h.size + 2]? = some (.map #[] 0) ∧ h5[h.size + 3]? = some (.cells #[nilS, .map (some (h.size + 2)), nilS, nilS, nilS, nilS, .bool false] 196 (0, 0)) ∧ h5[h.size + 4]? = some (oneO (ptr (h.size + 3)) 192)) ?_ ?_
  · exact push5 h (.cells #[.slice aP picks.length kP] 25) (.cells repZ.toArray 49) (.map #[] 0) (.cells #[nilS, .map (some (h.size + 2)), nilS, nilS, nilS, nilS, .bool false] 196) (oneO (ptr (h.size + 3)) 192)
  rintro h5 ⟨u5, s5, g0, g1, g2, g3, g4⟩
  have hCl : ∀ b, X.isC b → b < h.size := fun b hb => lt_of_get (hC b hb)
  obtain ⟨W, hW⟩ : ∃ W : Nat → Prop, W = fun b => X.isC b ∨ X.Dom u0 b ∨ b = h.size + 3 ∨ b = h.size + 2 ∨ h5.size ≤ b := ⟨_, rfl⟩
  have nW : ∀ b, b < h5.size → ¬ X.isC b → ¬ X.Dom u0 b → b ≠ h.size + 3 → b ≠ h.size + 2 → ¬ W b := fun b h1 h2 h3 h4 h5 x => by
    rw [hW] at x
    rcases x with x | x | x | x | x
    · exact h2 x
    · exact h3 x
    · exact h4 x
    · exact h5 x
    · omega
  have nC : ∀ b, h.size ≤ b → ¬ X.isC b := fun b hb x => by have := hCl b x; omega
  have nD : ∀ b, h.size ≤ b → ¬ X.Dom u0 b := fun b hb x => by have := hD b x; omega
  have gi0 : GI X W (psZ (h.size + 3) (h.size + 2) v0 u0) [] slsZ (memZ (h.size + 3) (h.size + 2)) h5 := giZ g3 g2 (by rw [hW]; exact .inr (.inr (.inl rfl))) (by rw [hW]; exact .inr (.inr (.inr (.inl rfl)))) (fun b hb => ⟨u5.get (hC b hb) (fun x => x), by rw [hW]; exact .inl hb⟩) (fun b hb => ⟨by have := hD b hb; omega, by rw [hW]; exact .inr (.inl hb)⟩) ⟨nC _ (by omega), nD _ (by omega)⟩ ⟨nC _ (by omega), nD _ (by omega)⟩
  have sta0 : Sta X W h5 (h.size + 3) (psZ (h.size + 3) (h.size + 2) v0 u0) h5 := ⟨⟨_, _, gi0⟩, hX.loc _ _ _ (fun b hb => u5.2 b (hD b hb) (fun x => x)) hI, hJ, hQ, rfl, Upd.refl _ _⟩
  have hunt := untilG (γ := γ) (h := h5) hX (p0 := psZ (h.size + 3) (h.size + 2) v0 u0) (.inr ⟨h0, rfl⟩) (W := W) (R := h.size + 3) (bP := h.size) (bR := h.size + 4) (picks := picks) (most := m.toNat) (bods := bods) (fun c hc => by rw [hW]; exact .inr (.inr (.inr (.inr hc)))) sta0 ⟨rfl, rfl, rfl, rfl, rfl, rfl, fun _ => rfl⟩ (by omega) hnb
    (hB.upd u5 (fun _ _ x => x)) (fun c hc => by
      have := hB.lt hc
      obtain ⟨x1, x2⟩ := hBn c hc
      exact nW c (by omega) x1 x2 (by omega) (by omega)) (hP.upd u5 (fun _ _ x => x)) (fun c hc => by
      have := hP.lt hc
      obtain ⟨x1, x2⟩ := hPn c hc
      exact nW c (by omega) x1 x2 (by omega) (by omega)) (hcell_of g0 rfl) (nW _ (by omega) (nC _ (by omega)) (nD _ (by omega)) (by omega) (by omega)) (hcell_of g4 rfl) (nW _ (by omega) (nC _ (by omega)) (nD _ (by omega)) (by omega) (by omega)) hbody
  rw [show ((m.toNat : Nat) : Int) = m by omega] at hunt
  have c4 : hcell h5 ⟨h.size + 4, 0, none⟩ = some (ptr (h.size + 3)) := hcell_of g4 rfl
  clear g4 gi0 sta0
  (repeat (first | refine EK.seq ?_ | refine EK.region ?_ | refine ER.done ?_ | refine ER.move rfl rfl rfl ?_ | refine ER.load1 rfl rfl rfl (by assumption) ?_))
  refine ER.max (r := m) rfl rfl rfl rfl (by rw [if_neg (by omega)]) ?_
  refine ER.min (r := m) rfl rfl rfl rfl (by rw [if_neg (by omega)]) ?_
  (repeat refine ER.move rfl rfl rfl ?_)
  refine ER.makeFunc (fv := #[]) (cv := #[ptr h.size, ptr (h.size + 4)]) rfl rfl (fun ρ hρ => ⟨map_ofL hρ (vs := []) rfl, map_ofL hρ (vs := [ptr h.size, ptr (h.size + 4)]) rfl⟩) ?_
  refine ER.callR rfl rfl rfl rfl rfl hunt ?_
  rintro _ h6 δ6 ⟨γ6, p6, e, rfl, mn, st6, rg, rfl, how⟩
  obtain ⟨s6, M6, g6⟩ := st6.gi
  have nW1 : ¬ W (h.size + 1) := nW _ (by omega) (nC _ (by omega)) (nD _ (by omega)) (by omega) (by omega)
  have nW4 : ¬ W (h.size + 4) := nW _ (by omega) (nC _ (by omega)) (nD _ (by omega)) (by omega) (by omega)
  have c6 := st6.upd.hcell c4 nW4
  have r6 := st6.upd.get g1 nW1
  have sz6 := st6.upd.size
  have oursW : ∀ b, Ours X p6 M6 b → W b := fun b x => by
    rcases x with ⟨k, hk, rfl⟩ | x | x | ⟨i, hi, q, hq, rfl⟩
    · exact g6.wide k hk
    · exact (g6.cel b x).2
    · exact (g6.dom b x).2
    · exact (g6.prv i hi q hq).2.1
  have hrep := reportG (γ := γ6) (e := e) hX mn g6 st6.I st6.J st6.Q (by rw [rg.num]; exact hnb) (by rw [rg.fl]; exact hnb) (fun j hj hg => by
    rcases rg.alive j (by rw [← rg.num]; exact hj) with ⟨_, r, y1, y2⟩ | ⟨y, _⟩
    · exact ⟨r, y1, y2⟩
    · rw [hg] at y; cases y)
  rw [st6.R] at hrep
  clear hunt
  (repeat (first | refine EK.seq ?_ | refine EK.region ?_ | refine ER.done ?_ | refine ER.move rfl rfl rfl ?_ | refine ER.assign rfl rfl rfl ?_ | refine ER.extract rfl rfl rfl rfl ?_ | refine ER.load1 rfl rfl rfl (by assumption) ?_))
  refine ER.callR rfl rfl rfl rfl rfl hrep ?_
  clear hrep
  rintro _ h7 δ7 ⟨γ7, s7, M7, lv, rfl, mn7, g7, I7, u7, sl7, rfl⟩
  have nO1 : ¬ Ours X p6 M6 (h.size + 1) := fun x => nW1 (oursW _ x)
  have r7 := u7.get r6 nO1
  have no7 : ∀ a, ¬ (SitM Try.prog (PX X)).still γ7 a := fun a x => by
    obtain ⟨j, hj, hg, _⟩ := stillM_of x
    have hv := mn7.view hX hj
    have hn := mn7.num
    have : (p6.gone j || decide (j < p6.num)) = γ7.p.gone j := hv.gone
    have hj' : j < p6.num := by have : p6.num = γ7.p.num := hn; omega
    rw [hg] at this
    simp [hj'] at this
  have ch7 : ∀ i, i ≠ 0 → i < (PX X).num γ7 → (PX X).ch γ7 i = none := fun i hi hl => by
    cases i with
    | zero => exact absurd rfl hi
    | succ j =>
      have hj : j < γ7.p.num := Nat.lt_of_succ_lt_succ hl
      have hv := mn7.view hX hj
      have hn : p6.num = γ7.p.num := mn7.num
      have hg : (p6.gone j || decide (j < p6.num)) = γ7.p.gone j := hv.gone
      show (if γ7.p.gone j = true then none else some (γ7.p.wk j)) = none
      rw [← hg, show decide (j < p6.num) = true by simp; omega, Bool.or_true]
      rfl
  have nb7 : ∀ k, M7.ok k → M7.B k ≠ h.size + 1 := fun k hk e' => by
    rcases g7.wide k hk with y | y
    · exact nO1 (e' ▸ y)
    · omega
  have hwl : p6.went.length = p6.log.length := by rw [rg.went, List.length_map]
  have sL : SliceO h7 s7.L 75 8 p6.log.length (p6.log.flatMap (entL (nums p6.log))) := Mem.Sl.slice g7.rep (g7.all .log)
  have sW : SliceO h7 s7.W 3 1 p6.went.length (p6.went.map fun (n : Nat) => Value.int .i64 (n : Int)) := Mem.Sl.slice g7.rep (g7.all .went)
  have sY : SliceO h7 s7.Y 3 1 p6.rdy.length (p6.rdy.map fun (n : Nat) => Value.int .i64 (n : Int)) := Mem.Sl.slice g7.rep (g7.all .rdy)
  rw [rg.num] at sl7
  have q1 := sliceO_ne sL r7 (by decide)
  have q2 := sliceO_ne sW r7 (by decide)
  have q3 := sliceO_ne sY r7 (by decide)
  have q4 := sliceO_ne sl7 r7 (by decide)
  have hcs : ∀ j, j < 7 → (∃ u, hcell h7 ⟨h.size + 1, 0 + j, none⟩ = some u) ∧ hfroz h7 ⟨h.size + 1, 0 + j, none⟩ = false ∧ ¬ (SitM Try.prog (PX X)).still γ7 ⟨h.size + 1, 0 + j, none⟩ := fun j hj => by
    refine ⟨?_, hfroz_of r7, no7 _⟩
    rcases (show j = 0 ∨ j = 1 ∨ j = 2 ∨ j = 3 ∨ j = 4 ∨ j = 5 ∨ j = 6 by omega) with rfl | rfl | rfl | rfl | rfl | rfl | rfl <;> exact ⟨_, hcell_of r7 rfl⟩
  refine ER.storeN (vs := repL e p6.went.length s7.L s7.W s7.Y lv) rfl rfl rfl rfl (fun v hv => ?_) hcs ?_
  · simp only [List.mem_cons, List.not_mem_nil, or_false] at hv
    rcases hv with rfl | rfl | rfl | rfl | rfl | rfl | rfl
    · exact ⟨nofun, nofun⟩
    · exact ⟨nofun, nofun⟩
    · obtain ⟨a, k, e'⟩ := sL.val; rw [e']; exact ⟨nofun, nofun⟩
    · obtain ⟨a, k, e'⟩ := sW.val; rw [e']; exact ⟨nofun, nofun⟩
    · obtain ⟨a, k, e'⟩ := sY.val; rw [e']; exact ⟨nofun, nofun⟩
    · obtain ⟨a, k, e'⟩ := sl7.val; rw [e']; exact ⟨nofun, nofun⟩
    · exact ⟨nofun, nofun⟩
  rw [row_set (c := repZ) (vs := repL e p6.went.length s7.L s7.W s7.Y lv) r7 rfl]
  (repeat (first | refine ER.done ?_ | refine EK.ret ?_))
  have nF : (h7.setIfInBounds (h.size + 1) (.cells (repL e p6.went.length s7.L s7.W s7.Y lv).toArray 49 (0, 0)))[h.size + 1]? = some (.cells (repL e p6.went.length s7.L s7.W s7.Y lv ++ []).toArray 49 (0, 0)) := by rw [List.append_nil]; exact get_set_same r7
  have uF : Upd (fun b => b = h.size + 1) h7 (h7.setIfInBounds (h.size + 1) (.cells (repL e p6.went.length s7.L s7.W s7.Y lv).toArray 49 (0, 0))) := Upd.set _ _ _ rfl
  have nDu : ¬ X.Dom p6.u (h.size + 1) := fun x => nO1 (.inr (.inr (.inl x)))
  refine EU.retCell1 (vs := repL e p6.went.length s7.L s7.W s7.Y lv) rfl rfl rfl (hrow_block nF) ⟨γ7, p6, e, s7.L, s7.W, s7.Y, lv, rfl, no7, ch7, by rw [hwl], ⟨rg, how, sL.upd uF q1, sW.upd uF q2, sY.upd uF q3, sl7.upd uF q4, hX.loc _ _ _ (fun b hb => get_set_ne _ (fun e' => nDu (e' ▸ hb))) I7, st6.J, st6.Q, fun b hb => ?_⟩, ⟨?_, fun b hb hn => ?_⟩⟩
  · rw [get_set_ne _ (by have := hCl b hb; omega)]
    exact (g7.cel b hb).1
  · rw [Array.size_setIfInBounds]; have := u7.size; omega
  · have hnW : ¬ W b := nW b (by omega) (fun x => hn (.inl x)) (fun x => hn (.inr x)) (by omega) (by omega)
    rw [get_set_ne _ (by omega), u7.2 b (by omega) (fun x => hnW (oursW _ x)), st6.upd.2 b (by omega) hnW]
    exact u5.2 b hb (fun x => x)
end
end Go.Proofs.Ytcpcdnkemobneaa
end
section
namespace Go.Proofs.Ytcpcdnkemobneaa
open Go Go.TJ Go.Conc Go.Proofs
section
variable {X : Us} {h : Hp} {i : Nat} {γ : GG X} {u : X.U} {L : List (Nat × Obj)}
structure Asks (X : Us) (i : Nat) (γ : GG X) (u : X.U) (r : Rq) : Prop where
  Q : X.Q i (ownOf i (γ.p.acc i).log) (.stands r) u
  J : X.J (γ.p.acc i).log u (γ.p.acc i).val
def Halt (X : Us) (i : Nat) (p : PS X.U) (ps : List PanicEntry) (h : Hp) (δ : Ix (GG X)) : Prop := ∃ γ' : GG X, δ = ⟨0, γ'⟩ ∧ Along X i p γ'.p ∧ Stp X i γ' h ∧ ps = [{ v := stopV, recovered := false }]
theorem Halt.along {p p' : PS X.U} (a : Along X i p p') {ps : List PanicEntry} {h : Hp} {δ : Ix (GG X)} (x : Halt X i p' ps h δ) : Halt X i p ps h δ := by
  obtain ⟨γ', rfl, al, s, e⟩ := x
  exact ⟨γ', rfl, a.trans al, s, e⟩
def Did (X : Us) (i : Nat) (γ : GG X) (u : X.U) (L : List (Nat × Obj)) (r : Rq) (f : Int → Value) (w : Value) (h : Hp) (δ : Ix (GG X)) : Prop := ∃ γ' : GG X, δ = ⟨0, γ'⟩ ∧ Thr X i γ' γ'.p.u L h ∧ Stood X i γ u r γ' ∧ w = f (γ'.p.val r.b)
theorem Thr.celC (T : Thr X i γ u L h) {b : Nat} (hb : X.isC b) : ∃ v, h[b]? = some (cellO v) := by
  obtain ⟨s, M, g⟩ := T.gi
  exact ⟨_, (g.cel b hb).1⟩
theorem rq_ok {b : Nat} {op a c : Int} (hb : X.isC b) (h1 : (decide (1 ≤ op) && decide (op ≤ 5)) = true) (h2 : op = 1 → a = 0) (h3 : op ≠ 3 → c = 0) : RqOk X ⟨op, b, a, c⟩ := by
  simp only [Bool.and_eq_true, decide_eq_true_eq] at h1
  exact ⟨hb, h1.1, h1.2, h2, h3⟩
set_option maxRecDepth 8000 in
set_option maxHeartbeats 1000000 in
theorem cloadT (hX : X.Ok) (T : Thr X i γ u L h) {b : Nat} (hb : X.isC b) (A : Asks X i γ u ⟨1, b, 0, 0⟩) : CallW Try.prog false (SitT Try.prog (PX X) (i + 1)) 97 #[ptr b, ptr (γ.p.tb i)] h ⟨0, γ⟩ (RetP (Did X i γ u L ⟨1, b, 0, 0⟩ (.int .i64 ·)) (Halt X i γ.p)) := by
  obtain ⟨v, hv⟩ := T.celC hb
  obtain ⟨w, t, o, c, b0, n, x, y, k, hat, hrow1⟩ := T.row
  have c0 : hcell h ⟨γ.p.tb i, 0, none⟩ = some (ptr γ.p.R) := hcell_of hrow1 rfl
  have c13 : hcell h ⟨γ.p.tb i, 13, none⟩ = some (.bool false) := hcell_of hrow1 rfl
  clear hrow1 hat
  refine CallW.start (n := 26) rfl rfl ?_
  (repeat (first | refine EK.seq ?_ | refine EK.region ?_ | refine ER.done ?_ | refine ER.move rfl rfl rfl ?_ | refine ER.assign rfl rfl rfl ?_))
  refine ER.callD rfl rfl rfl rfl rfl (none_ok hv) ?_
  (repeat (first | refine EK.seq ?_ | refine EK.region ?_ | refine ER.done ?_ | refine EK.skip ?_ | refine ER.move rfl rfl rfl ?_ | refine EK.condF rfl ?_))
  refine ER.callD rfl rfl rfl rfl rfl (live_ok c0 c13) ?_
  (repeat (first | refine EK.seq ?_ | refine EK.region ?_ | refine ER.done ?_ | refine ER.move rfl rfl rfl ?_ | refine ER.nilCheck rfl rfl rfl ?_ | refine ER.fieldAddr rfl rfl rfl ?_ | refine EK.condT rfl ?_))
  refine ER.callP rfl rfl rfl rfl rfl (step_ok (r := ⟨1, b, 0, 0⟩) hX T (rq_ok hb rfl (fun _ => rfl) (fun _ => rfl)) A.Q A.J) ?_ ?_
  · rintro ps h' δ' ⟨γ', rfl, hS, st, rfl⟩
    exact ⟨γ', rfl, st.al, hS, rfl⟩
  rintro w h1 δ1 ⟨γ', rfl, T', st, rfl⟩
  (repeat (first | refine EK.seq ?_ | refine EK.region ?_ | refine ER.done ?_ | refine ER.move rfl rfl rfl ?_ | refine ER.assign rfl rfl rfl ?_ | refine ER.extract rfl rfl rfl rfl ?_ | refine EK.ret ?_))
  exact EU.ret1 rfl rfl ⟨γ', rfl, T', st, rfl⟩
set_option maxRecDepth 8000 in
set_option maxHeartbeats 1000000 in
theorem cstoreT (hX : X.Ok) (T : Thr X i γ u L h) {b : Nat} {a : Int} (hb : X.isC b) (A : Asks X i γ u ⟨2, b, a, 0⟩) : CallW Try.prog false (SitT Try.prog (PX X) (i + 1)) 95 #[ptr b, ptr (γ.p.tb i), .int .i64 a] h ⟨0, γ⟩ (RetP (Did X i γ u L ⟨2, b, a, 0⟩ (fun _ => .tuple #[])) (Halt X i γ.p)) := by
  obtain ⟨v, hv⟩ := T.celC hb
  obtain ⟨w, t, o, c, b0, n, x, y, k, hat, hrow1⟩ := T.row
  have c0 : hcell h ⟨γ.p.tb i, 0, none⟩ = some (ptr γ.p.R) := hcell_of hrow1 rfl
  have c13 : hcell h ⟨γ.p.tb i, 13, none⟩ = some (.bool false) := hcell_of hrow1 rfl
  clear hrow1 hat
  refine CallW.start (n := 23) rfl rfl ?_
  (repeat (first | refine EK.seq ?_ | refine EK.region ?_ | refine ER.move rfl rfl rfl ?_))
  refine ER.callD rfl rfl rfl rfl rfl (none_ok hv) ?_
  (repeat (first | refine EK.seq ?_ | refine EK.region ?_ | refine ER.done ?_ | refine EK.skip ?_ | refine ER.move rfl rfl rfl ?_ | refine EK.condF rfl ?_))
  refine ER.callD rfl rfl rfl rfl rfl (live_ok c0 c13) ?_
  (repeat (first | refine EK.seq ?_ | refine EK.region ?_ | refine ER.done ?_ | refine ER.move rfl rfl rfl ?_ | refine ER.nilCheck rfl rfl rfl ?_ | refine ER.fieldAddr rfl rfl rfl ?_ | refine EK.condT rfl ?_))
  refine ER.callP rfl rfl rfl rfl rfl (step_ok (r := ⟨2, b, a, 0⟩) hX T (rq_ok hb rfl (fun e => absurd e (by decide)) (fun _ => rfl)) A.Q A.J) ?_ ?_
  · rintro ps h' δ' ⟨γ', rfl, hS, st, rfl⟩
    exact ⟨γ', rfl, st.al, hS, rfl⟩
  rintro w h1 δ1 ⟨γ', rfl, T', st, rfl⟩
  (repeat (first | refine ER.done ?_ | refine EK.ret ?_))
  exact EU.ret0 rfl ⟨γ', rfl, T', st, rfl⟩
set_option maxRecDepth 8000 in
set_option maxHeartbeats 1000000 in
theorem ccasT (hX : X.Ok) (T : Thr X i γ u L h) {b : Nat} {a c' : Int} (hb : X.isC b) (A : Asks X i γ u ⟨3, b, a, c'⟩) : CallW Try.prog false (SitT Try.prog (PX X) (i + 1)) 106 #[ptr b, ptr (γ.p.tb i), .int .i64 a, .int .i64 c'] h ⟨0, γ⟩ (RetP (Did X i γ u L ⟨3, b, a, c'⟩ (fun z => .bool (decide (z = a)))) (Halt X i γ.p)) := by
  obtain ⟨v, hv⟩ := T.celC hb
  obtain ⟨w, t, o, c, b0, n, x, y, k, hat, hrow1⟩ := T.row
  have c0 : hcell h ⟨γ.p.tb i, 0, none⟩ = some (ptr γ.p.R) := hcell_of hrow1 rfl
  have c13 : hcell h ⟨γ.p.tb i, 13, none⟩ = some (.bool false) := hcell_of hrow1 rfl
  clear hrow1 hat
  refine CallW.start (n := 39) rfl rfl ?_
  (repeat (first | refine EK.seq ?_ | refine EK.region ?_ | refine ER.done ?_ | refine ER.move rfl rfl rfl ?_ | refine ER.assign rfl rfl rfl ?_))
  refine ER.callD rfl rfl rfl rfl rfl (none_ok hv) ?_
  (repeat (first | refine EK.seq ?_ | refine EK.region ?_ | refine ER.done ?_ | refine EK.skip ?_ | refine ER.move rfl rfl rfl ?_ | refine EK.condF rfl ?_))
  refine ER.callD rfl rfl rfl rfl rfl (live_ok c0 c13) ?_
  (repeat (first | refine EK.seq ?_ | refine EK.region ?_ | refine ER.done ?_ | refine ER.move rfl rfl rfl ?_ | refine ER.nilCheck rfl rfl rfl ?_ | refine ER.fieldAddr rfl rfl rfl ?_ | refine EK.condT rfl ?_))
  refine ER.callP rfl rfl rfl rfl rfl (step_ok (r := ⟨3, b, a, c'⟩) hX T (rq_ok hb rfl (fun e => absurd e (by decide)) (fun e => absurd rfl e)) A.Q A.J) ?_ ?_
  · rintro ps h' δ' ⟨γ', rfl, hS, st, rfl⟩
    exact ⟨γ', rfl, st.al, hS, rfl⟩
  rintro w h1 δ1 ⟨γ', rfl, T', st, rfl⟩
  (repeat (first | refine EK.seq ?_ | refine EK.region ?_ | refine ER.done ?_ | refine ER.move rfl rfl rfl ?_ | refine ER.assign rfl rfl rfl ?_ | refine ER.extract rfl rfl rfl rfl ?_ | refine EK.ret ?_))
  refine EU.ret1 rfl rfl ⟨γ', rfl, T', st, ?_⟩
  by_cases e : γ'.p.val b = a
  · simp [behind, e]
  · simp [behind, e]
end
end Go.Proofs.Ytcpcdnkemobneaa
end
section
namespace Go.Proofs.Ytcpcdnkemobneaa
open Go Go.TJ Go.Conc Go.Proofs
inductive Pr (A : Type) where
  | done
  | step (r : Rq) (k : Int → Pr A)
  | emit (a : A) (k : Pr A)
inductive Goes {A : Type} (i : Nat) : Pr A → List Ev → List A → Pr A → Prop
  | nil (p : Pr A) : Goes i p [] [] p
  | emit {a : A} {k q : Pr A} {l : List Ev} {o : List A} : Goes i k l o q → Goes i (.emit a k) l (a :: o) q
  | step {r : Rq} {k : Int → Pr A} {q : Pr A} {l : List Ev} {o : List A} (w : Int) : Goes i (k w) l o q → Goes i (.step r k) (evOf i r w :: l) o q
section
variable {A : Type} {i : Nat} {p : Pr A} {l : List Ev} {o : List A}
theorem Goes.access {r : Rq} {k : Int → Pr A} (g : Goes i p l o (.step r k)) (w : Int) : Goes i p (l ++ [evOf i r w]) o (k w) := by
  generalize hq : Pr.step r k = q at g
  induction g with
  | nil p => subst hq; exact .step w (.nil _)
  | emit _ ih => exact .emit (ih hq)
  | step w' _ ih => exact .step w' (ih hq)
theorem Goes.tell {a : A} {k : Pr A} (g : Goes i p l o (.emit a k)) : Goes i p l (o ++ [a]) k := by
  generalize hq : Pr.emit a k = q at g
  induction g with
  | nil p => subst hq; exact .emit (.nil _)
  | emit _ ih => exact .emit (ih hq)
  | step w' _ ih => exact .step w' (ih hq)
theorem Goes.det {q : Pr A} (g : Goes i p l o q) : ∀ {o' : List A} {q' : Pr A}, Goes i p l o' q' → (∀ a k, q ≠ .emit a k) → (∀ a k, q' ≠ .emit a k) → o' = o ∧ q' = q := by
  induction g with
  | nil p =>
    intro o' q' g' hq hq'
    cases g' with
    | nil => exact ⟨rfl, rfl⟩
    | emit _ => exact absurd rfl (hq _ _)
  | emit _ ih =>
    intro o' q' g' hq hq'
    cases g' with
    | nil => exact absurd rfl (hq' _ _)
    | emit h => obtain ⟨rfl, rfl⟩ := ih h hq hq'; exact ⟨rfl, rfl⟩
  | @step r k q l o w _ ih =>
    intro o' q' g' hq hq'
    generalize he : evOf i r w :: l = l' at g'
    generalize hp : Pr.step r k = p' at g'
    cases g' with
    | nil => cases he
    | emit h => cases hp
    | step w' h =>
      injection hp with h1 h2
      subst h1 h2
      injection he with h3 h4
      subst h4
      have : w = w' := by injection h3
      subst this
      exact ih h hq hq'
end
structure Prog (X : Us) {A : Type} (P : Nat → Pr A) (told : X.U → Nat → List A) : Prop where
  Q : ∀ i l s u, X.Q i l s u ↔ ∃ p, Goes i (P i) l (told u i) p ∧ (match s with | .born => told u i = [] | .stands r => ∃ k, p = .step r k | .over => p = .done)
  V : ∀ i u u', X.V i u u' → told u' i = told u i
section
variable {X : Us} {A : Type} {P : Nat → Pr A} {told : X.U → Nat → List A} {i : Nat} {γ γ' : GG X} {u : X.U} {L : List (Nat × Obj)} {h : Hp}
def Res (P : Nat → Pr A) (told : X.U → Nat → List A) (i : Nat) (γ : GG X) (u : X.U) (p : Pr A) : Prop := Goes i (P i) (ownOf i (γ.p.acc i).log) (told u i) p
theorem Res.asks (R : Prog X P told) {r : Rq} {k : Int → Pr A} (x : Res P told i γ u (.step r k)) (hJ : X.J (γ.p.acc i).log u (γ.p.acc i).val) : Asks X i γ u r := ⟨(R.Q _ _ _ _).2 ⟨_, x, k, rfl⟩, hJ⟩
theorem Res.did (R : Prog X P told) {r : Rq} {k : Int → Pr A} (x : Res P told i γ u (.step r k)) (st : Stood X i γ u r γ') : Res P told i γ' γ'.p.u (k (γ'.p.val r.b)) := by
  unfold Res
  rw [st.after, R.V _ _ _ st.V]
  exact Goes.access x _
theorem Res.over (R : Prog X P told) (x : Res P told i γ u .done) : X.Q i (ownOf i (γ.p.acc i).log) .over u := (R.Q _ _ _ _).2 ⟨_, x, rfl⟩
theorem Res.born (_R : Prog X P told) (_T : Thr X i γ γ.p.u L h) (hb : γ.p.st i = .born) (ho : ownOf i γ.p.log = []) (ht : told γ.p.u i = []) : Res P told i γ γ.p.u (P i) := by
  unfold Res
  rw [acc_born _ _ hb, ho, ht]
  exact .nil _
end
theorem eaCallP {Γ : Type} {P : Program} {main : Bool} {S : Sit Γ} {f : FuncId} {n : Nat} {k : List Item} {env : Env} {h : Hp} {δ : Ix Γ} {R : Post Γ} {ops : Array Oper} {Z : Hp → Prop} {z : Nat} (i : Nat) {d : Nat} {x : Operand} {args : Array Operand} {ats : Array TypeId} {ty : TypeId} {pos : String} {af : Array Edge} {g : Option (Nat × Bool)} {m : Nat} {listed l' : Array Bool} {fn : Func} [hf : IsFn P f fn] {c : FuncId} {cap ws : Array Value} {vs : List Value} [HasBody P c] {Q : Value → Hp → Ix Γ → Prop} {Y : List PanicEntry → Hp → Ix Γ → Prop}
    (hi : ops[i]? = some ⟨some d, .call { callee := .value x, args, argTypes := ats }, ty, pos, af, g⟩) (hr : Region.ready .any ops listed = [i]) (hl : listed.setIfInBounds i true = l') (hd : Nat.blt d n = true)
    (hw : wantE ops env g = some true) (hx : ev env x = some (.func (.func c) #[] cap)) (ha : evL env args.toList = some vs) (hws : vs.toArray ++ cap = ws) (hc : CallW P main S c ws h δ (RetP Q Y)) (hY : ∀ p h' δ', Y p h' δ' → R (.pan p) h' δ')
    (hn : ∀ v h' δ', Q v h' δ' → Z h' ∧ EA P main S f n ops Z z m l' k ((d, v) :: env) [] h' δ' R) : EA P main S f n ops Z z (m + 1) listed k env [] h δ R := by
  subst hws
  refine EA.only i hi hr hl hw fun a ka => ?_
  refine semW_call rfl (ka.eval hx) (map_ofL (fun x v hx => ka.eval hx) ha) (hc.mono ?_)
  rintro (v | p) h' δ' hq
  · exact ⟨.inr (hn v h' δ' hq).1, (hn v h' δ' hq).2 _ (ka.put v hd)⟩
  · exact fun a' ha' => WU.pan0 (ha'.trans ka.defers) hf.out (hY _ _ _ hq)
end Go.Proofs.Ytcpcdnkemobneaa
end
section
namespace Go.Proofs.Ytcpcdnkemobneaa
open Go Go.TJ Go.Conc Go.Proofs
structure CodX (X : Us) {A : Type} (P : Nat → Pr A) (told : X.U → Nat → List A) (M : Hp → Prop) : Prop where
  ok : X.Ok
  prog : Prog X P told
  mem : ∀ u h, X.I u h → M h
  j : ∀ l u v, X.J l u v
section
variable {X : Us} {A : Type} {P : Nat → Pr A} {told : X.U → Nat → List A} {M : Hp → Prop} {i : Nat} {γ γ' : GG X} {u : X.U} {L : List (Nat × Obj)} {h h' : Hp}
structure AtP (X : Us) {A : Type} (P : Nat → Pr A) (told : X.U → Nat → List A) (i : Nat) (γ : GG X) (u : X.U) (L : List (Nat × Obj)) (h : Hp) (p : Pr A) : Prop where
  thr : Thr X i γ u L h
  res : Res P told i γ u p
structure Nxt (X : Us) {A : Type} (P : Nat → Pr A) (told : X.U → Nat → List A) (i : Nat) (γ : GG X) (u : X.U) (L : List (Nat × Obj)) (γ' : GG X) (h' : Hp) (p : Pr A) : Prop where
  al : Along X i γ.p γ'.p
  at_ : AtP X P told i γ' γ'.p.u L h' p
  V : X.V i u γ'.p.u
  len : (ownOf i (γ.p.acc i).log).length < (ownOf i (γ'.p.acc i).log).length
theorem Nxt.trans {γ1 γ2 : GG X} {h1 h2 : Hp} {p1 p2 : Pr A} (hX : X.Ok) (a : Nxt X P told i γ u L γ1 h1 p1) (b : Nxt X P told i γ1 γ1.p.u L γ2 h2 p2) : Nxt X P told i γ u L γ2 h2 p2 :=
  ⟨a.al.trans b.al, b.at_, hX.vtrans _ _ _ _ a.V b.V, Nat.lt_trans a.len b.len⟩
theorem own_le {l : List Ev} : (ownOf i l).length ≤ l.length := List.length_filter_le _ _
theorem AtP.len {p : Pr A} (a : AtP X P told i γ u L h p) : (ownOf i (γ.p.acc i).log).length ≤ 65536 := by
  have h1 : (ownOf i (γ.p.acc i).log).length ≤ (γ.p.acc i).log.length := own_le
  have h2 : (γ.p.acc i).log.length ≤ γ.p.log.length + 1 := by
    unfold PS.acc
    split
    · simp
    · omega
  have := a.thr.len
  omega
theorem Nxt.of (K : CodX X P told M) {r : Rq} {k : Int → Pr A} {h' : Hp} (a : AtP X P told i γ u L h (.step r k)) (T : Thr X i γ' γ'.p.u L h') (st : Stood X i γ u r γ') : Nxt X P told i γ u L γ' h' (k (γ'.p.val r.b)) ∧ M h' :=
  ⟨⟨st.al, ⟨T, a.res.did K.prog st⟩, st.V, by rw [st.after]; simp⟩, K.mem _ _ T.I⟩
theorem loadC (K : CodX X P told M) {b : Nat} {k : Int → Pr A} (a : AtP X P told i γ u L h (.step ⟨1, b, 0, 0⟩ k)) (hb : X.isC b) {t : Nat} (ht : t = γ.p.tb i) : CallW Try.prog false (SitT Try.prog (PX X) (i + 1)) 97 #[ptr b, ptr t] h ⟨0, γ⟩ (RetP (fun w h' δ' => ∃ γ' : GG X, δ' = ⟨0, γ'⟩ ∧ w = .int .i64 (γ'.p.val b) ∧ Nxt X P told i γ u L γ' h' (k (γ'.p.val b)) ∧ M h') (Halt X i γ.p)) := by
  subst ht
  refine (cloadT K.ok a.thr hb (a.res.asks K.prog (K.j _ _ _))).conseqP ?_
  rintro w h' δ' ⟨γ', rfl, T, st, rfl⟩
  obtain ⟨x, y⟩ := Nxt.of K a T st
  exact ⟨γ', rfl, rfl, x, y⟩
theorem storeC (K : CodX X P told M) {b : Nat} {v : Int} {k : Int → Pr A} (a : AtP X P told i γ u L h (.step ⟨2, b, v, 0⟩ k)) (hb : X.isC b) {t : Nat} (ht : t = γ.p.tb i) : CallW Try.prog false (SitT Try.prog (PX X) (i + 1)) 95 #[ptr b, ptr t, .int .i64 v] h ⟨0, γ⟩ (RetP (fun w h' δ' => ∃ γ' : GG X, δ' = ⟨0, γ'⟩ ∧ w = .tuple #[] ∧ Nxt X P told i γ u L γ' h' (k (γ'.p.val b)) ∧ M h') (Halt X i γ.p)) := by
  subst ht
  refine (cstoreT K.ok a.thr hb (a.res.asks K.prog (K.j _ _ _))).conseqP ?_
  rintro w h' δ' ⟨γ', rfl, T, st, rfl⟩
  obtain ⟨x, y⟩ := Nxt.of K a T st
  exact ⟨γ', rfl, rfl, x, y⟩
theorem casC (K : CodX X P told M) {b : Nat} {v c : Int} {k : Int → Pr A} (a : AtP X P told i γ u L h (.step ⟨3, b, v, c⟩ k)) (hb : X.isC b) {t : Nat} (ht : t = γ.p.tb i) : CallW Try.prog false (SitT Try.prog (PX X) (i + 1)) 106 #[ptr b, ptr t, .int .i64 v, .int .i64 c] h ⟨0, γ⟩ (RetP (fun w h' δ' => ∃ γ' : GG X, δ' = ⟨0, γ'⟩ ∧ w = .bool (decide (γ'.p.val b = v)) ∧ Nxt X P told i γ u L γ' h' (k (γ'.p.val b)) ∧ M h') (Halt X i γ.p)) := by
  subst ht
  refine (ccasT K.ok a.thr hb (a.res.asks K.prog (K.j _ _ _))).conseqP ?_
  rintro w h' δ' ⟨γ', rfl, T, st, rfl⟩
  obtain ⟨x, y⟩ := Nxt.of K a T st
  exact ⟨γ', rfl, rfl, x, y⟩
structure CallP (X : Us) {A : Type} (P : Nat → Pr A) (told : X.U → Nat → List A) (i : Nat) (γ : GG X) (u : X.U) (L : List (Nat × Obj)) (γ' : GG X) (u' : X.U) (h' : Hp) (p : Pr A) : Prop where
  al : Along X i γ.p γ'.p
  at_ : AtP X P told i γ' u' L h' p
  V : X.V i u u'
theorem Thr.privs (T : Thr X i γ u L h) : (∀ q, q ∈ L → h[q.1]? = some q.2 ∧ ¬ X.Dom u q.1) ∧ ∀ b, X.Dom u b → b < h.size := by
  obtain ⟨s, M, g⟩ := T.gi
  have hn : i < ({ γ.p.acc i with u := u, prv := ut (γ.p.acc i).prv i L } : PS X.U).num := by show i < (γ.p.acc i).num; rw [(acc_same γ.p i).2.2.1]; exact T.lt
  refine ⟨fun q hq => ?_, fun b hb => (g.dom b hb).1⟩
  have := g.prv i hn q (by show q ∈ ut (γ.p.acc i).prv i L i; rw [ut_same]; exact hq)
  exact ⟨this.1, this.2.2.2.2⟩
theorem Thr.priv {L' : List (Nat × Obj)} (hX : X.Ok) (T : Thr X i γ u L h) (hu : Upd (fun b => ∃ q, q ∈ L ∧ q.1 = b) h h') (h2 : ∀ q, q ∈ L' → h'[q.1]? = some q.2 ∧ ∃ q0, q0 ∈ L ∧ q0.1 = q.1) : Thr X i γ u L' h' := by
  obtain ⟨p1, p3⟩ := T.privs
  refine T.user hX (u' := u) (L' := L') (hu.mono fun b _ e => .inr e) (fun b hb => ⟨.inl hb, Nat.lt_of_lt_of_le (p3 b hb) hu.size⟩) (fun q hq => ?_) (hX.loc _ _ _ (fun b hb => hu.2 b (p3 b hb) (fun ⟨q, hq, e⟩ => (p1 q hq).2 (e ▸ hb))) T.I) (fun x _ => hX.vrefl _ _)
  obtain ⟨y1, q0, hq0, e⟩ := h2 q hq
  exact ⟨y1, .inl ⟨q0, hq0, e⟩, by rw [← e]; exact (p1 q0 hq0).2⟩
theorem Thr.priv1 {y : Nat} {o0 o : Obj} (hX : X.Ok) (T : Thr X i γ u ((y, o0) :: L) h) (hn : ∀ q, q ∈ L → q.1 ≠ y) : Thr X i γ u ((y, o) :: L) (h.setIfInBounds y o) := by
  refine T.priv hX (Upd.set _ _ _ ⟨_, List.mem_cons_self, rfl⟩) fun q hq => ?_
  rcases List.mem_cons.1 hq with rfl | hq
  · exact ⟨get_set_same (T.privs.1 _ List.mem_cons_self).1, _, List.mem_cons_self, rfl⟩
  · exact ⟨by rw [get_set_ne _ (Ne.symm (hn q hq))]; exact (T.privs.1 q (List.mem_cons_of_mem _ hq)).1, q, List.mem_cons_of_mem _ hq, rfl⟩
theorem Thr.sub {L' : List (Nat × Obj)} (hX : X.Ok) (T : Thr X i γ u L h) (hs : ∀ q, q ∈ L' → q ∈ L) : Thr X i γ u L' h :=
  T.priv hX (Upd.refl _ _) fun q hq => ⟨(T.privs.1 q (hs q hq)).1, q, hs q hq, rfl⟩
end
end Go.Proofs.Ytcpcdnkemobneaa
end
section
namespace Go.Proofs.Ytcpcdnkemobneaa
open Go Go.TJ Go.Conc Go.Proofs
structure TC (A : Type) where
  n : Nat
  hN : Hp
  isC : Nat → Prop
  ex : Nat → Prop
  T : Nat
  tS : TypeId
  e : TypeId
  sz : Nat
  enc : A → List Value
  J : List Ev → (Nat → List A) → (Nat → Int) → Prop
  P : Nat → Pr A
def TC.old {A : Type} (c : TC A) (b : Nat) : Prop := b < c.hN.size ∧ ¬ c.isC b ∧ ¬ c.ex b
structure ToldI {A : Type} (c : TC A) (u : Nat → List A × Value) (h : Hp) : Prop where
  old : ∀ b, c.old b → b ≠ c.T → h[b]? = c.hN[b]?
  out : h[c.T]? = some (.cells ((List.range c.n).map fun i => (u i).2).toArray c.tS (0, 0))
  inn : ∀ i, i < c.n → SliceO h (u i).2 c.e c.sz (u i).1.length ((u i).1.flatMap c.enc)
  new : ∀ i b, i < c.n → blk (u i).2 = some b → ¬ c.old b ∧ ¬ c.isC b
  inj : ∀ i j b, i < c.n → j < c.n → blk (u i).2 = some b → blk (u j).2 = some b → i = j
def UsT {A : Type} (c : TC A) : Us where
  U := Nat → List A × Value
  isC := c.isC
  Dom := fun u b => c.old b ∨ (¬ c.isC b ∧ ∃ i, i < c.n ∧ blk (u i).2 = some b)
  I := ToldI c
  J := fun l u v => c.J l (fun i => (u i).1) v
  V := fun i u u' => u' i = u i
  Q := fun i l s u => ∃ p, Goes i (c.P i) l (u i).1 p ∧ (match s with | .born => (u i).1 = [] | .stands r => ∃ k, p = .step r k | .over => p = .done)
section
variable {A : Type} {c : TC A} {u : Nat → List A × Value} {h h' : Hp} {i : Nat} {a : A}
theorem SliceO.same {h h' : Hp} {s : Value} {e sz n : Nat} {cells : List Value} (x : SliceO h s e sz n cells) (hb : ∀ b, blk s = some b → h'[b]? = h[b]?) : SliceO h' s e sz n cells := by
  refine ⟨x.1, x.2.imp id ?_⟩
  rintro ⟨b, cap, rest, rfl, h1, h2, h3⟩
  exact ⟨b, cap, rest, rfl, h1, h2, (hb b rfl).trans h3⟩
theorem ToldI.loc (ok : c.old c.T) (hb : ∀ b, (UsT c).Dom u b → h'[b]? = h[b]?) (I : ToldI c u h) : ToldI c u h' :=
  ⟨fun b h1 h4 => (hb b (.inl h1)).trans (I.old b h1 h4), (hb _ (.inl ok)).trans I.out, fun i hi => SliceO.same (I.inn i hi) fun b hbb => hb b (.inr ⟨(I.new i b hi hbb).2, i, hi, hbb⟩), I.new, I.inj⟩
theorem usT_ok (ok : c.old c.T) : (UsT c).Ok where
  vrefl := fun _ _ => rfl
  vtrans := fun i a b d h1 h2 => (show d i = b i from h2).trans h1
  loc := fun u h h' hb I => ToldI.loc ok hb I
  stab := fun i l s u u' hv hq => by
    have hv' : u' i = u i := hv
    show ∃ p, Goes i (c.P i) l (u' i).1 p ∧ _
    rw [hv']
    exact hq
  dis := fun u b hd hc => hd.elim (fun y => y.2.1 hc) fun y => y.1 hc
theorem usT_prog : Prog (UsT c) c.P (fun u i => (u i).1) where
  Q := fun _ _ _ _ => Iff.rfl
  V := fun i u u' hv => by rw [show u' i = u i from hv]
theorem map_range_set {n i : Nat} (hi : i < n) (f : Nat → Value) (x : Value) : ((List.range n).map fun j => if j = i then x else f j) = ((List.range n).map f).set i x := by
  refine List.ext_getElem? fun j => ?_
  by_cases e : j = i
  · subst e
    rw [List.getElem?_set_self (by simpa using hi)]
    simp [hi]
  · rw [List.getElem?_set_ne (Ne.symm e)]
    simp only [List.getElem?_map]
    rcases Nat.lt_or_ge j n with y | y
    · simp [y, e]
    · simp [y]
theorem ToldI.oldlt (_ok : c.old c.T) (I : ToldI c u h) {b : Nat} (hb : c.old b) : b < h.size := by
  by_cases e : b = c.T
  · rw [e]; exact lt_of_get I.out
  · have := I.old b hb e
    rw [Array.getElem?_eq_getElem hb.1] at this
    exact lt_of_get this
theorem ToldI.tell (ok : c.old c.T) (I : ToldI c u h) (hi : i < c.n) {h1 : Hp} {s' : Value} (hC : ∀ b, c.isC b → b < h.size) (up : Upd (fun b => blk (u i).2 = some b) h h1) (sl : SliceO h1 s' c.e c.sz ((u i).1.length + 1) ((u i).1.flatMap c.enc ++ c.enc a))
    (hb : ∀ b, blk s' = some b → blk (u i).2 = some b ∨ h.size ≤ b) : ToldI c (ut u i ((u i).1 ++ [a], s')) (hset h1 ⟨c.T, 0 + i * 1, none⟩ s') := by
  have hTn : ∀ j b, j < c.n → blk (u j).2 = some b → b ≠ c.T := fun j b hj hbb e => (I.new j b hj hbb).1 (e ▸ ok)
  have o1 := up.get I.out (fun x => hTn i _ hi x rfl)
  have e1 : hset h1 ⟨c.T, 0 + i * 1, none⟩ s' = h1.setIfInBounds c.T (.cells (((List.range c.n).map fun j => (u j).2).toArray.setIfInBounds (0 + i * 1) s') c.tS (0, 0)) := hset_block o1 _
  rw [e1]
  have u2 : Upd (fun b => b = c.T) h1 (h1.setIfInBounds c.T (.cells (((List.range c.n).map fun j => (u j).2).toArray.setIfInBounds (0 + i * 1) s') c.tS (0, 0))) := Upd.set _ _ _ rfl
  have hs' : ∀ b, blk s' = some b → ¬ c.old b ∧ ¬ c.isC b := fun b hbb => by
    rcases hb b hbb with y | y
    · exact I.new i b hi y
    · exact ⟨fun z => by have := I.oldlt ok z; omega, fun z => by have := hC b z; omega⟩
  have hs2 : ∀ b, blk s' = some b → b ≠ c.T := fun b hbb e => (hs' b hbb).1 (e ▸ ok)
  refine ⟨fun b h1' h4 => ?_, ?_, fun j hj => ?_, fun j b hj hbb => ?_, fun j k b hj hk hbj hbk => ?_⟩
  · rw [get_set_ne _ (Ne.symm h4), up.2 b (I.oldlt ok h1') (fun x => (I.new i b hi x).1 h1')]
    exact I.old b h1' h4
  · rw [get_set_same o1]
    congr 2
    have e2 : ((List.range c.n).map fun j => (ut u i ((u i).1 ++ [a], s') j).2) = ((List.range c.n).map fun j => (u j).2).set i s' := by
      rw [← map_range_set hi]
      refine List.map_congr_left fun j _ => ?_
      by_cases e : j = i
      · subst e; rw [ut_same, if_pos rfl]
      · rw [ut_ne _ _ e, if_neg e]
    rw [e2]
    simp
  · by_cases e : j = i
    · subst e
      rw [ut_same]
      have := sl.upd u2 (fun b hbb e => hs2 b hbb e)
      simp only [List.length_append, List.length_singleton, List.flatMap_append, List.flatMap_cons, List.flatMap_nil, List.append_nil]
      exact this
    · rw [ut_ne _ _ e]
      refine ((I.inn j hj).upd up (fun b hbj hbi => e (I.inj j i b hj hi hbj hbi))).upd u2 (fun b hbj e' => hTn j b hj hbj e')
  · by_cases e : j = i
    · subst e; rw [ut_same] at hbb; exact hs' b hbb
    · rw [ut_ne _ _ e] at hbb; exact I.new j b hj hbb
  · have key : ∀ k b, k < c.n → k ≠ i → blk s' = some b → blk (u k).2 = some b → False := fun k b hk hne h1' h2 => by
      rcases hb b h1' with y | y
      · exact hne (I.inj k i b hk hi h2 y)
      · have := (I.inn k hk).lt h2
        omega
    by_cases ej : j = i <;> by_cases ek : k = i
    · omega
    · subst ej
      rw [ut_same] at hbj; rw [ut_ne _ _ ek] at hbk
      exact (key k b hk ek hbj hbk).elim
    · subst ek
      rw [ut_same] at hbk; rw [ut_ne _ _ ej] at hbj
      exact (key j b hj ej hbk hbj).elim
    · rw [ut_ne _ _ ej] at hbj; rw [ut_ne _ _ ek] at hbk
      exact I.inj j k b hj hk hbj hbk
section
variable {γ : GG (UsT c)} {L : List (Nat × Obj)}
theorem Thr.cl (T : Thr (UsT c) i γ u L h) : ∀ b, c.isC b → b < h.size := fun b hb => by
  obtain ⟨s, M, g⟩ := T.gi
  exact lt_of_get (g.cel b hb).1
theorem Thr.tell (ok : c.old c.T) (T : Thr (UsT c) i γ u [] h) (hi : i < c.n) {h1 : Hp} {s' : Value} (up : Upd (fun b => blk (u i).2 = some b) h h1) (sl : SliceO h1 s' c.e c.sz ((u i).1.length + 1) ((u i).1.flatMap c.enc ++ c.enc a))
    (hb : ∀ b, blk s' = some b → blk (u i).2 = some b ∨ h.size ≤ b) : Thr (UsT c) i γ (ut u i ((u i).1 ++ [a], s')) [] (hset h1 ⟨c.T, 0 + i * 1, none⟩ s') := by
  have I : ToldI c u h := T.I
  have I2 := I.tell ok hi T.cl up sl hb
  have oT : (hset h1 ⟨c.T, 0 + i * 1, none⟩ s').size = h1.size := by rw [hset_size]
  refine T.user (usT_ok ok) (u' := ut u i ((u i).1 ++ [a], s')) (L' := []) ((up.mono (fun b _ x => Or.inl (Or.inr ⟨(I.new i b hi x).2, i, hi, x⟩))).trans (Upd.hset (T := fun b => (UsT c).Dom u b ∨ ∃ q, q ∈ ([] : List (Nat × Obj)) ∧ q.1 = b) h1 ⟨c.T, 0 + i * 1, none⟩ s' (.inl (.inl ok)))) ?_ (fun q hq => by cases hq) I2 (fun x hx => ut_ne _ _ hx)
  rintro b (y | ⟨y1, j, hj, y2⟩)
  · refine ⟨.inl (.inl y), ?_⟩
    have := I.oldlt ok y
    have := up.size
    omega
  · by_cases e : j = i
    · subst e
      rw [ut_same] at y2
      refine ⟨?_, by rw [oT]; exact sl.lt y2⟩
      rcases hb b y2 with z | z
      · exact .inl (.inr ⟨y1, j, hj, z⟩)
      · exact .inr z
    · rw [ut_ne _ _ e] at y2
      refine ⟨.inl (.inr ⟨y1, j, hj, y2⟩), ?_⟩
      have := (I.inn j hj).lt y2
      have := up.size
      omega
end
end
end Go.Proofs.Ytcpcdnkemobneaa
end
section
namespace Go.Proofs.Ytcpcdnkemobneaa
open Go Go.TJ Go.Conc Go.Proofs
def numsA (acc : List Nat) (l : List Ev) : List Nat := l.foldl (fun a e => if e.b ∈ a then a else a ++ [e.b]) acc
theorem numsA_pre : ∀ (l : List Ev) (acc : List Nat), ∃ s, numsA acc l = acc ++ s
  | [], acc => ⟨[], by simp [numsA]⟩
  | e :: l, acc => by
    by_cases h : e.b ∈ acc
    · obtain ⟨s, hs⟩ := numsA_pre l acc
      exact ⟨s, by unfold numsA at hs ⊢; rw [List.foldl_cons, if_pos h]; exact hs⟩
    · obtain ⟨s, hs⟩ := numsA_pre l (acc ++ [e.b])
      exact ⟨e.b :: s, by unfold numsA at hs ⊢; rw [List.foldl_cons, if_neg h, hs]; simp⟩
theorem nums_app (l l' : List Ev) : ∃ s, nums (l ++ l') = nums l ++ s := by
  obtain ⟨s, hs⟩ := numsA_pre l' (nums l)
  exact ⟨s, by unfold nums at hs ⊢; rw [List.foldl_append]; exact hs⟩
theorem numsA_nodup : ∀ (l : List Ev) (acc : List Nat), acc.Nodup → (numsA acc l).Nodup
  | [], acc, h => h
  | e :: l, acc, h => by
    unfold numsA
    rw [List.foldl_cons]
    by_cases he : e.b ∈ acc
    · rw [if_pos he]; exact numsA_nodup l acc h
    · rw [if_neg he]
      refine numsA_nodup l _ (List.nodup_append.2 ⟨h, by simp, fun a ha b hb => ?_⟩)
      rw [List.mem_singleton.1 hb]
      exact fun e' => he (e' ▸ ha)
theorem nums_nodup (l : List Ev) : (nums l).Nodup := numsA_nodup l [] List.nodup_nil
theorem take_mid {α : Type} {l : List α} {k : Nat} {a : α} (h : l[k]? = some a) : l.take (k + 1) = l.take k ++ [a] ∧ l = l.take (k + 1) ++ l.drop (k + 1) ∧ k < l.length := by
  have hk : k < l.length := by
    rcases Nat.lt_or_ge k l.length with y | y
    · exact y
    · rw [List.getElem?_eq_none y] at h; cases h
  refine ⟨?_, (List.take_append_drop _ _).symm, hk⟩
  rw [List.take_add_one, h]; rfl
theorem idx_at {l : List Ev} {k : Nat} {e : Ev} (h : l[k]? = some e) : (nums l).idxOf e.b = (nums (l.take (k + 1))).idxOf e.b ∧ (nums l).idxOf e.b < (nums (l.take (k + 1))).length ∧ (nums (l.take (k + 1)))[(nums l).idxOf e.b]? = some e.b ∧
    ((e.b ∈ nums (l.take k) ∧ nums (l.take (k + 1)) = nums (l.take k) ∧ (nums l).idxOf e.b < (nums (l.take k)).length) ∨ (e.b ∉ nums (l.take k) ∧ nums (l.take (k + 1)) = nums (l.take k) ++ [e.b] ∧ (nums l).idxOf e.b = (nums (l.take k)).length)) := by
  obtain ⟨h1, h2, h3⟩ := take_mid h
  have hm : e.b ∈ nums (l.take (k + 1)) := (nums_mem _ _).2 ⟨e, by rw [h1]; simp, rfl⟩
  obtain ⟨s, hs⟩ := nums_app (l.take (k + 1)) (l.drop (k + 1))
  rw [← h2] at hs
  have e1 : (nums l).idxOf e.b = (nums (l.take (k + 1))).idxOf e.b := by rw [hs]; exact idxOf_app hm s
  have hlt := List.idxOf_lt_length_iff.2 hm
  refine ⟨e1, e1 ▸ hlt, ?_, ?_⟩
  · rw [e1, List.getElem?_eq_getElem hlt]; simp
  · by_cases hc : e.b ∈ nums (l.take k)
    · left
      have e2 : nums (l.take (k + 1)) = nums (l.take k) := by rw [h1, nums_snoc, if_pos hc]
      refine ⟨hc, e2, ?_⟩
      rw [e1, e2]; exact List.idxOf_lt_length_iff.2 hc
    · right
      have e2 : nums (l.take (k + 1)) = nums (l.take k) ++ [e.b] := by rw [h1, nums_snoc, if_neg hc]
      refine ⟨hc, e2, ?_⟩
      rw [e1, e2, List.idxOf_append, if_neg hc]
      simp
theorem map_ut {f : Nat → Int} {b : Nat} {x : Int} {F : Int → Value} : ∀ {l : List Nat}, l.Nodup → b ∈ l → (l.map fun c => F (ut f b x c)) = (l.map fun c => F (f c)).set (l.idxOf b) (F x)
  | [], _, h => by cases h
  | a :: l, hn, h => by
    obtain ⟨h1, h2⟩ := List.nodup_cons.1 hn
    by_cases e : a = b
    · subst e
      have : (l.map fun c => F (ut f a x c)) = l.map fun c => F (f c) := List.map_congr_left fun c hc => by rw [ut_ne _ _ (fun e : c = a => h1 (by rw [← e]; exact hc))]
      simp [this, ut_same]
    · have hb : b ∈ l := (List.mem_cons.1 h).resolve_left (Ne.symm e)
      have e' : (a == b) = false := by simpa using e
      simp only [List.map_cons, List.idxOf_cons, e', cond_false, List.set_cons_succ, ut_ne _ _ e]
      rw [map_ut h2 hb]
section
variable {X : Us} {v0 v v' : Nat → Int} {l : List Ev}
theorem Chain.inv (c : Chain X v0 l v) {k : Nat} {e : Ev} (h : l[k]? = some e) : ∃ (w : Nat → Int) (i : Nat) (r : Rq), Chain X v0 (l.take k) w ∧ RqOk X r ∧ e = evOf i r (w r.b) ∧ Chain X v0 (l.take (k + 1)) (ut w r.b (behind r.op (w r.b) r.arg r.new).1) := by
  induction c with
  | nil => cases h
  | @snoc l v i r c hr ih =>
    rcases Nat.lt_trichotomy k l.length with y | y | y
    · rw [List.getElem?_append_left y] at h
      rw [List.take_append_of_le_length (by omega), List.take_append_of_le_length (by omega)]
      exact ih h
    · subst y
      rw [List.getElem?_append_right (Nat.le_refl _), Nat.sub_self] at h
      obtain rfl : evOf i r (v r.b) = e := by simpa using h
      rw [List.take_left, List.take_of_length_le (by simp)]
      exact ⟨v, i, r, c, hr, rfl, .snoc i r c hr⟩
    · rw [List.getElem?_eq_none (by simp; omega)] at h; cases h
theorem Chain.det (c : Chain X v0 l v) : ∀ {v'}, Chain X v0 l v' → v' = v := by
  induction c with
  | nil =>
    intro v' c'
    generalize hl : ([] : List Ev) = l' at c'
    cases c' with
    | nil => rfl
    | snoc => simp at hl
  | @snoc l v i r c hr ih =>
    intro v' c'
    generalize hl : l ++ [evOf i r (v r.b)] = l' at c'
    cases c' with
    | nil => simp at hl
    | @snoc l2 w i2 r2 c2 hr2 =>
      obtain ⟨h1, h2⟩ := List.append_inj' hl rfl
      subst h1
      have := ih c2
      subst this
      have h3 : evOf i r (w r.b) = evOf i2 r2 (w r2.b) := by simpa using h2
      have hb : r.b = r2.b := congrArg Ev.b h3
      have ho : r.op = r2.op := congrArg Ev.op h3
      have ha : r.arg = r2.arg := congrArg Ev.arg h3
      have hn : r.new = r2.new := congrArg Ev.new h3
      rw [hb, ho, ha, hn]
theorem Chain.first (c : Chain X v0 l v) {b : Nat} (h : b ∉ nums l) : v b = v0 b := by
  induction c with
  | nil => rfl
  | @snoc l v i r c hr ih =>
    rw [nums_snoc] at h
    have hb : b ≠ r.b := fun e => by
      subst e
      split at h
      · rename_i y; exact h y
      · exact h (by simp [evOf])
    rw [ut_ne _ _ hb]
    refine ih fun y => h ?_
    split
    · exact y
    · exact List.mem_append_left _ y
theorem Chain.cell (c : Chain X v0 l v) {b : Nat} (h : b ∈ nums l) : X.isC b := by
  induction c with
  | nil => cases h
  | @snoc l v i r c hr ih =>
    rw [nums_snoc] at h
    split at h
    · exact ih h
    · rcases List.mem_append.1 h with y | y
      · exact ih y
      · rw [List.mem_singleton.1 y]; exact hr.cell
end
structure Rec where
  nb : Nat
  most : Nat
  e : Int
  log : List Ev
  rdy : List Nat
  left : List (Nat × Rq)
  v0 : Nat → Int
  val : Nat → Int
def Rec.alive (R : Rec) (k : Nat) : List Nat := (List.range R.nb).filter (fun j => R.left.any (fun q => q.1 == j) || (R.log.drop k).any (fun e => e.thr == j))
structure RecOk (X : Us) (picks : List Int) (R : Rec) : Prop where
  nb : R.nb ≤ 64
  most : R.most ≤ 65536
  len : R.log.length ≤ R.most
  rdy : R.rdy.length = R.log.length
  chain : Chain X R.v0 R.log R.val
  left : ∀ q, q ∈ R.left → q.1 < R.nb ∧ RqOk X q.2
  rise : R.left.Pairwise fun a b => a.1 < b.1
  turns : ∀ (k : Nat) (e : Ev), R.log[k]? = some e → R.rdy[k]? = some (R.alive k).length ∧ e.thr = pickOf picks ((R.log.take k).map (·.thr)) (R.alive k) ∧ e.thr ∈ R.alive k
  how : (R.e = 1 ∧ R.left = []) ∨ (R.e = 2 ∧ R.left ≠ [] ∧ R.log.length = R.most)
def leftE (ns : List Nat) (v : Nat → Int) (q : Nat × Rq) : List Value := accL q.1 q.2.op (if q.2.b ∈ ns then (ns.idxOf q.2.b : Int) else -1) q.2.arg q.2.new (v q.2.b) (v q.2.b) false
structure RdS (h : Hp) (s : Value) (vs : List Value) : Prop where
  val : ∃ a k, s = .slice a vs.length k
  cell : ∀ i v, vs[i]? = some v → ∃ b o k, s = .slice (some ⟨b, o, none⟩) vs.length k ∧ TJ.hcell h ⟨b, o + i * 1, none⟩ = some v
theorem RdS.lt {h : Hp} {s : Value} {vs : List Value} (x : RdS h s vs) (hn : vs ≠ []) : ∀ b, blk s = some b → b < h.size := by
  intro b hb
  cases vs with
  | nil => exact absurd rfl hn
  | cons v vs =>
    obtain ⟨b', o, k, e, hc⟩ := x.cell 0 v rfl
    rw [e] at hb
    cases hb
    obtain ⟨c, e', f, h1, -⟩ := hcell_some hc
    exact lt_of_get h1
theorem RdS.upd {h h' : Hp} {s : Value} {vs : List Value} (x : RdS h s vs) {T : Nat → Prop} (u : Upd T h h') (hT : vs ≠ [] → ∀ b, blk s = some b → ¬ T b) : RdS h' s vs := by
  refine ⟨x.val, fun i v hv => ?_⟩
  obtain ⟨b, o, k, e, hc⟩ := x.cell i v hv
  refine ⟨b, o, k, e, u.hcell hc (hT (fun y => by rw [y] at hv; cases hv) b (by rw [e]; rfl))⟩
structure RecM (R : Rec) (picks : List Int) (lL lW lY lV sP : Value) (h : Hp) : Prop where
  log : SliceO h lL 75 8 R.log.length (R.log.flatMap (entL (nums R.log)))
  went : SliceO h lW 3 1 (R.log.map (·.thr)).length ((R.log.map (·.thr)).map fun (n : Nat) => Value.int .i64 (n : Int))
  rdy : SliceO h lY 3 1 R.rdy.length (R.rdy.map fun (n : Nat) => Value.int .i64 (n : Int))
  left : SliceO h lV 75 8 R.left.length (R.left.flatMap (leftE (nums R.log) R.val))
  picks : RdS h sP (picks.map fun x => .int .i64 x)
theorem RecM.upd {R : Rec} {picks : List Int} {lL lW lY lV sP : Value} {h h' : Hp} (m : RecM R picks lL lW lY lV sP h) (u : Upd (fun _ => False) h h') : RecM R picks lL lW lY lV sP h' :=
  ⟨m.log.upd u (fun _ _ x => x), m.went.upd u (fun _ _ x => x), m.rdy.upd u (fun _ _ x => x), m.left.upd u (fun _ _ x => x), m.picks.upd u (fun _ _ _ x => x)⟩
def rqOf : Ph → Rq
  | .stands r => r
  | _ => ⟨0, 0, 0, 0⟩
def recOf {U : Type} (p : PS U) (v0 : Nat → Int) (nb most : Nat) (e : Int) : Rec := ⟨nb, most, e, p.log, p.rdy, (p.live nb).map fun j => (j, rqOf (p.st j)), v0, p.val⟩
theorem recOf_alive {U : Type} {p : PS U} {v0 : Nat → Int} {nb most : Nat} {e : Int} (hn : p.num = nb) (k : Nat) : (recOf p v0 nb most e).alive k = aliveAt p k := by
  unfold Rec.alive aliveAt recOf
  rw [hn]
  refine List.filter_congr fun j hj => ?_
  have hj' : j < nb := List.mem_range.1 hj
  have : (List.map (fun j => (j, rqOf (p.st j))) (p.live nb)).any (fun q => q.1 == j) = !p.gone j := by
    rw [List.any_map]
    cases hg : p.gone j
    · refine List.any_eq_true.2 ⟨j, mem_live.2 ⟨hj', hg⟩, by simp⟩
    · refine List.any_eq_false.2 fun x hx => ?_
      obtain ⟨_, hx2⟩ := mem_live.1 hx
      have : x ≠ j := fun e => by rw [e, hg] at hx2; cases hx2
      simpa using this
  dsimp only
  rw [this]
theorem Ended.record {X : Us} {v0 : Nat → Int} {picks : List Int} {nb most : Nat} {p : PS X.U} {e : Int} {lL lW lY lV _sP : Value} {h : Hp} (E : Ended X v0 picks nb most p e lL lW lY lV h) (hnb : nb ≤ 64) (hm : most ≤ 65536) : RecOk X picks (recOf p v0 nb most e) := by
  have rg := E.reg
  have hlen : p.log.length ≤ most := by
    rcases E.how with ⟨-, -, h⟩ | ⟨-, -, h⟩
    · exact h
    · exact Nat.le_of_eq h
  have st : ∀ j, j < nb → p.gone j = false → ∃ r, p.st j = .stands r ∧ RqOk X r := fun j hj hg => by
    rcases rg.alive j hj with ⟨_, r, h1, h2⟩ | ⟨h1, _⟩
    · exact ⟨r, h1, h2⟩
    · rw [hg] at h1; cases h1
  refine ⟨hnb, hm, hlen, rg.rdy, rg.chain, fun q hq => ?_, ?_, fun k ev hk => ?_, ?_⟩
  · obtain ⟨j, hj, rfl⟩ := List.mem_map.1 hq
    obtain ⟨h1, h2⟩ := mem_live.1 hj
    obtain ⟨r, h3, h4⟩ := st j h1 h2
    exact ⟨h1, by show RqOk X (rqOf (p.st j)); rw [h3]; exact h4⟩
  · show (List.map _ (p.live nb)).Pairwise _
    rw [List.pairwise_map]
    unfold PS.live
    exact List.Pairwise.filter _ List.pairwise_lt_range
  · rw [recOf_alive rg.num]
    exact rg.turns k ev hk
  · rcases E.how with ⟨h1, h2, -⟩ | ⟨h1, h2, h3⟩
    · exact .inl ⟨h1, by show List.map _ (p.live nb) = []; rw [h2]; rfl⟩
    · exact .inr ⟨h1, fun e => h2 (List.map_eq_nil_iff.1 e), h3⟩
theorem Ended.mem {X : Us} {v0 : Nat → Int} {picks : List Int} {nb most : Nat} {p : PS X.U} {e : Int} {lL lW lY lV sP : Value} {h : Hp} (E : Ended X v0 picks nb most p e lL lW lY lV h) (hP : RdS h sP (picks.map fun x => .int .i64 x)) : RecM (recOf p v0 nb most e) picks lL lW lY lV sP h := by
  have rg := E.reg
  refine ⟨E.log, by have := E.went; rw [rg.went] at this; exact this, E.rdy, ?_, hP⟩
  have e1 : (p.live nb).flatMap (leftL p (nums p.log)) = ((p.live nb).map fun j => (j, rqOf (p.st j))).flatMap (leftE (nums p.log) p.val) := by
    rw [List.flatMap_map]
    have : ∀ l : List Nat, (∀ j, j ∈ l → j ∈ p.live nb) → l.flatMap (leftL p (nums p.log)) = l.flatMap fun a => leftE (nums p.log) p.val (a, rqOf (p.st a)) := fun l => by
      induction l with
      | nil => intro _; rfl
      | cons j l ih =>
        intro hl
        obtain ⟨h1, h2⟩ := mem_live.1 (hl j (by simp))
        have : ∃ r, p.st j = .stands r := by
          rcases rg.alive j h1 with ⟨_, r, h1, _⟩ | ⟨h1, _⟩
          · exact ⟨r, h1⟩
          · rw [h2] at h1; cases h1
        obtain ⟨r, hr⟩ := this
        rw [List.flatMap_cons, List.flatMap_cons, ih (fun x hx => hl x (by simp [hx]))]
        congr 1
        unfold leftL leftE
        rw [hr]
        rfl
    exact this _ fun _ x => x
  have := E.left
  rw [e1] at this
  show SliceO h lV _ 8 ((p.live nb).map fun j => (j, rqOf (p.st j))).length _
  rw [List.length_map]
  exact this
theorem flat_at {α : Type} {c : Nat} {f : α → List Value} (hf : ∀ a, (f a).length = c) : ∀ {l : List α} {k : Nat} {a : α}, l[k]? = some a → ∀ j, j < c → (l.flatMap f)[k * c + j]? = (f a)[j]?
  | [], _, _, h, _, _ => by cases h
  | x :: l, 0, a, h, j, hj => by
    obtain rfl : x = a := by simpa using h
    rw [List.flatMap_cons, Nat.zero_mul, Nat.zero_add, List.getElem?_append_left (by rw [hf]; exact hj)]
  | x :: l, k + 1, a, h, j, hj => by
    rw [List.flatMap_cons, List.getElem?_append_right (by rw [hf, Nat.succ_mul]; omega), hf, show (k + 1) * c + j - c = k * c + j by rw [Nat.succ_mul]; omega]
    exact flat_at hf (by simpa using h) j hj
theorem slice_row {h : Hp} {a : Option Addr} {n cap e c : Nat} {α : Type} {f : α → List Value} (hf : ∀ a, (f a).length = c) {l : List α} (x : SliceO h (.slice a n cap) e c l.length (l.flatMap f)) {k : Nat} {q : α} (hk : l[k]? = some q) :
    ∃ b, a = some ⟨b, 0, none⟩ ∧ hrow h b (0 + k * c) (f q) ∧ ∀ o, hfroz h ⟨b, o, none⟩ = false := by
  obtain ⟨_, _, hlt⟩ := take_mid hk
  obtain ⟨b, cap', e1, hc, hz⟩ := x.cell (by omega)
  injection e1 with e1 _ _
  refine ⟨b, e1, fun j v hv => ?_, hz⟩
  have hj : j < c := by
    rcases Nat.lt_or_ge j c with y | y
    · exact y
    · rw [List.getElem?_eq_none (by rw [hf]; exact y)] at hv; cases hv
  rw [Nat.zero_add]
  exact hc _ _ ((flat_at hf hk j hj).trans hv)
theorem slice_at {h : Hp} {a : Option Addr} {n cap e : Nat} {α : Type} {f : α → Value} {l : List α} (x : SliceO h (.slice a n cap) e 1 l.length (l.map f)) {k : Nat} {q : α} (hk : l[k]? = some q) :
    ∃ b, a = some ⟨b, 0, none⟩ ∧ hcell h ⟨b, 0 + k * 1, none⟩ = some (f q) ∧ ∀ o, hfroz h ⟨b, o, none⟩ = false := by
  obtain ⟨_, _, hlt⟩ := take_mid hk
  obtain ⟨b, cap', e1, hc, hz⟩ := x.cell (by omega)
  injection e1 with e1 _ _
  refine ⟨b, e1, ?_, hz⟩
  rw [Nat.zero_add, Nat.mul_one]
  exact hc _ _ (by rw [List.getElem?_map, hk]; rfl)
theorem entL_len (ns : List Nat) (e : Ev) : (entL ns e).length = 8 := rfl
theorem leftE_len (ns : List Nat) (v : Nat → Int) (q : Nat × Rq) : (leftE ns v q).length = 8 := rfl
abbrev chkL (e : Int) (n : Nat) (lL lW lY lV sP : Value) (most : Nat) (tv cv : Value) (last : Int) : List Value := [.int .i8 e, .int .i64 n, lL, lW, lY, lV, nilS, sP, .int .i64 most, tv, cv, .int .i64 last]
abbrev chkO (e : Int) (n : Nat) (lL lW lY lV sP : Value) (most : Nat) (tv cv : Value) (last : Int) : Obj := .cells (chkL e n lL lW lY lV sP most tv cv last).toArray 208 (0, 0)
end Go.Proofs.Ytcpcdnkemobneaa
end
section
namespace Go.Proofs.Ytcpcdnkemobneaa
open Go Go.TJ Go.Conc Go.Proofs
abbrev GCall := Int × Int
abbrev GAns := Int × Bool × Int × Int
def gansL (a : GAns) : List Value := [.int .i64 a.1, .bool a.2.1, .int .i8 a.2.2.1, .int .i64 a.2.2.2]
def gcallL (q : GCall) : List Value := [.int .i64 q.1, .int .i64 q.2]
abbrev zA : GAns := (0, false, 0, 0)
abbrev gansO (a : GAns) : Obj := .cells (gansL a).toArray 85 (0, 0)
def scriptG (cl : GCall → (GAns → Pr GAns) → Pr GAns) : List GCall → Pr GAns
  | [] => .done
  | q :: l => cl q fun a => .emit a (scriptG cl l)
theorem eaiCallP {Γ : Type} {P : Program} {main : Bool} {S : Sit Γ} {f : FuncId} {n : Nat} {k : List Item} {env : Env} {h : Hp} {δ : Ix Γ} {R : Post Γ} {ops : Array Oper} {Z : Hp → Prop} {z m : Nat} {listed l' : Array Bool} {d : Nat} {ty : TypeId} {pos : String} {af : Array Edge} {g : Option (Nat × Bool)} {i : Nat} {x : Operand} {args : Array Operand} {ats : Array TypeId} {fn : Func} [hf : IsFn P f fn] {c : FuncId} {cap ws : Array Value} {vs : List Value} [HasBody P c] {Q : Value → Hp → Ix Γ → Prop} {Y : List PanicEntry → Hp → Ix Γ → Prop}
    (hi : ops[i]? = some ⟨some d, .call { callee := .value x, args, argTypes := ats }, ty, pos, af, g⟩) (hl : listed.setIfInBounds i true = l') (hd : Nat.blt d n = true) (hw : wantE ops env g = some true) (hx : ev env x = some (.func (.func c) #[] cap)) (ha : evL env args.toList = some vs) (hws : vs.toArray ++ cap = ws)
    (hc : CallW P main S c ws h δ (RetP Q Y)) (hY : ∀ p h' δ', Y p h' δ' → R (.pan p) h' δ') (hn : ∀ v h' δ', Q v h' δ' → Z h' ∧ EA P main S f n ops Z z m l' k ((d, v) :: env) [] h' δ' R) : EAi P main S f n ops Z z m listed k env [] h δ R i := by
  subst hl
  intro a ka
  unfold OpK
  simp only [hi]
  rw [if_pos (wantE_ok ka (o := ⟨some d, .call { callee := .value x, args, argTypes := ats }, ty, pos, af, g⟩) hw), ka.defers]
  subst hws
  refine semW_call rfl (ka.eval hx) (map_ofL (fun x v hx => ka.eval hx) ha) (hc.mono ?_)
  rintro (v | p) h' δ' hq
  · exact ⟨.inr (hn v h' δ' hq).1, (hn v h' δ' hq).2 _ (ka.put v hd)⟩
  · exact fun a' ha' => WU.pan0 (ha'.trans ka.defers) hf.out (hY _ _ _ hq)
theorem eaiCallR {Γ : Type} {P : Program} {main : Bool} {S : Sit Γ} {f : FuncId} {n : Nat} {k : List Item} {env : Env} {ds : List Deferred} {h : Hp} {δ : Ix Γ} {R : Post Γ} {ops : Array Oper} {Z : Hp → Prop} {z m : Nat} {listed l' : Array Bool} {d : Nat} {ty : TypeId} {pos : String} {af : Array Edge} {g : Option (Nat × Bool)} {i : Nat} {x : Operand} {args : Array Operand} {ats : Array TypeId} {c : FuncId} {cap ws : Array Value} {vs : List Value} [HasBody P c] {Q : Value → Hp → Ix Γ → Prop}
    (hi : ops[i]? = some ⟨some d, .call { callee := .value x, args, argTypes := ats }, ty, pos, af, g⟩) (hl : listed.setIfInBounds i true = l') (hd : Nat.blt d n = true) (hw : wantE ops env g = some true) (hx : ev env x = some (.func (.func c) #[] cap)) (ha : evL env args.toList = some vs) (hws : vs.toArray ++ cap = ws)
    (hc : CallW P main S c ws h δ (Ret Q)) (hn : ∀ v h' δ', Q v h' δ' → Z h' ∧ EA P main S f n ops Z z m l' k ((d, v) :: env) ds h' δ' R) : EAi P main S f n ops Z z m listed k env ds h δ R i := by
  subst hl
  intro a ka
  unfold OpK
  simp only [hi]
  rw [if_pos (wantE_ok ka (o := ⟨some d, .call { callee := .value x, args, argTypes := ats }, ty, pos, af, g⟩) hw)]
  subst hws
  refine semW_call rfl (ka.eval hx) (map_ofL (fun x v hx => ka.eval hx) ha) (hc.mono ?_)
  rintro (v | p) h' δ' hq
  · exact ⟨.inr (hn v h' δ' hq).1, (hn v h' δ' hq).2 _ (ka.put v hd)⟩
  · exact hq.elim
structure ScrM (base : Nat) (h : Hp) (scv : Value) (sc : List (List GCall)) : Prop where
  val : ∃ a k, scv = .slice a sc.length k
  big : sc.length ≤ 1000000000000000 ∧ ∀ l, l ∈ sc → l.length ≤ 1000000000000000
  row : ∀ i l, sc[i]? = some l → ∃ b o k a' k', scv = .slice (some ⟨b, o, none⟩) sc.length k ∧ b < base ∧ TJ.hcell h ⟨b, o + i * 1, none⟩ = some (.slice a' l.length k') ∧
    ∀ j q, l[j]? = some q → ∃ b' o', a' = some ⟨b', o', none⟩ ∧ b' < base ∧ TJ.hrow h b' (o' + j * 2) (gcallL q)
theorem hcell_same {h h' : Hp} {a : Addr} {v : Value} (hc : TJ.hcell h a = some v) (hb : h'[a.block]? = h[a.block]?) : TJ.hcell h' a = some v := by
  unfold TJ.hcell at hc ⊢
  rw [hb]; exact hc
theorem ScrM.low {base : Nat} {h h' : Hp} {scv : Value} {sc : List (List GCall)} (x : ScrM base h scv sc) (hb : ∀ b, b < base → h'[b]? = h[b]?) : ScrM base h' scv sc := by
  refine ⟨x.val, x.big, fun i l hl => ?_⟩
  obtain ⟨b, o, k, a', k', e1, e2, e3, e4⟩ := x.row i l hl
  refine ⟨b, o, k, a', k', e1, e2, hcell_same e3 (hb _ e2), fun j q hq => ?_⟩
  obtain ⟨b', o', f1, f2, f3⟩ := e4 j q hq
  exact ⟨b', o', f1, f2, fun j v hv => hcell_same (f3 j v hv) (hb _ f2)⟩
structure SEnv (c : TC GAns) (M : Hp → Prop) (o : Nat) (cl : GCall → (GAns → Pr GAns) → Pr GAns) (base : Nat) (sc : List (List GCall)) (pB sB S0 : Nat) (n0 fr bs : Int) (scv pv : Value) : Prop where
  T : c.old c.T
  K : CodX (UsT c) c.P (fun u i => (u i).1) M
  low : ∀ b, b < base → c.old b ∧ b ≠ c.T
  p : c.old pB ∧ pB ≠ c.T ∧ c.hN[pB]? = some (.cells #[.int .i64 n0, .int .i64 fr, .int .i64 bs, scv, pv] 80 (0, 0))
  s : c.old sB ∧ sB ≠ c.T ∧ c.hN[sB]? = some (.cells #[ptr S0] 81 (0, 0))
  st : c.old S0 ∧ S0 ≠ c.T ∧ c.hN[S0]? = some (.cells #[ptr o, .slice (some ⟨c.T, 0, none⟩) c.n c.n] 92 (0, 0))
  scr : ScrM base c.hN scv sc
  len : sc.length = c.n
  P : ∀ i q, sc[i]? = some q → c.P i = scriptG cl q
  small : ∀ l, l ∈ sc → l.length ≤ 400
  ty : c.e = 85 ∧ c.tS = 88 ∧ c.sz = 4 ∧ c.enc = gansL
structure SNow (c : TC GAns) (o base : Nat) (sc : List (List GCall)) (pB sB S0 : Nat) (n0 fr bs : Int) (scv pv : Value) (h : Hp) : Prop where
  p : h[pB]? = some (.cells #[.int .i64 n0, .int .i64 fr, .int .i64 bs, scv, pv] 80 (0, 0))
  s : h[sB]? = some (.cells #[ptr S0] 81 (0, 0))
  st : h[S0]? = some (.cells #[ptr o, .slice (some ⟨c.T, 0, none⟩) c.n c.n] 92 (0, 0))
  scr : ScrM base h scv sc
theorem SEnv.now {c : TC GAns} {M : Hp → Prop} {o : Nat} {cl : GCall → (GAns → Pr GAns) → Pr GAns} {base : Nat} {sc : List (List GCall)} {pB sB S0 : Nat} {n0 fr bs : Int} {scv pv : Value} (E : SEnv c M o cl base sc pB sB S0 n0 fr bs scv pv) {u : Nat → List GAns × Value} {h : Hp} (I : ToldI c u h) : SNow c o base sc pB sB S0 n0 fr bs scv pv h :=
  ⟨(I.old _ E.p.1 E.p.2.1).trans E.p.2.2, (I.old _ E.s.1 E.s.2.1).trans E.s.2.2, (I.old _ E.st.1 E.st.2.1).trans E.st.2.2, E.scr.low fun b hb => I.old b (E.low b hb).1 (E.low b hb).2⟩
end Go.Proofs.Ytcpcdnkemobneaa
end
section
namespace Go.Proofs.Ytcpcdnkemobneaa
open Go Go.TJ Go.Conc Go.Proofs
theorem drop_at {α : Type} {l : List α} {j : Nat} {a : α} (h : l[j]? = some a) : l.drop j = a :: l.drop (j + 1) := by
  obtain ⟨h1, h2⟩ := List.getElem?_eq_some_iff.1 h
  rw [List.drop_eq_getElem_cons h1, h2]
section
variable {c : TC GAns} {M : Hp → Prop} {o0 : Nat} {cl : GCall → (GAns → Pr GAns) → Pr GAns} {base : Nat} {sc : List (List GCall)} {pB sB S0 : Nat} {n0 fr bs : Int} {scv pv : Value}
def CallOk (c : TC GAns) (o0 S0 : Nat) (cl : GCall → (GAns → Pr GAns) → Pr GAns) : Prop := ∀ {i : Nat} {γ : GG (UsT c)} {u : (UsT c).U} {L : List (Nat × Obj)} {h : Hp} {q : GCall} {k : GAns → Pr GAns} {t : Nat},
  (∀ u h, (UsT c).I u h → hcell h ⟨S0, 0, none⟩ = some (ptr o0)) → AtP (UsT c) c.P (fun u i => (u i).1) i γ u L h (cl q k) → t = γ.p.tb i →
    CallW Try.prog false (SitT Try.prog (PX (UsT c)) (i + 1)) 35 #[ptr S0, ptr t, .agg (gcallL q).toArray] h ⟨0, γ⟩ (RetP (fun w h' δ' => ∃ (γ' : GG (UsT c)) (u' : (UsT c).U) (e : GAns), δ' = ⟨0, γ'⟩ ∧ w = .agg (gansL e).toArray ∧ CallP (UsT c) c.P (fun u i => (u i).1) i γ u L γ' u' h' (k e)) (Halt (UsT c) i γ.p))
set_option maxRecDepth 8000 in
set_option maxHeartbeats 16000000 in
theorem sbody_ok (E : SEnv c M o0 cl base sc pB sB S0 n0 fr bs scv pv) (hcall : CallOk c o0 S0 cl) {i iB : Nat} (hiB : c.old iB ∧ iB ≠ c.T ∧ c.hN[iB]? = some (.cells #[.int .i64 i] 3 (0, 0))) {q : List GCall} (hq : sc[i]? = some q) : Body (UsT c) i 34 #[ptr pB, ptr iB, ptr sB] := by
  intro h γ T hb ho
  have hX := usT_ok E.T
  obtain ⟨b, o, k, a', k', e1, e2, e3, e4⟩ := E.scr.row i q hq
  subst e1
  have hil := (take_mid hq).2.2
  have hin : i < c.n := by rw [← E.len]; exact hil
  have hbig := E.scr.big.1
  have hqb := E.scr.big.2 q (List.mem_of_getElem? hq)
  have hS : ∀ (u : (UsT c).U) (h : Hp), (UsT c).I u h → hcell h ⟨S0, 0, none⟩ = some (ptr o0) := fun u h I => hcell_of (E.now I).st rfl
  have ht : (γ.p.u i).1 = [] := by
    obtain ⟨p, -, hp⟩ := T.Q i
    rw [hb] at hp
    exact hp
  have a0 : AtP (UsT c) c.P (fun u i => (u i).1) i γ γ.p.u [] h (scriptG cl (q.drop 0)) := ⟨T, by
    have := Res.born E.K.prog T hb ho ht
    rw [E.P i q hq] at this
    exact this⟩
  refine CallW.start (n := 44) rfl rfl ?_
  (repeat (first | refine EK.seq ?_ | refine EK.region ?_ | refine ER.done ?_ | refine EK.block ?_ | refine ER.assign rfl rfl rfl ?_))
  refine EK.loopInv (fun s : Nat × GG (UsT c) × (UsT c).U => [(5, .int .i64 s.1), (0, ptr (γ.p.tb i)), (1, ptr pB), (2, ptr iB), (3, ptr sB)]) (fun s h' δ' => δ' = ⟨0, s.2.1⟩ ∧ s.1 ≤ q.length ∧ AtP (UsT c) c.P (fun u i => (u i).1) i s.2.1 s.2.2 [] h' (scriptG cl (q.drop s.1)) ∧ Along (UsT c) i γ.p s.2.1.p ∧ (s.2.2 i).1.length = s.1) (fun s => q.length - s.1) (0, γ, γ.p.u) ⟨rfl, rfl, rfl, rfl, rfl, trivial⟩ ⟨rfl, Nat.zero_le _, a0, Along.refl _ _, by dsimp only; rw [ht]; rfl⟩ ?_
  clear a0 T hb ho ht
  rintro ⟨j, γ1, u1⟩ h1 δ1 ⟨hδ, hj, a, al, htl⟩ again
  dsimp only at hδ hj a al htl again ⊢
  subst hδ
  have zall : ∀ (u : Nat → List GAns × Value) (h' : Hp), ToldI c u h' → hcell h' ⟨sB, 0, none⟩ = some (ptr S0) ∧ hcell h' ⟨pB, 3, none⟩ = some (.slice (some ⟨b, o, none⟩) sc.length k) ∧ hcell h' ⟨iB, 0, none⟩ = some (.int .i64 i) ∧ hcell h' ⟨b, o + i * 1, none⟩ = some (.slice a' q.length k') := fun u h' I =>
    ⟨hcell_of (E.now I).s rfl, hcell_of (E.now I).p rfl, hcell_of ((I.old _ hiB.1 hiB.2.1).trans hiB.2.2) rfl, hcell_same e3 (I.old b (E.low b e2).1 (E.low b e2).2)⟩
  have z1 := zall u1 h1 a.thr.I
  obtain ⟨q1, q2, q3, q4⟩ := z1
  by_cases hjn : j < q.length
  · obtain ⟨cj, hcj⟩ : ∃ cj, q[j]? = some cj := ⟨_, List.getElem?_eq_getElem hjn⟩
    obtain ⟨b', o', ea, f2, f3⟩ := e4 j cj hcj
    subst ea
    have zrow : ∀ (u : Nat → List GAns × Value) (h' : Hp), ToldI c u h' → TJ.hrow h' b' (o' + j * 2) (gcallL cj) := fun u h' I a v hv => hcell_same (f3 a v hv) (I.old b' (E.low b' f2).1 (E.low b' f2).2)
    have q5 := zrow u1 h1 a.thr.I
    rw [drop_at hcj] at a
    unfold scriptG at a
    (repeat (first | refine EK.seq ?_ | refine EK.region ?_ | refine ER.done ?_ | refine EK.skip ?_ | refine EK.block ?_ | refine ER.move rfl rfl rfl ?_ | refine ER.fieldAddr rfl rfl rfl ?_ | refine ER.cmpT rfl rfl rfl rfl rfl (by first | (dsimp only [cmpP]; omega) | exact rfl | exact Int.le_refl _) ?_ | refine ER.len1 rfl rfl rfl ?_ | refine ER.indexSl rfl rfl rfl rfl (by omega) (by omega) ?_ | refine EK.condT rfl ?_ | refine ER.load1 rfl rfl rfl (by assumption) ?_))
    refine EK.regionAnyM (fun s : Nat × GG (UsT c) × (UsT c).U × GAns => [(6, ptr s.1), (5, .int .i64 j), (0, ptr (γ.p.tb i)), (1, ptr pB), (2, ptr iB), (3, ptr sB)]) (fun s h' δ' => δ' = ⟨0, s.2.1⟩ ∧ CallP (UsT c) c.P (fun u i => (u i).1) i γ1 u1 [] s.2.1 s.2.2.1 h' (.emit s.2.2.2 (scriptG cl (q.drop (j + 1)))) ∧ h'[s.1]? = some (gansO s.2.2.2) ∧ ¬ (UsT c).Dom s.2.2.1 s.1) (fun h' => hcell h' ⟨sB, 0, none⟩ = some (ptr S0) ∧ hcell h' ⟨pB, 3, none⟩ = some (.slice (some ⟨b, o, none⟩) sc.length k) ∧ hcell h' ⟨iB, 0, none⟩ = some (.int .i64 i) ∧ hcell h' ⟨b, o + i * 1, none⟩ = some (.slice (some ⟨b', o', none⟩) q.length k') ∧ TJ.hrow h' b' (o' + j * 2) (gcallL cj)) 12 (fun key => ?_) ?_
    · have hZ : _ ∧ _ ∧ _ ∧ _ ∧ _ := And.intro q1 ⟨q2, q3, q4, q5⟩
      refine EA.tLoad 0 rfl (by kernel_rfl) rfl rfl rfl rfl (fun _ hz => hz.1) hZ ?_
      refine EA.tMove 1 rfl (by kernel_rfl) rfl rfl rfl rfl hZ ?_
      refine EA.tField 2 rfl (by kernel_rfl) rfl rfl rfl rfl hZ ?_
      refine EA.tLoad 3 rfl (by kernel_rfl) rfl rfl rfl rfl (fun _ hz => hz.2.1) hZ ?_
      refine EA.tLoad 4 rfl (by kernel_rfl) rfl rfl rfl rfl (fun _ hz => hz.2.2.1) hZ ?_
      refine EA.tIdxS 5 rfl (by kernel_rfl) rfl rfl rfl rfl rfl (by omega) (by omega) hZ ?_
      refine EA.tLoad 6 rfl (by kernel_rfl) rfl rfl rfl rfl (fun _ hz => hz.2.2.2.1) hZ ?_
      refine EA.tMove 7 rfl (by kernel_rfl) rfl rfl rfl rfl hZ ?_
      refine EA.tIdxS 8 rfl (by kernel_rfl) rfl rfl rfl rfl rfl (by omega) (by omega) hZ ?_
      refine EA.tLoadN (vs := gcallL cj) 9 rfl (by kernel_rfl) rfl rfl rfl rfl rfl (fun _ hz => hz.2.2.2.2) hZ ?_
      refine EA.alt2 10 11 (by kernel_rfl) ?_ ?_
      · refine eaiCallP (i := 10) rfl rfl rfl rfl rfl rfl rfl (hcall hS a al.tb.symm) (fun _ _ _ x => x.along al) ?_
        rintro _ h2 δ2 ⟨γ2, u2, ans, rfl, rfl, cp⟩
        have I2 : ToldI c u2 h2 := cp.at_.thr.I
        have z2 := zall u2 h2 I2
        refine ⟨⟨z2.1, z2.2.1, z2.2.2.1, z2.2.2.2, zrow u2 h2 I2⟩, ?_⟩
        have T3 := cp.at_.thr.alloc hX (gansO zA)
        have z3 := zall u2 _ T3.I
        refine EA.val (v := ptr h2.size) (h' := h2.push (gansO zA)) 11 rfl (by kernel_rfl) rfl rfl rfl (fun ρ Q X hρ hq => sem_allocA hq) ⟨z3.1, z3.2.1, z3.2.2.1, z3.2.2.2, zrow u2 _ T3.I⟩ ?_
        have g3 := (T3.privs.1 _ List.mem_cons_self).1
        have T4 := T3.priv1 (o := gansO ans) hX (fun q hq => by cases hq)
        refine EA.unitL (h' := (h2.push (gansO zA)).setIfInBounds h2.size (gansO ans)) 12 rfl (by kernel_rfl) rfl rfl rfl (fun ρ Q X hρ hq => sem_storeN (vs := gansL ans) (hρ _ _ rfl) (hρ _ _ rfl) rfl (by simp [gansL, OneCell]) (fun j hj => ⟨⟨_, hcell_of g3 (by simp only [List.getElem?_toArray]; rw [Nat.zero_add]; exact List.getElem?_eq_getElem (show j < (gansL zA).length from hj))⟩, hfroz_of g3, T3.free (.inr (.inr (.inl ⟨_, List.mem_cons_self, rfl⟩)))⟩) (by rw [row_set (c := gansL zA) (vs := gansL ans) g3 rfl]; exact hq)) ?_
        refine EA.done (by kernel_rfl) ?_
        exact EK.back (key (h2.size, γ2, u2, ans) _ _ ⟨rfl, ⟨cp.al, ⟨T4.sub hX (fun q hq => by cases hq), cp.at_.res⟩, cp.V⟩, (T4.privs.1 _ List.mem_cons_self).1, (T4.privs.1 _ List.mem_cons_self).2⟩) ⟨rfl, rfl, rfl, rfl, rfl, rfl, trivial⟩
      · have T2 := a.thr.alloc hX (gansO zA)
        have z2 := zall u1 _ T2.I
        refine EAi.val (i := 11) (v := ptr h1.size) (h' := h1.push (gansO zA)) rfl rfl rfl rfl (fun ρ Q X hρ hq => sem_allocA hq) ⟨z2.1, z2.2.1, z2.2.2.1, z2.2.2.2, zrow u1 _ T2.I⟩ ?_
        refine eaCallP 10 rfl (by kernel_rfl) rfl rfl rfl rfl rfl rfl (hcall hS ⟨T2, a.res⟩ al.tb.symm) (fun _ _ _ x => x.along al) ?_
        rintro _ h3 δ2 ⟨γ2, u2, ans, rfl, rfl, cp⟩
        have I3 : ToldI c u2 h3 := cp.at_.thr.I
        have z3 := zall u2 h3 I3
        refine ⟨⟨z3.1, z3.2.1, z3.2.2.1, z3.2.2.2, zrow u2 h3 I3⟩, ?_⟩
        have T3 := cp.at_.thr
        have g3 := (T3.privs.1 _ List.mem_cons_self).1
        have T4 := T3.priv1 (o := gansO ans) hX (fun q hq => by cases hq)
        refine EA.unitL (h' := h3.setIfInBounds h1.size (gansO ans)) 12 rfl (by kernel_rfl) rfl rfl rfl (fun ρ Q X hρ hq => sem_storeN (vs := gansL ans) (hρ _ _ rfl) (hρ _ _ rfl) rfl (by simp [gansL, OneCell]) (fun j hj => ⟨⟨_, hcell_of g3 (by simp only [List.getElem?_toArray]; rw [Nat.zero_add]; exact List.getElem?_eq_getElem (show j < (gansL zA).length from hj))⟩, hfroz_of g3, T3.free (.inr (.inr (.inl ⟨_, List.mem_cons_self, rfl⟩)))⟩) (by rw [row_set (c := gansL zA) (vs := gansL ans) g3 rfl]; exact hq)) ?_
        refine EA.done (by kernel_rfl) ?_
        exact EK.back (key (h1.size, γ2, u2, ans) _ _ ⟨rfl, ⟨cp.al, ⟨T4.sub hX (fun q hq => by cases hq), cp.at_.res⟩, cp.V⟩, (T4.privs.1 _ List.mem_cons_self).1, (T4.privs.1 _ List.mem_cons_self).2⟩) ⟨rfl, rfl, rfl, rfl, rfl, rfl, trivial⟩
    · clear q1 q2 q3 q4 q5 a
      rintro ⟨y, γ2, u2, ans⟩ h2 δ2 ⟨hδ, cp, gy, ny⟩
      dsimp only at hδ cp gy ny ⊢
      subst hδ
      have I2 : ToldI c u2 h2 := cp.at_.thr.I
      have al2 := al.trans cp.al
      have hV : u2 i = u1 i := cp.V
      have hq4 := E.small q (List.mem_of_getElem? hq)
      obtain ⟨eE, etS, esz, eenc⟩ := E.ty
      have inn := I2.inn i hin
      rw [eE, esz, eenc] at inn
      have hl2 : (u2 i).1.length = j := by rw [hV]; exact htl
      obtain ⟨aS, kS, eS⟩ := inn.val
      have zt : ∀ (h' : Hp), ToldI c u2 h' → hcell h' ⟨S0, 1, none⟩ = some (.slice (some ⟨c.T, 0, none⟩) c.n c.n) ∧ hcell h' ⟨c.T, 0 + i * 1, none⟩ = some (u2 i).2 := fun h' I => ⟨hcell_of (E.now I).st rfl, hcell_of I.out (by simp [hin])⟩
      have z2 := zall u2 h2 I2
      have t2 := zt h2 I2
      have ry : TJ.hrow h2 y 0 (gansL ans) := hrow_block (rest := []) (by rw [List.append_nil]; exact gy)
      skip
      refine EK.regionAnyL (fun h' => hcell h' ⟨sB, 0, none⟩ = some (ptr S0) ∧ hcell h' ⟨S0, 1, none⟩ = some (.slice (some ⟨c.T, 0, none⟩) c.n c.n) ∧ hcell h' ⟨iB, 0, none⟩ = some (.int .i64 i) ∧ hcell h' ⟨c.T, 0 + i * 1, none⟩ = some (u2 i).2 ∧ TJ.hrow h' y 0 (gansL ans)) 16 ?_
      have hZ : _ ∧ _ ∧ _ ∧ _ ∧ _ := And.intro z2.1 ⟨t2.1, z2.2.2.1, t2.2, ry⟩
      refine EA.tLoad 0 rfl (by kernel_rfl) rfl rfl rfl rfl (fun _ hz => hz.1) hZ ?_
      refine EA.tNil 1 rfl (by kernel_rfl) rfl rfl rfl rfl hZ ?_
      refine EA.tField 2 rfl (by kernel_rfl) rfl rfl rfl rfl hZ ?_
      refine EA.tLoad 3 rfl (by kernel_rfl) rfl rfl rfl rfl (fun _ hz => hz.2.1) hZ ?_
      refine EA.tLoad 4 rfl (by kernel_rfl) rfl rfl rfl rfl (fun _ hz => hz.2.2.1) hZ ?_
      refine EA.tLoad 5 rfl (by kernel_rfl) rfl rfl rfl rfl (fun _ hz => hz.1) hZ ?_
      refine EA.tNil 6 rfl (by kernel_rfl) rfl rfl rfl rfl hZ ?_
      refine EA.tField 7 rfl (by kernel_rfl) rfl rfl rfl rfl hZ ?_
      refine EA.tLoad 8 rfl (by kernel_rfl) rfl rfl rfl rfl (fun _ hz => hz.2.1) hZ ?_
      refine EA.tLoad 9 rfl (by kernel_rfl) rfl rfl rfl rfl (fun _ hz => hz.2.2.1) hZ ?_
      refine EA.tIdxS 10 rfl (by kernel_rfl) rfl rfl rfl rfl rfl (by omega) (by omega) hZ ?_
      refine EA.tLoad 11 rfl (by kernel_rfl) rfl rfl rfl rfl (fun _ hz => hz.2.2.2.1) hZ ?_
      refine EA.tLoadN (vs := gansL ans) 12 rfl (by kernel_rfl) rfl rfl rfl rfl rfl (fun _ hz => hz.2.2.2.2) hZ ?_
      have up := Upd.push (T := fun _ => False) h2 (.cells (gansL ans).toArray 85)
      have T3 := cp.at_.thr.upd0 hX up
      have I3 : ToldI c u2 (h2.push (.cells (gansL ans).toArray 85)) := T3.I
      have z3 := zall u2 _ I3
      have t3 := zt _ I3
      have hZ5 : _ ∧ _ ∧ _ ∧ _ ∧ _ := And.intro z3.1 ⟨t3.1, z3.2.2.1, t3.2, (fun j v hv => up.hcell (ry j v hv) (fun x => x) : TJ.hrow _ y 0 (gansL ans))⟩
      refine EA.val (v := .slice (some ⟨h2.size, 0, none⟩) 1 1) (h' := h2.push (.cells (gansL ans).toArray 85)) 13 rfl (by kernel_rfl) rfl rfl rfl (fun ρ Q X hρ hq => sem_slice1 (sz := 4) hρ rfl (by omega) (by omega) rfl rfl hq) hZ5 ?_
      have inn3 := I3.inn i hin
      rw [eE, esz, eenc] at inn3
      refine EA.append1 (new := gansL ans) 14 rfl (by kernel_rfl) rfl rfl rfl rfl rfl inn3 (get_push_new _ _) rfl (by simp [gansL, OneCell]) (by omega) (by omega) rfl (fun b o hb => T3.free (.inl (.inr ⟨(I3.new i b hin hb).2, i, hin, hb⟩))) ?_
      generalize h2.push (.cells (gansL ans).toArray 85) = h3 at T3 I3 z3 t3 hZ5 inn3 ⊢
      intro s6 h4 sl6 u6 hb6
      have nOld : ∀ b, c.old b → ¬ blk (u2 i).2 = some b := fun b hb hx => (I3.new i b hin hx).1 hb
      have ny' : ¬ blk (u2 i).2 = some y := fun hx => ny (.inr ⟨(I3.new i y hin hx).2, i, hin, hx⟩)
      have hZ6 : _ ∧ _ ∧ _ ∧ _ ∧ _ := And.intro (u6.hcell hZ5.1 (nOld _ E.s.1)) ⟨u6.hcell hZ5.2.1 (nOld _ E.st.1), u6.hcell hZ5.2.2.1 (nOld _ hiB.1), u6.hcell hZ5.2.2.2.1 (nOld _ E.T), (fun j v hv => u6.hcell (hZ5.2.2.2.2 j v hv) ny' : TJ.hrow _ y 0 (gansL ans))⟩
      refine ⟨hZ6, ?_⟩
      obtain ⟨a4, k4, e4'⟩ := sl6.val
      have fT : hfroz h4 ⟨c.T, 0 + i * 1, none⟩ = false := hfroz_of (u6.get I3.out (nOld _ E.T))
      refine EA.val 15 rfl (by kernel_rfl) rfl rfl rfl (fun ρ Q X hρ hq => sem_indexSl (hρ _ _ rfl) (hρ _ _ rfl) (by omega) (by omega) hq) hZ6 ?_
      refine EA.unitL (h' := hset h4 ⟨c.T, 0 + i * 1, none⟩ s6) 16 rfl (by kernel_rfl) rfl rfl rfl (fun ρ Q X hρ hq => sem_store1 (hρ _ _ rfl) (hρ _ _ rfl) (by rw [e4']; exact ⟨nofun, nofun⟩) ⟨_, hZ6.2.2.2.1⟩ fT (T3.free (.inl (.inl E.T))) hq) ?_
      refine EA.done (by kernel_rfl) ?_
      have T5 := T3.tell E.T hin u6 (by rw [eE, esz, eenc]; exact sl6) (fun b hb => (hb6 b hb).imp id (fun e => Nat.le_of_eq e.symm))
      have e9 : (ut (u2 : Nat → List GAns × Value) i ((u2 i).1 ++ [ans], s6)) i = ((u2 i).1 ++ [ans], s6) := ut_same _ _ _
      (repeat (first | refine EK.region ?_ | refine ER.done ?_ | refine EK.inBlock ?_ | refine ER.move rfl rfl rfl ?_ | refine ER.assign rfl rfl rfl ?_ | refine ER.add (kd := .i64) rfl rfl rfl rfl (i64_in (by omega) (by omega)) ?_))
      refine EK.back (again (j + 1, γ2, ut u2 i ((u2 i).1 ++ [ans], s6)) _ _ (by dsimp only; omega) ⟨rfl, by dsimp only; omega, ⟨T5, ?_⟩, al2, ?_⟩) ⟨rfl, rfl, rfl, rfl, rfl, trivial⟩
      · exact (congrArg (fun z : List GAns × Value => Goes i (c.P i) (ownOf i (γ2.p.acc i).log) z.1 (scriptG cl (q.drop (j + 1)))) e9).mpr (Goes.tell cp.at_.res)
      · exact (congrArg (fun z : List GAns × Value => z.1.length) e9).trans (by simp [hl2])
  · obtain rfl : j = q.length := by omega
    clear again
    rw [List.drop_length] at a
    (repeat (first | refine EK.seq ?_ | refine EK.region ?_ | refine ER.done ?_ | refine ER.move rfl rfl rfl ?_ | refine ER.fieldAddr rfl rfl rfl ?_ | refine ER.cmpF rfl rfl rfl rfl rfl (by first | (dsimp only [cmpP]; omega) | exact rfl | exact Int.le_refl _) ?_ | refine ER.len1 rfl rfl rfl ?_ | refine ER.indexSl rfl rfl rfl rfl (by omega) (by omega) ?_ | refine EK.condF rfl ?_ | refine EK.exit rfl ?_ | refine ER.load1 rfl rfl rfl (by assumption) ?_))
    exact EK.done (EU.ret0 rfl ⟨γ1, u1, [], rfl, al, a.thr, Res.over E.K.prog a.res, E.K.j _ _ _⟩)
end
end Go.Proofs.Ytcpcdnkemobneaa
end
section
namespace Go.Proofs.Ytcpcdnkemobneaa
open Go Go.TJ Go.Conc Go.Proofs
structure Thg (Mm : Mem Nat) (cs : Nat → Prop) (v1 : Nat → Int) : Prop where
  ok : ∀ k, cs k → Mm.ok k
  cel : ∀ k, cs k → Mm.O k = cellO (v1 k)
  oth : ∀ k, Mm.ok k → ¬ cs k → ∃ a t, Mm.O k = .cells a t (0, 0) ∧ t ≠ 45 ∧ t ≠ 3 ∧ t ≠ 88
def isCG (Mm : Mem Nat) (cs : Nat → Prop) (b : Nat) : Prop := ∃ k, cs k ∧ b = Mm.B k
def thH (Mm : Mem Nat) (cs : Nat → Prop) (h : Hp) : Prop := ∀ k, Mm.ok k → ¬ cs k → h[Mm.B k]? = some (Mm.O k)
abbrev sfunV (pB sB b : Nat) : Value := .func (.func 34) #[] #[ptr pB, ptr b, ptr sB]
structure SPre (base : Nat) (Mm : Mem Nat) (cs : Nat → Prop) (v1 : Nat → Int) (o0 : Nat) (sc : List (List GCall)) (hN : Hp) (pB sB S0 T : Nat) (n0 fr bs : Int) (scv pv pv2 bv : Value) (iBs : List Nat) (picks : List Int) : Prop where
  rep : Rep hN Mm
  thg : Thg Mm cs v1
  lowB : ∀ k, Mm.ok k → base ≤ Mm.B k
  p : hN[pB]? = some (.cells #[.int .i64 n0, .int .i64 fr, .int .i64 bs, scv, pv] 80 (0, 0))
  s : hN[sB]? = some (.cells #[ptr S0] 81 (0, 0))
  st : hN[S0]? = some (.cells #[ptr o0, .slice (some ⟨T, 0, none⟩) sc.length sc.length] 92 (0, 0))
  t : hN[T]? = some (.cells (List.replicate sc.length nilS).toArray 88 (0, 0))
  tb : base ≤ T
  scr : ScrM base hN scv sc
  l8 : sc.length ≤ 8
  small : ∀ l, l ∈ sc → l.length ≤ 400
  bods : SliceO hN bv 45 1 sc.length (iBs.map fun b => sfunV pB sB b)
  nb : ∀ b, blk bv = some b → base ≤ b
  ib : iBs.length = sc.length
  ibx : ∀ (j b : Nat), iBs[j]? = some b → hN[b]? = some (.cells #[.int .i64 (j : Int)] 3 (0, 0)) ∧ blk pv2 ≠ some b
  pk : SliceO hN pv2 3 1 picks.length (picks.map fun x => .int .i64 x)
  np : ∀ b, blk pv2 = some b → base ≤ b
def tcG (Mm : Mem Nat) (cs : Nat → Prop) (cl : GCall → (GAns → Pr GAns) → Pr GAns) (sc : List (List GCall)) (hN : Hp) (T : Nat) (pv2 bv : Value) : TC GAns where
  n := sc.length
  hN := hN
  isC := isCG Mm cs
  ex := fun b => blk bv = some b ∨ blk pv2 = some b
  T := T
  tS := 88
  e := 85
  sz := 4
  enc := gansL
  J := fun _ _ _ => True
  P := fun i => scriptG cl (sc.getD i [])
section
variable {base : Nat} {Mm : Mem Nat} {cs : Nat → Prop} {v1 : Nat → Int} {o0 : Nat} {cl : GCall → (GAns → Pr GAns) → Pr GAns} {sc : List (List GCall)} {hN : Hp} {pB sB S0 T : Nat} {n0 fr bs : Int} {scv pv pv2 bv : Value} {iBs : List Nat} {picks : List Int}
theorem SPre.cell (x : SPre base Mm cs v1 o0 sc hN pB sB S0 T n0 fr bs scv pv pv2 bv iBs picks) {k : Nat} (hk : cs k) : hN[Mm.B k]? = some (cellO (v1 k)) := by
  rw [← x.thg.cel k hk]
  exact x.rep.has k (x.thg.ok k hk)
theorem SPre.notC (x : SPre base Mm cs v1 o0 sc hN pB sB S0 T n0 fr bs scv pv pv2 bv iBs picks) {y : Nat} {a : Array Value} {t : TypeId} (hy : hN[y]? = some (.cells a t (0, 0))) (ht : t ≠ 317) : ¬ isCG Mm cs y := by
  rintro ⟨k, hk, rfl⟩
  rw [x.cell hk] at hy
  injection hy with hy
  injection hy with _ hy _
  exact ht hy.symm
theorem SPre.old (x : SPre base Mm cs v1 o0 sc hN pB sB S0 T n0 fr bs scv pv pv2 bv iBs picks) {y : Nat} {a : Array Value} {t : TypeId} (hy : hN[y]? = some (.cells a t (0, 0))) (hn : ¬ isCG Mm cs y) (h1 : t ≠ 45) (h2 : t ≠ 3) : (tcG Mm cs cl sc hN T pv2 bv).old y :=
  ⟨lt_of_get hy, hn, fun e => e.elim (fun e => sliceO_ne x.bods hy (Ne.symm h1) y e rfl) (fun e => sliceO_ne x.pk hy (Ne.symm h2) y e rfl)⟩
theorem SPre.neT (x : SPre base Mm cs v1 o0 sc hN pB sB S0 T n0 fr bs scv pv pv2 bv iBs picks) {y : Nat} {a : Array Value} {t : TypeId} (hy : hN[y]? = some (.cells a t (0, 0))) (ht : t ≠ 88) : y ≠ T := fun e => by
  rw [e, x.t] at hy
  injection hy with hy
  injection hy with _ hy _
  exact ht hy.symm
theorem senv_of (x : SPre base Mm cs v1 o0 sc hN pB sB S0 T n0 fr bs scv pv pv2 bv iBs picks) (hb : base ≤ hN.size) : SEnv (tcG Mm cs cl sc hN T pv2 bv) (thH Mm cs) o0 cl base sc pB sB S0 n0 fr bs scv pv := by
  have hT : (tcG Mm cs cl sc hN T pv2 bv).old T := x.old x.t (x.notC x.t (by decide)) (by decide) (by decide)
  refine ⟨hT, ⟨usT_ok hT, usT_prog, fun u h I k hk hn => ?_, fun _ _ _ => trivial⟩, fun b hb' => ?_, ⟨x.old x.p (x.notC x.p (by decide)) (by decide) (by decide), x.neT x.p (by decide), x.p⟩, ⟨x.old x.s (x.notC x.s (by decide)) (by decide) (by decide), x.neT x.s (by decide), x.s⟩, ⟨x.old x.st (x.notC x.st (by decide)) (by decide) (by decide), x.neT x.st (by decide), x.st⟩, x.scr, rfl, fun i q hq => ?_, x.small, rfl, rfl, rfl, rfl⟩
  · have I' : ToldI (tcG Mm cs cl sc hN T pv2 bv) u h := I
    obtain ⟨a, t, e, t1, t2, t3⟩ := x.thg.oth k hk hn
    have hh := x.rep.has k hk
    rw [e] at hh ⊢
    refine (I'.old _ (x.old hh (fun ⟨k', hk', e'⟩ => hn ?_) t1 t2) (x.neT hh t3)).trans hh
    rw [x.rep.inj k k' hk (x.thg.ok k' hk') e']
    exact hk'
  · refine ⟨⟨Nat.lt_of_lt_of_le hb' hb, fun ⟨k, h1, e⟩ => by have := x.lowB k (x.thg.ok k h1); omega, fun e => e.elim (fun e => by have := x.nb b e; omega) (fun e => by have := x.np b e; omega)⟩, fun e => by have := x.tb; change b = T at e; omega⟩
  · show scriptG cl (sc.getD i []) = _
    rw [List.getD_eq_getElem?_getD, hq]; rfl
end
end Go.Proofs.Ytcpcdnkemobneaa
end
section
namespace Go.TJ
open Go Go.Conc
open Go.ConcN (sumTo upd sumTo_upd upd_ne upd_same)
def SwS (P : Program) : Sit Nat where
  still := fun _ _ => False
  yld g h δ Y := δ.d = 0 ∧ ∃ (Γ' : Type) (X : Proto Γ') (γ : Γ'), X.Ok ∧ X.num γ = δ.g ∧ δ.g = 1 ∧
    Runs P true (SitM P X) (fun g' h' δ' => δ'.d = 0 ∧ (∀ i, i ≠ 0 → i < X.num δ'.g → X.ch δ'.g i = none) ∧ Y g' h' ⟨0, X.num δ'.g⟩) g h ⟨0, γ⟩
theorem CallW.sw {P : Program} {Γ' : Type} {X : Proto Γ'} (hX : X.Ok) {γ : Γ'} (h1 : X.num γ = 1) {f : FuncId} {args : Array Value} {h : Hp} {R : Post Nat} (hc : CallW P true (SitM P X) f args h ⟨0, γ⟩ fun r h' δ' => δ'.d = 0 ∧ (∀ i, i ≠ 0 → i < X.num δ'.g → X.ch δ'.g i = none) ∧ R r h' ⟨0, X.num δ'.g⟩) : CallW P true (SwS P) f args h ⟨0, 1⟩ R := by
  intro kind hk cs
  refine .hands (fun g' h' δ' => Left P f kind cs R g' h' δ') (fun g' h' δ' y => .stop y) ⟨rfl, Γ', X, γ, hX, h1, rfl, (hc kind hk cs).mono ?_⟩
  rintro g' h' δ' ⟨a, todo, mode, fn, h1, h2, h3, ⟨h5, v, h6, h7, h8, h9⟩ | ⟨c, h5, h7, h8, h9⟩⟩
  · exact ⟨h7, h8, a, todo, mode, fn, h1, h2, h3, .inl ⟨h5, v, h6, h9⟩⟩
  · exact ⟨h7, h8, a, todo, mode, fn, h1, h2, h3, .inr ⟨c, h5, h9⟩⟩
def PN : Proto Nat where
  num n := n
  ch _ _ := none
  cells _ _ _ := none
  R _ _ _ := True
  Pass _ _ _ := True
section
variable {P : Program}
theorem lk_none {h : Nat} {n : Nat} {I : Nat → Option Wait} (hI : ∀ i, i ≠ h → I i = none) : Lk P PN h n I n :=
  ⟨rfl, fun i hi _ => (by rw [hI i hi]; rfl), fun i W hi e => (by rw [hI i hi] at e; cases e), fun i W hi _ e => (by rw [hI i hi] at e; cases e)⟩
theorem lk_end {Γ' : Type} {X : Proto Γ'} {γ : Γ'} {I : Nat → Option Wait} {T : Trace} {gs : Array Goroutine} {w : World} {q : Nat → Nat} (F : Fr P 0 I T gs w q) (L : Lk P X 0 γ I gs.size) (hch : ∀ i, i ≠ 0 → i < X.num γ → X.ch γ i = none) : ∀ i, i ≠ 0 → I i = none := fun i hi => by
  cases e : I i with
  | none => rfl
  | some V =>
    have hlt := F.room i hi (by rw [e]; rfl)
    have h1 := L.ch i hi hlt
    rw [hch i hi (by rw [L.num]; exact hlt), e] at h1
    cases h1
theorem company_sw {Stop : Goroutine → Hp → Ix Nat → Prop} {g : Goroutine} {hp : Hp} {δ : Ix Nat} (H : Runs P true (SwS P) Stop g hp δ) :
    ∀ {I : Nat → Option Wait} {T : Trace} {gs : Array Goroutine} {w : World} {q : Nat → Nat} {sl : Option (Nat × Nat)}, w.heap = hp → Fr P 0 I T gs w q → (∀ i, i ≠ 0 → I i = none) → gs.size = δ.g → gs[0]? = some g → Deaf T 0 = δ.d →
    ∃ (N : Nat) (gs' : Array Goroutine) (g' : Goroutine) (w' : World) (sl' : Option (Nat × Nat)) (T' : Trace) (q' : Nat → Nat) (δ' : Ix Nat) (I' : Nat → Option Wait),
      runNT P N (crowd gs w sl) T = (.next (crowd gs' w' sl'), T') ∧ gs'[0]? = some g' ∧ Fr P 0 I' T' gs' w' q' ∧ (∀ i, i ≠ 0 → I' i = none) ∧ Deaf T' 0 = δ'.d ∧ Same w w' ∧ Stop g' w'.heap δ' := by
  induction H with
  | stop hs =>
    intro I T gs w q sl hw F hI hn hg hd
    subst hw
    exact ⟨0, gs, _, w, sl, T, q, _, I, rfl, hg, F, hI, hd, Same.refl _, hs⟩
  | step Y _ hst ih =>
    intro I T gs w q sl hw F hI hn hg hd
    subst hw
    obtain ⟨N, gs', g', w', sl', T', q', δ', h1, h2, h3, h4, h5, h6, h7, h8⟩ := step_run (X := PN) (i := 0) (by rfl) (S := SwS P) (funext fun n => funext fun a => propext ⟨fun x => x.elim, fun ⟨j, _, _, x, _⟩ => by cases x⟩) (sl := sl) F (by rw [hn]; exact lk_none hI) hg hd hst
    obtain ⟨N₂, gs₂, g₂, w₂, sl₂, T₂, q₂, δ₂, I', k1, k3, k5, k6, k7, k8, k9⟩ := ih _ _ _ h8 (sl := sl') rfl h4 hI (by rw [h5, h2]; exact hn) h3 h6
    exact ⟨N + N₂, gs₂, g₂, w₂, sl₂, T₂, q₂, δ₂, I', runNT_then h1 k1, k3, k5, k6, k7, h7.trans k8, k9⟩
  | @hands g hp δ Y _ hY ih =>
    intro I T gs w q sl hw F hI hn hg hd
    subst hw
    obtain ⟨hd0, Γ', X, γ, hX, e1, e2, hrun⟩ := hY
    obtain ⟨N, gs', g', w', sl', T', q', δ', I', h1, h2, h3, h4, h5, h6, h7, h8, h9⟩ := company hX hrun (sl := sl) rfl F ⟨by rw [e1, hn], fun i hi hlt => by omega, fun i W hi e => (by rw [hI i hi] at e; cases e), fun i W hi _ e => (by rw [hI i hi] at e; cases e)⟩ hg (hd.trans hd0)
    obtain ⟨N₂, gs₂, g₂, w₂, sl₂, T₂, q₂, δ₂, I₂, k1, k3, k5, k6, k7, k8, k9⟩ := ih _ _ _ h9 (sl := sl') rfl h3 (lk_end h3 h4 h8) h4.num.symm h2 (h5.trans h7)
    exact ⟨N + N₂, gs₂, g₂, w₂, sl₂, T₂, q₂, δ₂, I₂, runNT_then h1 k1, k3, k5, k6, k7, h6.trans k8, k9⟩
theorem sw_run {f : FuncId} {args : Array Value} {W : World} {R : Value → Hp → Prop} (hini : P.inits.idxOf? f = none)
    (hc : CallW P true (SwS P) f args W.heap ⟨0, 1⟩ fun
      | .ret v, h', δ' => δ'.d = 0 ∧ R v h'
      | .pan _, _, _ => False) :
    ∃ M last o w' t', runNT P (M + 1) (solo (G (Frame.enter P f args .normal) []) W) #[] = (.ended o w', t') ∧ runN P M (solo (G (Frame.enter P f args .normal) []) W) = .next last ∧ step P last = .ended o w' ∧
      Conc.Good P (fun v W' => R v W'.heap ∧ Same W W') last o w' t' := by
  obtain ⟨N, gs, g', w, sl, T, q, δ, I, hr, hg, F, hI, hd, hs, a, todo, mode, fn, rfl, hda, hf, hend⟩ := company_sw (hc .normal (by simp) []) (sl := none) (w := W) rfl (fr_one P _ W) (fun i _ => rfl) rfl rfl rfl
  rcases hend with ⟨rfl, v, hv, hd0, hR⟩ | ⟨_, _, hp⟩
  · obtain ⟨N₂, gs₂, d, d', sl₂, sl₃, T₂, q₂, hr₂, hst, hsz, ha₂, F₂, hd₂⟩ := F.picked (sl := sl) hg rfl
    obtain ⟨es, hrun, hes⟩ := hv (w.at d') rfl
    have hend := stepG_last (w := w.at d') (todo := todo) hda hf hini hrun
    have hrt := runT_many_ended (P := P) (sl := sl₃) (i := 0) ha₂ hend
    have hops : ∀ op ∈ MemOp.ofEvents 0 f (G { (fb f .normal).at a todo with mode := .returning } []).frame.place (seen P f es), op.g = 0 := fun op hop => by obtain ⟨e, _, rfl⟩ := Go.Conc.mem_ofEvents hop; rfl
    have hTr : Tr 0 (loOf 0 I) (stOf I) (T₂ ++ MemOp.ofEvents 0 f (G { (fb f .normal).at a todo with mode := .returning } []).frame.place (seen P f es)) :=
      F₂.tr.own (fun x => x.1 rfl) hops fun op hop b hb g hg' hS => by
        have := hg'.2
        rw [hI g hg'.1] at this
        cases this
    refine ⟨N + N₂, _, .done v, w.at d', _, runNT_succ_end (runNT_then hr hr₂) (hst.trans hrt), runN_of_runNT _ _ _ _ _ (runNT_then hr hr₂), ?_, v, rfl, ⟨hR, hs.trans (same_at w d')⟩, hTr.clean, tr_over hTr hI, ⟨fun x hx => ?_, rfl⟩, fun j x hx hj => ?_⟩
    · rw [step, hst, hrt]
    · obtain ⟨j, hj⟩ := List.mem_iff_getElem?.1 hx
      rw [List.getElem?_drop] at hj
      have hid := F₂.idle (1 + j) x (by omega) (by simpa [crowd] using hj)
      rw [hI _ (by omega)] at hid
      exact ⟨_, hid.2.leaves⟩
    · have hid := F₂.idle j x hj hx
      rw [hI j hj] at hid
      refine ⟨q₂ j, ?_⟩
      have e : (T₂ ++ MemOp.ofEvents 0 f (G { (fb f .normal).at a todo with mode := .returning } []).frame.place (seen P f es)).deaf j (T₂ ++ MemOp.ofEvents 0 f (G { (fb f .normal).at a todo with mode := .returning } []).frame.place (seen P f es)).size = Deaf T₂ j :=
        Deaf_other T₂ (g := j) (g' := 0) (Ne.symm hj) _ hops
      rw [show (G { (fb f .normal).at a todo with mode := .returning } []).frame.fn = f from rfl, e]
      exact hid.2.hears _
  · exact hp.elim
end
end Go.TJ
end
section
namespace Go.Proofs.Ytcpcdnkemobneaa
open Go Go.TJ Go.Conc Go.Proofs
section
variable {base : Nat} {Mm : Mem Nat} {cs : Nat → Prop} {v1 : Nat → Int} {o0 : Nat} {cl : GCall → (GAns → Pr GAns) → Pr GAns} {sc : List (List GCall)} {hN : Hp} {pB sB S0 T : Nat} {n0 fr bs : Int} {scv pv pv2 bv : Value} {iBs : List Nat} {picks : List Int}
abbrev u0S : Nat → List GAns × Value := fun _ => ([], nilS)
set_option maxRecDepth 8000 in
set_option maxHeartbeats 4000000 in
theorem srun_ok (x : SPre base Mm cs v1 o0 sc hN pB sB S0 T n0 fr bs scv pv pv2 bv iBs picks) (hb : base ≤ hN.size) (hcall : CallOk (tcG Mm cs cl sc hN T pv2 bv) o0 S0 cl) {v0 : Nat → Int} (hv0 : ∀ k, cs k → v0 (Mm.B k) = v1 k) :
    CallW Try.prog true (SwS Try.prog) 17 #[pv2, .int .i64 16384, bv] hN ⟨0, 1⟩ (Ret fun v h' δ' => (∃ m, δ' = ⟨0, m⟩) ∧ ∃ (p : PS (UsT (tcG Mm cs cl sc hN T pv2 bv)).U) (e : Int) (lL lW lY lV : Value), v = .agg (repL e p.log.length lL lW lY lV).toArray ∧ Ended (UsT (tcG Mm cs cl sc hN T pv2 bv)) v0 picks sc.length 16384 p e lL lW lY lV h' ∧ Upd (fun b => (UsT (tcG Mm cs cl sc hN T pv2 bv)).isC b ∨ (UsT (tcG Mm cs cl sc hN T pv2 bv)).Dom u0S b) hN h') := by
  have E := senv_of (cl := cl) x hb
  have hX : (UsT (tcG Mm cs cl sc hN T pv2 bv)).Ok := E.K.ok
  have hnD : ∀ c, (UsT (tcG Mm cs cl sc hN T pv2 bv)).Dom u0S c → (tcG Mm cs cl sc hN T pv2 bv).old c := fun c hc => hc.elim id (fun ⟨_, i, _, e⟩ => by cases e)
  have lb : (iBs.map fun b => ((34, #[ptr pB, ptr b, ptr sB]) : FuncId × Array Value)).length = sc.length := by rw [List.length_map]; exact x.ib
  have hI0 : ToldI (tcG Mm cs cl sc hN T pv2 bv) u0S hN := by
    refine ⟨fun b _ _ => rfl, ?_, fun i hi => SliceO.nil, fun i b hi e => (by cases e), fun i j b hi hj e => (by cases e)⟩
    have := x.t
    show hN[T]? = some (.cells ((List.range sc.length).map fun i => nilS).toArray _ (0, 0))
    rw [this]
    congr 2
    rw [List.map_const', List.length_range]
  have hrun := runG (X := UsT (tcG Mm cs cl sc hN T pv2 bv)) (γ := ⟨psZ 0 0 v0 u0S, psZ 0 0 v0 u0S, hN, fun _ => False, 0⟩) (h := hN) hX (v0 := v0) (u0 := u0S) (picks := picks) (m := 16384) (bods := iBs.map fun b => (34, #[ptr pB, ptr b, ptr sB])) (sP := pv2) (sB := bv) rfl (by decide) (by decide)
    (fun b hb => by
      obtain ⟨k, hk, rfl⟩ := hb
      rw [hv0 k hk]; exact x.cell hk)
    (fun b hb => (hnD b hb).1) hI0 trivial (fun i => ⟨_, .nil _, rfl⟩) (by rw [lb]; have := x.l8; omega)
    (by rw [lb, List.map_map]; exact x.bods)
    (fun c hc => ⟨fun ⟨k, hk, e⟩ => sliceO_ne x.bods (x.cell hk) (by decide) c hc e, fun hd => (hnD c hd).2.2 (.inl hc)⟩)
    x.pk
    (fun c hc => ⟨fun ⟨k, hk, e⟩ => sliceO_ne x.pk (x.cell hk) (by decide) c hc e, fun hd => (hnD c hd).2.2 (.inr hc)⟩)
    (fun k q hq => by
      rw [List.getElem?_map] at hq
      obtain ⟨b, hb, rfl⟩ := Option.map_eq_some_iff.1 hq
      obtain ⟨r1, r2⟩ := x.ibx k b hb
      have hk : k < sc.length := by rw [← x.ib]; exact (take_mid hb).2.2
      obtain ⟨l, hl⟩ : ∃ l, sc[k]? = some l := ⟨_, List.getElem?_eq_getElem hk⟩
      exact ⟨inferInstance, sbody_ok E hcall ⟨⟨lt_of_get r1, x.notC r1 (by decide), fun e => e.elim (fun e => sliceO_ne x.bods r1 (by decide) b e rfl) r2⟩, x.neT r1 (by decide), r1⟩ hl⟩)
  refine CallW.sw (px_ok hX) rfl (hrun.mono ?_)
  rintro (v | ps) h' δ' y
  · obtain ⟨γ', p, e, lL, lW, lY, lV, rfl, h1, h2, h3, h4, h5⟩ := y
    rw [lb] at h4
    exact ⟨rfl, h2, ⟨_, rfl⟩, p, e, lL, lW, lY, lV, h3, h4, h5⟩
  · exact y.elim
end
end Go.Proofs.Ytcpcdnkemobneaa
end
section
namespace Go.Proofs.Ytcpcdnkemobneaa
open Go Go.TJ Go.Proofs
structure RowI (h0 : Hp) (E : Mem Nat) (T : Nat) (tT tE : TypeId) (c0 : Array Value) (q : Nat) (h : Hp) (M : Mem Nat) (i : Nat) (s : Value) : Prop where
  rep : Rep h M
  upd : Upd (fun _ => False) h0 h
  above : ∀ k, M.ok k → h0.size ≤ M.B k
  top : M.ok 0 ∧ M.O 0 = .cells (c0.setIfInBounds q s) tT (0, 0)
  topB : M.B 0 = T
  ext : ∀ k, k = 2 ∨ k = 3 → (M.ok k ↔ E.ok k) ∧ M.B k = E.B k ∧ M.O k = E.O k
  sl : M.Sl 1 s tE 1 i ((List.range i).map fun j => ptr (M.B (4 + j)))
  cells : ∀ j, j < i → M.ok (4 + j) ∧ M.O (4 + j) = cellO 0
  rest : ∀ j, i ≤ j → ¬ M.ok (4 + j)
theorem RowI.step {h0 : Hp} {E : Mem Nat} {T : Nat} {tT tE : TypeId} {c0 : Array Value} {q : Nat} {h : Hp} {M : Mem Nat} {i : Nat} {s s' : Value} {lit : Obj} {h5 : Hp} (x : RowI h0 E T tT tE c0 q h M i s)
    (hs : SliceO h5 s' tE 1 (i + 1) (((List.range i).map fun j => ptr (M.B (4 + j))) ++ [ptr h.size])) (u : Upd (fun b => blk s = some b) ((h.push (cellO 0)).push lit) h5) (hb : ∀ b, blk s' = some b → blk s = some b ∨ b = ((h.push (cellO 0)).push lit).size) :
    (∀ b, blk s = some b → b ≠ T) ∧ h5[T]? = some (.cells (c0.setIfInBounds q s) tT (0, 0)) ∧ ∃ M', RowI h0 E T tT tE c0 q (hset h5 ⟨T, q, none⟩ s') M' (i + 1) s' := by
  have r1 := x.rep.put (4 + i) (cellO 0)
  have r2 := r1.upd0 (Upd.push _ lit)
  have sl1 := (x.sl.put (j := 4 + i) (by omega) h.size (cellO 0))
  obtain ⟨b, o, r3, sl3, hb', hlt⟩ := r2.app sl1 hs u hb
  have hTs : ∀ b, blk s = some b → b ≠ T := fun b hb e => by
    obtain ⟨hk, e'⟩ := x.sl.blk hb
    have := x.rep.inj 1 0 hk x.top.1 (by rw [x.topB, ← e', e])
    cases this
  have t5 : h5[T]? = some (.cells (c0.setIfInBounds q s) tT (0, 0)) := u.get (get_push _ (get_push _ (x.topB ▸ x.rep.get x.top.1 x.top.2))) (fun y => hTs _ y rfl)
  refine ⟨hTs, t5, ?_⟩
  have hsz : h.size ≤ ((h.push (cellO 0)).push lit).size := by simp; omega
  have hab : h0.size ≤ b := by
    rcases hb' with ⟨hk, e⟩ | y
    · have hk' : M.ok 1 := by
        rcases hk with y | y
        · omega
        · exact y
      have := x.above 1 hk'
      rw [e]
      show h0.size ≤ ut M.B (4 + i) h.size 1
      rw [ut_ne _ _ (by omega)]
      exact this
    · have := x.upd.size; omega
  have okT : ((M.put (4 + i) h.size (cellO 0)).put 1 b o).ok 0 := .inr (.inr x.top.1)
  have oT : ((M.put (4 + i) h.size (cellO 0)).put 1 b o).O 0 = .cells (c0.setIfInBounds q s) tT (0, 0) := by
    show ut (ut M.O (4 + i) (cellO 0)) 1 o 0 = _
    rw [ut_ne _ _ (by omega), ut_ne _ _ (by omega)]; exact x.top.2
  have bT : ((M.put (4 + i) h.size (cellO 0)).put 1 b o).B 0 = T := by
    show ut (ut M.B (4 + i) h.size) 1 b 0 = _
    rw [ut_ne _ _ (by omega), ut_ne _ _ (by omega)]; exact x.topB
  have r4 := r3.hset okT oT q s'
  rw [bT] at r4
  have hge : ∀ b, blk s = some b → h0.size ≤ b := fun b hb => by
    obtain ⟨hk, e⟩ := x.sl.blk hb
    rw [e]; exact x.above _ hk
  have hT : h0.size ≤ T := x.topB ▸ x.above 0 x.top.1
  have e1 : (List.range (i + 1)).map (fun j => ptr (((M.put (4 + i) h.size (cellO 0)).put 1 b o).B (4 + j))) = ((List.range i).map fun j => ptr (M.B (4 + j))) ++ [ptr h.size] := by
    rw [List.range_succ, List.map_append]
    congr 1
    · refine List.map_congr_left fun j hj => ?_
      have hj := List.mem_range.mp hj
      show ptr (ut (ut M.B (4 + i) h.size) 1 b (4 + j)) = _
      rw [ut_ne _ _ (by omega), ut_ne _ _ (by omega)]
    · show [ptr (ut (ut M.B (4 + i) h.size) 1 b (4 + i))] = _
      rw [ut_ne _ _ (by omega), ut_same]
  refine ⟨_, r4, ((x.upd.trans ((Upd.push _ _).trans (Upd.push _ _))).over u hge).over (Upd.hset (T := fun b => b = T) _ _ _ rfl) (fun b hb => by omega), fun k hk => ?_, ⟨okT, ?_⟩, bT, fun k hk => ?_, ?_, fun j hj => ?_, fun j hj => ?_⟩
  · show h0.size ≤ ut (ut M.B (4 + i) h.size) 1 b k
    by_cases k1 : k = 1
    · subst k1; rw [ut_same]; exact hab
    · by_cases k2 : k = 4 + i
      · subst k2; rw [ut_ne _ _ k1, ut_same]; exact x.upd.size
      · rw [ut_ne _ _ k1, ut_ne _ _ k2]
        rcases hk with y | y | y
        · exact absurd y k1
        · exact absurd y k2
        · exact x.above k y
  · rw [Array.setIfInBounds_setIfInBounds]
    simp [Mem.set, ut]
  · have k0 : k ≠ 0 := by omega
    have k1 : k ≠ 1 := by omega
    have k2 : k ≠ 4 + i := by omega
    obtain ⟨a, b, c⟩ := x.ext k hk
    refine ⟨⟨fun y => a.1 ?_, fun y => .inr (.inr (a.2 y))⟩, ?_, ?_⟩
    · rcases y with y | y | y
      · exact absurd y k1
      · exact absurd y k2
      · exact y
    · show ut (ut M.B (4 + i) _) 1 _ k = _
      rw [ut_ne _ _ k1, ut_ne _ _ k2]; exact b
    · show ut (ut (ut M.O (4 + i) (cellO 0)) 1 o) 0 _ k = _
      rw [ut_ne _ _ k0, ut_ne _ _ k1, ut_ne _ _ k2]; exact c
  · show (Mem.set _ 0 _).Sl 1 s' tE 1 (i + 1) ((List.range (i + 1)).map (fun j => ptr (((M.put (4 + i) h.size (cellO 0)).put 1 b o).B (4 + j))))
    rw [e1]
    exact sl3.set (by omega) _
  · refine ⟨?_, ?_⟩
    · by_cases hji : j = i
      · subst hji; exact .inr (.inl rfl)
      · exact .inr (.inr (x.cells j (by omega)).1)
    · show ut (ut (ut M.O (4 + i) (cellO 0)) 1 o) 0 _ (4 + j) = _
      rw [ut_ne _ _ (by omega), ut_ne _ _ (by omega)]
      by_cases hji : j = i
      · subst hji; rw [ut_same]
      · rw [ut_ne _ _ (by omega)]; exact (x.cells j (by omega)).2
  · rintro (y | y | y)
    · omega
    · omega
    · exact x.rest j (by omega) y
theorem RowI.reads {h0 : Hp} {E : Mem Nat} {T : Nat} {tT tE : TypeId} {c0 : Array Value} {q : Nat} {h : Hp} {M : Mem Nat} {i : Nat} {s : Value} (x : RowI h0 E T tT tE c0 q h M i s) (hq : q < c0.size) : hcell h ⟨T, q, none⟩ = some s :=
  hcell_of (x.topB ▸ x.rep.get x.top.1 x.top.2) (by simp [hq])
end Go.Proofs.Ytcpcdnkemobneaa
end
