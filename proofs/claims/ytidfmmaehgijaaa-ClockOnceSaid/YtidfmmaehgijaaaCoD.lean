/- Steps of the walk and of the plain law (RunR to CoI). Conditions: as each lemma says. -/
import Derived.Test.YtidfmmaehgijaaaCoC
namespace Go.Proofs.Ytidfmmaehgijaaa
section
open Go Go.TJ Go.Conc Go.Proofs
theorem sliceO_ne {h : Hp} {s : Value} {e sz n : Nat} {cells : List Value} (x : SliceO h s e sz n cells) {R : Nat} {c : Array Value} {e' : TypeId} {f : Nat × Nat} (hR : h[R]? = some (.cells c e' f)) (hne : e ≠ e') : ∀ b, blk s = some b -> b ≠ R := by
  rintro b hb rfl
  obtain ⟨_, ⟨rfl, _⟩ | ⟨b', cap, rest, rfl, h1, h2, h3⟩⟩ := x
  · cases hb
  · cases hb
    rw [h3] at hR
    injection hR with hR
    injection hR with _ hR _
    exact hne hR
section
variable {X : Us} {h : Hp} {γ : GG X}
structure Ended (X : Us) (v0 : Nat -> Int) (picks : List Int) (nb most : Nat) (p : PS X.U) (e : Int) (lL lW lY lV : Value) (h : Hp) : Prop where
  reg : Reg X v0 picks nb p
  how : (e = 1 /\ p.live nb = [] /\ p.log.length <= most) \/ (e = 2 /\ p.live nb ≠ [] /\ p.log.length = most)
  log : SliceO h lL 142 8 p.log.length (p.log.flatMap (entL (nums p.log)))
  went : SliceO h lW 3 1 p.went.length (p.went.map fun (n : Nat) => Value.int .i64 (n : Int))
  rdy : SliceO h lY 3 1 p.rdy.length (p.rdy.map fun (n : Nat) => Value.int .i64 (n : Int))
  left : SliceO h lV 142 8 (p.live nb).length ((p.live nb).flatMap (leftL p (nums p.log)))
  I : X.I p.u h
  J : X.J p.log p.u p.val
  Q : ∀ x, X.Q x (ownOf x p.log) (p.st x) p.u
  cel : ∀ b, X.isC b -> h[b]? = some (cellO (p.val b))
def psZ {U : Type} (R mb : Nat) (v0 : Nat -> Int) (u0 : U) : PS U := ⟨R, mb, 0, 0, fun _ => 0, fun _ => 0, fun _ => 0, fun _ => 0, fun _ => 0, fun _ => 0, fun _ => .nilFunc, fun _ => .born, fun _ => false, fun _ => [], [], [], [], v0, false, u0⟩
abbrev slsZ : Sls := ⟨nilS, nilS, nilS, nilS, nilS⟩
def memZ (R mb : Nat) : Mem Nm := ⟨fun k => k = .run \/ k = .map, fun k => if k = .run then R else mb, fun k => if k = .run then runO slsZ mb false else .map #[] 0⟩
theorem giZ {R mb : Nat} {v0 : Nat -> Int} {u0 : X.U} {W : Nat -> Prop} (hR : h[R]? = some (runO slsZ mb false)) (hm : h[mb]? = some (.map #[] 0)) (hWR : W R) (hWm : W mb) (hC : ∀ b, X.isC b -> h[b]? = some (cellO (v0 b)) /\ W b) (hD : ∀ b, X.Dom u0 b -> b < h.size /\ W b) (h1 : ¬ X.isC R /\ ¬ X.Dom u0 R) (h2 : ¬ X.isC mb /\ ¬ X.Dom u0 mb) : GI X W (psZ R mb v0 u0) [] slsZ (memZ R mb) h := by
  have hne : R ≠ mb := fun e => by rw [e, hm] at hR; cases hR
  have key : ∀ k, (memZ R mb).ok k -> (k = .run /\ (memZ R mb).B k = R) \/ (k = .map /\ (memZ R mb).B k = mb) := fun k hk => by
    rcases hk with rfl | rfl
    · exact .inl ⟨rfl, rfl⟩
    · exact .inr ⟨rfl, rfl⟩
  refine ⟨⟨fun k hk => ?_, fun k k' hk hk' e => ?_⟩, fun k => ?_, fun k hk => ?_, hC, fun k hk => ?_, hD, fun b hb => (by cases hb), fun e he => (by cases he), fun i hi => absurd hi (Nat.not_lt_zero _), fun i j hi => absurd hi (Nat.not_lt_zero _)⟩
  · rcases key k hk with ⟨rfl, _⟩ | ⟨rfl, _⟩
    · exact hR
    · exact hm
  · rcases key k hk with ⟨rfl, e1⟩ | ⟨rfl, e1⟩ <;> rcases key k' hk' with ⟨rfl, e2⟩ | ⟨rfl, e2⟩
    · rfl
    · exact absurd (e1.symm.trans (e.trans e2)) hne
    · exact absurd (e2.symm.trans (e.symm.trans e1)) hne
    · rfl
  · have no : ∀ {k : Nm}, k ≠ .run -> k ≠ .map -> ¬ (memZ R mb).ok k := fun a b x => x.elim a b
    cases k with
    | run => exact ⟨.inl rfl, rfl, rfl⟩
    | map => exact ⟨.inr rfl, rfl, #[], 0, rfl, Keyed.nil⟩
    | thr => exact Mem.Sl.nil (no nofun nofun)
    | log => exact Mem.Sl.nil (no nofun nofun)
    | went => exact Mem.Sl.nil (no nofun nofun)
    | rdy => exact Mem.Sl.nil (no nofun nofun)
    | fell => exact Mem.Sl.nil (no nofun nofun)
    | _ => exact fun hi => absurd hi (Nat.not_lt_zero _)
  · rcases key k hk with ⟨_, e⟩ | ⟨_, e⟩ <;> rw [e] <;> assumption
  · rcases key k hk with ⟨_, e⟩ | ⟨_, e⟩ <;> rw [e] <;> assumption
set_option maxHeartbeats 8000000 in
set_option maxRecDepth 8000 in
theorem runG (hX : X.Ok) {v0 : Nat -> Int} {u0 : X.U} {picks : List Int} {m : Int} {bods : List (FuncId × Array Value)} {sP sB : Value} (h0 : γ.p.num = 0) (hm0 : 0 <= m) (hm1 : m <= 65536) (hC : ∀ b, X.isC b -> h[b]? = some (cellO (v0 b))) (hD : ∀ b, X.Dom u0 b -> b < h.size) (hI : X.I u0 h) (hJ : X.J [] u0 v0) (hQ : ∀ x, X.Q x [] .born u0)
    (hnb : bods.length <= 64) (hB : SliceO h sB 35 1 bods.length (bods.map fun q => .func (.func q.1) #[] q.2)) (hBn : ∀ c, blk sB = some c -> ¬ X.isC c /\ ¬ X.Dom u0 c) (hP : ∀ u h', X.I u h' -> Upd (fun b => X.isC b \/ X.Dom u0 b) h h' -> RdS h' sP (picks.map fun x => .int .i64 x))
    (hbody : ∀ (k : Nat) (q : FuncId × Array Value), bods[k]? = some q -> HasBody Try.prog q.1 /\ Body X k q.1 q.2) :
    CallW Try.prog true (SitM Try.prog (PX X)) 13 #[sP, .int .i64 m, sB] h ⟨0, γ⟩ (Ret fun v h' δ' => ∃ (γ' : GG X) (p : PS X.U) (e : Int) (lL lW lY lV : Value), δ' = ⟨0, γ'⟩ /\ (∀ a, ¬ (SitM Try.prog (PX X)).still γ' a) /\ (∀ i, i ≠ 0 -> i < (PX X).num γ' -> (PX X).ch γ' i = none) /\ v = .agg (repL e p.log.length lL lW lY lV).toArray /\ Ended X v0 picks bods.length m.toNat p e lL lW lY lV h' /\ Upd (fun b => X.isC b \/ X.Dom u0 b) h h') := by
  have no0 : ∀ a, ¬ (SitM Try.prog (PX X)).still γ a := fun a x => by
    obtain ⟨j, hj, _⟩ := stillM_of x
    omega
  obtain ⟨aP, kP, eP⟩ := (hP _ _ hI (Upd.refl _ _)).val
  rw [List.length_map] at eP
  obtain ⟨aB, kB, eB⟩ := hB.val
  subst eP eB
  refine CallW.start (n := 30) rfl rfl ?_
  (repeat (first | refine EK.seq ?_ | refine EK.region ?_ | refine ER.done ?_ | refine EK.skip ?_ | refine ER.move rfl rfl rfl ?_ | refine ER.cmpF rfl rfl rfl rfl rfl (by first | (dsimp only [cmpP]; omega) | exact rfl | exact Int.le_refl _) ?_ | refine ER.box rfl rfl rfl ?_ | refine ER.allocA rfl rfl ?_ | refine ER.len1 rfl rfl rfl ?_ | refine EK.condF rfl ?_))
  refine ER.makeMap rfl rfl ?_
  refine ER.buildS (cells := #[nilS, .map (some (h.size + 2)), nilS, nilS, nilS, nilS, .bool false]) rfl rfl (by simp only [Array.size_push]; rfl) rfl ?_
  (repeat (first | refine ER.boxA rfl rfl rfl ?_ | refine ER.alloc rfl rfl ?_))
  refine ER.storeNew rfl rfl rfl rfl ⟨nofun, nofun⟩ (no0 _) ?_
  simp only [Array.size_push]
  refine ER.gen (fun h5 => Upd (fun _ => False) h h5 /\ h5.size = h.size + 5 /\ h5[h.size]? = some (.cells #[.slice aP picks.length kP] 23 (0, 0)) /\ h5[h.size + 1]? = some (.cells repZ.toArray 39 (0, 0)) /\ h5[h.size + 2]? = some (.map #[] 0) /\ h5[h.size + 3]? = some (.cells #[nilS, .map (some (h.size + 2)), nilS, nilS, nilS, nilS, .bool false] 136 (0, 0)) /\ h5[h.size + 4]? = some (oneO (ptr (h.size + 3)) 132)) ?_ ?_
  · exact push5 h (.cells #[.slice aP picks.length kP] 23) (.cells repZ.toArray 39) (.map #[] 0) (.cells #[nilS, .map (some (h.size + 2)), nilS, nilS, nilS, nilS, .bool false] 136) (oneO (ptr (h.size + 3)) 132)
  rintro h5 ⟨u5, s5, g0, g1, g2, g3, g4⟩
  have hCl : ∀ b, X.isC b -> b < h.size := fun b hb => lt_of_get (hC b hb)
  obtain ⟨W, hW⟩ : ∃ W : Nat -> Prop, W = fun b => X.isC b \/ X.Dom u0 b \/ b = h.size + 3 \/ b = h.size + 2 \/ h5.size <= b := ⟨_, rfl⟩
  have nW : ∀ b, b < h5.size -> ¬ X.isC b -> ¬ X.Dom u0 b -> b ≠ h.size + 3 -> b ≠ h.size + 2 -> ¬ W b := fun b h1 h2 h3 h4 h5 x => by
    rw [hW] at x
    rcases x with x | x | x | x | x
    · exact h2 x
    · exact h3 x
    · exact h4 x
    · exact h5 x
    · omega
  have nC : ∀ b, h.size <= b -> ¬ X.isC b := fun b hb x => by have := hCl b x; omega
  have nD : ∀ b, h.size <= b -> ¬ X.Dom u0 b := fun b hb x => by have := hD b x; omega
  have gi0 : GI X W (psZ (h.size + 3) (h.size + 2) v0 u0) [] slsZ (memZ (h.size + 3) (h.size + 2)) h5 := giZ g3 g2 (by rw [hW]; exact .inr (.inr (.inl rfl))) (by rw [hW]; exact .inr (.inr (.inr (.inl rfl)))) (fun b hb => ⟨u5.get (hC b hb) (fun x => x), by rw [hW]; exact .inl hb⟩) (fun b hb => ⟨by have := hD b hb; omega, by rw [hW]; exact .inr (.inl hb)⟩) ⟨nC _ (by omega), nD _ (by omega)⟩ ⟨nC _ (by omega), nD _ (by omega)⟩
  have sta0 : Sta X W h5 (h.size + 3) (psZ (h.size + 3) (h.size + 2) v0 u0) h5 := ⟨⟨_, _, gi0⟩, hX.loc _ _ _ (fun b hb => u5.2 b (hD b hb) (fun x => x)) hI, hJ, hQ, rfl, Upd.refl _ _⟩
  have hunt := untilG (γ := γ) (h := h5) hX (p0 := psZ (h.size + 3) (h.size + 2) v0 u0) (.inr ⟨h0, rfl⟩) (W := W) (R := h.size + 3) (bP := h.size) (bR := h.size + 4) (picks := picks) (most := m.toNat) (bods := bods) (fun c hc => by rw [hW]; exact .inr (.inr (.inr (.inr hc)))) sta0 ⟨rfl, rfl, rfl, rfl, rfl, rfl, fun _ => rfl⟩ (by omega) hnb
    (hB.upd u5 (fun _ _ x => x)) (fun c hc => by
      have := hB.lt hc
      obtain ⟨x1, x2⟩ := hBn c hc
      exact nW c (by omega) x1 x2 (by omega) (by omega)) (fun u h' hI' uu => hP u h' hI' ⟨Nat.le_trans u5.size uu.size, fun b hb hn => (uu.2 b (by omega) (nW b (by omega) (fun x => hn (.inl x)) (fun x => hn (.inr x)) (by omega) (by omega))).trans (u5.2 b hb (fun x => x))⟩) (hcell_of g0 rfl) (nW _ (by omega) (nC _ (by omega)) (nD _ (by omega)) (by omega) (by omega)) (hcell_of g4 rfl) (nW _ (by omega) (nC _ (by omega)) (nD _ (by omega)) (by omega) (by omega)) hbody
  rw [show ((m.toNat : Nat) : Int) = m by omega] at hunt
  have c4 : hcell h5 ⟨h.size + 4, 0, none⟩ = some (ptr (h.size + 3)) := hcell_of g4 rfl
  clear g4 gi0 sta0
  (repeat (first | refine EK.seq ?_ | refine EK.region ?_ | refine ER.done ?_ | refine ER.move rfl rfl rfl ?_ | refine ER.load1 rfl rfl rfl (by assumption) ?_))
  refine ER.max (r := m) rfl rfl rfl rfl (by rw [if_neg (by omega)]) ?_
  refine ER.min (r := m) rfl rfl rfl rfl (by rw [if_neg (by omega)]) ?_
  (repeat refine ER.move rfl rfl rfl ?_)
  refine ER.makeFunc (fv := #[]) (cv := #[ptr h.size, ptr (h.size + 4)]) rfl rfl (fun ρ hρ => ⟨map_ofL hρ (vs := []) rfl, map_ofL hρ (vs := [ptr h.size, ptr (h.size + 4)]) rfl⟩) ?_
  refine ER.callR rfl rfl rfl rfl rfl hunt ?_
  rintro _ h6 δ6 ⟨γ6, p6, e, rfl, mn, st6, rg, rfl, how⟩
  obtain ⟨s6, M6, g6⟩ := st6.gi
  have nW1 : ¬ W (h.size + 1) := nW _ (by omega) (nC _ (by omega)) (nD _ (by omega)) (by omega) (by omega)
  have nW4 : ¬ W (h.size + 4) := nW _ (by omega) (nC _ (by omega)) (nD _ (by omega)) (by omega) (by omega)
  have c6 := st6.upd.hcell c4 nW4
  have r6 := st6.upd.get g1 nW1
  have sz6 := st6.upd.size
  have oursW : ∀ b, Ours X p6 M6 b -> W b := fun b x => by
    rcases x with ⟨k, hk, rfl⟩ | x | x | ⟨i, hi, q, hq, rfl⟩
    · exact g6.wide k hk
    · exact (g6.cel b x).2
    · exact (g6.dom b x).2
    · exact (g6.prv i hi q hq).2.1
  have hrep := reportG (γ := γ6) (e := e) hX mn g6 st6.I st6.J st6.Q (by rw [rg.num]; exact hnb) (by rw [rg.fl]; exact hnb) (fun j hj hg => by
    rcases rg.alive j (by rw [<- rg.num]; exact hj) with ⟨_, r, y1, y2⟩ | ⟨y, _⟩
    · exact ⟨r, y1, y2⟩
    · rw [hg] at y; cases y)
  rw [st6.R] at hrep
  clear hunt
  (repeat (first | refine EK.seq ?_ | refine EK.region ?_ | refine ER.done ?_ | refine ER.move rfl rfl rfl ?_ | refine ER.assign rfl rfl rfl ?_ | refine ER.extract rfl rfl rfl rfl ?_ | refine ER.load1 rfl rfl rfl (by assumption) ?_))
  refine ER.callR rfl rfl rfl rfl rfl hrep ?_
  clear hrep
  rintro _ h7 δ7 ⟨γ7, s7, M7, lv, rfl, mn7, g7, I7, u7, sl7, rfl⟩
  have nO1 : ¬ Ours X p6 M6 (h.size + 1) := fun x => nW1 (oursW _ x)
  have r7 := u7.get r6 nO1
  have no7 : ∀ a, ¬ (SitM Try.prog (PX X)).still γ7 a := fun a x => by
    obtain ⟨j, hj, hg, _⟩ := stillM_of x
    have hv := mn7.view hX hj
    have hn := mn7.num
    have : (p6.gone j || decide (j < p6.num)) = γ7.p.gone j := hv.gone
    have hj' : j < p6.num := by have : p6.num = γ7.p.num := hn; omega
    rw [hg] at this
    simp [hj'] at this
  have ch7 : ∀ i, i ≠ 0 -> i < (PX X).num γ7 -> (PX X).ch γ7 i = none := fun i hi hl => by
    cases i with
    | zero => exact absurd rfl hi
    | succ j =>
      have hj : j < γ7.p.num := Nat.lt_of_succ_lt_succ hl
      have hv := mn7.view hX hj
      have hn : p6.num = γ7.p.num := mn7.num
      have hg : (p6.gone j || decide (j < p6.num)) = γ7.p.gone j := hv.gone
      show (if γ7.p.gone j = true then none else some (γ7.p.wk j)) = none
      rw [<- hg, show decide (j < p6.num) = true by simp; omega, Bool.or_true]
      rfl
  have nb7 : ∀ k, M7.ok k -> M7.B k ≠ h.size + 1 := fun k hk e' => by
    rcases g7.wide k hk with y | y
    · exact nO1 (e' ▸ y)
    · omega
  have hwl : p6.went.length = p6.log.length := by rw [rg.went, List.length_map]
  have sL : SliceO h7 s7.L 142 8 p6.log.length (p6.log.flatMap (entL (nums p6.log))) := Mem.Sl.slice g7.rep (g7.all .log)
  have sW : SliceO h7 s7.W 3 1 p6.went.length (p6.went.map fun (n : Nat) => Value.int .i64 (n : Int)) := Mem.Sl.slice g7.rep (g7.all .went)
  have sY : SliceO h7 s7.Y 3 1 p6.rdy.length (p6.rdy.map fun (n : Nat) => Value.int .i64 (n : Int)) := Mem.Sl.slice g7.rep (g7.all .rdy)
  rw [rg.num] at sl7
  have q1 := sliceO_ne sL r7 (by decide)
  have q2 := sliceO_ne sW r7 (by decide)
  have q3 := sliceO_ne sY r7 (by decide)
  have q4 := sliceO_ne sl7 r7 (by decide)
  have hcs : ∀ j, j < 7 -> (∃ u, hcell h7 ⟨h.size + 1, 0 + j, none⟩ = some u) /\ hfroz h7 ⟨h.size + 1, 0 + j, none⟩ = false /\ ¬ (SitM Try.prog (PX X)).still γ7 ⟨h.size + 1, 0 + j, none⟩ := fun j hj => by
    refine ⟨?_, hfroz_of r7, no7 _⟩
    rcases (show j = 0 \/ j = 1 \/ j = 2 \/ j = 3 \/ j = 4 \/ j = 5 \/ j = 6 by omega) with rfl | rfl | rfl | rfl | rfl | rfl | rfl <;> exact ⟨_, hcell_of r7 rfl⟩
  refine ER.storeN (vs := repL e p6.went.length s7.L s7.W s7.Y lv) rfl rfl rfl rfl (fun v hv => ?_) hcs ?_
  · simp only [List.mem_cons, List.not_mem_nil, or_false] at hv
    rcases hv with rfl | rfl | rfl | rfl | rfl | rfl | rfl
    · exact ⟨nofun, nofun⟩
    · exact ⟨nofun, nofun⟩
    · obtain ⟨a, k, e'⟩ := sL.val; rw [e']; exact ⟨nofun, nofun⟩
    · obtain ⟨a, k, e'⟩ := sW.val; rw [e']; exact ⟨nofun, nofun⟩
    · obtain ⟨a, k, e'⟩ := sY.val; rw [e']; exact ⟨nofun, nofun⟩
    · obtain ⟨a, k, e'⟩ := sl7.val; rw [e']; exact ⟨nofun, nofun⟩
    · exact ⟨nofun, nofun⟩
  rw [row_set (c := repZ) (vs := repL e p6.went.length s7.L s7.W s7.Y lv) r7 rfl]
  (repeat (first | refine ER.done ?_ | refine EK.ret ?_))
  have nF : (h7.setIfInBounds (h.size + 1) (.cells (repL e p6.went.length s7.L s7.W s7.Y lv).toArray 39 (0, 0)))[h.size + 1]? = some (.cells (repL e p6.went.length s7.L s7.W s7.Y lv ++ []).toArray 39 (0, 0)) := by rw [List.append_nil]; exact get_set_same r7
  have uF : Upd (fun b => b = h.size + 1) h7 (h7.setIfInBounds (h.size + 1) (.cells (repL e p6.went.length s7.L s7.W s7.Y lv).toArray 39 (0, 0))) := Upd.set _ _ _ rfl
  have nDu : ¬ X.Dom p6.u (h.size + 1) := fun x => nO1 (.inr (.inr (.inl x)))
  refine EU.retCell1 (vs := repL e p6.went.length s7.L s7.W s7.Y lv) rfl rfl rfl (hrow_block nF) ⟨γ7, p6, e, s7.L, s7.W, s7.Y, lv, rfl, no7, ch7, by rw [hwl], ⟨rg, how, sL.upd uF q1, sW.upd uF q2, sY.upd uF q3, sl7.upd uF q4, hX.loc _ _ _ (fun b hb => get_set_ne _ (fun e' => nDu (e' ▸ hb))) I7, st6.J, st6.Q, fun b hb => ?_⟩, ⟨?_, fun b hb hn => ?_⟩⟩
  · rw [get_set_ne _ (by have := hCl b hb; omega)]
    exact (g7.cel b hb).1
  · rw [Array.size_setIfInBounds]; have := u7.size; omega
  · have hnW : ¬ W b := nW b (by omega) (fun x => hn (.inl x)) (fun x => hn (.inr x)) (by omega) (by omega)
    rw [get_set_ne _ (by omega), u7.2 b (by omega) (fun x => hnW (oursW _ x)), st6.upd.2 b (by omega) hnW]
    exact u5.2 b hb (fun x => x)
end
end
section
open Go Go.TJ Go.Conc Go.Proofs
section
variable {X : Us} {h : Hp} {i : Nat} {γ : GG X} {u : X.U} {L : List (Nat × Obj)}
structure Asks (X : Us) (i : Nat) (γ : GG X) (u : X.U) (r : Rq) : Prop where
  Q : X.Q i (ownOf i (γ.p.acc i).log) (.stands r) u
  J : X.J (γ.p.acc i).log u (γ.p.acc i).val
def Halt (X : Us) (i : Nat) (p : PS X.U) (ps : List PanicEntry) (h : Hp) (δ : Ix (GG X)) : Prop := ∃ γ' : GG X, δ = ⟨0, γ'⟩ /\ Along X i p γ'.p /\ Stp X i γ' h /\ ps = [{ v := stopV, recovered := false }]
theorem Halt.along {p p' : PS X.U} (a : Along X i p p') {ps : List PanicEntry} {h : Hp} {δ : Ix (GG X)} (x : Halt X i p' ps h δ) : Halt X i p ps h δ := by
  obtain ⟨γ', rfl, al, s, e⟩ := x
  exact ⟨γ', rfl, a.trans al, s, e⟩
def Did (X : Us) (i : Nat) (γ : GG X) (u : X.U) (L : List (Nat × Obj)) (r : Rq) (f : Int -> Value) (w : Value) (h : Hp) (δ : Ix (GG X)) : Prop := ∃ γ' : GG X, δ = ⟨0, γ'⟩ /\ Thr X i γ' γ'.p.u L h /\ Stood X i γ u r γ' /\ w = f (γ'.p.val r.b)
theorem Thr.celC (T : Thr X i γ u L h) {b : Nat} (hb : X.isC b) : ∃ v, h[b]? = some (cellO v) := by
  obtain ⟨s, M, g⟩ := T.gi
  exact ⟨_, (g.cel b hb).1⟩
theorem rq_ok {b : Nat} {op a c : Int} (hb : X.isC b) (h1 : (decide (1 <= op) && decide (op <= 5)) = true) (h2 : op = 1 -> a = 0) (h3 : op ≠ 3 -> c = 0) : RqOk X ⟨op, b, a, c⟩ := by
  simp only [Bool.and_eq_true, decide_eq_true_eq] at h1
  exact ⟨hb, h1.1, h1.2, h2, h3⟩
set_option maxRecDepth 8000 in
set_option maxHeartbeats 1000000 in
theorem cloadT (hX : X.Ok) (T : Thr X i γ u L h) {b : Nat} (hb : X.isC b) (A : Asks X i γ u ⟨1, b, 0, 0⟩) : CallW Try.prog false (SitT Try.prog (PX X) (i + 1)) 34 #[ptr b, ptr (γ.p.tb i)] h ⟨0, γ⟩ (RetP (Did X i γ u L ⟨1, b, 0, 0⟩ (.int .i64 ·)) (Halt X i γ.p)) := by
  obtain ⟨v, hv⟩ := T.celC hb
  obtain ⟨w, t, o, c, b0, n, x, y, k, hat, hrow1⟩ := T.row
  have c0 : hcell h ⟨γ.p.tb i, 0, none⟩ = some (ptr γ.p.R) := hcell_of hrow1 rfl
  have c13 : hcell h ⟨γ.p.tb i, 13, none⟩ = some (.bool false) := hcell_of hrow1 rfl
  clear hrow1 hat
  refine CallW.start (n := 26) rfl rfl ?_
  (repeat (first | refine EK.seq ?_ | refine EK.region ?_ | refine ER.done ?_ | refine ER.move rfl rfl rfl ?_ | refine ER.assign rfl rfl rfl ?_))
  refine ER.callD rfl rfl rfl rfl rfl (none_ok hv) ?_
  (repeat (first | refine EK.seq ?_ | refine EK.region ?_ | refine ER.done ?_ | refine EK.skip ?_ | refine ER.move rfl rfl rfl ?_ | refine EK.condF rfl ?_))
  refine ER.callD rfl rfl rfl rfl rfl (live_ok c0 c13) ?_
  (repeat (first | refine EK.seq ?_ | refine EK.region ?_ | refine ER.done ?_ | refine ER.move rfl rfl rfl ?_ | refine ER.nilCheck rfl rfl rfl ?_ | refine ER.fieldAddr rfl rfl rfl ?_ | refine EK.condT rfl ?_))
  refine ER.callP rfl rfl rfl rfl rfl (step_ok (r := ⟨1, b, 0, 0⟩) hX T (rq_ok hb rfl (fun _ => rfl) (fun _ => rfl)) A.Q A.J) ?_ ?_
  · rintro ps h' δ' ⟨γ', rfl, hS, st, rfl⟩
    exact ⟨γ', rfl, st.al, hS, rfl⟩
  rintro w h1 δ1 ⟨γ', rfl, T', st, rfl⟩
  (repeat (first | refine EK.seq ?_ | refine EK.region ?_ | refine ER.done ?_ | refine ER.move rfl rfl rfl ?_ | refine ER.assign rfl rfl rfl ?_ | refine ER.extract rfl rfl rfl rfl ?_ | refine EK.ret ?_))
  exact EU.ret1 rfl rfl ⟨γ', rfl, T', st, rfl⟩
set_option maxRecDepth 8000 in
set_option maxHeartbeats 1000000 in
theorem cstoreT (hX : X.Ok) (T : Thr X i γ u L h) {b : Nat} {a : Int} (hb : X.isC b) (A : Asks X i γ u ⟨2, b, a, 0⟩) : CallW Try.prog false (SitT Try.prog (PX X) (i + 1)) 33 #[ptr b, ptr (γ.p.tb i), .int .i64 a] h ⟨0, γ⟩ (RetP (Did X i γ u L ⟨2, b, a, 0⟩ (fun _ => .tuple #[])) (Halt X i γ.p)) := by
  obtain ⟨v, hv⟩ := T.celC hb
  obtain ⟨w, t, o, c, b0, n, x, y, k, hat, hrow1⟩ := T.row
  have c0 : hcell h ⟨γ.p.tb i, 0, none⟩ = some (ptr γ.p.R) := hcell_of hrow1 rfl
  have c13 : hcell h ⟨γ.p.tb i, 13, none⟩ = some (.bool false) := hcell_of hrow1 rfl
  clear hrow1 hat
  refine CallW.start (n := 23) rfl rfl ?_
  (repeat (first | refine EK.seq ?_ | refine EK.region ?_ | refine ER.move rfl rfl rfl ?_))
  refine ER.callD rfl rfl rfl rfl rfl (none_ok hv) ?_
  (repeat (first | refine EK.seq ?_ | refine EK.region ?_ | refine ER.done ?_ | refine EK.skip ?_ | refine ER.move rfl rfl rfl ?_ | refine EK.condF rfl ?_))
  refine ER.callD rfl rfl rfl rfl rfl (live_ok c0 c13) ?_
  (repeat (first | refine EK.seq ?_ | refine EK.region ?_ | refine ER.done ?_ | refine ER.move rfl rfl rfl ?_ | refine ER.nilCheck rfl rfl rfl ?_ | refine ER.fieldAddr rfl rfl rfl ?_ | refine EK.condT rfl ?_))
  refine ER.callP rfl rfl rfl rfl rfl (step_ok (r := ⟨2, b, a, 0⟩) hX T (rq_ok hb rfl (fun e => absurd e (by decide)) (fun _ => rfl)) A.Q A.J) ?_ ?_
  · rintro ps h' δ' ⟨γ', rfl, hS, st, rfl⟩
    exact ⟨γ', rfl, st.al, hS, rfl⟩
  rintro w h1 δ1 ⟨γ', rfl, T', st, rfl⟩
  (repeat (first | refine ER.done ?_ | refine EK.ret ?_))
  exact EU.ret0 rfl ⟨γ', rfl, T', st, rfl⟩
set_option maxRecDepth 8000 in
set_option maxHeartbeats 1000000 in
theorem ccasT (hX : X.Ok) (T : Thr X i γ u L h) {b : Nat} {a c' : Int} (hb : X.isC b) (A : Asks X i γ u ⟨3, b, a, c'⟩) : CallW Try.prog false (SitT Try.prog (PX X) (i + 1)) 79 #[ptr b, ptr (γ.p.tb i), .int .i64 a, .int .i64 c'] h ⟨0, γ⟩ (RetP (Did X i γ u L ⟨3, b, a, c'⟩ (fun z => .bool (decide (z = a)))) (Halt X i γ.p)) := by
  obtain ⟨v, hv⟩ := T.celC hb
  obtain ⟨w, t, o, c, b0, n, x, y, k, hat, hrow1⟩ := T.row
  have c0 : hcell h ⟨γ.p.tb i, 0, none⟩ = some (ptr γ.p.R) := hcell_of hrow1 rfl
  have c13 : hcell h ⟨γ.p.tb i, 13, none⟩ = some (.bool false) := hcell_of hrow1 rfl
  clear hrow1 hat
  refine CallW.start (n := 39) rfl rfl ?_
  (repeat (first | refine EK.seq ?_ | refine EK.region ?_ | refine ER.done ?_ | refine ER.move rfl rfl rfl ?_ | refine ER.assign rfl rfl rfl ?_))
  refine ER.callD rfl rfl rfl rfl rfl (none_ok hv) ?_
  (repeat (first | refine EK.seq ?_ | refine EK.region ?_ | refine ER.done ?_ | refine EK.skip ?_ | refine ER.move rfl rfl rfl ?_ | refine EK.condF rfl ?_))
  refine ER.callD rfl rfl rfl rfl rfl (live_ok c0 c13) ?_
  (repeat (first | refine EK.seq ?_ | refine EK.region ?_ | refine ER.done ?_ | refine ER.move rfl rfl rfl ?_ | refine ER.nilCheck rfl rfl rfl ?_ | refine ER.fieldAddr rfl rfl rfl ?_ | refine EK.condT rfl ?_))
  refine ER.callP rfl rfl rfl rfl rfl (step_ok (r := ⟨3, b, a, c'⟩) hX T (rq_ok hb rfl (fun e => absurd e (by decide)) (fun e => absurd rfl e)) A.Q A.J) ?_ ?_
  · rintro ps h' δ' ⟨γ', rfl, hS, st, rfl⟩
    exact ⟨γ', rfl, st.al, hS, rfl⟩
  rintro w h1 δ1 ⟨γ', rfl, T', st, rfl⟩
  (repeat (first | refine EK.seq ?_ | refine EK.region ?_ | refine ER.done ?_ | refine ER.move rfl rfl rfl ?_ | refine ER.assign rfl rfl rfl ?_ | refine ER.extract rfl rfl rfl rfl ?_ | refine EK.ret ?_))
  refine EU.ret1 rfl rfl ⟨γ', rfl, T', st, ?_⟩
  by_cases e : γ'.p.val b = a
  · simp [behind, e]
  · simp [behind, e]
set_option maxRecDepth 8000 in
set_option maxHeartbeats 1000000 in
theorem caddT (hX : X.Ok) (T : Thr X i γ u L h) {b : Nat} {a : Int} (hb : X.isC b) (A : Asks X i γ u ⟨4, b, a, 0⟩) : CallW Try.prog false (SitT Try.prog (PX X) (i + 1)) 93 #[ptr b, ptr (γ.p.tb i), .int .i64 a] h ⟨0, γ⟩ (RetP (Did X i γ u L ⟨4, b, a, 0⟩ (fun z => .int .i64 (IntKind.i64.wrap (z + a)))) (Halt X i γ.p)) := by
  obtain ⟨v, hv⟩ := T.celC hb
  obtain ⟨w, t, o, c, b0, n, x, y, k, hat, hrow1⟩ := T.row
  have c0 : hcell h ⟨γ.p.tb i, 0, none⟩ = some (ptr γ.p.R) := hcell_of hrow1 rfl
  have c13 : hcell h ⟨γ.p.tb i, 13, none⟩ = some (.bool false) := hcell_of hrow1 rfl
  clear hrow1 hat
  refine CallW.start (n := 34) rfl rfl ?_
  (repeat (first | refine EK.seq ?_ | refine EK.region ?_ | refine ER.done ?_ | refine ER.move rfl rfl rfl ?_ | refine ER.assign rfl rfl rfl ?_))
  refine ER.callD rfl rfl rfl rfl rfl (none_ok hv) ?_
  (repeat (first | refine EK.seq ?_ | refine EK.region ?_ | refine ER.done ?_ | refine EK.skip ?_ | refine ER.move rfl rfl rfl ?_ | refine EK.condF rfl ?_))
  refine ER.callD rfl rfl rfl rfl rfl (live_ok c0 c13) ?_
  (repeat (first | refine EK.seq ?_ | refine EK.region ?_ | refine ER.done ?_ | refine ER.move rfl rfl rfl ?_ | refine ER.nilCheck rfl rfl rfl ?_ | refine ER.fieldAddr rfl rfl rfl ?_ | refine EK.condT rfl ?_))
  refine ER.callP rfl rfl rfl rfl rfl (step_ok (r := ⟨4, b, a, 0⟩) hX T (rq_ok hb rfl (fun e => absurd e (by decide)) (fun _ => rfl)) A.Q A.J) ?_ ?_
  · rintro ps h' δ' ⟨γ', rfl, hS, st, rfl⟩
    exact ⟨γ', rfl, st.al, hS, rfl⟩
  rintro w h1 δ1 ⟨γ', rfl, T', st, rfl⟩
  (repeat (first | refine EK.seq ?_ | refine EK.region ?_ | refine ER.done ?_ | refine ER.move rfl rfl rfl ?_ | refine ER.assign rfl rfl rfl ?_ | refine ER.extract rfl rfl rfl rfl ?_ | refine EK.ret ?_))
  exact EU.ret1 rfl rfl ⟨γ', rfl, T', st, rfl⟩
end
end
section
open Go Go.TJ Go.Conc Go.Proofs
def cSum (f : Nat -> Int) : Nat -> Int
  | 0 => 0
  | n + 1 => cSum f n + f n
theorem cSum_congr {f g : Nat -> Int} : ∀ {n : Nat}, (∀ j, j < n -> f j = g j) -> cSum f n = cSum g n
  | 0, _ => rfl
  | n + 1, h => by
    show cSum f n + f n = cSum g n + g n
    rw [cSum_congr (n := n) fun j hj => h j (by omega), h n (by omega)]
theorem cSum_set {f f' : Nat -> Int} {i : Nat} : ∀ {n : Nat}, i < n -> (∀ j, j < n -> j ≠ i -> f' j = f j) -> cSum f' n = cSum f n - f i + f' i
  | 0, h, _ => by omega
  | n + 1, hi, h => by
    show cSum f' n + f' n = cSum f n + f n - f i + f' i
    by_cases e : n = i
    · subst e
      rw [cSum_congr (n := n) (f := f') (g := f) fun j hj => h j (by omega) (by omega)]
      omega
    · rw [cSum_set (n := n) (by omega) fun j hj hne => h j (by omega) hne, h n (by omega) e]
      omega
structure CCall where
  op : Int
  a : Int
  b : Int
  c : Int
  d : Int
  f : Int
  l : Value
structure TE where
  s : Int
  at_ : Int
  vs : List Int
  vv : Value
  kd : Int
  nm : Int
structure CP where
  sc : List (List CCall)
  nC : Nat
  nK : Nat
  nT : Nat
  w : Nat
  C : Nat -> Nat
  B : Nat -> Nat -> Nat
  K : Nat -> Nat
def CP.call (c : CP) (s k : Int) : Option CCall := if 0 <= s /\ 0 <= k then (c.sc[s.toNat]?).bind fun l => l[k.toNat]? else none
def dltE (c : CP) (e : TE) : Int :=
  if e.at_ < 0 then -1 else match c.call e.s e.at_ with
    | some q => if 0 <= q.a /\ q.a < c.nC then (if q.op = 11 /\ e.kd = 0 then 1 else if q.op = 12 /\ e.vs = [1] then -1 else 0) else 0
    | none => 0
def dlsE (c : CP) : List TE -> Int
  | [] => 0
  | e :: l => dltE c e + dlsE c l
theorem dlsE_snoc (c : CP) (e : TE) : ∀ (l : List TE), dlsE c (l ++ [e]) = dlsE c l + dltE c e
  | [] => by simp [dlsE]
  | x :: l => by
    show dltE c x + dlsE c (l ++ [e]) = _
    rw [dlsE_snoc c e l]
    show _ = dltE c x + dlsE c l + dltE c e
    omega
structure CU where
  hold : Nat -> List (Nat × Int)
  told : Nat -> List TE
  tv : Nat -> Value
  th : Nat -> Value
  fns : Nat -> Nat -> Value
  kept : List (Nat × Obj)
structure CP.Ok (c : CP) : Prop where
  inj : ∀ i j i' j', i < c.nC -> j < 34 -> i' < c.nC -> j' < 34 -> c.B i j = c.B i' j' -> i = i' /\ j = j'
  K : ∀ k i j, k < c.nK -> i < c.nC -> j < 34 -> c.K k ≠ c.B i j
  nC : c.nC <= 3
def FnOk (c : CP) (kept : List (Nat × Obj)) (f : Value) : Prop := ∃ b1 b2 s : Nat, f = .func (.func 154) #[] #[ptr b1, ptr b2] /\ (b1, Obj.cells #[ptr c.w] 27 (0, 0)) ∈ kept /\ (b2, Obj.cells #[.int .i64 s] 3 (0, 0)) ∈ kept /\ s < c.sc.length
theorem FnOk.mono {c : CP} {k k' : List (Nat × Obj)} {f : Value} (h : FnOk c k f) (hk : ∀ q, q ∈ k -> q ∈ k') : FnOk c k' f := by
  obtain ⟨b1, b2, s, e, h1, h2, h3⟩ := h
  exact ⟨b1, b2, s, e, hk _ h1, hk _ h2, h3⟩
structure TEOk (c : CP) (kept : List (Nat × Obj)) (e : TE) : Prop where
  s : 0 <= e.s /\ e.s < c.sc.length
  at_ : e.at_ < 0 \/ ∃ q, c.call e.s e.at_ = some q
  vv : (e.vs = [] /\ e.vv = nilS) \/ ∃ b, e.vv = .slice (some ⟨b, 0, none⟩) e.vs.length e.vs.length /\ (b, Obj.cells (e.vs.map fun x => Value.int .i64 x).toArray 2 (0, 0)) ∈ kept
theorem TEOk.mono {c : CP} {k k' : List (Nat × Obj)} {e : TE} (h : TEOk c k e) (hk : ∀ q, q ∈ k -> q ∈ k') : TEOk c k' e :=
  ⟨h.s, h.at_, h.vv.imp id fun ⟨b, h1, h2⟩ => ⟨b, h1, hk _ h2⟩⟩
def CP.S (c : CP) (n : Nat) : Nat := c.B (n / 16) (2 + 2 * (n % 16))
def kind2 (x : Int) : Int := if x % 4 = 2 then 1 else 0
def CP.cnt (c : CP) (v : Nat -> Int) : Int := cSum (fun n => kind2 (v (c.S n))) (16 * c.nC)
def HdOk (c : CP) (q : Nat × Int) : Prop := (∃ i j, i < c.nC /\ j < 16 /\ q.1 = c.B i (2 + 2 * j) /\ (q.2 % 4 = 1 \/ q.2 % 4 = 3)) \/ ∃ i, i < c.nC /\ q.1 = c.B i 1 /\ q.2 = 1
structure CInv (c : CP) (dl : Int) (n : Nat) (u : CU) (v : Nat -> Int) : Prop where
  st : ∀ i j, i < c.nC -> j < 16 -> 0 <= v (c.B i (2 + 2 * j)) /\ v (c.B i (2 + 2 * j)) <= 4 * n
  due : ∀ i j, i < c.nC -> j < 16 -> 0 <= v (c.B i (3 + 2 * j)) /\ v (c.B i (3 + 2 * j)) <= 4611686018427387904
  now : ∀ i, i < c.nC -> 0 <= v (c.B i 0) /\ v (c.B i 0) <= 4611686018427387904
  busy : ∀ i, i < c.nC -> v (c.B i 1) = 0 \/ v (c.B i 1) = 1
  hold : ∀ t q, q ∈ u.hold t -> v q.1 = q.2 /\ HdOk c q
  nd : ∀ t, ((u.hold t).map Prod.fst).Nodup
  dis : ∀ t t', t ≠ t' -> ∀ q, q ∈ u.hold t -> ∀ q', q' ∈ u.hold t' -> q.1 ≠ q'.1
  own : ∀ i j, i < c.nC -> j < 16 -> v (c.B i (2 + 2 * j)) % 4 = 1 \/ v (c.B i (2 + 2 * j)) % 4 = 3 -> ∃ t, t < c.nT /\ (c.B i (2 + 2 * j), v (c.B i (2 + 2 * j))) ∈ u.hold t
  ownB : ∀ i, i < c.nC -> v (c.B i 1) = 1 -> ∃ t, t < c.nT /\ (c.B i 1, (1 : Int)) ∈ u.hold t
  fn : ∀ i j, i < c.nC -> j < 16 -> v (c.B i (2 + 2 * j)) % 4 ≠ 0 -> FnOk c u.kept (u.fns i j)
  tok : ∀ t e, e ∈ u.told t -> TEOk c u.kept e
  sum : cSum (fun t => dlsE c (u.told t)) c.nT + dl = c.cnt v
  out : ∀ t, c.nT <= t -> u.told t = []
section
variable {c : CP} {dl : Int} {n : Nat} {u : CU} {v : Nat -> Int}
theorem CP.S_eq {i j : Nat} (hj : j < 16) : c.S (16 * i + j) = c.B i (2 + 2 * j) := by
  unfold CP.S
  rw [show (16 * i + j) / 16 = i by omega, show (16 * i + j) % 16 = j by omega]
theorem CP.cnt_set (ok : c.Ok) {i j : Nat} (hi : i < c.nC) (hj : j < 16) {x : Int} : c.cnt (ut v (c.B i (2 + 2 * j)) x) = c.cnt v - kind2 (v (c.B i (2 + 2 * j))) + kind2 x := by
  unfold CP.cnt
  rw [cSum_set (i := 16 * i + j) (f := fun n => kind2 (v (c.S n))) (f' := fun n => kind2 (ut v (c.B i (2 + 2 * j)) x (c.S n))) (by omega) fun k hk hne => ?_]
  · rw [CP.S_eq hj, ut_same]
  · rw [ut_ne _ _ fun e => ?_]
    have hn : k / 16 < c.nC := by omega
    obtain ⟨e1, e2⟩ := ok.inj _ _ _ _ hn (by omega) hi (by omega) e
    omega
theorem CP.cnt_other (ok : c.Ok) {b : Nat} {x : Int} (hb : ∀ i j, i < c.nC -> j < 16 -> b ≠ c.B i (2 + 2 * j)) : c.cnt (ut v b x) = c.cnt v := by
  unfold CP.cnt
  refine cSum_congr fun k hk => ?_
  show kind2 (ut v b x (c.S k)) = _
  rw [ut_ne _ _ (show c.S k ≠ b from fun e => hb (k / 16) (k % 16) (by omega) (by omega) e.symm)]
theorem CInv.mono {n' : Nat} (I : CInv c dl n u v) (h : n <= n') : CInv c dl n' u v :=
  ⟨fun i j hi hj => by have := I.st i j hi hj; omega, I.due, I.now, I.busy, I.hold, I.nd, I.dis, I.own, I.ownB, I.fn, I.tok, I.sum, I.out⟩
theorem CInv.free (ok : c.Ok) (I : CInv c dl n u v) {i j : Nat} (hi : i < c.nC) (hj : j < 16) (h : v (c.B i (2 + 2 * j)) % 4 ≠ 1 /\ v (c.B i (2 + 2 * j)) % 4 ≠ 3) : ∀ t q, q ∈ u.hold t -> q.1 ≠ c.B i (2 + 2 * j) := fun t q hq e => by
  obtain ⟨h1, h2⟩ := I.hold t q hq
  rw [e] at h1
  rcases h2 with ⟨i', j', hi', hj', e', z⟩ | ⟨i', hi', e', z⟩
  · rw [<- h1] at z; omega
  · rw [e] at e'
    have := (ok.inj _ _ _ _ hi (by omega) hi' (by omega) e').2
    omega
theorem CInv.freeB (ok : c.Ok) (I : CInv c dl n u v) {i : Nat} (hi : i < c.nC) (h : v (c.B i 1) = 0) : ∀ t q, q ∈ u.hold t -> q.1 ≠ c.B i 1 := fun t q hq e => by
  obtain ⟨h1, h2⟩ := I.hold t q hq
  rw [e, h] at h1
  rcases h2 with ⟨i', j', hi', hj', e', z⟩ | ⟨i', hi', e', z⟩
  · rw [<- h1] at z; omega
  · omega
theorem CInv.other (ok : c.Ok) (I : CInv c dl n u v) {b : Nat} {x : Int} (hs : ∀ i j, i < c.nC -> j < 16 -> b ≠ c.B i (2 + 2 * j)) (hb : ∀ i, i < c.nC -> b ≠ c.B i 1) (hx : (∀ i j, i < c.nC -> j < 34 -> b ≠ c.B i j) \/ (0 <= x /\ x <= 4611686018427387904)) : CInv c dl n u (ut v b x) := by
  have e1 : ∀ i j, i < c.nC -> j < 16 -> ut v b x (c.B i (2 + 2 * j)) = v (c.B i (2 + 2 * j)) := fun i j hi hj => ut_ne _ _ (Ne.symm (hs i j hi hj))
  have e2 : ∀ i, i < c.nC -> ut v b x (c.B i 1) = v (c.B i 1) := fun i hi => ut_ne _ _ (Ne.symm (hb i hi))
  have e3 : ∀ i j, i < c.nC -> j < 34 -> (0 <= v (c.B i j) /\ v (c.B i j) <= 4611686018427387904) -> 0 <= ut v b x (c.B i j) /\ ut v b x (c.B i j) <= 4611686018427387904 := fun i j hi hj h => by
    by_cases e : c.B i j = b
    · rw [e, ut_same]
      rcases hx with z | z
      · exact absurd e.symm (z i j hi hj)
      · exact z
    · rw [ut_ne _ _ e]; exact h
  refine ⟨fun i j hi hj => by rw [e1 i j hi hj]; exact I.st i j hi hj, fun i j hi hj => e3 i _ hi (by omega) (I.due i j hi hj), fun i hi => e3 i _ hi (by omega) (I.now i hi), fun i hi => by rw [e2 i hi]; exact I.busy i hi, fun t q hq => ?_, I.nd, I.dis, fun i j hi hj => by rw [e1 i j hi hj]; exact I.own i j hi hj, fun i hi => by rw [e2 i hi]; exact I.ownB i hi, fun i j hi hj => by rw [e1 i j hi hj]; exact I.fn i j hi hj, I.tok, by rw [CP.cnt_other ok hs]; exact I.sum, I.out⟩
  obtain ⟨h1, h2⟩ := I.hold t q hq
  refine ⟨?_, h2⟩
  rcases h2 with ⟨i', j', hi', hj', e', z⟩ | ⟨i', hi', e', z⟩
  · rw [e', e1 i' j' hi' hj', <- e']; exact h1
  · rw [e', e2 i' hi', <- e']; exact h1
def CU.holds (u : CU) (t : Nat) (H : List (Nat × Int)) : CU := { u with hold := ut u.hold t H }
theorem CInv.state (ok : c.Ok) (I : CInv c dl n u v) {i j t : Nat} {x : Int} {H : List (Nat × Int)} {fns' : Nat -> Nat -> Value} {kept' : List (Nat × Obj)} (hi : i < c.nC) (hj : j < 16) (ht : t < c.nT) (hx : 0 <= x /\ x <= 4 * n) (hno : ∀ t', t' ≠ t -> ∀ q, q ∈ u.hold t' -> q.1 ≠ c.B i (2 + 2 * j))
    (hH : ∀ q, q ∈ H -> q.1 ≠ c.B i (2 + 2 * j) -> q ∈ u.hold t) (hH2 : ∀ q, q ∈ u.hold t -> q.1 ≠ c.B i (2 + 2 * j) -> q ∈ H) (hH3 : ∀ q, q ∈ H -> q.1 = c.B i (2 + 2 * j) -> q.2 = x /\ (x % 4 = 1 \/ x % 4 = 3)) (hnd : (H.map Prod.fst).Nodup) (hH4 : x % 4 = 1 \/ x % 4 = 3 -> (c.B i (2 + 2 * j), x) ∈ H)
    (hk : ∀ q, q ∈ u.kept -> q ∈ kept') (hf : ∀ i' j', i' ≠ i \/ j' ≠ j -> fns' i' j' = u.fns i' j') (hf2 : x % 4 ≠ 0 -> FnOk c kept' (fns' i j)) :
    CInv c (dl + kind2 x - kind2 (v (c.B i (2 + 2 * j)))) n { u with hold := ut u.hold t H, fns := fns', kept := kept' } (ut v (c.B i (2 + 2 * j)) x) := by
  have e1 : ∀ i' j', i' < c.nC -> j' < 34 -> i' ≠ i \/ j' ≠ 2 + 2 * j -> ut v (c.B i (2 + 2 * j)) x (c.B i' j') = v (c.B i' j') := fun i' j' hi' hj' hne => ut_ne _ _ fun e => by
    obtain ⟨z1, z2⟩ := ok.inj _ _ _ _ hi' hj' hi (by omega) e
    omega
  refine ⟨fun i' j' hi' hj' => ?_, fun i' j' hi' hj' => ?_, fun i' hi' => ?_, fun i' hi' => ?_, fun t' q hq => ?_, fun t' => ?_, fun t1 t2 hne q hq q' hq' => ?_, fun i' j' hi' hj' hm => ?_, fun i' hi' hm => ?_, fun i' j' hi' hj' hm => ?_, fun t' e he => (I.tok t' e he).mono hk, ?_, I.out⟩
  · by_cases e : i' = i /\ j' = j
    · obtain ⟨rfl, rfl⟩ := e; rw [ut_same]; exact hx
    · rw [e1 i' _ hi' (by omega) (by omega)]; exact I.st i' j' hi' hj'
  · rw [e1 i' _ hi' (by omega) (by omega)]; exact I.due i' j' hi' hj'
  · rw [e1 i' _ hi' (by omega) (by omega)]; exact I.now i' hi'
  · rw [e1 i' _ hi' (by omega) (by omega)]; exact I.busy i' hi'
  · show ut v (c.B i (2 + 2 * j)) x q.1 = q.2 /\ HdOk c q
    have hq' : q ∈ ut u.hold t H t' := hq
    by_cases et : t' = t
    · subst et
      rw [ut_same] at hq'
      by_cases e : q.1 = c.B i (2 + 2 * j)
      · obtain ⟨z1, z2⟩ := hH3 q hq' e
        rw [e, ut_same]
        exact ⟨z1.symm, .inl ⟨i, j, hi, hj, e, by rw [z1]; exact z2⟩⟩
      · rw [ut_ne _ _ e]; exact I.hold t' q (hH q hq' e)
    · rw [ut_ne _ _ et] at hq'
      rw [ut_ne _ _ (hno t' et q hq')]; exact I.hold t' q hq'
  · show ((ut u.hold t H t').map Prod.fst).Nodup
    by_cases et : t' = t
    · subst et; rw [ut_same]; exact hnd
    · rw [ut_ne _ _ et]; exact I.nd t'
  · have a : q ∈ ut u.hold t H t1 := hq
    have b : q' ∈ ut u.hold t H t2 := hq'
    by_cases et : t1 = t
    · subst et
      rw [ut_same] at a
      rw [ut_ne _ _ (Ne.symm hne)] at b
      by_cases e : q.1 = c.B i (2 + 2 * j)
      · rw [e]; exact Ne.symm (hno t2 (Ne.symm hne) q' b)
      · exact I.dis t1 t2 hne q (hH q a e) q' b
    · rw [ut_ne _ _ et] at a
      by_cases et2 : t2 = t
      · subst et2
        rw [ut_same] at b
        by_cases e : q'.1 = c.B i (2 + 2 * j)
        · rw [e]; exact hno t1 et q a
        · exact I.dis t1 t2 hne q a q' (hH q' b e)
      · rw [ut_ne _ _ et2] at b
        exact I.dis t1 t2 hne q a q' b
  · show ∃ t', t' < c.nT /\ (_, _) ∈ ut u.hold t H t'
    by_cases e : i' = i /\ j' = j
    · obtain ⟨rfl, rfl⟩ := e
      rw [ut_same] at hm ⊢
      exact ⟨t, ht, by rw [ut_same]; exact hH4 hm⟩
    · have e2 := e1 i' (2 + 2 * j') hi' (by omega) (by omega)
      rw [e2] at hm ⊢
      obtain ⟨t', h1, h2⟩ := I.own i' j' hi' hj' hm
      refine ⟨t', h1, ?_⟩
      by_cases et : t' = t
      · subst et
        rw [ut_same]
        exact hH2 _ h2 fun z => by
          obtain ⟨z1, z2⟩ := ok.inj _ _ _ _ hi' (by omega) hi (by omega) z
          omega
      · rw [ut_ne _ _ et]; exact h2
  · show ∃ t', t' < c.nT /\ (_, _) ∈ ut u.hold t H t'
    rw [e1 i' 1 hi' (by omega) (by omega)] at hm
    obtain ⟨t', h1, h2⟩ := I.ownB i' hi' hm
    refine ⟨t', h1, ?_⟩
    by_cases et : t' = t
    · subst et
      rw [ut_same]
      exact hH2 _ h2 fun z => by
        obtain ⟨z1, z2⟩ := ok.inj _ _ _ _ hi' (by omega) hi (by omega) z
        omega
    · rw [ut_ne _ _ et]; exact h2
  · show FnOk c kept' (fns' i' j')
    by_cases e : i' = i /\ j' = j
    · obtain ⟨rfl, rfl⟩ := e
      rw [ut_same] at hm
      exact hf2 hm
    · rw [e1 i' _ hi' (by omega) (by omega)] at hm
      rw [hf i' j' (by omega)]
      exact (I.fn i' j' hi' hj' hm).mono hk
  · rw [CP.cnt_set ok hi hj]
    have := I.sum
    show cSum (fun t => dlsE c (u.told t)) c.nT + _ = _
    omega
theorem CInv.busies (ok : c.Ok) (I : CInv c dl n u v) {i t : Nat} {x : Int} {H : List (Nat × Int)} (hi : i < c.nC) (ht : t < c.nT) (hx : x = 0 \/ x = 1) (hno : ∀ t', t' ≠ t -> ∀ q, q ∈ u.hold t' -> q.1 ≠ c.B i 1)
    (hH : ∀ q, q ∈ H -> q.1 ≠ c.B i 1 -> q ∈ u.hold t) (hH2 : ∀ q, q ∈ u.hold t -> q.1 ≠ c.B i 1 -> q ∈ H) (hH3 : ∀ q, q ∈ H -> q.1 = c.B i 1 -> q.2 = x /\ x = 1) (hnd : (H.map Prod.fst).Nodup) (hH4 : x = 1 -> (c.B i 1, (1 : Int)) ∈ H) :
    CInv c dl n { u with hold := ut u.hold t H } (ut v (c.B i 1) x) := by
  have e1 : ∀ i' j', i' < c.nC -> j' < 34 -> i' ≠ i \/ j' ≠ 1 -> ut v (c.B i 1) x (c.B i' j') = v (c.B i' j') := fun i' j' hi' hj' hne => ut_ne _ _ fun e => by
    obtain ⟨z1, z2⟩ := ok.inj _ _ _ _ hi' hj' hi (by omega) e
    omega
  refine ⟨fun i' j' hi' hj' => ?_, fun i' j' hi' hj' => ?_, fun i' hi' => ?_, fun i' hi' => ?_, fun t' q hq => ?_, fun t' => ?_, fun t1 t2 hne q hq q' hq' => ?_, fun i' j' hi' hj' hm => ?_, fun i' hi' hm => ?_, fun i' j' hi' hj' hm => ?_, I.tok, ?_, I.out⟩
  · rw [e1 i' _ hi' (by omega) (by omega)]; exact I.st i' j' hi' hj'
  · rw [e1 i' _ hi' (by omega) (by omega)]; exact I.due i' j' hi' hj'
  · rw [e1 i' _ hi' (by omega) (by omega)]; exact I.now i' hi'
  · by_cases e : i' = i
    · subst e; rw [ut_same]; exact hx
    · rw [e1 i' _ hi' (by omega) (by omega)]; exact I.busy i' hi'
  · show ut v (c.B i 1) x q.1 = q.2 /\ HdOk c q
    have hq' : q ∈ ut u.hold t H t' := hq
    by_cases et : t' = t
    · subst et
      rw [ut_same] at hq'
      by_cases e : q.1 = c.B i 1
      · obtain ⟨z1, z2⟩ := hH3 q hq' e
        rw [e, ut_same]
        exact ⟨z1.symm, .inr ⟨i, hi, e, by rw [z1]; exact z2⟩⟩
      · rw [ut_ne _ _ e]; exact I.hold t' q (hH q hq' e)
    · rw [ut_ne _ _ et] at hq'
      rw [ut_ne _ _ (hno t' et q hq')]; exact I.hold t' q hq'
  · show ((ut u.hold t H t').map Prod.fst).Nodup
    by_cases et : t' = t
    · subst et; rw [ut_same]; exact hnd
    · rw [ut_ne _ _ et]; exact I.nd t'
  · have a : q ∈ ut u.hold t H t1 := hq
    have b : q' ∈ ut u.hold t H t2 := hq'
    by_cases et : t1 = t
    · subst et
      rw [ut_same] at a
      rw [ut_ne _ _ (Ne.symm hne)] at b
      by_cases e : q.1 = c.B i 1
      · rw [e]; exact Ne.symm (hno t2 (Ne.symm hne) q' b)
      · exact I.dis t1 t2 hne q (hH q a e) q' b
    · rw [ut_ne _ _ et] at a
      by_cases et2 : t2 = t
      · subst et2
        rw [ut_same] at b
        by_cases e : q'.1 = c.B i 1
        · rw [e]; exact hno t1 et q a
        · exact I.dis t1 t2 hne q a q' (hH q' b e)
      · rw [ut_ne _ _ et2] at b
        exact I.dis t1 t2 hne q a q' b
  · show ∃ t', t' < c.nT /\ (_, _) ∈ ut u.hold t H t'
    have e2 := e1 i' (2 + 2 * j') hi' (by omega) (by omega)
    rw [e2] at hm ⊢
    obtain ⟨t', h1, h2⟩ := I.own i' j' hi' hj' hm
    refine ⟨t', h1, ?_⟩
    by_cases et : t' = t
    · subst et
      rw [ut_same]
      exact hH2 _ h2 fun z => by
        obtain ⟨z1, z2⟩ := ok.inj _ _ _ _ hi' (by omega) hi (by omega) z
        omega
    · rw [ut_ne _ _ et]; exact h2
  · show ∃ t', t' < c.nT /\ (_, _) ∈ ut u.hold t H t'
    by_cases e : i' = i
    · subst e
      rw [ut_same] at hm
      exact ⟨t, ht, by rw [ut_same]; exact hH4 hm⟩
    · rw [e1 i' 1 hi' (by omega) (by omega)] at hm
      obtain ⟨t', h1, h2⟩ := I.ownB i' hi' hm
      refine ⟨t', h1, ?_⟩
      by_cases et : t' = t
      · subst et
        rw [ut_same]
        exact hH2 _ h2 fun z => by
          obtain ⟨z1, z2⟩ := ok.inj _ _ _ _ hi' (by omega) hi (by omega) z
          omega
      · rw [ut_ne _ _ et]; exact h2
  · rw [e1 i' _ hi' (by omega) (by omega)] at hm
    exact I.fn i' j' hi' hj' hm
  · rw [CP.cnt_other ok fun i' j' hi' hj' z => by
      obtain ⟨z1, z2⟩ := ok.inj _ _ _ _ hi (by omega) hi' (by omega) z
      omega]
    exact I.sum
theorem CInv.tell (I : CInv c dl n u v) {t : Nat} {e : TE} {tv' : Nat -> Value} {kept' : List (Nat × Obj)} (ht : t < c.nT) (hk : ∀ q, q ∈ u.kept -> q ∈ kept') (he : TEOk c kept' e) : CInv c (dl - dltE c e) n { u with told := ut u.told t (u.told t ++ [e]), tv := tv', kept := kept' } v := by
  refine ⟨I.st, I.due, I.now, I.busy, I.hold, I.nd, I.dis, I.own, I.ownB, fun i j hi hj hm => (I.fn i j hi hj hm).mono hk, fun t' x hx => ?_, ?_, fun t' h => ?_⟩
  · have hx' : x ∈ ut u.told t (u.told t ++ [e]) t' := hx
    by_cases et : t' = t
    · subst et
      rw [ut_same] at hx'
      rcases List.mem_append.1 hx' with z | z
      · exact (I.tok t' x z).mono hk
      · rw [List.mem_singleton.1 z]; exact he
    · rw [ut_ne _ _ et] at hx'
      exact (I.tok t' x hx').mono hk
  · have := I.sum
    show cSum (fun t' => dlsE c (ut u.told t (u.told t ++ [e]) t')) c.nT + (dl - dltE c e) = _
    rw [cSum_set (i := t) (f := fun t => dlsE c (u.told t)) (f' := fun t' => dlsE c (ut u.told t (u.told t ++ [e]) t')) ht fun j _ hne => by rw [ut_ne _ _ hne]]
    rw [ut_same, dlsE_snoc]
    omega
  · show ut u.told t (u.told t ++ [e]) t' = []
    rw [ut_ne _ _ (by omega)]
    exact I.out t' h
theorem CInv.keep (I : CInv c dl n u v) {th' : Nat -> Value} {kept' : List (Nat × Obj)} (hk : ∀ q, q ∈ u.kept -> q ∈ kept') : CInv c dl n { u with th := th', kept := kept' } v :=
  ⟨I.st, I.due, I.now, I.busy, I.hold, I.nd, I.dis, I.own, I.ownB, fun i j hi hj hm => (I.fn i j hi hj hm).mono hk, fun t x hx => (I.tok t x hx).mono hk, I.sum, I.out⟩
end
end
section
open Go Go.TJ Go.Conc Go.Proofs
structure ClkP (h : Hp) (c : Nat) (B : Nat -> Nat) (fns : Nat -> Value) : Prop where
  obj : ∃ cs, h[c]? = some (.cells cs 151 (0, 0))
  pnow : hcell h ⟨c, 0, none⟩ = some (ptr (B 0))
  pbusy : hcell h ⟨c, 1, none⟩ = some (ptr (B 1))
  pst : ∀ i, i < 16 -> hcell h ⟨c, 2 + i * 3, none⟩ = some (ptr (B (2 + 2 * i)))
  pdu : ∀ i, i < 16 -> hcell h ⟨c, 2 + i * 3 + 1, none⟩ = some (ptr (B (3 + 2 * i)))
  pf : ∀ i, i < 16 -> hcell h ⟨c, 2 + i * 3 + 2, none⟩ = some (fns i)
theorem chcell_same {h h' : Hp} {a : Addr} (hb : h'[a.block]? = h[a.block]?) : TJ.hcell h' a = TJ.hcell h a := by
  unfold TJ.hcell
  rw [hb]
theorem ClkP.same {h h' : Hp} {c : Nat} {B : Nat -> Nat} {fns : Nat -> Value} (k : ClkP h c B fns) (hb : h'[c]? = h[c]?) : ClkP h' c B fns := by
  have e : ∀ o, hcell h' ⟨c, o, none⟩ = hcell h ⟨c, o, none⟩ := fun o => chcell_same hb
  obtain ⟨cs, hcs⟩ := k.obj
  exact ⟨⟨cs, hb.trans hcs⟩, (e _).trans k.pnow, (e _).trans k.pbusy, fun i hi => (e _).trans (k.pst i hi), fun i hi => (e _).trans (k.pdu i hi), fun i hi => (e _).trans (k.pf i hi)⟩
theorem ClkP.setF {h : Hp} {c : Nat} {B : Nat -> Nat} {fns : Nat -> Value} (k : ClkP h c B fns) {i : Nat} (hi : i < 16) (v : Value) : ClkP (hset h ⟨c, 2 + i * 3 + 2, none⟩ v) c B (ut fns i v) := by
  have hc := k.pf i hi
  obtain ⟨cs, hcs⟩ := k.obj
  have o : ∀ q, q ≠ 2 + i * 3 + 2 -> hcell (hset h ⟨c, 2 + i * 3 + 2, none⟩ v) ⟨c, q, none⟩ = hcell h ⟨c, q, none⟩ := fun q hq => hset_cell_ne _ _ _ _ (by simp; omega) ⟨_, hc⟩
  refine ⟨⟨_, hset_same h ⟨c, 2 + i * 3 + 2, none⟩ v hcs rfl⟩, by rw [o _ (by omega)]; exact k.pnow, by rw [o _ (by omega)]; exact k.pbusy, fun q hq => by rw [o _ (by omega)]; exact k.pst q hq, fun q hq => by rw [o _ (by omega)]; exact k.pdu q hq, fun q hq => ?_⟩
  by_cases e : q = i
  · subst e; rw [ut_same]; exact hcell_hset_same hc
  · rw [ut_ne _ _ e, o _ (by omega)]; exact k.pf q hq
theorem ClkP.froz {h : Hp} {c : Nat} {B : Nat -> Nat} {fns : Nat -> Value} (k : ClkP h c B fns) (o : Nat) : hfroz h ⟨c, o, none⟩ = false := by
  obtain ⟨cs, hcs⟩ := k.obj; exact hfroz_of hcs
def encE (e : TE) : List Value := [.int .i64 e.s, .int .i64 e.at_, e.vv, .int .i64 e.kd, .int .i64 e.nm, nilS]
def handO (th tv : Value) : Obj := .cells #[th, nilS, tv] 50 (0, 0)
structure CD where
  c : CP
  hN : Hp
  ex : Nat -> Prop
  hb : Nat -> Nat
  v0 : Nat -> Int
def CD.isC (d : CD) (b : Nat) : Prop := (∃ i j, i < d.c.nC /\ j < 34 /\ b = d.c.B i j) \/ ∃ k, k < d.c.nK /\ b = d.c.K k
def CD.base (d : CD) (b : Nat) : Prop := b < d.hN.size /\ ¬ d.isC b /\ ¬ d.ex b
def CD.old (d : CD) (b : Nat) : Prop := d.base b /\ (∀ i, i < d.c.nC -> b ≠ d.c.C i) /\ ∀ t, t < 64 -> b ≠ d.hb t
structure CD.Ok (d : CD) : Prop where
  c : d.c.Ok
  C : ∀ i, i < d.c.nC -> d.base (d.c.C i)
  hb : ∀ t, t < 64 -> d.base (d.hb t)
  Ci : ∀ i j, i < d.c.nC -> j < d.c.nC -> d.c.C i = d.c.C j -> i = j
  hi : ∀ i j, i < 64 -> j < 64 -> d.hb i = d.hb j -> i = j
  Ch : ∀ i t, i < d.c.nC -> t < 64 -> d.c.C i ≠ d.hb t
  nT : d.c.nT <= 64
structure CMI (d : CD) (u : CU) (h : Hp) : Prop where
  old : ∀ b, d.old b -> h[b]? = d.hN[b]?
  clk : ∀ i, i < d.c.nC -> ClkP h (d.c.C i) (d.c.B i) (u.fns i)
  hnd : ∀ t, t < 64 -> h[d.hb t]? = some (handO (u.th t) (u.tv t))
  sl : ∀ t, t < 64 -> SliceO h (u.tv t) 129 6 (u.told t).length ((u.told t).flatMap encE)
  kept : ∀ q, q ∈ u.kept -> h[q.1]? = some q.2
  newt : ∀ t b, t < 64 -> blk (u.tv t) = some b -> ¬ d.isC b /\ ¬ d.base b
  newk : ∀ q, q ∈ u.kept -> ¬ d.isC q.1 /\ ¬ d.base q.1
  tk : ∀ t b, t < 64 -> blk (u.tv t) = some b -> ∀ q, q ∈ u.kept -> q.1 ≠ b
  tt : ∀ t t' b, t < 64 -> t' < 64 -> t ≠ t' -> blk (u.tv t) = some b -> blk (u.tv t') ≠ some b
def CDom (d : CD) (u : CU) (b : Nat) : Prop := d.base b \/ (¬ d.isC b /\ ((∃ t, t < 64 /\ blk (u.tv t) = some b) \/ ∃ q, q ∈ u.kept /\ q.1 = b))
def XC (d : CD) : Us where
  U := CU
  isC := d.isC
  Dom := CDom d
  I := CMI d
  J := fun l u v => CInv d.c 0 l.length u v
  V := fun i u u' => u'.hold i = u.hold i /\ u'.told i = u.told i /\ u'.tv i = u.tv i /\ u'.th i = u.th i /\ ∀ q, q ∈ u.kept -> q ∈ u'.kept
  Q := fun i _ s u => match s with | .over => u.hold i = [] /\ (u.told i).length <= 2031647 | .born => u.hold i = [] /\ u.told i = [] | _ => True
theorem SliceO.same5 {h h' : Hp} {s : Value} {e sz n : Nat} {cells : List Value} (x : SliceO h s e sz n cells) (hb : ∀ b, blk s = some b -> h'[b]? = h[b]?) : SliceO h' s e sz n cells := by
  refine ⟨x.1, x.2.imp id ?_⟩
  rintro ⟨b, cap, rest, rfl, h1, h2, h3⟩
  exact ⟨b, cap, rest, rfl, h1, h2, (hb b rfl).trans h3⟩
section
variable {d : CD} {u u' : CU} {h h' : Hp} {i : Nat} {γ γ' : GG (XC d)} {L L' : List (Nat × Obj)} {dl : Int}
theorem xc_ok (ok : d.Ok) : (XC d).Ok where
  vrefl := fun _ _ => ⟨rfl, rfl, rfl, rfl, fun _ h => h⟩
  vtrans := fun _ _ _ _ h1 h2 => ⟨h2.1.trans h1.1, h2.2.1.trans h1.2.1, h2.2.2.1.trans h1.2.2.1, h2.2.2.2.1.trans h1.2.2.2.1, fun q hq => h2.2.2.2.2 q (h1.2.2.2.2 q hq)⟩
  loc := fun u h h' hb I => by
    have I' : CMI d u h := I
    have hb' : ∀ b, d.base b -> h'[b]? = h[b]? := fun b x => hb b (.inl x)
    exact ⟨fun b h1 => (hb' b h1.1).trans (I'.old b h1), fun i hi => (I'.clk i hi).same (hb' _ (ok.C i hi)), fun t ht => (hb' _ (ok.hb t ht)).trans (I'.hnd t ht), fun t ht => SliceO.same5 (I'.sl t ht) fun b e => hb b (.inr ⟨(I'.newt t b ht e).1, .inl ⟨t, ht, e⟩⟩), fun q hq => (hb _ (.inr ⟨(I'.newk q hq).1, .inr ⟨q, hq, rfl⟩⟩)).trans (I'.kept q hq), I'.newt, I'.newk, I'.tk, I'.tt⟩
  stab := fun i l s u u' hv hq => by
    cases s with
    | over => show u'.hold i = [] /\ (u'.told i).length <= 2031647; rw [hv.1, hv.2.1]; exact hq
    | born => show u'.hold i = [] /\ u'.told i = []; rw [hv.1, hv.2.1]; exact hq
    | _ => trivial
  dis := fun u b hd hc => by
    rcases hd with x | x
    · exact x.2.1 hc
    · exact x.1 hc
structure AtC (d : CD) (i : Nat) (γ : GG (XC d)) (u : CU) (L : List (Nat × Obj)) (h : Hp) (dl : Int) : Prop where
  thr : Thr (XC d) i γ u L h
  inv : CInv d.c dl (γ.p.acc i).log.length u (γ.p.acc i).val
  lt : i < d.c.nT
theorem AtC.I (a : AtC d i γ u L h dl) : CMI d u h := a.thr.I
structure GoS (d : CD) (i s : Nat) (γ : GG (XC d)) (u : CU) (γ' : GG (XC d)) (u' : CU) : Prop where
  al : Along (XC d) i γ.p γ'.p
  hold : u'.hold i = u.hold i
  th : u'.th i = u.th i
  kept : ∀ q, q ∈ u.kept -> q ∈ u'.kept
  len : (ownOf i (γ.p.acc i).log).length <= (ownOf i (γ'.p.acc i).log).length
  tol : (u'.told i).length + 31 * (ownOf i (γ.p.acc i).log).length <= (u.told i).length + 31 * (ownOf i (γ'.p.acc i).log).length + s
abbrev Go_ (d : CD) (i : Nat) (γ : GG (XC d)) (u : CU) (γ' : GG (XC d)) (u' : CU) : Prop := GoS d i 0 γ u γ' u'
theorem Go_.refl (d : CD) (i : Nat) (γ : GG (XC d)) (u : CU) : Go_ d i γ u γ u := ⟨Along.refl _ _, rfl, rfl, fun _ h => h, Nat.le_refl _, Nat.le_refl _⟩
theorem GoS.trans2 {s s1 : Nat} {γ1 γ2 : GG (XC d)} {u1 u2 : CU} (a : GoS d i s γ u γ1 u1) (b : GoS d i s1 γ1 u1 γ2 u2) : GoS d i (s + s1) γ u γ2 u2 := ⟨a.al.trans b.al, b.hold.trans a.hold, b.th.trans a.th, fun q hq => b.kept q (a.kept q hq), Nat.le_trans a.len b.len, by have := a.tol; have := b.tol; omega⟩
theorem GoS.trans {s : Nat} {γ1 γ2 : GG (XC d)} {u1 u2 : CU} (a : GoS d i s γ u γ1 u1) (b : Go_ d i γ1 u1 γ2 u2) : GoS d i s γ u γ2 u2 := a.trans2 b
theorem CInv.eqv {c : CP} {dl : Int} {n : Nat} {u : CU} {v v' : Nat -> Int} (I : CInv c dl n u v) (e : v' = v) : CInv c dl n u v' := e ▸ I
structure Hit (d : CD) (i : Nat) (γ : GG (XC d)) (u : CU) (L : List (Nat × Obj)) (r : Rq) (γ' : GG (XC d)) (h' : Hp) : Prop where
  thr : Thr (XC d) i γ' γ'.p.u L h'
  inv : CInv d.c 0 γ'.p.log.length γ'.p.u γ'.p.val
  go : Go_ d i γ u γ' γ'.p.u
  told : γ'.p.u.told i = u.told i
  lt : i < d.c.nT
  val : (γ'.p.acc i).val = ut γ'.p.val r.b (behind r.op (γ'.p.val r.b) r.arg r.new).1
  log : (γ'.p.acc i).log.length = γ'.p.log.length + 1
  len : (ownOf i (γ.p.acc i).log).length < (ownOf i (γ'.p.acc i).log).length
  big : γ'.p.log.length < 65536
theorem Hit.of (a : AtC d i γ u L h 0) {r : Rq} (T : Thr (XC d) i γ' γ'.p.u L h') (st : Stood (XC d) i γ u r γ') : Hit d i γ u L r γ' h' := by
  have ha := acc_stands γ'.p i st.st
  have hV : (XC d).V i u γ'.p.u := st.V
  have hl : (ownOf i (γ.p.acc i).log).length < (ownOf i (γ'.p.acc i).log).length := by rw [st.after]; simp
  refine ⟨T, T.J, ⟨st.al, hV.1, hV.2.2.2.1, hV.2.2.2.2, Nat.le_of_lt hl, by rw [hV.2.1]; omega⟩, hV.2.1, a.lt, by rw [ha], by rw [ha]; simp, hl, T.len⟩
theorem Hit.at_ {r : Rq} (x : Hit d i γ u L r γ' h') (e : (γ'.p.acc i).val = γ'.p.val) : AtC d i γ' γ'.p.u L h' 0 :=
  ⟨x.thr, (x.inv.mono (by rw [x.log]; omega)).eqv e, x.lt⟩
theorem AtC.asks (a : AtC d i γ u L h 0) (r : Rq) : Asks (XC d) i γ u r := ⟨trivial, a.inv⟩
theorem coload (ok : d.Ok) (a : AtC d i γ u L h 0) {b : Nat} (hb : d.isC b) {t : Nat} (ht : t = γ.p.tb i) : CallW Try.prog false (SitT Try.prog (PX (XC d)) (i + 1)) 34 #[ptr b, ptr t] h ⟨0, γ⟩ (RetP (fun w h' δ' => ∃ γ' : GG (XC d), δ' = ⟨0, γ'⟩ /\ w = .int .i64 (γ'.p.val b) /\ AtC d i γ' γ'.p.u L h' 0 /\ Go_ d i γ u γ' γ'.p.u /\ CInv d.c 0 γ'.p.log.length γ'.p.u γ'.p.val /\ (ownOf i (γ.p.acc i).log).length < (ownOf i (γ'.p.acc i).log).length /\ γ'.p.log.length < 65536) (Halt (XC d) i γ.p)) := by
  subst ht
  refine (cloadT (xc_ok ok) a.thr hb (a.asks _)).conseqP ?_
  rintro w h' δ' ⟨γ', rfl, T, st, rfl⟩
  have x := Hit.of a T st
  exact ⟨γ', rfl, rfl, x.at_ (by rw [x.val]; exact ut_self _ _), x.go, x.inv, x.len, x.big⟩
theorem costore (ok : d.Ok) (a : AtC d i γ u L h 0) {b : Nat} {v : Int} (hb : d.isC b) {t : Nat} (ht : t = γ.p.tb i) : CallW Try.prog false (SitT Try.prog (PX (XC d)) (i + 1)) 33 #[ptr b, ptr t, .int .i64 v] h ⟨0, γ⟩ (RetP (fun w h' δ' => ∃ γ' : GG (XC d), δ' = ⟨0, γ'⟩ /\ w = .tuple #[] /\ Hit d i γ u L ⟨2, b, v, 0⟩ γ' h' /\ (γ'.p.acc i).val = ut γ'.p.val b v) (Halt (XC d) i γ.p)) := by
  subst ht
  refine (cstoreT (xc_ok ok) a.thr hb (a.asks _)).conseqP ?_
  rintro w h' δ' ⟨γ', rfl, T, st, rfl⟩
  have x := Hit.of a T st
  exact ⟨γ', rfl, rfl, x, x.val⟩
theorem cocas (ok : d.Ok) (a : AtC d i γ u L h 0) {b : Nat} {v n : Int} (hb : d.isC b) {t : Nat} (ht : t = γ.p.tb i) : CallW Try.prog false (SitT Try.prog (PX (XC d)) (i + 1)) 79 #[ptr b, ptr t, .int .i64 v, .int .i64 n] h ⟨0, γ⟩ (RetP (fun w h' δ' => ∃ γ' : GG (XC d), δ' = ⟨0, γ'⟩ /\ ((w = .bool false /\ γ'.p.val b ≠ v /\ AtC d i γ' γ'.p.u L h' 0 /\ Go_ d i γ u γ' γ'.p.u /\ CInv d.c 0 γ'.p.log.length γ'.p.u γ'.p.val /\ (ownOf i (γ.p.acc i).log).length < (ownOf i (γ'.p.acc i).log).length) \/
    (w = .bool true /\ γ'.p.val b = v /\ Hit d i γ u L ⟨3, b, v, n⟩ γ' h' /\ (γ'.p.acc i).val = ut γ'.p.val b n))) (Halt (XC d) i γ.p)) := by
  subst ht
  refine (ccasT (xc_ok ok) a.thr hb (a.asks _)).conseqP ?_
  rintro w h' δ' ⟨γ', rfl, T, st, rfl⟩
  have x := Hit.of a T st
  have hv := x.val
  by_cases e : γ'.p.val b = v
  · refine ⟨γ', rfl, .inr ⟨by simp [e], e, x, ?_⟩⟩
    rw [hv]
    simp [behind, e]
  · refine ⟨γ', rfl, .inl ⟨by simp [e], e, x.at_ ?_, x.go, x.inv, x.len⟩⟩
    rw [hv]
    simp [behind, e, ut_self]
theorem coadd (ok : d.Ok) (a : AtC d i γ u L h 0) {b : Nat} {v : Int} (hb : d.isC b) {t : Nat} (ht : t = γ.p.tb i) : CallW Try.prog false (SitT Try.prog (PX (XC d)) (i + 1)) 93 #[ptr b, ptr t, .int .i64 v] h ⟨0, γ⟩ (RetP (fun w h' δ' => ∃ (γ' : GG (XC d)) (z : Int), δ' = ⟨0, γ'⟩ /\ w = .int .i64 z /\ Hit d i γ u L ⟨4, b, v, 0⟩ γ' h' /\ (γ'.p.acc i).val = ut γ'.p.val b z) (Halt (XC d) i γ.p)) := by
  subst ht
  refine (caddT (xc_ok ok) a.thr hb (a.asks _)).conseqP ?_
  rintro w h' δ' ⟨γ', rfl, T, st, rfl⟩
  have x := Hit.of a T st
  exact ⟨γ', _, rfl, rfl, x, x.val⟩
end
end
section
open Go Go.TJ Go.Conc Go.Proofs
section
variable {X : Us} {h h' : Hp} {i : Nat} {γ : GG X} {u : X.U} {L : List (Nat × Obj)}
theorem Thr.privC (T : Thr X i γ u L h) : (∀ q, q ∈ L -> h[q.1]? = some q.2 /\ ¬ X.Dom u q.1) /\ ∀ b, X.Dom u b -> b < h.size := by
  obtain ⟨s, M, g⟩ := T.gi
  have hn : i < ({ γ.p.acc i with u := u, prv := ut (γ.p.acc i).prv i L } : PS X.U).num := by show i < (γ.p.acc i).num; rw [(acc_same γ.p i).2.2.1]; exact T.lt
  refine ⟨fun q hq => ?_, fun b hb => (g.dom b hb).1⟩
  have := g.prv i hn q (by show q ∈ ut (γ.p.acc i).prv i L i; rw [ut_same]; exact hq)
  exact ⟨this.1, this.2.2.2.2⟩
theorem Thr.priC {L' : List (Nat × Obj)} (hX : X.Ok) (T : Thr X i γ u L h) (hu : Upd (fun b => ∃ q, q ∈ L /\ q.1 = b) h h') (h2 : ∀ q, q ∈ L' -> h'[q.1]? = some q.2 /\ ∃ q0, q0 ∈ L /\ q0.1 = q.1) : Thr X i γ u L' h' := by
  obtain ⟨p1, p3⟩ := T.privC
  refine T.user hX (u' := u) (L' := L') (hu.mono fun b _ e => .inr e) (fun b hb => ⟨.inl hb, Nat.lt_of_lt_of_le (p3 b hb) hu.size⟩) (fun q hq => ?_) (hX.loc _ _ _ (fun b hb => hu.2 b (p3 b hb) (fun ⟨q, hq, e⟩ => (p1 q hq).2 (e ▸ hb))) T.I) (fun x _ => hX.vrefl _ _)
  obtain ⟨y1, q0, hq0, e⟩ := h2 q hq
  exact ⟨y1, .inl ⟨q0, hq0, e⟩, by rw [<- e]; exact (p1 q0 hq0).2⟩
end
section
variable {d : CD} {u u' : CU} {h h' : Hp} {i : Nat} {γ γ' : GG (XC d)} {L L' : List (Nat × Obj)} {dl : Int}
theorem AtC.upd0 (ok : d.Ok) (a : AtC d i γ u L h dl) (hu : Upd (fun _ => False) h h') : AtC d i γ u L h' dl := ⟨a.thr.upd0 (xc_ok ok) hu, a.inv, a.lt⟩
theorem AtC.alloc (ok : d.Ok) (a : AtC d i γ u L h dl) (o : Obj) : AtC d i γ u ((h.size, o) :: L) (h.push o) dl := ⟨a.thr.alloc (xc_ok ok) o, a.inv, a.lt⟩
theorem AtC.sub (ok : d.Ok) (a : AtC d i γ u L h dl) (hs : ∀ q, q ∈ L' -> q ∈ L) : AtC d i γ u L' h dl :=
  ⟨a.thr.priC (xc_ok ok) (Upd.refl _ _) fun q hq => ⟨(a.thr.privC.1 q (hs q hq)).1, q, hs q hq, rfl⟩, a.inv, a.lt⟩
theorem AtC.drop (ok : d.Ok) {q : Nat × Obj} (a : AtC d i γ u (q :: L) h dl) : AtC d i γ u L h dl := a.sub ok fun q hq => List.mem_cons_of_mem _ hq
theorem AtC.own (a : AtC d i γ u L h dl) {q : Nat × Obj} (hq : q ∈ L) : h[q.1]? = some q.2 := (a.thr.privC.1 q hq).1
theorem AtC.ltL (a : AtC d i γ u L h dl) {q : Nat × Obj} (hq : q ∈ L) : q.1 < h.size := lt_of_get (a.own hq)
theorem AtC.dom (a : AtC d i γ u L h dl) {b : Nat} (hb : CDom d u b) : b < h.size := a.thr.privC.2 b hb
theorem AtC.put (ok : d.Ok) {y : Nat} {o0 o : Obj} (a : AtC d i γ u ((y, o0) :: L) h dl) (hn : ∀ q, q ∈ L -> q.1 ≠ y) : AtC d i γ u ((y, o) :: L) (h.setIfInBounds y o) dl := by
  refine ⟨a.thr.priC (xc_ok ok) (Upd.set _ _ _ ⟨_, List.mem_cons_self, rfl⟩) fun q hq => ?_, a.inv, a.lt⟩
  rcases List.mem_cons.1 hq with rfl | hq
  · exact ⟨get_set_same (a.own List.mem_cons_self), _, List.mem_cons_self, rfl⟩
  · exact ⟨by rw [get_set_ne _ (Ne.symm (hn q hq))]; exact a.own (List.mem_cons_of_mem _ hq), q, List.mem_cons_of_mem _ hq, rfl⟩
theorem AtC.fresh (a : AtC d i γ u L h dl) : ∀ q, q ∈ L -> q.1 ≠ h.size := fun q hq e => by have := a.ltL hq; omega
theorem AtC.free (a : AtC d i γ u L h dl) {b o : Nat} (hb : CDom d u b \/ (∃ q, q ∈ L /\ q.1 = b) \/ h.size <= b) : ¬ (SitT Try.prog (PX (XC d)) (i + 1)).still γ ⟨b, o, none⟩ :=
  a.thr.free (hb.elim .inl fun x => .inr (.inr x))
theorem AtC.cel (a : AtC d i γ u L h dl) {b : Nat} (hb : d.isC b) : b < h.size := by
  obtain ⟨v, hv⟩ := a.thr.celC hb
  exact lt_of_get hv
theorem AtC.new (a : AtC d i γ u L h dl) {b : Nat} (hb : h.size <= b) : ¬ d.isC b /\ ¬ d.base b := ⟨fun x => by have := a.cel x; omega, fun x => by have := a.dom (.inl x); omega⟩
theorem AtC.keep (ok : d.Ok) (a : AtC d i γ u L h dl) (o : Obj) : AtC d i γ { u with kept := u.kept ++ [(h.size, o)] } L (h.push o) dl := by
  have I := a.I
  have hu : Upd (fun _ => False) h (h.push o) := Upd.push h o
  have hk : ∀ q, q ∈ u.kept -> q ∈ u.kept ++ [(h.size, o)] := fun q hq => List.mem_append_left _ hq
  let u' : CU := { u with kept := u.kept ++ [(h.size, o)] }
  have hlt : ∀ b, CDom d u b -> b < h.size := fun b hb => a.dom hb
  have same : ∀ b, CDom d u b -> (h.push o)[b]? = h[b]? := fun b hb => hu.2 b (hlt b hb) (fun x => x)
  have I2 : CMI d u (h.push o) := (xc_ok ok).loc u h (h.push o) same I
  have hd : ∀ b, CDom d u' b -> CDom d u b \/ b = h.size := fun b hb => by
    rcases hb with x | ⟨x1, x | ⟨q, hq, e⟩⟩
    · exact .inl (.inl x)
    · exact .inl (.inr ⟨x1, .inl x⟩)
    · rcases List.mem_append.1 hq with z | z
      · exact .inl (.inr ⟨x1, .inr ⟨q, z, e⟩⟩)
      · rw [List.mem_singleton.1 z] at e; exact .inr e.symm
  refine ⟨a.thr.user (xc_ok ok) (u' := u') (L' := L) (hu.mono fun _ _ x => x.elim) (fun b hb => ?_) (fun q hq => ⟨?_, .inl ⟨q, hq, rfl⟩, fun z => ?_⟩) ⟨I2.old, I2.clk, I2.hnd, I2.sl, fun q hq => ?_, I2.newt, fun q hq => ?_, fun t b ht hb q hq => ?_, I2.tt⟩ (fun x _ => ⟨rfl, rfl, rfl, rfl, hk⟩), a.inv.keep hk, a.lt⟩
  · rcases hd b hb with x | x
    · exact ⟨.inl x, by rw [Array.size_push]; have := hlt b x; omega⟩
    · exact ⟨.inr (by omega), by rw [Array.size_push]; omega⟩
  · rw [hu.2 _ (a.ltL hq) (fun x => x)]; exact a.own hq
  · rcases hd q.1 z with x | x
    · exact (a.thr.privC.1 q hq).2 x
    · have := a.ltL hq; omega
  · rcases List.mem_append.1 hq with z | z
    · exact I2.kept q z
    · rw [List.mem_singleton.1 z]; exact get_push_new h o
  · rcases List.mem_append.1 hq with z | z
    · exact I.newk q z
    · rw [List.mem_singleton.1 z]; exact a.new (Nat.le_refl _)
  · rcases List.mem_append.1 hq with z | z
    · exact I.tk t b ht hb q z
    · rw [List.mem_singleton.1 z]
      intro e
      have h1 : b < h.size := SliceO.lt (I.sl t ht) hb
      change h.size = b at e
      omega
theorem thr_hold (ok : d.Ok) (T : Thr (XC d) i γ u L h) (H : List (Nat × Int)) : Thr (XC d) i γ { u with hold := ut u.hold i H } L h := by
  have I : CMI d u h := T.I
  exact T.user (xc_ok ok) (u' := { u with hold := ut u.hold i H }) (L' := L) (Upd.refl _ _) (fun b hb => ⟨.inl hb, T.privC.2 b hb⟩) (fun q hq => ⟨(T.privC.1 q hq).1, .inl ⟨q, hq, rfl⟩, (T.privC.1 q hq).2⟩) ⟨I.old, I.clk, I.hnd, I.sl, I.kept, I.newt, I.newk, I.tk, I.tt⟩ (fun x hx => ⟨ut_ne _ _ hx, rfl, rfl, rfl, fun _ h => h⟩)
theorem Hit.plain {r : Rq} {x : Int} (ok : d.Ok) (g : Hit d i γ u L r γ' h') (hv : (γ'.p.acc i).val = ut γ'.p.val r.b x) (hs : ∀ i j, i < d.c.nC -> j < 16 -> r.b ≠ d.c.B i (2 + 2 * j)) (hb : ∀ i, i < d.c.nC -> r.b ≠ d.c.B i 1) (hx : (∀ i j, i < d.c.nC -> j < 34 -> r.b ≠ d.c.B i j) \/ (0 <= x /\ x <= 4611686018427387904)) : AtC d i γ' γ'.p.u L h' 0 :=
  ⟨g.thr, (((g.inv.other ok.c hs hb hx).mono (by rw [g.log]; omega)).eqv hv), g.lt⟩
theorem nd_cons {b : Nat} {x : Int} {H : List (Nat × Int)} (h : (H.map Prod.fst).Nodup) (hn : ∀ q, q ∈ H -> q.1 ≠ b) : (((b, x) :: H).map Prod.fst).Nodup := by
  rw [List.map_cons, List.nodup_cons]
  refine ⟨fun z => ?_, h⟩
  obtain ⟨q, hq, e⟩ := List.mem_map.1 z
  exact hn q hq e
theorem nd_tail {q0 : Nat × Int} {H : List (Nat × Int)} (h : ((q0 :: H).map Prod.fst).Nodup) : (H.map Prod.fst).Nodup /\ ∀ q, q ∈ H -> q.1 ≠ q0.1 := by
  rw [List.map_cons, List.nodup_cons] at h
  exact ⟨h.2, fun q hq e => h.1 (List.mem_map.2 ⟨q, hq, e⟩)⟩
theorem Hit.popS {r : Rq} {id j : Nat} {y : Int} {H : List (Nat × Int)} (ok : d.Ok) (g : Hit d i γ u L r γ' h') (hi : id < d.c.nC) (hj : j < 16) (hb : r.b = d.c.B id (2 + 2 * j)) (hv : (γ'.p.acc i).val = ut γ'.p.val r.b (y + 1)) (hh : u.hold i = (d.c.B id (2 + 2 * j), y) :: H) (hy : y % 4 = 1 \/ y % 4 = 3) :
    AtC d i γ' { γ'.p.u with hold := ut γ'.p.u.hold i H } L h' (kind2 (y + 1)) /\ Go_ d i { γ with p := γ.p } { u with hold := ut u.hold i H } γ' { γ'.p.u with hold := ut γ'.p.u.hold i H } := by
  have hh' : γ'.p.u.hold i = (d.c.B id (2 + 2 * j), y) :: H := g.go.hold.trans hh
  obtain ⟨hvy, -⟩ := g.inv.hold i (d.c.B id (2 + 2 * j), y) (by rw [hh']; exact List.mem_cons_self)
  change γ'.p.val (d.c.B id (2 + 2 * j)) = y at hvy
  have nd := g.inv.nd i
  rw [hh'] at nd
  obtain ⟨nd1, nd2⟩ := nd_tail nd
  have hst := g.inv.st id j hi hj
  rw [hvy] at hst
  have J := g.inv.mono (n' := γ'.p.log.length + 1) (by omega)
  have J2 := J.state ok.c (i := id) (j := j) (t := i) (x := y + 1) (H := H) (fns' := γ'.p.u.fns) (kept' := γ'.p.u.kept) hi hj g.lt ⟨by omega, by omega⟩ (fun t' ht q hq e => J.dis t' i ht q hq (d.c.B id (2 + 2 * j), y) (by rw [hh']; exact List.mem_cons_self) e)
    (fun q hq _ => by rw [hh']; exact List.mem_cons_of_mem _ hq) (fun q hq hne => by
      rw [hh'] at hq
      rcases List.mem_cons.1 hq with rfl | z
      · exact absurd rfl hne
      · exact z) (fun q hq e => absurd e (nd2 q hq)) nd1 (fun z => by omega) (fun q hq => hq) (fun _ _ _ => rfl) (fun _ => J.fn id j hi hj (by rw [hvy]; omega))
  rw [hvy] at J2
  refine ⟨⟨thr_hold ok g.thr H, ?_, g.lt⟩, ⟨g.go.al, by show ut γ'.p.u.hold i H i = ut u.hold i H i; rw [ut_same, ut_same], g.go.th, g.go.kept, g.go.len, g.go.tol⟩⟩
  rw [g.log, hv, hb]
  have e : (0 : Int) + kind2 (y + 1) - kind2 y = kind2 (y + 1) := by
    have : kind2 y = 0 := by unfold kind2; rw [if_neg (by omega)]
    omega
  rw [<- e]
  exact J2
theorem Hit.stopS {r : Rq} {id j : Nat} {y : Int} (ok : d.Ok) (g : Hit d i γ u L r γ' h') (hi : id < d.c.nC) (hj : j < 16) (hb : r.b = d.c.B id (2 + 2 * j)) (hy0 : γ'.p.val r.b = y) (hv : (γ'.p.acc i).val = ut γ'.p.val r.b (y + 2)) (hy : y % 4 = 2) : AtC d i γ' γ'.p.u L h' (-1) := by
  rw [hb] at hy0
  have hst := g.inv.st id j hi hj
  rw [hy0] at hst
  have J := g.inv.mono (n' := γ'.p.log.length + 1) (by omega)
  have fr := J.free ok.c hi hj (by rw [hy0]; omega)
  have J2 := J.state ok.c (i := id) (j := j) (t := i) (x := y + 2) (H := γ'.p.u.hold i) (fns' := γ'.p.u.fns) (kept' := γ'.p.u.kept) hi hj g.lt ⟨by omega, by omega⟩ (fun t' _ q hq => fr t' q hq) (fun q hq _ => hq) (fun q hq _ => hq) (fun q hq e => absurd e (fr i q hq)) (J.nd i) (fun z => by omega) (fun q hq => hq) (fun _ _ _ => rfl) (fun z => by omega)
  rw [ut_self, hy0] at J2
  refine ⟨g.thr, ?_, g.lt⟩
  rw [g.log, hv, hb]
  have e : (0 : Int) + kind2 (y + 2) - kind2 y = -1 := by
    unfold kind2; rw [if_neg (by omega), if_pos hy]; rfl
  rw [<- e]
  exact J2
theorem Hit.ringS {r : Rq} {id j : Nat} {y : Int} (ok : d.Ok) (g : Hit d i γ u L r γ' h') (hi : id < d.c.nC) (hj : j < 16) (hb : r.b = d.c.B id (2 + 2 * j)) (hy0 : γ'.p.val r.b = y) (hv : (γ'.p.acc i).val = ut γ'.p.val r.b (y + 1)) (hy : y % 4 = 2) :
    AtC d i γ' { γ'.p.u with hold := ut γ'.p.u.hold i ((d.c.B id (2 + 2 * j), y + 1) :: γ'.p.u.hold i) } L h' (-1) := by
  rw [hb] at hy0
  have hst := g.inv.st id j hi hj
  rw [hy0] at hst
  have J := g.inv.mono (n' := γ'.p.log.length + 1) (by omega)
  have fr := J.free ok.c hi hj (by rw [hy0]; omega)
  have J2 := J.state ok.c (i := id) (j := j) (t := i) (x := y + 1) (H := (d.c.B id (2 + 2 * j), y + 1) :: γ'.p.u.hold i) (fns' := γ'.p.u.fns) (kept' := γ'.p.u.kept) hi hj g.lt ⟨by omega, by omega⟩ (fun t' _ q hq => fr t' q hq)
    (fun q hq hne => (List.mem_cons.1 hq).elim (fun z => absurd (by rw [z]) hne) fun z => z) (fun q hq _ => List.mem_cons_of_mem _ hq) (fun q hq e => (List.mem_cons.1 hq).elim (fun z => by rw [z]; exact ⟨rfl, by omega⟩) fun z => absurd e (fr i q z)) (nd_cons (J.nd i) fun q hq => fr i q hq) (fun _ => List.mem_cons_self) (fun q hq => hq) (fun _ _ _ => rfl) (fun _ => J.fn id j hi hj (by rw [hy0]; omega))
  rw [hy0] at J2
  refine ⟨thr_hold ok g.thr _, ?_, g.lt⟩
  rw [g.log, hv, hb]
  have e : (0 : Int) + kind2 (y + 1) - kind2 y = -1 := by
    unfold kind2; rw [if_neg (by omega), if_pos hy]; rfl
  rw [<- e]
  exact J2
theorem Hit.pushB {r : Rq} {id : Nat} (ok : d.Ok) (g : Hit d i γ u L r γ' h') (hi : id < d.c.nC) (hb : r.b = d.c.B id 1) (h0 : γ'.p.val r.b = 0) (hv : (γ'.p.acc i).val = ut γ'.p.val r.b 1) :
    AtC d i γ' { γ'.p.u with hold := ut γ'.p.u.hold i ((d.c.B id 1, 1) :: γ'.p.u.hold i) } L h' 0 := by
  rw [hb] at h0
  have J := g.inv.mono (n' := γ'.p.log.length + 1) (by omega)
  have fr := J.freeB ok.c hi h0
  have J2 := J.busies ok.c (i := id) (t := i) (x := 1) (H := (d.c.B id 1, 1) :: γ'.p.u.hold i) hi g.lt (.inr rfl) (fun t' _ q hq => fr t' q hq)
    (fun q hq hne => (List.mem_cons.1 hq).elim (fun z => absurd (by rw [z]) hne) fun z => z) (fun q hq _ => List.mem_cons_of_mem _ hq) (fun q hq e => (List.mem_cons.1 hq).elim (fun z => by rw [z]; exact ⟨rfl, rfl⟩) fun z => absurd e (fr i q z)) (nd_cons (J.nd i) fun q hq => fr i q hq) (fun _ => List.mem_cons_self)
  refine ⟨thr_hold ok g.thr _, ?_, g.lt⟩
  rw [g.log, hv, hb]
  exact J2
theorem Hit.popB {r : Rq} {id : Nat} {H : List (Nat × Int)} (ok : d.Ok) (g : Hit d i γ u L r γ' h') (hi : id < d.c.nC) (hb : r.b = d.c.B id 1) (hv : (γ'.p.acc i).val = ut γ'.p.val r.b 0) (hh : u.hold i = (d.c.B id 1, 1) :: H) :
    AtC d i γ' { γ'.p.u with hold := ut γ'.p.u.hold i H } L h' 0 := by
  have hh' : γ'.p.u.hold i = (d.c.B id 1, 1) :: H := g.go.hold.trans hh
  have J := g.inv.mono (n' := γ'.p.log.length + 1) (by omega)
  have nd := J.nd i
  rw [hh'] at nd
  obtain ⟨nd1, nd2⟩ := nd_tail nd
  have J2 := J.busies ok.c (i := id) (t := i) (x := 0) (H := H) hi g.lt (.inl rfl) (fun t' ht q hq e => J.dis t' i ht q hq (d.c.B id 1, 1) (by rw [hh']; exact List.mem_cons_self) e)
    (fun q hq _ => by rw [hh']; exact List.mem_cons_of_mem _ hq) (fun q hq hne => by
      rw [hh'] at hq
      rcases List.mem_cons.1 hq with rfl | z
      · exact absurd rfl hne
      · exact z) (fun q hq e => absurd e (nd2 q hq)) nd1 (fun z => by omega)
  refine ⟨thr_hold ok g.thr _, ?_, g.lt⟩
  rw [g.log, hv, hb]
  exact J2
end
end
section
open Go Go.TJ Go.Conc Go.Proofs
section
variable {d : CD} {u u' : CU} {h h' h1 : Hp} {i : Nat} {γ γ' : GG (XC d)} {L L' : List (Nat × Obj)} {dl : Int}
theorem CMI.keepB (ok : d.Ok) (I : CMI d u h) {y : Nat} (hy : d.base y) (hu : Upd (fun b => b = y) h h') (hdom : ∀ b, CDom d u b -> b < h.size) (hno : ¬ d.old y) :
    (∀ b, d.old b -> h'[b]? = d.hN[b]?) /\ (∀ i, i < d.c.nC -> d.c.C i ≠ y -> ClkP h' (d.c.C i) (d.c.B i) (u.fns i)) /\ (∀ t, t < 64 -> d.hb t ≠ y -> h'[d.hb t]? = some (handO (u.th t) (u.tv t))) /\ (∀ t, t < 64 -> SliceO h' (u.tv t) 129 6 (u.told t).length ((u.told t).flatMap encE)) /\ ∀ q, q ∈ u.kept -> h'[q.1]? = some q.2 := by
  have s : ∀ b, CDom d u b -> b ≠ y -> h'[b]? = h[b]? := fun b hb hne => hu.2 b (hdom b hb) hne
  refine ⟨fun b hb => (s b (.inl hb.1) fun e => hno (e ▸ hb)).trans (I.old b hb), fun i hi hne => (I.clk i hi).same (s _ (.inl (ok.C i hi)) hne), fun t ht hne => (s _ (.inl (ok.hb t ht)) hne).trans (I.hnd t ht), fun t ht => SliceO.same5 (I.sl t ht) fun b hb => s b (.inr ⟨(I.newt t b ht hb).1, .inl ⟨t, ht, hb⟩⟩) fun e => (I.newt t b ht hb).2 (e ▸ hy), fun q hq => (s _ (.inr ⟨(I.newk q hq).1, .inr ⟨q, hq, rfl⟩⟩) fun e => (I.newk q hq).2 (e ▸ hy)).trans (I.kept q hq)⟩
theorem Hit.claim {r : Rq} {id j : Nat} {y : Int} {f : Value} (ok : d.Ok) (g : Hit d i γ u L r γ' h') (hi : id < d.c.nC) (hj : j < 16) (hb : r.b = d.c.B id (2 + 2 * j)) (hy0 : γ'.p.val r.b = y) (hv : (γ'.p.acc i).val = ut γ'.p.val r.b (y + 1)) (hy : y % 4 = 0) (hf : FnOk d.c γ'.p.u.kept f) :
    AtC d i γ' { γ'.p.u with hold := ut γ'.p.u.hold i ((d.c.B id (2 + 2 * j), y + 1) :: γ'.p.u.hold i), fns := ut γ'.p.u.fns id (ut (γ'.p.u.fns id) j f) } L (hset h' ⟨d.c.C id, 2 + j * 3 + 2, none⟩ f) 0 := by
  rw [hb] at hy0
  have hst := g.inv.st id j hi hj
  rw [hy0] at hst
  have J := g.inv.mono (n' := γ'.p.log.length + 1) (by omega)
  have fr := J.free ok.c hi hj (by rw [hy0]; omega)
  have J2 := J.state ok.c (i := id) (j := j) (t := i) (x := y + 1) (H := (d.c.B id (2 + 2 * j), y + 1) :: γ'.p.u.hold i) (fns' := ut γ'.p.u.fns id (ut (γ'.p.u.fns id) j f)) (kept' := γ'.p.u.kept) hi hj g.lt ⟨by omega, by omega⟩ (fun t' _ q hq => fr t' q hq)
    (fun q hq hne => (List.mem_cons.1 hq).elim (fun z => absurd (by rw [z]) hne) fun z => z) (fun q hq _ => List.mem_cons_of_mem _ hq) (fun q hq e => (List.mem_cons.1 hq).elim (fun z => by rw [z]; exact ⟨rfl, by omega⟩) fun z => absurd e (fr i q z)) (nd_cons (J.nd i) fun q hq => fr i q hq) (fun _ => List.mem_cons_self) (fun q hq => hq) (fun i' j' hne => by
      by_cases e : i' = id
      · subst e; rw [ut_same, ut_ne _ _ (by omega)]
      · rw [ut_ne _ _ e]) (fun _ => by rw [ut_same, ut_same]; exact hf)
  rw [hy0] at J2
  have I : CMI d γ'.p.u h' := g.thr.I
  have hu : Upd (fun b => b = d.c.C id) h' (hset h' ⟨d.c.C id, 2 + j * 3 + 2, none⟩ f) := Upd.hset _ _ _ rfl
  have hdom : ∀ b, CDom d γ'.p.u b -> b < h'.size := fun b hb => g.thr.privC.2 b hb
  obtain ⟨k1, k2, k3, k4, k5⟩ := I.keepB ok (ok.C id hi) hu hdom fun z => z.2.1 id hi rfl
  have hsz := hu.size
  refine ⟨g.thr.user (xc_ok ok) (u' := { γ'.p.u with hold := ut γ'.p.u.hold i ((d.c.B id (2 + 2 * j), y + 1) :: γ'.p.u.hold i), fns := ut γ'.p.u.fns id (ut (γ'.p.u.fns id) j f) }) (L' := L) (hu.mono fun b _ e => .inl (.inl (e ▸ ok.C id hi))) (fun b hb => ⟨.inl hb, Nat.lt_of_lt_of_le (hdom b hb) hsz⟩) (fun q hq => ⟨?_, .inl ⟨q, hq, rfl⟩, (g.thr.privC.1 q hq).2⟩) ⟨k1, fun i' hi' => ?_, fun t ht => k3 t ht fun e => ok.Ch id t hi ht e.symm, k4, k5, I.newt, I.newk, I.tk, I.tt⟩ (fun x hx => ⟨ut_ne _ _ hx, rfl, rfl, rfl, fun _ h => h⟩), ?_, g.lt⟩
  · rw [hu.2 _ (lt_of_get (g.thr.privC.1 q hq).1) fun e => (g.thr.privC.1 q hq).2 (.inl (e ▸ ok.C id hi))]; exact (g.thr.privC.1 q hq).1
  · show ClkP _ _ _ (ut γ'.p.u.fns id _ i')
    by_cases e : i' = id
    · subst e; rw [ut_same]; exact (I.clk i' hi').setF hj f
    · rw [ut_ne _ _ e]; exact k2 i' hi' fun z => e (ok.Ci i' id hi' hi z)
  · rw [g.log, hv, hb]
    have e : (0 : Int) + kind2 (y + 1) - kind2 y = 0 := by
      unfold kind2; rw [if_neg (by omega), if_neg (by omega)]; rfl
    rw [<- e]
    exact J2
theorem AtC.who (ok : d.Ok) (a : AtC d i γ u L h dl) (hi : i < 64) (v : Value) : AtC d i γ { u with th := ut u.th i v } L (hset h ⟨d.hb i, 0, none⟩ v) dl := by
  have I := a.I
  have hu : Upd (fun b => b = d.hb i) h (hset h ⟨d.hb i, 0, none⟩ v) := Upd.hset _ _ _ rfl
  obtain ⟨k1, k2, k3, k4, k5⟩ := I.keepB ok (ok.hb i hi) hu (fun b hb => a.dom hb) fun z => z.2.2 i hi rfl
  have hsz := hu.size
  refine ⟨a.thr.user (xc_ok ok) (u' := { u with th := ut u.th i v }) (L' := L) (hu.mono fun b _ e => .inl (.inl (e ▸ ok.hb i hi))) (fun b hb => ⟨.inl hb, Nat.lt_of_lt_of_le (a.dom hb) hsz⟩) (fun q hq => ⟨?_, .inl ⟨q, hq, rfl⟩, (a.thr.privC.1 q hq).2⟩) ⟨k1, fun i' hi' => k2 i' hi' (ok.Ch i' i hi' hi), fun t ht => ?_, k4, k5, I.newt, I.newk, I.tk, I.tt⟩ (fun x hx => ⟨rfl, rfl, rfl, ut_ne _ _ hx, fun _ h => h⟩), ?_, a.lt⟩
  · rw [hu.2 _ (a.ltL hq) fun e => (a.thr.privC.1 q hq).2 (.inl (e ▸ ok.hb i hi))]; exact a.own hq
  · show _ = some (handO (ut u.th i v t) _)
    by_cases e : t = i
    · subst e
      rw [ut_same, hset_block (c := #[u.th t, nilS, u.tv t]) (I.hnd t ht)]; exact get_set_same (I.hnd t ht)
    · rw [ut_ne _ _ e]; exact k3 t ht fun z => e (ok.hi t i ht hi z)
  · exact a.inv.keep (th' := ut u.th i v) fun _ h => h
theorem AtC.tell (ok : d.Ok) (a : AtC d i γ u L h dl) (hi : i < 64) {e : TE} {s' : Value} (he : TEOk d.c u.kept e) (up : Upd (fun b => blk (u.tv i) = some b) h h1) (sl : SliceO h1 s' 129 6 ((u.told i).length + 1) ((u.told i).flatMap encE ++ encE e)) (hb : ∀ b, blk s' = some b -> blk (u.tv i) = some b \/ h.size <= b) :
    AtC d i γ { u with told := ut u.told i (u.told i ++ [e]), tv := ut u.tv i s' } L (hset h1 ⟨d.hb i, 2, none⟩ s') (dl - dltE d.c e) := by
  have I := a.I
  have hs1 := up.size
  have hnb : ∀ b, blk s' = some b -> ¬ d.isC b /\ ¬ d.base b := fun b hbb => by
    rcases hb b hbb with z | z
    · exact I.newt i b hi z
    · exact a.new z
  have hu : Upd (fun b => b = d.hb i) h1 (hset h1 ⟨d.hb i, 2, none⟩ s') := Upd.hset _ _ _ rfl
  have hsz := hu.size
  have uu : Upd (fun b => b = d.hb i \/ blk (u.tv i) = some b) h (hset h1 ⟨d.hb i, 2, none⟩ s') := (up.mono fun b _ x => Or.inr x).trans (hu.mono fun b _ x => Or.inl x)
  have old : ∀ b, d.base b -> b ≠ d.hb i -> (hset h1 ⟨d.hb i, 2, none⟩ s')[b]? = h[b]? := fun b hbb hne => uu.2 b (a.dom (.inl hbb)) fun z => z.elim hne fun z => (I.newt i b hi z).2 hbb
  let u' : CU := { u with told := ut u.told i (u.told i ++ [e]), tv := ut u.tv i s' }
  have hdom' : ∀ b, CDom d u' b -> CDom d u b \/ (h.size <= b /\ blk s' = some b) := fun b x => by
    rcases x with x | ⟨x1, ⟨t, ht, x⟩ | x⟩
    · exact .inl (.inl x)
    · have x' : blk (ut u.tv i s' t) = some b := x
      by_cases e : t = i
      · subst e
        rw [ut_same] at x'
        rcases hb b x' with z | z
        · exact .inl (.inr ⟨x1, .inl ⟨t, ht, z⟩⟩)
        · exact .inr ⟨z, x'⟩
      · rw [ut_ne _ _ e] at x'
        exact .inl (.inr ⟨x1, .inl ⟨t, ht, x'⟩⟩)
    · exact .inl (.inr ⟨x1, .inr x⟩)
  have g2 : (hset h1 ⟨d.hb i, 2, none⟩ s')[d.hb i]? = some (handO (u.th i) s') := by
    have h0 : h1[d.hb i]? = some (handO (u.th i) (u.tv i)) := (up.2 _ (a.dom (.inl (ok.hb i hi))) fun z => (I.newt i _ hi z).2 (ok.hb i hi)).trans (I.hnd i hi)
    rw [hset_block (c := #[u.th i, nilS, u.tv i]) h0]; exact get_set_same h0
  refine ⟨a.thr.user (xc_ok ok) (u' := u') (L' := L) (uu.mono fun b _ z => .inl (z.elim (fun e => .inl (e ▸ ok.hb i hi)) fun z => .inr ⟨(I.newt i b hi z).1, .inl ⟨i, hi, z⟩⟩)) (fun b x => ?_) (fun q hq => ⟨?_, .inl ⟨q, hq, rfl⟩, fun z => ?_⟩) ⟨fun b x => (old b x.1 (x.2.2 i hi)).trans (I.old b x), fun i' hi' => (I.clk i' hi').same (old _ (ok.C i' hi') (ok.Ch i' i hi' hi)), fun t ht => ?_, fun t ht => ?_, fun q hq => ?_, fun t b ht x => ?_, I.newk, fun t b ht x q hq => ?_, fun t t' b ht ht' hne x => ?_⟩ (fun x hx => ⟨rfl, ut_ne _ _ hx, ut_ne _ _ hx, rfl, fun _ h => h⟩), a.inv.tell a.lt (fun _ h => h) he, a.lt⟩
  · rcases hdom' b x with z | ⟨z1, z2⟩
    · exact ⟨.inl z, by have := a.dom z; omega⟩
    · exact ⟨.inr z1, by have := SliceO.lt sl z2; omega⟩
  · rw [uu.2 _ (a.ltL hq) fun z => (a.thr.privC.1 q hq).2 (z.elim (fun e => .inl (e ▸ ok.hb i hi)) fun z => .inr ⟨(I.newt i _ hi z).1, .inl ⟨i, hi, z⟩⟩)]
    exact a.own hq
  · rcases hdom' q.1 z with z | ⟨z1, z2⟩
    · exact (a.thr.privC.1 q hq).2 z
    · have := a.ltL hq; omega
  · show _ = some (handO _ (ut u.tv i s' t))
    by_cases e : t = i
    · subst e; rw [ut_same]; exact g2
    · rw [ut_ne _ _ e, old _ (ok.hb t ht) fun z => e (ok.hi t i ht hi z)]; exact I.hnd t ht
  · show SliceO _ (ut u.tv i s' t) _ 6 (ut u.told i (u.told i ++ [e]) t).length ((ut u.told i (u.told i ++ [e]) t).flatMap encE)
    by_cases et : t = i
    · subst et
      rw [ut_same, ut_same, List.length_append, List.flatMap_append]
      have : [e].flatMap encE = encE e := by simp
      rw [this]
      exact sl.upd hu fun b hb' e => (hnb b hb').2 (e ▸ ok.hb t ht)
    · rw [ut_ne _ _ et, ut_ne _ _ et]
      exact SliceO.same5 (I.sl t ht) fun b x => uu.2 b (SliceO.lt (I.sl t ht) x) fun z => z.elim (fun e => (I.newt t b ht x).2 (e ▸ ok.hb i hi)) fun z => I.tt i t b hi ht (Ne.symm et) z x
  · rw [uu.2 _ (a.dom (.inr ⟨(I.newk q hq).1, .inr ⟨q, hq, rfl⟩⟩)) fun z => z.elim (fun e => (I.newk q hq).2 (e ▸ ok.hb i hi)) fun z => I.tk i _ hi z q hq rfl]
    exact I.kept q hq
  · have x' : blk (ut u.tv i s' t) = some b := x
    by_cases e : t = i
    · subst e; rw [ut_same] at x'; exact hnb b x'
    · rw [ut_ne _ _ e] at x'; exact I.newt t b ht x'
  · have x' : blk (ut u.tv i s' t) = some b := x
    by_cases e : t = i
    · subst e
      rw [ut_same] at x'
      rcases hb b x' with z | z
      · exact I.tk t b ht z q hq
      · have := a.dom (.inr ⟨(I.newk q hq).1, .inr ⟨q, hq, rfl⟩⟩)
        omega
    · rw [ut_ne _ _ e] at x'; exact I.tk t b ht x' q hq
  · show blk (ut u.tv i s' t') ≠ some b
    have x' : blk (ut u.tv i s' t) = some b := x
    by_cases e : t = i
    · subst e
      rw [ut_same] at x'
      rw [ut_ne _ _ (Ne.symm hne)]
      rcases hb b x' with z | z
      · exact I.tt t t' b ht ht' hne z
      · intro w
        have := SliceO.lt (I.sl t' ht') w
        omega
    · rw [ut_ne _ _ e] at x'
      by_cases e' : t' = i
      · subst e'
        rw [ut_same]
        intro w
        rcases hb b w with z | z
        · exact I.tt t t' b ht ht' hne x' z
        · have := SliceO.lt (I.sl t ht) x'
          omega
      · rw [ut_ne _ _ e']; exact I.tt t t' b ht ht' hne x'
end
end
section
open Go Go.TJ Go.Conc Go.Proofs
inductive Pr (A : Type) where
  | done
  | step (r : Rq) (k : Int -> Pr A)
  | emit (a : A) (k : Pr A)
inductive Goes {A : Type} (i : Nat) : Pr A -> List Ev -> List A -> Pr A -> Prop
  | nil (p : Pr A) : Goes i p [] [] p
  | emit {a : A} {k q : Pr A} {l : List Ev} {o : List A} : Goes i k l o q -> Goes i (.emit a k) l (a :: o) q
  | step {r : Rq} {k : Int -> Pr A} {q : Pr A} {l : List Ev} {o : List A} (w : Int) : Goes i (k w) l o q -> Goes i (.step r k) (evOf i r w :: l) o q
section
variable {A : Type} {i : Nat} {p : Pr A} {l : List Ev} {o : List A}
theorem Goes.access {r : Rq} {k : Int -> Pr A} (g : Goes i p l o (.step r k)) (w : Int) : Goes i p (l ++ [evOf i r w]) o (k w) := by
  generalize hq : Pr.step r k = q at g
  induction g with
  | nil p => subst hq; exact .step w (.nil _)
  | emit _ ih => exact .emit (ih hq)
  | step w' _ ih => exact .step w' (ih hq)
theorem Goes.tell {a : A} {k : Pr A} (g : Goes i p l o (.emit a k)) : Goes i p l (o ++ [a]) k := by
  generalize hq : Pr.emit a k = q at g
  induction g with
  | nil p => subst hq; exact .emit (.nil _)
  | emit _ ih => exact .emit (ih hq)
  | step w' _ ih => exact .step w' (ih hq)
theorem Goes.det {q : Pr A} (g : Goes i p l o q) : ∀ {o' : List A} {q' : Pr A}, Goes i p l o' q' -> (∀ a k, q ≠ .emit a k) -> (∀ a k, q' ≠ .emit a k) -> o' = o /\ q' = q := by
  induction g with
  | nil p =>
    intro o' q' g' hq hq'
    cases g' with
    | nil => exact ⟨rfl, rfl⟩
    | emit _ => exact absurd rfl (hq _ _)
  | emit _ ih =>
    intro o' q' g' hq hq'
    cases g' with
    | nil => exact absurd rfl (hq' _ _)
    | emit h => obtain ⟨rfl, rfl⟩ := ih h hq hq'; exact ⟨rfl, rfl⟩
  | @step r k q l o w _ ih =>
    intro o' q' g' hq hq'
    generalize he : evOf i r w :: l = l' at g'
    generalize hp : Pr.step r k = p' at g'
    cases g' with
    | nil => cases he
    | emit h => cases hp
    | step w' h =>
      injection hp with h1 h2
      subst h1 h2
      injection he with h3 h4
      subst h4
      have : w = w' := by injection h3
      subst this
      exact ih h hq hq'
end
structure Prog (X : Us) {A : Type} (P : Nat -> Pr A) (told : X.U -> Nat -> List A) : Prop where
  Q : ∀ i l s u, X.Q i l s u ↔ ∃ p, Goes i (P i) l (told u i) p /\ (match s with | .born => told u i = [] | .stands r => ∃ k, p = .step r k | .over => p = .done)
  V : ∀ i u u', X.V i u u' -> told u' i = told u i
section
variable {X : Us} {A : Type} {P : Nat -> Pr A} {told : X.U -> Nat -> List A} {i : Nat} {γ γ' : GG X} {u : X.U} {L : List (Nat × Obj)} {h : Hp}
def Res (P : Nat -> Pr A) (told : X.U -> Nat -> List A) (i : Nat) (γ : GG X) (u : X.U) (p : Pr A) : Prop := Goes i (P i) (ownOf i (γ.p.acc i).log) (told u i) p
theorem Res.asks (R : Prog X P told) {r : Rq} {k : Int -> Pr A} (x : Res P told i γ u (.step r k)) (hJ : X.J (γ.p.acc i).log u (γ.p.acc i).val) : Asks X i γ u r := ⟨(R.Q _ _ _ _).2 ⟨_, x, k, rfl⟩, hJ⟩
theorem Res.did (R : Prog X P told) {r : Rq} {k : Int -> Pr A} (x : Res P told i γ u (.step r k)) (st : Stood X i γ u r γ') : Res P told i γ' γ'.p.u (k (γ'.p.val r.b)) := by
  unfold Res
  rw [st.after, R.V _ _ _ st.V]
  exact Goes.access x _
theorem Res.over (R : Prog X P told) (x : Res P told i γ u .done) : X.Q i (ownOf i (γ.p.acc i).log) .over u := (R.Q _ _ _ _).2 ⟨_, x, rfl⟩
theorem Res.born (_R : Prog X P told) (_T : Thr X i γ γ.p.u L h) (hb : γ.p.st i = .born) (ho : ownOf i γ.p.log = []) (ht : told γ.p.u i = []) : Res P told i γ γ.p.u (P i) := by
  unfold Res
  rw [acc_born _ _ hb, ho, ht]
  exact .nil _
end
theorem eaCallP {Γ : Type} {P : Program} {main : Bool} {S : Sit Γ} {f : FuncId} {n : Nat} {k : List Item} {env : Env} {h : Hp} {δ : Ix Γ} {R : Post Γ} {ops : Array Oper} {Z : Hp -> Prop} {z : Nat} (i : Nat) {d : Nat} {x : Operand} {args : Array Operand} {ats : Array TypeId} {ty : TypeId} {pos : String} {af : Array Edge} {g : Option (Nat × Bool)} {m : Nat} {listed l' : Array Bool} {fn : Func} [hf : IsFn P f fn] {c : FuncId} {cap ws : Array Value} {vs : List Value} [HasBody P c] {Q : Value -> Hp -> Ix Γ -> Prop} {Y : List PanicEntry -> Hp -> Ix Γ -> Prop}
    (hi : ops[i]? = some ⟨some d, .call { callee := .value x, args, argTypes := ats }, ty, pos, af, g⟩) (hr : Region.ready .any ops listed = [i]) (hl : listed.setIfInBounds i true = l') (hd : Nat.blt d n = true)
    (hw : wantE ops env g = some true) (hx : ev env x = some (.func (.func c) #[] cap)) (ha : evL env args.toList = some vs) (hws : vs.toArray ++ cap = ws) (hc : CallW P main S c ws h δ (RetP Q Y)) (hY : ∀ p h' δ', Y p h' δ' -> R (.pan p) h' δ')
    (hn : ∀ v h' δ', Q v h' δ' -> Z h' /\ EA P main S f n ops Z z m l' k ((d, v) :: env) [] h' δ' R) : EA P main S f n ops Z z (m + 1) listed k env [] h δ R := by
  subst hws
  refine EA.only i hi hr hl hw fun a ka => ?_
  refine semW_call rfl (ka.eval hx) (map_ofL (fun x v hx => ka.eval hx) ha) (hc.mono ?_)
  rintro (v | p) h' δ' hq
  · exact ⟨.inr (hn v h' δ' hq).1, (hn v h' δ' hq).2 _ (ka.put v hd)⟩
  · exact fun a' ha' => WU.pan0 (ha'.trans ka.defers) hf.out (hY _ _ _ hq)
end
section
open Go Go.TJ Go.Conc Go.Proofs
def timC (s r : Int) : Obj := .cells #[.int .i64 s, .int .i64 r] 104 (0, 0)
theorem tmod_emod {x : Int} (h : 0 <= x) : x.tmod 4 = x % 4 := Int.tmod_eq_emod_of_nonneg h
section
variable {Γ : Type} {main : Bool} {S : Sit Γ} {h : Hp} {δ : Ix Γ} {c : Nat}
theorem comade {a : Addr} (hc : hcell h ⟨c, 0, none⟩ = some (.pointer (some a))) : CallW Try.prog main S 78 #[ptr c] h δ (Ret (Det (.bool true) h δ)) := by
  refine CallW.start (n := 12) rfl rfl ?_
  (repeat (first | refine EK.seq ?_ | refine EK.region ?_ | refine ER.done ?_ | refine ER.move rfl rfl rfl ?_ | refine ER.assign rfl rfl rfl ?_ | refine ER.nilCheck rfl rfl rfl ?_ | refine ER.fieldAddr rfl rfl rfl ?_ | refine ER.neqV rfl rfl rfl rfl rfl ?_))
  refine ER.load1 rfl rfl rfl hc ?_
  (repeat (first | refine ER.done ?_ | refine ER.assign rfl rfl rfl ?_ | refine ER.neqV rfl rfl rfl rfl rfl ?_ | refine ER.pickT rfl rfl rfl rfl ?_ | refine EK.ret ?_))
  exact EU.ret1 rfl rfl det
theorem conil : CallW Try.prog main S 78 #[.pointer none] h δ (Ret (Det (.bool false) h δ)) := by
  refine CallW.start (n := 12) rfl rfl ?_
  (repeat (first | refine EK.seq ?_ | refine EK.region ?_ | refine ER.done ?_ | refine ER.move rfl rfl rfl ?_ | refine ER.assign rfl rfl rfl ?_ | refine ER.no rfl rfl ?_ | refine ER.neqV rfl rfl rfl rfl rfl ?_ | refine ER.pickF rfl rfl rfl rfl ?_ | refine EK.ret ?_))
  exact EU.ret1 rfl rfl det
theorem conow_nil {t : Value} : CallW Try.prog main S 17 #[.pointer none, t] h δ (Ret (Det (.int .i64 0) h δ)) := by
  refine CallW.start (n := 14) rfl rfl ?_
  (repeat (first | refine EK.seq ?_ | refine EK.region ?_ | refine ER.done ?_ | refine ER.move rfl rfl rfl ?_ | refine ER.assign rfl rfl rfl ?_))
  refine ER.callD rfl rfl rfl rfl rfl conil ?_
  (repeat (first | refine EK.seq ?_ | refine EK.region ?_ | refine ER.done ?_ | refine ER.assign rfl rfl rfl ?_ | refine ER.notB rfl rfl rfl ?_ | refine EK.condT rfl ?_ | refine EK.ret ?_))
  exact EU.ret1 rfl rfl det
theorem coadv_nil {t : Value} {x : Int} : CallW Try.prog main S 16 #[.pointer none, t, .int .i64 x] h δ (Ret (Det (.tuple #[.int .i64 0, .int .i64 2]) h δ)) := by
  refine CallW.start (n := 101) rfl rfl ?_
  (repeat (first | refine EK.seq ?_ | refine EK.region ?_ | refine ER.done ?_ | refine ER.move rfl rfl rfl ?_ | refine ER.assign rfl rfl rfl ?_))
  refine ER.callD rfl rfl rfl rfl rfl conil ?_
  (repeat (first | refine EK.seq ?_ | refine EK.region ?_ | refine ER.done ?_ | refine ER.assign rfl rfl rfl ?_ | refine ER.notB rfl rfl rfl ?_ | refine EK.condT rfl ?_ | refine EK.ret ?_))
  exact EU.ret2 rfl rfl rfl det
theorem coset_nil {t f : Value} {x : Int} (hS : ∀ o, ¬ S.still δ.g ⟨h.size, o, none⟩) : CallW Try.prog main S 53 #[.pointer none, t, .int .i64 x, f] h δ (Ret fun w h' δ' => w = .tuple #[.agg #[.int .i64 0, .int .i64 0], .int .i64 2] /\ Upd (fun _ => False) h h' /\ δ' = δ) := by
  refine CallW.start (n := 82) rfl rfl ?_
  (repeat (first | refine EK.seq ?_ | refine EK.region ?_ | refine ER.done ?_ | refine ER.move rfl rfl rfl ?_ | refine ER.assign rfl rfl rfl ?_ | refine ER.allocA rfl rfl ?_))
  refine ER.callD rfl rfl rfl rfl rfl conil ?_
  (repeat (first | refine EK.seq ?_ | refine EK.region ?_ | refine ER.done ?_ | refine ER.notB rfl rfl rfl ?_ | refine EK.condT rfl ?_))
  refine ER.buildS (cells := #[.int .i64 0, .int .i64 0]) rfl rfl rfl rfl ?_
  refine ER.storeT2 (get_push_new h _) rfl rfl rfl rfl (by simp [OneCell]) (by simp [OneCell]) hS ?_
  rw [push_set]
  (repeat (first | refine ER.done ?_ | refine ER.assign rfl rfl rfl ?_ | refine EK.ret ?_))
  exact EU.retCell2 (get_push_new h _) rfl rfl rfl ⟨rfl, Upd.push _ _, rfl⟩
theorem costop_nil {t : Value} {s r : Int} : CallW Try.prog main S 56 #[.pointer none, t, .agg #[.int .i64 s, .int .i64 r]] h δ (Ret fun w h' δ' => w = .bool false /\ Upd (fun _ => False) h h' /\ δ' = δ) := by
  refine CallW.start (n := 47) rfl rfl ?_
  (repeat (first | refine EK.seq ?_ | refine EK.region ?_ | refine ER.done ?_ | refine ER.move rfl rfl rfl ?_ | refine ER.assign rfl rfl rfl ?_ | refine ER.boxA rfl rfl rfl ?_))
  refine ER.callD rfl rfl rfl rfl rfl conil ?_
  (repeat (first | refine EK.seq ?_ | refine EK.region ?_ | refine ER.done ?_ | refine ER.move rfl rfl rfl ?_ | refine ER.assign rfl rfl rfl ?_ | refine ER.no rfl rfl ?_ | refine ER.notB rfl rfl rfl ?_ | refine ER.pickT rfl rfl rfl rfl ?_ | refine EK.condT rfl ?_ | refine EK.ret ?_))
  exact EU.ret1 rfl rfl ⟨rfl, Upd.push _ _, rfl⟩
end
section
variable {d : CD} {u u' : CU} {h h' h1 : Hp} {i : Nat} {γ γ' : GG (XC d)} {L L' : List (Nat × Obj)} {dl : Int} {t id : Nat}
theorem isC_B (hid : id < d.c.nC) {j : Nat} (hj : j < 34) : d.isC (d.c.B id j) := .inl ⟨id, j, hid, hj, rfl⟩
theorem baseC (ok : d.Ok) (hid : id < d.c.nC) : CDom d u (d.c.C id) := .inl (ok.C id hid)
theorem conow_T (ok : d.Ok) (a : AtC d i γ u L h 0) (hid : id < d.c.nC) (ht : t = γ.p.tb i) : CallW Try.prog false (SitT Try.prog (PX (XC d)) (i + 1)) 17 #[ptr (d.c.C id), ptr t] h ⟨0, γ⟩ (RetP (fun w h' δ' => ∃ (γ' : GG (XC d)) (u' : CU) (z : Int), δ' = ⟨0, γ'⟩ /\ w = .int .i64 z /\ AtC d i γ' u' L h' 0 /\ Go_ d i γ u γ' u') (Halt (XC d) i γ.p)) := by
  have k := a.I.clk id hid
  refine CallW.start (n := 14) rfl rfl ?_
  (repeat (first | refine EK.seq ?_ | refine EK.region ?_ | refine ER.done ?_ | refine ER.move rfl rfl rfl ?_ | refine ER.assign rfl rfl rfl ?_))
  refine ER.callD rfl rfl rfl rfl rfl (comade k.pnow) ?_
  (repeat (first | refine EK.seq ?_ | refine EK.region ?_ | refine ER.done ?_ | refine EK.skip ?_ | refine ER.move rfl rfl rfl ?_ | refine ER.nilCheck rfl rfl rfl ?_ | refine ER.fieldAddr rfl rfl rfl ?_ | refine ER.notB rfl rfl rfl ?_ | refine EK.condF rfl ?_))
  refine ER.load1 rfl rfl rfl k.pnow ?_
  (repeat refine ER.move rfl rfl rfl ?_)
  refine ER.callP rfl rfl rfl rfl rfl (coload ok a (isC_B hid (by omega)) ht) (fun _ _ _ y => y) ?_
  rintro _ h1 δ1 ⟨γ1, rfl, rfl, a1, g1, -, -, -⟩
  (repeat (first | refine ER.done ?_ | refine ER.assign rfl rfl rfl ?_ | refine EK.ret ?_))
  exact EU.ret1 rfl rfl ⟨γ1, _, _, rfl, rfl, a1, g1⟩
set_option maxRecDepth 8000 in
set_option maxHeartbeats 4000000 in
theorem costop_T (ok : d.Ok) (a : AtC d i γ u L h 0) (hid : id < d.c.nC) (ht : t = γ.p.tb i) {s r : Int} : CallW Try.prog false (SitT Try.prog (PX (XC d)) (i + 1)) 56 #[ptr (d.c.C id), ptr t, .agg #[.int .i64 s, .int .i64 r]] h ⟨0, γ⟩ (RetP (fun w h' δ' => ∃ (γ' : GG (XC d)) (u' : CU) (b : Bool), δ' = ⟨0, γ'⟩ /\ w = .bool b /\ AtC d i γ' u' L h' (if b then -1 else 0) /\ Go_ d i γ u γ' u') (Halt (XC d) i γ.p)) := by
  obtain ⟨y, hy⟩ : ∃ y, y = h.size := ⟨_, rfl⟩
  have hb0 := get_push_new h (timC s r)
  have a0 := a.alloc ok (timC s r)
  refine CallW.start (n := 47) rfl rfl ?_
  (repeat (first | refine EK.seq ?_ | refine EK.region ?_ | refine ER.done ?_ | refine ER.move rfl rfl rfl ?_ | refine ER.assign rfl rfl rfl ?_ | refine ER.boxA rfl rfl rfl ?_))
  change ER _ _ _ _ _ _ _ _ _ _ (h.push (timC s r)) _ _
  rw [<- hy] at hb0 a0 ⊢
  generalize h.push (timC s r) = h0 at hb0 a0 ⊢
  have k := a0.I.clk id hid
  refine ER.callD rfl rfl rfl rfl rfl (comade k.pnow) ?_
  have e0 : hcell h0 ⟨y, 0, none⟩ = some (.int .i64 s) := hcell_of hb0 rfl
  have e1 : hcell h0 ⟨y, 1, none⟩ = some (.int .i64 r) := hcell_of hb0 rfl
  by_cases h1 : s < 0
  · (repeat (first | refine EK.seq ?_ | refine EK.region ?_ | refine ER.done ?_ | refine ER.move rfl rfl rfl ?_ | refine ER.assign rfl rfl rfl ?_ | refine ER.fieldAddr rfl rfl rfl ?_ | refine ER.load1 rfl rfl rfl (hcell_of (by assumption) rfl) ?_ | refine ER.no rfl rfl ?_ | refine ER.notB rfl rfl rfl ?_ | refine ER.pickT rfl rfl rfl rfl ?_ | refine ER.pickF rfl rfl rfl rfl ?_ | refine ER.cmpT rfl rfl rfl rfl rfl (by first | (dsimp only [cmpP]; omega) | exact rfl | exact Int.le_refl _) ?_ | refine EK.condT rfl ?_ | refine EK.ret ?_))
    exact EU.ret1 rfl rfl ⟨γ, u, false, rfl, rfl, a0.drop ok, Go_.refl _ _ _ _⟩
  by_cases h2 : 16 <= s
  · (repeat (first | refine EK.seq ?_ | refine EK.region ?_ | refine ER.done ?_ | refine ER.move rfl rfl rfl ?_ | refine ER.assign rfl rfl rfl ?_ | refine ER.fieldAddr rfl rfl rfl ?_ | refine ER.load1 rfl rfl rfl (hcell_of (by assumption) rfl) ?_ | refine ER.no rfl rfl ?_ | refine ER.notB rfl rfl rfl ?_ | refine ER.pickT rfl rfl rfl rfl ?_ | refine ER.pickF rfl rfl rfl rfl ?_ | refine ER.cmpT rfl rfl rfl rfl rfl (by first | (dsimp only [cmpP]; omega) | exact rfl | exact Int.le_refl _) ?_ | refine ER.cmpF rfl rfl rfl rfl rfl (by first | (dsimp only [cmpP]; omega) | exact rfl | exact Int.le_refl _) ?_ | refine EK.condT rfl ?_ | refine EK.ret ?_))
    exact EU.ret1 rfl rfl ⟨γ, u, false, rfl, rfl, a0.drop ok, Go_.refl _ _ _ _⟩
  by_cases h3 : r < 0
  · (repeat (first | refine EK.seq ?_ | refine EK.region ?_ | refine ER.done ?_ | refine ER.move rfl rfl rfl ?_ | refine ER.assign rfl rfl rfl ?_ | refine ER.fieldAddr rfl rfl rfl ?_ | refine ER.load1 rfl rfl rfl (hcell_of (by assumption) rfl) ?_ | refine ER.no rfl rfl ?_ | refine ER.notB rfl rfl rfl ?_ | refine ER.pickT rfl rfl rfl rfl ?_ | refine ER.pickF rfl rfl rfl rfl ?_ | refine ER.cmpT rfl rfl rfl rfl rfl (by first | (dsimp only [cmpP]; omega) | exact rfl | exact Int.le_refl _) ?_ | refine ER.cmpF rfl rfl rfl rfl rfl (by first | (dsimp only [cmpP]; omega) | exact rfl | exact Int.le_refl _) ?_ | refine EK.condT rfl ?_ | refine EK.ret ?_))
    exact EU.ret1 rfl rfl ⟨γ, u, false, rfl, rfl, a0.drop ok, Go_.refl _ _ _ _⟩
  by_cases h4 : r.tmod 4 = 2
  case neg =>
    (repeat (first | refine EK.seq ?_ | refine EK.region ?_ | refine ER.done ?_ | refine ER.move rfl rfl rfl ?_ | refine ER.assign rfl rfl rfl ?_ | refine ER.fieldAddr rfl rfl rfl ?_ | refine ER.load1 rfl rfl rfl (hcell_of (by assumption) rfl) ?_ | refine ER.notB rfl rfl rfl ?_ | refine ER.pickF rfl rfl rfl rfl ?_ | refine ER.cmpT rfl rfl rfl rfl rfl (by first | (dsimp only [cmpP]; omega) | exact rfl | exact Int.le_refl _) ?_ | refine ER.cmpF rfl rfl rfl rfl rfl (by first | (dsimp only [cmpP]; omega) | exact rfl | exact Int.le_refl _) ?_ | refine ER.rem (kd := .i64) rfl rfl rfl rfl (by decide) rfl ?_ | refine EK.condT rfl ?_ | refine EK.ret ?_))
    exact EU.ret1 rfl rfl ⟨γ, u, false, rfl, rfl, a0.drop ok, Go_.refl _ _ _ _⟩
  obtain ⟨j, rfl⟩ : ∃ j : Nat, s = j := ⟨s.toNat, by omega⟩
  have hj : j < 16 := by omega
  (repeat (first | refine EK.seq ?_ | refine ER.done ?_ | refine EK.skip ?_ | refine ER.move rfl rfl rfl ?_ | refine ER.fieldAddr rfl rfl rfl ?_ | refine ER.load1 rfl rfl rfl (hcell_of (by assumption) rfl) ?_ | refine ER.notB rfl rfl rfl ?_ | refine ER.pickF rfl rfl rfl rfl ?_ | refine ER.cmpF rfl rfl rfl rfl rfl (by first | (dsimp only [cmpP]; omega) | exact rfl | exact Int.le_refl _) ?_ | refine ER.rem (kd := .i64) rfl rfl rfl rfl (by decide) rfl ?_ | refine EK.condF rfl ?_))
  refine EK.regionAny (fun h' => hcell h' ⟨y, 0, none⟩ = some (.int .i64 (j : Int)) /\ hcell h' ⟨y, 1, none⟩ = some (.int .i64 r) /\ hcell h' ⟨d.c.C id, 2 + j * 3, none⟩ = some (ptr (d.c.B id (2 + 2 * j)))) ?_
  have hZ := And.intro e0 (And.intro e1 (k.pst j hj))
  refine EA.tMove 0 rfl (by kernel_rfl) rfl rfl rfl rfl hZ ?_
  refine EA.tField 1 rfl (by kernel_rfl) rfl rfl rfl rfl hZ ?_
  refine EA.tLoad 2 rfl (by kernel_rfl) rfl rfl rfl rfl (fun _ hz => hz.1) hZ ?_
  refine EA.tNil 3 rfl (by kernel_rfl) rfl rfl rfl rfl hZ ?_
  refine EA.tField 4 rfl (by kernel_rfl) rfl rfl rfl rfl hZ ?_
  refine EA.tIdxA 5 rfl (by kernel_rfl) rfl rfl rfl rfl rfl (by omega) (by omega) hZ ?_
  refine EA.tField 6 rfl (by kernel_rfl) rfl rfl rfl rfl hZ ?_
  refine EA.tLoad 7 rfl (by kernel_rfl) rfl rfl rfl rfl (fun _ hz => hz.2.2) hZ ?_
  refine EA.tMove 8 rfl (by kernel_rfl) rfl rfl rfl rfl hZ ?_
  refine EA.tField 9 rfl (by kernel_rfl) rfl rfl rfl rfl hZ ?_
  refine EA.tLoad 10 rfl (by kernel_rfl) rfl rfl rfl rfl (fun _ hz => hz.2.1) hZ ?_
  refine EA.tField 11 rfl (by kernel_rfl) rfl rfl rfl rfl hZ ?_
  refine EA.tLoad 12 rfl (by kernel_rfl) rfl rfl rfl rfl (fun _ hz => hz.2.1) hZ ?_
  (first | refine EA.tAdd (kd := .i64) 13 rfl (by kernel_rfl) rfl rfl rfl rfl rfl rfl hZ ?_ | refine EA.tSub (kd := .i64) 13 rfl (by kernel_rfl) rfl rfl rfl rfl rfl rfl hZ ?_)
  (first | refine EA.tAdd (kd := .i64) 14 rfl (by kernel_rfl) rfl rfl rfl rfl rfl rfl hZ ?_ | refine EA.tSub (kd := .i64) 14 rfl (by kernel_rfl) rfl rfl rfl rfl rfl rfl hZ ?_)
  refine eaCallP 15 rfl (by kernel_rfl) rfl rfl rfl rfl rfl rfl (cocas ok a0 (isC_B hid (by omega)) ht) (fun _ _ _ y => y) ?_
  rintro w h1 δ1 ⟨γ1, rfl, ⟨rfl, _, a1, g1, -, -⟩ | ⟨rfl, hv, g1, hv2⟩⟩
  · have hb1 := a1.own (q := (y, timC (j : Int) r)) List.mem_cons_self
    have hZ1 := And.intro (hcell_of hb1 rfl : hcell h1 ⟨y, 0, none⟩ = some (.int .i64 (j : Int))) (And.intro (hcell_of hb1 rfl : hcell h1 ⟨y, 1, none⟩ = some (.int .i64 r)) ((a1.I.clk id hid).pst j hj))
    refine ⟨hZ1, ?_⟩
    refine EA.val 16 rfl (by kernel_rfl) rfl rfl rfl (fun ρ Q X hρ hq => sem_assign (hρ _ _ rfl) hq) hZ1 ?_
    refine EA.done (by kernel_rfl) ?_
    (repeat refine EK.ret ?_)
    exact EU.ret1 rfl rfl ⟨γ1, _, false, rfl, rfl, a1.drop ok, g1⟩
  · have hst := g1.inv.st id j hid hj
    have hbig := g1.big
    rw [hv] at hst
    have e : IntKind.i64.wrap (IntKind.i64.wrap (r + 4) - 2) = r + 2 := by rw [i64_in (x := r + 4) (by omega) (by omega), i64_in (by omega) (by omega)]; omega
    rw [e] at hv2
    rw [tmod_emod (by omega)] at h4
    have a1 := g1.stopS ok hid hj rfl hv hv2 h4
    have hb1 := a1.own (q := (y, timC (j : Int) r)) List.mem_cons_self
    have hZ1 := And.intro (hcell_of hb1 rfl : hcell h1 ⟨y, 0, none⟩ = some (.int .i64 (j : Int))) (And.intro (hcell_of hb1 rfl : hcell h1 ⟨y, 1, none⟩ = some (.int .i64 r)) ((a1.I.clk id hid).pst j hj))
    refine ⟨hZ1, ?_⟩
    refine EA.val 16 rfl (by kernel_rfl) rfl rfl rfl (fun ρ Q X hρ hq => sem_assign (hρ _ _ rfl) hq) hZ1 ?_
    refine EA.done (by kernel_rfl) ?_
    (repeat refine EK.ret ?_)
    exact EU.ret1 rfl rfl ⟨γ1, _, true, rfl, rfl, a1.drop ok, g1.go⟩
set_option maxRecDepth 8000 in
set_option maxHeartbeats 8000000 in
theorem coset_T (ok : d.Ok) (a : AtC d i γ u L h 0) (hid : id < d.c.nC) (ht : t = γ.p.tb i) {due : Int} {f : Value} (hf : f = .nilFunc \/ (FnOk d.c u.kept f)) : CallW Try.prog false (SitT Try.prog (PX (XC d)) (i + 1)) 53 #[ptr (d.c.C id), ptr t, .int .i64 due, f] h ⟨0, γ⟩ (RetP (fun w h' δ' => ∃ (γ' : GG (XC d)) (u' : CU) (s r e : Int), δ' = ⟨0, γ'⟩ /\ w = .tuple #[.agg #[.int .i64 s, .int .i64 r], .int .i64 e] /\ AtC d i γ' u' L h' (if e = 0 then 1 else 0) /\ Go_ d i γ u γ' u') (Halt (XC d) i γ.p)) := by
  obtain ⟨y, hy⟩ : ∃ y, y = h.size := ⟨_, rfl⟩
  have a0 := a.alloc ok (timC 0 0)
  have hfr := a.fresh
  refine CallW.start (n := 82) rfl rfl ?_
  (repeat (first | refine EK.seq ?_ | refine EK.region ?_ | refine ER.done ?_ | refine ER.move rfl rfl rfl ?_ | refine ER.assign rfl rfl rfl ?_ | refine ER.allocA rfl rfl ?_))
  change ER _ _ _ _ _ _ _ _ _ _ (h.push (timC 0 0)) _ _
  rw [<- hy] at a0 hfr ⊢
  generalize h.push (timC 0 0) = h0 at a0 ⊢
  have k := a0.I.clk id hid
  refine ER.callD rfl rfl rfl rfl rfl (comade k.pnow) ?_
  by_cases h1 : due < 0
  · (repeat (first | refine EK.seq ?_ | refine EK.region ?_ | refine ER.done ?_ | refine EK.skip ?_ | refine ER.move rfl rfl rfl ?_ | refine ER.no rfl rfl ?_ | refine ER.notB rfl rfl rfl ?_ | refine ER.pickT rfl rfl rfl rfl ?_ | refine ER.cmpT rfl rfl rfl rfl rfl (by first | (dsimp only [cmpP]; omega) | exact rfl | exact Int.le_refl _) ?_ | refine EK.condT rfl ?_ | refine EK.condF rfl ?_))
    refine ER.buildS (cells := #[.int .i64 0, .int .i64 0]) rfl rfl rfl rfl ?_
    refine ER.storeT2 (a0.own (q := (y, timC 0 0)) List.mem_cons_self) rfl rfl rfl rfl (by simp [OneCell]) (by simp [OneCell]) (fun _ => a0.free (.inr (.inl ⟨_, List.mem_cons_self, rfl⟩))) ?_
    have a9 := a0.put ok (o := timC 0 0) hfr
    (repeat (first | refine ER.done ?_ | refine ER.assign rfl rfl rfl ?_ | refine EK.ret ?_))
    refine EU.retCell2 (a9.own (q := (y, timC 0 0)) List.mem_cons_self) rfl rfl rfl ⟨γ, u, 0, 0, 1, rfl, rfl, a9.drop ok, (Go_.refl _ _ _ _)⟩
  by_cases h2 : 4611686018427387904 < due
  · (repeat (first | refine EK.seq ?_ | refine EK.region ?_ | refine ER.done ?_ | refine EK.skip ?_ | refine ER.move rfl rfl rfl ?_ | refine ER.no rfl rfl ?_ | refine ER.notB rfl rfl rfl ?_ | refine ER.pickT rfl rfl rfl rfl ?_ | refine ER.pickF rfl rfl rfl rfl ?_ | refine ER.cmpT rfl rfl rfl rfl rfl (by first | (dsimp only [cmpP]; omega) | exact rfl | exact Int.le_refl _) ?_ | refine ER.cmpF rfl rfl rfl rfl rfl (by first | (dsimp only [cmpP]; omega) | exact rfl | exact Int.le_refl _) ?_ | refine EK.condT rfl ?_ | refine EK.condF rfl ?_))
    refine ER.buildS (cells := #[.int .i64 0, .int .i64 0]) rfl rfl rfl rfl ?_
    refine ER.storeT2 (a0.own (q := (y, timC 0 0)) List.mem_cons_self) rfl rfl rfl rfl (by simp [OneCell]) (by simp [OneCell]) (fun _ => a0.free (.inr (.inl ⟨_, List.mem_cons_self, rfl⟩))) ?_
    have a9 := a0.put ok (o := timC 0 0) hfr
    (repeat (first | refine ER.done ?_ | refine ER.assign rfl rfl rfl ?_ | refine EK.ret ?_))
    refine EU.retCell2 (a9.own (q := (y, timC 0 0)) List.mem_cons_self) rfl rfl rfl ⟨γ, u, 0, 0, 1, rfl, rfl, a9.drop ok, (Go_.refl _ _ _ _)⟩
  rcases hf with rfl | hf
  · (repeat (first | refine EK.seq ?_ | refine EK.region ?_ | refine ER.done ?_ | refine EK.skip ?_ | refine ER.move rfl rfl rfl ?_ | refine ER.eqV rfl rfl rfl rfl rfl ?_ | refine ER.notB rfl rfl rfl ?_ | refine ER.pickF rfl rfl rfl rfl ?_ | refine ER.cmpF rfl rfl rfl rfl rfl (by first | (dsimp only [cmpP]; omega) | exact rfl | exact Int.le_refl _) ?_ | refine EK.condT rfl ?_ | refine EK.condF rfl ?_))
    refine ER.buildS (cells := #[.int .i64 0, .int .i64 0]) rfl rfl rfl rfl ?_
    refine ER.storeT2 (a0.own (q := (y, timC 0 0)) List.mem_cons_self) rfl rfl rfl rfl (by simp [OneCell]) (by simp [OneCell]) (fun _ => a0.free (.inr (.inl ⟨_, List.mem_cons_self, rfl⟩))) ?_
    have a9 := a0.put ok (o := timC 0 0) hfr
    (repeat (first | refine ER.done ?_ | refine ER.assign rfl rfl rfl ?_ | refine EK.ret ?_))
    refine EU.retCell2 (a9.own (q := (y, timC 0 0)) List.mem_cons_self) rfl rfl rfl ⟨γ, u, 0, 0, 1, rfl, rfl, a9.drop ok, (Go_.refl _ _ _ _)⟩
  have hfc := hf
  obtain ⟨b1, b2, sn, hfe, hf1, hf2, hf3⟩ := hfc
  rw [hfe]
  (repeat (first | refine EK.seq ?_ | refine EK.region ?_ | refine ER.done ?_ | refine EK.skip ?_ | refine EK.block ?_ | refine ER.move rfl rfl rfl ?_ | refine ER.eqV rfl rfl rfl rfl rfl ?_ | refine ER.notB rfl rfl rfl ?_ | refine ER.pickF rfl rfl rfl rfl ?_ | refine ER.cmpF rfl rfl rfl rfl rfl (by first | (dsimp only [cmpP]; omega) | exact rfl | exact Int.le_refl _) ?_ | refine EK.condF rfl ?_))
  refine EK.loopInv (fun q : Nat × GG (XC d) × CU => [(28, .int .i64 q.1), (0, ptr (d.c.C id)), (1, ptr t), (2, .int .i64 due), (3, .func (.func 154) #[] #[ptr b1, ptr b2]), (8, ptr y)]) (fun q h' δ' => δ' = ⟨0, q.2.1⟩ /\ q.1 <= 16 /\ AtC d i q.2.1 q.2.2 ((y, timC 0 0) :: L) h' 0 /\ Go_ d i γ u q.2.1 q.2.2) (fun q => 16 - q.1) (0, γ, u) ⟨rfl, rfl, rfl, rfl, rfl, rfl, trivial⟩ ⟨rfl, Nat.zero_le _, a0, Go_.refl _ _ _ _⟩ ?_
  clear a0 k
  rintro ⟨q, γ1, u1⟩ h1 δ1 ⟨hδ, hq, a1, g1⟩ again
  dsimp only at hδ hq a1 g1 again ⊢
  subst hδ
  by_cases hq' : q = 16
  · subst hq'
    (repeat (first | refine EK.seq ?_ | refine EK.region ?_ | refine ER.done ?_ | refine ER.cmpF rfl rfl rfl rfl rfl (by first | (dsimp only [cmpP]; omega) | exact rfl | exact Int.le_refl _) ?_ | refine EK.condF rfl ?_ | refine EK.exit rfl ?_))
    refine ER.buildS (cells := #[.int .i64 0, .int .i64 0]) rfl rfl rfl rfl ?_
    refine ER.storeT2 (a1.own (q := (y, timC 0 0)) List.mem_cons_self) rfl rfl rfl rfl (by simp [OneCell]) (by simp [OneCell]) (fun _ => a1.free (.inr (.inl ⟨_, List.mem_cons_self, rfl⟩))) ?_
    have a9 := a1.put ok (o := timC 0 0) hfr
    (repeat (first | refine ER.done ?_ | refine ER.assign rfl rfl rfl ?_ | refine EK.ret ?_))
    exact EU.retCell2 (a9.own (q := (y, timC 0 0)) List.mem_cons_self) rfl rfl rfl ⟨γ1, u1, 0, 0, 12, rfl, rfl, a9.drop ok, g1⟩
  have hq2 : q < 16 := by omega
  have k1 := a1.I.clk id hid
  (repeat (first | refine EK.seq ?_ | refine EK.region ?_ | refine ER.done ?_ | refine EK.skip ?_ | refine EK.block ?_ | refine ER.move rfl rfl rfl ?_ | refine ER.assign rfl rfl rfl ?_ | refine ER.nilCheck rfl rfl rfl ?_ | refine ER.fieldAddr rfl rfl rfl ?_ | refine ER.cmpT rfl rfl rfl rfl rfl (by first | (dsimp only [cmpP]; omega) | exact rfl | exact Int.le_refl _) ?_ | refine ER.indexArr rfl rfl rfl rfl (by omega) (by omega) ?_ | refine EK.condT rfl ?_))
  refine ER.load1 rfl rfl rfl (k1.pst q hq2) ?_
  (repeat refine ER.move rfl rfl rfl ?_)
  refine ER.callP rfl rfl rfl rfl rfl (coload ok a1 (isC_B hid (by omega)) (ht.trans g1.al.tb.symm)) (fun _ _ _ y => y.along g1.al) ?_
  rintro _ h2 δ2 ⟨γ2, rfl, rfl, a2, g2, J2, len2, big2⟩
  have gg2 := g1.trans g2
  have hst := J2.st id q hid hq2
  obtain ⟨w, hw⟩ : ∃ w, w = γ2.p.val (d.c.B id (2 + 2 * q)) := ⟨_, rfl⟩
  rw [<- hw] at hst ⊢
  have htm := tmod_emod hst.1
  have k2 := a2.I.clk id hid
  by_cases hm : w.tmod 4 = 0
  case neg =>
    (repeat (first | refine EK.seq ?_ | refine EK.region ?_ | refine ER.done ?_ | refine ER.move rfl rfl rfl ?_ | refine ER.assign rfl rfl rfl ?_ | refine ER.no rfl rfl ?_ | refine ER.pickT rfl rfl rfl rfl ?_ | refine ER.cmpT rfl rfl rfl rfl rfl (by first | (dsimp only [cmpP]; omega) | exact rfl | exact Int.le_refl _) ?_ | refine ER.add (kd := .i64) rfl rfl rfl rfl (i64_in (by omega) (by omega)) ?_ | refine ER.rem (kd := .i64) rfl rfl rfl rfl (by decide) rfl ?_ | refine EK.condT rfl ?_ | refine EK.exit rfl ?_))
    exact EK.back (again (q + 1, γ2, γ2.p.u) _ _ (by show 16 - (q + 1) < 16 - q; omega) ⟨rfl, by show q + 1 <= 16; omega, a2, gg2⟩) ⟨rfl, rfl, rfl, rfl, rfl, rfl, trivial⟩
  have ew2 : w + 2 = w + 1 + 1 := by omega
  (repeat (first | refine EK.seq ?_ | refine EK.region ?_ | refine ER.done ?_ | refine ER.move rfl rfl rfl ?_ | refine ER.assign rfl rfl rfl ?_ | refine ER.nilCheck rfl rfl rfl ?_ | refine ER.fieldAddr rfl rfl rfl ?_ | refine ER.cmpF rfl rfl rfl rfl rfl (by first | (dsimp only [cmpP]; omega) | exact rfl | exact Int.le_refl _) ?_ | refine ER.rem (kd := .i64) rfl rfl rfl rfl (by decide) rfl ?_))
  refine ER.load1 rfl rfl rfl (k2.pst q hq2) ?_
  (repeat (first | refine ER.move rfl rfl rfl ?_ | refine ER.add (kd := .i64) rfl rfl rfl rfl (i64_in (by omega) (by omega)) ?_))
  refine ER.callP rfl rfl rfl rfl rfl (cocas ok a2 (isC_B hid (by omega)) (ht.trans gg2.al.tb.symm)) (fun _ _ _ y => y.along gg2.al) ?_
  rintro _ h3 δ3 ⟨γ3, rfl, ⟨rfl, _, a3, g3, -, -⟩ | ⟨rfl, hv3, g3, hv3'⟩⟩
  · (repeat (first | refine EK.region ?_ | refine ER.done ?_ | refine ER.move rfl rfl rfl ?_ | refine ER.notB rfl rfl rfl ?_ | refine ER.pickF rfl rfl rfl rfl ?_ | refine ER.add (kd := .i64) rfl rfl rfl rfl (i64_in (by omega) (by omega)) ?_ | refine EK.condT rfl ?_ | refine EK.exit rfl ?_))
    exact EK.back (again (q + 1, γ3, γ3.p.u) _ _ (by show 16 - (q + 1) < 16 - q; omega) ⟨rfl, by show q + 1 <= 16; omega, a3, gg2.trans g3⟩) ⟨rfl, rfl, rfl, rfl, rfl, rfl, trivial⟩
  have k3 : ClkP h3 (d.c.C id) (d.c.B id) (γ3.p.u.fns id) := CMI.clk (d := d) (u := γ3.p.u) (h := h3) g3.thr.I id hid
  have gg3 := gg2.trans g3.go
  (repeat (first | refine EK.seq ?_ | refine EK.region ?_ | refine ER.done ?_ | refine EK.skip ?_ | refine ER.move rfl rfl rfl ?_ | refine ER.nilCheck rfl rfl rfl ?_ | refine ER.fieldAddr rfl rfl rfl ?_ | refine ER.notB rfl rfl rfl ?_ | refine ER.pickF rfl rfl rfl rfl ?_ | refine EK.condF rfl ?_))
  refine ER.store1 rfl rfl rfl (by simp [OneCell]) ⟨_, k3.pf q hq2⟩ (k3.froz _) (g3.thr.free (.inl (baseC ok hid))) ?_
  have a4 := g3.claim ok (id := id) (j := q) (y := w) hid hq2 rfl hv3 hv3' (by omega) (hf.mono gg3.kept)
  rw [hfe] at a4
  have gg4 : Go_ d i γ u γ3 { γ3.p.u with hold := γ3.p.u.hold } := gg3
  generalize hu4 : ({ γ3.p.u with hold := ut γ3.p.u.hold i ((d.c.B id (2 + 2 * q), w + 1) :: γ3.p.u.hold i), fns := _ } : CU) = u4 at a4
  have hh4 : u4.hold i = (d.c.B id (2 + 2 * q), w + 1) :: u.hold i := by
    subst hu4
    show ut _ i _ i = _
    rw [ut_same, gg3.hold]
  have ht4 : u4.th i = u.th i := by subst hu4; exact gg3.th
  have hto4 : u4.told i = γ3.p.u.told i := by subst hu4; rfl
  have hk4 : ∀ z, z ∈ u.kept -> z ∈ u4.kept := by subst hu4; exact gg3.kept
  clear hu4 gg4
  have k4 := a4.I.clk id hid
  (repeat (first | refine EK.seq ?_ | refine EK.region ?_ | refine ER.done ?_ | refine ER.move rfl rfl rfl ?_ | refine ER.nilCheck rfl rfl rfl ?_ | refine ER.fieldAddr rfl rfl rfl ?_))
  refine ER.load1 rfl rfl rfl (k4.pdu q hq2) ?_
  (repeat refine ER.move rfl rfl rfl ?_)
  refine ER.callP rfl rfl rfl rfl rfl (costore ok a4 (isC_B hid (by omega)) (ht.trans gg3.al.tb.symm)) (fun _ _ _ y => y.along gg3.al) ?_
  rintro _ h5 δ5 ⟨γ5, rfl, rfl, g5, hv5⟩
  have a5 := g5.plain ok hv5 (fun i' j' hi' hj' e => by have := (ok.c.inj _ _ _ _ hid (by omega) hi' (by omega) e).2; omega) (fun i' hi' e => by have := (ok.c.inj _ _ _ _ hid (by omega) hi' (by omega) e).2; omega) (.inr ⟨by omega, by omega⟩)
  have k5 := a5.I.clk id hid
  have gg5 := gg3.al.trans g5.go.al
  (repeat (first | refine EK.seq ?_ | refine EK.region ?_ | refine ER.done ?_ | refine ER.move rfl rfl rfl ?_ | refine ER.nilCheck rfl rfl rfl ?_ | refine ER.fieldAddr rfl rfl rfl ?_))
  refine ER.load1 rfl rfl rfl (k5.pst q hq2) ?_
  (repeat (first | refine ER.move rfl rfl rfl ?_ | refine ER.add (kd := .i64) rfl rfl rfl rfl (i64_in (by omega) (by omega)) ?_))
  refine ER.callP rfl rfl rfl rfl rfl (costore ok a5 (isC_B hid (by omega)) (ht.trans gg5.tb.symm)) (fun _ _ _ y => y.along gg5) ?_
  rintro _ h6 δ6 ⟨γ6, rfl, rfl, g6, hv6⟩
  rw [ew2] at hv6
  have a6 := (g6.popS ok (id := id) (j := q) (y := w + 1) (H := u.hold i) hid hq2 rfl hv6 (g5.go.hold.trans hh4) (by omega)).1
  have e6 : kind2 (w + 1 + 1) = 1 := by unfold kind2; rw [if_pos (by omega)]
  rw [e6] at a6
  (repeat (first | refine EK.seq ?_ | refine EK.region ?_ | refine ER.done ?_ | refine ER.move rfl rfl rfl ?_ | refine ER.add (kd := .i64) rfl rfl rfl rfl (i64_in (by omega) (by omega)) ?_))
  refine ER.buildS (cells := #[.int .i64 q, .int .i64 (w + 2)]) rfl rfl rfl rfl ?_
  refine ER.storeT2 (a6.own (q := (y, timC 0 0)) List.mem_cons_self) rfl rfl rfl rfl (by simp [OneCell]) (by simp [OneCell]) (fun _ => a6.free (.inr (.inl ⟨_, List.mem_cons_self, rfl⟩))) ?_
  have a9 := a6.put ok (o := timC q (w + 2)) hfr
  (repeat (first | refine ER.done ?_ | refine ER.assign rfl rfl rfl ?_ | refine EK.ret ?_))
  refine EU.retCell2 (a9.own (q := (y, timC q (w + 2))) List.mem_cons_self) rfl rfl rfl ⟨γ6, _, q, w + 2, 0, rfl, rfl, a9.drop ok, gg5.trans g6.go.al, ?_, ?_, fun z hz => g6.go.kept _ (g5.go.kept _ (hk4 z hz)), ?_, ?_⟩
  · show ut _ i _ i = _
    rw [ut_same]
  · exact g6.go.th.trans (g5.go.th.trans ht4)
  · exact Nat.le_trans gg3.len (Nat.le_trans g5.go.len g6.go.len)
  · have t1 := gg3.tol
    have t2 := g5.go.tol
    have t3 := g6.go.tol
    rw [hto4] at t2
    show (γ6.p.u.told i).length + _ <= _
    omega
end
end
section
open Go Go.TJ Go.Conc Go.Proofs
def ownN {X : Us} (i : Nat) (γ : GG X) : Nat := (ownOf i (γ.p.acc i).log).length
section
variable {d : CD} {u u' : CU} {h h' h1 : Hp} {i : Nat} {γ γ' : GG (XC d)} {L L' : List (Nat × Obj)} {dl : Int} {t id : Nat}
theorem AtC.own_le (a : AtC d i γ u L h dl) : ownN i γ <= 65536 := by
  have h1 := a.thr.len
  have h2 : (γ.p.acc i).log.length <= γ.p.log.length + 1 := by
    unfold PS.acc
    split
    · show (γ.p.log ++ [_]).length <= _; simp
    · omega
  have h3 : ownN i γ <= (γ.p.acc i).log.length := List.length_filter_le _ _
  omega
structure LkS (d : CD) where
  q : Nat
  γ : GG (XC d)
  u : CU
  s : Int
  r : Int
  b : Bool
  dv : Int
set_option maxRecDepth 8000 in
set_option maxHeartbeats 8000000 in
theorem colook (ok : d.Ok) (a : AtC d i γ u L h 0) (hid : id < d.c.nC) (ht : t = γ.p.tb i) {x : Int} : CallW Try.prog false (SitT Try.prog (PX (XC d)) (i + 1)) 80 #[ptr (d.c.C id), ptr t, .int .i64 x] h ⟨0, γ⟩ (RetP (fun w h' δ' => ∃ (γ' : GG (XC d)) (u' : CU) (s r : Int) (b : Bool), δ' = ⟨0, γ'⟩ /\ w = .tuple #[.agg #[.int .i64 s, .int .i64 r], .bool b] /\ AtC d i γ' u' L h' 0 /\ Go_ d i γ u γ' u' /\ (b = true -> ∃ j : Nat, s = j /\ j < 16 /\ r % 4 = 2 /\ 0 <= r /\ r <= 4 * 65536) /\ ownN i γ < ownN i γ') (Halt (XC d) i γ.p)) := by
  obtain ⟨y6, hy6⟩ : ∃ y, y = h.size := ⟨_, rfl⟩
  obtain ⟨y8, hy8⟩ : ∃ y, y = (h.push (timC 0 0)).size := ⟨_, rfl⟩
  have a0 := (a.alloc ok (timC 0 0)).alloc ok (timC 0 0)
  have hn6 := a.fresh
  have hn8 := (a.alloc ok (timC 0 0)).fresh
  refine CallW.start (n := 57) rfl rfl ?_
  (repeat (first | refine EK.seq ?_ | refine EK.region ?_ | refine ER.done ?_ | refine EK.block ?_ | refine ER.move rfl rfl rfl ?_ | refine ER.assign rfl rfl rfl ?_ | refine ER.allocA rfl rfl ?_))
  change EK _ _ _ _ _ _ _ _ ((h.push (timC 0 0)).push (timC 0 0)) _ _
  rw [<- hy8] at a0 hn8
  rw [<- hy6] at a0 hn6 hn8
  have hn68 : y6 ≠ y8 := hn8 _ List.mem_cons_self
  refine EK.loopInv (fun q : LkS d => [(14, .int .i64 q.q), (0, ptr (d.c.C id)), (1, ptr t), (2, .int .i64 x), (6, ptr y6), (8, ptr y8), (9, .int .i64 q.dv), (10, .bool q.b)])
    (fun q h' δ' => δ' = ⟨0, q.γ⟩ /\ q.q <= 16 /\ AtC d i q.γ q.u ((y8, timC q.s q.r) :: (y6, timC 0 0) :: L) h' 0 /\ Go_ d i γ u q.γ q.u /\ (q.b = true -> ∃ j : Nat, q.s = j /\ j < 16 /\ q.r % 4 = 2 /\ 0 <= q.r /\ q.r <= 4 * 65536) /\ (q.q = 0 \/ ownN i γ < ownN i q.γ)) (fun q => 16 - q.q) ⟨0, γ, u, 0, 0, false, 0⟩ ⟨by rfl, by rfl, by rfl, by rfl, by rw [hy6]; rfl, by rw [hy8]; rfl, by rfl, by rfl, trivial⟩ ⟨rfl, Nat.zero_le _, a0, Go_.refl _ _ _ _, (fun e => by cases e), .inl rfl⟩ ?_
  clear a0
  rintro ⟨q, γ1, u1, s, r, b, dv⟩ h1 δ1 ⟨hδ, hq, a1, g1, hb, hl1⟩ again
  dsimp only at hδ hq a1 g1 hb hl1 again ⊢
  subst hδ
  by_cases hq' : q = 16
  · subst hq'
    have a2 := a1.sub ok (L' := (y6, timC 0 0) :: (y8, timC s r) :: L) (fun z hz => by
      rcases List.mem_cons.1 hz with rfl | hz
      · exact List.mem_cons_of_mem _ List.mem_cons_self
      · rcases List.mem_cons.1 hz with rfl | hz
        · exact List.mem_cons_self
        · exact List.mem_cons_of_mem _ (List.mem_cons_of_mem _ hz))
    have c8 : hrow h1 y8 0 [.int .i64 s, .int .i64 r] := hrow2 (a1.own (q := (y8, timC s r)) List.mem_cons_self)
    (repeat (first | refine EK.seq ?_ | refine EK.region ?_ | refine ER.done ?_ | refine ER.cmpF rfl rfl rfl rfl rfl (by first | (dsimp only [cmpP]; omega) | exact rfl | exact Int.le_refl _) ?_ | refine EK.condF rfl ?_ | refine EK.exit rfl ?_))
    refine ER.loadN (vs := [.int .i64 s, .int .i64 r]) rfl rfl rfl rfl c8 ?_
    (repeat refine ER.move rfl rfl rfl ?_)
    refine ER.storeT2 (a2.own (q := (y6, timC 0 0)) List.mem_cons_self) rfl rfl rfl rfl (by simp [OneCell]) (by simp [OneCell]) (fun _ => a2.free (.inr (.inl ⟨_, List.mem_cons_self, rfl⟩))) ?_
    have a9 := a2.put ok (o := timC s r) (fun z hz => by
      rcases List.mem_cons.1 hz with rfl | hz
      · exact Ne.symm hn68
      · exact hn6 z hz)
    (repeat (first | refine ER.done ?_ | refine ER.assign rfl rfl rfl ?_ | refine EK.ret ?_))
    exact EU.retCell2 (a9.own (q := (y6, timC s r)) List.mem_cons_self) rfl rfl rfl ⟨γ1, u1, s, r, b, rfl, rfl, (a9.drop ok).drop ok, g1, hb, hl1.resolve_left (by omega)⟩
  have hq2 : q < 16 := by omega
  have k1 := a1.I.clk id hid
  have hl0 : ownN i γ <= ownN i γ1 := g1.len
  (repeat (first | refine EK.seq ?_ | refine EK.region ?_ | refine ER.done ?_ | refine EK.skip ?_ | refine EK.block ?_ | refine ER.move rfl rfl rfl ?_ | refine ER.assign rfl rfl rfl ?_ | refine ER.nilCheck rfl rfl rfl ?_ | refine ER.fieldAddr rfl rfl rfl ?_ | refine ER.cmpT rfl rfl rfl rfl rfl (by first | (dsimp only [cmpP]; omega) | exact rfl | exact Int.le_refl _) ?_ | refine ER.indexArr rfl rfl rfl rfl (by omega) (by omega) ?_ | refine EK.condT rfl ?_))
  refine ER.load1 rfl rfl rfl (k1.pst q hq2) ?_
  (repeat refine ER.move rfl rfl rfl ?_)
  refine ER.callP rfl rfl rfl rfl rfl (coload ok a1 (isC_B hid (by omega)) (ht.trans g1.al.tb.symm)) (fun _ _ _ y => y.along g1.al) ?_
  rintro _ h2 δ2 ⟨γ2, rfl, rfl, a2, g2, J2, len2, big2⟩
  have gg2 := g1.trans g2
  have hst := J2.st id q hid hq2
  obtain ⟨w, hw⟩ : ∃ w, w = γ2.p.val (d.c.B id (2 + 2 * q)) := ⟨_, rfl⟩
  rw [<- hw] at hst ⊢
  have htm := tmod_emod hst.1
  have k2 := a2.I.clk id hid
  change ownN i γ1 < ownN i γ2 at len2
  by_cases hm : w.tmod 4 = 2
  case neg =>
    skip
    (repeat (first | refine EK.seq ?_ | refine EK.region ?_ | refine ER.done ?_ | refine ER.move rfl rfl rfl ?_ | refine ER.assign rfl rfl rfl ?_ | refine ER.cmpT rfl rfl rfl rfl rfl (by first | (dsimp only [cmpP]; omega) | exact rfl | exact Int.le_refl _) ?_ | refine ER.add (kd := .i64) rfl rfl rfl rfl (i64_in (by omega) (by omega)) ?_ | refine ER.rem (kd := .i64) rfl rfl rfl rfl (by decide) rfl ?_ | refine EK.condT rfl ?_ | refine EK.exit rfl ?_))
    refine EK.back (again ⟨q + 1, γ2, γ2.p.u, s, r, b, dv⟩ _ _ (by show 16 - (q + 1) < 16 - q; omega) ⟨rfl, by show q + 1 <= 16; omega, a2, gg2, hb, .inr (by show ownN i γ < ownN i γ2; omega)⟩) ⟨rfl, rfl, rfl, rfl, rfl, rfl, rfl, rfl, trivial⟩
  (repeat (first | refine EK.seq ?_ | refine EK.region ?_ | refine ER.done ?_ | refine EK.skip ?_ | refine ER.move rfl rfl rfl ?_ | refine ER.assign rfl rfl rfl ?_ | refine ER.nilCheck rfl rfl rfl ?_ | refine ER.fieldAddr rfl rfl rfl ?_ | refine ER.cmpF rfl rfl rfl rfl rfl (by first | (dsimp only [cmpP]; omega) | exact rfl | exact Int.le_refl _) ?_ | refine ER.rem (kd := .i64) rfl rfl rfl rfl (by decide) rfl ?_ | refine ER.indexArr rfl rfl rfl rfl (by omega) (by omega) ?_ | refine EK.condF rfl ?_))
  refine ER.load1 rfl rfl rfl (k2.pdu q hq2) ?_
  (repeat refine ER.move rfl rfl rfl ?_)
  refine ER.callP rfl rfl rfl rfl rfl (coload ok a2 (isC_B hid (by omega)) (ht.trans gg2.al.tb.symm)) (fun _ _ _ y => y.along gg2.al) ?_
  rintro _ h3 δ3 ⟨γ3, rfl, rfl, a3, g3, J3, len3, big3⟩
  have gg3 := gg2.trans g3
  change ownN i γ2 < ownN i γ3 at len3
  generalize γ3.p.val (d.c.B id (3 + 2 * q)) = v
  by_cases h3 : v <= x
  case neg =>
    skip
    (repeat (first | refine EK.seq ?_ | refine EK.region ?_ | refine ER.done ?_ | refine EK.skip ?_ | refine EK.inBlock ?_ | refine ER.move rfl rfl rfl ?_ | refine ER.assign rfl rfl rfl ?_ | refine ER.no rfl rfl ?_ | refine ER.pickF rfl rfl rfl rfl ?_ | refine ER.cmpF rfl rfl rfl rfl rfl (by first | (dsimp only [cmpP]; omega) | exact rfl | exact Int.le_refl _) ?_ | refine ER.add (kd := .i64) rfl rfl rfl rfl (i64_in (by omega) (by omega)) ?_ | refine EK.condF rfl ?_))
    refine EK.back (again ⟨q + 1, γ3, γ3.p.u, s, r, b, dv⟩ _ _ (by show 16 - (q + 1) < 16 - q; omega) ⟨rfl, by show q + 1 <= 16; omega, a3, gg3, hb, .inr (by show ownN i γ < ownN i γ3; omega)⟩) ⟨rfl, rfl, rfl, rfl, rfl, rfl, rfl, rfl, trivial⟩
  cases b with
  | false =>
    (repeat (first | refine EK.seq ?_ | refine EK.region ?_ | refine ER.done ?_ | refine ER.move rfl rfl rfl ?_ | refine ER.assign rfl rfl rfl ?_ | refine ER.no rfl rfl ?_ | refine ER.notB rfl rfl rfl ?_ | refine ER.pickT rfl rfl rfl rfl ?_ | refine ER.cmpT rfl rfl rfl rfl rfl (by first | (dsimp only [cmpP]; omega) | exact rfl | exact Int.le_refl _) ?_ | refine EK.condT rfl ?_))
    refine ER.buildS (cells := #[.int .i64 q, .int .i64 w]) rfl rfl rfl rfl ?_
    (repeat refine ER.move rfl rfl rfl ?_)
    refine ER.storeT2 (a3.own (q := (y8, timC s r)) List.mem_cons_self) rfl rfl rfl rfl (by simp [OneCell]) (by simp [OneCell]) (fun _ => a3.free (.inr (.inl ⟨_, List.mem_cons_self, rfl⟩))) ?_
    have a9 := a3.put ok (o := timC q w) hn8
    (repeat (first | refine EK.region ?_ | refine ER.done ?_ | refine EK.inBlock ?_ | refine ER.move rfl rfl rfl ?_ | refine ER.assign rfl rfl rfl ?_ | refine ER.add (kd := .i64) rfl rfl rfl rfl (i64_in (by omega) (by omega)) ?_))
    refine EK.back (again ⟨q + 1, γ3, γ3.p.u, q, w, true, v⟩ _ _ (by show 16 - (q + 1) < 16 - q; omega) ⟨rfl, by show q + 1 <= 16; omega, a9, gg3, fun _ => ⟨q, rfl, hq2, by show w % 4 = 2; omega, hst.1, by show w <= 4 * 65536; omega⟩, .inr (by show ownN i γ < ownN i γ3; omega)⟩) ⟨rfl, rfl, rfl, rfl, rfl, rfl, rfl, rfl, trivial⟩
  | true =>
    by_cases h4 : v < dv
    · (repeat (first | refine EK.seq ?_ | refine EK.region ?_ | refine ER.done ?_ | refine ER.move rfl rfl rfl ?_ | refine ER.assign rfl rfl rfl ?_ | refine ER.notB rfl rfl rfl ?_ | refine ER.pickT rfl rfl rfl rfl ?_ | refine ER.pickF rfl rfl rfl rfl ?_ | refine ER.cmpT rfl rfl rfl rfl rfl (by first | (dsimp only [cmpP]; omega) | exact rfl | exact Int.le_refl _) ?_ | refine EK.condT rfl ?_))
      refine ER.buildS (cells := #[.int .i64 q, .int .i64 w]) rfl rfl rfl rfl ?_
      (repeat refine ER.move rfl rfl rfl ?_)
      refine ER.storeT2 (a3.own (q := (y8, timC s r)) List.mem_cons_self) rfl rfl rfl rfl (by simp [OneCell]) (by simp [OneCell]) (fun _ => a3.free (.inr (.inl ⟨_, List.mem_cons_self, rfl⟩))) ?_
      have a9 := a3.put ok (o := timC q w) hn8
      (repeat (first | refine EK.region ?_ | refine ER.done ?_ | refine EK.inBlock ?_ | refine ER.move rfl rfl rfl ?_ | refine ER.assign rfl rfl rfl ?_ | refine ER.add (kd := .i64) rfl rfl rfl rfl (i64_in (by omega) (by omega)) ?_))
      refine EK.back (again ⟨q + 1, γ3, γ3.p.u, q, w, true, v⟩ _ _ (by show 16 - (q + 1) < 16 - q; omega) ⟨rfl, by show q + 1 <= 16; omega, a9, gg3, fun _ => ⟨q, rfl, hq2, by show w % 4 = 2; omega, hst.1, by show w <= 4 * 65536; omega⟩, .inr (by show ownN i γ < ownN i γ3; omega)⟩) ⟨rfl, rfl, rfl, rfl, rfl, rfl, rfl, rfl, trivial⟩
    · skip
      (repeat (first | refine EK.seq ?_ | refine EK.region ?_ | refine ER.done ?_ | refine EK.skip ?_ | refine EK.inBlock ?_ | refine ER.move rfl rfl rfl ?_ | refine ER.assign rfl rfl rfl ?_ | refine ER.notB rfl rfl rfl ?_ | refine ER.pickT rfl rfl rfl rfl ?_ | refine ER.pickF rfl rfl rfl rfl ?_ | refine ER.cmpT rfl rfl rfl rfl rfl (by first | (dsimp only [cmpP]; omega) | exact rfl | exact Int.le_refl _) ?_ | refine ER.cmpF rfl rfl rfl rfl rfl (by first | (dsimp only [cmpP]; omega) | exact rfl | exact Int.le_refl _) ?_ | refine ER.add (kd := .i64) rfl rfl rfl rfl (i64_in (by omega) (by omega)) ?_ | refine EK.condF rfl ?_))
      refine EK.back (again ⟨q + 1, γ3, γ3.p.u, s, r, true, dv⟩ _ _ (by show 16 - (q + 1) < 16 - q; omega) ⟨rfl, by show q + 1 <= 16; omega, a3, gg3, hb, .inr (by show ownN i γ < ownN i γ3; omega)⟩) ⟨rfl, rfl, rfl, rfl, rfl, rfl, rfl, rfl, trivial⟩
end
end
section
open Go Go.TJ Go.Conc Go.Proofs
theorem cSum_nn {f : Nat -> Int} (h : ∀ j, 0 <= f j) : ∀ {n : Nat}, 0 <= cSum f n
  | 0 => Int.le_refl _
  | n + 1 => Int.add_nonneg (cSum_nn h) (h n)
open Classical in
noncomputable def freeI (c : CP) (H : List (Nat × Int)) : Int := cSum (fun j => if (c.B j 1, (1 : Int)) ∈ H then 0 else 1) c.nC
section
variable {c : CP} {H : List (Nat × Int)}
theorem freeI_nn : 0 <= freeI c H := cSum_nn fun j => by
  show (0 : Int) <= ite _ _ _
  split <;> omega
theorem freeI_slot (ok : c.Ok) {id j : Nat} (hi : id < c.nC) (hj : j < 16) {y : Int} : freeI c ((c.B id (2 + 2 * j), y) :: H) = freeI c H := by
  refine cSum_congr fun k hk => ?_
  show ite _ _ _ = ite _ _ _
  by_cases e : (c.B k 1, (1 : Int)) ∈ H
  · rw [if_pos e, if_pos (List.mem_cons_of_mem _ e)]
  · refine (if_neg fun z => (List.mem_cons.1 z).elim (fun e' => ?_) e).trans (if_neg e).symm
    have := congrArg Prod.fst e'
    obtain ⟨-, z2⟩ := ok.inj _ _ _ _ hk (by omega) hi (by omega) this
    omega
theorem freeI_busy (ok : c.Ok) {id : Nat} (hi : id < c.nC) (hn : ∀ q, q ∈ H -> q.1 ≠ c.B id 1) : freeI c ((c.B id 1, 1) :: H) = freeI c H - 1 := by
  unfold freeI
  rw [cSum_set (i := id) (f := fun j => if (c.B j 1, (1 : Int)) ∈ H then 0 else 1) hi fun k hk hne => ?_]
  · rw [if_pos List.mem_cons_self, if_neg fun z => hn _ z rfl]; omega
  · by_cases e : (c.B k 1, (1 : Int)) ∈ H
    · rw [if_pos e, if_pos (List.mem_cons_of_mem _ e)]
    · refine (if_neg fun z => (List.mem_cons.1 z).elim (fun e' => ?_) e).trans (if_neg e).symm
      have := congrArg Prod.fst e'
      obtain ⟨z1, -⟩ := ok.inj _ _ _ _ hk (by omega) hi (by omega) this
      exact absurd z1 hne
end
section
variable {d : CD} {u u' u1 u2 : CU} {h h' h1 : Hp} {i : Nat} {γ γ' γ1 γ2 : GG (XC d)} {L L' : List (Nat × Obj)} {dl : Int} {t id m : Nat} {H : List (Nat × Int)}
structure GoH (d : CD) (i : Nat) (γ : GG (XC d)) (u : CU) (H : List (Nat × Int)) (γ' : GG (XC d)) (u' : CU) : Prop where
  al : Along (XC d) i γ.p γ'.p
  hold : u'.hold i = H
  th : u'.th i = u.th i
  kept : ∀ q, q ∈ u.kept -> q ∈ u'.kept
  len : ownN i γ <= ownN i γ'
  tol : (u'.told i).length + 31 * ownN i γ <= (u.told i).length + 31 * ownN i γ'
theorem GoS.toH (g : Go_ d i γ u γ1 u1) : GoH d i γ u (u.hold i) γ1 u1 := ⟨g.al, g.hold, g.th, g.kept, g.len, g.tol⟩
theorem GoH.go (g : GoH d i γ u (u.hold i) γ1 u1) : Go_ d i γ u γ1 u1 := ⟨g.al, g.hold, g.th, g.kept, g.len, g.tol⟩
theorem GoH.step (g : GoH d i γ u H γ1 u1) (b : Go_ d i γ1 u1 γ2 u2) : GoH d i γ u H γ2 u2 := ⟨g.al.trans b.al, b.hold.trans g.hold, b.th.trans g.th, fun q hq => b.kept q (g.kept q hq), Nat.le_trans g.len b.len, by have h1 := g.tol; have h2 := b.tol; unfold ownN at h1 ⊢; omega⟩
theorem GoH.push (g : GoH d i γ u H γ1 u1) (q : Nat × Int) : GoH d i γ u (q :: H) γ1 { u1 with hold := ut u1.hold i (q :: u1.hold i) } :=
  ⟨g.al, by show ut _ i _ i = _; rw [ut_same, g.hold], g.th, g.kept, g.len, g.tol⟩
theorem GoH.set (g : GoH d i γ u H γ1 u1) (H' : List (Nat × Int)) : GoH d i γ u H' γ1 { u1 with hold := ut u1.hold i H' } :=
  ⟨g.al, by show ut _ i _ i = _; rw [ut_same], g.th, g.kept, g.len, g.tol⟩
def RingC (d : CD) (i m : Nat) : Prop := ∀ (γ : GG (XC d)) (u : CU) (L : List (Nat × Obj)) (h : Hp), AtC d i γ u L h (-1) -> (u.told i).length <= 31 * ownN i γ -> u.th i = ptr (γ.p.tb i) -> freeI d.c (u.hold i) <= m -> ∀ b1 b2 s : Nat, (b1, Obj.cells #[ptr d.c.w] 27 (0, 0)) ∈ u.kept -> (b2, Obj.cells #[.int .i64 s] 3 (0, 0)) ∈ u.kept -> s < d.c.sc.length ->
  CallW Try.prog false (SitT Try.prog (PX (XC d)) (i + 1)) 154 #[ptr (γ.p.tb i), ptr b1, ptr b2] h ⟨0, γ⟩ (RetP (fun _ h' δ' => ∃ (γ' : GG (XC d)) (u' : CU), δ' = ⟨0, γ'⟩ /\ AtC d i γ' u' L h' 0 /\ GoS d i 31 γ u γ' u') (Halt (XC d) i γ.p))
set_option maxRecDepth 8000 in
set_option maxHeartbeats 8000000 in
theorem coadv_T (ok : d.Ok) (hR : ∀ m', m' < m -> RingC d i m') (a : AtC d i γ u L h 0) (hfr : freeI d.c (u.hold i) <= m) (hid : id < d.c.nC) (ht : t = γ.p.tb i) (hth : u.th i = ptr t) (hto : (u.told i).length <= 31 * ownN i γ + 31) {x : Int} : CallW Try.prog false (SitT Try.prog (PX (XC d)) (i + 1)) 16 #[ptr (d.c.C id), ptr t, .int .i64 x] h ⟨0, γ⟩ (RetP (fun w h' δ' => ∃ (γ' : GG (XC d)) (u' : CU) (r e : Int), δ' = ⟨0, γ'⟩ /\ w = .tuple #[.int .i64 r, .int .i64 e] /\ AtC d i γ' u' L h' 0 /\ Go_ d i γ u γ' u') (Halt (XC d) i γ.p)) := by
  have k := a.I.clk id hid
  refine CallW.start (n := 101) rfl rfl ?_
  (repeat (first | refine EK.seq ?_ | refine EK.region ?_ | refine ER.done ?_ | refine ER.move rfl rfl rfl ?_ | refine ER.assign rfl rfl rfl ?_))
  refine ER.callD rfl rfl rfl rfl rfl (comade k.pnow) ?_
  by_cases hx : x < 0
  · (repeat (first | refine EK.seq ?_ | refine EK.region ?_ | refine ER.done ?_ | refine EK.skip ?_ | refine ER.move rfl rfl rfl ?_ | refine ER.assign rfl rfl rfl ?_ | refine ER.notB rfl rfl rfl ?_ | refine ER.cmpT rfl rfl rfl rfl rfl (by first | (dsimp only [cmpP]; omega) | exact rfl | exact Int.le_refl _) ?_ | refine EK.condT rfl ?_ | refine EK.condF rfl ?_ | refine EK.ret ?_))
    exact EU.ret2 rfl rfl rfl ⟨γ, u, 0, 1, rfl, rfl, a, Go_.refl _ _ _ _⟩
  (repeat (first | refine EK.seq ?_ | refine EK.region ?_ | refine ER.done ?_ | refine EK.skip ?_ | refine ER.move rfl rfl rfl ?_ | refine ER.nilCheck rfl rfl rfl ?_ | refine ER.fieldAddr rfl rfl rfl ?_ | refine ER.notB rfl rfl rfl ?_ | refine ER.cmpF rfl rfl rfl rfl rfl (by first | (dsimp only [cmpP]; omega) | exact rfl | exact Int.le_refl _) ?_ | refine EK.condF rfl ?_))
  refine ER.load1 rfl rfl rfl k.pbusy ?_
  (repeat refine ER.move rfl rfl rfl ?_)
  refine ER.callP rfl rfl rfl rfl rfl (cocas ok a (isC_B hid (by omega)) ht) (fun _ _ _ y => y) ?_
  rintro _ h1 δ1 ⟨γ1, rfl, ⟨rfl, _, a1, g1, -, -⟩ | ⟨rfl, hv1, g1, hv1'⟩⟩
  · (repeat (first | refine EK.seq ?_ | refine EK.region ?_ | refine ER.done ?_ | refine ER.assign rfl rfl rfl ?_ | refine ER.notB rfl rfl rfl ?_ | refine EK.condT rfl ?_ | refine EK.ret ?_))
    exact EU.ret2 rfl rfl rfl ⟨γ1, _, 0, 14, rfl, rfl, a1, g1⟩
  have fr1 := g1.inv.freeB ok.c hid hv1
  have a1 := g1.pushB ok (id := id) hid rfl hv1 hv1'
  have gg1 := g1.go.toH.push (d.c.B id 1, 1)
  have hm : freeI d.c ((d.c.B id 1, 1) :: u.hold i) = freeI d.c (u.hold i) - 1 := by
    have e := g1.go.hold
    rw [<- e]
    exact freeI_busy ok.c hid (fr1 i)
  have hm0 : 0 <= freeI d.c ((d.c.B id 1, 1) :: u.hold i) := freeI_nn
  have hRm := hR (m - 1) (by omega)
  generalize hu1 : ({ γ1.p.u with hold := ut γ1.p.u.hold i ((d.c.B id 1, 1) :: γ1.p.u.hold i) } : CU) = u1 at a1 gg1
  clear fr1 hu1
  have k1 := a1.I.clk id hid
  (repeat (first | refine EK.seq ?_ | refine EK.region ?_ | refine ER.done ?_ | refine EK.skip ?_ | refine ER.move rfl rfl rfl ?_ | refine ER.nilCheck rfl rfl rfl ?_ | refine ER.fieldAddr rfl rfl rfl ?_ | refine ER.notB rfl rfl rfl ?_ | refine EK.condF rfl ?_))
  refine ER.load1 rfl rfl rfl k1.pnow ?_
  (repeat refine ER.move rfl rfl rfl ?_)
  refine ER.callP rfl rfl rfl rfl rfl (coload ok a1 (isC_B hid (by omega)) (ht.trans gg1.al.tb.symm)) (fun _ _ _ y => y.along gg1.al) ?_
  rintro _ h2 δ2 ⟨γ2, rfl, rfl, a2, g2, J2, -, -⟩
  have gg2 := gg1.step g2
  have hnow := J2.now id hid
  generalize γ2.p.val (d.c.B id 0) = v at hnow
  obtain ⟨z, hz0⟩ : ∃ z, z = v + (if 4611686018427387904 - v < x then 4611686018427387904 - v else x) := ⟨_, rfl⟩
  have hz : 0 <= z /\ z <= 4611686018427387904 := by subst hz0; split <;> omega
  have k2 := a2.I.clk id hid
  (repeat (first | refine EK.seq ?_ | refine EK.region ?_ | refine ER.done ?_ | refine ER.move rfl rfl rfl ?_ | refine ER.assign rfl rfl rfl ?_ | refine ER.sub' (kd := .i64) rfl rfl rfl rfl (i64_in (by omega) (by omega)) ?_))
  refine ER.min rfl rfl rfl rfl rfl ?_
  refine ER.add (kd := .i64) (r := z) rfl rfl rfl rfl (by rw [<- hz0]; exact i64_in (by omega) (by omega)) ?_
  (repeat (first | refine EK.seq ?_ | refine EK.region ?_ | refine ER.done ?_ | refine ER.move rfl rfl rfl ?_ | refine ER.assign rfl rfl rfl ?_ | refine ER.nilCheck rfl rfl rfl ?_ | refine ER.fieldAddr rfl rfl rfl ?_))
  refine ER.load1 rfl rfl rfl k2.pnow ?_
  (repeat refine ER.move rfl rfl rfl ?_)
  refine ER.callP rfl rfl rfl rfl rfl (costore ok a2 (isC_B hid (by omega)) (ht.trans gg2.al.tb.symm)) (fun _ _ _ y => y.along gg2.al) ?_
  rintro _ h3 δ3 ⟨γ3, rfl, rfl, g3, hv3⟩
  have a3 := g3.plain ok hv3 (fun i' j' hi' hj' e => by have := (ok.c.inj _ _ _ _ hid (by omega) hi' (by omega) e).2; omega) (fun i' hi' e => by have := (ok.c.inj _ _ _ _ hid (by omega) hi' (by omega) e).2; omega) (.inr hz)
  have gg3 := gg2.step g3.go
  clear k k1 k2 a a1 a2 gg1 gg2 g1 g2 g3 hv1 hv1' hv3 J2
  (repeat (first | refine EK.seq ?_ | refine EK.region ?_ | refine ER.done ?_ | refine EK.block ?_ | refine ER.assign rfl rfl rfl ?_))
  refine EK.loopInv (fun q : Nat × GG (XC d) × CU => [(9, .int .i64 q.1), (0, ptr (d.c.C id)), (1, ptr t), (8, .int .i64 z)]) (fun q h' δ' => δ' = ⟨0, q.2.1⟩ /\ q.1 <= 64 /\ AtC d i q.2.1 q.2.2 L h' 0 /\ GoH d i γ u ((d.c.B id 1, 1) :: u.hold i) q.2.1 q.2.2) (fun q => 65536 - ownN i q.2.1) (0, γ3, γ3.p.u) ⟨rfl, rfl, rfl, rfl, trivial⟩ ⟨rfl, Nat.zero_le _, a3, gg3⟩ ?_
  clear a3 gg3
  rintro ⟨q, γ1, u1⟩ h1 δ1 ⟨hδ, hq, a1, g1⟩ again
  dsimp only at hδ hq a1 g1 again ⊢
  subst hδ
  have hl1 := a1.own_le
  (repeat (first | refine EK.seq ?_ | refine EK.region ?_ | refine EK.block ?_ | refine ER.move rfl rfl rfl ?_))
  refine ER.callP rfl rfl rfl rfl rfl (colook ok a1 hid (ht.trans g1.al.tb.symm)) (fun _ _ _ y => y.along g1.al) ?_
  rintro _ h2 δ2 ⟨γ2, u2, s, r, b, rfl, rfl, a2, g2, hb, hl2⟩
  have gg2 := g1.step g2
  obtain ⟨y, hy⟩ : ∃ y, y = h2.size := ⟨_, rfl⟩
  have hfr2 := a2.fresh
  have a3 := a2.alloc ok (timC 0 0)
  rw [<- hy] at a3 hfr2
  (repeat (first | refine ER.move rfl rfl rfl ?_ | refine ER.extract rfl rfl rfl rfl ?_ | refine ER.allocA rfl rfl ?_))
  rw [<- hy]
  refine ER.storeT2 (a3.own (q := (y, timC 0 0)) List.mem_cons_self) rfl rfl rfl rfl (by simp [OneCell]) (by simp [OneCell]) (fun _ => a3.free (.inr (.inl ⟨_, List.mem_cons_self, rfl⟩))) ?_
  have a4 := a3.put ok (o := timC s r) hfr2
  change ER _ _ _ _ _ _ _ _ _ _ ((h2.push (timC 0 0)).setIfInBounds y (timC s r)) _ _
  generalize (h2.push (timC 0 0)).setIfInBounds y (timC s r) = h4 at a4
  clear a3 a2 hy
  have g4 := gg2
  have k4 := a4.I.clk id hid
  cases b with
  | false =>
    skip
    (repeat (first | refine EK.seq ?_ | refine EK.region ?_ | refine ER.done ?_ | refine ER.move rfl rfl rfl ?_ | refine ER.assign rfl rfl rfl ?_ | refine ER.nilCheck rfl rfl rfl ?_ | refine ER.fieldAddr rfl rfl rfl ?_ | refine ER.no rfl rfl ?_ | refine ER.notB rfl rfl rfl ?_ | refine ER.pickT rfl rfl rfl rfl ?_ | refine EK.condT rfl ?_ | refine EK.exit rfl ?_))
    refine ER.load1 rfl rfl rfl k4.pbusy ?_
    (repeat refine ER.move rfl rfl rfl ?_)
    refine ER.callP rfl rfl rfl rfl rfl (costore ok a4 (isC_B hid (by omega)) (ht.trans g4.al.tb.symm)) (fun _ _ _ y => y.along g4.al) ?_
    rintro _ h5 δ5 ⟨γ5, rfl, rfl, g5, hv5⟩
    have a5 := (g5.popB ok (id := id) (H := u.hold i) hid rfl hv5 g4.hold).drop ok
    (repeat (first | refine EK.seq ?_ | refine EK.region ?_ | refine ER.done ?_ | refine ER.move rfl rfl rfl ?_ | refine ER.assign rfl rfl rfl ?_ | refine EK.ret ?_))
    exact EU.ret2 rfl rfl rfl ⟨γ5, _, _, 0, rfl, rfl, a5, ((g4.step g5.go).set (u.hold i)).go⟩
  | true =>
    obtain ⟨j, rfl, hj, hr4, hr0, hr1⟩ := hb rfl
    by_cases h64 : q = 64
    · subst h64
      (repeat (first | refine EK.seq ?_ | refine EK.region ?_ | refine ER.done ?_ | refine ER.move rfl rfl rfl ?_ | refine ER.assign rfl rfl rfl ?_ | refine ER.nilCheck rfl rfl rfl ?_ | refine ER.fieldAddr rfl rfl rfl ?_ | refine ER.notB rfl rfl rfl ?_ | refine ER.pickF rfl rfl rfl rfl ?_ | refine ER.cmpT rfl rfl rfl rfl rfl (by first | (dsimp only [cmpP]; omega) | exact rfl | exact Int.le_refl _) ?_ | refine EK.condT rfl ?_ | refine EK.exit rfl ?_))
      refine ER.load1 rfl rfl rfl k4.pbusy ?_
      (repeat refine ER.move rfl rfl rfl ?_)
      refine ER.callP rfl rfl rfl rfl rfl (costore ok a4 (isC_B hid (by omega)) (ht.trans g4.al.tb.symm)) (fun _ _ _ y => y.along g4.al) ?_
      rintro _ h5 δ5 ⟨γ5, rfl, rfl, g5, hv5⟩
      have a5 := (g5.popB ok (id := id) (H := u.hold i) hid rfl hv5 g4.hold).drop ok
      (repeat (first | refine EK.seq ?_ | refine EK.region ?_ | refine ER.done ?_ | refine ER.move rfl rfl rfl ?_ | refine ER.assign rfl rfl rfl ?_ | refine EK.ret ?_))
      exact EU.ret2 rfl rfl rfl ⟨γ5, _, _, 0, rfl, rfl, a5, ((g4.step g5.go).set (u.hold i)).go⟩
    have e0 : hcell h4 ⟨y, 0, none⟩ = some (.int .i64 (j : Int)) := hcell_of (a4.own (q := (y, timC j r)) List.mem_cons_self) rfl
    have e1 : hcell h4 ⟨y, 1, none⟩ = some (.int .i64 r) := hcell_of (a4.own (q := (y, timC j r)) List.mem_cons_self) rfl
    (repeat (first | refine EK.seq ?_ | refine EK.region ?_ | refine ER.done ?_ | refine EK.skip ?_ | refine ER.move rfl rfl rfl ?_ | refine ER.assign rfl rfl rfl ?_ | refine ER.notB rfl rfl rfl ?_ | refine ER.pickF rfl rfl rfl rfl ?_ | refine ER.cmpF rfl rfl rfl rfl rfl (by first | (dsimp only [cmpP]; omega) | exact rfl | exact Int.le_refl _) ?_ | refine EK.condF rfl ?_))
    refine EK.regionAny (fun h' => h' = h4) ?_
    have hZ : h4 = h4 := rfl
    refine EA.tMove 0 rfl (by kernel_rfl) rfl rfl rfl rfl hZ ?_
    refine EA.tField 1 rfl (by kernel_rfl) rfl rfl rfl rfl hZ ?_
    refine EA.tLoad 2 rfl (by kernel_rfl) rfl rfl rfl rfl (fun _ hz => hz ▸ e0) hZ ?_
    refine EA.tNil 3 rfl (by kernel_rfl) rfl rfl rfl rfl hZ ?_
    refine EA.tField 4 rfl (by kernel_rfl) rfl rfl rfl rfl hZ ?_
    refine EA.tIdxA 5 rfl (by kernel_rfl) rfl rfl rfl rfl rfl (by omega) (by omega) hZ ?_
    refine EA.tAssign 6 rfl (by kernel_rfl) rfl rfl rfl rfl hZ ?_
    refine EA.done (by kernel_rfl) ?_
    (repeat refine EK.seq ?_)
    refine EK.regionAny (fun h' => hcell h' ⟨y, 1, none⟩ = some (.int .i64 r) /\ hcell h' ⟨d.c.C id, 2 + j * 3, none⟩ = some (ptr (d.c.B id (2 + 2 * j)))) ?_
    have hZ := And.intro e1 (k4.pst j hj)
    refine EA.tMove 0 rfl (by kernel_rfl) rfl rfl rfl rfl hZ ?_
    refine EA.tNil 1 rfl (by kernel_rfl) rfl rfl rfl rfl hZ ?_
    refine EA.tField 2 rfl (by kernel_rfl) rfl rfl rfl rfl hZ ?_
    refine EA.tLoad 3 rfl (by kernel_rfl) rfl rfl rfl rfl (fun _ hz => hz.2) hZ ?_
    refine EA.tMove 4 rfl (by kernel_rfl) rfl rfl rfl rfl hZ ?_
    refine EA.tField 5 rfl (by kernel_rfl) rfl rfl rfl rfl hZ ?_
    refine EA.tLoad 6 rfl (by kernel_rfl) rfl rfl rfl rfl (fun _ hz => hz.1) hZ ?_
    refine EA.tField 7 rfl (by kernel_rfl) rfl rfl rfl rfl hZ ?_
    refine EA.tLoad 8 rfl (by kernel_rfl) rfl rfl rfl rfl (fun _ hz => hz.1) hZ ?_
    refine EA.tAdd (kd := .i64) 9 rfl (by kernel_rfl) rfl rfl rfl rfl rfl (i64_in (by omega) (by omega)) hZ ?_
    refine EA.tSub (kd := .i64) 10 rfl (by kernel_rfl) rfl rfl rfl rfl rfl (i64_in (by omega) (by omega)) hZ ?_
    have ev1 : r + 3 - 2 = r + 1 := by omega
    rw [ev1]
    refine eaCallP 11 rfl (by kernel_rfl) rfl rfl rfl rfl rfl rfl (cocas ok a4 (isC_B hid (by omega)) (ht.trans g4.al.tb.symm)) (fun _ _ _ y => y.along g4.al) ?_
    rintro _ h5 δ5 ⟨γ5, rfl, ⟨rfl, _, a5, g5, -, len5⟩ | ⟨rfl, hv5, g5, hv5'⟩⟩
    · have gg5 := g4.step g5
      have hZ := And.intro (hcell_of (a5.own (q := (y, timC j r)) List.mem_cons_self) rfl : hcell h5 ⟨y, 1, none⟩ = some (.int .i64 r)) ((a5.I.clk id hid).pst j hj)
      refine ⟨hZ, ?_⟩
      refine EA.tNot 12 rfl (by kernel_rfl) rfl rfl rfl rfl hZ ?_
      refine EA.done (by kernel_rfl) ?_
      (repeat (first | refine EK.condT rfl ?_ | refine EK.exit rfl ?_))
      have a6 := a5.drop ok
      have hl6 := a6.own_le
      have hl7 := g5.len
      change ownN i γ2 <= ownN i γ5 at hl7
      exact EK.back (again (q, γ5, γ5.p.u) _ _ (by show 65536 - ownN i γ5 < 65536 - ownN i γ1; omega) ⟨rfl, hq, a6, gg5⟩) ⟨rfl, rfl, rfl, rfl, trivial⟩
    have a5 := g5.ringS ok (id := id) (j := j) (y := r) hid hj rfl hv5 hv5' hr4
    have gg5 := (g4.step g5.go).push (d.c.B id (2 + 2 * j), r + 1)
    have len5 := g5.go.len
    change ownN i γ2 <= ownN i γ5 at len5
    have hfm : freeI d.c ((d.c.B id (2 + 2 * j), r + 1) :: (d.c.B id 1, 1) :: u.hold i) <= (m - 1 : Nat) := by
      rw [freeI_slot ok.c hid hj, hm]; omega
    have ehold : γ5.p.u.hold i = (d.c.B id 1, 1) :: u.hold i := (g4.step g5.go).hold
    rw [ehold] at a5
    generalize hu5 : ({ γ5.p.u with hold := ut γ5.p.u.hold i ((d.c.B id (2 + 2 * j), r + 1) :: (d.c.B id 1, 1) :: u.hold i) } : CU) = u5 at a5
    rw [ehold, hu5] at gg5
    have hZ := And.intro (hcell_of (a5.own (q := (y, timC j r)) List.mem_cons_self) rfl : hcell h5 ⟨y, 1, none⟩ = some (.int .i64 r)) ((a5.I.clk id hid).pst j hj)
    refine ⟨hZ, ?_⟩
    refine EA.tNot 12 rfl (by kernel_rfl) rfl rfl rfl rfl hZ ?_
    refine EA.done (by kernel_rfl) ?_
    (repeat (first | refine EK.seq ?_ | refine EK.region ?_ | refine EK.skip ?_ | refine ER.move rfl rfl rfl ?_ | refine ER.nilCheck rfl rfl rfl ?_ | refine ER.fieldAddr rfl rfl rfl ?_ | refine EK.condF rfl ?_))
    have k5 := a5.I.clk id hid
    have hval := (a5.inv.hold i (d.c.B id (2 + 2 * j), r + 1) (by rw [gg5.hold]; exact List.mem_cons_self)).1
    change (γ5.p.acc i).val (d.c.B id (2 + 2 * j)) = r + 1 at hval
    obtain ⟨b1, b2, sn, hfe, hf1, hf2, hf3⟩ := a5.inv.fn id j hid hj (by rw [hval]; omega)
    have hpf := k5.pf j hj
    rw [hfe] at hpf
    refine ER.load1 rfl rfl rfl hpf ?_
    (repeat refine ER.move rfl rfl rfl ?_)
    have hto5 : u5.told i = γ5.p.u.told i := by rw [<- hu5]
    have hcall := hRm γ5 u5 _ h5 a5 (by
      have t1 := g4.tol
      have t2 := g5.told
      have t3 := g5.len
      rw [hto5, t2]
      unfold ownN at *
      omega) (by rw [gg5.th, hth, ht, gg5.al.tb]) (by rw [gg5.hold]; exact hfm) b1 b2 sn hf1 hf2 hf3
    have ht5 : t = γ5.p.tb i := ht.trans gg5.al.tb.symm
    rw [<- ht5] at hcall
    refine ER.callP rfl rfl rfl rfl rfl hcall (fun _ _ _ y => y.along gg5.al) ?_
    rintro _ h6 δ6 ⟨γ6, u6, rfl, a6, g6⟩
    have gg6 : GoH d i γ u ((d.c.B id (2 + 2 * j), r + 1) :: (d.c.B id 1, 1) :: u.hold i) γ6 u6 := ⟨gg5.al.trans g6.al, g6.hold.trans gg5.hold, g6.th.trans gg5.th, fun q hq => g6.kept q (gg5.kept q hq), Nat.le_trans gg5.len g6.len, by
      have t1 := g4.tol
      have t2 := g5.told
      have t3 := g5.len
      have t4 := g6.tol
      rw [hto5, t2] at t4
      unfold ownN at t1 ⊢
      omega⟩
    have len6 := g6.len
    change ownN i γ5 <= ownN i γ6 at len6
    have k6 := a6.I.clk id hid
    have hZ := And.intro (hcell_of (a6.own (q := (y, timC j r)) List.mem_cons_self) rfl : hcell h6 ⟨y, 1, none⟩ = some (.int .i64 r)) (k6.pst j hj)
    (repeat (first | refine EK.seq ?_ | refine ER.done ?_))
    refine EK.regionAny (fun h' => hcell h' ⟨y, 1, none⟩ = some (.int .i64 r) /\ hcell h' ⟨d.c.C id, 2 + j * 3, none⟩ = some (ptr (d.c.B id (2 + 2 * j)))) ?_
    refine EA.tMove 0 rfl (by kernel_rfl) rfl rfl rfl rfl hZ ?_
    refine EA.tNil 1 rfl (by kernel_rfl) rfl rfl rfl rfl hZ ?_
    refine EA.tField 2 rfl (by kernel_rfl) rfl rfl rfl rfl hZ ?_
    refine EA.tLoad 3 rfl (by kernel_rfl) rfl rfl rfl rfl (fun _ hz => hz.2) hZ ?_
    refine EA.tMove 4 rfl (by kernel_rfl) rfl rfl rfl rfl hZ ?_
    refine EA.tField 5 rfl (by kernel_rfl) rfl rfl rfl rfl hZ ?_
    refine EA.tLoad 6 rfl (by kernel_rfl) rfl rfl rfl rfl (fun _ hz => hz.1) hZ ?_
    refine EA.tAdd (kd := .i64) 7 rfl (by kernel_rfl) rfl rfl rfl rfl rfl (i64_in (by omega) (by omega)) hZ ?_
    refine EA.tSub (kd := .i64) 8 rfl (by kernel_rfl) rfl rfl rfl rfl rfl (i64_in (by omega) (by omega)) hZ ?_
    have ev2 : r + 4 - 2 = r + 1 + 1 := by omega
    rw [ev2]
    refine eaCallP 9 rfl (by kernel_rfl) rfl rfl rfl rfl rfl rfl (costore ok a6 (isC_B hid (by omega)) (ht.trans gg6.al.tb.symm)) (fun _ _ _ y => y.along gg6.al) ?_
    rintro _ h7 δ7 ⟨γ7, rfl, rfl, g7, hv7⟩
    have a7 := (g7.popS ok (id := id) (j := j) (y := r + 1) (H := (d.c.B id 1, 1) :: u.hold i) hid hj rfl hv7 gg6.hold (by omega)).1
    have e7 : kind2 (r + 1 + 1) = 0 := by unfold kind2; rw [if_neg (by omega)]
    rw [e7] at a7
    have gg7 := (gg6.step g7.go).set ((d.c.B id 1, 1) :: u.hold i)
    have len7 := g7.go.len
    change ownN i γ6 <= ownN i γ7 at len7
    refine ⟨And.intro (hcell_of (a7.own (q := (y, timC j r)) List.mem_cons_self) rfl : hcell h7 ⟨y, 1, none⟩ = some (.int .i64 r)) ((a7.I.clk id hid).pst j hj), ?_⟩
    refine EA.done (by kernel_rfl) ?_
    (repeat (first | refine EK.region ?_ | refine ER.done ?_ | refine EK.inBlock ?_ | refine ER.move rfl rfl rfl ?_ | refine ER.assign rfl rfl rfl ?_ | refine ER.add (kd := .i64) rfl rfl rfl rfl (i64_in (by omega) (by omega)) ?_))
    have a8 := a7.drop ok
    have hl8 := a8.own_le
    exact EK.back (again (q + 1, γ7, _) _ _ (by show 65536 - ownN i γ7 < 65536 - ownN i γ1; omega) ⟨rfl, by show q + 1 <= 64; omega, a8, gg7⟩) ⟨rfl, rfl, rfl, rfl, trivial⟩
end
end
section
open Go Go.TJ Go.Conc Go.Proofs
theorem ER.assertY {Γ : Type} {P : Program} {main : Bool} {S : Sit Γ} {f : FuncId} {n : Nat} {ops : Array Oper} {l : List Oper} {k : List Item} {env : Env} {ds : List Deferred} {h : Hp} {δ : Ix Γ} {R : Post Γ} {d : Nat} {ty : TypeId} {pos : String} {af : Array Edge} {g : Option (Nat × Bool)} {t xt : TypeId} {x : Operand} {v : Value} {dd : TypeDesc} (hu : P.underlying t = some dd) (hw : wantE ops env g = some true) (hd : Nat.blt d n = true) (hx : ev env x = some (.iface t v)) (hne : ∀ ms, dd ≠ .interface ms)
    (hn : ER P main S f n ops l k ((d, .tuple #[v, .bool true]) :: env) ds h δ R) : ER P main S f n ops (⟨some d, .typeAssert x xt t true, ty, pos, af, g⟩ :: l) k env ds h δ R :=
  ER.to hw hd (fun ρ Q X hρ hq => by
    show SemW P S (Instr.typeAssert (ρ x) xt t true >>= fun v => pure (.value v)) h δ Q X
    rw [hρ x _ hx]
    refine semW_bind _ _ _ _ _ _ ?_
    unfold Instr.typeAssert
    refine semW_underlying hu ?_
    cases dd <;> first | exact absurd rfl (hne _) | (dsimp only; rw [if_pos rfl]; exact hq)) hn
theorem ER.assertN {Γ : Type} {P : Program} {main : Bool} {S : Sit Γ} {f : FuncId} {n : Nat} {ops : Array Oper} {l : List Oper} {k : List Item} {env : Env} {ds : List Deferred} {h : Hp} {δ : Ix Γ} {R : Post Γ} {d : Nat} {ty : TypeId} {pos : String} {af : Array Edge} {g : Option (Nat × Bool)} {t xt : TypeId} {x : Operand} {z : Value} {dd : TypeDesc} {sz by_ : Nat} [hi : Inf P t sz by_ z] (hu : P.underlying t = some dd) (hw : wantE ops env g = some true) (hd : Nat.blt d n = true) (hx : ev env x = some .nilIface) (hne : ∀ ms, dd ≠ .interface ms)
    (hn : ER P main S f n ops l k ((d, .tuple #[z, .bool false]) :: env) ds h δ R) : ER P main S f n ops (⟨some d, .typeAssert x xt t true, ty, pos, af, g⟩ :: l) k env ds h δ R :=
  ER.to hw hd (fun ρ Q X hρ hq => by
    obtain ⟨inf, hi1, hi2, hi3, hi4⟩ := hi.get
    show SemW P S (Instr.typeAssert (ρ x) xt t true >>= fun v => pure (.value v)) h δ Q X
    rw [hρ x _ hx]
    refine semW_bind _ _ _ _ _ _ ?_
    unfold Instr.typeAssert
    refine semW_underlying hu ?_
    cases dd <;> first | exact absurd rfl (hne _) | exact semW_zeroValue hi1 hi4 hq) hn
def errC (e : Int) : List Value := if e = 0 then [.int .i64 0, .int .i64 0, nilS] else [.int .i64 7, .int .i64 e, nilS]
def errV (e : Int) : Value := .iface 55 (.int .i64 e)
section
variable {Γ : Type} {main : Bool} {S : Sit Γ} {h : Hp} {δ : Ix Γ}
theorem rowAll {y m : Nat} {c : List Value} {e : TypeId} (hy : h[y]? = some (.cells c.toArray e (0, 0))) (hm : c.length = m) (hS : ∀ o, ¬ S.still δ.g ⟨y, o, none⟩) : ∀ j, j < m -> (∃ u, hcell h ⟨y, 0 + j, none⟩ = some u) /\ hfroz h ⟨y, 0 + j, none⟩ = false /\ ¬ S.still δ.g ⟨y, 0 + j, none⟩ := fun j hj => by
  refine ⟨?_, hfroz_of hy, hS _⟩
  have hj' : j < c.length := by omega
  exact ⟨c[j], by rw [Nat.zero_add]; exact hcell_of hy (by simp [hj'])⟩
set_option maxRecDepth 8000 in
theorem coerr_nil (hS : ∀ o, ¬ S.still δ.g ⟨h.size, o, none⟩) : CallW Try.prog main S 70 #[.nilIface] h δ (Ret fun w h' δ' => w = .agg (errC 0).toArray /\ Upd (fun _ => False) h h' /\ δ' = δ) := by
  refine CallW.start (n := 15) rfl rfl ?_
  (repeat (first | refine EK.seq ?_ | refine EK.region ?_ | refine ER.done ?_ | refine ER.move rfl rfl rfl ?_ | refine ER.allocA rfl rfl ?_))
  refine ER.assertN (by rfl) rfl rfl rfl (fun _ z => by cases z) ?_
  (repeat (first | refine EK.seq ?_ | refine EK.region ?_ | refine ER.done ?_ | refine ER.move rfl rfl rfl ?_ | refine ER.assign rfl rfl rfl ?_ | refine ER.notB rfl rfl rfl ?_ | refine ER.extract rfl rfl rfl rfl ?_ | refine EK.condT rfl ?_))
  refine ER.buildS (cells := ([.int .i64 0, .int .i64 0, nilS]).toArray) rfl rfl rfl rfl ?_
  refine ER.storeN (vs := [.int .i64 0, .int .i64 0, nilS]) rfl rfl rfl rfl (by simp [OneCell]) (rowAll (c := [.int .i64 0, .int .i64 0, nilS]) (get_push_new _ _) rfl hS) ?_
  rw [row_set (c := [.int .i64 0, .int .i64 0, nilS]) (vs := [.int .i64 0, .int .i64 0, nilS]) (get_push_new _ _) rfl]
  (repeat (first | refine ER.done ?_ | refine EK.ret ?_))
  refine EU.retCell1 (vs := [.int .i64 0, .int .i64 0, nilS]) rfl rfl rfl (hrow_block (rest := []) (by rw [List.append_nil]; exact get_set_same (get_push_new _ _))) ⟨rfl, ?_, rfl⟩
  rw [push_set]
  exact Upd.push _ _
set_option maxRecDepth 8000 in
theorem coerr_val {e : Int} (he : e ≠ 0) (hS : ∀ o, ¬ S.still δ.g ⟨h.size, o, none⟩) : CallW Try.prog main S 70 #[errV e] h δ (Ret fun w h' δ' => w = .agg (errC e).toArray /\ Upd (fun _ => False) h h' /\ δ' = δ) := by
  have e9 : errC e = [.int .i64 7, .int .i64 e, nilS] := if_neg he
  rw [e9]
  refine CallW.start (n := 15) rfl rfl ?_
  (repeat (first | refine EK.seq ?_ | refine EK.region ?_ | refine ER.done ?_ | refine ER.move rfl rfl rfl ?_ | refine ER.allocA rfl rfl ?_))
  refine ER.assertY (by rfl) rfl rfl rfl (fun _ z => by cases z) ?_
  (repeat (first | refine EK.seq ?_ | refine EK.region ?_ | refine ER.done ?_ | refine EK.skip ?_ | refine ER.move rfl rfl rfl ?_ | refine ER.assign rfl rfl rfl ?_ | refine ER.notB rfl rfl rfl ?_ | refine ER.extract rfl rfl rfl rfl ?_ | refine EK.condF rfl ?_))
  refine ER.buildS (cells := ([.int .i64 7, .int .i64 e, nilS]).toArray) rfl rfl rfl rfl ?_
  refine ER.storeN (vs := [.int .i64 7, .int .i64 e, nilS]) rfl rfl rfl rfl (by simp [OneCell]) (rowAll (c := [.int .i64 0, .int .i64 0, nilS]) (get_push_new _ _) rfl hS) ?_
  rw [row_set (c := [.int .i64 0, .int .i64 0, nilS]) (vs := [.int .i64 7, .int .i64 e, nilS]) (get_push_new _ _) rfl]
  (repeat (first | refine ER.done ?_ | refine EK.ret ?_))
  refine EU.retCell1 (vs := [.int .i64 7, .int .i64 e, nilS]) rfl rfl rfl (hrow_block (rest := []) (by rw [List.append_nil]; exact get_set_same (get_push_new _ _))) ⟨rfl, ?_, rfl⟩
  rw [push_set]
  exact Upd.push _ _
def tolC (vv : Value) (e : Int) : List Value := [.int .i64 0, .int .i64 0, vv] ++ errC e
def tolV (vv : Value) (e : Int) : Value := .agg (tolC vv e).toArray
abbrev tolO (l : List Value) : Obj := .cells l.toArray 129 (0, 0)
def z6 : List Value := [.int .i64 0, .int .i64 0, nilS, .int .i64 0, .int .i64 0, nilS]
theorem errC_zero : errC 0 = [.int .i64 0, .int .i64 0, nilS] := if_pos rfl
theorem errC_val {e : Int} (he : e ≠ 0) : errC e = [.int .i64 7, .int .i64 e, nilS] := if_neg he
set_option maxRecDepth 8000 in
theorem cotold_nil {va : Option Addr} {vl vc : Nat} (hS : ∀ b, h.size <= b -> ∀ o, ¬ S.still δ.g ⟨b, o, none⟩) : CallW Try.prog main S 109 #[.nilIface, .slice va vl vc] h δ (Ret fun w h' δ' => w = tolV (.slice va vl vc) 0 /\ Upd (fun _ => False) h h' /\ δ' = δ) := by
  refine CallW.start (n := 21) rfl rfl ?_
  (repeat (first | refine EK.seq ?_ | refine EK.region ?_ | refine ER.done ?_ | refine ER.move rfl rfl rfl ?_ | refine ER.allocA rfl rfl ?_))
  refine ER.assertN (by rfl) rfl rfl rfl (fun _ z => by cases z) ?_
  (repeat (first | refine EK.seq ?_ | refine EK.region ?_ | refine ER.done ?_ | refine EK.skip ?_ | refine ER.move rfl rfl rfl ?_ | refine ER.assign rfl rfl rfl ?_ | refine ER.no rfl rfl ?_ | refine ER.pickF rfl rfl rfl rfl ?_ | refine ER.extract rfl rfl rfl rfl ?_ | refine EK.condF rfl ?_))
  refine ER.callR rfl rfl rfl rfl rfl (coerr_nil (hS _ (by simp))) ?_
  rintro _ h2 δ2 ⟨rfl, u2, rfl⟩
  have g2 := u2.get (get_push_new h (tolO z6)) (fun x => x)
  rw [errC_zero]
  skip
  refine ER.buildS (cells := ([.int .i64 0, .int .i64 0, .slice va vl vc, .int .i64 0, .int .i64 0, nilS]).toArray) rfl rfl (by rfl) (by rfl) ?_
  refine ER.storeN (vs := [.int .i64 0, .int .i64 0, .slice va vl vc, .int .i64 0, .int .i64 0, nilS]) rfl rfl rfl rfl (by simp [OneCell]) (rowAll (c := z6) g2 rfl (hS _ (Nat.le_refl _))) ?_
  rw [row_set (c := z6) (vs := [.int .i64 0, .int .i64 0, .slice va vl vc, .int .i64 0, .int .i64 0, nilS]) g2 rfl]
  (repeat (first | refine ER.done ?_ | refine EK.ret ?_))
  refine EU.retCell1 (vs := [.int .i64 0, .int .i64 0, .slice va vl vc, .int .i64 0, .int .i64 0, nilS]) rfl rfl rfl (hrow_block (rest := []) (by rw [List.append_nil]; exact get_set_same g2)) ⟨by unfold tolV tolC; rw [errC_zero]; rfl, ?_, rfl⟩
  exact upd_then ((Upd.push (T := fun _ => False) h (tolO z6)).trans u2) (Upd.set (T := fun b => b = h.size) _ _ _ rfl) (fun c hc e => by omega)
set_option maxRecDepth 8000 in
theorem cotold_val {va : Option Addr} {vl vc : Nat} {e : Int} (hS : ∀ b, h.size <= b -> ∀ o, ¬ S.still δ.g ⟨b, o, none⟩) : CallW Try.prog main S 109 #[errV e, .slice va vl vc] h δ (Ret fun w h' δ' => w = tolV (.slice va vl vc) e /\ Upd (fun _ => False) h h' /\ δ' = δ) := by
  refine CallW.start (n := 21) rfl rfl ?_
  (repeat (first | refine EK.seq ?_ | refine EK.region ?_ | refine ER.done ?_ | refine ER.move rfl rfl rfl ?_ | refine ER.allocA rfl rfl ?_))
  refine ER.assertY (by rfl) rfl rfl rfl (fun _ z => by cases z) ?_
  by_cases he : e = 0
  · subst he
    (repeat (first | refine EK.seq ?_ | refine EK.region ?_ | refine ER.done ?_ | refine ER.move rfl rfl rfl ?_ | refine ER.assign rfl rfl rfl ?_ | refine ER.pickT rfl rfl rfl rfl ?_ | refine ER.extract rfl rfl rfl rfl ?_ | refine ER.cmpT rfl rfl rfl rfl rfl (by first | (dsimp only [cmpP]; omega) | exact rfl | exact Int.le_refl _) ?_ | refine EK.condT rfl ?_))
    refine ER.callR rfl rfl rfl rfl rfl (coerr_nil (hS _ (by simp))) ?_
    rintro _ h2 δ2 ⟨rfl, u2, rfl⟩
    have g2 := u2.get (get_push_new h (tolO z6)) (fun x => x)
    rw [errC_zero]
    skip
    refine ER.buildS (cells := ([.int .i64 0, .int .i64 0, .slice va vl vc, .int .i64 0, .int .i64 0, nilS]).toArray) rfl rfl (by rfl) (by rfl) ?_
    refine ER.storeN (vs := [.int .i64 0, .int .i64 0, .slice va vl vc, .int .i64 0, .int .i64 0, nilS]) rfl rfl rfl rfl (by simp [OneCell]) (rowAll (c := z6) g2 rfl (hS _ (Nat.le_refl _))) ?_
    rw [row_set (c := z6) (vs := [.int .i64 0, .int .i64 0, .slice va vl vc, .int .i64 0, .int .i64 0, nilS]) g2 rfl]
    (repeat (first | refine ER.done ?_ | refine EK.ret ?_))
    refine EU.retCell1 (vs := [.int .i64 0, .int .i64 0, .slice va vl vc, .int .i64 0, .int .i64 0, nilS]) rfl rfl rfl (hrow_block (rest := []) (by rw [List.append_nil]; exact get_set_same g2)) ⟨by unfold tolV tolC; rw [errC_zero]; rfl, ?_, rfl⟩
    exact upd_then ((Upd.push (T := fun _ => False) h (tolO z6)).trans u2) (Upd.set (T := fun b => b = h.size) _ _ _ rfl) (fun c hc e => by omega)
  · (repeat (first | refine EK.seq ?_ | refine EK.region ?_ | refine ER.done ?_ | refine EK.skip ?_ | refine ER.move rfl rfl rfl ?_ | refine ER.assign rfl rfl rfl ?_ | refine ER.pickT rfl rfl rfl rfl ?_ | refine ER.extract rfl rfl rfl rfl ?_ | refine ER.cmpF rfl rfl rfl rfl rfl (by first | (dsimp only [cmpP]; omega) | exact rfl | exact Int.le_refl _) ?_ | refine EK.condF rfl ?_))
    refine ER.callR rfl rfl rfl rfl rfl (coerr_val he (hS _ (by simp))) ?_
    rintro _ h2 δ2 ⟨rfl, u2, rfl⟩
    have g2 := u2.get (get_push_new h (tolO z6)) (fun x => x)
    rw [errC_val he]
    skip
    refine ER.buildS (cells := ([.int .i64 0, .int .i64 0, .slice va vl vc, .int .i64 7, .int .i64 e, nilS]).toArray) rfl rfl (by rfl) (by rfl) ?_
    refine ER.storeN (vs := [.int .i64 0, .int .i64 0, .slice va vl vc, .int .i64 7, .int .i64 e, nilS]) rfl rfl rfl rfl (by simp [OneCell]) (rowAll (c := z6) g2 rfl (hS _ (Nat.le_refl _))) ?_
    rw [row_set (c := z6) (vs := [.int .i64 0, .int .i64 0, .slice va vl vc, .int .i64 7, .int .i64 e, nilS]) g2 rfl]
    (repeat (first | refine ER.done ?_ | refine EK.ret ?_))
    refine EU.retCell1 (vs := [.int .i64 0, .int .i64 0, .slice va vl vc, .int .i64 7, .int .i64 e, nilS]) rfl rfl rfl (hrow_block (rest := []) (by rw [List.append_nil]; exact get_set_same g2)) ⟨by unfold tolV tolC; rw [errC_val he]; rfl, ?_, rfl⟩
    exact upd_then ((Upd.push (T := fun _ => False) h (tolO z6)).trans u2) (Upd.set (T := fun b => b = h.size) _ _ _ rfl) (fun c hc e => by omega)
theorem comakes {cs : Array Value} : CallW Try.prog main S 107 #[.agg cs] h δ (Ret fun w h' δ' => w = .nilIface /\ Upd (fun _ => False) h h' /\ δ' = δ) := by
  refine CallW.start (n := 3) rfl rfl ?_
  (repeat (first | refine EK.seq ?_ | refine EK.region ?_ | refine ER.done ?_ | refine ER.assign rfl rfl rfl ?_ | refine ER.boxA rfl rfl rfl ?_ | refine EK.ret ?_))
  exact EU.ret1 rfl rfl ⟨rfl, Upd.push _ _, rfl⟩
def resC (a k n : Int) : List Value := [.int .i64 a, .int .i64 k, .int .i64 n, nilS]
abbrev resO (l : List Value) : Obj := .cells l.toArray 212 (0, 0)
set_option maxRecDepth 8000 in
theorem coended9 {a b c : Int} (hS : ∀ o, ¬ S.still δ.g ⟨h.size, o, none⟩) : CallW Try.prog main S 106 #[.int .i64 a, .int .i64 b, .int .i64 c] h δ (Ret fun w h' δ' => ∃ x k n : Int, w = .agg (resC x k n).toArray /\ Upd (fun _ => False) h h' /\ δ' = δ) := by
  refine CallW.start (n := 22) rfl rfl ?_
  by_cases h1 : b = 1
  · subst h1
    (repeat (first | refine EK.seq ?_ | refine EK.region ?_ | refine ER.done ?_ | refine EK.skip ?_ | refine EK.block ?_ | refine ER.move rfl rfl rfl ?_ | refine ER.assign rfl rfl rfl ?_ | refine ER.cmpT rfl rfl rfl rfl rfl (by first | (dsimp only [cmpP]; omega) | exact rfl | exact Int.le_refl _) ?_ | refine ER.allocA rfl rfl ?_ | refine EK.condT rfl ?_))
    refine ER.buildS (cells := #[.int .i64 1, .int .i64 c, nilS]) rfl rfl (by rfl) (by rfl) ?_
    refine ER.buildS (cells := (resC 0 1 c).toArray) rfl rfl (by rfl) (by rfl) ?_
    refine ER.storeN (vs := resC 0 1 c) rfl rfl rfl rfl (by simp [resC, OneCell]) (rowAll (c := [.int .i64 0, .int .i64 0, .int .i64 0, nilS]) (get_push_new _ _) rfl hS) ?_
    rw [row_set (c := [.int .i64 0, .int .i64 0, .int .i64 0, nilS]) (vs := resC 0 1 c) (get_push_new _ _) rfl]
    (repeat (first | refine ER.done ?_ | refine EK.ret ?_))
    refine EU.retCell1 (vs := resC 0 1 c) rfl rfl rfl (hrow_block (rest := []) (by rw [List.append_nil]; exact get_set_same (get_push_new _ _))) ⟨0, 1, c, rfl, ?_, rfl⟩
    rw [push_set]
    exact Upd.push _ _
  by_cases h2 : b = 2
  · subst h2
    (repeat (first | refine EK.seq ?_ | refine EK.region ?_ | refine ER.done ?_ | refine EK.skip ?_ | refine EK.block ?_ | refine ER.move rfl rfl rfl ?_ | refine ER.assign rfl rfl rfl ?_ | refine ER.cmpT rfl rfl rfl rfl rfl (by first | (dsimp only [cmpP]; omega) | exact rfl | exact Int.le_refl _) ?_ | refine ER.cmpF rfl rfl rfl rfl rfl (by first | (dsimp only [cmpP]; omega) | exact rfl | exact Int.le_refl _) ?_ | refine ER.allocA rfl rfl ?_ | refine EK.condT rfl ?_ | refine EK.condF rfl ?_))
    refine ER.buildS (cells := #[.int .i64 2, .int .i64 c, nilS]) rfl rfl (by rfl) (by rfl) ?_
    refine ER.buildS (cells := (resC 0 2 c).toArray) rfl rfl (by rfl) (by rfl) ?_
    refine ER.storeN (vs := resC 0 2 c) rfl rfl rfl rfl (by simp [resC, OneCell]) (rowAll (c := [.int .i64 0, .int .i64 0, .int .i64 0, nilS]) (get_push_new _ _) rfl hS) ?_
    rw [row_set (c := [.int .i64 0, .int .i64 0, .int .i64 0, nilS]) (vs := resC 0 2 c) (get_push_new _ _) rfl]
    (repeat (first | refine ER.done ?_ | refine EK.ret ?_))
    refine EU.retCell1 (vs := resC 0 2 c) rfl rfl rfl (hrow_block (rest := []) (by rw [List.append_nil]; exact get_set_same (get_push_new _ _))) ⟨0, 2, c, rfl, ?_, rfl⟩
    rw [push_set]
    exact Upd.push _ _
  by_cases h3 : b = 3
  · subst h3
    (repeat (first | refine EK.seq ?_ | refine EK.region ?_ | refine ER.done ?_ | refine EK.block ?_ | refine ER.move rfl rfl rfl ?_ | refine ER.assign rfl rfl rfl ?_ | refine ER.cmpT rfl rfl rfl rfl rfl (by first | (dsimp only [cmpP]; omega) | exact rfl | exact Int.le_refl _) ?_ | refine ER.cmpF rfl rfl rfl rfl rfl (by first | (dsimp only [cmpP]; omega) | exact rfl | exact Int.le_refl _) ?_ | refine ER.allocA rfl rfl ?_ | refine EK.condT rfl ?_ | refine EK.condF rfl ?_))
    refine ER.buildS (cells := #[.int .i64 3, .int .i64 c, nilS]) rfl rfl (by rfl) (by rfl) ?_
    refine ER.buildS (cells := (resC 0 3 c).toArray) rfl rfl (by rfl) (by rfl) ?_
    refine ER.storeN (vs := resC 0 3 c) rfl rfl rfl rfl (by simp [resC, OneCell]) (rowAll (c := [.int .i64 0, .int .i64 0, .int .i64 0, nilS]) (get_push_new _ _) rfl hS) ?_
    rw [row_set (c := [.int .i64 0, .int .i64 0, .int .i64 0, nilS]) (vs := resC 0 3 c) (get_push_new _ _) rfl]
    (repeat (first | refine ER.done ?_ | refine EK.ret ?_))
    refine EU.retCell1 (vs := resC 0 3 c) rfl rfl rfl (hrow_block (rest := []) (by rw [List.append_nil]; exact get_set_same (get_push_new _ _))) ⟨0, 3, c, rfl, ?_, rfl⟩
    rw [push_set]
    exact Upd.push _ _
  by_cases h5 : b = 5
  · subst h5
    (repeat (first | refine EK.seq ?_ | refine EK.region ?_ | refine ER.done ?_ | refine EK.block ?_ | refine ER.move rfl rfl rfl ?_ | refine ER.assign rfl rfl rfl ?_ | refine ER.cmpT rfl rfl rfl rfl rfl (by first | (dsimp only [cmpP]; omega) | exact rfl | exact Int.le_refl _) ?_ | refine ER.cmpF rfl rfl rfl rfl rfl (by first | (dsimp only [cmpP]; omega) | exact rfl | exact Int.le_refl _) ?_ | refine ER.allocA rfl rfl ?_ | refine EK.condT rfl ?_ | refine EK.condF rfl ?_))
    refine ER.buildS (cells := #[.int .i64 5, .int .i64 0, nilS]) rfl rfl (by rfl) (by rfl) ?_
    refine ER.buildS (cells := (resC 0 5 0).toArray) rfl rfl (by rfl) (by rfl) ?_
    refine ER.storeN (vs := resC 0 5 0) rfl rfl rfl rfl (by simp [resC, OneCell]) (rowAll (c := [.int .i64 0, .int .i64 0, .int .i64 0, nilS]) (get_push_new _ _) rfl hS) ?_
    rw [row_set (c := [.int .i64 0, .int .i64 0, .int .i64 0, nilS]) (vs := resC 0 5 0) (get_push_new _ _) rfl]
    (repeat (first | refine ER.done ?_ | refine EK.ret ?_))
    refine EU.retCell1 (vs := resC 0 5 0) rfl rfl rfl (hrow_block (rest := []) (by rw [List.append_nil]; exact get_set_same (get_push_new _ _))) ⟨0, 5, 0, rfl, ?_, rfl⟩
    rw [push_set]
    exact Upd.push _ _
  (repeat (first | refine EK.seq ?_ | refine EK.region ?_ | refine ER.done ?_ | refine EK.skip ?_ | refine EK.block ?_ | refine EK.inBlock ?_ | refine ER.move rfl rfl rfl ?_ | refine ER.assign rfl rfl rfl ?_ | refine ER.cmpF rfl rfl rfl rfl rfl (by first | (dsimp only [cmpP]; omega) | exact rfl | exact Int.le_refl _) ?_ | refine ER.allocA rfl rfl ?_ | refine EK.condF rfl ?_))
  refine ER.buildS (cells := (resC a 0 0).toArray) rfl rfl (by rfl) (by rfl) ?_
  refine ER.storeN (vs := resC a 0 0) rfl rfl rfl rfl (by simp [resC, OneCell]) (rowAll (c := [.int .i64 0, .int .i64 0, .int .i64 0, nilS]) (get_push_new _ _) rfl hS) ?_
  rw [row_set (c := [.int .i64 0, .int .i64 0, .int .i64 0, nilS]) (vs := resC a 0 0) (get_push_new _ _) rfl]
  (repeat (first | refine ER.done ?_ | refine EK.ret ?_))
  refine EU.retCell1 (vs := resC a 0 0) rfl rfl rfl (hrow_block (rest := []) (by rw [List.append_nil]; exact get_set_same (get_push_new _ _))) ⟨a, 0, 0, rfl, ?_, rfl⟩
  rw [push_set]
  exact Upd.push _ _
set_option maxRecDepth 8000 in
theorem coended {a b c : Int} (hS : ∀ b, h.size <= b -> ∀ o, ¬ S.still δ.g ⟨b, o, none⟩) : CallW Try.prog main S 71 #[.int .i64 a, .int .i64 b, .int .i64 c] h δ (Ret fun w h' δ' => (∃ x : Int, w = .tuple #[.int .i64 x, .nilIface]) /\ Upd (fun _ => False) h h' /\ δ' = δ) := by
  refine CallW.start (n := 18) rfl rfl ?_
  (repeat (first | refine EK.seq ?_ | refine EK.region ?_ | refine ER.done ?_ | refine ER.move rfl rfl rfl ?_ | refine ER.assign rfl rfl rfl ?_))
  refine ER.callR rfl rfl rfl rfl rfl (coended9 (hS _ (Nat.le_refl _))) ?_
  rintro _ h2 δ2 ⟨x, k, n, rfl, u2, rfl⟩
  (repeat refine ER.allocA rfl rfl ?_)
  refine ER.storeN (vs := resC x k n) rfl rfl rfl rfl (by simp [resC, OneCell]) (rowAll (c := [.int .i64 0, .int .i64 0, .int .i64 0, nilS]) (get_push_new _ _) rfl (hS _ u2.size)) ?_
  rw [row_set (c := [.int .i64 0, .int .i64 0, .int .i64 0, nilS]) (vs := resC x k n) (get_push_new _ _) rfl]
  have hg : ((h2.push (resO [.int .i64 0, .int .i64 0, .int .i64 0, nilS])).setIfInBounds h2.size (resO (resC x k n)))[h2.size]? = some (resO (resC x k n)) := get_set_same (get_push_new _ _)
  have hu : Upd (fun _ => False) h ((h2.push (resO [.int .i64 0, .int .i64 0, .int .i64 0, nilS])).setIfInBounds h2.size (resO (resC x k n))) := u2.trans (by rw [push_set]; exact Upd.push _ _)
  change ER _ _ _ _ _ _ _ _ _ _ ((h2.push (resO [.int .i64 0, .int .i64 0, .int .i64 0, nilS])).setIfInBounds h2.size (resO (resC x k n))) _ _
  generalize (h2.push (resO [.int .i64 0, .int .i64 0, .int .i64 0, nilS])).setIfInBounds h2.size (resO (resC x k n)) = h3 at hg hu
  (repeat (first | refine EK.seq ?_ | refine ER.done ?_))
  refine EK.regionAny (fun h' => h'[h2.size]? = some (resO (resC x k n))) ?_
  have hZ := hg
  refine EA.tField 0 rfl (by kernel_rfl) rfl rfl rfl rfl hZ ?_
  refine EA.tLoad 1 rfl (by kernel_rfl) rfl rfl rfl rfl (fun _ hz => (hcell_of hz rfl)) hZ ?_
  refine EA.tField 2 rfl (by kernel_rfl) rfl rfl rfl rfl hZ ?_
  refine EA.tLoadN (vs := [.int .i64 k, .int .i64 n, nilS]) 3 rfl (by kernel_rfl) rfl rfl rfl rfl rfl (fun _ hz => fun j v hv => ?_) hZ ?_
  · rcases j with _ | _ | _ | j
    · cases hv; exact hcell_of hz rfl
    · cases hv; exact hcell_of hz rfl
    · cases hv; exact hcell_of hz rfl
    · cases hv
  refine EA.callR 4 rfl (by kernel_rfl) rfl rfl rfl rfl rfl rfl comakes ?_
  rintro _ h4 δ4 ⟨rfl, u4, rfl⟩
  refine ⟨u4.get hg (fun x => x), ?_⟩
  have hZ := u4.get hg (fun x => x)
  refine EA.tAssign 5 rfl (by kernel_rfl) rfl rfl rfl rfl hZ ?_
  refine EA.tAssign 6 rfl (by kernel_rfl) rfl rfl rfl rfl hZ ?_
  refine EA.done (by kernel_rfl) ?_
  (repeat refine EK.ret ?_)
  exact EU.ret2 rfl rfl rfl ⟨⟨x, rfl⟩, hu.trans u4, rfl⟩
theorem coone {b : Bool} : CallW Try.prog main S 141 #[.bool b] h δ (Ret (Det (.int .i64 (if b then 1 else 0)) h δ)) := by
  refine CallW.start (n := 4) rfl rfl ?_
  cases b with
  | true =>
    (repeat (first | refine EK.seq ?_ | refine EK.region ?_ | refine ER.done ?_ | refine ER.move rfl rfl rfl ?_ | refine ER.assign rfl rfl rfl ?_ | refine EK.condT rfl ?_ | refine EK.ret ?_))
    exact EU.ret1 rfl rfl det
  | false =>
    (repeat (first | refine EK.seq ?_ | refine EK.region ?_ | refine ER.done ?_ | refine EK.skip ?_ | refine ER.move rfl rfl rfl ?_ | refine ER.assign rfl rfl rfl ?_ | refine EK.condF rfl ?_ | refine EK.ret ?_))
    exact EU.ret1 rfl rfl det
end
section
variable {d : CD} {u u' u1 u2 : CU} {h h' h1 : Hp} {i : Nat} {γ γ' γ1 γ2 : GG (XC d)} {L L' : List (Nat × Obj)} {dl : Int} {t id m : Nat} {H : List (Nat × Int)}
theorem conumber (a : AtC d i γ u L h dl) (ht : t = γ.p.tb i) {main : Bool} {S : Sit (GG (XC d))} {δ : Ix (GG (XC d))} : CallW Try.prog main S 105 #[ptr t] h δ (Ret (Det (.int .i64 i) h δ)) := by
  obtain ⟨v, t', o, c, b0, n, w, y, k, hat, hrow1⟩ := a.thr.row
  rw [<- ht] at hrow1
  have c0 : hcell h ⟨t, 0, none⟩ = some (ptr γ.p.R) := hcell_of hrow1 rfl
  have c1 : hcell h ⟨t, 1, none⟩ = some (.int .i64 i) := hcell_of hrow1 rfl
  have c13 : hcell h ⟨t, 13, none⟩ = some (.bool false) := hcell_of hrow1 rfl
  refine CallW.start (n := 10) rfl rfl ?_
  (repeat (first | refine EK.seq ?_ | refine EK.region ?_ | refine ER.done ?_ | refine ER.move rfl rfl rfl ?_ | refine ER.assign rfl rfl rfl ?_))
  refine ER.callD rfl rfl rfl rfl rfl (live_ok c0 c13) ?_
  (repeat (first | refine EK.seq ?_ | refine EK.region ?_ | refine ER.done ?_ | refine EK.skip ?_ | refine ER.move rfl rfl rfl ?_ | refine ER.assign rfl rfl rfl ?_ | refine ER.nilCheck rfl rfl rfl ?_ | refine ER.fieldAddr rfl rfl rfl ?_ | refine ER.load1 rfl rfl rfl (hcell_of (by assumption) rfl) ?_ | refine ER.notB rfl rfl rfl ?_ | refine EK.condF rfl ?_ | refine EK.ret ?_))
  exact EU.ret1 rfl rfl det
end
end
section
open Go Go.TJ Go.Conc Go.Proofs
structure WdS where
  V : Value
  Hs : Value
  Ks : Value
  Cs : Value
  ws : List Value
  nH : Nat
def callE (q : CCall) : List Value := [.int .i64 q.op, .int .i64 q.a, .int .i64 q.b, .int .i64 q.c, .int .i64 q.d, .int .i64 q.f, q.l]
structure WdN (d : CD) (x : WdS) (h : Hp) : Prop where
  w : hcell h ⟨d.c.w, 0, none⟩ = some x.V /\ hcell h ⟨d.c.w, 13, none⟩ = some x.Hs /\ hcell h ⟨d.c.w, 14, none⟩ = some x.Ks /\ hcell h ⟨d.c.w, 15, none⟩ = some x.Cs
  V : RdS h x.V x.ws
  sc : ∀ (s : Nat) (l : List CCall), d.c.sc[s]? = some l -> ∃ v, x.ws[s]? = some v /\ SliceO h v 120 7 l.length (l.flatMap callE)
  H : RdS h x.Hs ((List.range x.nH).map fun t => ptr (d.hb t))
  K : RdS h x.Ks ((List.range d.c.nK).map fun k => ptr (d.c.K k))
  C : RdS h x.Cs ((List.range d.c.nC).map fun j => ptr (d.c.C j))
structure WdOk (d : CD) (x : WdS) : Prop where
  ok : d.Ok
  w : d.old d.c.w
  N : WdN d x d.hN
  V : ∀ b, blk x.V = some b -> d.old b
  len : x.ws.length = d.c.sc.length
  sc : ∀ (s : Nat) (v : Value), x.ws[s]? = some v -> ∀ b, blk v = some b -> d.old b
  H : ∀ b, blk x.Hs = some b -> d.old b
  K : ∀ b, blk x.Ks = some b -> d.old b
  C : ∀ b, blk x.Cs = some b -> d.old b
  nH : x.nH <= 64 /\ d.c.nT <= x.nH
  small : ∀ (s : Nat) (l : List CCall), d.c.sc[s]? = some l -> l.length <= 30
  sl : ∀ (s : Nat) (l : List CCall) (q : CCall), d.c.sc[s]? = some l -> q ∈ l -> ∃ va vl vc, q.l = .slice va vl vc
theorem RdS.low6 {h h' : Hp} {s : Value} {vs : List Value} (x : RdS h s vs) (hb : ∀ b, blk s = some b -> h'[b]? = h[b]?) : RdS h' s vs := by
  refine ⟨x.val, fun i v hv => ?_⟩
  obtain ⟨b, o, k, e, hc⟩ := x.cell i v hv
  refine ⟨b, o, k, e, ?_⟩
  rw [chcell_same (hb b (by rw [e]; rfl))]
  exact hc
section
variable {d : CD} {x : WdS} {u u' u1 u2 : CU} {h h' h1 : Hp} {i : Nat} {γ γ' γ1 γ2 : GG (XC d)} {L L' : List (Nat × Obj)} {dl : Int} {t id m : Nat} {H : List (Nat × Int)}
theorem WdOk.now (E : WdOk d x) (hh : ∀ b, d.old b -> h[b]? = d.hN[b]?) : WdN d x h := by
  have N := E.N
  have hw := fun o => chcell_same (a := ⟨d.c.w, o, none⟩) (hh d.c.w E.w)
  refine ⟨⟨(hw 0).trans N.w.1, (hw 13).trans N.w.2.1, (hw 14).trans N.w.2.2.1, (hw 15).trans N.w.2.2.2⟩, N.V.low6 fun b hb => hh b (E.V b hb), fun s l hl => ?_, N.H.low6 fun b hb => hh b (E.H b hb), N.K.low6 fun b hb => hh b (E.K b hb), N.C.low6 fun b hb => hh b (E.C b hb)⟩
  obtain ⟨v, h1, h2⟩ := N.sc s l hl
  exact ⟨v, h1, SliceO.same5 h2 fun b hb => hh b (E.sc s v h1 b hb)⟩
theorem AtC.wd (E : WdOk d x) (a : AtC d i γ u L h dl) : WdN d x h := E.now a.I.old
theorem cohand (E : WdOk d x) (a : AtC d i γ u L h dl) (ht : t = γ.p.tb i) : CallW Try.prog false (SitT Try.prog (PX (XC d)) (i + 1)) 69 #[ptr d.c.w, ptr t] h ⟨0, γ⟩ (Ret fun w h' δ' => w = ptr (d.hb i) /\ δ' = ⟨0, γ⟩ /\ AtC d i γ { u with th := ut u.th i (ptr t) } L h' dl) := by
  have N := a.wd E
  have hi : i < 64 := Nat.lt_of_lt_of_le a.lt E.ok.nT
  have hiH : i < x.nH := Nat.lt_of_lt_of_le a.lt E.nH.2
  have hH64 := E.nH.1
  obtain ⟨b, o, k, e, hc⟩ := N.H.cell i (ptr (d.hb i)) (by rw [List.getElem?_map, List.getElem?_range hiH]; rfl)
  have c13 := N.w.2.1
  rw [e, List.length_map, List.length_range] at c13
  have hh := a.I.hnd i hi
  refine CallW.start (n := 35) rfl rfl ?_
  (repeat (first | refine EK.seq ?_ | refine EK.region ?_ | refine ER.done ?_ | refine ER.move rfl rfl rfl ?_ | refine ER.assign rfl rfl rfl ?_))
  refine ER.callD rfl rfl rfl rfl rfl (conumber a ht) ?_
  (repeat (first | refine EK.seq ?_ | refine EK.region ?_ | refine ER.done ?_ | refine EK.skip ?_ | refine ER.move rfl rfl rfl ?_ | refine ER.assign rfl rfl rfl ?_ | refine ER.nilCheck rfl rfl rfl ?_ | refine ER.fieldAddr rfl rfl rfl ?_ | refine ER.pickF rfl rfl rfl rfl ?_ | refine ER.cmpF rfl rfl rfl rfl rfl (by first | (dsimp only [cmpP]; omega) | exact rfl | exact Int.le_refl _) ?_ | refine ER.len1 rfl rfl rfl ?_ | refine ER.indexSl rfl rfl rfl rfl (by omega) (by omega) ?_ | refine EK.condF rfl ?_ | refine ER.load1 rfl rfl rfl (by assumption) ?_))
  refine ER.store1 rfl rfl rfl (by simp [OneCell]) ⟨_, hcell_of hh rfl⟩ (hfroz_of hh) (a.free (.inl (.inl (E.ok.hb i hi)))) ?_
  (repeat (first | refine EK.seq ?_ | refine EK.region ?_ | refine ER.done ?_ | refine ER.move rfl rfl rfl ?_ | refine ER.assign rfl rfl rfl ?_ | refine EK.ret ?_))
  exact EU.ret1 rfl rfl ⟨rfl, rfl, a.who E.ok hi _⟩
abbrev callO (q : CCall) : Obj := .cells (callE q).toArray 120 (0, 0)
def ckV (d : CD) (q : CCall) : Value := if 0 <= q.a /\ q.a < d.c.nC then ptr (d.c.C q.a.toNat) else .pointer none
set_option maxRecDepth 8000 in
set_option maxHeartbeats 4000000 in
theorem coclock {Γ : Type} {main : Bool} {S : Sit Γ} {δ : Ix Γ} (N : WdN d x h) {q : CCall} : CallW Try.prog main S 139 #[ptr d.c.w, .agg (callE q).toArray] h δ (Ret fun w h' δ' => w = ckV d q /\ Upd (fun _ => False) h h' /\ δ' = δ) := by
  have hu : Upd (fun _ => False) h (h.push (callO q)) := Upd.push _ _
  have gy : (h.push (callO q))[h.size]? = some (callO q) := get_push_new _ _
  have c15 := hu.hcell N.w.2.2.2 (fun x => x)
  refine CallW.start (n := 26) rfl rfl ?_
  (repeat (first | refine EK.seq ?_ | refine EK.region ?_ | refine ER.done ?_ | refine ER.assign rfl rfl rfl ?_ | refine ER.boxA rfl rfl rfl ?_))
  change EK _ _ _ _ _ _ _ _ (h.push (callO q)) _ _
  obtain ⟨y, hy⟩ : ∃ y, y = h.size := ⟨_, rfl⟩
  rw [<- hy] at gy ⊢
  obtain ⟨av, kv, ev⟩ := N.C.val
  rw [ev, List.length_map, List.length_range] at c15
  have cell := N.C.cell
  rw [ev, List.length_map, List.length_range] at cell
  clear ev hy
  have e1 : hcell (h.push (callO q)) ⟨y, 1, none⟩ = some (.int .i64 q.a) := hcell_of gy rfl
  have cel2 : ∀ z : Nat, z < d.c.nC -> ∃ b o, av = some ⟨b, o, none⟩ /\ hcell (h.push (callO q)) ⟨b, o + z * 1, none⟩ = some (ptr (d.c.C z)) := fun z hz => by
    obtain ⟨b, o, k, e, hc⟩ := cell z (ptr (d.c.C z)) (by rw [List.getElem?_map, List.getElem?_range hz]; rfl)
    cases e
    exact ⟨b, o, rfl, hu.hcell hc (fun x => x)⟩
  clear cell
  generalize h.push (callO q) = h2 at *
  refine EK.regionAny (fun h' => h' = h2) ?_
  have hZ : h2 = h2 := rfl
  by_cases h0 : 0 <= q.a
  · by_cases h1 : q.a < d.c.nC
    · obtain ⟨z, hz⟩ : ∃ z : Nat, q.a = z := ⟨q.a.toNat, by omega⟩
      have hck : ckV d q = ptr (d.c.C z) := by unfold ckV; rw [if_pos ⟨h0, h1⟩, hz]; rfl
      rw [hck]
      rw [hz] at h0 h1 e1
      obtain ⟨b, o, rfl, hc⟩ := cel2 z (by omega)
      refine EA.tField 0 rfl (by kernel_rfl) rfl rfl rfl rfl hZ ?_
      refine EA.tLoad 1 rfl (by kernel_rfl) rfl rfl rfl rfl (fun _ hz => hz ▸ e1) hZ ?_
      refine EA.tCmpT 2 rfl (by kernel_rfl) rfl rfl rfl rfl rfl rfl (by first | (dsimp only [cmpP]; omega) | exact rfl | exact Int.le_refl _) hZ ?_
      refine EA.tMove 3 rfl (by kernel_rfl) rfl rfl rfl rfl hZ ?_
      refine EA.tField 4 rfl (by kernel_rfl) rfl rfl rfl rfl hZ ?_
      refine EA.tLoad 5 rfl (by kernel_rfl) rfl rfl rfl rfl (fun _ hz => hz ▸ e1) hZ ?_
      refine EA.tMove 6 rfl (by kernel_rfl) rfl rfl rfl rfl hZ ?_
      refine EA.tNil 7 rfl (by kernel_rfl) rfl rfl rfl rfl hZ ?_
      refine EA.tField 8 rfl (by kernel_rfl) rfl rfl rfl rfl hZ ?_
      refine EA.tLoad 9 rfl (by kernel_rfl) rfl rfl rfl rfl (fun _ hz => hz ▸ c15) hZ ?_
      refine EA.tLen1 10 rfl (by kernel_rfl) rfl rfl rfl rfl hZ ?_
      refine EA.tCmpT 11 rfl (by kernel_rfl) rfl rfl rfl rfl rfl rfl (by first | (dsimp only [cmpP]; omega) | exact rfl | exact Int.le_refl _) hZ ?_
      refine EA.tPickT 12 rfl (by kernel_rfl) rfl rfl rfl rfl rfl hZ ?_
      refine EA.done (by kernel_rfl) ?_
      (repeat (first | refine EK.seq ?_ | refine EK.condT rfl ?_))
      refine EK.regionAny (fun h' => h' = h2) ?_
      have hZ : h2 = h2 := rfl
      refine EA.tMove 0 rfl (by kernel_rfl) rfl rfl rfl rfl hZ ?_
      refine EA.tNil 1 rfl (by kernel_rfl) rfl rfl rfl rfl hZ ?_
      refine EA.tField 2 rfl (by kernel_rfl) rfl rfl rfl rfl hZ ?_
      refine EA.tLoad 3 rfl (by kernel_rfl) rfl rfl rfl rfl (fun _ hz => hz ▸ c15) hZ ?_
      refine EA.tField 4 rfl (by kernel_rfl) rfl rfl rfl rfl hZ ?_
      refine EA.tLoad 5 rfl (by kernel_rfl) rfl rfl rfl rfl (fun _ hz => hz ▸ e1) hZ ?_
      refine EA.tIdxS 6 rfl (by kernel_rfl) rfl rfl rfl rfl rfl (by omega) (by omega) hZ ?_
      refine EA.tLoad 7 rfl (by kernel_rfl) rfl rfl rfl rfl (fun _ hz => hz ▸ hc) hZ ?_
      refine EA.tAssign 8 rfl (by kernel_rfl) rfl rfl rfl rfl hZ ?_
      refine EA.done (by kernel_rfl) ?_
      (repeat refine EK.ret ?_)
      exact EU.ret1 rfl rfl ⟨rfl, hu, rfl⟩
    · have hck : ckV d q = .pointer none := by unfold ckV; rw [if_neg fun z => h1 z.2]
      rw [hck]
      refine EA.tField 0 rfl (by kernel_rfl) rfl rfl rfl rfl hZ ?_
      refine EA.tLoad 1 rfl (by kernel_rfl) rfl rfl rfl rfl (fun _ hz => hz ▸ e1) hZ ?_
      refine EA.tCmpT 2 rfl (by kernel_rfl) rfl rfl rfl rfl rfl rfl (by first | (dsimp only [cmpP]; omega) | exact rfl | exact Int.le_refl _) hZ ?_
      refine EA.tMove 3 rfl (by kernel_rfl) rfl rfl rfl rfl hZ ?_
      refine EA.tField 4 rfl (by kernel_rfl) rfl rfl rfl rfl hZ ?_
      refine EA.tLoad 5 rfl (by kernel_rfl) rfl rfl rfl rfl (fun _ hz => hz ▸ e1) hZ ?_
      refine EA.tMove 6 rfl (by kernel_rfl) rfl rfl rfl rfl hZ ?_
      refine EA.tNil 7 rfl (by kernel_rfl) rfl rfl rfl rfl hZ ?_
      refine EA.tField 8 rfl (by kernel_rfl) rfl rfl rfl rfl hZ ?_
      refine EA.tLoad 9 rfl (by kernel_rfl) rfl rfl rfl rfl (fun _ hz => hz ▸ c15) hZ ?_
      refine EA.tLen1 10 rfl (by kernel_rfl) rfl rfl rfl rfl hZ ?_
      refine EA.tCmpF 11 rfl (by kernel_rfl) rfl rfl rfl rfl rfl rfl (by first | (dsimp only [cmpP]; omega) | exact rfl | exact Int.le_refl _) hZ ?_
      refine EA.tPickT 12 rfl (by kernel_rfl) rfl rfl rfl rfl rfl hZ ?_
      refine EA.done (by kernel_rfl) ?_
      (repeat (first | refine EK.seq ?_ | refine EK.region ?_ | refine ER.done ?_ | refine EK.skip ?_ | refine ER.assign rfl rfl rfl ?_ | refine EK.condF rfl ?_ | refine EK.ret ?_))
      exact EU.ret1 rfl rfl ⟨rfl, hu, rfl⟩
  · have hck : ckV d q = .pointer none := by unfold ckV; rw [if_neg fun z => h0 z.1]
    rw [hck]
    refine EA.tField 0 rfl (by kernel_rfl) rfl rfl rfl rfl hZ ?_
    refine EA.tLoad 1 rfl (by kernel_rfl) rfl rfl rfl rfl (fun _ hz => hz ▸ e1) hZ ?_
    refine EA.tCmpF 2 rfl (by kernel_rfl) rfl rfl rfl rfl rfl rfl (by first | (dsimp only [cmpP]; omega) | exact rfl | exact Int.le_refl _) hZ ?_
    refine EA.tMove 3 rfl (by kernel_rfl) rfl rfl rfl rfl hZ ?_
    refine EA.takeNo 4 rfl (by kernel_rfl) rfl rfl rfl hZ ?_
    refine EA.takeNo 5 rfl (by kernel_rfl) rfl rfl rfl hZ ?_
    refine EA.takeNo 6 rfl (by kernel_rfl) rfl rfl rfl hZ ?_
    refine EA.takeNo 7 rfl (by kernel_rfl) rfl rfl rfl hZ ?_
    refine EA.takeNo 8 rfl (by kernel_rfl) rfl rfl rfl hZ ?_
    refine EA.takeNo 9 rfl (by kernel_rfl) rfl rfl rfl hZ ?_
    refine EA.takeNo 10 rfl (by kernel_rfl) rfl rfl rfl hZ ?_
    refine EA.takeNo 11 rfl (by kernel_rfl) rfl rfl rfl hZ ?_
    refine EA.tPickF 12 rfl (by kernel_rfl) rfl rfl rfl rfl rfl hZ ?_
    refine EA.done (by kernel_rfl) ?_
    (repeat (first | refine EK.seq ?_ | refine EK.region ?_ | refine ER.done ?_ | refine EK.skip ?_ | refine ER.assign rfl rfl rfl ?_ | refine EK.condF rfl ?_ | refine EK.ret ?_))
    exact EU.ret1 rfl rfl ⟨rfl, hu, rfl⟩
theorem coscript {Γ : Type} {main : Bool} {S : Sit Γ} {δ : Ix Γ} {f k : Int} {va : Option Addr} {vl vc : Nat} : CallW Try.prog main S 153 #[.slice va vl vc, .int .i64 f, .int .i64 k] h δ (Ret (Det (.int .i64 (if k < f /\ f < vl then f else -1)) h δ)) := by
  refine CallW.start (n := 17) rfl rfl ?_
  by_cases h1 : k < f
  · by_cases h2 : f < vl
    · rw [if_pos ⟨h1, h2⟩]
      (repeat (first | refine EK.seq ?_ | refine EK.region ?_ | refine ER.done ?_ | refine ER.move rfl rfl rfl ?_ | refine ER.assign rfl rfl rfl ?_ | refine ER.pickT rfl rfl rfl rfl ?_ | refine ER.cmpT rfl rfl rfl rfl rfl (by first | (dsimp only [cmpP]; omega) | exact rfl | exact Int.le_refl _) ?_ | refine ER.len1 rfl rfl rfl ?_ | refine EK.condT rfl ?_ | refine EK.ret ?_))
      exact EU.ret1 rfl rfl det
    · rw [if_neg fun z => h2 z.2]
      (repeat (first | refine EK.seq ?_ | refine EK.region ?_ | refine ER.done ?_ | refine EK.skip ?_ | refine ER.move rfl rfl rfl ?_ | refine ER.assign rfl rfl rfl ?_ | refine ER.pickT rfl rfl rfl rfl ?_ | refine ER.cmpT rfl rfl rfl rfl rfl (by first | (dsimp only [cmpP]; omega) | exact rfl | exact Int.le_refl _) ?_ | refine ER.cmpF rfl rfl rfl rfl rfl (by first | (dsimp only [cmpP]; omega) | exact rfl | exact Int.le_refl _) ?_ | refine ER.len1 rfl rfl rfl ?_ | refine EK.condF rfl ?_ | refine EK.ret ?_))
      exact EU.ret1 rfl rfl det
  · rw [if_neg fun z => h1 z.1]
    (repeat (first | refine EK.seq ?_ | refine EK.region ?_ | refine ER.done ?_ | refine EK.skip ?_ | refine ER.move rfl rfl rfl ?_ | refine ER.assign rfl rfl rfl ?_ | refine ER.no rfl rfl ?_ | refine ER.pickF rfl rfl rfl rfl ?_ | refine ER.cmpF rfl rfl rfl rfl rfl (by first | (dsimp only [cmpP]; omega) | exact rfl | exact Int.le_refl _) ?_ | refine EK.condF rfl ?_ | refine EK.ret ?_))
    exact EU.ret1 rfl rfl det
theorem cofunction (E : WdOk d x) (a : AtC d i γ u L h dl) {f : Int} {k : Nat} : CallW Try.prog false (SitT Try.prog (PX (XC d)) (i + 1)) 140 #[ptr d.c.w, .int .i64 f, .int .i64 k] h ⟨0, γ⟩ (Ret fun w h' δ' => ∃ u' : CU, δ' = ⟨0, γ⟩ /\ AtC d i γ u' L h' dl /\ Go_ d i γ u γ u' /\ (w = .nilFunc \/ FnOk d.c u'.kept w)) := by
  have a1 := a.keep E.ok (.cells #[ptr d.c.w] 27 (0, 0))
  have N := a1.wd E
  have hu : Upd (fun _ => False) h (h.push (.cells #[ptr d.c.w] 27 (0, 0))) := Upd.push _ _
  have gy := get_push_new h (.cells #[ptr d.c.w] 27 (0, 0))
  have cV := N.w.1
  obtain ⟨av, kv, ev⟩ := N.V.val
  rw [ev, E.len] at cV
  have e0 : hcell (h.push (.cells #[ptr d.c.w] 27 (0, 0))) ⟨h.size, 0, none⟩ = some (ptr d.c.w) := hcell_of gy rfl
  refine CallW.start (n := 19) rfl rfl ?_
  (repeat (first | refine EK.seq ?_ | refine EK.region ?_ | refine ER.done ?_ | refine ER.move rfl rfl rfl ?_ | refine ER.assign rfl rfl rfl ?_ | refine ER.nilCheck rfl rfl rfl ?_ | refine ER.fieldAddr rfl rfl rfl ?_ | refine ER.load1 rfl rfl rfl (hcell_of (by assumption) rfl) ?_ | refine ER.box rfl rfl rfl ?_ | refine ER.load1 rfl rfl rfl (by assumption) ?_))
  refine ER.callD rfl rfl rfl rfl rfl coscript ?_
  obtain ⟨z, hz⟩ : ∃ z : Int, z = (if (k : Int) < f /\ f < (d.c.sc.length : Nat) then f else -1) := ⟨_, rfl⟩
  rw [<- hz]
  (repeat refine ER.alloc rfl rfl ?_)
  refine ER.store1 rfl rfl rfl (by simp [OneCell]) ⟨_, hcell_of (get_push_new _ _) rfl⟩ (hfroz_of (get_push_new _ _)) (a1.free (.inr (.inr (Nat.le_refl _)))) ?_
  rw [hset_block (get_push_new _ _)]
  change ER _ _ _ _ _ _ _ _ _ _ (((h.push (.cells #[ptr d.c.w] 27 (0, 0))).push (.cells #[.int .i64 0] 3 (0, 0))).setIfInBounds (h.push (.cells #[ptr d.c.w] 27 (0, 0))).size (.cells #[.int .i64 z] 3 (0, 0))) _ _
  rw [push_set]
  have a2 := a1.keep E.ok (.cells #[.int .i64 z] 3 (0, 0))
  have e1 : hcell ((h.push (.cells #[ptr d.c.w] 27 (0, 0))).push (.cells #[.int .i64 z] 3 (0, 0))) ⟨(h.push (.cells #[ptr d.c.w] 27 (0, 0))).size, 0, none⟩ = some (.int .i64 z) := hcell_of (get_push_new _ _) rfl
  by_cases h0 : z < 0
  · (repeat (first | refine EK.seq ?_ | refine EK.region ?_ | refine ER.done ?_ | refine ER.assign rfl rfl rfl ?_ | refine ER.cmpT rfl rfl rfl rfl rfl (by first | (dsimp only [cmpP]; omega) | exact rfl | exact Int.le_refl _) ?_ | refine EK.condT rfl ?_ | refine EK.ret ?_ | refine ER.load1 rfl rfl rfl (by assumption) ?_))
    exact EU.ret1 rfl rfl ⟨_, rfl, a2, ⟨Along.refl _ _, rfl, rfl, fun q hq => List.mem_append_left _ (List.mem_append_left _ hq), Nat.le_refl _, Nat.le_refl _⟩, .inl rfl⟩
  · have hs : (k : Int) < f /\ f < (d.c.sc.length : Nat) := by
      apply Classical.byContradiction
      intro hh
      rw [if_neg hh] at hz
      omega
    rw [if_pos hs] at hz
    obtain ⟨s, rfl⟩ : ∃ s : Nat, z = s := ⟨z.toNat, by omega⟩
    (repeat (first | refine EK.seq ?_ | refine EK.region ?_ | refine ER.done ?_ | refine EK.skip ?_ | refine ER.cmpF rfl rfl rfl rfl rfl (by first | (dsimp only [cmpP]; omega) | exact rfl | exact Int.le_refl _) ?_ | refine EK.condF rfl ?_ | refine ER.load1 rfl rfl rfl (by assumption) ?_))
    refine ER.makeFunc (fv := #[]) (cv := #[ptr h.size, ptr (h.push (.cells #[ptr d.c.w] 27 (0, 0))).size]) rfl rfl (fun ρ hρ => ⟨map_ofL hρ (vs := []) rfl, map_ofL hρ (vs := [ptr h.size, ptr (h.push (.cells #[ptr d.c.w] 27 (0, 0))).size]) rfl⟩) ?_
    (repeat (first | refine ER.done ?_ | refine ER.assign rfl rfl rfl ?_ | refine EK.ret ?_))
    exact EU.ret1 rfl rfl ⟨_, rfl, a2, ⟨Along.refl _ _, rfl, rfl, fun q hq => List.mem_append_left _ (List.mem_append_left _ hq), Nat.le_refl _, Nat.le_refl _⟩, .inr ⟨h.size, _, s, rfl, List.mem_append_left _ (List.mem_append_right _ (List.mem_singleton.2 rfl)), List.mem_append_right _ (List.mem_singleton.2 rfl), by omega⟩⟩
end
end
end Go.Proofs.Ytidfmmaehgijaaa
