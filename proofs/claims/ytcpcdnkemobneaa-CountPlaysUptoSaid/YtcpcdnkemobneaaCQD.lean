/- Steps of the walk and of the plain law (RunR to CountT). Conditions: as each lemma says. -/
import Derived.Test.YtcpcdnkemobneaaCQC
namespace Go.Proofs.Ytcpcdnkemobneaa
section
open Go Go.TJ Go.Conc Go.Proofs
theorem sliceO_ne {h : Hp} {s : Value} {e sz n : Nat} {cells : List Value} (x : SliceO h s e sz n cells) {R : Nat} {c : Array Value} {e' : TypeId} {f : Nat × Nat} (hR : h[R]? = some (.cells c e' f)) (hne : e ≠ e') : ∀ b, blk s = some b -> b ≠ R := by
  rintro b hb rfl
  obtain ⟨_, ⟨rfl, _⟩ | ⟨b', cap, rest, rfl, h1, h2, h3⟩⟩ := x
  · cases hb
  · cases hb
    rw [h3] at hR
    injection hR with hR
    injection hR with _ hR _
    exact hne hR
section
variable {X : Us} {h : Hp} {γ : GG X}
structure Ended (X : Us) (v0 : Nat -> Int) (picks : List Int) (nb most : Nat) (p : PS X.U) (e : Int) (lL lW lY lV : Value) (h : Hp) : Prop where
  reg : Reg X v0 picks nb p
  how : (e = 1 /\ p.live nb = [] /\ p.log.length <= most) \/ (e = 2 /\ p.live nb ≠ [] /\ p.log.length = most)
  log : SliceO h lL 75 8 p.log.length (p.log.flatMap (entL (nums p.log)))
  went : SliceO h lW 3 1 p.went.length (p.went.map fun (n : Nat) => Value.int .i64 (n : Int))
  rdy : SliceO h lY 3 1 p.rdy.length (p.rdy.map fun (n : Nat) => Value.int .i64 (n : Int))
  left : SliceO h lV 75 8 (p.live nb).length ((p.live nb).flatMap (leftL p (nums p.log)))
  I : X.I p.u h
  J : X.J p.log p.u p.val
  Q : ∀ x, X.Q x (ownOf x p.log) (p.st x) p.u
  cel : ∀ b, X.isC b -> h[b]? = some (cellO (p.val b))
def psZ {U : Type} (R mb : Nat) (v0 : Nat -> Int) (u0 : U) : PS U := ⟨R, mb, 0, 0, fun _ => 0, fun _ => 0, fun _ => 0, fun _ => 0, fun _ => 0, fun _ => 0, fun _ => .nilFunc, fun _ => .born, fun _ => false, fun _ => [], [], [], [], v0, false, u0⟩
abbrev slsZ : Sls := ⟨nilS, nilS, nilS, nilS, nilS⟩
def memZ (R mb : Nat) : Mem Nm := ⟨fun k => k = .run \/ k = .map, fun k => if k = .run then R else mb, fun k => if k = .run then runO slsZ mb false else .map #[] 0⟩
theorem giZ {R mb : Nat} {v0 : Nat -> Int} {u0 : X.U} {W : Nat -> Prop} (hR : h[R]? = some (runO slsZ mb false)) (hm : h[mb]? = some (.map #[] 0)) (hWR : W R) (hWm : W mb) (hC : ∀ b, X.isC b -> h[b]? = some (cellO (v0 b)) /\ W b) (hD : ∀ b, X.Dom u0 b -> b < h.size /\ W b) (h1 : ¬ X.isC R /\ ¬ X.Dom u0 R) (h2 : ¬ X.isC mb /\ ¬ X.Dom u0 mb) : GI X W (psZ R mb v0 u0) [] slsZ (memZ R mb) h := by
  have hne : R ≠ mb := fun e => by rw [e, hm] at hR; cases hR
  have key : ∀ k, (memZ R mb).ok k -> (k = .run /\ (memZ R mb).B k = R) \/ (k = .map /\ (memZ R mb).B k = mb) := fun k hk => by
    rcases hk with rfl | rfl
    · exact .inl ⟨rfl, rfl⟩
    · exact .inr ⟨rfl, rfl⟩
  refine ⟨⟨fun k hk => ?_, fun k k' hk hk' e => ?_⟩, fun k => ?_, fun k hk => ?_, hC, fun k hk => ?_, hD, fun b hb => (by cases hb), fun e he => (by cases he), fun i hi => absurd hi (Nat.not_lt_zero _), fun i j hi => absurd hi (Nat.not_lt_zero _)⟩
  · rcases key k hk with ⟨rfl, _⟩ | ⟨rfl, _⟩
    · exact hR
    · exact hm
  · rcases key k hk with ⟨rfl, e1⟩ | ⟨rfl, e1⟩ <;> rcases key k' hk' with ⟨rfl, e2⟩ | ⟨rfl, e2⟩
    · rfl
    · exact absurd (e1.symm.trans (e.trans e2)) hne
    · exact absurd (e2.symm.trans (e.symm.trans e1)) hne
    · rfl
  · have no : ∀ {k : Nm}, k ≠ .run -> k ≠ .map -> ¬ (memZ R mb).ok k := fun a b x => x.elim a b
    cases k with
    | run => exact ⟨.inl rfl, rfl, rfl⟩
    | map => exact ⟨.inr rfl, rfl, #[], 0, rfl, Keyed.nil⟩
    | thr => exact Mem.Sl.nil (no nofun nofun)
    | log => exact Mem.Sl.nil (no nofun nofun)
    | went => exact Mem.Sl.nil (no nofun nofun)
    | rdy => exact Mem.Sl.nil (no nofun nofun)
    | fell => exact Mem.Sl.nil (no nofun nofun)
    | _ => exact fun hi => absurd hi (Nat.not_lt_zero _)
  · rcases key k hk with ⟨_, e⟩ | ⟨_, e⟩ <;> rw [e] <;> assumption
  · rcases key k hk with ⟨_, e⟩ | ⟨_, e⟩ <;> rw [e] <;> assumption
set_option maxHeartbeats 8000000 in
set_option maxRecDepth 8000 in
theorem runG (hX : X.Ok) {v0 : Nat -> Int} {u0 : X.U} {picks : List Int} {m : Int} {bods : List (FuncId × Array Value)} {sP sB : Value} (h0 : γ.p.num = 0) (hm0 : 0 <= m) (hm1 : m <= 65536) (hC : ∀ b, X.isC b -> h[b]? = some (cellO (v0 b))) (hD : ∀ b, X.Dom u0 b -> b < h.size) (hI : X.I u0 h) (hJ : X.J [] u0 v0) (hQ : ∀ x, X.Q x [] .born u0)
    (hnb : bods.length <= 64) (hB : SliceO h sB 45 1 bods.length (bods.map fun q => .func (.func q.1) #[] q.2)) (hBn : ∀ c, blk sB = some c -> ¬ X.isC c /\ ¬ X.Dom u0 c) (hP : SliceO h sP 3 1 picks.length (picks.map fun x => .int .i64 x)) (hPn : ∀ c, blk sP = some c -> ¬ X.isC c /\ ¬ X.Dom u0 c)
    (hbody : ∀ (k : Nat) (q : FuncId × Array Value), bods[k]? = some q -> HasBody Try.prog q.1 /\ Body X k q.1 q.2) :
    CallW Try.prog true (SitM Try.prog (PX X)) 17 #[sP, .int .i64 m, sB] h ⟨0, γ⟩ (Ret fun v h' δ' => ∃ (γ' : GG X) (p : PS X.U) (e : Int) (lL lW lY lV : Value), δ' = ⟨0, γ'⟩ /\ (∀ a, ¬ (SitM Try.prog (PX X)).still γ' a) /\ (∀ i, i ≠ 0 -> i < (PX X).num γ' -> (PX X).ch γ' i = none) /\ v = .agg (repL e p.log.length lL lW lY lV).toArray /\ Ended X v0 picks bods.length m.toNat p e lL lW lY lV h' /\ Upd (fun b => X.isC b \/ X.Dom u0 b) h h') := by
  have no0 : ∀ a, ¬ (SitM Try.prog (PX X)).still γ a := fun a x => by
    obtain ⟨j, hj, _⟩ := stillM_of x
    omega
  obtain ⟨aP, kP, eP⟩ := hP.val
  obtain ⟨aB, kB, eB⟩ := hB.val
  subst eP eB
  refine CallW.start (n := 30) rfl rfl ?_
  (repeat (first | refine EK.seq ?_ | refine EK.region ?_ | refine ER.done ?_ | refine EK.skip ?_ | refine ER.move rfl rfl rfl ?_ | refine ER.cmpF rfl rfl rfl rfl rfl (by first | (dsimp only [cmpP]; omega) | exact rfl | exact Int.le_refl _) ?_ | refine ER.box rfl rfl rfl ?_ | refine ER.allocA rfl rfl ?_ | refine ER.len1 rfl rfl rfl ?_ | refine EK.condF rfl ?_))
  refine ER.makeMap rfl rfl ?_
  refine ER.buildS (cells := #[nilS, .map (some (h.size + 2)), nilS, nilS, nilS, nilS, .bool false]) rfl rfl (by simp only [Array.size_push]; rfl) rfl ?_
  (repeat (first | refine ER.boxA rfl rfl rfl ?_ | refine ER.alloc rfl rfl ?_))
  refine ER.storeNew rfl rfl rfl rfl ⟨nofun, nofun⟩ (no0 _) ?_
  simp only [Array.size_push]
  refine ER.gen (fun h5 => Upd (fun _ => False) h h5 /\ h5.size = h.size + 5 /\ h5[h.size]? = some (.cells #[.slice aP picks.length kP] 25 (0, 0)) /\ h5[h.size + 1]? = some (.cells repZ.toArray 49 (0, 0)) /\ h5[h.size + 2]? = some (.map #[] 0) /\ h5[h.size + 3]? = some (.cells #[nilS, .map (some (h.size + 2)), nilS, nilS, nilS, nilS, .bool false] 196 (0, 0)) /\ h5[h.size + 4]? = some (oneO (ptr (h.size + 3)) 192)) ?_ ?_
  · exact push5 h (.cells #[.slice aP picks.length kP] 25) (.cells repZ.toArray 49) (.map #[] 0) (.cells #[nilS, .map (some (h.size + 2)), nilS, nilS, nilS, nilS, .bool false] 196) (oneO (ptr (h.size + 3)) 192)
  rintro h5 ⟨u5, s5, g0, g1, g2, g3, g4⟩
  have hCl : ∀ b, X.isC b -> b < h.size := fun b hb => lt_of_get (hC b hb)
  obtain ⟨W, hW⟩ : ∃ W : Nat -> Prop, W = fun b => X.isC b \/ X.Dom u0 b \/ b = h.size + 3 \/ b = h.size + 2 \/ h5.size <= b := ⟨_, rfl⟩
  have nW : ∀ b, b < h5.size -> ¬ X.isC b -> ¬ X.Dom u0 b -> b ≠ h.size + 3 -> b ≠ h.size + 2 -> ¬ W b := fun b h1 h2 h3 h4 h5 x => by
    rw [hW] at x
    rcases x with x | x | x | x | x
    · exact h2 x
    · exact h3 x
    · exact h4 x
    · exact h5 x
    · omega
  have nC : ∀ b, h.size <= b -> ¬ X.isC b := fun b hb x => by have := hCl b x; omega
  have nD : ∀ b, h.size <= b -> ¬ X.Dom u0 b := fun b hb x => by have := hD b x; omega
  have gi0 : GI X W (psZ (h.size + 3) (h.size + 2) v0 u0) [] slsZ (memZ (h.size + 3) (h.size + 2)) h5 := giZ g3 g2 (by rw [hW]; exact .inr (.inr (.inl rfl))) (by rw [hW]; exact .inr (.inr (.inr (.inl rfl)))) (fun b hb => ⟨u5.get (hC b hb) (fun x => x), by rw [hW]; exact .inl hb⟩) (fun b hb => ⟨by have := hD b hb; omega, by rw [hW]; exact .inr (.inl hb)⟩) ⟨nC _ (by omega), nD _ (by omega)⟩ ⟨nC _ (by omega), nD _ (by omega)⟩
  have sta0 : Sta X W h5 (h.size + 3) (psZ (h.size + 3) (h.size + 2) v0 u0) h5 := ⟨⟨_, _, gi0⟩, hX.loc _ _ _ (fun b hb => u5.2 b (hD b hb) (fun x => x)) hI, hJ, hQ, rfl, Upd.refl _ _⟩
  have hunt := untilG (γ := γ) (h := h5) hX (p0 := psZ (h.size + 3) (h.size + 2) v0 u0) (.inr ⟨h0, rfl⟩) (W := W) (R := h.size + 3) (bP := h.size) (bR := h.size + 4) (picks := picks) (most := m.toNat) (bods := bods) (fun c hc => by rw [hW]; exact .inr (.inr (.inr (.inr hc)))) sta0 ⟨rfl, rfl, rfl, rfl, rfl, rfl, fun _ => rfl⟩ (by omega) hnb
    (hB.upd u5 (fun _ _ x => x)) (fun c hc => by
      have := hB.lt hc
      obtain ⟨x1, x2⟩ := hBn c hc
      exact nW c (by omega) x1 x2 (by omega) (by omega)) (hP.upd u5 (fun _ _ x => x)) (fun c hc => by
      have := hP.lt hc
      obtain ⟨x1, x2⟩ := hPn c hc
      exact nW c (by omega) x1 x2 (by omega) (by omega)) (hcell_of g0 rfl) (nW _ (by omega) (nC _ (by omega)) (nD _ (by omega)) (by omega) (by omega)) (hcell_of g4 rfl) (nW _ (by omega) (nC _ (by omega)) (nD _ (by omega)) (by omega) (by omega)) hbody
  rw [show ((m.toNat : Nat) : Int) = m by omega] at hunt
  have c4 : hcell h5 ⟨h.size + 4, 0, none⟩ = some (ptr (h.size + 3)) := hcell_of g4 rfl
  clear g4 gi0 sta0
  (repeat (first | refine EK.seq ?_ | refine EK.region ?_ | refine ER.done ?_ | refine ER.move rfl rfl rfl ?_ | refine ER.load1 rfl rfl rfl (by assumption) ?_))
  refine ER.max (r := m) rfl rfl rfl rfl (by rw [if_neg (by omega)]) ?_
  refine ER.min (r := m) rfl rfl rfl rfl (by rw [if_neg (by omega)]) ?_
  (repeat refine ER.move rfl rfl rfl ?_)
  refine ER.makeFunc (fv := #[]) (cv := #[ptr h.size, ptr (h.size + 4)]) rfl rfl (fun ρ hρ => ⟨map_ofL hρ (vs := []) rfl, map_ofL hρ (vs := [ptr h.size, ptr (h.size + 4)]) rfl⟩) ?_
  refine ER.callR rfl rfl rfl rfl rfl hunt ?_
  rintro _ h6 δ6 ⟨γ6, p6, e, rfl, mn, st6, rg, rfl, how⟩
  obtain ⟨s6, M6, g6⟩ := st6.gi
  have nW1 : ¬ W (h.size + 1) := nW _ (by omega) (nC _ (by omega)) (nD _ (by omega)) (by omega) (by omega)
  have nW4 : ¬ W (h.size + 4) := nW _ (by omega) (nC _ (by omega)) (nD _ (by omega)) (by omega) (by omega)
  have c6 := st6.upd.hcell c4 nW4
  have r6 := st6.upd.get g1 nW1
  have sz6 := st6.upd.size
  have oursW : ∀ b, Ours X p6 M6 b -> W b := fun b x => by
    rcases x with ⟨k, hk, rfl⟩ | x | x | ⟨i, hi, q, hq, rfl⟩
    · exact g6.wide k hk
    · exact (g6.cel b x).2
    · exact (g6.dom b x).2
    · exact (g6.prv i hi q hq).2.1
  have hrep := reportG (γ := γ6) (e := e) hX mn g6 st6.I st6.J st6.Q (by rw [rg.num]; exact hnb) (by rw [rg.fl]; exact hnb) (fun j hj hg => by
    rcases rg.alive j (by rw [<- rg.num]; exact hj) with ⟨_, r, y1, y2⟩ | ⟨y, _⟩
    · exact ⟨r, y1, y2⟩
    · rw [hg] at y; cases y)
  rw [st6.R] at hrep
  clear hunt
  (repeat (first | refine EK.seq ?_ | refine EK.region ?_ | refine ER.done ?_ | refine ER.move rfl rfl rfl ?_ | refine ER.assign rfl rfl rfl ?_ | refine ER.extract rfl rfl rfl rfl ?_ | refine ER.load1 rfl rfl rfl (by assumption) ?_))
  refine ER.callR rfl rfl rfl rfl rfl hrep ?_
  clear hrep
  rintro _ h7 δ7 ⟨γ7, s7, M7, lv, rfl, mn7, g7, I7, u7, sl7, rfl⟩
  have nO1 : ¬ Ours X p6 M6 (h.size + 1) := fun x => nW1 (oursW _ x)
  have r7 := u7.get r6 nO1
  have no7 : ∀ a, ¬ (SitM Try.prog (PX X)).still γ7 a := fun a x => by
    obtain ⟨j, hj, hg, _⟩ := stillM_of x
    have hv := mn7.view hX hj
    have hn := mn7.num
    have : (p6.gone j || decide (j < p6.num)) = γ7.p.gone j := hv.gone
    have hj' : j < p6.num := by have : p6.num = γ7.p.num := hn; omega
    rw [hg] at this
    simp [hj'] at this
  have ch7 : ∀ i, i ≠ 0 -> i < (PX X).num γ7 -> (PX X).ch γ7 i = none := fun i hi hl => by
    cases i with
    | zero => exact absurd rfl hi
    | succ j =>
      have hj : j < γ7.p.num := Nat.lt_of_succ_lt_succ hl
      have hv := mn7.view hX hj
      have hn : p6.num = γ7.p.num := mn7.num
      have hg : (p6.gone j || decide (j < p6.num)) = γ7.p.gone j := hv.gone
      show (if γ7.p.gone j = true then none else some (γ7.p.wk j)) = none
      rw [<- hg, show decide (j < p6.num) = true by simp; omega, Bool.or_true]
      rfl
  have nb7 : ∀ k, M7.ok k -> M7.B k ≠ h.size + 1 := fun k hk e' => by
    rcases g7.wide k hk with y | y
    · exact nO1 (e' ▸ y)
    · omega
  have hwl : p6.went.length = p6.log.length := by rw [rg.went, List.length_map]
  have sL : SliceO h7 s7.L 75 8 p6.log.length (p6.log.flatMap (entL (nums p6.log))) := Mem.Sl.slice g7.rep (g7.all .log)
  have sW : SliceO h7 s7.W 3 1 p6.went.length (p6.went.map fun (n : Nat) => Value.int .i64 (n : Int)) := Mem.Sl.slice g7.rep (g7.all .went)
  have sY : SliceO h7 s7.Y 3 1 p6.rdy.length (p6.rdy.map fun (n : Nat) => Value.int .i64 (n : Int)) := Mem.Sl.slice g7.rep (g7.all .rdy)
  rw [rg.num] at sl7
  have q1 := sliceO_ne sL r7 (by decide)
  have q2 := sliceO_ne sW r7 (by decide)
  have q3 := sliceO_ne sY r7 (by decide)
  have q4 := sliceO_ne sl7 r7 (by decide)
  have hcs : ∀ j, j < 7 -> (∃ u, hcell h7 ⟨h.size + 1, 0 + j, none⟩ = some u) /\ hfroz h7 ⟨h.size + 1, 0 + j, none⟩ = false /\ ¬ (SitM Try.prog (PX X)).still γ7 ⟨h.size + 1, 0 + j, none⟩ := fun j hj => by
    refine ⟨?_, hfroz_of r7, no7 _⟩
    rcases (show j = 0 \/ j = 1 \/ j = 2 \/ j = 3 \/ j = 4 \/ j = 5 \/ j = 6 by omega) with rfl | rfl | rfl | rfl | rfl | rfl | rfl <;> exact ⟨_, hcell_of r7 rfl⟩
  refine ER.storeN (vs := repL e p6.went.length s7.L s7.W s7.Y lv) rfl rfl rfl rfl (fun v hv => ?_) hcs ?_
  · simp only [List.mem_cons, List.not_mem_nil, or_false] at hv
    rcases hv with rfl | rfl | rfl | rfl | rfl | rfl | rfl
    · exact ⟨nofun, nofun⟩
    · exact ⟨nofun, nofun⟩
    · obtain ⟨a, k, e'⟩ := sL.val; rw [e']; exact ⟨nofun, nofun⟩
    · obtain ⟨a, k, e'⟩ := sW.val; rw [e']; exact ⟨nofun, nofun⟩
    · obtain ⟨a, k, e'⟩ := sY.val; rw [e']; exact ⟨nofun, nofun⟩
    · obtain ⟨a, k, e'⟩ := sl7.val; rw [e']; exact ⟨nofun, nofun⟩
    · exact ⟨nofun, nofun⟩
  rw [row_set (c := repZ) (vs := repL e p6.went.length s7.L s7.W s7.Y lv) r7 rfl]
  (repeat (first | refine ER.done ?_ | refine EK.ret ?_))
  have nF : (h7.setIfInBounds (h.size + 1) (.cells (repL e p6.went.length s7.L s7.W s7.Y lv).toArray 49 (0, 0)))[h.size + 1]? = some (.cells (repL e p6.went.length s7.L s7.W s7.Y lv ++ []).toArray 49 (0, 0)) := by rw [List.append_nil]; exact get_set_same r7
  have uF : Upd (fun b => b = h.size + 1) h7 (h7.setIfInBounds (h.size + 1) (.cells (repL e p6.went.length s7.L s7.W s7.Y lv).toArray 49 (0, 0))) := Upd.set _ _ _ rfl
  have nDu : ¬ X.Dom p6.u (h.size + 1) := fun x => nO1 (.inr (.inr (.inl x)))
  refine EU.retCell1 (vs := repL e p6.went.length s7.L s7.W s7.Y lv) rfl rfl rfl (hrow_block nF) ⟨γ7, p6, e, s7.L, s7.W, s7.Y, lv, rfl, no7, ch7, by rw [hwl], ⟨rg, how, sL.upd uF q1, sW.upd uF q2, sY.upd uF q3, sl7.upd uF q4, hX.loc _ _ _ (fun b hb => get_set_ne _ (fun e' => nDu (e' ▸ hb))) I7, st6.J, st6.Q, fun b hb => ?_⟩, ⟨?_, fun b hb hn => ?_⟩⟩
  · rw [get_set_ne _ (by have := hCl b hb; omega)]
    exact (g7.cel b hb).1
  · rw [Array.size_setIfInBounds]; have := u7.size; omega
  · have hnW : ¬ W b := nW b (by omega) (fun x => hn (.inl x)) (fun x => hn (.inr x)) (by omega) (by omega)
    rw [get_set_ne _ (by omega), u7.2 b (by omega) (fun x => hnW (oursW _ x)), st6.upd.2 b (by omega) hnW]
    exact u5.2 b hb (fun x => x)
end
end
section
open Go Go.TJ Go.Conc Go.Proofs
section
variable {X : Us} {h : Hp} {i : Nat} {γ : GG X} {u : X.U} {L : List (Nat × Obj)}
structure Asks (X : Us) (i : Nat) (γ : GG X) (u : X.U) (r : Rq) : Prop where
  Q : X.Q i (ownOf i (γ.p.acc i).log) (.stands r) u
  J : X.J (γ.p.acc i).log u (γ.p.acc i).val
def Halt (X : Us) (i : Nat) (p : PS X.U) (ps : List PanicEntry) (h : Hp) (δ : Ix (GG X)) : Prop := ∃ γ' : GG X, δ = ⟨0, γ'⟩ /\ Along X i p γ'.p /\ Stp X i γ' h /\ ps = [{ v := stopV, recovered := false }]
theorem Halt.along {p p' : PS X.U} (a : Along X i p p') {ps : List PanicEntry} {h : Hp} {δ : Ix (GG X)} (x : Halt X i p' ps h δ) : Halt X i p ps h δ := by
  obtain ⟨γ', rfl, al, s, e⟩ := x
  exact ⟨γ', rfl, a.trans al, s, e⟩
def Did (X : Us) (i : Nat) (γ : GG X) (u : X.U) (L : List (Nat × Obj)) (r : Rq) (f : Int -> Value) (w : Value) (h : Hp) (δ : Ix (GG X)) : Prop := ∃ γ' : GG X, δ = ⟨0, γ'⟩ /\ Thr X i γ' γ'.p.u L h /\ Stood X i γ u r γ' /\ w = f (γ'.p.val r.b)
theorem Thr.celC (T : Thr X i γ u L h) {b : Nat} (hb : X.isC b) : ∃ v, h[b]? = some (cellO v) := by
  obtain ⟨s, M, g⟩ := T.gi
  exact ⟨_, (g.cel b hb).1⟩
theorem rq_ok {b : Nat} {op a c : Int} (hb : X.isC b) (h1 : (decide (1 <= op) && decide (op <= 5)) = true) (h2 : op = 1 -> a = 0) (h3 : op ≠ 3 -> c = 0) : RqOk X ⟨op, b, a, c⟩ := by
  simp only [Bool.and_eq_true, decide_eq_true_eq] at h1
  exact ⟨hb, h1.1, h1.2, h2, h3⟩
set_option maxRecDepth 8000 in
set_option maxHeartbeats 1000000 in
theorem cloadT (hX : X.Ok) (T : Thr X i γ u L h) {b : Nat} (hb : X.isC b) (A : Asks X i γ u ⟨1, b, 0, 0⟩) : CallW Try.prog false (SitT Try.prog (PX X) (i + 1)) 97 #[ptr b, ptr (γ.p.tb i)] h ⟨0, γ⟩ (RetP (Did X i γ u L ⟨1, b, 0, 0⟩ (.int .i64 ·)) (Halt X i γ.p)) := by
  obtain ⟨v, hv⟩ := T.celC hb
  obtain ⟨w, t, o, c, b0, n, x, y, k, hat, hrow1⟩ := T.row
  have c0 : hcell h ⟨γ.p.tb i, 0, none⟩ = some (ptr γ.p.R) := hcell_of hrow1 rfl
  have c13 : hcell h ⟨γ.p.tb i, 13, none⟩ = some (.bool false) := hcell_of hrow1 rfl
  clear hrow1 hat
  refine CallW.start (n := 26) rfl rfl ?_
  (repeat (first | refine EK.seq ?_ | refine EK.region ?_ | refine ER.done ?_ | refine ER.move rfl rfl rfl ?_ | refine ER.assign rfl rfl rfl ?_))
  refine ER.callD rfl rfl rfl rfl rfl (none_ok hv) ?_
  (repeat (first | refine EK.seq ?_ | refine EK.region ?_ | refine ER.done ?_ | refine EK.skip ?_ | refine ER.move rfl rfl rfl ?_ | refine EK.condF rfl ?_))
  refine ER.callD rfl rfl rfl rfl rfl (live_ok c0 c13) ?_
  (repeat (first | refine EK.seq ?_ | refine EK.region ?_ | refine ER.done ?_ | refine ER.move rfl rfl rfl ?_ | refine ER.nilCheck rfl rfl rfl ?_ | refine ER.fieldAddr rfl rfl rfl ?_ | refine EK.condT rfl ?_))
  refine ER.callP rfl rfl rfl rfl rfl (step_ok (r := ⟨1, b, 0, 0⟩) hX T (rq_ok hb rfl (fun _ => rfl) (fun _ => rfl)) A.Q A.J) ?_ ?_
  · rintro ps h' δ' ⟨γ', rfl, hS, st, rfl⟩
    exact ⟨γ', rfl, st.al, hS, rfl⟩
  rintro w h1 δ1 ⟨γ', rfl, T', st, rfl⟩
  (repeat (first | refine EK.seq ?_ | refine EK.region ?_ | refine ER.done ?_ | refine ER.move rfl rfl rfl ?_ | refine ER.assign rfl rfl rfl ?_ | refine ER.extract rfl rfl rfl rfl ?_ | refine EK.ret ?_))
  exact EU.ret1 rfl rfl ⟨γ', rfl, T', st, rfl⟩
set_option maxRecDepth 8000 in
set_option maxHeartbeats 1000000 in
theorem ccasT (hX : X.Ok) (T : Thr X i γ u L h) {b : Nat} {a c' : Int} (hb : X.isC b) (A : Asks X i γ u ⟨3, b, a, c'⟩) : CallW Try.prog false (SitT Try.prog (PX X) (i + 1)) 106 #[ptr b, ptr (γ.p.tb i), .int .i64 a, .int .i64 c'] h ⟨0, γ⟩ (RetP (Did X i γ u L ⟨3, b, a, c'⟩ (fun z => .bool (decide (z = a)))) (Halt X i γ.p)) := by
  obtain ⟨v, hv⟩ := T.celC hb
  obtain ⟨w, t, o, c, b0, n, x, y, k, hat, hrow1⟩ := T.row
  have c0 : hcell h ⟨γ.p.tb i, 0, none⟩ = some (ptr γ.p.R) := hcell_of hrow1 rfl
  have c13 : hcell h ⟨γ.p.tb i, 13, none⟩ = some (.bool false) := hcell_of hrow1 rfl
  clear hrow1 hat
  refine CallW.start (n := 39) rfl rfl ?_
  (repeat (first | refine EK.seq ?_ | refine EK.region ?_ | refine ER.done ?_ | refine ER.move rfl rfl rfl ?_ | refine ER.assign rfl rfl rfl ?_))
  refine ER.callD rfl rfl rfl rfl rfl (none_ok hv) ?_
  (repeat (first | refine EK.seq ?_ | refine EK.region ?_ | refine ER.done ?_ | refine EK.skip ?_ | refine ER.move rfl rfl rfl ?_ | refine EK.condF rfl ?_))
  refine ER.callD rfl rfl rfl rfl rfl (live_ok c0 c13) ?_
  (repeat (first | refine EK.seq ?_ | refine EK.region ?_ | refine ER.done ?_ | refine ER.move rfl rfl rfl ?_ | refine ER.nilCheck rfl rfl rfl ?_ | refine ER.fieldAddr rfl rfl rfl ?_ | refine EK.condT rfl ?_))
  refine ER.callP rfl rfl rfl rfl rfl (step_ok (r := ⟨3, b, a, c'⟩) hX T (rq_ok hb rfl (fun e => absurd e (by decide)) (fun e => absurd rfl e)) A.Q A.J) ?_ ?_
  · rintro ps h' δ' ⟨γ', rfl, hS, st, rfl⟩
    exact ⟨γ', rfl, st.al, hS, rfl⟩
  rintro w h1 δ1 ⟨γ', rfl, T', st, rfl⟩
  (repeat (first | refine EK.seq ?_ | refine EK.region ?_ | refine ER.done ?_ | refine ER.move rfl rfl rfl ?_ | refine ER.assign rfl rfl rfl ?_ | refine ER.extract rfl rfl rfl rfl ?_ | refine EK.ret ?_))
  refine EU.ret1 rfl rfl ⟨γ', rfl, T', st, ?_⟩
  by_cases e : γ'.p.val b = a
  · simp [behind, e]
  · simp [behind, e]
set_option maxRecDepth 8000 in
set_option maxHeartbeats 1000000 in
theorem caddT (hX : X.Ok) (T : Thr X i γ u L h) {b : Nat} {a : Int} (hb : X.isC b) (A : Asks X i γ u ⟨4, b, a, 0⟩) : CallW Try.prog false (SitT Try.prog (PX X) (i + 1)) 128 #[ptr b, ptr (γ.p.tb i), .int .i64 a] h ⟨0, γ⟩ (RetP (Did X i γ u L ⟨4, b, a, 0⟩ (fun z => .int .i64 (IntKind.i64.wrap (z + a)))) (Halt X i γ.p)) := by
  obtain ⟨v, hv⟩ := T.celC hb
  obtain ⟨w, t, o, c, b0, n, x, y, k, hat, hrow1⟩ := T.row
  have c0 : hcell h ⟨γ.p.tb i, 0, none⟩ = some (ptr γ.p.R) := hcell_of hrow1 rfl
  have c13 : hcell h ⟨γ.p.tb i, 13, none⟩ = some (.bool false) := hcell_of hrow1 rfl
  clear hrow1 hat
  refine CallW.start (n := 34) rfl rfl ?_
  (repeat (first | refine EK.seq ?_ | refine EK.region ?_ | refine ER.done ?_ | refine ER.move rfl rfl rfl ?_ | refine ER.assign rfl rfl rfl ?_))
  refine ER.callD rfl rfl rfl rfl rfl (none_ok hv) ?_
  (repeat (first | refine EK.seq ?_ | refine EK.region ?_ | refine ER.done ?_ | refine EK.skip ?_ | refine ER.move rfl rfl rfl ?_ | refine EK.condF rfl ?_))
  refine ER.callD rfl rfl rfl rfl rfl (live_ok c0 c13) ?_
  (repeat (first | refine EK.seq ?_ | refine EK.region ?_ | refine ER.done ?_ | refine ER.move rfl rfl rfl ?_ | refine ER.nilCheck rfl rfl rfl ?_ | refine ER.fieldAddr rfl rfl rfl ?_ | refine EK.condT rfl ?_))
  refine ER.callP rfl rfl rfl rfl rfl (step_ok (r := ⟨4, b, a, 0⟩) hX T (rq_ok hb rfl (fun e => absurd e (by decide)) (fun _ => rfl)) A.Q A.J) ?_ ?_
  · rintro ps h' δ' ⟨γ', rfl, hS, st, rfl⟩
    exact ⟨γ', rfl, st.al, hS, rfl⟩
  rintro w h1 δ1 ⟨γ', rfl, T', st, rfl⟩
  (repeat (first | refine EK.seq ?_ | refine EK.region ?_ | refine ER.done ?_ | refine ER.move rfl rfl rfl ?_ | refine ER.assign rfl rfl rfl ?_ | refine ER.extract rfl rfl rfl rfl ?_ | refine EK.ret ?_))
  exact EU.ret1 rfl rfl ⟨γ', rfl, T', st, rfl⟩
end
end
section
open Go Go.TJ Go.Conc Go.Proofs
inductive Pr (A : Type) where
  | done
  | step (r : Rq) (k : Int -> Pr A)
  | emit (a : A) (k : Pr A)
inductive Goes {A : Type} (i : Nat) : Pr A -> List Ev -> List A -> Pr A -> Prop
  | nil (p : Pr A) : Goes i p [] [] p
  | emit {a : A} {k q : Pr A} {l : List Ev} {o : List A} : Goes i k l o q -> Goes i (.emit a k) l (a :: o) q
  | step {r : Rq} {k : Int -> Pr A} {q : Pr A} {l : List Ev} {o : List A} (w : Int) : Goes i (k w) l o q -> Goes i (.step r k) (evOf i r w :: l) o q
section
variable {A : Type} {i : Nat} {p : Pr A} {l : List Ev} {o : List A}
theorem Goes.access {r : Rq} {k : Int -> Pr A} (g : Goes i p l o (.step r k)) (w : Int) : Goes i p (l ++ [evOf i r w]) o (k w) := by
  generalize hq : Pr.step r k = q at g
  induction g with
  | nil p => subst hq; exact .step w (.nil _)
  | emit _ ih => exact .emit (ih hq)
  | step w' _ ih => exact .step w' (ih hq)
theorem Goes.tell {a : A} {k : Pr A} (g : Goes i p l o (.emit a k)) : Goes i p l (o ++ [a]) k := by
  generalize hq : Pr.emit a k = q at g
  induction g with
  | nil p => subst hq; exact .emit (.nil _)
  | emit _ ih => exact .emit (ih hq)
  | step w' _ ih => exact .step w' (ih hq)
theorem Goes.det {q : Pr A} (g : Goes i p l o q) : ∀ {o' : List A} {q' : Pr A}, Goes i p l o' q' -> (∀ a k, q ≠ .emit a k) -> (∀ a k, q' ≠ .emit a k) -> o' = o /\ q' = q := by
  induction g with
  | nil p =>
    intro o' q' g' hq hq'
    cases g' with
    | nil => exact ⟨rfl, rfl⟩
    | emit _ => exact absurd rfl (hq _ _)
  | emit _ ih =>
    intro o' q' g' hq hq'
    cases g' with
    | nil => exact absurd rfl (hq' _ _)
    | emit h => obtain ⟨rfl, rfl⟩ := ih h hq hq'; exact ⟨rfl, rfl⟩
  | @step r k q l o w _ ih =>
    intro o' q' g' hq hq'
    generalize he : evOf i r w :: l = l' at g'
    generalize hp : Pr.step r k = p' at g'
    cases g' with
    | nil => cases he
    | emit h => cases hp
    | step w' h =>
      injection hp with h1 h2
      subst h1 h2
      injection he with h3 h4
      subst h4
      have : w = w' := by injection h3
      subst this
      exact ih h hq hq'
end
structure Prog (X : Us) {A : Type} (P : Nat -> Pr A) (told : X.U -> Nat -> List A) : Prop where
  Q : ∀ i l s u, X.Q i l s u ↔ ∃ p, Goes i (P i) l (told u i) p /\ (match s with | .born => told u i = [] | .stands r => ∃ k, p = .step r k | .over => p = .done)
  V : ∀ i u u', X.V i u u' -> told u' i = told u i
section
variable {X : Us} {A : Type} {P : Nat -> Pr A} {told : X.U -> Nat -> List A} {i : Nat} {γ γ' : GG X} {u : X.U} {L : List (Nat × Obj)} {h : Hp}
def Res (P : Nat -> Pr A) (told : X.U -> Nat -> List A) (i : Nat) (γ : GG X) (u : X.U) (p : Pr A) : Prop := Goes i (P i) (ownOf i (γ.p.acc i).log) (told u i) p
theorem Res.asks (R : Prog X P told) {r : Rq} {k : Int -> Pr A} (x : Res P told i γ u (.step r k)) (hJ : X.J (γ.p.acc i).log u (γ.p.acc i).val) : Asks X i γ u r := ⟨(R.Q _ _ _ _).2 ⟨_, x, k, rfl⟩, hJ⟩
theorem Res.did (R : Prog X P told) {r : Rq} {k : Int -> Pr A} (x : Res P told i γ u (.step r k)) (st : Stood X i γ u r γ') : Res P told i γ' γ'.p.u (k (γ'.p.val r.b)) := by
  unfold Res
  rw [st.after, R.V _ _ _ st.V]
  exact Goes.access x _
theorem Res.over (R : Prog X P told) (x : Res P told i γ u .done) : X.Q i (ownOf i (γ.p.acc i).log) .over u := (R.Q _ _ _ _).2 ⟨_, x, rfl⟩
theorem Res.born (_R : Prog X P told) (_T : Thr X i γ γ.p.u L h) (hb : γ.p.st i = .born) (ho : ownOf i γ.p.log = []) (ht : told γ.p.u i = []) : Res P told i γ γ.p.u (P i) := by
  unfold Res
  rw [acc_born _ _ hb, ho, ht]
  exact .nil _
end
theorem eaCallP {Γ : Type} {P : Program} {main : Bool} {S : Sit Γ} {f : FuncId} {n : Nat} {k : List Item} {env : Env} {h : Hp} {δ : Ix Γ} {R : Post Γ} {ops : Array Oper} {Z : Hp -> Prop} {z : Nat} (i : Nat) {d : Nat} {x : Operand} {args : Array Operand} {ats : Array TypeId} {ty : TypeId} {pos : String} {af : Array Edge} {g : Option (Nat × Bool)} {m : Nat} {listed l' : Array Bool} {fn : Func} [hf : IsFn P f fn] {c : FuncId} {cap ws : Array Value} {vs : List Value} [HasBody P c] {Q : Value -> Hp -> Ix Γ -> Prop} {Y : List PanicEntry -> Hp -> Ix Γ -> Prop}
    (hi : ops[i]? = some ⟨some d, .call { callee := .value x, args, argTypes := ats }, ty, pos, af, g⟩) (hr : Region.ready .any ops listed = [i]) (hl : listed.setIfInBounds i true = l') (hd : Nat.blt d n = true)
    (hw : wantE ops env g = some true) (hx : ev env x = some (.func (.func c) #[] cap)) (ha : evL env args.toList = some vs) (hws : vs.toArray ++ cap = ws) (hc : CallW P main S c ws h δ (RetP Q Y)) (hY : ∀ p h' δ', Y p h' δ' -> R (.pan p) h' δ')
    (hn : ∀ v h' δ', Q v h' δ' -> Z h' /\ EA P main S f n ops Z z m l' k ((d, v) :: env) [] h' δ' R) : EA P main S f n ops Z z (m + 1) listed k env [] h δ R := by
  subst hws
  refine EA.only i hi hr hl hw fun a ka => ?_
  refine semW_call rfl (ka.eval hx) (map_ofL (fun x v hx => ka.eval hx) ha) (hc.mono ?_)
  rintro (v | p) h' δ' hq
  · exact ⟨.inr (hn v h' δ' hq).1, (hn v h' δ' hq).2 _ (ka.put v hd)⟩
  · exact fun a' ha' => WU.pan0 (ha'.trans ka.defers) hf.out (hY _ _ _ hq)
end
section
open Go Go.TJ Go.Conc Go.Proofs
structure CodX (X : Us) {A : Type} (P : Nat -> Pr A) (told : X.U -> Nat -> List A) (M : Hp -> Prop) : Prop where
  ok : X.Ok
  prog : Prog X P told
  mem : ∀ u h, X.I u h -> M h
  j : ∀ l u v, X.J l u v
section
variable {X : Us} {A : Type} {P : Nat -> Pr A} {told : X.U -> Nat -> List A} {M : Hp -> Prop} {i : Nat} {γ γ' : GG X} {u : X.U} {L : List (Nat × Obj)} {h h' : Hp}
structure AtP (X : Us) {A : Type} (P : Nat -> Pr A) (told : X.U -> Nat -> List A) (i : Nat) (γ : GG X) (u : X.U) (L : List (Nat × Obj)) (h : Hp) (p : Pr A) : Prop where
  thr : Thr X i γ u L h
  res : Res P told i γ u p
structure Nxt (X : Us) {A : Type} (P : Nat -> Pr A) (told : X.U -> Nat -> List A) (i : Nat) (γ : GG X) (u : X.U) (L : List (Nat × Obj)) (γ' : GG X) (h' : Hp) (p : Pr A) : Prop where
  al : Along X i γ.p γ'.p
  at_ : AtP X P told i γ' γ'.p.u L h' p
  V : X.V i u γ'.p.u
  len : (ownOf i (γ.p.acc i).log).length < (ownOf i (γ'.p.acc i).log).length
theorem Nxt.trans {γ1 γ2 : GG X} {h1 h2 : Hp} {p1 p2 : Pr A} (hX : X.Ok) (a : Nxt X P told i γ u L γ1 h1 p1) (b : Nxt X P told i γ1 γ1.p.u L γ2 h2 p2) : Nxt X P told i γ u L γ2 h2 p2 :=
  ⟨a.al.trans b.al, b.at_, hX.vtrans _ _ _ _ a.V b.V, Nat.lt_trans a.len b.len⟩
theorem own_le {l : List Ev} : (ownOf i l).length <= l.length := List.length_filter_le _ _
theorem AtP.len {p : Pr A} (a : AtP X P told i γ u L h p) : (ownOf i (γ.p.acc i).log).length <= 65536 := by
  have h1 : (ownOf i (γ.p.acc i).log).length <= (γ.p.acc i).log.length := own_le
  have h2 : (γ.p.acc i).log.length <= γ.p.log.length + 1 := by
    unfold PS.acc
    split
    · simp
    · omega
  have := a.thr.len
  omega
theorem Nxt.of (K : CodX X P told M) {r : Rq} {k : Int -> Pr A} {h' : Hp} (a : AtP X P told i γ u L h (.step r k)) (T : Thr X i γ' γ'.p.u L h') (st : Stood X i γ u r γ') : Nxt X P told i γ u L γ' h' (k (γ'.p.val r.b)) /\ M h' :=
  ⟨⟨st.al, ⟨T, a.res.did K.prog st⟩, st.V, by rw [st.after]; simp⟩, K.mem _ _ T.I⟩
theorem loadC (K : CodX X P told M) {b : Nat} {k : Int -> Pr A} (a : AtP X P told i γ u L h (.step ⟨1, b, 0, 0⟩ k)) (hb : X.isC b) {t : Nat} (ht : t = γ.p.tb i) : CallW Try.prog false (SitT Try.prog (PX X) (i + 1)) 97 #[ptr b, ptr t] h ⟨0, γ⟩ (RetP (fun w h' δ' => ∃ γ' : GG X, δ' = ⟨0, γ'⟩ /\ w = .int .i64 (γ'.p.val b) /\ Nxt X P told i γ u L γ' h' (k (γ'.p.val b)) /\ M h') (Halt X i γ.p)) := by
  subst ht
  refine (cloadT K.ok a.thr hb (a.res.asks K.prog (K.j _ _ _))).conseqP ?_
  rintro w h' δ' ⟨γ', rfl, T, st, rfl⟩
  obtain ⟨x, y⟩ := Nxt.of K a T st
  exact ⟨γ', rfl, rfl, x, y⟩
theorem casC (K : CodX X P told M) {b : Nat} {v c : Int} {k : Int -> Pr A} (a : AtP X P told i γ u L h (.step ⟨3, b, v, c⟩ k)) (hb : X.isC b) {t : Nat} (ht : t = γ.p.tb i) : CallW Try.prog false (SitT Try.prog (PX X) (i + 1)) 106 #[ptr b, ptr t, .int .i64 v, .int .i64 c] h ⟨0, γ⟩ (RetP (fun w h' δ' => ∃ γ' : GG X, δ' = ⟨0, γ'⟩ /\ w = .bool (decide (γ'.p.val b = v)) /\ Nxt X P told i γ u L γ' h' (k (γ'.p.val b)) /\ M h') (Halt X i γ.p)) := by
  subst ht
  refine (ccasT K.ok a.thr hb (a.res.asks K.prog (K.j _ _ _))).conseqP ?_
  rintro w h' δ' ⟨γ', rfl, T, st, rfl⟩
  obtain ⟨x, y⟩ := Nxt.of K a T st
  exact ⟨γ', rfl, rfl, x, y⟩
theorem addC (K : CodX X P told M) {b : Nat} {v : Int} {k : Int -> Pr A} (a : AtP X P told i γ u L h (.step ⟨4, b, v, 0⟩ k)) (hb : X.isC b) {t : Nat} (ht : t = γ.p.tb i) : CallW Try.prog false (SitT Try.prog (PX X) (i + 1)) 128 #[ptr b, ptr t, .int .i64 v] h ⟨0, γ⟩ (RetP (fun w h' δ' => ∃ γ' : GG X, δ' = ⟨0, γ'⟩ /\ w = .int .i64 (IntKind.i64.wrap (γ'.p.val b + v)) /\ Nxt X P told i γ u L γ' h' (k (γ'.p.val b)) /\ M h') (Halt X i γ.p)) := by
  subst ht
  refine (caddT K.ok a.thr hb (a.res.asks K.prog (K.j _ _ _))).conseqP ?_
  rintro w h' δ' ⟨γ', rfl, T, st, rfl⟩
  obtain ⟨x, y⟩ := Nxt.of K a T st
  exact ⟨γ', rfl, rfl, x, y⟩
structure CallP (X : Us) {A : Type} (P : Nat -> Pr A) (told : X.U -> Nat -> List A) (i : Nat) (γ : GG X) (u : X.U) (L : List (Nat × Obj)) (γ' : GG X) (u' : X.U) (h' : Hp) (p : Pr A) : Prop where
  al : Along X i γ.p γ'.p
  at_ : AtP X P told i γ' u' L h' p
  V : X.V i u u'
theorem Thr.privs (T : Thr X i γ u L h) : (∀ q, q ∈ L -> h[q.1]? = some q.2 /\ ¬ X.Dom u q.1) /\ ∀ b, X.Dom u b -> b < h.size := by
  obtain ⟨s, M, g⟩ := T.gi
  have hn : i < ({ γ.p.acc i with u := u, prv := ut (γ.p.acc i).prv i L } : PS X.U).num := by show i < (γ.p.acc i).num; rw [(acc_same γ.p i).2.2.1]; exact T.lt
  refine ⟨fun q hq => ?_, fun b hb => (g.dom b hb).1⟩
  have := g.prv i hn q (by show q ∈ ut (γ.p.acc i).prv i L i; rw [ut_same]; exact hq)
  exact ⟨this.1, this.2.2.2.2⟩
theorem Thr.priv {L' : List (Nat × Obj)} (hX : X.Ok) (T : Thr X i γ u L h) (hu : Upd (fun b => ∃ q, q ∈ L /\ q.1 = b) h h') (h2 : ∀ q, q ∈ L' -> h'[q.1]? = some q.2 /\ ∃ q0, q0 ∈ L /\ q0.1 = q.1) : Thr X i γ u L' h' := by
  obtain ⟨p1, p3⟩ := T.privs
  refine T.user hX (u' := u) (L' := L') (hu.mono fun b _ e => .inr e) (fun b hb => ⟨.inl hb, Nat.lt_of_lt_of_le (p3 b hb) hu.size⟩) (fun q hq => ?_) (hX.loc _ _ _ (fun b hb => hu.2 b (p3 b hb) (fun ⟨q, hq, e⟩ => (p1 q hq).2 (e ▸ hb))) T.I) (fun x _ => hX.vrefl _ _)
  obtain ⟨y1, q0, hq0, e⟩ := h2 q hq
  exact ⟨y1, .inl ⟨q0, hq0, e⟩, by rw [<- e]; exact (p1 q0 hq0).2⟩
theorem Thr.priv1 {y : Nat} {o0 o : Obj} (hX : X.Ok) (T : Thr X i γ u ((y, o0) :: L) h) (hn : ∀ q, q ∈ L -> q.1 ≠ y) : Thr X i γ u ((y, o) :: L) (h.setIfInBounds y o) := by
  refine T.priv hX (Upd.set _ _ _ ⟨_, List.mem_cons_self, rfl⟩) fun q hq => ?_
  rcases List.mem_cons.1 hq with rfl | hq
  · exact ⟨get_set_same (T.privs.1 _ List.mem_cons_self).1, _, List.mem_cons_self, rfl⟩
  · exact ⟨by rw [get_set_ne _ (Ne.symm (hn q hq))]; exact (T.privs.1 q (List.mem_cons_of_mem _ hq)).1, q, List.mem_cons_of_mem _ hq, rfl⟩
theorem Thr.sub {L' : List (Nat × Obj)} (hX : X.Ok) (T : Thr X i γ u L h) (hs : ∀ q, q ∈ L' -> q ∈ L) : Thr X i γ u L' h :=
  T.priv hX (Upd.refl _ _) fun q hq => ⟨(T.privs.1 q (hs q hq)).1, q, hs q hq, rfl⟩
end
end
section
open Go Go.TJ Go.Conc Go.Proofs
abbrev Xs := Int × Int × Int × Bool
abbrev stgL (c0 p0 k0 T n : Nat) (x : Xs) : List Value := [ptr c0, ptr p0, ptr k0, .slice (some ⟨T, 0, none⟩) n n, .int .i64 x.1, .int .i64 x.2.1, .int .i64 x.2.2.1, .bool x.2.2.2]
abbrev stgO (c0 p0 k0 T n : Nat) (x : Xs) : Obj := .cells (stgL c0 p0 k0 T n x).toArray 126 (0, 0)
structure TC (A : Type) where
  n : Nat
  hN : Hp
  isC : Nat -> Prop
  ex : Nat -> Prop
  T : Nat
  S0 : Nat
  c0 : Nat
  p0 : Nat
  k0 : Nat
  tS : TypeId
  e : TypeId
  sz : Nat
  enc : A -> List Value
  J : List Ev -> (Nat -> List A) -> (Nat -> Int) -> Prop
  P : Nat -> Pr A
def TC.old {A : Type} (c : TC A) (b : Nat) : Prop := b < c.hN.size /\ ¬ c.isC b /\ ¬ c.ex b
structure ToldI {A : Type} (c : TC A) (U : (Nat -> List A × Value) × Xs) (h : Hp) : Prop where
  old : ∀ b, c.old b -> b ≠ c.T -> b ≠ c.S0 -> h[b]? = c.hN[b]?
  st : h[c.S0]? = some (stgO c.c0 c.p0 c.k0 c.T c.n U.2)
  out : h[c.T]? = some (.cells ((List.range c.n).map fun i => (U.1 i).2).toArray c.tS (0, 0))
  inn : ∀ i, i < c.n -> SliceO h (U.1 i).2 c.e c.sz (U.1 i).1.length ((U.1 i).1.flatMap c.enc)
  new : ∀ i b, i < c.n -> blk (U.1 i).2 = some b -> ¬ c.old b /\ ¬ c.isC b
  inj : ∀ i j b, i < c.n -> j < c.n -> blk (U.1 i).2 = some b -> blk (U.1 j).2 = some b -> i = j
def UsT {A : Type} (c : TC A) : Us where
  U := (Nat -> List A × Value) × Xs
  isC := c.isC
  Dom := fun u b => c.old b \/ (¬ c.isC b /\ ∃ i, i < c.n /\ blk (u.1 i).2 = some b)
  I := ToldI c
  J := fun l u v => c.J l (fun i => (u.1 i).1) v
  V := fun i u u' => u'.1 i = u.1 i
  Q := fun i l s u => ∃ p, Goes i (c.P i) l (u.1 i).1 p /\ (match s with | .born => (u.1 i).1 = [] | .stands r => ∃ k, p = .step r k | .over => p = .done)
section
variable {A : Type} {c : TC A} {u : (Nat -> List A × Value) × Xs} {h h' : Hp} {i : Nat} {a : A}
theorem SliceO.same {h h' : Hp} {s : Value} {e sz n : Nat} {cells : List Value} (x : SliceO h s e sz n cells) (hb : ∀ b, blk s = some b -> h'[b]? = h[b]?) : SliceO h' s e sz n cells := by
  refine ⟨x.1, x.2.imp id ?_⟩
  rintro ⟨b, cap, rest, rfl, h1, h2, h3⟩
  exact ⟨b, cap, rest, rfl, h1, h2, (hb b rfl).trans h3⟩
theorem ToldI.loc (ok : c.old c.T) (ok2 : c.old c.S0) (hb : ∀ b, (UsT c).Dom u b -> h'[b]? = h[b]?) (I : ToldI c u h) : ToldI c u h' :=
  ⟨fun b h1 h4 h5 => (hb b (.inl h1)).trans (I.old b h1 h4 h5), (hb _ (.inl ok2)).trans I.st, (hb _ (.inl ok)).trans I.out, fun i hi => SliceO.same (I.inn i hi) fun b hbb => hb b (.inr ⟨(I.new i b hi hbb).2, i, hi, hbb⟩), I.new, I.inj⟩
theorem usT_ok (ok : c.old c.T) (ok2 : c.old c.S0) : (UsT c).Ok where
  vrefl := fun _ _ => rfl
  vtrans := fun i a b d h1 h2 => (show d.1 i = b.1 i from h2).trans h1
  loc := fun u h h' hb I => ToldI.loc ok ok2 hb I
  stab := fun i l s u u' hv hq => by
    have hv' : u'.1 i = u.1 i := hv
    show ∃ p, Goes i (c.P i) l (u'.1 i).1 p /\ _
    rw [hv']
    exact hq
  dis := fun u b hd hc => hd.elim (fun y => y.2.1 hc) fun y => y.1 hc
theorem usT_prog : Prog (UsT c) c.P (fun u i => (u.1 i).1) where
  Q := fun _ _ _ _ => Iff.rfl
  V := fun i u u' hv => by rw [show u'.1 i = u.1 i from hv]
theorem map_range_set {n i : Nat} (hi : i < n) (f : Nat -> Value) (x : Value) : ((List.range n).map fun j => if j = i then x else f j) = ((List.range n).map f).set i x := by
  refine List.ext_getElem? fun j => ?_
  by_cases e : j = i
  · subst e
    rw [List.getElem?_set_self (by simpa using hi)]
    simp [hi]
  · rw [List.getElem?_set_ne (Ne.symm e)]
    simp only [List.getElem?_map]
    rcases Nat.lt_or_ge j n with y | y
    · simp [y, e]
    · simp [y]
theorem ToldI.oldlt (I : ToldI c u h) {b : Nat} (hb : c.old b) : b < h.size := by
  by_cases e : b = c.T
  · rw [e]; exact lt_of_get I.out
  · by_cases e2 : b = c.S0
    · rw [e2]; exact lt_of_get I.st
    · have := I.old b hb e e2
      rw [Array.getElem?_eq_getElem hb.1] at this
      exact lt_of_get this
theorem ToldI.stg (I : ToldI c u h) (ok2 : c.old c.S0) (hTS : c.T ≠ c.S0) (x : Xs) : ToldI c (u.1, x) (h.setIfInBounds c.S0 (stgO c.c0 c.p0 c.k0 c.T c.n x)) := by
  have hne : ∀ i b, i < c.n -> blk (u.1 i).2 = some b -> b ≠ c.S0 := fun i b hi hb e => (I.new i b hi hb).1 (e ▸ ok2)
  refine ⟨fun b h1 h4 h5 => ?_, get_set_same I.st, ?_, fun i hi => (I.inn i hi).upd (Upd.set (T := fun b => b = c.S0) _ _ _ rfl) (fun b hb e => hne i b hi hb e), I.new, I.inj⟩
  · rw [get_set_ne _ (Ne.symm h5)]; exact I.old b h1 h4 h5
  · rw [get_set_ne _ (Ne.symm hTS)]; exact I.out
theorem ToldI.tell (ok : c.old c.T) (ok2 : c.old c.S0) (hTS : c.T ≠ c.S0) (I : ToldI c u h) (hi : i < c.n) {h1 : Hp} {s' : Value} (hC : ∀ b, c.isC b -> b < h.size) (up : Upd (fun b => blk (u.1 i).2 = some b) h h1) (sl : SliceO h1 s' c.e c.sz ((u.1 i).1.length + 1) ((u.1 i).1.flatMap c.enc ++ c.enc a))
    (hb : ∀ b, blk s' = some b -> blk (u.1 i).2 = some b \/ h.size <= b) : ToldI c (ut u.1 i ((u.1 i).1 ++ [a], s'), u.2) (hset h1 ⟨c.T, 0 + i * 1, none⟩ s') := by
  have hTn : ∀ j b, j < c.n -> blk (u.1 j).2 = some b -> b ≠ c.T := fun j b hj hbb e => (I.new j b hj hbb).1 (e ▸ ok)
  have o1 := up.get I.out (fun x => hTn i _ hi x rfl)
  have e1 : hset h1 ⟨c.T, 0 + i * 1, none⟩ s' = h1.setIfInBounds c.T (.cells (((List.range c.n).map fun j => (u.1 j).2).toArray.setIfInBounds (0 + i * 1) s') c.tS (0, 0)) := hset_block o1 _
  rw [e1]
  have u2 : Upd (fun b => b = c.T) h1 (h1.setIfInBounds c.T (.cells (((List.range c.n).map fun j => (u.1 j).2).toArray.setIfInBounds (0 + i * 1) s') c.tS (0, 0))) := Upd.set _ _ _ rfl
  have hs' : ∀ b, blk s' = some b -> ¬ c.old b /\ ¬ c.isC b := fun b hbb => by
    rcases hb b hbb with y | y
    · exact I.new i b hi y
    · exact ⟨fun z => by have := I.oldlt z; omega, fun z => by have := hC b z; omega⟩
  have hs2 : ∀ b, blk s' = some b -> b ≠ c.T := fun b hbb e => (hs' b hbb).1 (e ▸ ok)
  refine ⟨fun b h1' h4 h5 => ?_, ?_, ?_, fun j hj => ?_, fun j b hj hbb => ?_, fun j k b hj hk hbj hbk => ?_⟩
  · rw [get_set_ne _ (Ne.symm h4), up.2 b (I.oldlt h1') (fun x => (I.new i b hi x).1 h1')]
    exact I.old b h1' h4 h5
  · rw [get_set_ne _ hTS]
    exact up.get I.st (fun x => (I.new i _ hi x).1 ok2)
  · rw [get_set_same o1]
    congr 2
    have e2 : ((List.range c.n).map fun j => (ut u.1 i ((u.1 i).1 ++ [a], s') j).2) = ((List.range c.n).map fun j => (u.1 j).2).set i s' := by
      rw [<- map_range_set hi]
      refine List.map_congr_left fun j _ => ?_
      by_cases e : j = i
      · subst e; rw [ut_same, if_pos rfl]
      · rw [ut_ne _ _ e, if_neg e]
    rw [e2]
    simp
  · dsimp only
    by_cases e : j = i
    · subst e
      rw [ut_same]
      have := sl.upd u2 (fun b hbb e => hs2 b hbb e)
      simp only [List.length_append, List.length_singleton, List.flatMap_append, List.flatMap_cons, List.flatMap_nil, List.append_nil]
      exact this
    · rw [ut_ne _ _ e]
      refine ((I.inn j hj).upd up (fun b hbj hbi => e (I.inj j i b hj hi hbj hbi))).upd u2 (fun b hbj e' => hTn j b hj hbj e')
  · dsimp only at hbb
    by_cases e : j = i
    · subst e; rw [ut_same] at hbb; exact hs' b hbb
    · rw [ut_ne _ _ e] at hbb; exact I.new j b hj hbb
  · have key : ∀ k b, k < c.n -> k ≠ i -> blk s' = some b -> blk (u.1 k).2 = some b -> False := fun k b hk hne h1' h2 => by
      rcases hb b h1' with y | y
      · exact hne (I.inj k i b hk hi h2 y)
      · have := (I.inn k hk).lt h2
        omega
    dsimp only at hbj hbk
    by_cases ej : j = i <;> by_cases ek : k = i
    · omega
    · subst ej
      rw [ut_same] at hbj; rw [ut_ne _ _ ek] at hbk
      exact (key k b hk ek hbj hbk).elim
    · subst ek
      rw [ut_same] at hbk; rw [ut_ne _ _ ej] at hbj
      exact (key j b hj ej hbk hbj).elim
    · rw [ut_ne _ _ ej] at hbj; rw [ut_ne _ _ ek] at hbk
      exact I.inj j k b hj hk hbj hbk
section
variable {γ : GG (UsT c)} {L : List (Nat × Obj)}
theorem Thr.cl (T : Thr (UsT c) i γ u L h) : ∀ b, c.isC b -> b < h.size := fun b hb => by
  obtain ⟨s, M, g⟩ := T.gi
  exact lt_of_get (g.cel b hb).1
theorem Thr.tell (ok : c.old c.T) (ok2 : c.old c.S0) (hTS : c.T ≠ c.S0) (T : Thr (UsT c) i γ u [] h) (hi : i < c.n) {h1 : Hp} {s' : Value} (up : Upd (fun b => blk (u.1 i).2 = some b) h h1) (sl : SliceO h1 s' c.e c.sz ((u.1 i).1.length + 1) ((u.1 i).1.flatMap c.enc ++ c.enc a))
    (hb : ∀ b, blk s' = some b -> blk (u.1 i).2 = some b \/ h.size <= b) : Thr (UsT c) i γ (ut u.1 i ((u.1 i).1 ++ [a], s'), u.2) [] (hset h1 ⟨c.T, 0 + i * 1, none⟩ s') := by
  have I : ToldI c u h := T.I
  have I2 := I.tell ok ok2 hTS hi T.cl up sl hb
  have oT : (hset h1 ⟨c.T, 0 + i * 1, none⟩ s').size = h1.size := by rw [hset_size]
  refine T.user (usT_ok ok ok2) (u' := (ut u.1 i ((u.1 i).1 ++ [a], s'), u.2)) (L' := []) ((up.mono (fun b _ x => Or.inl (Or.inr ⟨(I.new i b hi x).2, i, hi, x⟩))).trans (Upd.hset (T := fun b => (UsT c).Dom u b \/ ∃ q, q ∈ ([] : List (Nat × Obj)) /\ q.1 = b) h1 ⟨c.T, 0 + i * 1, none⟩ s' (.inl (.inl ok)))) ?_ (fun q hq => by cases hq) I2 (fun x hx => ut_ne _ _ hx)
  rintro b (y | ⟨y1, j, hj, y2⟩)
  · refine ⟨.inl (.inl y), ?_⟩
    have := I.oldlt y
    have := up.size
    omega
  · dsimp only at y2
    by_cases e : j = i
    · subst e
      rw [ut_same] at y2
      refine ⟨?_, by rw [oT]; exact sl.lt y2⟩
      rcases hb b y2 with z | z
      · exact .inl (.inr ⟨y1, j, hj, z⟩)
      · exact .inr z
    · rw [ut_ne _ _ e] at y2
      refine ⟨.inl (.inr ⟨y1, j, hj, y2⟩), ?_⟩
      have := (I.inn j hj).lt y2
      have := up.size
      omega
theorem Thr.stg {h' : Hp} (ok : c.old c.T) (ok2 : c.old c.S0) (hTS : c.T ≠ c.S0) (T : Thr (UsT c) i γ u L h) (x : Xs) (hh : h' = h.setIfInBounds c.S0 (stgO c.c0 c.p0 c.k0 c.T c.n x)) : Thr (UsT c) i γ (u.1, x) L h' := by
  subst hh
  have I : ToldI c u h := T.I
  let u' : (UsT c).U := (u.1, x)
  have I2 : (UsT c).I u' (h.setIfInBounds c.S0 (stgO c.c0 c.p0 c.k0 c.T c.n x)) := I.stg ok2 hTS x
  show Thr (UsT c) i γ u' L _
  obtain ⟨s, M, g⟩ := T.gi
  have hn : i < ({ γ.p.acc i with u := u, prv := ut (γ.p.acc i).prv i L } : PS (UsT c).U).num := by show i < (γ.p.acc i).num; rw [(acc_same γ.p i).2.2.1]; exact T.lt
  refine T.user (usT_ok ok ok2) (u' := u') (L' := L) (Upd.set _ _ _ (.inl (.inl ok2))) (fun b hb => ⟨.inl hb, by rw [Array.size_setIfInBounds]; exact (g.dom b hb).1⟩) (fun q hq => ?_) I2 (fun _ _ => (rfl : u.1 _ = u.1 _))
  have := g.prv i hn q (by show q ∈ ut (γ.p.acc i).prv i L i; rw [ut_same]; exact hq)
  refine ⟨?_, .inl ⟨q, hq, rfl⟩, this.2.2.2.2⟩
  rw [get_set_ne _ (show c.S0 ≠ q.1 from fun e => this.2.2.2.2 (.inl (e ▸ ok2)))]
  exact this.1
end
end
end
section
open Go Go.TJ Go.Conc Go.Proofs
def numsA (acc : List Nat) (l : List Ev) : List Nat := l.foldl (fun a e => if e.b ∈ a then a else a ++ [e.b]) acc
theorem numsA_pre : ∀ (l : List Ev) (acc : List Nat), ∃ s, numsA acc l = acc ++ s
  | [], acc => ⟨[], by simp [numsA]⟩
  | e :: l, acc => by
    by_cases h : e.b ∈ acc
    · obtain ⟨s, hs⟩ := numsA_pre l acc
      exact ⟨s, by unfold numsA at hs ⊢; rw [List.foldl_cons, if_pos h]; exact hs⟩
    · obtain ⟨s, hs⟩ := numsA_pre l (acc ++ [e.b])
      exact ⟨e.b :: s, by unfold numsA at hs ⊢; rw [List.foldl_cons, if_neg h, hs]; simp⟩
theorem nums_app (l l' : List Ev) : ∃ s, nums (l ++ l') = nums l ++ s := by
  obtain ⟨s, hs⟩ := numsA_pre l' (nums l)
  exact ⟨s, by unfold nums at hs ⊢; rw [List.foldl_append]; exact hs⟩
theorem numsA_nodup : ∀ (l : List Ev) (acc : List Nat), acc.Nodup -> (numsA acc l).Nodup
  | [], acc, h => h
  | e :: l, acc, h => by
    unfold numsA
    rw [List.foldl_cons]
    by_cases he : e.b ∈ acc
    · rw [if_pos he]; exact numsA_nodup l acc h
    · rw [if_neg he]
      refine numsA_nodup l _ (List.nodup_append.2 ⟨h, by simp, fun a ha b hb => ?_⟩)
      rw [List.mem_singleton.1 hb]
      exact fun e' => he (e' ▸ ha)
theorem nums_nodup (l : List Ev) : (nums l).Nodup := numsA_nodup l [] List.nodup_nil
theorem take_mid {α : Type} {l : List α} {k : Nat} {a : α} (h : l[k]? = some a) : l.take (k + 1) = l.take k ++ [a] /\ l = l.take (k + 1) ++ l.drop (k + 1) /\ k < l.length := by
  have hk : k < l.length := by
    rcases Nat.lt_or_ge k l.length with y | y
    · exact y
    · rw [List.getElem?_eq_none y] at h; cases h
  refine ⟨?_, (List.take_append_drop _ _).symm, hk⟩
  rw [List.take_add_one, h]; rfl
theorem idx_at {l : List Ev} {k : Nat} {e : Ev} (h : l[k]? = some e) : (nums l).idxOf e.b = (nums (l.take (k + 1))).idxOf e.b /\ (nums l).idxOf e.b < (nums (l.take (k + 1))).length /\ (nums (l.take (k + 1)))[(nums l).idxOf e.b]? = some e.b /\
    ((e.b ∈ nums (l.take k) /\ nums (l.take (k + 1)) = nums (l.take k) /\ (nums l).idxOf e.b < (nums (l.take k)).length) \/ (e.b ∉ nums (l.take k) /\ nums (l.take (k + 1)) = nums (l.take k) ++ [e.b] /\ (nums l).idxOf e.b = (nums (l.take k)).length)) := by
  obtain ⟨h1, h2, h3⟩ := take_mid h
  have hm : e.b ∈ nums (l.take (k + 1)) := (nums_mem _ _).2 ⟨e, by rw [h1]; simp, rfl⟩
  obtain ⟨s, hs⟩ := nums_app (l.take (k + 1)) (l.drop (k + 1))
  rw [<- h2] at hs
  have e1 : (nums l).idxOf e.b = (nums (l.take (k + 1))).idxOf e.b := by rw [hs]; exact idxOf_app hm s
  have hlt := List.idxOf_lt_length_iff.2 hm
  refine ⟨e1, e1 ▸ hlt, ?_, ?_⟩
  · rw [e1, List.getElem?_eq_getElem hlt]; simp
  · by_cases hc : e.b ∈ nums (l.take k)
    · left
      have e2 : nums (l.take (k + 1)) = nums (l.take k) := by rw [h1, nums_snoc, if_pos hc]
      refine ⟨hc, e2, ?_⟩
      rw [e1, e2]; exact List.idxOf_lt_length_iff.2 hc
    · right
      have e2 : nums (l.take (k + 1)) = nums (l.take k) ++ [e.b] := by rw [h1, nums_snoc, if_neg hc]
      refine ⟨hc, e2, ?_⟩
      rw [e1, e2, List.idxOf_append, if_neg hc]
      simp
theorem map_ut {f : Nat -> Int} {b : Nat} {x : Int} {F : Int -> Value} : ∀ {l : List Nat}, l.Nodup -> b ∈ l -> (l.map fun c => F (ut f b x c)) = (l.map fun c => F (f c)).set (l.idxOf b) (F x)
  | [], _, h => by cases h
  | a :: l, hn, h => by
    obtain ⟨h1, h2⟩ := List.nodup_cons.1 hn
    by_cases e : a = b
    · subst e
      have : (l.map fun c => F (ut f a x c)) = l.map fun c => F (f c) := List.map_congr_left fun c hc => by rw [ut_ne _ _ (fun e : c = a => h1 (by rw [<- e]; exact hc))]
      simp [this, ut_same]
    · have hb : b ∈ l := (List.mem_cons.1 h).resolve_left (Ne.symm e)
      have e' : (a == b) = false := by simpa using e
      simp only [List.map_cons, List.idxOf_cons, e', cond_false, List.set_cons_succ, ut_ne _ _ e]
      rw [map_ut h2 hb]
section
variable {X : Us} {v0 v v' : Nat -> Int} {l : List Ev}
theorem Chain.inv (c : Chain X v0 l v) {k : Nat} {e : Ev} (h : l[k]? = some e) : ∃ (w : Nat -> Int) (i : Nat) (r : Rq), Chain X v0 (l.take k) w /\ RqOk X r /\ e = evOf i r (w r.b) /\ Chain X v0 (l.take (k + 1)) (ut w r.b (behind r.op (w r.b) r.arg r.new).1) := by
  induction c with
  | nil => cases h
  | @snoc l v i r c hr ih =>
    rcases Nat.lt_trichotomy k l.length with y | y | y
    · rw [List.getElem?_append_left y] at h
      rw [List.take_append_of_le_length (by omega), List.take_append_of_le_length (by omega)]
      exact ih h
    · subst y
      rw [List.getElem?_append_right (Nat.le_refl _), Nat.sub_self] at h
      obtain rfl : evOf i r (v r.b) = e := by simpa using h
      rw [List.take_left, List.take_of_length_le (by simp)]
      exact ⟨v, i, r, c, hr, rfl, .snoc i r c hr⟩
    · rw [List.getElem?_eq_none (by simp; omega)] at h; cases h
theorem Chain.det (c : Chain X v0 l v) : ∀ {v'}, Chain X v0 l v' -> v' = v := by
  induction c with
  | nil =>
    intro v' c'
    generalize hl : ([] : List Ev) = l' at c'
    cases c' with
    | nil => rfl
    | snoc => simp at hl
  | @snoc l v i r c hr ih =>
    intro v' c'
    generalize hl : l ++ [evOf i r (v r.b)] = l' at c'
    cases c' with
    | nil => simp at hl
    | @snoc l2 w i2 r2 c2 hr2 =>
      obtain ⟨h1, h2⟩ := List.append_inj' hl rfl
      subst h1
      have := ih c2
      subst this
      have h3 : evOf i r (w r.b) = evOf i2 r2 (w r2.b) := by simpa using h2
      have hb : r.b = r2.b := congrArg Ev.b h3
      have ho : r.op = r2.op := congrArg Ev.op h3
      have ha : r.arg = r2.arg := congrArg Ev.arg h3
      have hn : r.new = r2.new := congrArg Ev.new h3
      rw [hb, ho, ha, hn]
theorem Chain.first (c : Chain X v0 l v) {b : Nat} (h : b ∉ nums l) : v b = v0 b := by
  induction c with
  | nil => rfl
  | @snoc l v i r c hr ih =>
    rw [nums_snoc] at h
    have hb : b ≠ r.b := fun e => by
      subst e
      split at h
      · rename_i y; exact h y
      · exact h (by simp [evOf])
    rw [ut_ne _ _ hb]
    refine ih fun y => h ?_
    split
    · exact y
    · exact List.mem_append_left _ y
theorem Chain.cell (c : Chain X v0 l v) {b : Nat} (h : b ∈ nums l) : X.isC b := by
  induction c with
  | nil => cases h
  | @snoc l v i r c hr ih =>
    rw [nums_snoc] at h
    split at h
    · exact ih h
    · rcases List.mem_append.1 h with y | y
      · exact ih y
      · rw [List.mem_singleton.1 y]; exact hr.cell
end
structure Rec where
  nb : Nat
  most : Nat
  e : Int
  log : List Ev
  rdy : List Nat
  left : List (Nat × Rq)
  v0 : Nat -> Int
  val : Nat -> Int
def Rec.alive (R : Rec) (k : Nat) : List Nat := (List.range R.nb).filter (fun j => R.left.any (fun q => q.1 == j) || (R.log.drop k).any (fun e => e.thr == j))
structure RecOk (X : Us) (picks : List Int) (R : Rec) : Prop where
  nb : R.nb <= 64
  most : R.most <= 65536
  len : R.log.length <= R.most
  rdy : R.rdy.length = R.log.length
  chain : Chain X R.v0 R.log R.val
  left : ∀ q, q ∈ R.left -> q.1 < R.nb /\ RqOk X q.2
  rise : R.left.Pairwise fun a b => a.1 < b.1
  turns : ∀ (k : Nat) (e : Ev), R.log[k]? = some e -> R.rdy[k]? = some (R.alive k).length /\ e.thr = pickOf picks ((R.log.take k).map (·.thr)) (R.alive k) /\ e.thr ∈ R.alive k
  how : (R.e = 1 /\ R.left = []) \/ (R.e = 2 /\ R.left ≠ [] /\ R.log.length = R.most)
def leftE (ns : List Nat) (v : Nat -> Int) (q : Nat × Rq) : List Value := accL q.1 q.2.op (if q.2.b ∈ ns then (ns.idxOf q.2.b : Int) else -1) q.2.arg q.2.new (v q.2.b) (v q.2.b) false
structure RdS (h : Hp) (s : Value) (vs : List Value) : Prop where
  val : ∃ a k, s = .slice a vs.length k
  cell : ∀ i v, vs[i]? = some v -> ∃ b o k, s = .slice (some ⟨b, o, none⟩) vs.length k /\ TJ.hcell h ⟨b, o + i * 1, none⟩ = some v
theorem RdS.lt {h : Hp} {s : Value} {vs : List Value} (x : RdS h s vs) (hn : vs ≠ []) : ∀ b, blk s = some b -> b < h.size := by
  intro b hb
  cases vs with
  | nil => exact absurd rfl hn
  | cons v vs =>
    obtain ⟨b', o, k, e, hc⟩ := x.cell 0 v rfl
    rw [e] at hb
    cases hb
    obtain ⟨c, e', f, h1, -⟩ := hcell_some hc
    exact lt_of_get h1
theorem RdS.upd {h h' : Hp} {s : Value} {vs : List Value} (x : RdS h s vs) {T : Nat -> Prop} (u : Upd T h h') (hT : vs ≠ [] -> ∀ b, blk s = some b -> ¬ T b) : RdS h' s vs := by
  refine ⟨x.val, fun i v hv => ?_⟩
  obtain ⟨b, o, k, e, hc⟩ := x.cell i v hv
  refine ⟨b, o, k, e, u.hcell hc (hT (fun y => by rw [y] at hv; cases hv) b (by rw [e]; rfl))⟩
structure RecM (R : Rec) (picks : List Int) (lL lW lY lV sP : Value) (h : Hp) : Prop where
  log : SliceO h lL 75 8 R.log.length (R.log.flatMap (entL (nums R.log)))
  went : SliceO h lW 3 1 (R.log.map (·.thr)).length ((R.log.map (·.thr)).map fun (n : Nat) => Value.int .i64 (n : Int))
  rdy : SliceO h lY 3 1 R.rdy.length (R.rdy.map fun (n : Nat) => Value.int .i64 (n : Int))
  left : SliceO h lV 75 8 R.left.length (R.left.flatMap (leftE (nums R.log) R.val))
  picks : RdS h sP (picks.map fun x => .int .i64 x)
theorem RecM.upd {R : Rec} {picks : List Int} {lL lW lY lV sP : Value} {h h' : Hp} (m : RecM R picks lL lW lY lV sP h) (u : Upd (fun _ => False) h h') : RecM R picks lL lW lY lV sP h' :=
  ⟨m.log.upd u (fun _ _ x => x), m.went.upd u (fun _ _ x => x), m.rdy.upd u (fun _ _ x => x), m.left.upd u (fun _ _ x => x), m.picks.upd u (fun _ _ _ x => x)⟩
def rqOf : Ph -> Rq
  | .stands r => r
  | _ => ⟨0, 0, 0, 0⟩
def recOf {U : Type} (p : PS U) (v0 : Nat -> Int) (nb most : Nat) (e : Int) : Rec := ⟨nb, most, e, p.log, p.rdy, (p.live nb).map fun j => (j, rqOf (p.st j)), v0, p.val⟩
theorem recOf_alive {U : Type} {p : PS U} {v0 : Nat -> Int} {nb most : Nat} {e : Int} (hn : p.num = nb) (k : Nat) : (recOf p v0 nb most e).alive k = aliveAt p k := by
  unfold Rec.alive aliveAt recOf
  rw [hn]
  refine List.filter_congr fun j hj => ?_
  have hj' : j < nb := List.mem_range.1 hj
  have : (List.map (fun j => (j, rqOf (p.st j))) (p.live nb)).any (fun q => q.1 == j) = !p.gone j := by
    rw [List.any_map]
    cases hg : p.gone j
    · refine List.any_eq_true.2 ⟨j, mem_live.2 ⟨hj', hg⟩, by simp⟩
    · refine List.any_eq_false.2 fun x hx => ?_
      obtain ⟨_, hx2⟩ := mem_live.1 hx
      have : x ≠ j := fun e => by rw [e, hg] at hx2; cases hx2
      simpa using this
  dsimp only
  rw [this]
theorem Ended.record {X : Us} {v0 : Nat -> Int} {picks : List Int} {nb most : Nat} {p : PS X.U} {e : Int} {lL lW lY lV _sP : Value} {h : Hp} (E : Ended X v0 picks nb most p e lL lW lY lV h) (hnb : nb <= 64) (hm : most <= 65536) : RecOk X picks (recOf p v0 nb most e) := by
  have rg := E.reg
  have hlen : p.log.length <= most := by
    rcases E.how with ⟨-, -, h⟩ | ⟨-, -, h⟩
    · exact h
    · exact Nat.le_of_eq h
  have st : ∀ j, j < nb -> p.gone j = false -> ∃ r, p.st j = .stands r /\ RqOk X r := fun j hj hg => by
    rcases rg.alive j hj with ⟨_, r, h1, h2⟩ | ⟨h1, _⟩
    · exact ⟨r, h1, h2⟩
    · rw [hg] at h1; cases h1
  refine ⟨hnb, hm, hlen, rg.rdy, rg.chain, fun q hq => ?_, ?_, fun k ev hk => ?_, ?_⟩
  · obtain ⟨j, hj, rfl⟩ := List.mem_map.1 hq
    obtain ⟨h1, h2⟩ := mem_live.1 hj
    obtain ⟨r, h3, h4⟩ := st j h1 h2
    exact ⟨h1, by show RqOk X (rqOf (p.st j)); rw [h3]; exact h4⟩
  · show (List.map _ (p.live nb)).Pairwise _
    rw [List.pairwise_map]
    unfold PS.live
    exact List.Pairwise.filter _ List.pairwise_lt_range
  · rw [recOf_alive rg.num]
    exact rg.turns k ev hk
  · rcases E.how with ⟨h1, h2, -⟩ | ⟨h1, h2, h3⟩
    · exact .inl ⟨h1, by show List.map _ (p.live nb) = []; rw [h2]; rfl⟩
    · exact .inr ⟨h1, fun e => h2 (List.map_eq_nil_iff.1 e), h3⟩
theorem Ended.mem {X : Us} {v0 : Nat -> Int} {picks : List Int} {nb most : Nat} {p : PS X.U} {e : Int} {lL lW lY lV sP : Value} {h : Hp} (E : Ended X v0 picks nb most p e lL lW lY lV h) (hP : RdS h sP (picks.map fun x => .int .i64 x)) : RecM (recOf p v0 nb most e) picks lL lW lY lV sP h := by
  have rg := E.reg
  refine ⟨E.log, by have := E.went; rw [rg.went] at this; exact this, E.rdy, ?_, hP⟩
  have e1 : (p.live nb).flatMap (leftL p (nums p.log)) = ((p.live nb).map fun j => (j, rqOf (p.st j))).flatMap (leftE (nums p.log) p.val) := by
    rw [List.flatMap_map]
    have : ∀ l : List Nat, (∀ j, j ∈ l -> j ∈ p.live nb) -> l.flatMap (leftL p (nums p.log)) = l.flatMap fun a => leftE (nums p.log) p.val (a, rqOf (p.st a)) := fun l => by
      induction l with
      | nil => intro _; rfl
      | cons j l ih =>
        intro hl
        obtain ⟨h1, h2⟩ := mem_live.1 (hl j (by simp))
        have : ∃ r, p.st j = .stands r := by
          rcases rg.alive j h1 with ⟨_, r, h1, _⟩ | ⟨h1, _⟩
          · exact ⟨r, h1⟩
          · rw [h2] at h1; cases h1
        obtain ⟨r, hr⟩ := this
        rw [List.flatMap_cons, List.flatMap_cons, ih (fun x hx => hl x (by simp [hx]))]
        congr 1
        unfold leftL leftE
        rw [hr]
        rfl
    exact this _ fun _ x => x
  have := E.left
  rw [e1] at this
  show SliceO h lV _ 8 ((p.live nb).map fun j => (j, rqOf (p.st j))).length _
  rw [List.length_map]
  exact this
theorem flat_at {α : Type} {c : Nat} {f : α -> List Value} (hf : ∀ a, (f a).length = c) : ∀ {l : List α} {k : Nat} {a : α}, l[k]? = some a -> ∀ j, j < c -> (l.flatMap f)[k * c + j]? = (f a)[j]?
  | [], _, _, h, _, _ => by cases h
  | x :: l, 0, a, h, j, hj => by
    obtain rfl : x = a := by simpa using h
    rw [List.flatMap_cons, Nat.zero_mul, Nat.zero_add, List.getElem?_append_left (by rw [hf]; exact hj)]
  | x :: l, k + 1, a, h, j, hj => by
    rw [List.flatMap_cons, List.getElem?_append_right (by rw [hf, Nat.succ_mul]; omega), hf, show (k + 1) * c + j - c = k * c + j by rw [Nat.succ_mul]; omega]
    exact flat_at hf (by simpa using h) j hj
theorem slice_row {h : Hp} {a : Option Addr} {n cap e c : Nat} {α : Type} {f : α -> List Value} (hf : ∀ a, (f a).length = c) {l : List α} (x : SliceO h (.slice a n cap) e c l.length (l.flatMap f)) {k : Nat} {q : α} (hk : l[k]? = some q) :
    ∃ b, a = some ⟨b, 0, none⟩ /\ hrow h b (0 + k * c) (f q) /\ ∀ o, hfroz h ⟨b, o, none⟩ = false := by
  obtain ⟨_, _, hlt⟩ := take_mid hk
  obtain ⟨b, cap', e1, hc, hz⟩ := x.cell (by omega)
  injection e1 with e1 _ _
  refine ⟨b, e1, fun j v hv => ?_, hz⟩
  have hj : j < c := by
    rcases Nat.lt_or_ge j c with y | y
    · exact y
    · rw [List.getElem?_eq_none (by rw [hf]; exact y)] at hv; cases hv
  rw [Nat.zero_add]
  exact hc _ _ ((flat_at hf hk j hj).trans hv)
theorem slice_at {h : Hp} {a : Option Addr} {n cap e : Nat} {α : Type} {f : α -> Value} {l : List α} (x : SliceO h (.slice a n cap) e 1 l.length (l.map f)) {k : Nat} {q : α} (hk : l[k]? = some q) :
    ∃ b, a = some ⟨b, 0, none⟩ /\ hcell h ⟨b, 0 + k * 1, none⟩ = some (f q) /\ ∀ o, hfroz h ⟨b, o, none⟩ = false := by
  obtain ⟨_, _, hlt⟩ := take_mid hk
  obtain ⟨b, cap', e1, hc, hz⟩ := x.cell (by omega)
  injection e1 with e1 _ _
  refine ⟨b, e1, ?_, hz⟩
  rw [Nat.zero_add, Nat.mul_one]
  exact hc _ _ (by rw [List.getElem?_map, hk]; rfl)
theorem entL_len (ns : List Nat) (e : Ev) : (entL ns e).length = 8 := rfl
theorem leftE_len (ns : List Nat) (v : Nat -> Int) (q : Nat × Rq) : (leftE ns v q).length = 8 := rfl
abbrev chkL (e : Int) (n : Nat) (lL lW lY lV sP : Value) (most : Nat) (tv cv : Value) (last : Int) : List Value := [.int .i8 e, .int .i64 n, lL, lW, lY, lV, nilS, sP, .int .i64 most, tv, cv, .int .i64 last]
abbrev chkO (e : Int) (n : Nat) (lL lW lY lV sP : Value) (most : Nat) (tv cv : Value) (last : Int) : Obj := .cells (chkL e n lL lW lY lV sP most tv cv last).toArray 208 (0, 0)
end
section
open Go Go.TJ Go.Conc Go.Proofs
abbrev GCall := Int × Int × Int
abbrev GAns := Int × Bool × Int
def gansL (a : GAns) : List Value := [.int .i64 a.1, .bool a.2.1, .int .i64 a.2.2]
def gcallL (q : GCall) : List Value := [.int .i64 q.1, .int .i64 q.2.1, .int .i64 q.2.2]
abbrev zA : GAns := (0, false, 0)
abbrev gansO (a : GAns) : Obj := .cells (gansL a).toArray 116 (0, 0)
def scriptG (cl : GCall -> (GAns -> Pr GAns) -> Pr GAns) : List GCall -> Pr GAns
  | [] => .done
  | q :: l => cl q fun a => .emit a (scriptG cl l)
theorem eaiCallP {Γ : Type} {P : Program} {main : Bool} {S : Sit Γ} {f : FuncId} {n : Nat} {k : List Item} {env : Env} {h : Hp} {δ : Ix Γ} {R : Post Γ} {ops : Array Oper} {Z : Hp -> Prop} {z m : Nat} {listed l' : Array Bool} {d : Nat} {ty : TypeId} {pos : String} {af : Array Edge} {g : Option (Nat × Bool)} {i : Nat} {x : Operand} {args : Array Operand} {ats : Array TypeId} {fn : Func} [hf : IsFn P f fn] {c : FuncId} {cap ws : Array Value} {vs : List Value} [HasBody P c] {Q : Value -> Hp -> Ix Γ -> Prop} {Y : List PanicEntry -> Hp -> Ix Γ -> Prop}
    (hi : ops[i]? = some ⟨some d, .call { callee := .value x, args, argTypes := ats }, ty, pos, af, g⟩) (hl : listed.setIfInBounds i true = l') (hd : Nat.blt d n = true) (hw : wantE ops env g = some true) (hx : ev env x = some (.func (.func c) #[] cap)) (ha : evL env args.toList = some vs) (hws : vs.toArray ++ cap = ws)
    (hc : CallW P main S c ws h δ (RetP Q Y)) (hY : ∀ p h' δ', Y p h' δ' -> R (.pan p) h' δ') (hn : ∀ v h' δ', Q v h' δ' -> Z h' /\ EA P main S f n ops Z z m l' k ((d, v) :: env) [] h' δ' R) : EAi P main S f n ops Z z m listed k env [] h δ R i := by
  subst hl
  intro a ka
  unfold OpK
  simp only [hi]
  rw [if_pos (wantE_ok ka (o := ⟨some d, .call { callee := .value x, args, argTypes := ats }, ty, pos, af, g⟩) hw), ka.defers]
  subst hws
  refine semW_call rfl (ka.eval hx) (map_ofL (fun x v hx => ka.eval hx) ha) (hc.mono ?_)
  rintro (v | p) h' δ' hq
  · exact ⟨.inr (hn v h' δ' hq).1, (hn v h' δ' hq).2 _ (ka.put v hd)⟩
  · exact fun a' ha' => WU.pan0 (ha'.trans ka.defers) hf.out (hY _ _ _ hq)
theorem eaiCallR {Γ : Type} {P : Program} {main : Bool} {S : Sit Γ} {f : FuncId} {n : Nat} {k : List Item} {env : Env} {ds : List Deferred} {h : Hp} {δ : Ix Γ} {R : Post Γ} {ops : Array Oper} {Z : Hp -> Prop} {z m : Nat} {listed l' : Array Bool} {d : Nat} {ty : TypeId} {pos : String} {af : Array Edge} {g : Option (Nat × Bool)} {i : Nat} {x : Operand} {args : Array Operand} {ats : Array TypeId} {c : FuncId} {cap ws : Array Value} {vs : List Value} [HasBody P c] {Q : Value -> Hp -> Ix Γ -> Prop}
    (hi : ops[i]? = some ⟨some d, .call { callee := .value x, args, argTypes := ats }, ty, pos, af, g⟩) (hl : listed.setIfInBounds i true = l') (hd : Nat.blt d n = true) (hw : wantE ops env g = some true) (hx : ev env x = some (.func (.func c) #[] cap)) (ha : evL env args.toList = some vs) (hws : vs.toArray ++ cap = ws)
    (hc : CallW P main S c ws h δ (Ret Q)) (hn : ∀ v h' δ', Q v h' δ' -> Z h' /\ EA P main S f n ops Z z m l' k ((d, v) :: env) ds h' δ' R) : EAi P main S f n ops Z z m listed k env ds h δ R i := by
  subst hl
  intro a ka
  unfold OpK
  simp only [hi]
  rw [if_pos (wantE_ok ka (o := ⟨some d, .call { callee := .value x, args, argTypes := ats }, ty, pos, af, g⟩) hw)]
  subst hws
  refine semW_call rfl (ka.eval hx) (map_ofL (fun x v hx => ka.eval hx) ha) (hc.mono ?_)
  rintro (v | p) h' δ' hq
  · exact ⟨.inr (hn v h' δ' hq).1, (hn v h' δ' hq).2 _ (ka.put v hd)⟩
  · exact hq.elim
structure ScrM (base : Nat) (h : Hp) (scv : Value) (sc : List (List GCall)) : Prop where
  val : ∃ a k, scv = .slice a sc.length k
  big : sc.length <= 1000000000000000 /\ ∀ l, l ∈ sc -> l.length <= 1000000000000000
  row : ∀ i l, sc[i]? = some l -> ∃ b o k a' k', scv = .slice (some ⟨b, o, none⟩) sc.length k /\ b < base /\ TJ.hcell h ⟨b, o + i * 1, none⟩ = some (.slice a' l.length k') /\
    ∀ j q, l[j]? = some q -> ∃ b' o', a' = some ⟨b', o', none⟩ /\ b' < base /\ TJ.hrow h b' (o' + j * 3) (gcallL q)
theorem hcell_same {h h' : Hp} {a : Addr} {v : Value} (hc : TJ.hcell h a = some v) (hb : h'[a.block]? = h[a.block]?) : TJ.hcell h' a = some v := by
  unfold TJ.hcell at hc ⊢
  rw [hb]; exact hc
theorem ScrM.low {base : Nat} {h h' : Hp} {scv : Value} {sc : List (List GCall)} (x : ScrM base h scv sc) (hb : ∀ b, b < base -> h'[b]? = h[b]?) : ScrM base h' scv sc := by
  refine ⟨x.val, x.big, fun i l hl => ?_⟩
  obtain ⟨b, o, k, a', k', e1, e2, e3, e4⟩ := x.row i l hl
  refine ⟨b, o, k, a', k', e1, e2, hcell_same e3 (hb _ e2), fun j q hq => ?_⟩
  obtain ⟨b', o', f1, f2, f3⟩ := e4 j q hq
  exact ⟨b', o', f1, f2, fun j v hv => hcell_same (f3 j v hv) (hb _ f2)⟩
structure SEnv (c : TC GAns) (M : Hp -> Prop) (cl : GCall -> (GAns -> Pr GAns) -> Pr GAns) (base : Nat) (sc : List (List GCall)) (pB sB : Nat) (n0 pk tk : Int) (scv pv : Value) : Prop where
  T : c.old c.T
  S : c.old c.S0
  TS : c.T ≠ c.S0
  K : CodX (UsT c) c.P (fun u i => (u.1 i).1) M
  low : ∀ b, b < base -> c.old b /\ b ≠ c.T /\ b ≠ c.S0
  p : c.old pB /\ pB ≠ c.T /\ pB ≠ c.S0 /\ c.hN[pB]? = some (.cells #[.int .i64 n0, .int .i64 pk, .int .i64 tk, scv, pv] 110 (0, 0))
  s : c.old sB /\ sB ≠ c.T /\ sB ≠ c.S0 /\ c.hN[sB]? = some (.cells #[ptr c.S0] 111 (0, 0))
  scr : ScrM base c.hN scv sc
  len : sc.length = c.n
  P : ∀ i q, sc[i]? = some q -> c.P i = scriptG cl q
  small : ∀ l, l ∈ sc -> l.length <= 500
  ty : c.e = 116 /\ c.tS = 120 /\ c.sz = 3 /\ c.enc = gansL
structure SNow (c : TC GAns) (base : Nat) (sc : List (List GCall)) (pB sB : Nat) (n0 pk tk : Int) (scv pv : Value) (h : Hp) : Prop where
  p : h[pB]? = some (.cells #[.int .i64 n0, .int .i64 pk, .int .i64 tk, scv, pv] 110 (0, 0))
  s : h[sB]? = some (.cells #[ptr c.S0] 111 (0, 0))
  scr : ScrM base h scv sc
theorem SEnv.now {c : TC GAns} {M : Hp -> Prop} {cl : GCall -> (GAns -> Pr GAns) -> Pr GAns} {base : Nat} {sc : List (List GCall)} {pB sB : Nat} {n0 pk tk : Int} {scv pv : Value} (E : SEnv c M cl base sc pB sB n0 pk tk scv pv) {u : (Nat -> List GAns × Value) × Xs} {h : Hp} (I : ToldI c u h) : SNow c base sc pB sB n0 pk tk scv pv h :=
  ⟨(I.old _ E.p.1 E.p.2.1 E.p.2.2.1).trans E.p.2.2.2, (I.old _ E.s.1 E.s.2.1 E.s.2.2.1).trans E.s.2.2.2, E.scr.low fun b hb => I.old b (E.low b hb).1 (E.low b hb).2.1 (E.low b hb).2.2⟩
end
section
open Go Go.TJ Go.Conc Go.Proofs
theorem drop_at {α : Type} {l : List α} {j : Nat} {a : α} (h : l[j]? = some a) : l.drop j = a :: l.drop (j + 1) := by
  obtain ⟨h1, h2⟩ := List.getElem?_eq_some_iff.1 h
  rw [List.drop_eq_getElem_cons h1, h2]
section
variable {c : TC GAns} {M : Hp -> Prop} {cl : GCall -> (GAns -> Pr GAns) -> Pr GAns} {base : Nat} {sc : List (List GCall)} {pB sB : Nat} {n0 pk tk : Int} {scv pv : Value}
def CallOk (c : TC GAns) (cl : GCall -> (GAns -> Pr GAns) -> Pr GAns) : Prop := ∀ {i : Nat} {γ : GG (UsT c)} {u : (UsT c).U} {L : List (Nat × Obj)} {h : Hp} {q : GCall} {k : GAns -> Pr GAns} {t : Nat},
  AtP (UsT c) c.P (fun u i => (u.1 i).1) i γ u L h (cl q k) -> t = γ.p.tb i ->
    CallW Try.prog false (SitT Try.prog (PX (UsT c)) (i + 1)) 117 #[ptr c.S0, ptr t, .agg (gcallL q).toArray] h ⟨0, γ⟩ (RetP (fun w h' δ' => ∃ (γ' : GG (UsT c)) (u' : (UsT c).U) (e : GAns), δ' = ⟨0, γ'⟩ /\ w = .agg (gansL e).toArray /\ CallP (UsT c) c.P (fun u i => (u.1 i).1) i γ u L γ' u' h' (k e)) (Halt (UsT c) i γ.p))
set_option maxRecDepth 8000 in
set_option maxHeartbeats 16000000 in
theorem sbody_ok (E : SEnv c M cl base sc pB sB n0 pk tk scv pv) (hcall : CallOk c cl) {i iB : Nat} (hiB : c.old iB /\ iB ≠ c.T /\ iB ≠ c.S0 /\ c.hN[iB]? = some (.cells #[.int .i64 i] 3 (0, 0))) {q : List GCall} (hq : sc[i]? = some q) : Body (UsT c) i 116 #[ptr pB, ptr iB, ptr sB] := by
  intro h γ T hb ho
  have hX := usT_ok E.T E.S
  obtain ⟨b, o, k, a', k', e1, e2, e3, e4⟩ := E.scr.row i q hq
  subst e1
  have hil := (take_mid hq).2.2
  have hin : i < c.n := by rw [<- E.len]; exact hil
  have hbig := E.scr.big.1
  have hqb := E.scr.big.2 q (List.mem_of_getElem? hq)
  have ht : (γ.p.u.1 i).1 = [] := by
    obtain ⟨p, -, hp⟩ := T.Q i
    rw [hb] at hp
    exact hp
  have a0 : AtP (UsT c) c.P (fun u i => (u.1 i).1) i γ γ.p.u [] h (scriptG cl (q.drop 0)) := ⟨T, by
    have := Res.born E.K.prog T hb ho ht
    rw [E.P i q hq] at this
    exact this⟩
  refine CallW.start (n := 44) rfl rfl ?_
  (repeat (first | refine EK.seq ?_ | refine EK.region ?_ | refine ER.done ?_ | refine EK.block ?_ | refine ER.assign rfl rfl rfl ?_))
  refine EK.loopInv (fun s : Nat × GG (UsT c) × (UsT c).U => [(5, .int .i64 s.1), (0, ptr (γ.p.tb i)), (1, ptr pB), (2, ptr iB), (3, ptr sB)]) (fun s h' δ' => δ' = ⟨0, s.2.1⟩ /\ s.1 <= q.length /\ AtP (UsT c) c.P (fun u i => (u.1 i).1) i s.2.1 s.2.2 [] h' (scriptG cl (q.drop s.1)) /\ Along (UsT c) i γ.p s.2.1.p /\ (s.2.2.1 i).1.length = s.1) (fun s => q.length - s.1) (0, γ, γ.p.u) ⟨rfl, rfl, rfl, rfl, rfl, trivial⟩ ⟨rfl, Nat.zero_le _, a0, Along.refl _ _, by dsimp only; rw [ht]; rfl⟩ ?_
  clear a0 T hb ho ht
  rintro ⟨j, γ1, u1⟩ h1 δ1 ⟨hδ, hj, a, al, htl⟩ again
  dsimp only at hδ hj a al htl again ⊢
  subst hδ
  have zall : ∀ (u : (Nat -> List GAns × Value) × Xs) (h' : Hp), ToldI c u h' -> hcell h' ⟨sB, 0, none⟩ = some (ptr c.S0) /\ hcell h' ⟨pB, 3, none⟩ = some (.slice (some ⟨b, o, none⟩) sc.length k) /\ hcell h' ⟨iB, 0, none⟩ = some (.int .i64 i) /\ hcell h' ⟨b, o + i * 1, none⟩ = some (.slice a' q.length k') := fun u h' I =>
    ⟨hcell_of (E.now I).s rfl, hcell_of (E.now I).p rfl, hcell_of ((I.old _ hiB.1 hiB.2.1 hiB.2.2.1).trans hiB.2.2.2) rfl, hcell_same e3 (I.old b (E.low b e2).1 (E.low b e2).2.1 (E.low b e2).2.2)⟩
  have z1 := zall u1 h1 a.thr.I
  obtain ⟨q1, q2, q3, q4⟩ := z1
  by_cases hjn : j < q.length
  · obtain ⟨cj, hcj⟩ : ∃ cj, q[j]? = some cj := ⟨_, List.getElem?_eq_getElem hjn⟩
    obtain ⟨b', o', ea, f2, f3⟩ := e4 j cj hcj
    subst ea
    have zrow : ∀ (u : (Nat -> List GAns × Value) × Xs) (h' : Hp), ToldI c u h' -> TJ.hrow h' b' (o' + j * 3) (gcallL cj) := fun u h' I a v hv => hcell_same (f3 a v hv) (I.old b' (E.low b' f2).1 (E.low b' f2).2.1 (E.low b' f2).2.2)
    have q5 := zrow u1 h1 a.thr.I
    rw [drop_at hcj] at a
    unfold scriptG at a
    (repeat (first | refine EK.seq ?_ | refine EK.region ?_ | refine ER.done ?_ | refine EK.skip ?_ | refine EK.block ?_ | refine ER.move rfl rfl rfl ?_ | refine ER.fieldAddr rfl rfl rfl ?_ | refine ER.cmpT rfl rfl rfl rfl rfl (by first | (dsimp only [cmpP]; omega) | exact rfl | exact Int.le_refl _) ?_ | refine ER.len1 rfl rfl rfl ?_ | refine ER.indexSl rfl rfl rfl rfl (by omega) (by omega) ?_ | refine EK.condT rfl ?_ | refine ER.load1 rfl rfl rfl (by assumption) ?_))
    refine EK.regionAnyM (fun s : Nat × GG (UsT c) × (UsT c).U × GAns => [(6, ptr s.1), (5, .int .i64 j), (0, ptr (γ.p.tb i)), (1, ptr pB), (2, ptr iB), (3, ptr sB)]) (fun s h' δ' => δ' = ⟨0, s.2.1⟩ /\ CallP (UsT c) c.P (fun u i => (u.1 i).1) i γ1 u1 [] s.2.1 s.2.2.1 h' (.emit s.2.2.2 (scriptG cl (q.drop (j + 1)))) /\ h'[s.1]? = some (gansO s.2.2.2) /\ ¬ (UsT c).Dom s.2.2.1 s.1) (fun h' => hcell h' ⟨sB, 0, none⟩ = some (ptr c.S0) /\ hcell h' ⟨pB, 3, none⟩ = some (.slice (some ⟨b, o, none⟩) sc.length k) /\ hcell h' ⟨iB, 0, none⟩ = some (.int .i64 i) /\ hcell h' ⟨b, o + i * 1, none⟩ = some (.slice (some ⟨b', o', none⟩) q.length k') /\ TJ.hrow h' b' (o' + j * 3) (gcallL cj)) 12 (fun key => ?_) ?_
    · have hZ : _ /\ _ /\ _ /\ _ /\ _ := And.intro q1 ⟨q2, q3, q4, q5⟩
      refine EA.tLoad 0 rfl (by kernel_rfl) rfl rfl rfl rfl (fun _ hz => hz.1) hZ ?_
      refine EA.tMove 1 rfl (by kernel_rfl) rfl rfl rfl rfl hZ ?_
      refine EA.tField 2 rfl (by kernel_rfl) rfl rfl rfl rfl hZ ?_
      refine EA.tLoad 3 rfl (by kernel_rfl) rfl rfl rfl rfl (fun _ hz => hz.2.1) hZ ?_
      refine EA.tLoad 4 rfl (by kernel_rfl) rfl rfl rfl rfl (fun _ hz => hz.2.2.1) hZ ?_
      refine EA.tIdxS 5 rfl (by kernel_rfl) rfl rfl rfl rfl rfl (by omega) (by omega) hZ ?_
      refine EA.tLoad 6 rfl (by kernel_rfl) rfl rfl rfl rfl (fun _ hz => hz.2.2.2.1) hZ ?_
      refine EA.tMove 7 rfl (by kernel_rfl) rfl rfl rfl rfl hZ ?_
      refine EA.tIdxS 8 rfl (by kernel_rfl) rfl rfl rfl rfl rfl (by omega) (by omega) hZ ?_
      refine EA.tLoadN (vs := gcallL cj) 9 rfl (by kernel_rfl) rfl rfl rfl rfl rfl (fun _ hz => hz.2.2.2.2) hZ ?_
      refine EA.alt2 10 11 (by kernel_rfl) ?_ ?_
      · refine eaiCallP (i := 10) rfl rfl rfl rfl rfl rfl rfl (hcall a al.tb.symm) (fun _ _ _ x => x.along al) ?_
        rintro _ h2 δ2 ⟨γ2, u2, ans, rfl, rfl, cp⟩
        have I2 : ToldI c u2 h2 := cp.at_.thr.I
        have z2 := zall u2 h2 I2
        refine ⟨⟨z2.1, z2.2.1, z2.2.2.1, z2.2.2.2, zrow u2 h2 I2⟩, ?_⟩
        have T3 := cp.at_.thr.alloc hX (gansO zA)
        have z3 := zall u2 _ T3.I
        refine EA.val (v := ptr h2.size) (h' := h2.push (gansO zA)) 11 rfl (by kernel_rfl) rfl rfl rfl (fun ρ Q X hρ hq => sem_allocA hq) ⟨z3.1, z3.2.1, z3.2.2.1, z3.2.2.2, zrow u2 _ T3.I⟩ ?_
        have g3 := (T3.privs.1 _ List.mem_cons_self).1
        have T4 := T3.priv1 (o := gansO ans) hX (fun q hq => by cases hq)
        refine EA.unitL (h' := (h2.push (gansO zA)).setIfInBounds h2.size (gansO ans)) 12 rfl (by kernel_rfl) rfl rfl rfl (fun ρ Q X hρ hq => sem_storeN (vs := gansL ans) (hρ _ _ rfl) (hρ _ _ rfl) rfl (by simp [gansL, OneCell]) (fun j hj => ⟨⟨_, hcell_of g3 (by simp only [List.getElem?_toArray]; rw [Nat.zero_add]; exact List.getElem?_eq_getElem (show j < (gansL zA).length from hj))⟩, hfroz_of g3, T3.free (.inr (.inr (.inl ⟨_, List.mem_cons_self, rfl⟩)))⟩) (by rw [row_set (c := gansL zA) (vs := gansL ans) g3 rfl]; exact hq)) ?_
        refine EA.done (by kernel_rfl) ?_
        exact EK.back (key (h2.size, γ2, u2, ans) _ _ ⟨rfl, ⟨cp.al, ⟨T4.sub hX (fun q hq => by cases hq), cp.at_.res⟩, cp.V⟩, (T4.privs.1 _ List.mem_cons_self).1, (T4.privs.1 _ List.mem_cons_self).2⟩) ⟨rfl, rfl, rfl, rfl, rfl, rfl, trivial⟩
      · have T2 := a.thr.alloc hX (gansO zA)
        have z2 := zall u1 _ T2.I
        refine EAi.val (i := 11) (v := ptr h1.size) (h' := h1.push (gansO zA)) rfl rfl rfl rfl (fun ρ Q X hρ hq => sem_allocA hq) ⟨z2.1, z2.2.1, z2.2.2.1, z2.2.2.2, zrow u1 _ T2.I⟩ ?_
        refine eaCallP 10 rfl (by kernel_rfl) rfl rfl rfl rfl rfl rfl (hcall ⟨T2, a.res⟩ al.tb.symm) (fun _ _ _ x => x.along al) ?_
        rintro _ h3 δ2 ⟨γ2, u2, ans, rfl, rfl, cp⟩
        have I3 : ToldI c u2 h3 := cp.at_.thr.I
        have z3 := zall u2 h3 I3
        refine ⟨⟨z3.1, z3.2.1, z3.2.2.1, z3.2.2.2, zrow u2 h3 I3⟩, ?_⟩
        have T3 := cp.at_.thr
        have g3 := (T3.privs.1 _ List.mem_cons_self).1
        have T4 := T3.priv1 (o := gansO ans) hX (fun q hq => by cases hq)
        refine EA.unitL (h' := h3.setIfInBounds h1.size (gansO ans)) 12 rfl (by kernel_rfl) rfl rfl rfl (fun ρ Q X hρ hq => sem_storeN (vs := gansL ans) (hρ _ _ rfl) (hρ _ _ rfl) rfl (by simp [gansL, OneCell]) (fun j hj => ⟨⟨_, hcell_of g3 (by simp only [List.getElem?_toArray]; rw [Nat.zero_add]; exact List.getElem?_eq_getElem (show j < (gansL zA).length from hj))⟩, hfroz_of g3, T3.free (.inr (.inr (.inl ⟨_, List.mem_cons_self, rfl⟩)))⟩) (by rw [row_set (c := gansL zA) (vs := gansL ans) g3 rfl]; exact hq)) ?_
        refine EA.done (by kernel_rfl) ?_
        exact EK.back (key (h1.size, γ2, u2, ans) _ _ ⟨rfl, ⟨cp.al, ⟨T4.sub hX (fun q hq => by cases hq), cp.at_.res⟩, cp.V⟩, (T4.privs.1 _ List.mem_cons_self).1, (T4.privs.1 _ List.mem_cons_self).2⟩) ⟨rfl, rfl, rfl, rfl, rfl, rfl, trivial⟩
    · clear q1 q2 q3 q4 q5 a
      rintro ⟨y, γ2, u2, ans⟩ h2 δ2 ⟨hδ, cp, gy, ny⟩
      dsimp only at hδ cp gy ny ⊢
      subst hδ
      have I2 : ToldI c u2 h2 := cp.at_.thr.I
      have al2 := al.trans cp.al
      have hV : u2.1 i = u1.1 i := cp.V
      have hq4 := E.small q (List.mem_of_getElem? hq)
      obtain ⟨eE, etS, esz, eenc⟩ := E.ty
      have inn := I2.inn i hin
      rw [eE, esz, eenc] at inn
      have hl2 : (u2.1 i).1.length = j := by rw [hV]; exact htl
      obtain ⟨aS, kS, eS⟩ := inn.val
      have zt : ∀ (h' : Hp), ToldI c u2 h' -> hcell h' ⟨c.S0, 3, none⟩ = some (.slice (some ⟨c.T, 0, none⟩) c.n c.n) /\ hcell h' ⟨c.T, 0 + i * 1, none⟩ = some (u2.1 i).2 := fun h' I => ⟨hcell_of I.st rfl, hcell_of I.out (by simp [hin])⟩
      have z2 := zall u2 h2 I2
      have t2 := zt h2 I2
      have ry : TJ.hrow h2 y 0 (gansL ans) := hrow_block (rest := []) (by rw [List.append_nil]; exact gy)
      skip
      refine EK.regionAnyL (fun h' => hcell h' ⟨sB, 0, none⟩ = some (ptr c.S0) /\ hcell h' ⟨c.S0, 3, none⟩ = some (.slice (some ⟨c.T, 0, none⟩) c.n c.n) /\ hcell h' ⟨iB, 0, none⟩ = some (.int .i64 i) /\ hcell h' ⟨c.T, 0 + i * 1, none⟩ = some (u2.1 i).2 /\ TJ.hrow h' y 0 (gansL ans)) 16 ?_
      have hZ : _ /\ _ /\ _ /\ _ /\ _ := And.intro z2.1 ⟨t2.1, z2.2.2.1, t2.2, ry⟩
      refine EA.tLoad 0 rfl (by kernel_rfl) rfl rfl rfl rfl (fun _ hz => hz.1) hZ ?_
      refine EA.tNil 1 rfl (by kernel_rfl) rfl rfl rfl rfl hZ ?_
      refine EA.tField 2 rfl (by kernel_rfl) rfl rfl rfl rfl hZ ?_
      refine EA.tLoad 3 rfl (by kernel_rfl) rfl rfl rfl rfl (fun _ hz => hz.2.1) hZ ?_
      refine EA.tLoad 4 rfl (by kernel_rfl) rfl rfl rfl rfl (fun _ hz => hz.2.2.1) hZ ?_
      refine EA.tLoad 5 rfl (by kernel_rfl) rfl rfl rfl rfl (fun _ hz => hz.1) hZ ?_
      refine EA.tNil 6 rfl (by kernel_rfl) rfl rfl rfl rfl hZ ?_
      refine EA.tField 7 rfl (by kernel_rfl) rfl rfl rfl rfl hZ ?_
      refine EA.tLoad 8 rfl (by kernel_rfl) rfl rfl rfl rfl (fun _ hz => hz.2.1) hZ ?_
      refine EA.tLoad 9 rfl (by kernel_rfl) rfl rfl rfl rfl (fun _ hz => hz.2.2.1) hZ ?_
      refine EA.tIdxS 10 rfl (by kernel_rfl) rfl rfl rfl rfl rfl (by omega) (by omega) hZ ?_
      refine EA.tLoad 11 rfl (by kernel_rfl) rfl rfl rfl rfl (fun _ hz => hz.2.2.2.1) hZ ?_
      refine EA.tLoadN (vs := gansL ans) 12 rfl (by kernel_rfl) rfl rfl rfl rfl rfl (fun _ hz => hz.2.2.2.2) hZ ?_
      have up := Upd.push (T := fun _ => False) h2 (.cells (gansL ans).toArray 116)
      have T3 := cp.at_.thr.upd0 hX up
      have I3 : ToldI c u2 (h2.push (.cells (gansL ans).toArray 116)) := T3.I
      have z3 := zall u2 _ I3
      have t3 := zt _ I3
      have hZ5 : _ /\ _ /\ _ /\ _ /\ _ := And.intro z3.1 ⟨t3.1, z3.2.2.1, t3.2, (fun j v hv => up.hcell (ry j v hv) (fun x => x) : TJ.hrow _ y 0 (gansL ans))⟩
      refine EA.val (v := .slice (some ⟨h2.size, 0, none⟩) 1 1) (h' := h2.push (.cells (gansL ans).toArray 116)) 13 rfl (by kernel_rfl) rfl rfl rfl (fun ρ Q X hρ hq => sem_slice1 (sz := 3) hρ rfl (by omega) (by omega) rfl rfl hq) hZ5 ?_
      have inn3 := I3.inn i hin
      rw [eE, esz, eenc] at inn3
      refine EA.append1 (new := gansL ans) 14 rfl (by kernel_rfl) rfl rfl rfl rfl rfl inn3 (get_push_new _ _) rfl (by simp [gansL, OneCell]) (by omega) (by omega) rfl (fun b o hb => T3.free (.inl (.inr ⟨(I3.new i b hin hb).2, i, hin, hb⟩))) ?_
      generalize h2.push (.cells (gansL ans).toArray 116) = h3 at T3 I3 z3 t3 hZ5 inn3 ⊢
      intro s6 h4 sl6 u6 hb6
      have nOld : ∀ b, c.old b -> ¬ blk (u2.1 i).2 = some b := fun b hb hx => (I3.new i b hin hx).1 hb
      have ny' : ¬ blk (u2.1 i).2 = some y := fun hx => ny (.inr ⟨(I3.new i y hin hx).2, i, hin, hx⟩)
      have hZ6 : _ /\ _ /\ _ /\ _ /\ _ := And.intro (u6.hcell hZ5.1 (nOld _ E.s.1)) ⟨u6.hcell hZ5.2.1 (nOld _ E.S), u6.hcell hZ5.2.2.1 (nOld _ hiB.1), u6.hcell hZ5.2.2.2.1 (nOld _ E.T), (fun j v hv => u6.hcell (hZ5.2.2.2.2 j v hv) ny' : TJ.hrow _ y 0 (gansL ans))⟩
      refine ⟨hZ6, ?_⟩
      obtain ⟨a4, k4, e4'⟩ := sl6.val
      have fT : hfroz h4 ⟨c.T, 0 + i * 1, none⟩ = false := hfroz_of (u6.get I3.out (nOld _ E.T))
      refine EA.val 15 rfl (by kernel_rfl) rfl rfl rfl (fun ρ Q X hρ hq => sem_indexSl (hρ _ _ rfl) (hρ _ _ rfl) (by omega) (by omega) hq) hZ6 ?_
      refine EA.unitL (h' := hset h4 ⟨c.T, 0 + i * 1, none⟩ s6) 16 rfl (by kernel_rfl) rfl rfl rfl (fun ρ Q X hρ hq => sem_store1 (hρ _ _ rfl) (hρ _ _ rfl) (by rw [e4']; exact ⟨nofun, nofun⟩) ⟨_, hZ6.2.2.2.1⟩ fT (T3.free (.inl (.inl E.T))) hq) ?_
      refine EA.done (by kernel_rfl) ?_
      have T5 := T3.tell E.T E.S E.TS hin u6 (by rw [eE, esz, eenc]; exact sl6) (fun b hb => (hb6 b hb).imp id (fun e => Nat.le_of_eq e.symm))
      have e9 : (ut (u2.1 : Nat -> List GAns × Value) i ((u2.1 i).1 ++ [ans], s6)) i = ((u2.1 i).1 ++ [ans], s6) := ut_same _ _ _
      (repeat (first | refine EK.region ?_ | refine ER.done ?_ | refine EK.inBlock ?_ | refine ER.move rfl rfl rfl ?_ | refine ER.assign rfl rfl rfl ?_ | refine ER.add (kd := .i64) rfl rfl rfl rfl (i64_in (by omega) (by omega)) ?_))
      refine EK.back (again (j + 1, γ2, (ut u2.1 i ((u2.1 i).1 ++ [ans], s6), u2.2)) _ _ (by dsimp only; omega) ⟨rfl, by dsimp only; omega, ⟨T5, ?_⟩, al2, ?_⟩) ⟨rfl, rfl, rfl, rfl, rfl, trivial⟩
      · exact (congrArg (fun z : List GAns × Value => Goes i (c.P i) (ownOf i (γ2.p.acc i).log) z.1 (scriptG cl (q.drop (j + 1)))) e9).mpr (Goes.tell cp.at_.res)
      · exact (congrArg (fun z : List GAns × Value => z.1.length) e9).trans (by simp [hl2])
  · obtain rfl : j = q.length := by omega
    clear again
    rw [List.drop_length] at a
    (repeat (first | refine EK.seq ?_ | refine EK.region ?_ | refine ER.done ?_ | refine ER.move rfl rfl rfl ?_ | refine ER.fieldAddr rfl rfl rfl ?_ | refine ER.cmpF rfl rfl rfl rfl rfl (by first | (dsimp only [cmpP]; omega) | exact rfl | exact Int.le_refl _) ?_ | refine ER.len1 rfl rfl rfl ?_ | refine ER.indexSl rfl rfl rfl rfl (by omega) (by omega) ?_ | refine EK.condF rfl ?_ | refine EK.exit rfl ?_ | refine ER.load1 rfl rfl rfl (by assumption) ?_))
    exact EK.done (EU.ret0 rfl ⟨γ1, u1, [], rfl, al, a.thr, Res.over E.K.prog a.res, E.K.j _ _ _⟩)
end
end
section
open Go Go.TJ Go.Conc Go.Proofs
structure Thg (Mm : Mem Nat) (cs : Nat -> Prop) (v1 : Nat -> Int) : Prop where
  ok : ∀ k, cs k -> Mm.ok k
  cel : ∀ k, cs k -> Mm.O k = cellO (v1 k)
  oth : ∀ k, Mm.ok k -> ¬ cs k -> ∃ a t, Mm.O k = .cells a t (0, 0) /\ t ≠ 45 /\ t ≠ 3 /\ t ≠ 120 /\ t ≠ 126
def isCG (Mm : Mem Nat) (cs : Nat -> Prop) (b : Nat) : Prop := ∃ k, cs k /\ b = Mm.B k
def thH (Mm : Mem Nat) (cs : Nat -> Prop) (h : Hp) : Prop := ∀ k, Mm.ok k -> ¬ cs k -> h[Mm.B k]? = some (Mm.O k)
abbrev sfunV (pB sB b : Nat) : Value := .func (.func 116) #[] #[ptr pB, ptr b, ptr sB]
structure SPre (base : Nat) (Mm : Mem Nat) (cs : Nat -> Prop) (v1 : Nat -> Int) (c0 p0 k0 : Nat) (sc : List (List GCall)) (hN : Hp) (pB sB S0 T : Nat) (n0 pk tk : Int) (scv pv pv2 bv : Value) (iBs : List Nat) (picks : List Int) : Prop where
  rep : Rep hN Mm
  thg : Thg Mm cs v1
  lowB : ∀ k, Mm.ok k -> base <= Mm.B k
  p : hN[pB]? = some (.cells #[.int .i64 n0, .int .i64 pk, .int .i64 tk, scv, pv] 110 (0, 0))
  s : hN[sB]? = some (.cells #[ptr S0] 111 (0, 0))
  st : hN[S0]? = some (stgO c0 p0 k0 T sc.length (0, pk, 0, false))
  t : hN[T]? = some (.cells (List.replicate sc.length nilS).toArray 120 (0, 0))
  tb : base <= T
  sb : base <= S0
  scr : ScrM base hN scv sc
  l8 : sc.length <= 8
  small : ∀ l, l ∈ sc -> l.length <= 500
  bods : SliceO hN bv 45 1 sc.length (iBs.map fun b => sfunV pB sB b)
  nb : ∀ b, blk bv = some b -> base <= b
  ib : iBs.length = sc.length
  ibx : ∀ (j b : Nat), iBs[j]? = some b -> hN[b]? = some (.cells #[.int .i64 (j : Int)] 3 (0, 0)) /\ blk pv2 ≠ some b
  pk : SliceO hN pv2 3 1 picks.length (picks.map fun x => .int .i64 x)
  np : ∀ b, blk pv2 = some b -> base <= b
def tcG (Mm : Mem Nat) (cs : Nat -> Prop) (cl : GCall -> (GAns -> Pr GAns) -> Pr GAns) (sc : List (List GCall)) (hN : Hp) (T S0 c0 p0 k0 : Nat) (pv2 bv : Value) : TC GAns where
  n := sc.length
  hN := hN
  isC := isCG Mm cs
  ex := fun b => blk bv = some b \/ blk pv2 = some b
  T := T
  S0 := S0
  c0 := c0
  p0 := p0
  k0 := k0
  tS := 120
  e := 116
  sz := 3
  enc := gansL
  J := fun _ _ _ => True
  P := fun i => scriptG cl (sc.getD i [])
section
variable {base : Nat} {Mm : Mem Nat} {cs : Nat -> Prop} {v1 : Nat -> Int} {c0 p0 k0 : Nat} {cl : GCall -> (GAns -> Pr GAns) -> Pr GAns} {sc : List (List GCall)} {hN : Hp} {pB sB S0 T : Nat} {n0 pk tk : Int} {scv pv pv2 bv : Value} {iBs : List Nat} {picks : List Int}
theorem SPre.cell (x : SPre base Mm cs v1 c0 p0 k0 sc hN pB sB S0 T n0 pk tk scv pv pv2 bv iBs picks) {k : Nat} (hk : cs k) : hN[Mm.B k]? = some (cellO (v1 k)) := by
  rw [<- x.thg.cel k hk]
  exact x.rep.has k (x.thg.ok k hk)
theorem SPre.notC (x : SPre base Mm cs v1 c0 p0 k0 sc hN pB sB S0 T n0 pk tk scv pv pv2 bv iBs picks) {y : Nat} {a : Array Value} {t : TypeId} (hy : hN[y]? = some (.cells a t (0, 0))) (ht : t ≠ 317) : ¬ isCG Mm cs y := by
  rintro ⟨k, hk, rfl⟩
  rw [x.cell hk] at hy
  injection hy with hy
  injection hy with _ hy _
  exact ht hy.symm
theorem SPre.old (x : SPre base Mm cs v1 c0 p0 k0 sc hN pB sB S0 T n0 pk tk scv pv pv2 bv iBs picks) {y : Nat} {a : Array Value} {t : TypeId} (hy : hN[y]? = some (.cells a t (0, 0))) (hn : ¬ isCG Mm cs y) (h1 : t ≠ 45) (h2 : t ≠ 3) : (tcG Mm cs cl sc hN T S0 c0 p0 k0 pv2 bv).old y :=
  ⟨lt_of_get hy, hn, fun e => e.elim (fun e => sliceO_ne x.bods hy (Ne.symm h1) y e rfl) (fun e => sliceO_ne x.pk hy (Ne.symm h2) y e rfl)⟩
theorem SPre.neT (x : SPre base Mm cs v1 c0 p0 k0 sc hN pB sB S0 T n0 pk tk scv pv pv2 bv iBs picks) {y : Nat} {a : Array Value} {t : TypeId} (hy : hN[y]? = some (.cells a t (0, 0))) (ht : t ≠ 120) : y ≠ T := fun e => by
  rw [e, x.t] at hy
  injection hy with hy
  injection hy with _ hy _
  exact ht hy.symm
theorem SPre.neS (x : SPre base Mm cs v1 c0 p0 k0 sc hN pB sB S0 T n0 pk tk scv pv pv2 bv iBs picks) {y : Nat} {a : Array Value} {t : TypeId} (hy : hN[y]? = some (.cells a t (0, 0))) (ht : t ≠ 126) : y ≠ S0 := fun e => by
  rw [e, x.st] at hy
  injection hy with hy
  injection hy with _ hy _
  exact ht hy.symm
theorem senv_of (x : SPre base Mm cs v1 c0 p0 k0 sc hN pB sB S0 T n0 pk tk scv pv pv2 bv iBs picks) (hb : base <= hN.size) : SEnv (tcG Mm cs cl sc hN T S0 c0 p0 k0 pv2 bv) (thH Mm cs) cl base sc pB sB n0 pk tk scv pv := by
  have hT : (tcG Mm cs cl sc hN T S0 c0 p0 k0 pv2 bv).old T := x.old x.t (x.notC x.t (by decide)) (by decide) (by decide)
  have hS : (tcG Mm cs cl sc hN T S0 c0 p0 k0 pv2 bv).old S0 := x.old x.st (x.notC x.st (by decide)) (by decide) (by decide)
  refine ⟨hT, hS, x.neS x.t (by decide), ⟨usT_ok hT hS, usT_prog, fun u h I k hk hn => ?_, fun _ _ _ => trivial⟩, fun b hb' => ?_, ⟨x.old x.p (x.notC x.p (by decide)) (by decide) (by decide), x.neT x.p (by decide), x.neS x.p (by decide), x.p⟩, ⟨x.old x.s (x.notC x.s (by decide)) (by decide) (by decide), x.neT x.s (by decide), x.neS x.s (by decide), x.s⟩, x.scr, rfl, fun i q hq => ?_, x.small, rfl, rfl, rfl, rfl⟩
  · have I' : ToldI (tcG Mm cs cl sc hN T S0 c0 p0 k0 pv2 bv) u h := I
    obtain ⟨a, t, e, t1, t2, t3, t4⟩ := x.thg.oth k hk hn
    have hh := x.rep.has k hk
    rw [e] at hh ⊢
    refine (I'.old _ (x.old hh (fun ⟨k', hk', e'⟩ => hn ?_) t1 t2) (x.neT hh t3) (x.neS hh t4)).trans hh
    rw [x.rep.inj k k' hk (x.thg.ok k' hk') e']
    exact hk'
  · refine ⟨⟨Nat.lt_of_lt_of_le hb' hb, fun ⟨k, h1, e⟩ => by have := x.lowB k (x.thg.ok k h1); omega, fun e => e.elim (fun e => by have := x.nb b e; omega) (fun e => by have := x.np b e; omega)⟩, fun e => by have := x.tb; change b = T at e; omega, fun e => by have := x.sb; change b = S0 at e; omega⟩
  · show scriptG cl (sc.getD i []) = _
    rw [List.getD_eq_getElem?_getD, hq]; rfl
end
end
end Go.Proofs.Ytcpcdnkemobneaa
namespace Go.TJ
section
open Go Go.Conc
open Go.ConcN (sumTo upd sumTo_upd upd_ne upd_same)
def SwS (P : Program) : Sit Nat where
  still := fun _ _ => False
  yld g h δ Y := δ.d = 0 /\ ∃ (Γ' : Type) (X : Proto Γ') (γ : Γ'), X.Ok /\ X.num γ = δ.g /\ δ.g = 1 /\
    Runs P true (SitM P X) (fun g' h' δ' => δ'.d = 0 /\ (∀ i, i ≠ 0 -> i < X.num δ'.g -> X.ch δ'.g i = none) /\ Y g' h' ⟨0, X.num δ'.g⟩) g h ⟨0, γ⟩
theorem CallW.sw {P : Program} {Γ' : Type} {X : Proto Γ'} (hX : X.Ok) {γ : Γ'} (h1 : X.num γ = 1) {f : FuncId} {args : Array Value} {h : Hp} {R : Post Nat} (hc : CallW P true (SitM P X) f args h ⟨0, γ⟩ fun r h' δ' => δ'.d = 0 /\ (∀ i, i ≠ 0 -> i < X.num δ'.g -> X.ch δ'.g i = none) /\ R r h' ⟨0, X.num δ'.g⟩) : CallW P true (SwS P) f args h ⟨0, 1⟩ R := by
  intro kind hk cs
  refine .hands (fun g' h' δ' => Left P f kind cs R g' h' δ') (fun g' h' δ' y => .stop y) ⟨rfl, Γ', X, γ, hX, h1, rfl, (hc kind hk cs).mono ?_⟩
  rintro g' h' δ' ⟨a, todo, mode, fn, h1, h2, h3, ⟨h5, v, h6, h7, h8, h9⟩ | ⟨c, h5, h7, h8, h9⟩⟩
  · exact ⟨h7, h8, a, todo, mode, fn, h1, h2, h3, .inl ⟨h5, v, h6, h9⟩⟩
  · exact ⟨h7, h8, a, todo, mode, fn, h1, h2, h3, .inr ⟨c, h5, h9⟩⟩
def PN : Proto Nat where
  num n := n
  ch _ _ := none
  cells _ _ _ := none
  R _ _ _ := True
  Pass _ _ _ := True
section
variable {P : Program}
theorem lk_none {h : Nat} {n : Nat} {I : Nat -> Option Wait} (hI : ∀ i, i ≠ h -> I i = none) : Lk P PN h n I n :=
  ⟨rfl, fun i hi _ => (by rw [hI i hi]; rfl), fun i W hi e => (by rw [hI i hi] at e; cases e), fun i W hi _ e => (by rw [hI i hi] at e; cases e)⟩
theorem lk_end {Γ' : Type} {X : Proto Γ'} {γ : Γ'} {I : Nat -> Option Wait} {T : Trace} {gs : Array Goroutine} {w : World} {q : Nat -> Nat} (F : Fr P 0 I T gs w q) (L : Lk P X 0 γ I gs.size) (hch : ∀ i, i ≠ 0 -> i < X.num γ -> X.ch γ i = none) : ∀ i, i ≠ 0 -> I i = none := fun i hi => by
  cases e : I i with
  | none => rfl
  | some V =>
    have hlt := F.room i hi (by rw [e]; rfl)
    have h1 := L.ch i hi hlt
    rw [hch i hi (by rw [L.num]; exact hlt), e] at h1
    cases h1
theorem company_sw {Stop : Goroutine -> Hp -> Ix Nat -> Prop} {g : Goroutine} {hp : Hp} {δ : Ix Nat} (H : Runs P true (SwS P) Stop g hp δ) :
    ∀ {I : Nat -> Option Wait} {T : Trace} {gs : Array Goroutine} {w : World} {q : Nat -> Nat} {sl : Option (Nat × Nat)}, w.heap = hp -> Fr P 0 I T gs w q -> (∀ i, i ≠ 0 -> I i = none) -> gs.size = δ.g -> gs[0]? = some g -> Deaf T 0 = δ.d ->
    ∃ (N : Nat) (gs' : Array Goroutine) (g' : Goroutine) (w' : World) (sl' : Option (Nat × Nat)) (T' : Trace) (q' : Nat -> Nat) (δ' : Ix Nat) (I' : Nat -> Option Wait),
      runNT P N (crowd gs w sl) T = (.next (crowd gs' w' sl'), T') /\ gs'[0]? = some g' /\ Fr P 0 I' T' gs' w' q' /\ (∀ i, i ≠ 0 -> I' i = none) /\ Deaf T' 0 = δ'.d /\ Same w w' /\ Stop g' w'.heap δ' := by
  induction H with
  | stop hs =>
    intro I T gs w q sl hw F hI hn hg hd
    subst hw
    exact ⟨0, gs, _, w, sl, T, q, _, I, rfl, hg, F, hI, hd, Same.refl _, hs⟩
  | step Y _ hst ih =>
    intro I T gs w q sl hw F hI hn hg hd
    subst hw
    obtain ⟨N, gs', g', w', sl', T', q', δ', h1, h2, h3, h4, h5, h6, h7, h8⟩ := step_run (X := PN) (i := 0) (by rfl) (S := SwS P) (funext fun n => funext fun a => propext ⟨fun x => x.elim, fun ⟨j, _, _, x, _⟩ => by cases x⟩) (sl := sl) F (by rw [hn]; exact lk_none hI) hg hd hst
    obtain ⟨N₂, gs₂, g₂, w₂, sl₂, T₂, q₂, δ₂, I', k1, k3, k5, k6, k7, k8, k9⟩ := ih _ _ _ h8 (sl := sl') rfl h4 hI (by rw [h5, h2]; exact hn) h3 h6
    exact ⟨N + N₂, gs₂, g₂, w₂, sl₂, T₂, q₂, δ₂, I', runNT_then h1 k1, k3, k5, k6, k7, h7.trans k8, k9⟩
  | @hands g hp δ Y _ hY ih =>
    intro I T gs w q sl hw F hI hn hg hd
    subst hw
    obtain ⟨hd0, Γ', X, γ, hX, e1, e2, hrun⟩ := hY
    obtain ⟨N, gs', g', w', sl', T', q', δ', I', h1, h2, h3, h4, h5, h6, h7, h8, h9⟩ := company hX hrun (sl := sl) rfl F ⟨by rw [e1, hn], fun i hi hlt => by omega, fun i W hi e => (by rw [hI i hi] at e; cases e), fun i W hi _ e => (by rw [hI i hi] at e; cases e)⟩ hg (hd.trans hd0)
    obtain ⟨N₂, gs₂, g₂, w₂, sl₂, T₂, q₂, δ₂, I₂, k1, k3, k5, k6, k7, k8, k9⟩ := ih _ _ _ h9 (sl := sl') rfl h3 (lk_end h3 h4 h8) h4.num.symm h2 (h5.trans h7)
    exact ⟨N + N₂, gs₂, g₂, w₂, sl₂, T₂, q₂, δ₂, I₂, runNT_then h1 k1, k3, k5, k6, k7, h6.trans k8, k9⟩
theorem sw_run {f : FuncId} {args : Array Value} {W : World} {R : Value -> Hp -> Prop} (hini : P.inits.idxOf? f = none)
    (hc : CallW P true (SwS P) f args W.heap ⟨0, 1⟩ fun
      | .ret v, h', δ' => δ'.d = 0 /\ R v h'
      | .pan _, _, _ => False) :
    ∃ M last o w' t', runNT P (M + 1) (solo (G (Frame.enter P f args .normal) []) W) #[] = (.ended o w', t') /\ runN P M (solo (G (Frame.enter P f args .normal) []) W) = .next last /\ step P last = .ended o w' /\
      Conc.Good P (fun v W' => R v W'.heap /\ Same W W') last o w' t' := by
  obtain ⟨N, gs, g', w, sl, T, q, δ, I, hr, hg, F, hI, hd, hs, a, todo, mode, fn, rfl, hda, hf, hend⟩ := company_sw (hc .normal (by simp) []) (sl := none) (w := W) rfl (fr_one P _ W) (fun i _ => rfl) rfl rfl rfl
  rcases hend with ⟨rfl, v, hv, hd0, hR⟩ | ⟨_, _, hp⟩
  · obtain ⟨N₂, gs₂, d, d', sl₂, sl₃, T₂, q₂, hr₂, hst, hsz, ha₂, F₂, hd₂⟩ := F.picked (sl := sl) hg rfl
    obtain ⟨es, hrun, hes⟩ := hv (w.at d') rfl
    have hend := stepG_last (w := w.at d') (todo := todo) hda hf hini hrun
    have hrt := runT_many_ended (P := P) (sl := sl₃) (i := 0) ha₂ hend
    have hops : ∀ op ∈ MemOp.ofEvents 0 f (G { (fb f .normal).at a todo with mode := .returning } []).frame.place (seen P f es), op.g = 0 := fun op hop => by obtain ⟨e, _, rfl⟩ := Go.Conc.mem_ofEvents hop; rfl
    have hTr : Tr 0 (loOf 0 I) (stOf I) (T₂ ++ MemOp.ofEvents 0 f (G { (fb f .normal).at a todo with mode := .returning } []).frame.place (seen P f es)) :=
      F₂.tr.own (fun x => x.1 rfl) hops fun op hop b hb g hg' hS => by
        have := hg'.2
        rw [hI g hg'.1] at this
        cases this
    refine ⟨N + N₂, _, .done v, w.at d', _, runNT_succ_end (runNT_then hr hr₂) (hst.trans hrt), runN_of_runNT _ _ _ _ _ (runNT_then hr hr₂), ?_, v, rfl, ⟨hR, hs.trans (same_at w d')⟩, hTr.clean, tr_over hTr hI, ⟨fun x hx => ?_, rfl⟩, fun j x hx hj => ?_⟩
    · rw [step, hst, hrt]
    · obtain ⟨j, hj⟩ := List.mem_iff_getElem?.1 hx
      rw [List.getElem?_drop] at hj
      have hid := F₂.idle (1 + j) x (by omega) (by simpa [crowd] using hj)
      rw [hI _ (by omega)] at hid
      exact ⟨_, hid.2.leaves⟩
    · have hid := F₂.idle j x hj hx
      rw [hI j hj] at hid
      refine ⟨q₂ j, ?_⟩
      have e : (T₂ ++ MemOp.ofEvents 0 f (G { (fb f .normal).at a todo with mode := .returning } []).frame.place (seen P f es)).deaf j (T₂ ++ MemOp.ofEvents 0 f (G { (fb f .normal).at a todo with mode := .returning } []).frame.place (seen P f es)).size = Deaf T₂ j :=
        Deaf_other T₂ (g := j) (g' := 0) (Ne.symm hj) _ hops
      rw [show (G { (fb f .normal).at a todo with mode := .returning } []).frame.fn = f from rfl, e]
      exact hid.2.hears _
  · exact hp.elim
end
end
end Go.TJ
namespace Go.Proofs.Ytcpcdnkemobneaa
section
open Go Go.TJ Go.Conc Go.Proofs
section
variable {base : Nat} {Mm : Mem Nat} {cs : Nat -> Prop} {v1 : Nat -> Int} {c0 p0 k0 : Nat} {cl : GCall -> (GAns -> Pr GAns) -> Pr GAns} {sc : List (List GCall)} {hN : Hp} {pB sB S0 T : Nat} {n0 pk tk : Int} {scv pv pv2 bv : Value} {iBs : List Nat} {picks : List Int}
abbrev u0S (pk : Int) : (Nat -> List GAns × Value) × Xs := (fun _ => ([], nilS), (0, pk, 0, false))
set_option maxRecDepth 8000 in
set_option maxHeartbeats 4000000 in
theorem srun_ok (x : SPre base Mm cs v1 c0 p0 k0 sc hN pB sB S0 T n0 pk tk scv pv pv2 bv iBs picks) (hb : base <= hN.size) (hcall : CallOk (tcG Mm cs cl sc hN T S0 c0 p0 k0 pv2 bv) cl) {v0 : Nat -> Int} (hv0 : ∀ k, cs k -> v0 (Mm.B k) = v1 k) :
    CallW Try.prog true (SwS Try.prog) 17 #[pv2, .int .i64 16384, bv] hN ⟨0, 1⟩ (Ret fun v h' δ' => (∃ m, δ' = ⟨0, m⟩) /\ ∃ (p : PS (UsT (tcG Mm cs cl sc hN T S0 c0 p0 k0 pv2 bv)).U) (e : Int) (lL lW lY lV : Value), v = .agg (repL e p.log.length lL lW lY lV).toArray /\ Ended (UsT (tcG Mm cs cl sc hN T S0 c0 p0 k0 pv2 bv)) v0 picks sc.length 16384 p e lL lW lY lV h' /\ Upd (fun b => (UsT (tcG Mm cs cl sc hN T S0 c0 p0 k0 pv2 bv)).isC b \/ (UsT (tcG Mm cs cl sc hN T S0 c0 p0 k0 pv2 bv)).Dom (u0S pk) b) hN h') := by
  have E := senv_of (cl := cl) x hb
  have hX : (UsT (tcG Mm cs cl sc hN T S0 c0 p0 k0 pv2 bv)).Ok := E.K.ok
  have hnD : ∀ c, (UsT (tcG Mm cs cl sc hN T S0 c0 p0 k0 pv2 bv)).Dom (u0S pk) c -> (tcG Mm cs cl sc hN T S0 c0 p0 k0 pv2 bv).old c := fun c hc => hc.elim id (fun ⟨_, i, _, e⟩ => by cases e)
  have lb : (iBs.map fun b => ((116, #[ptr pB, ptr b, ptr sB]) : FuncId × Array Value)).length = sc.length := by rw [List.length_map]; exact x.ib
  have hI0 : ToldI (tcG Mm cs cl sc hN T S0 c0 p0 k0 pv2 bv) (u0S pk) hN := by
    refine ⟨fun b _ _ _ => rfl, x.st, ?_, fun i hi => SliceO.nil, fun i b hi e => (by cases e), fun i j b hi hj e => (by cases e)⟩
    have := x.t
    show hN[T]? = some (.cells ((List.range sc.length).map fun i => nilS).toArray _ (0, 0))
    rw [this]
    congr 2
    rw [List.map_const', List.length_range]
  have hrun := runG (X := UsT (tcG Mm cs cl sc hN T S0 c0 p0 k0 pv2 bv)) (γ := ⟨psZ 0 0 v0 (u0S pk), psZ 0 0 v0 (u0S pk), hN, fun _ => False, 0⟩) (h := hN) hX (v0 := v0) (u0 := u0S pk) (picks := picks) (m := 16384) (bods := iBs.map fun b => (116, #[ptr pB, ptr b, ptr sB])) (sP := pv2) (sB := bv) rfl (by decide) (by decide)
    (fun b hb => by
      obtain ⟨k, hk, rfl⟩ := hb
      rw [hv0 k hk]; exact x.cell hk)
    (fun b hb => (hnD b hb).1) hI0 trivial (fun i => ⟨_, .nil _, rfl⟩) (by rw [lb]; have := x.l8; omega)
    (by rw [lb, List.map_map]; exact x.bods)
    (fun c hc => ⟨fun ⟨k, hk, e⟩ => sliceO_ne x.bods (x.cell hk) (by decide) c hc e, fun hd => (hnD c hd).2.2 (.inl hc)⟩)
    x.pk
    (fun c hc => ⟨fun ⟨k, hk, e⟩ => sliceO_ne x.pk (x.cell hk) (by decide) c hc e, fun hd => (hnD c hd).2.2 (.inr hc)⟩)
    (fun k q hq => by
      rw [List.getElem?_map] at hq
      obtain ⟨b, hb, rfl⟩ := Option.map_eq_some_iff.1 hq
      obtain ⟨r1, r2⟩ := x.ibx k b hb
      have hk : k < sc.length := by rw [<- x.ib]; exact (take_mid hb).2.2
      obtain ⟨l, hl⟩ : ∃ l, sc[k]? = some l := ⟨_, List.getElem?_eq_getElem hk⟩
      exact ⟨inferInstance, sbody_ok E hcall ⟨⟨lt_of_get r1, x.notC r1 (by decide), fun e => e.elim (fun e => sliceO_ne x.bods r1 (by decide) b e rfl) r2⟩, x.neT r1 (by decide), x.neS r1 (by decide), r1⟩ hl⟩)
  refine CallW.sw (px_ok hX) rfl (hrun.mono ?_)
  rintro (v | ps) h' δ' y
  · obtain ⟨γ', p, e, lL, lW, lY, lV, rfl, h1, h2, h3, h4, h5⟩ := y
    rw [lb] at h4
    exact ⟨rfl, h2, ⟨_, rfl⟩, p, e, lL, lW, lY, lV, h3, h4, h5⟩
  · exact y.elim
end
end
section
open Go Go.TJ Go.Proofs
structure RowI (h0 : Hp) (E : Mem Nat) (T : Nat) (tT tE : TypeId) (c0 : Array Value) (q : Nat) (h : Hp) (M : Mem Nat) (i : Nat) (s : Value) : Prop where
  rep : Rep h M
  upd : Upd (fun _ => False) h0 h
  above : ∀ k, M.ok k -> h0.size <= M.B k
  top : M.ok 0 /\ M.O 0 = .cells (c0.setIfInBounds q s) tT (0, 0)
  topB : M.B 0 = T
  ext : ∀ k, k = 2 \/ k = 3 -> (M.ok k ↔ E.ok k) /\ M.B k = E.B k /\ M.O k = E.O k
  sl : M.Sl 1 s tE 1 i ((List.range i).map fun j => ptr (M.B (4 + j)))
  cells : ∀ j, j < i -> M.ok (4 + j) /\ M.O (4 + j) = cellO 0
  rest : ∀ j, i <= j -> ¬ M.ok (4 + j)
theorem RowI.step {h0 : Hp} {E : Mem Nat} {T : Nat} {tT tE : TypeId} {c0 : Array Value} {q : Nat} {h : Hp} {M : Mem Nat} {i : Nat} {s s' : Value} {lit : Obj} {h5 : Hp} (x : RowI h0 E T tT tE c0 q h M i s)
    (hs : SliceO h5 s' tE 1 (i + 1) (((List.range i).map fun j => ptr (M.B (4 + j))) ++ [ptr h.size])) (u : Upd (fun b => blk s = some b) ((h.push (cellO 0)).push lit) h5) (hb : ∀ b, blk s' = some b -> blk s = some b \/ b = ((h.push (cellO 0)).push lit).size) :
    (∀ b, blk s = some b -> b ≠ T) /\ h5[T]? = some (.cells (c0.setIfInBounds q s) tT (0, 0)) /\ ∃ M', RowI h0 E T tT tE c0 q (hset h5 ⟨T, q, none⟩ s') M' (i + 1) s' := by
  have r1 := x.rep.put (4 + i) (cellO 0)
  have r2 := r1.upd0 (Upd.push _ lit)
  have sl1 := (x.sl.put (j := 4 + i) (by omega) h.size (cellO 0))
  obtain ⟨b, o, r3, sl3, hb', hlt⟩ := r2.app sl1 hs u hb
  have hTs : ∀ b, blk s = some b -> b ≠ T := fun b hb e => by
    obtain ⟨hk, e'⟩ := x.sl.blk hb
    have := x.rep.inj 1 0 hk x.top.1 (by rw [x.topB, <- e', e])
    cases this
  have t5 : h5[T]? = some (.cells (c0.setIfInBounds q s) tT (0, 0)) := u.get (get_push _ (get_push _ (x.topB ▸ x.rep.get x.top.1 x.top.2))) (fun y => hTs _ y rfl)
  refine ⟨hTs, t5, ?_⟩
  have hsz : h.size <= ((h.push (cellO 0)).push lit).size := by simp; omega
  have hab : h0.size <= b := by
    rcases hb' with ⟨hk, e⟩ | y
    · have hk' : M.ok 1 := by
        rcases hk with y | y
        · omega
        · exact y
      have := x.above 1 hk'
      rw [e]
      show h0.size <= ut M.B (4 + i) h.size 1
      rw [ut_ne _ _ (by omega)]
      exact this
    · have := x.upd.size; omega
  have okT : ((M.put (4 + i) h.size (cellO 0)).put 1 b o).ok 0 := .inr (.inr x.top.1)
  have oT : ((M.put (4 + i) h.size (cellO 0)).put 1 b o).O 0 = .cells (c0.setIfInBounds q s) tT (0, 0) := by
    show ut (ut M.O (4 + i) (cellO 0)) 1 o 0 = _
    rw [ut_ne _ _ (by omega), ut_ne _ _ (by omega)]; exact x.top.2
  have bT : ((M.put (4 + i) h.size (cellO 0)).put 1 b o).B 0 = T := by
    show ut (ut M.B (4 + i) h.size) 1 b 0 = _
    rw [ut_ne _ _ (by omega), ut_ne _ _ (by omega)]; exact x.topB
  have r4 := r3.hset okT oT q s'
  rw [bT] at r4
  have hge : ∀ b, blk s = some b -> h0.size <= b := fun b hb => by
    obtain ⟨hk, e⟩ := x.sl.blk hb
    rw [e]; exact x.above _ hk
  have hT : h0.size <= T := x.topB ▸ x.above 0 x.top.1
  have e1 : (List.range (i + 1)).map (fun j => ptr (((M.put (4 + i) h.size (cellO 0)).put 1 b o).B (4 + j))) = ((List.range i).map fun j => ptr (M.B (4 + j))) ++ [ptr h.size] := by
    rw [List.range_succ, List.map_append]
    congr 1
    · refine List.map_congr_left fun j hj => ?_
      have hj := List.mem_range.mp hj
      show ptr (ut (ut M.B (4 + i) h.size) 1 b (4 + j)) = _
      rw [ut_ne _ _ (by omega), ut_ne _ _ (by omega)]
    · show [ptr (ut (ut M.B (4 + i) h.size) 1 b (4 + i))] = _
      rw [ut_ne _ _ (by omega), ut_same]
  refine ⟨_, r4, ((x.upd.trans ((Upd.push _ _).trans (Upd.push _ _))).over u hge).over (Upd.hset (T := fun b => b = T) _ _ _ rfl) (fun b hb => by omega), fun k hk => ?_, ⟨okT, ?_⟩, bT, fun k hk => ?_, ?_, fun j hj => ?_, fun j hj => ?_⟩
  · show h0.size <= ut (ut M.B (4 + i) h.size) 1 b k
    by_cases k1 : k = 1
    · subst k1; rw [ut_same]; exact hab
    · by_cases k2 : k = 4 + i
      · subst k2; rw [ut_ne _ _ k1, ut_same]; exact x.upd.size
      · rw [ut_ne _ _ k1, ut_ne _ _ k2]
        rcases hk with y | y | y
        · exact absurd y k1
        · exact absurd y k2
        · exact x.above k y
  · rw [Array.setIfInBounds_setIfInBounds]
    simp [Mem.set, ut]
  · have k0 : k ≠ 0 := by omega
    have k1 : k ≠ 1 := by omega
    have k2 : k ≠ 4 + i := by omega
    obtain ⟨a, b, c⟩ := x.ext k hk
    refine ⟨⟨fun y => a.1 ?_, fun y => .inr (.inr (a.2 y))⟩, ?_, ?_⟩
    · rcases y with y | y | y
      · exact absurd y k1
      · exact absurd y k2
      · exact y
    · show ut (ut M.B (4 + i) _) 1 _ k = _
      rw [ut_ne _ _ k1, ut_ne _ _ k2]; exact b
    · show ut (ut (ut M.O (4 + i) (cellO 0)) 1 o) 0 _ k = _
      rw [ut_ne _ _ k0, ut_ne _ _ k1, ut_ne _ _ k2]; exact c
  · show (Mem.set _ 0 _).Sl 1 s' tE 1 (i + 1) ((List.range (i + 1)).map (fun j => ptr (((M.put (4 + i) h.size (cellO 0)).put 1 b o).B (4 + j))))
    rw [e1]
    exact sl3.set (by omega) _
  · refine ⟨?_, ?_⟩
    · by_cases hji : j = i
      · subst hji; exact .inr (.inl rfl)
      · exact .inr (.inr (x.cells j (by omega)).1)
    · show ut (ut (ut M.O (4 + i) (cellO 0)) 1 o) 0 _ (4 + j) = _
      rw [ut_ne _ _ (by omega), ut_ne _ _ (by omega)]
      by_cases hji : j = i
      · subst hji; rw [ut_same]
      · rw [ut_ne _ _ (by omega)]; exact (x.cells j (by omega)).2
  · rintro (y | y | y)
    · omega
    · omega
    · exact x.rest j (by omega) y
theorem RowI.reads {h0 : Hp} {E : Mem Nat} {T : Nat} {tT tE : TypeId} {c0 : Array Value} {q : Nat} {h : Hp} {M : Mem Nat} {i : Nat} {s : Value} (x : RowI h0 E T tT tE c0 q h M i s) (hq : q < c0.size) : hcell h ⟨T, q, none⟩ = some s :=
  hcell_of (x.topB ▸ x.rep.get x.top.1 x.top.2) (by simp [hq])
end
section
open Go Go.TJ Go.Proofs
def cntM (n cap : Nat) (rest : List Value) (B : Nat -> Nat) (v : Nat -> Int) : Mem Nat := ⟨fun k => k = 0 \/ k = 1 \/ (4 <= k /\ k < 4 + n), B, fun k =>
  if k = 0 then .cells #[.slice (some ⟨B 1, 0, none⟩) n cap] 324 (0, 0)
  else if k = 1 then .cells (((List.range n).map fun j => ptr (B (4 + j))) ++ rest).toArray 220 (0, 0)
  else cellO (v (k - 4))⟩
section
variable {Γ : Type} {main : Bool} {S : Sit Γ} {h : Hp} {δ : Ix Γ}
structure RS where
  i : Nat
  M : Mem Nat
  s : Value
set_option maxRecDepth 8000 in
set_option maxHeartbeats 4000000 in
theorem cntnew_ok {n : Nat} (hn1 : 1 <= n) (hn : n <= 64) (hF : ∀ b o, h.size <= b -> ¬ S.still δ.g ⟨b, o, none⟩) :
    CallW Try.prog main S 107 #[.int .i64 n] h δ (Ret fun w h' δ' => δ' = δ /\ Upd (fun _ => False) h h' /\ ∃ cap rest B, w = .tuple #[ptr (B 0), .int .i64 0] /\ Rep h' (cntM n cap rest B fun _ => 0) /\ ∀ k, k = 0 \/ k = 1 \/ (4 <= k /\ k < 4 + n) -> h.size <= B k) := by
  refine CallW.start (n := 28) rfl rfl ?_
  (repeat (first | refine EK.seq ?_ | refine EK.region ?_ | refine ER.done ?_ | refine EK.skip ?_ | refine ER.move rfl rfl rfl ?_ | refine ER.assign rfl rfl rfl ?_ | refine ER.pickF rfl rfl rfl rfl ?_ | refine ER.cmpF rfl rfl rfl rfl rfl (by first | (dsimp only [cmpP]; omega) | exact rfl | exact Int.le_refl _) ?_ | refine EK.condF rfl ?_))
  refine ER.buildS (cells := #[nilS]) rfl rfl rfl rfl ?_
  (repeat (first | refine EK.seq ?_ | refine EK.region ?_ | refine ER.done ?_ | refine EK.block ?_ | refine ER.move rfl rfl rfl ?_ | refine ER.assign rfl rfl rfl ?_ | refine ER.boxA rfl rfl rfl ?_))
  have x0 : RowI h Mem.emp h.size 324 220 #[nilS] 0 (h.push (.cells #[nilS] 324)) (Mem.emp.put 0 h.size (.cells #[nilS] 324)) 0 nilS := by
    refine ⟨Rep.emp.put _ _, Upd.push _ _, fun k hk => ?_, ⟨.inl rfl, ?_⟩, ?_, fun k hk => ⟨⟨fun y => ?_, fun y => .inr y⟩, ?_, ?_⟩, Mem.Sl.nil ?_, fun q hq => by omega, fun q _ hk => ?_⟩
    · rcases hk with rfl | hk
      · simp [Mem.put, ut]
      · exact hk.elim
    · simp [Mem.put, ut]
    · simp [Mem.put, ut]
    · rcases y with y | y
      · omega
      · exact y
    · show ut _ _ _ _ = _
      exact ut_ne _ _ (by omega)
    · show ut _ _ _ _ = _
      exact ut_ne _ _ (by omega)
    · simp [Mem.put, Mem.emp]
    · simp [Mem.put, Mem.emp] at hk
  generalize hT : h.size = T at x0 ⊢
  change EK _ _ _ _ _ _ _ _ (h.push (.cells #[nilS] 324)) _ _
  generalize h.push (.cells #[nilS] 324) = h1 at x0 ⊢
  refine EK.loopInv (fun t : RS => [(14, .int .i64 t.i), (13, .int .i64 n), (4, ptr T), (0, .int .i64 n)]) (fun t h' δ' => δ' = δ /\ t.i <= n /\ RowI h Mem.emp T 324 220 #[nilS] 0 h' t.M t.i t.s) (fun t => n - t.i) ⟨0, _, nilS⟩ ⟨rfl, rfl, rfl, rfl, trivial⟩ ⟨rfl, Nat.zero_le _, x0⟩ ?_
  clear x0 h1
  rintro ⟨i, M, s⟩ h1 δ1 ⟨hδ1, hi, x⟩ again
  dsimp only at hi x again ⊢
  obtain rfl : δ = δ1 := hδ1.symm
  have hsz := x.upd.size
  by_cases hin : i < n
  · (repeat (first | refine EK.seq ?_ | refine EK.region ?_ | refine ER.done ?_ | refine EK.skip ?_ | refine EK.block ?_ | refine ER.cmpT rfl rfl rfl rfl rfl (by first | (dsimp only [cmpP]; omega) | exact rfl | exact Int.le_refl _) ?_ | refine EK.condT rfl ?_))
    have cS : hcell h1 ⟨T, 0, none⟩ = some s := x.reads (by simp)
    refine EK.regionAnyL (fun h' => hcell h' ⟨T, 0, none⟩ = some s) 10 ?_
    have hZ := cS
    refine EA.tMove 0 rfl (by kernel_rfl) rfl rfl rfl rfl hZ ?_
    refine EA.tMove 1 rfl (by kernel_rfl) rfl rfl rfl rfl hZ ?_
    refine EA.tNil 2 rfl (by kernel_rfl) rfl rfl rfl rfl hZ ?_
    refine EA.tField 3 rfl (by kernel_rfl) rfl rfl rfl rfl hZ ?_
    refine EA.tLoad 4 rfl (by kernel_rfl) rfl rfl rfl rfl (fun _ hz => hz) hZ ?_
    refine EA.callD 5 rfl (by kernel_rfl) rfl rfl rfl rfl rfl rfl (cnewS (hF _ _ hsz)) (hcell_push hZ) ?_
    refine EA.val (v := .slice (some ⟨(h1.push (cellO 0)).size, 0, none⟩) 1 1) (h' := (h1.push (cellO 0)).push (.cells #[ptr h1.size] 220)) 6 rfl (by kernel_rfl) rfl rfl rfl (fun ρ Q X hρ hq => sem_slice1 (sz := 1) hρ rfl (by omega) (by omega) rfl rfl hq) (hcell_push (hcell_push hZ)) ?_
    have r4 := (x.rep.put (4 + i) (cellO 0)).upd0 (Upd.push (h1.push (cellO 0)) (.cells #[ptr h1.size] 220))
    refine EA.append1 (new := [ptr h1.size]) 7 rfl (by kernel_rfl) rfl rfl rfl rfl rfl ((x.sl.put (j := 4 + i) (by omega) h1.size (cellO 0)).slice r4) (get_push_new _ _) rfl (by simp [OneCell]) (by omega) (by omega) rfl (fun b o hb => hF _ _ (by
      obtain ⟨hk, e⟩ := x.sl.blk hb
      rw [e]; exact x.above _ hk)) ?_
    intro s' h5 hs5 u5 hb5
    obtain ⟨hTs, t5, M', x'⟩ := x.step hs5 u5 hb5
    have c5 : hcell h5 ⟨T, 0, none⟩ = some s := hcell_of t5 rfl
    obtain ⟨a5, k5, es5⟩ := hs5.val
    refine ⟨c5, ?_⟩
    refine EA.val 8 rfl (by kernel_rfl) rfl rfl rfl (fun ρ Q X hρ hq => sem_nilCheck (hρ _ _ rfl) hq) c5 ?_
    have hZ := c5
    refine EA.tField 9 rfl (by kernel_rfl) rfl rfl rfl rfl hZ ?_
    refine EA.unitL (h' := hset h5 ⟨T, 0, none⟩ s') 10 rfl (by kernel_rfl) rfl rfl rfl (fun ρ Q X hρ hq => sem_store1 (hρ _ _ rfl) (hρ _ _ rfl) (by rw [es5]; exact ⟨nofun, nofun⟩) ⟨_, c5⟩ (hfroz_of t5) (hF _ _ (x.topB ▸ x.above 0 x.top.1)) hq) ?_
    refine EA.done (by kernel_rfl) ?_
    (repeat (first | refine EK.region ?_ | refine ER.done ?_ | refine EK.inBlock ?_ | refine ER.move rfl rfl rfl ?_ | refine ER.add (kd := .i64) rfl rfl rfl rfl (i64_in (by omega) (by omega)) ?_))
    exact EK.back (again ⟨i + 1, M', s'⟩ _ _ (by dsimp only; omega) ⟨rfl, by dsimp only; omega, x'⟩) ⟨rfl, rfl, rfl, rfl, trivial⟩
  · obtain rfl : i = n := by omega
    clear again
    (repeat (first | refine EK.seq ?_ | refine EK.region ?_ | refine ER.done ?_ | refine ER.move rfl rfl rfl ?_ | refine ER.assign rfl rfl rfl ?_ | refine ER.cmpF rfl rfl rfl rfl rfl (by first | (dsimp only [cmpP]; omega) | exact rfl | exact Int.le_refl _) ?_ | refine EK.condF rfl ?_ | refine EK.ret ?_ | refine EK.exit rfl ?_))
    have h1T := x.topB
    obtain ⟨hl, ⟨_, hz, _⟩ | ⟨k1, cap, rest, rfl, hc1, hc2, hc3⟩⟩ := x.sl
    · omega
    · refine EU.ret2 rfl rfl rfl ⟨rfl, x.upd, cap, rest, M.B, by rw [h1T], ?_, fun k hk => ?_⟩
      · refine x.rep.congr (fun k hk => ?_) (fun _ _ => rfl) (fun k hk => ?_)
        · rcases hk with rfl | rfl | hk
          · exact x.top.1
          · exact k1
          · have := (x.cells (k - 4) (by omega)).1
            rwa [show 4 + (k - 4) = k by omega] at this
        · unfold cntM
          dsimp only
          rcases hk with rfl | rfl | hk
          · rw [if_pos rfl, x.top.2]; rfl
          · rw [if_neg (by decide), if_pos rfl, hc3]
          · rw [if_neg (by omega), if_neg (by omega)]
            have := (x.cells (k - 4) (by omega)).2
            rw [show 4 + (k - 4) = k by omega] at this
            exact this.symm
      · rw [<- hT]
        refine x.above k ?_
        rcases hk with rfl | rfl | hk
        · exact x.top.1
        · exact k1
        · have := (x.cells (k - 4) (by omega)).1
          rwa [show 4 + (k - 4) = k by omega] at this
theorem ticknew_ok {n : Int} (hn : 0 <= n) (hF : ∀ b o, h.size <= b -> ¬ S.still δ.g ⟨b, o, none⟩) : CallW Try.prog main S 108 #[.int .i64 n] h δ (Ret (Det (.tuple #[ptr (h.size + 1), .int .i64 0]) ((h.push (cellO n)).push (.cells #[.int .i64 n, ptr h.size] 326)) δ)) := by
  refine CallW.start (n := 11) rfl rfl ?_
  (repeat (first | refine EK.seq ?_ | refine EK.region ?_ | refine ER.done ?_ | refine EK.skip ?_ | refine ER.move rfl rfl rfl ?_ | refine ER.assign rfl rfl rfl ?_ | refine ER.cmpF rfl rfl rfl rfl rfl (by first | (dsimp only [cmpP]; omega) | exact rfl | exact Int.le_refl _) ?_ | refine EK.condF rfl ?_))
  refine ER.callD rfl rfl rfl rfl rfl (cnewS (hF _ _ (Nat.le_refl _))) ?_
  refine ER.buildS (cells := #[.int .i64 n, ptr h.size]) rfl rfl rfl rfl ?_
  (repeat (first | refine ER.done ?_ | refine ER.assign rfl rfl rfl ?_ | refine ER.boxA rfl rfl rfl ?_ | refine EK.ret ?_))
  exact EU.ret2 rfl rfl rfl ⟨by simp, rfl, rfl⟩
theorem peaknew_ok {n : Int} (hF : ∀ b o, h.size <= b -> ¬ S.still δ.g ⟨b, o, none⟩) : CallW Try.prog main S 109 #[.int .i64 n] h δ (Ret (Det (ptr (h.size + 1)) ((h.push (cellO n)).push (.cells #[ptr h.size] 328)) δ)) := by
  refine CallW.start (n := 7) rfl rfl ?_
  (repeat (first | refine EK.seq ?_ | refine EK.region ?_ | refine ER.done ?_ | refine ER.move rfl rfl rfl ?_ | refine ER.assign rfl rfl rfl ?_))
  refine ER.callD rfl rfl rfl rfl rfl (cnewS (hF _ _ (Nat.le_refl _))) ?_
  refine ER.buildS (cells := #[ptr h.size]) rfl rfl rfl rfl ?_
  (repeat (first | refine ER.done ?_ | refine ER.assign rfl rfl rfl ?_ | refine ER.boxA rfl rfl rfl ?_ | refine EK.ret ?_))
  exact EU.ret1 rfl rfl ⟨by simp, rfl, rfl⟩
theorem tleft_ok {K c : Nat} {x : Int} (hc : hcell h ⟨K, 1, none⟩ = some (ptr c)) (hv : h[c]? = some (cellO x)) : CallW Try.prog main S 115 #[ptr K, .pointer none] h δ (Ret (Det (.int .i64 x) h δ)) := by
  refine CallW.start (n := 13) rfl rfl ?_
  (repeat (first | refine EK.seq ?_ | refine EK.region ?_ | refine ER.done ?_ | refine EK.skip ?_ | refine ER.move rfl rfl rfl ?_ | refine ER.assign rfl rfl rfl ?_ | refine ER.nilCheck rfl rfl rfl ?_ | refine ER.fieldAddr rfl rfl rfl ?_ | refine ER.eqV rfl rfl rfl rfl rfl ?_ | refine EK.condF rfl ?_ | refine ER.load1 rfl rfl rfl (by assumption) ?_))
  refine ER.callD rfl rfl rfl rfl rfl (cload hv) ?_
  (repeat (first | refine ER.done ?_ | refine ER.assign rfl rfl rfl ?_ | refine EK.ret ?_))
  exact EU.ret1 rfl rfl det
end
end
section
open Go Go.TJ Go.Proofs
theorem cnt_top {h : Hp} {n cap : Nat} {rest : List Value} {B : Nat -> Nat} {v : Nat -> Int} (r : Rep h (cntM n cap rest B v)) : hcell h ⟨B 0, 0, none⟩ = some (.slice (some ⟨B 1, 0, none⟩) n cap) := r.cell (k := 0) (.inl rfl) rfl rfl
theorem cnt_row {h : Hp} {n cap : Nat} {rest : List Value} {B : Nat -> Nat} {v : Nat -> Int} (r : Rep h (cntM n cap rest B v)) {j : Nat} (hj : j < n) : hcell h ⟨B 1, 0 + j * 1, none⟩ = some (ptr (B (4 + j))) := r.cell (k := 1) (.inr (.inl rfl)) rfl (by
  rw [show 0 + j * 1 = j by omega]
  simp only [List.getElem?_toArray]
  rw [List.getElem?_append_left (by simp; omega)]
  simp [hj])
theorem cnt_cell {h : Hp} {n cap : Nat} {rest : List Value} {B : Nat -> Nat} {v : Nat -> Int} (r : Rep h (cntM n cap rest B v)) {j : Nat} (hj : j < n) : h[B (4 + j)]? = some (cellO (v j)) := r.get (k := 4 + j) (.inr (.inr ⟨by omega, by omega⟩)) (by
  show (if 4 + j = 0 then _ else if 4 + j = 1 then _ else cellO (v (4 + j - 4))) = _
  rw [if_neg (by omega), if_neg (by omega), show 4 + j - 4 = j by omega])
theorem cnt_set {h : Hp} {n cap : Nat} {rest : List Value} {B : Nat -> Nat} {v : Nat -> Int} (r : Rep h (cntM n cap rest B v)) {j : Nat} (hj : j < n) (x : Int) : Rep (h.setIfInBounds (B (4 + j)) (cellO x)) (cntM n cap rest B (ut v j x)) := by
  refine (r.set (k := 4 + j) (.inr (.inr ⟨by omega, by omega⟩)) (cellO x)).congr (fun _ hk => hk) (fun _ _ => rfl) (fun k hk => ?_)
  show (cntM n cap rest B (ut v j x)).O k = ut (cntM n cap rest B v).O (4 + j) (cellO x) k
  by_cases e : k = 4 + j
  · subst e
    rw [ut_same]
    show (if 4 + j = 0 then _ else if 4 + j = 1 then _ else cellO (ut v j x (4 + j - 4))) = _
    rw [if_neg (by omega), if_neg (by omega), show 4 + j - 4 = j by omega, ut_same]
  · rw [ut_ne _ _ e]
    show (if k = 0 then _ else if k = 1 then _ else cellO (ut v j x (k - 4))) = (if k = 0 then _ else if k = 1 then _ else cellO (v (k - 4)))
    by_cases k0 : k = 0
    · rw [if_pos k0, if_pos k0]
    · by_cases k1 : k = 1
      · rw [if_neg k0, if_pos k1, if_neg k0, if_pos k1]
      · have hk' : 4 <= k /\ k < 4 + n := by
          rcases hk with y | y | y
          · exact absurd y k0
          · exact absurd y k1
          · exact y
        rw [if_neg k0, if_neg k1, if_neg k0, if_neg k1, ut_ne _ _ (by omega)]
section
variable {Γ : Type} {main : Bool} {S : Sit Γ} {h : Hp} {δ : Ix Γ}
set_option maxRecDepth 8000 in
set_option maxHeartbeats 4000000 in
theorem cntadd_ok {n cap j : Nat} {rest : List Value} {B : Nat -> Nat} {v : Nat -> Int} {who d x : Int} (r : Rep h (cntM n cap rest B v)) (hn : 1 <= n) (hn1 : n <= 64) (hj : j < n) (hw : (who.tmod n + n).tmod n = j) (hx : IntKind.i64.wrap (v j + d) = x) (hS : ∀ o, ¬ S.still δ.g ⟨B (4 + j), o, none⟩) :
    CallW Try.prog main S 110 #[ptr (B 0), .pointer none, .int .i64 who, .int .i64 d] h δ (Ret (Det (.int .i64 0) (h.setIfInBounds (B (4 + j)) (cellO x)) δ)) := by
  have c0 := cnt_top r
  have hb : -(n : Int) < who.tmod n /\ who.tmod n < n := by
    rcases Int.lt_or_le who 0 with y | y
    · have e : who = -(-who) := by omega
      rw [e, Int.neg_tmod, Int.tmod_eq_emod_of_nonneg (by omega)]
      have := Int.emod_nonneg (-who) (by omega : (n : Int) ≠ 0)
      have := Int.emod_lt_of_pos (-who) (by omega : 0 < (n : Int))
      omega
    · rw [Int.tmod_eq_emod_of_nonneg y]
      have := Int.emod_nonneg who (by omega : (n : Int) ≠ 0)
      have := Int.emod_lt_of_pos who (by omega : 0 < (n : Int))
      omega
  refine CallW.start (n := 41) rfl rfl ?_
  (repeat (first | refine EK.seq ?_ | refine EK.region ?_ | refine ER.done ?_ | refine EK.skip ?_ | refine ER.move rfl rfl rfl ?_ | refine ER.assign rfl rfl rfl ?_ | refine ER.nilCheck rfl rfl rfl ?_ | refine ER.fieldAddr rfl rfl rfl ?_ | refine ER.eqV rfl rfl rfl rfl rfl ?_ | refine ER.pickF rfl rfl rfl rfl ?_ | refine ER.cmpF rfl rfl rfl rfl rfl (by first | (dsimp only [cmpP]; omega) | exact rfl | exact Int.le_refl _) ?_ | refine ER.len1 rfl rfl rfl ?_ | refine EK.condF rfl ?_ | refine ER.load1 rfl rfl rfl (by assumption) ?_))
  have cj := cnt_row r hj
  refine EK.regionAny (fun h' => hcell h' ⟨B 0, 0, none⟩ = some (.slice (some ⟨B 1, 0, none⟩) n cap) /\ hcell h' ⟨B 1, 0 + j * 1, none⟩ = some (ptr (B (4 + j)))) ?_
  have hZ := And.intro c0 cj
  refine EA.tMove 0 rfl (by kernel_rfl) rfl rfl rfl rfl hZ ?_
  refine EA.tNil 1 rfl (by kernel_rfl) rfl rfl rfl rfl hZ ?_
  refine EA.tField 2 rfl (by kernel_rfl) rfl rfl rfl rfl hZ ?_
  refine EA.tLoad 3 rfl (by kernel_rfl) rfl rfl rfl rfl (fun _ hz => hz.1) hZ ?_
  refine EA.tMove 4 rfl (by kernel_rfl) rfl rfl rfl rfl hZ ?_
  refine EA.tMove 5 rfl (by kernel_rfl) rfl rfl rfl rfl hZ ?_
  refine EA.tBinI (kd := .i64) (v := .int .i64 (who.tmod n)) 6 rfl (by kernel_rfl) rfl rfl rfl rfl rfl (Go.TJ.binOp_rem (by omega)) hZ ?_
  refine EA.tMove 7 rfl (by kernel_rfl) rfl rfl rfl rfl hZ ?_
  refine EA.tAdd (kd := .i64) 8 rfl (by kernel_rfl) rfl rfl rfl rfl rfl (i64_in (by omega) (by omega)) hZ ?_
  refine EA.tMove 9 rfl (by kernel_rfl) rfl rfl rfl rfl hZ ?_
  refine EA.tBinI (kd := .i64) (v := .int .i64 (j : Int)) 10 rfl (by kernel_rfl) rfl rfl rfl rfl rfl ((Go.TJ.binOp_rem (by omega)).trans (by rw [hw])) hZ ?_
  refine EA.tIdxS 11 rfl (by kernel_rfl) rfl rfl rfl rfl rfl (by omega) (by omega) hZ ?_
  refine EA.tLoad 12 rfl (by kernel_rfl) rfl rfl rfl rfl (fun _ hz => hz.2) hZ ?_
  refine EA.tMove 13 rfl (by kernel_rfl) rfl rfl rfl rfl hZ ?_
  refine EA.tMove 14 rfl (by kernel_rfl) rfl rfl rfl rfl hZ ?_
  refine EA.callD 15 rfl (by kernel_rfl) rfl rfl rfl rfl rfl rfl (cadd hx (cnt_cell r hj) hS) ⟨cnt_top (cnt_set r hj x), cnt_row (cnt_set r hj x) hj⟩ ?_
  refine EA.done (by kernel_rfl) ?_
  (repeat (first | refine EK.seq ?_ | refine EK.region ?_ | refine ER.done ?_ | refine ER.assign rfl rfl rfl ?_ | refine EK.ret ?_))
  exact EU.ret1 rfl rfl det
set_option maxRecDepth 8000 in
theorem cntsum_two {cap : Nat} {rest : List Value} {B : Nat -> Nat} {v : Nat -> Int} {a b : Int} (r : Rep h (cntM 2 cap rest B v)) (ha : v 0 = a) (hb : v 1 = b) (ha1 : 0 <= a) (ha2 : a <= 1000000) (hb1 : 0 <= b) (hb2 : b <= 1000000) :
    CallW Try.prog main S 111 #[ptr (B 0), .pointer none] h δ (Ret (Det (.int .i64 (a + b)) h δ)) := by
  have c0 := cnt_top r
  have r0 := cnt_row r (j := 0) (by omega)
  have r1 := cnt_row r (j := 1) (by omega)
  refine CallW.start (n := 30) rfl rfl ?_
  (repeat (first | refine EK.seq ?_ | refine EK.region ?_ | refine ER.done ?_ | refine EK.skip ?_ | refine EK.block ?_ | refine ER.move rfl rfl rfl ?_ | refine ER.assign rfl rfl rfl ?_ | refine ER.nilCheck rfl rfl rfl ?_ | refine ER.fieldAddr rfl rfl rfl ?_ | refine ER.eqV rfl rfl rfl rfl rfl ?_ | refine ER.len1 rfl rfl rfl ?_ | refine EK.condF rfl ?_ | refine ER.load1 rfl rfl rfl (by assumption) ?_))
  refine EK.loop ?_
  (repeat (first | refine EK.seq ?_ | refine EK.region ?_ | refine ER.done ?_ | refine EK.skip ?_ | refine EK.block ?_ | refine ER.move rfl rfl rfl ?_ | refine ER.assign rfl rfl rfl ?_ | refine ER.nilCheck rfl rfl rfl ?_ | refine ER.fieldAddr rfl rfl rfl ?_ | refine ER.cmpT rfl rfl rfl rfl rfl (by first | (dsimp only [cmpP]; omega) | exact rfl | exact Int.le_refl _) ?_ | refine ER.indexSl rfl rfl rfl rfl (by omega) (by omega) ?_ | refine EK.condT rfl ?_ | refine ER.load1 rfl rfl rfl (by assumption) ?_))
  refine ER.callD rfl rfl rfl rfl rfl (cload (ha ▸ cnt_cell r (j := 0) (by omega))) ?_
  (repeat (first | refine EK.region ?_ | refine ER.done ?_ | refine EK.inBlock ?_ | refine ER.move rfl rfl rfl ?_ | refine ER.assign rfl rfl rfl ?_ | refine ER.add (kd := .i64) rfl rfl rfl rfl (i64_in (by omega) (by omega)) ?_))
  refine EK.inLoop ?_
  (repeat (first | refine EK.seq ?_ | refine EK.region ?_ | refine ER.done ?_ | refine EK.skip ?_ | refine EK.block ?_ | refine ER.move rfl rfl rfl ?_ | refine ER.assign rfl rfl rfl ?_ | refine ER.nilCheck rfl rfl rfl ?_ | refine ER.fieldAddr rfl rfl rfl ?_ | refine ER.cmpT rfl rfl rfl rfl rfl (by first | (dsimp only [cmpP]; omega) | exact rfl | exact Int.le_refl _) ?_ | refine ER.indexSl rfl rfl rfl rfl (by omega) (by omega) ?_ | refine EK.condT rfl ?_ | refine ER.load1 rfl rfl rfl (by assumption) ?_))
  refine ER.callD rfl rfl rfl rfl rfl (cload (hb ▸ cnt_cell r (j := 1) (by omega))) ?_
  (repeat (first | refine EK.region ?_ | refine ER.done ?_ | refine EK.inBlock ?_ | refine ER.move rfl rfl rfl ?_ | refine ER.assign rfl rfl rfl ?_ | refine ER.add (kd := .i64) rfl rfl rfl rfl (i64_in (by omega) (by omega)) ?_))
  refine EK.inLoop ?_
  (repeat (first | refine EK.seq ?_ | refine EK.region ?_ | refine ER.done ?_ | refine ER.move rfl rfl rfl ?_ | refine ER.assign rfl rfl rfl ?_ | refine ER.cmpF rfl rfl rfl rfl rfl (by first | (dsimp only [cmpP]; omega) | exact rfl | exact Int.le_refl _) ?_ | refine EK.condF rfl ?_ | refine EK.ret ?_ | refine EK.exit rfl ?_))
  refine EU.ret1 rfl rfl ⟨?_, rfl, rfl⟩
  simp
theorem raise_up {p c : Nat} {x y : Int} (hp : hcell h ⟨p, 0, none⟩ = some (ptr c)) (hc : h[c]? = some (cellO x)) (hxy : x < y) (hS : ∀ o, ¬ S.still δ.g ⟨c, o, none⟩) :
    CallW Try.prog main S 112 #[ptr p, .pointer none, .int .i64 y] h δ (Ret (Det (.bool true) (h.setIfInBounds c (cellO y)) δ)) := by
  refine CallW.start (n := 43) rfl rfl ?_
  (repeat (first | refine EK.seq ?_ | refine EK.region ?_ | refine ER.done ?_ | refine EK.skip ?_ | refine ER.move rfl rfl rfl ?_ | refine ER.assign rfl rfl rfl ?_ | refine ER.nilCheck rfl rfl rfl ?_ | refine ER.fieldAddr rfl rfl rfl ?_ | refine ER.eqV rfl rfl rfl rfl rfl ?_ | refine ER.pickF rfl rfl rfl rfl ?_ | refine EK.condF rfl ?_ | refine ER.load1 rfl rfl rfl (by assumption) ?_ | refine EK.scope ?_ | refine EK.label ?_))
  refine ER.callD rfl rfl rfl rfl rfl (cload hc) ?_
  (repeat (first | refine ER.done ?_ | refine EK.block ?_ | refine ER.assign rfl rfl rfl ?_))
  refine EK.loop ?_
  (repeat (first | refine EK.seq ?_ | refine EK.region ?_ | refine ER.done ?_ | refine EK.skip ?_ | refine EK.block ?_ | refine ER.move rfl rfl rfl ?_ | refine ER.nilCheck rfl rfl rfl ?_ | refine ER.fieldAddr rfl rfl rfl ?_ | refine ER.cmpT rfl rfl rfl rfl rfl (by first | (dsimp only [cmpP]; omega) | exact rfl | exact Int.le_refl _) ?_ | refine EK.condT rfl ?_ | refine ER.load1 rfl rfl rfl (by assumption) ?_))
  refine ER.callD rfl rfl rfl rfl rfl (ccas_yes hc hS) ?_
  (repeat (first | refine EK.seq ?_ | refine EK.region ?_ | refine ER.done ?_ | refine ER.move rfl rfl rfl ?_ | refine ER.assign rfl rfl rfl ?_ | refine EK.condT rfl ?_ | refine EK.ret ?_ | refine EK.exit rfl ?_))
  exact EU.ret1 rfl rfl det
theorem top_ok {p c : Nat} {x : Int} (hp : hcell h ⟨p, 0, none⟩ = some (ptr c)) (hc : h[c]? = some (cellO x)) : CallW Try.prog main S 113 #[ptr p, .pointer none] h δ (Ret (Det (.int .i64 x) h δ)) := by
  refine CallW.start (n := 13) rfl rfl ?_
  (repeat (first | refine EK.seq ?_ | refine EK.region ?_ | refine ER.done ?_ | refine EK.skip ?_ | refine ER.move rfl rfl rfl ?_ | refine ER.assign rfl rfl rfl ?_ | refine ER.nilCheck rfl rfl rfl ?_ | refine ER.fieldAddr rfl rfl rfl ?_ | refine ER.eqV rfl rfl rfl rfl rfl ?_ | refine EK.condF rfl ?_ | refine ER.load1 rfl rfl rfl (by assumption) ?_))
  refine ER.callD rfl rfl rfl rfl rfl (cload hc) ?_
  (repeat (first | refine ER.done ?_ | refine ER.assign rfl rfl rfl ?_ | refine EK.ret ?_))
  exact EU.ret1 rfl rfl det
theorem ttake_yes {k c : Nat} {x : Int} (hp : hcell h ⟨k, 1, none⟩ = some (ptr c)) (hc : h[c]? = some (cellO x)) (hx : 0 < x) (hx1 : x <= 1000000) (hS : ∀ o, ¬ S.still δ.g ⟨c, o, none⟩) :
    CallW Try.prog main S 114 #[ptr k, .pointer none] h δ (Ret (Det (.bool true) (h.setIfInBounds c (cellO (x - 1))) δ)) := by
  refine CallW.start (n := 38) rfl rfl ?_
  (repeat (first | refine EK.seq ?_ | refine EK.region ?_ | refine ER.done ?_ | refine EK.skip ?_ | refine ER.move rfl rfl rfl ?_ | refine ER.assign rfl rfl rfl ?_ | refine ER.nilCheck rfl rfl rfl ?_ | refine ER.fieldAddr rfl rfl rfl ?_ | refine ER.eqV rfl rfl rfl rfl rfl ?_ | refine ER.pickF rfl rfl rfl rfl ?_ | refine EK.condF rfl ?_ | refine ER.load1 rfl rfl rfl (by assumption) ?_))
  refine ER.callD rfl rfl rfl rfl rfl (cload hc) ?_
  (repeat (first | refine ER.done ?_ | refine EK.block ?_ | refine ER.assign rfl rfl rfl ?_))
  refine EK.loop ?_
  (repeat (first | refine EK.seq ?_ | refine EK.region ?_ | refine ER.done ?_ | refine EK.skip ?_ | refine EK.block ?_ | refine ER.move rfl rfl rfl ?_ | refine ER.nilCheck rfl rfl rfl ?_ | refine ER.fieldAddr rfl rfl rfl ?_ | refine ER.cmpT rfl rfl rfl rfl rfl (by first | (dsimp only [cmpP]; omega) | exact rfl | exact Int.le_refl _) ?_ | refine ER.sub' (kd := .i64) rfl rfl rfl rfl (i64_in (by omega) (by omega)) ?_ | refine EK.condT rfl ?_ | refine ER.load1 rfl rfl rfl (by assumption) ?_))
  refine ER.callD rfl rfl rfl rfl rfl (ccas_yes hc hS) ?_
  (repeat (first | refine EK.seq ?_ | refine EK.region ?_ | refine ER.done ?_ | refine ER.assign rfl rfl rfl ?_ | refine EK.condT rfl ?_ | refine EK.ret ?_))
  exact EU.ret1 rfl rfl det
theorem ttake_none {k c : Nat} (hp : hcell h ⟨k, 1, none⟩ = some (ptr c)) (hc : h[c]? = some (cellO 0)) : CallW Try.prog main S 114 #[ptr k, .pointer none] h δ (Ret (Det (.bool false) h δ)) := by
  refine CallW.start (n := 38) rfl rfl ?_
  (repeat (first | refine EK.seq ?_ | refine EK.region ?_ | refine ER.done ?_ | refine EK.skip ?_ | refine ER.move rfl rfl rfl ?_ | refine ER.assign rfl rfl rfl ?_ | refine ER.nilCheck rfl rfl rfl ?_ | refine ER.fieldAddr rfl rfl rfl ?_ | refine ER.eqV rfl rfl rfl rfl rfl ?_ | refine ER.pickF rfl rfl rfl rfl ?_ | refine EK.condF rfl ?_ | refine ER.load1 rfl rfl rfl (by assumption) ?_))
  refine ER.callD rfl rfl rfl rfl rfl (cload hc) ?_
  (repeat (first | refine ER.done ?_ | refine EK.block ?_ | refine ER.assign rfl rfl rfl ?_))
  refine EK.loop ?_
  (repeat (first | refine EK.seq ?_ | refine EK.region ?_ | refine ER.done ?_ | refine ER.move rfl rfl rfl ?_ | refine ER.assign rfl rfl rfl ?_ | refine ER.cmpF rfl rfl rfl rfl rfl (by first | (dsimp only [cmpP]; omega) | exact rfl | exact Int.le_refl _) ?_ | refine EK.condF rfl ?_ | refine EK.ret ?_ | refine EK.exit rfl ?_))
  exact EU.ret1 rfl rfl det
set_option maxRecDepth 8000 in
set_option maxHeartbeats 4000000 in
theorem cntworks_ok : CallW Try.prog main NoS 46 #[] h δ (Ret fun w h' δ' => w = .bool true /\ Upd (fun _ => False) h h' /\ δ' = δ) := by
  refine CallW.start (n := 73) rfl rfl ?_
  (repeat (first | refine EK.seq ?_ | refine EK.region ?_ | refine ER.done ?_ | refine ER.assign rfl rfl rfl ?_))
  refine ER.callR rfl rfl rfl rfl rfl (cntnew_ok (n := 2) (by omega) (by omega) (fun _ _ _ x => x)) ?_
  rintro _ h1 δ1 ⟨rfl, u1, cap, rest, B, rfl, r1, ab⟩
  (repeat (first | refine EK.seq ?_ | refine EK.region ?_ | refine ER.done ?_ | refine ER.move rfl rfl rfl ?_ | refine ER.assign rfl rfl rfl ?_ | refine ER.extract rfl rfl rfl rfl ?_))
  refine ER.callD rfl rfl rfl rfl rfl (ticknew_ok (n := 1) (by omega) (fun _ _ _ x => x)) ?_
  obtain ⟨u2, s2, k0, k1⟩ := push2 h1 (cellO 1) (.cells #[.int .i64 1, ptr h1.size] 326)
  have l0 := (r1.lt (k := 4) (.inr (.inr (by omega))))
  have l1 := (r1.lt (k := 5) (.inr (.inr (by omega))))
  have r2 := r1.upd0 u2
  generalize hK : h1.size = K at k0 k1 s2 u2 r2 ⊢
  generalize (h1.push (cellO 1)).push (.cells #[.int .i64 1, ptr K] 326) = h2 at k0 k1 s2 u2 r2 ⊢
  (repeat (first | refine EK.seq ?_ | refine EK.region ?_ | refine ER.done ?_ | refine ER.move rfl rfl rfl ?_ | refine ER.assign rfl rfl rfl ?_ | refine ER.extract rfl rfl rfl rfl ?_))
  refine ER.callD rfl rfl rfl rfl rfl (peaknew_ok (n := 3) (fun _ _ _ x => x)) ?_
  obtain ⟨u3, s3, p0, p1⟩ := push2 h2 (cellO 3) (.cells #[ptr h2.size] 328)
  have r3 := r2.upd0 u3
  replace k0 := u3.get k0 (fun x => x)
  replace k1 := u3.get k1 (fun x => x)
  generalize hP : h2.size = P at p0 p1 s3 s2 u3 r3 k0 k1 ⊢
  generalize (h2.push (cellO 3)).push (.cells #[ptr P] 328) = h3 at k0 k1 p0 p1 s3 u3 r3 ⊢
  have uu := (u1.trans u2).trans u3
  change B 4 < h1.size at l0
  change B 5 < h1.size at l1
  (repeat (first | refine EK.seq ?_ | refine EK.region ?_ | refine ER.done ?_ | refine EK.skip ?_ | refine ER.move rfl rfl rfl ?_ | refine ER.assign rfl rfl rfl ?_ | refine ER.eqV rfl rfl rfl rfl rfl ?_ | refine ER.pickF rfl rfl rfl rfl ?_ | refine ER.cmpF rfl rfl rfl rfl rfl (by first | (dsimp only [cmpP]; omega) | exact rfl | exact Int.le_refl _) ?_ | refine EK.condF rfl ?_))
  refine ER.callD rfl rfl rfl rfl rfl (cntadd_ok (j := 1) (x := 7) r3 (by omega) (by omega) (by omega) (by decide) (by decide) (fun _ x => x)) ?_
  (repeat (first | refine EK.seq ?_ | refine EK.region ?_ | refine ER.done ?_ | refine ER.move rfl rfl rfl ?_ | refine ER.assign rfl rfl rfl ?_))
  refine ER.callD rfl rfl rfl rfl rfl (cntadd_ok (j := 0) (x := 6) (cnt_set r3 (j := 1) (by omega) 7) (by omega) (by omega) (by omega) (by decide) (by decide) (fun _ x => x)) ?_
  have r5 := cnt_set (cnt_set r3 (j := 1) (by omega) 7) (j := 0) (by omega) 6
  refine ER.gen (fun h5 => Rep h5 (cntM 2 cap rest B (ut (ut (fun _ => 0) 1 7) 0 6)) /\ h5[K]? = some (cellO 1) /\ h5[K + 1]? = some (.cells #[.int .i64 1, ptr K] 326 (0, 0)) /\ h5[P]? = some (cellO 3) /\ h5[P + 1]? = some (.cells #[ptr P] 328 (0, 0)) /\ Upd (fun _ => False) h h5) ?_ ?_
  · have a4 := ab 4 (.inr (.inr (by omega)))
    have a5 := ab 5 (.inr (.inr (by omega)))
    have t : ∀ {x : Nat} {o : Obj}, x ≠ B 4 -> x ≠ B 5 -> h3[x]? = some o -> ((h3.setIfInBounds (B (4 + 1)) (cellO 7)).setIfInBounds (B (4 + 0)) (cellO 6))[x]? = some o := fun e4 e5 hx => by
      rw [get_set_ne _ (Ne.symm e4), get_set_ne _ (Ne.symm e5)]; exact hx
    refine ⟨r5, t (by omega) (by omega) k0, t (by omega) (by omega) k1, t (by omega) (by omega) p0, t (by omega) (by omega) p1, ?_⟩
    exact (uu.over (Upd.set (T := fun b => b = B 5) _ _ _ rfl) (fun b hb => by rw [hb]; exact a5)).over (Upd.set (T := fun b => b = B 4) _ _ _ rfl) (fun b hb => by rw [hb]; exact a4)
  clear r5 r3 r2 r1 k0 k1 p0 p1 uu u2 u3 s3
  rintro h5 ⟨r5, k0, k1, p0, p1, uu⟩
  have kc : hcell h5 ⟨K + 1, 1, none⟩ = some (ptr K) := hcell_of k1 rfl
  have pc : hcell h5 ⟨P + 1, 0, none⟩ = some (ptr P) := hcell_of p1 rfl
  (repeat (first | refine EK.seq ?_ | refine EK.region ?_ | refine ER.done ?_ | refine ER.move rfl rfl rfl ?_ | refine ER.assign rfl rfl rfl ?_ | refine ER.pickT rfl rfl rfl rfl ?_ | refine ER.cmpT rfl rfl rfl rfl rfl (by first | (dsimp only [cmpP]; omega) | exact rfl | exact Int.le_refl _) ?_))
  refine ER.callD rfl rfl rfl rfl rfl (cntsum_two (a := 6) (b := 7) r5 rfl rfl (by omega) (by omega) (by omega) (by omega)) ?_
  (repeat (first | refine ER.move rfl rfl rfl ?_ | refine ER.pickT rfl rfl rfl rfl ?_ | refine ER.cmpT rfl rfl rfl rfl rfl (by first | (dsimp only [cmpP]; omega) | exact rfl | exact Int.le_refl _) ?_))
  refine ER.callD rfl rfl rfl rfl rfl (raise_up pc p0 (by omega) (fun _ x => x)) ?_
  have u6 := Upd.set (T := fun b => b = P) h5 P (cellO 9) rfl
  have p0' := get_set_same p0 (o' := cellO 9)
  have pc' := u6.hcell pc (by show P + 1 ≠ P; omega)
  have k0' := u6.get k0 (by omega)
  have kc' := u6.hcell kc (by show K + 1 ≠ P; omega)
  replace uu := uu.over u6 (fun b hb => by have := u1.size; omega)
  generalize h5.setIfInBounds P (cellO 9) = h6 at uu p0' pc' k0' kc' ⊢
  (repeat (first | refine ER.move rfl rfl rfl ?_ | refine ER.pickT rfl rfl rfl rfl ?_))
  refine ER.callD rfl rfl rfl rfl rfl (top_ok pc' p0') ?_
  (repeat (first | refine ER.move rfl rfl rfl ?_ | refine ER.pickT rfl rfl rfl rfl ?_ | refine ER.cmpT rfl rfl rfl rfl rfl (by first | (dsimp only [cmpP]; omega) | exact rfl | exact Int.le_refl _) ?_))
  refine ER.callD rfl rfl rfl rfl rfl (ttake_yes kc' k0' (by omega) (by omega) (fun _ x => x)) ?_
  have u7 := Upd.set (T := fun b => b = K) h6 K (cellO (1 - 1)) rfl
  have k0'' := get_set_same k0' (o' := cellO (1 - 1))
  have kc'' := u7.hcell kc' (by show K + 1 ≠ K; omega)
  replace uu := uu.over u7 (fun b hb => by have := u1.size; omega)
  generalize h6.setIfInBounds K (cellO (1 - 1)) = h7 at uu k0'' kc'' ⊢
  (repeat (first | refine ER.move rfl rfl rfl ?_ | refine ER.pickT rfl rfl rfl rfl ?_))
  refine ER.callD rfl rfl rfl rfl rfl (ttake_none kc'' k0'') ?_
  (repeat (first | refine ER.move rfl rfl rfl ?_ | refine ER.notB rfl rfl rfl ?_ | refine ER.pickT rfl rfl rfl rfl ?_))
  refine ER.callD rfl rfl rfl rfl rfl (tleft_ok kc'' k0'') ?_
  (repeat (first | refine ER.done ?_ | refine ER.assign rfl rfl rfl ?_ | refine ER.pickT rfl rfl rfl rfl ?_ | refine ER.cmpT rfl rfl rfl rfl rfl (by first | (dsimp only [cmpP]; omega) | exact rfl | exact Int.le_refl _) ?_ | refine EK.ret ?_))
  exact EU.ret1 rfl rfl ⟨rfl, uu, rfl⟩
end
end
section
open Go Go.TJ Go.Conc Go.Proofs
section
variable {Γ : Type} {main : Bool} {S : Sit Γ} {δ : Ix Γ} {h : Hp}
theorem behind_ok {op was arg new : Int} (h1 : 1 <= op) (h2 : op <= 5) : CallW Try.prog main S 148 #[.int .i8 op, .int .i64 was, .int .i64 arg, .int .i64 new] h δ (Ret (Det (.tuple #[.int .i64 (behind op was arg new).1, .bool (behind op was arg new).2]) h δ)) := by
  refine CallW.start (n := 27) rfl rfl ?_
  rcases (show op = 1 \/ op = 2 \/ op = 3 \/ op = 4 \/ op = 5 by omega) with rfl | rfl | rfl | rfl | rfl
  · (repeat (first | refine EK.seq ?_ | refine EK.region ?_ | refine ER.done ?_ | refine EK.skip ?_ | refine EK.block ?_ | refine EK.inBlock ?_ | refine ER.move rfl rfl rfl ?_ | refine ER.assign rfl rfl rfl ?_ | refine ER.cmpF rfl rfl rfl rfl rfl (by first | (dsimp only [cmpP]; omega) | exact rfl | exact Int.le_refl _) ?_ | refine EK.condF rfl ?_ | refine EK.ret ?_))
    exact EU.ret2 rfl rfl rfl det
  · (repeat (first | refine EK.seq ?_ | refine EK.region ?_ | refine ER.done ?_ | refine EK.skip ?_ | refine EK.block ?_ | refine ER.move rfl rfl rfl ?_ | refine ER.assign rfl rfl rfl ?_ | refine ER.cmpT rfl rfl rfl rfl rfl (by first | (dsimp only [cmpP]; omega) | exact rfl | exact Int.le_refl _) ?_ | refine EK.condT rfl ?_ | refine EK.ret ?_))
    exact EU.ret2 rfl rfl rfl det
  · by_cases e : was = arg
    · have e1 : behind 3 was arg new = (new, true) := by unfold behind; simp [e]
      rw [e1]
      (repeat (first | refine EK.seq ?_ | refine EK.region ?_ | refine ER.done ?_ | refine EK.block ?_ | refine ER.move rfl rfl rfl ?_ | refine ER.assign rfl rfl rfl ?_ | refine ER.cmpT rfl rfl rfl rfl rfl (by first | (dsimp only [cmpP]; omega) | exact rfl | exact Int.le_refl _) ?_ | refine ER.cmpF rfl rfl rfl rfl rfl (by first | (dsimp only [cmpP]; omega) | exact rfl | exact Int.le_refl _) ?_ | refine EK.condT rfl ?_ | refine EK.condF rfl ?_ | refine EK.ret ?_))
      exact EU.ret2 rfl rfl rfl det
    · have e1 : behind 3 was arg new = (was, false) := by unfold behind; simp [e]
      rw [e1]
      (repeat (first | refine EK.seq ?_ | refine EK.region ?_ | refine ER.done ?_ | refine EK.skip ?_ | refine EK.block ?_ | refine EK.inBlock ?_ | refine ER.move rfl rfl rfl ?_ | refine ER.assign rfl rfl rfl ?_ | refine ER.cmpT rfl rfl rfl rfl rfl (by first | (dsimp only [cmpP]; omega) | exact rfl | exact Int.le_refl _) ?_ | refine ER.cmpF rfl rfl rfl rfl rfl (by first | (dsimp only [cmpP]; omega) | exact rfl | exact Int.le_refl _) ?_ | refine EK.condT rfl ?_ | refine EK.condF rfl ?_ | refine EK.ret ?_))
      exact EU.ret2 rfl rfl rfl det
  · have e1 : behind 4 was arg new = (IntKind.i64.wrap (was + arg), false) := rfl
    rw [e1]
    (repeat (first | refine EK.seq ?_ | refine EK.region ?_ | refine ER.done ?_ | refine EK.block ?_ | refine ER.move rfl rfl rfl ?_ | refine ER.assign rfl rfl rfl ?_ | refine ER.cmpT rfl rfl rfl rfl rfl (by first | (dsimp only [cmpP]; omega) | exact rfl | exact Int.le_refl _) ?_ | refine ER.cmpF rfl rfl rfl rfl rfl (by first | (dsimp only [cmpP]; omega) | exact rfl | exact Int.le_refl _) ?_ | refine EK.condT rfl ?_ | refine EK.condF rfl ?_))
    refine ER.add (kd := .i64) rfl rfl rfl rfl rfl ?_
    (repeat (first | refine ER.done ?_ | refine ER.assign rfl rfl rfl ?_ | refine EK.ret ?_))
    exact EU.ret2 rfl rfl rfl det
  · (repeat (first | refine EK.seq ?_ | refine EK.region ?_ | refine ER.done ?_ | refine EK.block ?_ | refine ER.move rfl rfl rfl ?_ | refine ER.assign rfl rfl rfl ?_ | refine ER.cmpT rfl rfl rfl rfl rfl (by first | (dsimp only [cmpP]; omega) | exact rfl | exact Int.le_refl _) ?_ | refine ER.cmpF rfl rfl rfl rfl rfl (by first | (dsimp only [cmpP]; omega) | exact rfl | exact Int.le_refl _) ?_ | refine EK.condT rfl ?_ | refine EK.condF rfl ?_ | refine EK.ret ?_))
    exact EU.ret2 rfl rfl rfl det
theorem turns_ok {m : Nat} (hm : m <= 65536) : CallW Try.prog main S 78 #[.int .i64 m] h δ (Ret (Det (.int .i64 m) h δ)) := by
  refine CallW.start (n := 8) rfl rfl ?_
  (repeat (first | refine EK.seq ?_ | refine EK.region ?_ | refine ER.done ?_ | refine EK.skip ?_ | refine ER.move rfl rfl rfl ?_ | refine ER.assign rfl rfl rfl ?_ | refine ER.cmpF rfl rfl rfl rfl rfl (by first | (dsimp only [cmpP]; omega) | exact rfl | exact Int.le_refl _) ?_ | refine EK.condF rfl ?_ | refine EK.ret ?_))
  exact EU.ret1 rfl rfl det
theorem place_ok {x : Int} {n : Nat} (hn : 0 < n) (hn2 : n <= 1000) : CallW Try.prog main S 65 #[.int .i64 x, .int .i64 n] h δ (Ret (Det (.int .i64 (x % (n : Int))) h δ)) := by
  have h1 := Int.lt_tmod_of_pos x (b := (n : Int)) (by omega)
  have h2 := Int.tmod_lt_of_pos x (b := (n : Int)) (by omega)
  have h3 := Int.emod_nonneg x (b := (n : Int)) (by omega)
  have h4 := Int.emod_lt_of_pos x (b := (n : Int)) (by omega)
  have h5 : x.tmod n = x % (n : Int) \/ x.tmod n + n = x % (n : Int) := by
    have k := tmod_twice x (m := (n : Int)) (by omega)
    have k2 : (x.tmod n + n).tmod n = (x.tmod n + n) % (n : Int) := Int.tmod_eq_emod_of_nonneg (by omega)
    rcases Int.lt_or_le (x.tmod n) 0 with y | y
    · right
      rw [<- k, k2, Int.emod_eq_of_lt (by omega) (by omega)]
    · left
      rw [<- k, k2, Int.add_emod_right, Int.emod_eq_of_lt (by omega) (by omega)]
  generalize hr : x % (n : Int) = r at h3 h4 h5 ⊢
  refine CallW.start (n := 15) rfl rfl ?_
  (repeat (first | refine EK.seq ?_ | refine EK.region ?_ | refine ER.done ?_ | refine ER.move rfl rfl rfl ?_ | refine ER.assign rfl rfl rfl ?_))
  refine ER.rem (r := x.tmod (n : Int)) rfl rfl rfl rfl (by omega) rfl ?_
  generalize x.tmod (n : Int) = q at h1 h2 h5 ⊢
  by_cases hq : q < 0
  · obtain rfl : r = q + n := by omega
    (repeat (first | refine EK.seq ?_ | refine EK.region ?_ | refine ER.done ?_ | refine ER.move rfl rfl rfl ?_ | refine ER.assign rfl rfl rfl ?_ | refine ER.cmpT rfl rfl rfl rfl rfl (by first | (dsimp only [cmpP]; omega) | exact rfl | exact Int.le_refl _) ?_ | refine ER.add (kd := .i64) rfl rfl rfl rfl (i64_in (by omega) (by omega)) ?_ | refine EK.condT rfl ?_ | refine EK.ret ?_))
    exact EU.ret1 rfl rfl det
  · obtain rfl : r = q := by omega
    (repeat (first | refine EK.seq ?_ | refine EK.region ?_ | refine ER.done ?_ | refine EK.skip ?_ | refine ER.move rfl rfl rfl ?_ | refine ER.assign rfl rfl rfl ?_ | refine ER.cmpF rfl rfl rfl rfl rfl (by first | (dsimp only [cmpP]; omega) | exact rfl | exact Int.le_refl _) ?_ | refine EK.condF rfl ?_ | refine EK.ret ?_))
    exact EU.ret1 rfl rfl det
theorem most_ok {l : List Nat} {last : Int} {sv : Value} (hl : SliceO h sv 3 1 l.length (l.map fun (n : Nat) => Value.int .i64 (n : Int))) (hne : l ≠ []) (hlen : l.length <= 1000) : CallW Try.prog main S 178 #[sv, .int .i64 last] h δ (Ret (Det (.int .i64 (roundOf l last)) h δ)) := by
  have hpos : 0 < l.length := List.length_pos_iff.2 hne
  obtain ⟨a, kL, rfl⟩ := hl.val
  obtain ⟨bL, ea, hc0, _⟩ := slice_at hl (k := 0) (q := l.headD 0) (by cases l with | nil => exact absurd rfl hne | cons a t => rfl)
  subst ea
  refine CallW.start (n := 25) rfl rfl ?_
  (repeat (first | refine EK.seq ?_ | refine EK.region ?_ | refine ER.done ?_ | refine EK.block ?_ | refine ER.assign rfl rfl rfl ?_))
  refine EK.loopInv (fun i : Nat => [(5, .int .i64 i), (0, .slice (some ⟨bL, 0, none⟩) l.length kL), (1, .int .i64 last)]) (fun i h' δ' => i <= l.length /\ h' = h /\ δ' = δ /\ ∀ (k x : Nat), k < i -> l[k]? = some x -> (x : Int) <= last) (fun i => l.length - i) 0 ⟨rfl, rfl, rfl, trivial⟩ ⟨Nat.zero_le _, rfl, rfl, fun k x hk => by omega⟩ ?_
  rintro i h1 δ1 ⟨hi, rfl, rfl, hb⟩ again
  by_cases hin : i < l.length
  · obtain ⟨j, hj⟩ : ∃ j, l[i]? = some j := ⟨_, List.getElem?_eq_getElem hin⟩
    obtain ⟨b2, e2, hc, _⟩ := slice_at hl hj
    injection e2 with e2
    injection e2 with e2
    subst e2
    by_cases hgt : last < (j : Int)
    · (repeat (first | refine EK.seq ?_ | refine EK.region ?_ | refine ER.done ?_ | refine EK.skip ?_ | refine EK.block ?_ | refine ER.move rfl rfl rfl ?_ | refine ER.assign rfl rfl rfl ?_ | refine ER.cmpT rfl rfl rfl rfl rfl (by first | (dsimp only [cmpP]; omega) | exact rfl | exact Int.le_refl _) ?_ | refine ER.len1 rfl rfl rfl ?_ | refine ER.indexSl rfl rfl rfl rfl (by omega) (by omega) ?_ | refine EK.condT rfl ?_ | refine EK.ret ?_ | refine ER.load1 rfl rfl rfl (by assumption) ?_))
      refine EU.ret1 rfl rfl ?_
      rw [round_at hj hgt hb]
      exact det
    · (repeat (first | refine EK.seq ?_ | refine EK.region ?_ | refine ER.done ?_ | refine EK.skip ?_ | refine EK.block ?_ | refine EK.inBlock ?_ | refine ER.move rfl rfl rfl ?_ | refine ER.assign rfl rfl rfl ?_ | refine ER.cmpT rfl rfl rfl rfl rfl (by first | (dsimp only [cmpP]; omega) | exact rfl | exact Int.le_refl _) ?_ | refine ER.cmpF rfl rfl rfl rfl rfl (by first | (dsimp only [cmpP]; omega) | exact rfl | exact Int.le_refl _) ?_ | refine ER.add (kd := .i64) rfl rfl rfl rfl (i64_in (by omega) (by omega)) ?_ | refine ER.len1 rfl rfl rfl ?_ | refine ER.indexSl rfl rfl rfl rfl (by omega) (by omega) ?_ | refine EK.condT rfl ?_ | refine EK.condF rfl ?_ | refine ER.load1 rfl rfl rfl (by assumption) ?_))
      refine EK.back (again (i + 1) _ _ (by omega) ⟨by omega, rfl, rfl, fun k x hk hx => ?_⟩) ⟨rfl, rfl, rfl, trivial⟩
      by_cases e : k = i
      · subst e
        rw [hj] at hx; cases hx; omega
      · exact hb k x (by omega) hx
  · obtain rfl : i = l.length := by omega
    clear again
    (repeat (first | refine EK.seq ?_ | refine EK.region ?_ | refine ER.done ?_ | refine ER.move rfl rfl rfl ?_ | refine ER.assign rfl rfl rfl ?_ | refine ER.cmpF rfl rfl rfl rfl rfl (by first | (dsimp only [cmpP]; omega) | exact rfl | exact Int.le_refl _) ?_ | refine ER.len1 rfl rfl rfl ?_ | refine ER.indexSl rfl rfl rfl rfl (by omega) (by omega) ?_ | refine EK.condF rfl ?_ | refine EK.ret ?_ | refine EK.exit rfl ?_ | refine ER.load1 rfl rfl rfl (by assumption) ?_))
    refine EU.ret1 rfl rfl ?_
    rw [round_none (fun k x hx => hb k x (take_mid hx).2.2 hx)]
    exact det
end
end
section
open Go Go.TJ Go.Conc Go.Proofs
abbrev W64 (x : Int) : Int := IntKind.i64.wrap x
def sIx (n : Nat) (w : Int) : Nat := (w % n).toNat
theorem sIx_lt {n : Nat} (hn : 0 < n) (w : Int) : sIx n w < n := by
  have := Int.emod_nonneg w (by omega : (n : Int) ≠ 0)
  have := Int.emod_lt_of_pos w (by omega : 0 < (n : Int))
  unfold sIx; omega
theorem sIx_mod {n : Nat} (hn : 0 < n) (w : Int) : w % (n : Int) = (sIx n w : Int) := by
  have := Int.emod_nonneg w (by omega : (n : Int) ≠ 0)
  unfold sIx; omega
section
variable {A : Type}
def addP (n : Nat) (B : Nat -> Nat) (w v : Int) (k : Pr A) : Pr A := .step ⟨4, B (4 + sIx n w), v, 0⟩ fun _ => k
def sumP (B : Nat -> Nat) (k : Int -> Pr A) : Nat -> Nat -> Int -> Pr A
  | 0, _, s => k s
  | m + 1, i, s => .step ⟨1, B (4 + i), 0, 0⟩ fun v => sumP B k m (i + 1) (W64 (s + v))
def raiseP (b : Nat) (v : Int) (k : Bool -> Pr A) : Nat -> Pr A
  | 0 => .done
  | f + 1 => .step ⟨1, b, 0, 0⟩ fun x => if x < v then .step ⟨3, b, x, v⟩ fun w => if w = x then k true else raiseP b v k f else k false
def takeP (b : Nat) (k : Bool -> Pr A) : Nat -> Pr A
  | 0 => .done
  | f + 1 => .step ⟨1, b, 0, 0⟩ fun x => if x = 0 then k false else .step ⟨3, b, x, W64 (x - 1)⟩ fun w => if w = x then k true else takeP b k f
def backP (b : Nat) (tk : Int) (k : Int -> Pr A) : Nat -> Pr A
  | 0 => .done
  | f + 1 => .step ⟨1, b, 0, 0⟩ fun x => if x = tk then k 1 else .step ⟨3, b, x, W64 (x + 1)⟩ fun w => if w = x then k 0 else backP b tk k f
def loadP (b : Nat) (k : Int -> Pr A) : Pr A := .step ⟨1, b, 0, 0⟩ fun x => k x
end
structure CntH (n cap : Nat) (rest : List Value) (B : Nat -> Nat) (tk : Int) (h : Hp) : Prop where
  o0 : h[B 0]? = some (.cells #[.slice (some ⟨B 1, 0, none⟩) n cap] 324 (0, 0))
  o1 : h[B 1]? = some (.cells (((List.range n).map fun j => ptr (B (4 + j))) ++ rest).toArray 220 (0, 0))
  o2 : h[B 2]? = some (.cells #[ptr (B (4 + n))] 328 (0, 0))
  o3 : h[B 3]? = some (.cells #[.int .i64 tk, ptr (B (5 + n))] 326 (0, 0))
section
variable {h : Hp} {n cap : Nat} {rest : List Value} {B : Nat -> Nat} {tk : Int}
theorem CntH.sl (r : CntH n cap rest B tk h) : hcell h ⟨B 0, 0, none⟩ = some (.slice (some ⟨B 1, 0, none⟩) n cap) := hcell_of r.o0 rfl
theorem CntH.row (r : CntH n cap rest B tk h) {j : Nat} (hj : j < n) : hcell h ⟨B 1, 0 + j * 1, none⟩ = some (ptr (B (4 + j))) := hcell_of r.o1 (by
  rw [show 0 + j * 1 = j by omega]
  simp only [List.getElem?_toArray]
  rw [List.getElem?_append_left (by simp; omega)]
  simp [hj])
theorem CntH.pk (r : CntH n cap rest B tk h) : hcell h ⟨B 2, 0, none⟩ = some (ptr (B (4 + n))) := hcell_of r.o2 rfl
theorem CntH.tn (r : CntH n cap rest B tk h) : hcell h ⟨B 3, 0, none⟩ = some (.int .i64 tk) := hcell_of r.o3 rfl
theorem CntH.tl (r : CntH n cap rest B tk h) : hcell h ⟨B 3, 1, none⟩ = some (ptr (B (5 + n))) := hcell_of r.o3 rfl
end
section
variable {X : Us} {A : Type} {P : Nat -> Pr A} {told : X.U -> Nat -> List A} {n cap : Nat} {rest : List Value} {B : Nat -> Nat} {tk : Int} {i : Nat} {γ γ' : GG X} {u : X.U} {L : List (Nat × Obj)} {h : Hp} {t : Nat}
structure CntK (X : Us) (n : Nat) (B : Nat -> Nat) : Prop where
  cell : ∀ k, 4 <= k -> k < 6 + n -> X.isC (B k)
  hn1 : 1 <= n
  hn : n <= 64
set_option maxRecDepth 8000 in
set_option maxHeartbeats 4000000 in
theorem cadd_T (K : CodX X P told (CntH n cap rest B tk)) (D : CntK X n B) {w v : Int} {k : Pr A} (a : AtP X P told i γ u L h (addP n B w v k)) (ht : t = γ.p.tb i) :
    CallW Try.prog false (SitT Try.prog (PX X) (i + 1)) 110 #[ptr (B 0), ptr t, .int .i64 w, .int .i64 v] h ⟨0, γ⟩ (RetP (fun z h' δ' => ∃ (γ' : GG X), δ' = ⟨0, γ'⟩ /\ z = .int .i64 0 /\ Nxt X P told i γ u L γ' h' k) (Halt X i γ.p)) := by
  subst ht
  have hn1 := D.hn1
  have hn := D.hn
  have s0 := K.mem _ _ a.thr.I
  have c0 := s0.sl
  have hj := sIx_lt (n := n) (by omega) w
  have hw : ((w.tmod n + n).tmod n : Int) = (sIx n w : Int) := by rw [tmod_twice w (m := (n : Int)) (by omega), sIx_mod (by omega)]
  have h1 := Int.lt_tmod_of_pos w (b := (n : Int)) (by omega)
  have h2 := Int.tmod_lt_of_pos w (b := (n : Int)) (by omega)
  refine CallW.start (n := 41) rfl rfl ?_
  (repeat (first | refine EK.seq ?_ | refine EK.region ?_ | refine ER.done ?_ | refine EK.skip ?_ | refine ER.move rfl rfl rfl ?_ | refine ER.assign rfl rfl rfl ?_ | refine ER.nilCheck rfl rfl rfl ?_ | refine ER.fieldAddr rfl rfl rfl ?_ | refine ER.eqV rfl rfl rfl rfl rfl ?_ | refine ER.pickF rfl rfl rfl rfl ?_ | refine ER.cmpF rfl rfl rfl rfl rfl (by first | (dsimp only [cmpP]; omega) | exact rfl | exact Int.le_refl _) ?_ | refine ER.len1 rfl rfl rfl ?_ | refine EK.condF rfl ?_ | refine ER.load1 rfl rfl rfl (by assumption) ?_))
  have cj := s0.row hj
  refine EK.regionAny (fun h' => hcell h' ⟨B 0, 0, none⟩ = some (.slice (some ⟨B 1, 0, none⟩) n cap) /\ hcell h' ⟨B 1, 0 + (sIx n w) * 1, none⟩ = some (ptr (B (4 + sIx n w)))) ?_
  have hZ := And.intro c0 cj
  refine EA.tMove 0 rfl (by kernel_rfl) rfl rfl rfl rfl hZ ?_
  refine EA.tNil 1 rfl (by kernel_rfl) rfl rfl rfl rfl hZ ?_
  refine EA.tField 2 rfl (by kernel_rfl) rfl rfl rfl rfl hZ ?_
  refine EA.tLoad 3 rfl (by kernel_rfl) rfl rfl rfl rfl (fun _ hz => hz.1) hZ ?_
  refine EA.tMove 4 rfl (by kernel_rfl) rfl rfl rfl rfl hZ ?_
  refine EA.tMove 5 rfl (by kernel_rfl) rfl rfl rfl rfl hZ ?_
  refine EA.tBinI (kd := .i64) (v := .int .i64 (w.tmod n)) 6 rfl (by kernel_rfl) rfl rfl rfl rfl rfl (Go.TJ.binOp_rem (by omega)) hZ ?_
  refine EA.tMove 7 rfl (by kernel_rfl) rfl rfl rfl rfl hZ ?_
  refine EA.tAdd (kd := .i64) 8 rfl (by kernel_rfl) rfl rfl rfl rfl rfl (i64_in (by omega) (by omega)) hZ ?_
  refine EA.tMove 9 rfl (by kernel_rfl) rfl rfl rfl rfl hZ ?_
  refine EA.tBinI (kd := .i64) (v := .int .i64 (sIx n w : Int)) 10 rfl (by kernel_rfl) rfl rfl rfl rfl rfl ((Go.TJ.binOp_rem (by omega)).trans (by rw [hw])) hZ ?_
  refine EA.tIdxS 11 rfl (by kernel_rfl) rfl rfl rfl rfl rfl (by omega) (by omega) hZ ?_
  refine EA.tLoad 12 rfl (by kernel_rfl) rfl rfl rfl rfl (fun _ hz => hz.2) hZ ?_
  refine EA.tMove 13 rfl (by kernel_rfl) rfl rfl rfl rfl hZ ?_
  refine EA.tMove 14 rfl (by kernel_rfl) rfl rfl rfl rfl hZ ?_
  refine eaCallP 15 rfl (by kernel_rfl) rfl rfl rfl rfl rfl rfl (addC K a (D.cell (4 + sIx n w) (by omega) (by omega)) rfl) (fun _ _ _ x => x) ?_
  rintro _ hh δ2 ⟨γ2, rfl, rfl, nx, s2⟩
  refine ⟨⟨s2.sl, s2.row hj⟩, EA.done (by kernel_rfl) ?_⟩
  (repeat (first | refine EK.seq ?_ | refine EK.region ?_ | refine ER.done ?_ | refine ER.assign rfl rfl rfl ?_ | refine EK.ret ?_))
  exact EU.ret1 rfl rfl ⟨γ2, rfl, rfl, nx⟩
set_option maxRecDepth 8000 in
set_option maxHeartbeats 4000000 in
theorem csum_T (K : CodX X P told (CntH n cap rest B tk)) (D : CntK X n B) {k : Int -> Pr A} (a : AtP X P told i γ u L h (sumP B k n 0 0)) (ht : t = γ.p.tb i) :
    CallW Try.prog false (SitT Try.prog (PX X) (i + 1)) 111 #[ptr (B 0), ptr t] h ⟨0, γ⟩ (RetP (fun z h' δ' => ∃ (γ' : GG X) (u' : X.U) (v : Int), δ' = ⟨0, γ'⟩ /\ z = .int .i64 v /\ CallP X P told i γ u L γ' u' h' (k v)) (Halt X i γ.p)) := by
  subst ht
  have hn := D.hn
  have s0 := K.mem _ _ a.thr.I
  have c0 := s0.sl
  refine CallW.start (n := 30) rfl rfl ?_
  (repeat (first | refine EK.seq ?_ | refine EK.region ?_ | refine ER.done ?_ | refine EK.skip ?_ | refine EK.block ?_ | refine ER.move rfl rfl rfl ?_ | refine ER.assign rfl rfl rfl ?_ | refine ER.nilCheck rfl rfl rfl ?_ | refine ER.fieldAddr rfl rfl rfl ?_ | refine ER.eqV rfl rfl rfl rfl rfl ?_ | refine ER.len1 rfl rfl rfl ?_ | refine EK.condF rfl ?_ | refine ER.load1 rfl rfl rfl (by assumption) ?_))
  refine EK.loopInv (fun s : Nat × GG X × X.U × Int => [(14, .int .i64 s.1), (13, .int .i64 n), (5, .int .i64 s.2.2.2), (0, ptr (B 0)), (1, ptr (γ.p.tb i))]) (fun s h' δ' => δ' = ⟨0, s.2.1⟩ /\ s.1 <= n /\ AtP X P told i s.2.1 s.2.2.1 L h' (sumP B k (n - s.1) s.1 s.2.2.2) /\ Along X i γ.p s.2.1.p /\ X.V i u s.2.2.1) (fun s => n - s.1) (0, γ, u, 0) ⟨rfl, rfl, rfl, rfl, rfl, trivial⟩ ⟨rfl, Nat.zero_le _, a, Along.refl _ _, K.ok.vrefl _ _⟩ ?_
  clear a s0 c0
  rintro ⟨j, γ1, u1, s⟩ h1 δ1 ⟨hδ, hj, a, al, hV⟩ again
  dsimp only at hδ hj a al hV again ⊢
  subst hδ
  by_cases hin : j < n
  · have s1 := K.mem _ _ a.thr.I
    have c0 := s1.sl
    have cj := s1.row hin
    obtain ⟨c, hc⟩ : ∃ c, n - j = c + 1 := ⟨n - j - 1, by omega⟩
    rw [hc] at a
    (repeat (first | refine EK.seq ?_ | refine EK.region ?_ | refine ER.done ?_ | refine EK.skip ?_ | refine EK.block ?_ | refine ER.move rfl rfl rfl ?_ | refine ER.assign rfl rfl rfl ?_ | refine ER.nilCheck rfl rfl rfl ?_ | refine ER.fieldAddr rfl rfl rfl ?_ | refine ER.cmpT rfl rfl rfl rfl rfl (by first | (dsimp only [cmpP]; omega) | exact rfl | exact Int.le_refl _) ?_ | refine ER.indexSl rfl rfl rfl rfl (by omega) (by omega) ?_ | refine EK.condT rfl ?_ | refine ER.load1 rfl rfl rfl (by assumption) ?_))
    refine ER.callP rfl rfl rfl rfl rfl (loadC K a (D.cell (4 + j) (by omega) (by omega)) al.tb.symm) (fun _ _ _ y => y.along al) ?_
    rintro _ h2 δ2 ⟨γ2, rfl, rfl, nx, s2⟩
    generalize γ2.p.val (B (4 + j)) = v at nx ⊢
    clear c0 cj s1
    refine ER.add (r := W64 (s + v)) rfl rfl rfl rfl rfl ?_
    (repeat (first | refine EK.region ?_ | refine ER.done ?_ | refine EK.inBlock ?_ | refine ER.move rfl rfl rfl ?_ | refine ER.assign rfl rfl rfl ?_ | refine ER.add (kd := .i64) rfl rfl rfl rfl (i64_in (by omega) (by omega)) ?_))
    exact EK.back (again (j + 1, γ2, γ2.p.u, W64 (s + v)) _ _ (by dsimp only; omega) ⟨rfl, by dsimp only; omega, by dsimp only; rw [show n - (j + 1) = c by omega]; exact nx.at_, al.trans nx.al, K.ok.vtrans _ _ _ _ hV nx.V⟩) ⟨rfl, rfl, rfl, rfl, rfl, trivial⟩
  · obtain rfl : j = n := by omega
    rw [Nat.sub_self] at a
    clear again
    (repeat (first | refine EK.seq ?_ | refine EK.region ?_ | refine ER.done ?_ | refine ER.move rfl rfl rfl ?_ | refine ER.assign rfl rfl rfl ?_ | refine ER.cmpF rfl rfl rfl rfl rfl (by first | (dsimp only [cmpP]; omega) | exact rfl | exact Int.le_refl _) ?_ | refine EK.condF rfl ?_ | refine EK.ret ?_ | refine EK.exit rfl ?_))
    exact EU.ret1 rfl rfl ⟨γ1, u1, s, rfl, rfl, ⟨al, a, hV⟩⟩
set_option maxRecDepth 8000 in
set_option maxHeartbeats 4000000 in
theorem craise_T (K : CodX X P told (CntH n cap rest B tk)) (D : CntK X n B) {v : Int} {k : Bool -> Pr A} {f : Nat} (a : AtP X P told i γ u L h (raiseP (B (4 + n)) v k f)) (hf : 65536 < f + (ownOf i (γ.p.acc i).log).length) (ht : t = γ.p.tb i) :
    CallW Try.prog false (SitT Try.prog (PX X) (i + 1)) 112 #[ptr (B 2), ptr t, .int .i64 v] h ⟨0, γ⟩ (RetP (fun z h' δ' => ∃ (γ' : GG X) (b : Bool), δ' = ⟨0, γ'⟩ /\ z = .bool b /\ Nxt X P told i γ u L γ' h' (k b)) (Halt X i γ.p)) := by
  subst ht
  have hlen := a.len
  obtain ⟨f2, rfl⟩ : ∃ f2, f = f2 + 1 := ⟨f - 1, by omega⟩
  have s0 := K.mem _ _ a.thr.I
  have cp := s0.pk
  refine CallW.start (n := 43) rfl rfl ?_
  (repeat (first | refine EK.seq ?_ | refine EK.region ?_ | refine ER.done ?_ | refine EK.skip ?_ | refine ER.move rfl rfl rfl ?_ | refine ER.assign rfl rfl rfl ?_ | refine ER.nilCheck rfl rfl rfl ?_ | refine ER.fieldAddr rfl rfl rfl ?_ | refine ER.eqV rfl rfl rfl rfl rfl ?_ | refine ER.pickF rfl rfl rfl rfl ?_ | refine EK.condF rfl ?_ | refine ER.load1 rfl rfl rfl (by assumption) ?_ | refine EK.scope ?_ | refine EK.label ?_))
  refine ER.callP rfl rfl rfl rfl rfl (loadC K a (D.cell (4 + n) (by omega) (by omega)) rfl) (fun _ _ _ y => y) ?_
  rintro _ h1 δ1 ⟨γ1, rfl, rfl, nx, s1⟩
  generalize γ1.p.val (B (4 + n)) = x at nx ⊢
  have hle1 := nx.len
  clear a s0 cp
  (repeat (first | refine ER.done ?_ | refine EK.block ?_ | refine ER.assign rfl rfl rfl ?_))
  refine EK.loopInv (fun s : GG X × Int × Nat => [(8, .int .i64 s.2.1), (7, .bool false), (0, ptr (B 2)), (1, ptr (γ.p.tb i)), (2, .int .i64 v)]) (fun s h' δ' => δ' = ⟨0, s.1⟩ /\ Nxt X P told i γ u L s.1 h' (if s.2.1 < v then .step ⟨3, B (4 + n), s.2.1, v⟩ fun w => if w = s.2.1 then k true else raiseP (B (4 + n)) v k s.2.2 else k false) /\ 65536 < s.2.2 + 1 + (ownOf i (γ.p.acc i).log).length + ((ownOf i (s.1.p.acc i).log).length - (ownOf i (γ.p.acc i).log).length)) (fun s => s.2.2) (γ1, x, f2) ⟨rfl, rfl, rfl, rfl, rfl, trivial⟩ ⟨rfl, nx, by dsimp only; omega⟩ ?_
  clear nx s1 hle1
  rintro ⟨γ1, x, f1⟩ h1 δ1 ⟨hδ, nx, hf1⟩ again
  dsimp only at hδ nx hf1 again ⊢
  subst hδ
  have hle1 := nx.len
  have hl1 := nx.at_.len
  by_cases hx : x < v
  · rw [if_pos hx] at nx
    have s1 := K.mem _ _ nx.at_.thr.I
    have cp := s1.pk
    (repeat (first | refine EK.seq ?_ | refine EK.region ?_ | refine ER.done ?_ | refine EK.skip ?_ | refine EK.block ?_ | refine ER.move rfl rfl rfl ?_ | refine ER.nilCheck rfl rfl rfl ?_ | refine ER.fieldAddr rfl rfl rfl ?_ | refine ER.cmpT rfl rfl rfl rfl rfl (by first | (dsimp only [cmpP]; omega) | exact rfl | exact Int.le_refl _) ?_ | refine EK.condT rfl ?_ | refine ER.load1 rfl rfl rfl (by assumption) ?_))
    refine ER.callP rfl rfl rfl rfl rfl (casC K nx.at_ (D.cell (4 + n) (by omega) (by omega)) nx.al.tb.symm) (fun _ _ _ y => y.along nx.al) ?_
    rintro _ h2 δ2 ⟨γ2, rfl, rfl, nx2, s2⟩
    generalize γ2.p.val (B (4 + n)) = w at nx2 ⊢
    replace nx := nx.trans K.ok nx2
    have hle2 := nx.len
    have hle22 := nx2.len
    clear nx2 s1 cp
    by_cases hw : w = x
    · rw [if_pos hw] at nx
      rw [decide_eq_true hw]
      (repeat (first | refine EK.seq ?_ | refine EK.region ?_ | refine ER.done ?_ | refine ER.move rfl rfl rfl ?_ | refine ER.assign rfl rfl rfl ?_ | refine EK.condT rfl ?_ | refine EK.ret ?_ | refine EK.exit rfl ?_))
      exact EU.ret1 rfl rfl ⟨γ2, true, rfl, rfl, nx⟩
    · rw [if_neg hw] at nx
      rw [decide_eq_false hw]
      have hl2 := nx.at_.len
      obtain ⟨f2, rfl⟩ : ∃ f2, f1 = f2 + 1 := ⟨f1 - 1, by omega⟩
      have cp := s2.pk
      (repeat (first | refine EK.seq ?_ | refine EK.region ?_ | refine ER.done ?_ | refine EK.skip ?_ | refine EK.inBlock ?_ | refine ER.move rfl rfl rfl ?_ | refine ER.assign rfl rfl rfl ?_ | refine ER.nilCheck rfl rfl rfl ?_ | refine ER.fieldAddr rfl rfl rfl ?_ | refine EK.condF rfl ?_ | refine ER.load1 rfl rfl rfl (by assumption) ?_))
      refine ER.callP rfl rfl rfl rfl rfl (loadC K nx.at_ (D.cell (4 + n) (by omega) (by omega)) nx.al.tb.symm) (fun _ _ _ y => y.along nx.al) ?_
      rintro _ h3 δ3 ⟨γ3, rfl, rfl, nx3, s3⟩
      generalize γ3.p.val (B (4 + n)) = x3 at nx3 ⊢
      have hle3 := nx3.len
      (repeat (first | refine ER.done ?_ | refine ER.assign rfl rfl rfl ?_))
      exact EK.back (again (γ3, x3, f2) _ _ (by dsimp only; omega) ⟨rfl, nx.trans K.ok nx3, by dsimp only; omega⟩) ⟨rfl, rfl, rfl, rfl, rfl, trivial⟩
  · rw [if_neg hx] at nx
    clear again
    (repeat (first | refine EK.seq ?_ | refine EK.region ?_ | refine ER.done ?_ | refine ER.move rfl rfl rfl ?_ | refine ER.assign rfl rfl rfl ?_ | refine ER.cmpF rfl rfl rfl rfl rfl (by first | (dsimp only [cmpP]; omega) | exact rfl | exact Int.le_refl _) ?_ | refine EK.condF rfl ?_ | refine EK.ret ?_ | refine EK.exit rfl ?_))
    exact EU.ret1 rfl rfl ⟨γ1, false, rfl, rfl, nx⟩
set_option maxRecDepth 8000 in
set_option maxHeartbeats 4000000 in
theorem ctake_T (K : CodX X P told (CntH n cap rest B tk)) (D : CntK X n B) {k : Bool -> Pr A} {f : Nat} (a : AtP X P told i γ u L h (takeP (B (5 + n)) k f)) (hf : 65536 < f + (ownOf i (γ.p.acc i).log).length) (ht : t = γ.p.tb i) :
    CallW Try.prog false (SitT Try.prog (PX X) (i + 1)) 114 #[ptr (B 3), ptr t] h ⟨0, γ⟩ (RetP (fun z h' δ' => ∃ (γ' : GG X) (b : Bool), δ' = ⟨0, γ'⟩ /\ z = .bool b /\ Nxt X P told i γ u L γ' h' (k b)) (Halt X i γ.p)) := by
  subst ht
  have hlen := a.len
  obtain ⟨f2, rfl⟩ : ∃ f2, f = f2 + 1 := ⟨f - 1, by omega⟩
  have s0 := K.mem _ _ a.thr.I
  have cp := s0.tl
  refine CallW.start (n := 38) rfl rfl ?_
  (repeat (first | refine EK.seq ?_ | refine EK.region ?_ | refine ER.done ?_ | refine EK.skip ?_ | refine ER.move rfl rfl rfl ?_ | refine ER.assign rfl rfl rfl ?_ | refine ER.nilCheck rfl rfl rfl ?_ | refine ER.fieldAddr rfl rfl rfl ?_ | refine ER.eqV rfl rfl rfl rfl rfl ?_ | refine ER.pickF rfl rfl rfl rfl ?_ | refine EK.condF rfl ?_ | refine ER.load1 rfl rfl rfl (by assumption) ?_))
  refine ER.callP rfl rfl rfl rfl rfl (loadC K a (D.cell (5 + n) (by omega) (by omega)) rfl) (fun _ _ _ y => y) ?_
  rintro _ h1 δ1 ⟨γ1, rfl, rfl, nx, s1⟩
  generalize γ1.p.val (B (5 + n)) = x at nx ⊢
  have hle1 := nx.len
  clear a s0 cp
  (repeat (first | refine ER.done ?_ | refine EK.block ?_ | refine ER.assign rfl rfl rfl ?_))
  refine EK.loopInv (fun s : GG X × Int × Nat => [(5, .int .i64 s.2.1), (0, ptr (B 3)), (1, ptr (γ.p.tb i))]) (fun s h' δ' => δ' = ⟨0, s.1⟩ /\ Nxt X P told i γ u L s.1 h' (if s.2.1 = 0 then k false else .step ⟨3, B (5 + n), s.2.1, W64 (s.2.1 - 1)⟩ fun w => if w = s.2.1 then k true else takeP (B (5 + n)) k s.2.2) /\ 65536 < s.2.2 + 1 + (ownOf i (γ.p.acc i).log).length + ((ownOf i (s.1.p.acc i).log).length - (ownOf i (γ.p.acc i).log).length)) (fun s => s.2.2) (γ1, x, f2) ⟨rfl, rfl, rfl, trivial⟩ ⟨rfl, nx, by dsimp only; omega⟩ ?_
  clear nx s1 hle1
  rintro ⟨γ1, x, f1⟩ h1 δ1 ⟨hδ, nx, hf1⟩ again
  dsimp only at hδ nx hf1 again ⊢
  subst hδ
  have hle1 := nx.len
  have hl1 := nx.at_.len
  by_cases hx : x = 0
  · rw [if_pos hx] at nx
    clear again
    (repeat (first | refine EK.seq ?_ | refine EK.region ?_ | refine ER.done ?_ | refine ER.move rfl rfl rfl ?_ | refine ER.assign rfl rfl rfl ?_ | refine ER.cmpF rfl rfl rfl rfl rfl (by first | (dsimp only [cmpP]; omega) | exact rfl | exact Int.le_refl _) ?_ | refine EK.condF rfl ?_ | refine EK.ret ?_ | refine EK.exit rfl ?_))
    exact EU.ret1 rfl rfl ⟨γ1, false, rfl, rfl, nx⟩
  · rw [if_neg hx] at nx
    have s1 := K.mem _ _ nx.at_.thr.I
    have cp := s1.tl
    (repeat (first | refine EK.seq ?_ | refine EK.region ?_ | refine ER.done ?_ | refine EK.skip ?_ | refine EK.block ?_ | refine ER.move rfl rfl rfl ?_ | refine ER.nilCheck rfl rfl rfl ?_ | refine ER.fieldAddr rfl rfl rfl ?_ | refine ER.cmpT rfl rfl rfl rfl rfl (by first | (dsimp only [cmpP]; omega) | exact rfl | exact Int.le_refl _) ?_ | refine EK.condT rfl ?_ | refine ER.load1 rfl rfl rfl (by assumption) ?_))
    refine ER.sub' (r := W64 (x - 1)) rfl rfl rfl rfl rfl ?_
    refine ER.callP rfl rfl rfl rfl rfl (casC K nx.at_ (D.cell (5 + n) (by omega) (by omega)) nx.al.tb.symm) (fun _ _ _ y => y.along nx.al) ?_
    rintro _ h2 δ2 ⟨γ2, rfl, rfl, nx2, s2⟩
    generalize γ2.p.val (B (5 + n)) = w at nx2 ⊢
    replace nx := nx.trans K.ok nx2
    have hle2 := nx.len
    have hle22 := nx2.len
    clear nx2 s1 cp
    by_cases hw : w = x
    · rw [if_pos hw] at nx
      rw [decide_eq_true hw]
      (repeat (first | refine EK.seq ?_ | refine EK.region ?_ | refine ER.done ?_ | refine ER.assign rfl rfl rfl ?_ | refine EK.condT rfl ?_ | refine EK.ret ?_))
      exact EU.ret1 rfl rfl ⟨γ2, true, rfl, rfl, nx⟩
    · rw [if_neg hw] at nx
      rw [decide_eq_false hw]
      have hl2 := nx.at_.len
      obtain ⟨f2, rfl⟩ : ∃ f2, f1 = f2 + 1 := ⟨f1 - 1, by omega⟩
      have cp := s2.tl
      (repeat (first | refine EK.region ?_ | refine ER.done ?_ | refine EK.skip ?_ | refine EK.inBlock ?_ | refine ER.move rfl rfl rfl ?_ | refine ER.nilCheck rfl rfl rfl ?_ | refine ER.fieldAddr rfl rfl rfl ?_ | refine EK.condF rfl ?_ | refine ER.load1 rfl rfl rfl (by assumption) ?_))
      refine ER.callP rfl rfl rfl rfl rfl (loadC K nx.at_ (D.cell (5 + n) (by omega) (by omega)) nx.al.tb.symm) (fun _ _ _ y => y.along nx.al) ?_
      rintro _ h3 δ3 ⟨γ3, rfl, rfl, nx3, s3⟩
      generalize γ3.p.val (B (5 + n)) = x3 at nx3 ⊢
      have hle3 := nx3.len
      (repeat (first | refine ER.done ?_ | refine ER.assign rfl rfl rfl ?_))
      exact EK.back (again (γ3, x3, f2) _ _ (by dsimp only; omega) ⟨rfl, nx.trans K.ok nx3, by dsimp only; omega⟩) ⟨rfl, rfl, rfl, trivial⟩
set_option maxRecDepth 8000 in
set_option maxHeartbeats 4000000 in
theorem cback_T (K : CodX X P told (CntH n cap rest B tk)) (D : CntK X n B) {k : Int -> Pr A} {f : Nat} (a : AtP X P told i γ u L h (backP (B (5 + n)) tk k f)) (hf : 65536 < f + (ownOf i (γ.p.acc i).log).length) (ht : t = γ.p.tb i) :
    CallW Try.prog false (SitT Try.prog (PX X) (i + 1)) 164 #[ptr (B 3), ptr t] h ⟨0, γ⟩ (RetP (fun z h' δ' => ∃ (γ' : GG X) (b : Int), δ' = ⟨0, γ'⟩ /\ z = .int .i64 b /\ Nxt X P told i γ u L γ' h' (k b)) (Halt X i γ.p)) := by
  subst ht
  have hlen := a.len
  obtain ⟨f2, rfl⟩ : ∃ f2, f = f2 + 1 := ⟨f - 1, by omega⟩
  have s0 := K.mem _ _ a.thr.I
  have cp := s0.tl
  refine CallW.start (n := 42) rfl rfl ?_
  (repeat (first | refine EK.seq ?_ | refine EK.region ?_ | refine ER.done ?_ | refine EK.skip ?_ | refine ER.move rfl rfl rfl ?_ | refine ER.assign rfl rfl rfl ?_ | refine ER.nilCheck rfl rfl rfl ?_ | refine ER.fieldAddr rfl rfl rfl ?_ | refine ER.eqV rfl rfl rfl rfl rfl ?_ | refine ER.pickF rfl rfl rfl rfl ?_ | refine EK.condF rfl ?_ | refine ER.load1 rfl rfl rfl (by assumption) ?_))
  refine ER.callP rfl rfl rfl rfl rfl (loadC K a (D.cell (5 + n) (by omega) (by omega)) rfl) (fun _ _ _ y => y) ?_
  rintro _ h1 δ1 ⟨γ1, rfl, rfl, nx, s1⟩
  generalize γ1.p.val (B (5 + n)) = x at nx ⊢
  have hle1 := nx.len
  clear a s0 cp
  (repeat (first | refine ER.done ?_ | refine EK.block ?_ | refine ER.assign rfl rfl rfl ?_))
  refine EK.loopInv (fun s : GG X × Int × Nat => [(5, .int .i64 s.2.1), (0, ptr (B 3)), (1, ptr (γ.p.tb i))]) (fun s h' δ' => δ' = ⟨0, s.1⟩ /\ Nxt X P told i γ u L s.1 h' (if s.2.1 = tk then k 1 else .step ⟨3, B (5 + n), s.2.1, W64 (s.2.1 + 1)⟩ fun w => if w = s.2.1 then k 0 else backP (B (5 + n)) tk k s.2.2) /\ 65536 < s.2.2 + 1 + (ownOf i (γ.p.acc i).log).length + ((ownOf i (s.1.p.acc i).log).length - (ownOf i (γ.p.acc i).log).length)) (fun s => s.2.2) (γ1, x, f2) ⟨rfl, rfl, rfl, trivial⟩ ⟨rfl, nx, by dsimp only; omega⟩ ?_
  clear nx s1 hle1
  rintro ⟨γ1, x, f1⟩ h1 δ1 ⟨hδ, nx, hf1⟩ again
  dsimp only at hδ nx hf1 again ⊢
  subst hδ
  have hle1 := nx.len
  have hl1 := nx.at_.len
  have s1 := K.mem _ _ nx.at_.thr.I
  have cn := s1.tn
  by_cases hx : x = tk
  · rw [if_pos hx] at nx
    clear again
    (repeat (first | refine EK.seq ?_ | refine EK.region ?_ | refine ER.done ?_ | refine ER.move rfl rfl rfl ?_ | refine ER.assign rfl rfl rfl ?_ | refine ER.nilCheck rfl rfl rfl ?_ | refine ER.fieldAddr rfl rfl rfl ?_ | refine ER.cmpF rfl rfl rfl rfl rfl (by first | (dsimp only [cmpP]; omega) | exact rfl | exact Int.le_refl _) ?_ | refine EK.condF rfl ?_ | refine EK.ret ?_ | refine EK.exit rfl ?_ | refine ER.load1 rfl rfl rfl (by assumption) ?_))
    exact EU.ret1 rfl rfl ⟨γ1, 1, rfl, rfl, nx⟩
  · rw [if_neg hx] at nx
    have cp := s1.tl
    (repeat (first | refine EK.seq ?_ | refine EK.region ?_ | refine ER.done ?_ | refine EK.skip ?_ | refine EK.block ?_ | refine ER.move rfl rfl rfl ?_ | refine ER.nilCheck rfl rfl rfl ?_ | refine ER.fieldAddr rfl rfl rfl ?_ | refine ER.cmpT rfl rfl rfl rfl rfl (by first | (dsimp only [cmpP]; omega) | exact rfl | exact Int.le_refl _) ?_ | refine EK.condT rfl ?_ | refine ER.load1 rfl rfl rfl (by assumption) ?_))
    refine ER.add (r := W64 (x + 1)) rfl rfl rfl rfl rfl ?_
    refine ER.callP rfl rfl rfl rfl rfl (casC K nx.at_ (D.cell (5 + n) (by omega) (by omega)) nx.al.tb.symm) (fun _ _ _ y => y.along nx.al) ?_
    rintro _ h2 δ2 ⟨γ2, rfl, rfl, nx2, s2⟩
    generalize γ2.p.val (B (5 + n)) = w at nx2 ⊢
    replace nx := nx.trans K.ok nx2
    have hle2 := nx.len
    have hle22 := nx2.len
    clear nx2 s1 cp cn
    by_cases hw : w = x
    · rw [if_pos hw] at nx
      rw [decide_eq_true hw]
      (repeat (first | refine EK.seq ?_ | refine EK.region ?_ | refine ER.done ?_ | refine ER.assign rfl rfl rfl ?_ | refine EK.condT rfl ?_ | refine EK.ret ?_))
      exact EU.ret1 rfl rfl ⟨γ2, 0, rfl, rfl, nx⟩
    · rw [if_neg hw] at nx
      rw [decide_eq_false hw]
      have hl2 := nx.at_.len
      obtain ⟨f2, rfl⟩ : ∃ f2, f1 = f2 + 1 := ⟨f1 - 1, by omega⟩
      have cp := s2.tl
      (repeat (first | refine EK.region ?_ | refine ER.done ?_ | refine EK.skip ?_ | refine EK.inBlock ?_ | refine ER.move rfl rfl rfl ?_ | refine ER.nilCheck rfl rfl rfl ?_ | refine ER.fieldAddr rfl rfl rfl ?_ | refine EK.condF rfl ?_ | refine ER.load1 rfl rfl rfl (by assumption) ?_))
      refine ER.callP rfl rfl rfl rfl rfl (loadC K nx.at_ (D.cell (5 + n) (by omega) (by omega)) nx.al.tb.symm) (fun _ _ _ y => y.along nx.al) ?_
      rintro _ h3 δ3 ⟨γ3, rfl, rfl, nx3, s3⟩
      generalize γ3.p.val (B (5 + n)) = x3 at nx3 ⊢
      have hle3 := nx3.len
      (repeat (first | refine ER.done ?_ | refine ER.assign rfl rfl rfl ?_))
      exact EK.back (again (γ3, x3, f2) _ _ (by dsimp only; omega) ⟨rfl, nx.trans K.ok nx3, by dsimp only; omega⟩) ⟨rfl, rfl, rfl, trivial⟩
set_option maxRecDepth 8000 in
theorem ctop_T (K : CodX X P told (CntH n cap rest B tk)) (D : CntK X n B) {k : Int -> Pr A} (a : AtP X P told i γ u L h (loadP (B (4 + n)) k)) (ht : t = γ.p.tb i) :
    CallW Try.prog false (SitT Try.prog (PX X) (i + 1)) 113 #[ptr (B 2), ptr t] h ⟨0, γ⟩ (RetP (fun z h' δ' => ∃ (γ' : GG X) (v : Int), δ' = ⟨0, γ'⟩ /\ z = .int .i64 v /\ Nxt X P told i γ u L γ' h' (k v)) (Halt X i γ.p)) := by
  subst ht
  have s0 := K.mem _ _ a.thr.I
  have cp := s0.pk
  refine CallW.start (n := 13) rfl rfl ?_
  (repeat (first | refine EK.seq ?_ | refine EK.region ?_ | refine ER.done ?_ | refine EK.skip ?_ | refine ER.move rfl rfl rfl ?_ | refine ER.assign rfl rfl rfl ?_ | refine ER.nilCheck rfl rfl rfl ?_ | refine ER.fieldAddr rfl rfl rfl ?_ | refine ER.eqV rfl rfl rfl rfl rfl ?_ | refine EK.condF rfl ?_ | refine ER.load1 rfl rfl rfl (by assumption) ?_))
  refine ER.callP rfl rfl rfl rfl rfl (loadC K a (D.cell (4 + n) (by omega) (by omega)) rfl) (fun _ _ _ y => y) ?_
  rintro _ h1 δ1 ⟨γ1, rfl, rfl, nx, s1⟩
  (repeat (first | refine ER.done ?_ | refine ER.assign rfl rfl rfl ?_ | refine EK.ret ?_))
  exact EU.ret1 rfl rfl ⟨γ1, _, rfl, rfl, nx⟩
set_option maxRecDepth 8000 in
theorem cleft_T (K : CodX X P told (CntH n cap rest B tk)) (D : CntK X n B) {k : Int -> Pr A} (a : AtP X P told i γ u L h (loadP (B (5 + n)) k)) (ht : t = γ.p.tb i) :
    CallW Try.prog false (SitT Try.prog (PX X) (i + 1)) 115 #[ptr (B 3), ptr t] h ⟨0, γ⟩ (RetP (fun z h' δ' => ∃ (γ' : GG X) (v : Int), δ' = ⟨0, γ'⟩ /\ z = .int .i64 v /\ Nxt X P told i γ u L γ' h' (k v)) (Halt X i γ.p)) := by
  subst ht
  have s0 := K.mem _ _ a.thr.I
  have cp := s0.tl
  refine CallW.start (n := 13) rfl rfl ?_
  (repeat (first | refine EK.seq ?_ | refine EK.region ?_ | refine ER.done ?_ | refine EK.skip ?_ | refine ER.move rfl rfl rfl ?_ | refine ER.assign rfl rfl rfl ?_ | refine ER.nilCheck rfl rfl rfl ?_ | refine ER.fieldAddr rfl rfl rfl ?_ | refine ER.eqV rfl rfl rfl rfl rfl ?_ | refine EK.condF rfl ?_ | refine ER.load1 rfl rfl rfl (by assumption) ?_))
  refine ER.callP rfl rfl rfl rfl rfl (loadC K a (D.cell (5 + n) (by omega) (by omega)) rfl) (fun _ _ _ y => y) ?_
  rintro _ h1 δ1 ⟨γ1, rfl, rfl, nx, s1⟩
  (repeat (first | refine ER.done ?_ | refine ER.assign rfl rfl rfl ?_ | refine EK.ret ?_))
  exact EU.ret1 rfl rfl ⟨γ1, _, rfl, rfl, nx⟩
end
end
end Go.Proofs.Ytcpcdnkemobneaa
