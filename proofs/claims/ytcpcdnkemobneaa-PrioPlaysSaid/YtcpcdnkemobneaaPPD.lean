/- Steps of the walk and of the plain law (RunR to PrioP). Conditions: as each lemma says. -/
import Derived.Test.YtcpcdnkemobneaaPPC
namespace Go.Proofs.Ytcpcdnkemobneaa
section
open Go Go.TJ Go.Conc Go.Proofs
theorem sliceO_ne {h : Hp} {s : Value} {e sz n : Nat} {cells : List Value} (x : SliceO h s e sz n cells) {R : Nat} {c : Array Value} {e' : TypeId} {f : Nat × Nat} (hR : h[R]? = some (.cells c e' f)) (hne : e ≠ e') : ∀ b, blk s = some b -> b ≠ R := by
  rintro b hb rfl
  obtain ⟨_, ⟨rfl, _⟩ | ⟨b', cap, rest, rfl, h1, h2, h3⟩⟩ := x
  · cases hb
  · cases hb
    rw [h3] at hR
    injection hR with hR
    injection hR with _ hR _
    exact hne hR
section
variable {X : Us} {h : Hp} {γ : GG X}
structure Ended (X : Us) (v0 : Nat -> Int) (picks : List Int) (nb most : Nat) (p : PS X.U) (e : Int) (lL lW lY lV : Value) (h : Hp) : Prop where
  reg : Reg X v0 picks nb p
  how : (e = 1 /\ p.live nb = [] /\ p.log.length <= most) \/ (e = 2 /\ p.live nb ≠ [] /\ p.log.length = most)
  log : SliceO h lL 75 8 p.log.length (p.log.flatMap (entL (nums p.log)))
  went : SliceO h lW 3 1 p.went.length (p.went.map fun (n : Nat) => Value.int .i64 (n : Int))
  rdy : SliceO h lY 3 1 p.rdy.length (p.rdy.map fun (n : Nat) => Value.int .i64 (n : Int))
  left : SliceO h lV 75 8 (p.live nb).length ((p.live nb).flatMap (leftL p (nums p.log)))
  I : X.I p.u h
  J : X.J p.log p.u p.val
  Q : ∀ x, X.Q x (ownOf x p.log) (p.st x) p.u
  cel : ∀ b, X.isC b -> h[b]? = some (cellO (p.val b))
def psZ {U : Type} (R mb : Nat) (v0 : Nat -> Int) (u0 : U) : PS U := ⟨R, mb, 0, 0, fun _ => 0, fun _ => 0, fun _ => 0, fun _ => 0, fun _ => 0, fun _ => 0, fun _ => .nilFunc, fun _ => .born, fun _ => false, fun _ => [], [], [], [], v0, false, u0⟩
abbrev slsZ : Sls := ⟨nilS, nilS, nilS, nilS, nilS⟩
def memZ (R mb : Nat) : Mem Nm := ⟨fun k => k = .run \/ k = .map, fun k => if k = .run then R else mb, fun k => if k = .run then runO slsZ mb false else .map #[] 0⟩
theorem giZ {R mb : Nat} {v0 : Nat -> Int} {u0 : X.U} {W : Nat -> Prop} (hR : h[R]? = some (runO slsZ mb false)) (hm : h[mb]? = some (.map #[] 0)) (hWR : W R) (hWm : W mb) (hC : ∀ b, X.isC b -> h[b]? = some (cellO (v0 b)) /\ W b) (hD : ∀ b, X.Dom u0 b -> b < h.size /\ W b) (h1 : ¬ X.isC R /\ ¬ X.Dom u0 R) (h2 : ¬ X.isC mb /\ ¬ X.Dom u0 mb) : GI X W (psZ R mb v0 u0) [] slsZ (memZ R mb) h := by
  have hne : R ≠ mb := fun e => by rw [e, hm] at hR; cases hR
  have key : ∀ k, (memZ R mb).ok k -> (k = .run /\ (memZ R mb).B k = R) \/ (k = .map /\ (memZ R mb).B k = mb) := fun k hk => by
    rcases hk with rfl | rfl
    · exact .inl ⟨rfl, rfl⟩
    · exact .inr ⟨rfl, rfl⟩
  refine ⟨⟨fun k hk => ?_, fun k k' hk hk' e => ?_⟩, fun k => ?_, fun k hk => ?_, hC, fun k hk => ?_, hD, fun b hb => (by cases hb), fun e he => (by cases he), fun i hi => absurd hi (Nat.not_lt_zero _), fun i j hi => absurd hi (Nat.not_lt_zero _)⟩
  · rcases key k hk with ⟨rfl, _⟩ | ⟨rfl, _⟩
    · exact hR
    · exact hm
  · rcases key k hk with ⟨rfl, e1⟩ | ⟨rfl, e1⟩ <;> rcases key k' hk' with ⟨rfl, e2⟩ | ⟨rfl, e2⟩
    · rfl
    · exact absurd (e1.symm.trans (e.trans e2)) hne
    · exact absurd (e2.symm.trans (e.symm.trans e1)) hne
    · rfl
  · have no : ∀ {k : Nm}, k ≠ .run -> k ≠ .map -> ¬ (memZ R mb).ok k := fun a b x => x.elim a b
    cases k with
    | run => exact ⟨.inl rfl, rfl, rfl⟩
    | map => exact ⟨.inr rfl, rfl, #[], 0, rfl, Keyed.nil⟩
    | thr => exact Mem.Sl.nil (no nofun nofun)
    | log => exact Mem.Sl.nil (no nofun nofun)
    | went => exact Mem.Sl.nil (no nofun nofun)
    | rdy => exact Mem.Sl.nil (no nofun nofun)
    | fell => exact Mem.Sl.nil (no nofun nofun)
    | _ => exact fun hi => absurd hi (Nat.not_lt_zero _)
  · rcases key k hk with ⟨_, e⟩ | ⟨_, e⟩ <;> rw [e] <;> assumption
  · rcases key k hk with ⟨_, e⟩ | ⟨_, e⟩ <;> rw [e] <;> assumption
set_option maxHeartbeats 8000000 in
set_option maxRecDepth 8000 in
theorem runG (hX : X.Ok) {v0 : Nat -> Int} {u0 : X.U} {picks : List Int} {m : Int} {bods : List (FuncId × Array Value)} {sP sB : Value} (h0 : γ.p.num = 0) (hm0 : 0 <= m) (hm1 : m <= 65536) (hC : ∀ b, X.isC b -> h[b]? = some (cellO (v0 b))) (hD : ∀ b, X.Dom u0 b -> b < h.size) (hI : X.I u0 h) (hJ : X.J [] u0 v0) (hQ : ∀ x, X.Q x [] .born u0)
    (hnb : bods.length <= 64) (hB : SliceO h sB 45 1 bods.length (bods.map fun q => .func (.func q.1) #[] q.2)) (hBn : ∀ c, blk sB = some c -> ¬ X.isC c /\ ¬ X.Dom u0 c) (hP : SliceO h sP 3 1 picks.length (picks.map fun x => .int .i64 x)) (hPn : ∀ c, blk sP = some c -> ¬ X.isC c /\ ¬ X.Dom u0 c)
    (hbody : ∀ (k : Nat) (q : FuncId × Array Value), bods[k]? = some q -> HasBody Try.prog q.1 /\ Body X k q.1 q.2) :
    CallW Try.prog true (SitM Try.prog (PX X)) 17 #[sP, .int .i64 m, sB] h ⟨0, γ⟩ (Ret fun v h' δ' => ∃ (γ' : GG X) (p : PS X.U) (e : Int) (lL lW lY lV : Value), δ' = ⟨0, γ'⟩ /\ (∀ a, ¬ (SitM Try.prog (PX X)).still γ' a) /\ (∀ i, i ≠ 0 -> i < (PX X).num γ' -> (PX X).ch γ' i = none) /\ v = .agg (repL e p.log.length lL lW lY lV).toArray /\ Ended X v0 picks bods.length m.toNat p e lL lW lY lV h' /\ Upd (fun b => X.isC b \/ X.Dom u0 b) h h') := by
  have no0 : ∀ a, ¬ (SitM Try.prog (PX X)).still γ a := fun a x => by
    obtain ⟨j, hj, _⟩ := stillM_of x
    omega
  obtain ⟨aP, kP, eP⟩ := hP.val
  obtain ⟨aB, kB, eB⟩ := hB.val
  subst eP eB
  refine CallW.start (n := 30) rfl rfl ?_
  (repeat (first | refine EK.seq ?_ | refine EK.region ?_ | refine ER.done ?_ | refine EK.skip ?_ | refine ER.move rfl rfl rfl ?_ | refine ER.cmpF rfl rfl rfl rfl rfl (by first | (dsimp only [cmpP]; omega) | exact rfl | exact Int.le_refl _) ?_ | refine ER.box rfl rfl rfl ?_ | refine ER.allocA rfl rfl ?_ | refine ER.len1 rfl rfl rfl ?_ | refine EK.condF rfl ?_))
  refine ER.makeMap rfl rfl ?_
  refine ER.buildS (cells := #[nilS, .map (some (h.size + 2)), nilS, nilS, nilS, nilS, .bool false]) rfl rfl (by simp only [Array.size_push]; rfl) rfl ?_
  (repeat (first | refine ER.boxA rfl rfl rfl ?_ | refine ER.alloc rfl rfl ?_))
  refine ER.storeNew rfl rfl rfl rfl ⟨nofun, nofun⟩ (no0 _) ?_
  simp only [Array.size_push]
  refine ER.gen (fun h5 => Upd (fun _ => False) h h5 /\ h5.size = h.size + 5 /\ h5[h.size]? = some (.cells #[.slice aP picks.length kP] 25 (0, 0)) /\ h5[h.size + 1]? = some (.cells repZ.toArray 49 (0, 0)) /\ h5[h.size + 2]? = some (.map #[] 0) /\ h5[h.size + 3]? = some (.cells #[nilS, .map (some (h.size + 2)), nilS, nilS, nilS, nilS, .bool false] 196 (0, 0)) /\ h5[h.size + 4]? = some (oneO (ptr (h.size + 3)) 192)) ?_ ?_
  · exact push5 h (.cells #[.slice aP picks.length kP] 25) (.cells repZ.toArray 49) (.map #[] 0) (.cells #[nilS, .map (some (h.size + 2)), nilS, nilS, nilS, nilS, .bool false] 196) (oneO (ptr (h.size + 3)) 192)
  rintro h5 ⟨u5, s5, g0, g1, g2, g3, g4⟩
  have hCl : ∀ b, X.isC b -> b < h.size := fun b hb => lt_of_get (hC b hb)
  obtain ⟨W, hW⟩ : ∃ W : Nat -> Prop, W = fun b => X.isC b \/ X.Dom u0 b \/ b = h.size + 3 \/ b = h.size + 2 \/ h5.size <= b := ⟨_, rfl⟩
  have nW : ∀ b, b < h5.size -> ¬ X.isC b -> ¬ X.Dom u0 b -> b ≠ h.size + 3 -> b ≠ h.size + 2 -> ¬ W b := fun b h1 h2 h3 h4 h5 x => by
    rw [hW] at x
    rcases x with x | x | x | x | x
    · exact h2 x
    · exact h3 x
    · exact h4 x
    · exact h5 x
    · omega
  have nC : ∀ b, h.size <= b -> ¬ X.isC b := fun b hb x => by have := hCl b x; omega
  have nD : ∀ b, h.size <= b -> ¬ X.Dom u0 b := fun b hb x => by have := hD b x; omega
  have gi0 : GI X W (psZ (h.size + 3) (h.size + 2) v0 u0) [] slsZ (memZ (h.size + 3) (h.size + 2)) h5 := giZ g3 g2 (by rw [hW]; exact .inr (.inr (.inl rfl))) (by rw [hW]; exact .inr (.inr (.inr (.inl rfl)))) (fun b hb => ⟨u5.get (hC b hb) (fun x => x), by rw [hW]; exact .inl hb⟩) (fun b hb => ⟨by have := hD b hb; omega, by rw [hW]; exact .inr (.inl hb)⟩) ⟨nC _ (by omega), nD _ (by omega)⟩ ⟨nC _ (by omega), nD _ (by omega)⟩
  have sta0 : Sta X W h5 (h.size + 3) (psZ (h.size + 3) (h.size + 2) v0 u0) h5 := ⟨⟨_, _, gi0⟩, hX.loc _ _ _ (fun b hb => u5.2 b (hD b hb) (fun x => x)) hI, hJ, hQ, rfl, Upd.refl _ _⟩
  have hunt := untilG (γ := γ) (h := h5) hX (p0 := psZ (h.size + 3) (h.size + 2) v0 u0) (.inr ⟨h0, rfl⟩) (W := W) (R := h.size + 3) (bP := h.size) (bR := h.size + 4) (picks := picks) (most := m.toNat) (bods := bods) (fun c hc => by rw [hW]; exact .inr (.inr (.inr (.inr hc)))) sta0 ⟨rfl, rfl, rfl, rfl, rfl, rfl, fun _ => rfl⟩ (by omega) hnb
    (hB.upd u5 (fun _ _ x => x)) (fun c hc => by
      have := hB.lt hc
      obtain ⟨x1, x2⟩ := hBn c hc
      exact nW c (by omega) x1 x2 (by omega) (by omega)) (hP.upd u5 (fun _ _ x => x)) (fun c hc => by
      have := hP.lt hc
      obtain ⟨x1, x2⟩ := hPn c hc
      exact nW c (by omega) x1 x2 (by omega) (by omega)) (hcell_of g0 rfl) (nW _ (by omega) (nC _ (by omega)) (nD _ (by omega)) (by omega) (by omega)) (hcell_of g4 rfl) (nW _ (by omega) (nC _ (by omega)) (nD _ (by omega)) (by omega) (by omega)) hbody
  rw [show ((m.toNat : Nat) : Int) = m by omega] at hunt
  have c4 : hcell h5 ⟨h.size + 4, 0, none⟩ = some (ptr (h.size + 3)) := hcell_of g4 rfl
  clear g4 gi0 sta0
  (repeat (first | refine EK.seq ?_ | refine EK.region ?_ | refine ER.done ?_ | refine ER.move rfl rfl rfl ?_ | refine ER.load1 rfl rfl rfl (by assumption) ?_))
  refine ER.max (r := m) rfl rfl rfl rfl (by rw [if_neg (by omega)]) ?_
  refine ER.min (r := m) rfl rfl rfl rfl (by rw [if_neg (by omega)]) ?_
  (repeat refine ER.move rfl rfl rfl ?_)
  refine ER.makeFunc (fv := #[]) (cv := #[ptr h.size, ptr (h.size + 4)]) rfl rfl (fun ρ hρ => ⟨map_ofL hρ (vs := []) rfl, map_ofL hρ (vs := [ptr h.size, ptr (h.size + 4)]) rfl⟩) ?_
  refine ER.callR rfl rfl rfl rfl rfl hunt ?_
  rintro _ h6 δ6 ⟨γ6, p6, e, rfl, mn, st6, rg, rfl, how⟩
  obtain ⟨s6, M6, g6⟩ := st6.gi
  have nW1 : ¬ W (h.size + 1) := nW _ (by omega) (nC _ (by omega)) (nD _ (by omega)) (by omega) (by omega)
  have nW4 : ¬ W (h.size + 4) := nW _ (by omega) (nC _ (by omega)) (nD _ (by omega)) (by omega) (by omega)
  have c6 := st6.upd.hcell c4 nW4
  have r6 := st6.upd.get g1 nW1
  have sz6 := st6.upd.size
  have oursW : ∀ b, Ours X p6 M6 b -> W b := fun b x => by
    rcases x with ⟨k, hk, rfl⟩ | x | x | ⟨i, hi, q, hq, rfl⟩
    · exact g6.wide k hk
    · exact (g6.cel b x).2
    · exact (g6.dom b x).2
    · exact (g6.prv i hi q hq).2.1
  have hrep := reportG (γ := γ6) (e := e) hX mn g6 st6.I st6.J st6.Q (by rw [rg.num]; exact hnb) (by rw [rg.fl]; exact hnb) (fun j hj hg => by
    rcases rg.alive j (by rw [<- rg.num]; exact hj) with ⟨_, r, y1, y2⟩ | ⟨y, _⟩
    · exact ⟨r, y1, y2⟩
    · rw [hg] at y; cases y)
  rw [st6.R] at hrep
  clear hunt
  (repeat (first | refine EK.seq ?_ | refine EK.region ?_ | refine ER.done ?_ | refine ER.move rfl rfl rfl ?_ | refine ER.assign rfl rfl rfl ?_ | refine ER.extract rfl rfl rfl rfl ?_ | refine ER.load1 rfl rfl rfl (by assumption) ?_))
  refine ER.callR rfl rfl rfl rfl rfl hrep ?_
  clear hrep
  rintro _ h7 δ7 ⟨γ7, s7, M7, lv, rfl, mn7, g7, I7, u7, sl7, rfl⟩
  have nO1 : ¬ Ours X p6 M6 (h.size + 1) := fun x => nW1 (oursW _ x)
  have r7 := u7.get r6 nO1
  have no7 : ∀ a, ¬ (SitM Try.prog (PX X)).still γ7 a := fun a x => by
    obtain ⟨j, hj, hg, _⟩ := stillM_of x
    have hv := mn7.view hX hj
    have hn := mn7.num
    have : (p6.gone j || decide (j < p6.num)) = γ7.p.gone j := hv.gone
    have hj' : j < p6.num := by have : p6.num = γ7.p.num := hn; omega
    rw [hg] at this
    simp [hj'] at this
  have ch7 : ∀ i, i ≠ 0 -> i < (PX X).num γ7 -> (PX X).ch γ7 i = none := fun i hi hl => by
    cases i with
    | zero => exact absurd rfl hi
    | succ j =>
      have hj : j < γ7.p.num := Nat.lt_of_succ_lt_succ hl
      have hv := mn7.view hX hj
      have hn : p6.num = γ7.p.num := mn7.num
      have hg : (p6.gone j || decide (j < p6.num)) = γ7.p.gone j := hv.gone
      show (if γ7.p.gone j = true then none else some (γ7.p.wk j)) = none
      rw [<- hg, show decide (j < p6.num) = true by simp; omega, Bool.or_true]
      rfl
  have nb7 : ∀ k, M7.ok k -> M7.B k ≠ h.size + 1 := fun k hk e' => by
    rcases g7.wide k hk with y | y
    · exact nO1 (e' ▸ y)
    · omega
  have hwl : p6.went.length = p6.log.length := by rw [rg.went, List.length_map]
  have sL : SliceO h7 s7.L 75 8 p6.log.length (p6.log.flatMap (entL (nums p6.log))) := Mem.Sl.slice g7.rep (g7.all .log)
  have sW : SliceO h7 s7.W 3 1 p6.went.length (p6.went.map fun (n : Nat) => Value.int .i64 (n : Int)) := Mem.Sl.slice g7.rep (g7.all .went)
  have sY : SliceO h7 s7.Y 3 1 p6.rdy.length (p6.rdy.map fun (n : Nat) => Value.int .i64 (n : Int)) := Mem.Sl.slice g7.rep (g7.all .rdy)
  rw [rg.num] at sl7
  have q1 := sliceO_ne sL r7 (by decide)
  have q2 := sliceO_ne sW r7 (by decide)
  have q3 := sliceO_ne sY r7 (by decide)
  have q4 := sliceO_ne sl7 r7 (by decide)
  have hcs : ∀ j, j < 7 -> (∃ u, hcell h7 ⟨h.size + 1, 0 + j, none⟩ = some u) /\ hfroz h7 ⟨h.size + 1, 0 + j, none⟩ = false /\ ¬ (SitM Try.prog (PX X)).still γ7 ⟨h.size + 1, 0 + j, none⟩ := fun j hj => by
    refine ⟨?_, hfroz_of r7, no7 _⟩
    rcases (show j = 0 \/ j = 1 \/ j = 2 \/ j = 3 \/ j = 4 \/ j = 5 \/ j = 6 by omega) with rfl | rfl | rfl | rfl | rfl | rfl | rfl <;> exact ⟨_, hcell_of r7 rfl⟩
  refine ER.storeN (vs := repL e p6.went.length s7.L s7.W s7.Y lv) rfl rfl rfl rfl (fun v hv => ?_) hcs ?_
  · simp only [List.mem_cons, List.not_mem_nil, or_false] at hv
    rcases hv with rfl | rfl | rfl | rfl | rfl | rfl | rfl
    · exact ⟨nofun, nofun⟩
    · exact ⟨nofun, nofun⟩
    · obtain ⟨a, k, e'⟩ := sL.val; rw [e']; exact ⟨nofun, nofun⟩
    · obtain ⟨a, k, e'⟩ := sW.val; rw [e']; exact ⟨nofun, nofun⟩
    · obtain ⟨a, k, e'⟩ := sY.val; rw [e']; exact ⟨nofun, nofun⟩
    · obtain ⟨a, k, e'⟩ := sl7.val; rw [e']; exact ⟨nofun, nofun⟩
    · exact ⟨nofun, nofun⟩
  rw [row_set (c := repZ) (vs := repL e p6.went.length s7.L s7.W s7.Y lv) r7 rfl]
  (repeat (first | refine ER.done ?_ | refine EK.ret ?_))
  have nF : (h7.setIfInBounds (h.size + 1) (.cells (repL e p6.went.length s7.L s7.W s7.Y lv).toArray 49 (0, 0)))[h.size + 1]? = some (.cells (repL e p6.went.length s7.L s7.W s7.Y lv ++ []).toArray 49 (0, 0)) := by rw [List.append_nil]; exact get_set_same r7
  have uF : Upd (fun b => b = h.size + 1) h7 (h7.setIfInBounds (h.size + 1) (.cells (repL e p6.went.length s7.L s7.W s7.Y lv).toArray 49 (0, 0))) := Upd.set _ _ _ rfl
  have nDu : ¬ X.Dom p6.u (h.size + 1) := fun x => nO1 (.inr (.inr (.inl x)))
  refine EU.retCell1 (vs := repL e p6.went.length s7.L s7.W s7.Y lv) rfl rfl rfl (hrow_block nF) ⟨γ7, p6, e, s7.L, s7.W, s7.Y, lv, rfl, no7, ch7, by rw [hwl], ⟨rg, how, sL.upd uF q1, sW.upd uF q2, sY.upd uF q3, sl7.upd uF q4, hX.loc _ _ _ (fun b hb => get_set_ne _ (fun e' => nDu (e' ▸ hb))) I7, st6.J, st6.Q, fun b hb => ?_⟩, ⟨?_, fun b hb hn => ?_⟩⟩
  · rw [get_set_ne _ (by have := hCl b hb; omega)]
    exact (g7.cel b hb).1
  · rw [Array.size_setIfInBounds]; have := u7.size; omega
  · have hnW : ¬ W b := nW b (by omega) (fun x => hn (.inl x)) (fun x => hn (.inr x)) (by omega) (by omega)
    rw [get_set_ne _ (by omega), u7.2 b (by omega) (fun x => hnW (oursW _ x)), st6.upd.2 b (by omega) hnW]
    exact u5.2 b hb (fun x => x)
end
end
section
open Go Go.TJ Go.Conc Go.Proofs
section
variable {X : Us} {h : Hp} {i : Nat} {γ : GG X} {u : X.U} {L : List (Nat × Obj)}
structure Asks (X : Us) (i : Nat) (γ : GG X) (u : X.U) (r : Rq) : Prop where
  Q : X.Q i (ownOf i (γ.p.acc i).log) (.stands r) u
  J : X.J (γ.p.acc i).log u (γ.p.acc i).val
def Halt (X : Us) (i : Nat) (p : PS X.U) (ps : List PanicEntry) (h : Hp) (δ : Ix (GG X)) : Prop := ∃ γ' : GG X, δ = ⟨0, γ'⟩ /\ Along X i p γ'.p /\ Stp X i γ' h /\ ps = [{ v := stopV, recovered := false }]
theorem Halt.along {p p' : PS X.U} (a : Along X i p p') {ps : List PanicEntry} {h : Hp} {δ : Ix (GG X)} (x : Halt X i p' ps h δ) : Halt X i p ps h δ := by
  obtain ⟨γ', rfl, al, s, e⟩ := x
  exact ⟨γ', rfl, a.trans al, s, e⟩
def Did (X : Us) (i : Nat) (γ : GG X) (u : X.U) (L : List (Nat × Obj)) (r : Rq) (f : Int -> Value) (w : Value) (h : Hp) (δ : Ix (GG X)) : Prop := ∃ γ' : GG X, δ = ⟨0, γ'⟩ /\ Thr X i γ' γ'.p.u L h /\ Stood X i γ u r γ' /\ w = f (γ'.p.val r.b)
theorem Thr.celC (T : Thr X i γ u L h) {b : Nat} (hb : X.isC b) : ∃ v, h[b]? = some (cellO v) := by
  obtain ⟨s, M, g⟩ := T.gi
  exact ⟨_, (g.cel b hb).1⟩
theorem rq_ok {b : Nat} {op a c : Int} (hb : X.isC b) (h1 : (decide (1 <= op) && decide (op <= 5)) = true) (h2 : op = 1 -> a = 0) (h3 : op ≠ 3 -> c = 0) : RqOk X ⟨op, b, a, c⟩ := by
  simp only [Bool.and_eq_true, decide_eq_true_eq] at h1
  exact ⟨hb, h1.1, h1.2, h2, h3⟩
set_option maxRecDepth 8000 in
set_option maxHeartbeats 1000000 in
theorem cloadT (hX : X.Ok) (T : Thr X i γ u L h) {b : Nat} (hb : X.isC b) (A : Asks X i γ u ⟨1, b, 0, 0⟩) : CallW Try.prog false (SitT Try.prog (PX X) (i + 1)) 97 #[ptr b, ptr (γ.p.tb i)] h ⟨0, γ⟩ (RetP (Did X i γ u L ⟨1, b, 0, 0⟩ (.int .i64 ·)) (Halt X i γ.p)) := by
  obtain ⟨v, hv⟩ := T.celC hb
  obtain ⟨w, t, o, c, b0, n, x, y, k, hat, hrow1⟩ := T.row
  have c0 : hcell h ⟨γ.p.tb i, 0, none⟩ = some (ptr γ.p.R) := hcell_of hrow1 rfl
  have c13 : hcell h ⟨γ.p.tb i, 13, none⟩ = some (.bool false) := hcell_of hrow1 rfl
  clear hrow1 hat
  refine CallW.start (n := 26) rfl rfl ?_
  (repeat (first | refine EK.seq ?_ | refine EK.region ?_ | refine ER.done ?_ | refine ER.move rfl rfl rfl ?_ | refine ER.assign rfl rfl rfl ?_))
  refine ER.callD rfl rfl rfl rfl rfl (none_ok hv) ?_
  (repeat (first | refine EK.seq ?_ | refine EK.region ?_ | refine ER.done ?_ | refine EK.skip ?_ | refine ER.move rfl rfl rfl ?_ | refine EK.condF rfl ?_))
  refine ER.callD rfl rfl rfl rfl rfl (live_ok c0 c13) ?_
  (repeat (first | refine EK.seq ?_ | refine EK.region ?_ | refine ER.done ?_ | refine ER.move rfl rfl rfl ?_ | refine ER.nilCheck rfl rfl rfl ?_ | refine ER.fieldAddr rfl rfl rfl ?_ | refine EK.condT rfl ?_))
  refine ER.callP rfl rfl rfl rfl rfl (step_ok (r := ⟨1, b, 0, 0⟩) hX T (rq_ok hb rfl (fun _ => rfl) (fun _ => rfl)) A.Q A.J) ?_ ?_
  · rintro ps h' δ' ⟨γ', rfl, hS, st, rfl⟩
    exact ⟨γ', rfl, st.al, hS, rfl⟩
  rintro w h1 δ1 ⟨γ', rfl, T', st, rfl⟩
  (repeat (first | refine EK.seq ?_ | refine EK.region ?_ | refine ER.done ?_ | refine ER.move rfl rfl rfl ?_ | refine ER.assign rfl rfl rfl ?_ | refine ER.extract rfl rfl rfl rfl ?_ | refine EK.ret ?_))
  exact EU.ret1 rfl rfl ⟨γ', rfl, T', st, rfl⟩
set_option maxRecDepth 8000 in
set_option maxHeartbeats 1000000 in
theorem cstoreT (hX : X.Ok) (T : Thr X i γ u L h) {b : Nat} {a : Int} (hb : X.isC b) (A : Asks X i γ u ⟨2, b, a, 0⟩) : CallW Try.prog false (SitT Try.prog (PX X) (i + 1)) 95 #[ptr b, ptr (γ.p.tb i), .int .i64 a] h ⟨0, γ⟩ (RetP (Did X i γ u L ⟨2, b, a, 0⟩ (fun _ => .tuple #[])) (Halt X i γ.p)) := by
  obtain ⟨v, hv⟩ := T.celC hb
  obtain ⟨w, t, o, c, b0, n, x, y, k, hat, hrow1⟩ := T.row
  have c0 : hcell h ⟨γ.p.tb i, 0, none⟩ = some (ptr γ.p.R) := hcell_of hrow1 rfl
  have c13 : hcell h ⟨γ.p.tb i, 13, none⟩ = some (.bool false) := hcell_of hrow1 rfl
  clear hrow1 hat
  refine CallW.start (n := 23) rfl rfl ?_
  (repeat (first | refine EK.seq ?_ | refine EK.region ?_ | refine ER.move rfl rfl rfl ?_))
  refine ER.callD rfl rfl rfl rfl rfl (none_ok hv) ?_
  (repeat (first | refine EK.seq ?_ | refine EK.region ?_ | refine ER.done ?_ | refine EK.skip ?_ | refine ER.move rfl rfl rfl ?_ | refine EK.condF rfl ?_))
  refine ER.callD rfl rfl rfl rfl rfl (live_ok c0 c13) ?_
  (repeat (first | refine EK.seq ?_ | refine EK.region ?_ | refine ER.done ?_ | refine ER.move rfl rfl rfl ?_ | refine ER.nilCheck rfl rfl rfl ?_ | refine ER.fieldAddr rfl rfl rfl ?_ | refine EK.condT rfl ?_))
  refine ER.callP rfl rfl rfl rfl rfl (step_ok (r := ⟨2, b, a, 0⟩) hX T (rq_ok hb rfl (fun e => absurd e (by decide)) (fun _ => rfl)) A.Q A.J) ?_ ?_
  · rintro ps h' δ' ⟨γ', rfl, hS, st, rfl⟩
    exact ⟨γ', rfl, st.al, hS, rfl⟩
  rintro w h1 δ1 ⟨γ', rfl, T', st, rfl⟩
  (repeat (first | refine ER.done ?_ | refine EK.ret ?_))
  exact EU.ret0 rfl ⟨γ', rfl, T', st, rfl⟩
set_option maxRecDepth 8000 in
set_option maxHeartbeats 1000000 in
theorem ccasT (hX : X.Ok) (T : Thr X i γ u L h) {b : Nat} {a c' : Int} (hb : X.isC b) (A : Asks X i γ u ⟨3, b, a, c'⟩) : CallW Try.prog false (SitT Try.prog (PX X) (i + 1)) 106 #[ptr b, ptr (γ.p.tb i), .int .i64 a, .int .i64 c'] h ⟨0, γ⟩ (RetP (Did X i γ u L ⟨3, b, a, c'⟩ (fun z => .bool (decide (z = a)))) (Halt X i γ.p)) := by
  obtain ⟨v, hv⟩ := T.celC hb
  obtain ⟨w, t, o, c, b0, n, x, y, k, hat, hrow1⟩ := T.row
  have c0 : hcell h ⟨γ.p.tb i, 0, none⟩ = some (ptr γ.p.R) := hcell_of hrow1 rfl
  have c13 : hcell h ⟨γ.p.tb i, 13, none⟩ = some (.bool false) := hcell_of hrow1 rfl
  clear hrow1 hat
  refine CallW.start (n := 39) rfl rfl ?_
  (repeat (first | refine EK.seq ?_ | refine EK.region ?_ | refine ER.done ?_ | refine ER.move rfl rfl rfl ?_ | refine ER.assign rfl rfl rfl ?_))
  refine ER.callD rfl rfl rfl rfl rfl (none_ok hv) ?_
  (repeat (first | refine EK.seq ?_ | refine EK.region ?_ | refine ER.done ?_ | refine EK.skip ?_ | refine ER.move rfl rfl rfl ?_ | refine EK.condF rfl ?_))
  refine ER.callD rfl rfl rfl rfl rfl (live_ok c0 c13) ?_
  (repeat (first | refine EK.seq ?_ | refine EK.region ?_ | refine ER.done ?_ | refine ER.move rfl rfl rfl ?_ | refine ER.nilCheck rfl rfl rfl ?_ | refine ER.fieldAddr rfl rfl rfl ?_ | refine EK.condT rfl ?_))
  refine ER.callP rfl rfl rfl rfl rfl (step_ok (r := ⟨3, b, a, c'⟩) hX T (rq_ok hb rfl (fun e => absurd e (by decide)) (fun e => absurd rfl e)) A.Q A.J) ?_ ?_
  · rintro ps h' δ' ⟨γ', rfl, hS, st, rfl⟩
    exact ⟨γ', rfl, st.al, hS, rfl⟩
  rintro w h1 δ1 ⟨γ', rfl, T', st, rfl⟩
  (repeat (first | refine EK.seq ?_ | refine EK.region ?_ | refine ER.done ?_ | refine ER.move rfl rfl rfl ?_ | refine ER.assign rfl rfl rfl ?_ | refine ER.extract rfl rfl rfl rfl ?_ | refine EK.ret ?_))
  refine EU.ret1 rfl rfl ⟨γ', rfl, T', st, ?_⟩
  by_cases e : γ'.p.val b = a
  · simp [behind, e]
  · simp [behind, e]
set_option maxRecDepth 8000 in
set_option maxHeartbeats 1000000 in
theorem caddT (hX : X.Ok) (T : Thr X i γ u L h) {b : Nat} {a : Int} (hb : X.isC b) (A : Asks X i γ u ⟨4, b, a, 0⟩) : CallW Try.prog false (SitT Try.prog (PX X) (i + 1)) 128 #[ptr b, ptr (γ.p.tb i), .int .i64 a] h ⟨0, γ⟩ (RetP (Did X i γ u L ⟨4, b, a, 0⟩ (fun z => .int .i64 (IntKind.i64.wrap (z + a)))) (Halt X i γ.p)) := by
  obtain ⟨v, hv⟩ := T.celC hb
  obtain ⟨w, t, o, c, b0, n, x, y, k, hat, hrow1⟩ := T.row
  have c0 : hcell h ⟨γ.p.tb i, 0, none⟩ = some (ptr γ.p.R) := hcell_of hrow1 rfl
  have c13 : hcell h ⟨γ.p.tb i, 13, none⟩ = some (.bool false) := hcell_of hrow1 rfl
  clear hrow1 hat
  refine CallW.start (n := 34) rfl rfl ?_
  (repeat (first | refine EK.seq ?_ | refine EK.region ?_ | refine ER.done ?_ | refine ER.move rfl rfl rfl ?_ | refine ER.assign rfl rfl rfl ?_))
  refine ER.callD rfl rfl rfl rfl rfl (none_ok hv) ?_
  (repeat (first | refine EK.seq ?_ | refine EK.region ?_ | refine ER.done ?_ | refine EK.skip ?_ | refine ER.move rfl rfl rfl ?_ | refine EK.condF rfl ?_))
  refine ER.callD rfl rfl rfl rfl rfl (live_ok c0 c13) ?_
  (repeat (first | refine EK.seq ?_ | refine EK.region ?_ | refine ER.done ?_ | refine ER.move rfl rfl rfl ?_ | refine ER.nilCheck rfl rfl rfl ?_ | refine ER.fieldAddr rfl rfl rfl ?_ | refine EK.condT rfl ?_))
  refine ER.callP rfl rfl rfl rfl rfl (step_ok (r := ⟨4, b, a, 0⟩) hX T (rq_ok hb rfl (fun e => absurd e (by decide)) (fun _ => rfl)) A.Q A.J) ?_ ?_
  · rintro ps h' δ' ⟨γ', rfl, hS, st, rfl⟩
    exact ⟨γ', rfl, st.al, hS, rfl⟩
  rintro w h1 δ1 ⟨γ', rfl, T', st, rfl⟩
  (repeat (first | refine EK.seq ?_ | refine EK.region ?_ | refine ER.done ?_ | refine ER.move rfl rfl rfl ?_ | refine ER.assign rfl rfl rfl ?_ | refine ER.extract rfl rfl rfl rfl ?_ | refine EK.ret ?_))
  exact EU.ret1 rfl rfl ⟨γ', rfl, T', st, rfl⟩
end
end
section
open Go Go.TJ Go.Conc Go.Proofs
inductive Pr (A : Type) where
  | done
  | step (r : Rq) (k : Int -> Pr A)
  | emit (a : A) (k : Pr A)
inductive Goes {A : Type} (i : Nat) : Pr A -> List Ev -> List A -> Pr A -> Prop
  | nil (p : Pr A) : Goes i p [] [] p
  | emit {a : A} {k q : Pr A} {l : List Ev} {o : List A} : Goes i k l o q -> Goes i (.emit a k) l (a :: o) q
  | step {r : Rq} {k : Int -> Pr A} {q : Pr A} {l : List Ev} {o : List A} (w : Int) : Goes i (k w) l o q -> Goes i (.step r k) (evOf i r w :: l) o q
section
variable {A : Type} {i : Nat} {p : Pr A} {l : List Ev} {o : List A}
theorem Goes.access {r : Rq} {k : Int -> Pr A} (g : Goes i p l o (.step r k)) (w : Int) : Goes i p (l ++ [evOf i r w]) o (k w) := by
  generalize hq : Pr.step r k = q at g
  induction g with
  | nil p => subst hq; exact .step w (.nil _)
  | emit _ ih => exact .emit (ih hq)
  | step w' _ ih => exact .step w' (ih hq)
theorem Goes.tell {a : A} {k : Pr A} (g : Goes i p l o (.emit a k)) : Goes i p l (o ++ [a]) k := by
  generalize hq : Pr.emit a k = q at g
  induction g with
  | nil p => subst hq; exact .emit (.nil _)
  | emit _ ih => exact .emit (ih hq)
  | step w' _ ih => exact .step w' (ih hq)
theorem Goes.det {q : Pr A} (g : Goes i p l o q) : ∀ {o' : List A} {q' : Pr A}, Goes i p l o' q' -> (∀ a k, q ≠ .emit a k) -> (∀ a k, q' ≠ .emit a k) -> o' = o /\ q' = q := by
  induction g with
  | nil p =>
    intro o' q' g' hq hq'
    cases g' with
    | nil => exact ⟨rfl, rfl⟩
    | emit _ => exact absurd rfl (hq _ _)
  | emit _ ih =>
    intro o' q' g' hq hq'
    cases g' with
    | nil => exact absurd rfl (hq' _ _)
    | emit h => obtain ⟨rfl, rfl⟩ := ih h hq hq'; exact ⟨rfl, rfl⟩
  | @step r k q l o w _ ih =>
    intro o' q' g' hq hq'
    generalize he : evOf i r w :: l = l' at g'
    generalize hp : Pr.step r k = p' at g'
    cases g' with
    | nil => cases he
    | emit h => cases hp
    | step w' h =>
      injection hp with h1 h2
      subst h1 h2
      injection he with h3 h4
      subst h4
      have : w = w' := by injection h3
      subst this
      exact ih h hq hq'
end
structure Prog (X : Us) {A : Type} (P : Nat -> Pr A) (told : X.U -> Nat -> List A) : Prop where
  Q : ∀ i l s u, X.Q i l s u ↔ ∃ p, Goes i (P i) l (told u i) p /\ (match s with | .born => told u i = [] | .stands r => ∃ k, p = .step r k | .over => p = .done)
  V : ∀ i u u', X.V i u u' -> told u' i = told u i
section
variable {X : Us} {A : Type} {P : Nat -> Pr A} {told : X.U -> Nat -> List A} {i : Nat} {γ γ' : GG X} {u : X.U} {L : List (Nat × Obj)} {h : Hp}
def Res (P : Nat -> Pr A) (told : X.U -> Nat -> List A) (i : Nat) (γ : GG X) (u : X.U) (p : Pr A) : Prop := Goes i (P i) (ownOf i (γ.p.acc i).log) (told u i) p
theorem Res.asks (R : Prog X P told) {r : Rq} {k : Int -> Pr A} (x : Res P told i γ u (.step r k)) (hJ : X.J (γ.p.acc i).log u (γ.p.acc i).val) : Asks X i γ u r := ⟨(R.Q _ _ _ _).2 ⟨_, x, k, rfl⟩, hJ⟩
theorem Res.did (R : Prog X P told) {r : Rq} {k : Int -> Pr A} (x : Res P told i γ u (.step r k)) (st : Stood X i γ u r γ') : Res P told i γ' γ'.p.u (k (γ'.p.val r.b)) := by
  unfold Res
  rw [st.after, R.V _ _ _ st.V]
  exact Goes.access x _
theorem Res.over (R : Prog X P told) (x : Res P told i γ u .done) : X.Q i (ownOf i (γ.p.acc i).log) .over u := (R.Q _ _ _ _).2 ⟨_, x, rfl⟩
theorem Res.born (_R : Prog X P told) (_T : Thr X i γ γ.p.u L h) (hb : γ.p.st i = .born) (ho : ownOf i γ.p.log = []) (ht : told γ.p.u i = []) : Res P told i γ γ.p.u (P i) := by
  unfold Res
  rw [acc_born _ _ hb, ho, ht]
  exact .nil _
end
theorem eaCallP {Γ : Type} {P : Program} {main : Bool} {S : Sit Γ} {f : FuncId} {n : Nat} {k : List Item} {env : Env} {h : Hp} {δ : Ix Γ} {R : Post Γ} {ops : Array Oper} {Z : Hp -> Prop} {z : Nat} (i : Nat) {d : Nat} {x : Operand} {args : Array Operand} {ats : Array TypeId} {ty : TypeId} {pos : String} {af : Array Edge} {g : Option (Nat × Bool)} {m : Nat} {listed l' : Array Bool} {fn : Func} [hf : IsFn P f fn] {c : FuncId} {cap ws : Array Value} {vs : List Value} [HasBody P c] {Q : Value -> Hp -> Ix Γ -> Prop} {Y : List PanicEntry -> Hp -> Ix Γ -> Prop}
    (hi : ops[i]? = some ⟨some d, .call { callee := .value x, args, argTypes := ats }, ty, pos, af, g⟩) (hr : Region.ready .any ops listed = [i]) (hl : listed.setIfInBounds i true = l') (hd : Nat.blt d n = true)
    (hw : wantE ops env g = some true) (hx : ev env x = some (.func (.func c) #[] cap)) (ha : evL env args.toList = some vs) (hws : vs.toArray ++ cap = ws) (hc : CallW P main S c ws h δ (RetP Q Y)) (hY : ∀ p h' δ', Y p h' δ' -> R (.pan p) h' δ')
    (hn : ∀ v h' δ', Q v h' δ' -> Z h' /\ EA P main S f n ops Z z m l' k ((d, v) :: env) [] h' δ' R) : EA P main S f n ops Z z (m + 1) listed k env [] h δ R := by
  subst hws
  refine EA.only i hi hr hl hw fun a ka => ?_
  refine semW_call rfl (ka.eval hx) (map_ofL (fun x v hx => ka.eval hx) ha) (hc.mono ?_)
  rintro (v | p) h' δ' hq
  · exact ⟨.inr (hn v h' δ' hq).1, (hn v h' δ' hq).2 _ (ka.put v hd)⟩
  · exact fun a' ha' => WU.pan0 (ha'.trans ka.defers) hf.out (hY _ _ _ hq)
end
section
open Go Go.TJ Go.Conc Go.Proofs
structure ProgF (X : Us) {A : Type} (P : Nat -> Pr A) (told : X.U -> Nat -> List A) (F : Rq -> Prop) : Prop where
  Q : ∀ i l s u, X.Q i l s u ↔ ∃ p, Goes i (P i) l (told u i) p /\ (match s with | .born => told u i = [] | .stands r => (∃ k, p = .step r k) /\ F r | .over => p = .done)
  V : ∀ i u u', X.V i u u' -> told u' i = told u i
section
variable {X : Us} {F : Rq -> Prop} {A : Type} {P : Nat -> Pr A} {told : X.U -> Nat -> List A} {i : Nat} {γ γ' : GG X} {u : X.U} {L : List (Nat × Obj)} {h : Hp}
theorem Res.asksF (R : ProgF X P told F) {r : Rq} {k : Int -> Pr A} (x : Res P told i γ u (.step r k)) (hF : F r) (hJ : X.J (γ.p.acc i).log u (γ.p.acc i).val) : Asks X i γ u r := ⟨(R.Q _ _ _ _).2 ⟨_, x, ⟨k, rfl⟩, hF⟩, hJ⟩
theorem Res.didF (R : ProgF X P told F) {r : Rq} {k : Int -> Pr A} (x : Res P told i γ u (.step r k)) (st : Stood X i γ u r γ') : Res P told i γ' γ'.p.u (k (γ'.p.val r.b)) := by
  unfold Res
  rw [st.after, R.V _ _ _ st.V]
  exact Goes.access x _
theorem Res.overF (R : ProgF X P told F) (x : Res P told i γ u .done) : X.Q i (ownOf i (γ.p.acc i).log) .over u := (R.Q _ _ _ _).2 ⟨_, x, rfl⟩
theorem Res.bornF (_R : ProgF X P told F) (_T : Thr X i γ γ.p.u L h) (hb : γ.p.st i = .born) (ho : ownOf i γ.p.log = []) (ht : told γ.p.u i = []) : Res P told i γ γ.p.u (P i) := by
  unfold Res
  rw [acc_born _ _ hb, ho, ht]
  exact .nil _
end
end
section
open Go Go.TJ Go.Conc Go.Proofs
structure TC (A : Type) where
  n : Nat
  hN : Hp
  isC : Nat -> Prop
  ex : Nat -> Prop
  T : Nat
  tS : TypeId
  e : TypeId
  sz : Nat
  enc : A -> List Value
  J : List Ev -> (Nat -> List A) -> (Nat -> Int) -> Prop
  P : Nat -> Pr A
  F : Rq -> Prop
def TC.old {A : Type} (c : TC A) (b : Nat) : Prop := b < c.hN.size /\ ¬ c.isC b /\ ¬ c.ex b
structure ToldI {A : Type} (c : TC A) (u : Nat -> List A × Value) (h : Hp) : Prop where
  old : ∀ b, c.old b -> b ≠ c.T -> h[b]? = c.hN[b]?
  out : h[c.T]? = some (.cells ((List.range c.n).map fun i => (u i).2).toArray c.tS (0, 0))
  inn : ∀ i, i < c.n -> SliceO h (u i).2 c.e c.sz (u i).1.length ((u i).1.flatMap c.enc)
  new : ∀ i b, i < c.n -> blk (u i).2 = some b -> ¬ c.old b /\ ¬ c.isC b
  inj : ∀ i j b, i < c.n -> j < c.n -> blk (u i).2 = some b -> blk (u j).2 = some b -> i = j
def UsT {A : Type} (c : TC A) : Us where
  U := Nat -> List A × Value
  isC := c.isC
  Dom := fun u b => c.old b \/ (¬ c.isC b /\ ∃ i, i < c.n /\ blk (u i).2 = some b)
  I := ToldI c
  J := fun l u v => c.J l (fun i => (u i).1) v
  V := fun i u u' => u' i = u i
  Q := fun i l s u => ∃ p, Goes i (c.P i) l (u i).1 p /\ (match s with | .born => (u i).1 = [] | .stands r => (∃ k, p = .step r k) /\ c.F r | .over => p = .done)
section
variable {A : Type} {c : TC A} {u : Nat -> List A × Value} {h h' : Hp} {i : Nat} {a : A}
theorem SliceO.same {h h' : Hp} {s : Value} {e sz n : Nat} {cells : List Value} (x : SliceO h s e sz n cells) (hb : ∀ b, blk s = some b -> h'[b]? = h[b]?) : SliceO h' s e sz n cells := by
  refine ⟨x.1, x.2.imp id ?_⟩
  rintro ⟨b, cap, rest, rfl, h1, h2, h3⟩
  exact ⟨b, cap, rest, rfl, h1, h2, (hb b rfl).trans h3⟩
theorem ToldI.loc (ok : c.old c.T) (hb : ∀ b, (UsT c).Dom u b -> h'[b]? = h[b]?) (I : ToldI c u h) : ToldI c u h' :=
  ⟨fun b h1 h4 => (hb b (.inl h1)).trans (I.old b h1 h4), (hb _ (.inl ok)).trans I.out, fun i hi => SliceO.same (I.inn i hi) fun b hbb => hb b (.inr ⟨(I.new i b hi hbb).2, i, hi, hbb⟩), I.new, I.inj⟩
theorem usT_ok (ok : c.old c.T) : (UsT c).Ok where
  vrefl := fun _ _ => rfl
  vtrans := fun i a b d h1 h2 => (show d i = b i from h2).trans h1
  loc := fun u h h' hb I => ToldI.loc ok hb I
  stab := fun i l s u u' hv hq => by
    have hv' : u' i = u i := hv
    show ∃ p, Goes i (c.P i) l (u' i).1 p /\ _
    rw [hv']
    exact hq
  dis := fun u b hd hc => hd.elim (fun y => y.2.1 hc) fun y => y.1 hc
theorem usT_prog : ProgF (UsT c) c.P (fun u i => (u i).1) c.F where
  Q := fun _ _ _ _ => Iff.rfl
  V := fun i u u' hv => by rw [show u' i = u i from hv]
theorem map_range_set {n i : Nat} (hi : i < n) (f : Nat -> Value) (x : Value) : ((List.range n).map fun j => if j = i then x else f j) = ((List.range n).map f).set i x := by
  refine List.ext_getElem? fun j => ?_
  by_cases e : j = i
  · subst e
    rw [List.getElem?_set_self (by simpa using hi)]
    simp [hi]
  · rw [List.getElem?_set_ne (Ne.symm e)]
    simp only [List.getElem?_map]
    rcases Nat.lt_or_ge j n with y | y
    · simp [y, e]
    · simp [y]
theorem ToldI.oldlt (_ok : c.old c.T) (I : ToldI c u h) {b : Nat} (hb : c.old b) : b < h.size := by
  by_cases e : b = c.T
  · rw [e]; exact lt_of_get I.out
  · have := I.old b hb e
    rw [Array.getElem?_eq_getElem hb.1] at this
    exact lt_of_get this
theorem ToldI.tell (ok : c.old c.T) (I : ToldI c u h) (hi : i < c.n) {h1 : Hp} {s' : Value} (hC : ∀ b, c.isC b -> b < h.size) (up : Upd (fun b => blk (u i).2 = some b) h h1) (sl : SliceO h1 s' c.e c.sz ((u i).1.length + 1) ((u i).1.flatMap c.enc ++ c.enc a))
    (hb : ∀ b, blk s' = some b -> blk (u i).2 = some b \/ h.size <= b) : ToldI c (ut u i ((u i).1 ++ [a], s')) (hset h1 ⟨c.T, 0 + i * 1, none⟩ s') := by
  have hTn : ∀ j b, j < c.n -> blk (u j).2 = some b -> b ≠ c.T := fun j b hj hbb e => (I.new j b hj hbb).1 (e ▸ ok)
  have o1 := up.get I.out (fun x => hTn i _ hi x rfl)
  have e1 : hset h1 ⟨c.T, 0 + i * 1, none⟩ s' = h1.setIfInBounds c.T (.cells (((List.range c.n).map fun j => (u j).2).toArray.setIfInBounds (0 + i * 1) s') c.tS (0, 0)) := hset_block o1 _
  rw [e1]
  have u2 : Upd (fun b => b = c.T) h1 (h1.setIfInBounds c.T (.cells (((List.range c.n).map fun j => (u j).2).toArray.setIfInBounds (0 + i * 1) s') c.tS (0, 0))) := Upd.set _ _ _ rfl
  have hs' : ∀ b, blk s' = some b -> ¬ c.old b /\ ¬ c.isC b := fun b hbb => by
    rcases hb b hbb with y | y
    · exact I.new i b hi y
    · exact ⟨fun z => by have := I.oldlt ok z; omega, fun z => by have := hC b z; omega⟩
  have hs2 : ∀ b, blk s' = some b -> b ≠ c.T := fun b hbb e => (hs' b hbb).1 (e ▸ ok)
  refine ⟨fun b h1' h4 => ?_, ?_, fun j hj => ?_, fun j b hj hbb => ?_, fun j k b hj hk hbj hbk => ?_⟩
  · rw [get_set_ne _ (Ne.symm h4), up.2 b (I.oldlt ok h1') (fun x => (I.new i b hi x).1 h1')]
    exact I.old b h1' h4
  · rw [get_set_same o1]
    congr 2
    have e2 : ((List.range c.n).map fun j => (ut u i ((u i).1 ++ [a], s') j).2) = ((List.range c.n).map fun j => (u j).2).set i s' := by
      rw [<- map_range_set hi]
      refine List.map_congr_left fun j _ => ?_
      by_cases e : j = i
      · subst e; rw [ut_same, if_pos rfl]
      · rw [ut_ne _ _ e, if_neg e]
    rw [e2]
    simp
  · by_cases e : j = i
    · subst e
      rw [ut_same]
      have := sl.upd u2 (fun b hbb e => hs2 b hbb e)
      simp only [List.length_append, List.length_singleton, List.flatMap_append, List.flatMap_cons, List.flatMap_nil, List.append_nil]
      exact this
    · rw [ut_ne _ _ e]
      refine ((I.inn j hj).upd up (fun b hbj hbi => e (I.inj j i b hj hi hbj hbi))).upd u2 (fun b hbj e' => hTn j b hj hbj e')
  · by_cases e : j = i
    · subst e; rw [ut_same] at hbb; exact hs' b hbb
    · rw [ut_ne _ _ e] at hbb; exact I.new j b hj hbb
  · have key : ∀ k b, k < c.n -> k ≠ i -> blk s' = some b -> blk (u k).2 = some b -> False := fun k b hk hne h1' h2 => by
      rcases hb b h1' with y | y
      · exact hne (I.inj k i b hk hi h2 y)
      · have := (I.inn k hk).lt h2
        omega
    by_cases ej : j = i <;> by_cases ek : k = i
    · omega
    · subst ej
      rw [ut_same] at hbj; rw [ut_ne _ _ ek] at hbk
      exact (key k b hk ek hbj hbk).elim
    · subst ek
      rw [ut_same] at hbk; rw [ut_ne _ _ ej] at hbj
      exact (key j b hj ej hbk hbj).elim
    · rw [ut_ne _ _ ej] at hbj; rw [ut_ne _ _ ek] at hbk
      exact I.inj j k b hj hk hbj hbk
section
variable {γ : GG (UsT c)} {L : List (Nat × Obj)}
theorem Thr.cl (T : Thr (UsT c) i γ u L h) : ∀ b, c.isC b -> b < h.size := fun b hb => by
  obtain ⟨s, M, g⟩ := T.gi
  exact lt_of_get (g.cel b hb).1
theorem Thr.tell (ok : c.old c.T) (T : Thr (UsT c) i γ u [] h) (hi : i < c.n) {h1 : Hp} {s' : Value} (up : Upd (fun b => blk (u i).2 = some b) h h1) (sl : SliceO h1 s' c.e c.sz ((u i).1.length + 1) ((u i).1.flatMap c.enc ++ c.enc a))
    (hb : ∀ b, blk s' = some b -> blk (u i).2 = some b \/ h.size <= b) : Thr (UsT c) i γ (ut u i ((u i).1 ++ [a], s')) [] (hset h1 ⟨c.T, 0 + i * 1, none⟩ s') := by
  have I : ToldI c u h := T.I
  have I2 := I.tell ok hi T.cl up sl hb
  have oT : (hset h1 ⟨c.T, 0 + i * 1, none⟩ s').size = h1.size := by rw [hset_size]
  refine T.user (usT_ok ok) (u' := ut u i ((u i).1 ++ [a], s')) (L' := []) ((up.mono (fun b _ x => Or.inl (Or.inr ⟨(I.new i b hi x).2, i, hi, x⟩))).trans (Upd.hset (T := fun b => (UsT c).Dom u b \/ ∃ q, q ∈ ([] : List (Nat × Obj)) /\ q.1 = b) h1 ⟨c.T, 0 + i * 1, none⟩ s' (.inl (.inl ok)))) ?_ (fun q hq => by cases hq) I2 (fun x hx => ut_ne _ _ hx)
  rintro b (y | ⟨y1, j, hj, y2⟩)
  · refine ⟨.inl (.inl y), ?_⟩
    have := I.oldlt ok y
    have := up.size
    omega
  · by_cases e : j = i
    · subst e
      rw [ut_same] at y2
      refine ⟨?_, by rw [oT]; exact sl.lt y2⟩
      rcases hb b y2 with z | z
      · exact .inl (.inr ⟨y1, j, hj, z⟩)
      · exact .inr z
    · rw [ut_ne _ _ e] at y2
      refine ⟨.inl (.inr ⟨y1, j, hj, y2⟩), ?_⟩
      have := (I.inn j hj).lt y2
      have := up.size
      omega
end
end
end
section
open Go Go.TJ Go.Conc Go.Proofs
structure CodX (X : Us) {A : Type} (P : Nat -> Pr A) (told : X.U -> Nat -> List A) (F : Rq -> Prop) (V : List Ev -> (Nat -> Int) -> Prop) (M : Hp -> Prop) : Prop where
  ok : X.Ok
  prog : ProgF X P told F
  mem : ∀ u h, X.I u h -> M h
  jv : ∀ l u v, X.J l u v -> V l v
  j : ∀ {i : Nat} {γ : GG X} {u : X.U} {L : List (Nat × Obj)} {h : Hp}, Thr X i γ u L h -> X.J (γ.p.acc i).log u (γ.p.acc i).val
section
variable {X : Us} {A : Type} {P : Nat -> Pr A} {told : X.U -> Nat -> List A} {F : Rq -> Prop} {V : List Ev -> (Nat -> Int) -> Prop} {M : Hp -> Prop} {i : Nat} {γ γ' : GG X} {u : X.U} {L : List (Nat × Obj)} {h h' : Hp}
structure AtP (X : Us) {A : Type} (P : Nat -> Pr A) (told : X.U -> Nat -> List A) (i : Nat) (γ : GG X) (u : X.U) (L : List (Nat × Obj)) (h : Hp) (p : Pr A) : Prop where
  thr : Thr X i γ u L h
  res : Res P told i γ u p
structure Nxt (X : Us) {A : Type} (P : Nat -> Pr A) (told : X.U -> Nat -> List A) (i : Nat) (γ : GG X) (u : X.U) (L : List (Nat × Obj)) (γ' : GG X) (h' : Hp) (p : Pr A) : Prop where
  al : Along X i γ.p γ'.p
  at_ : AtP X P told i γ' γ'.p.u L h' p
  V : X.V i u γ'.p.u
  len : (ownOf i (γ.p.acc i).log).length < (ownOf i (γ'.p.acc i).log).length
theorem Nxt.trans {γ1 γ2 : GG X} {h1 h2 : Hp} {p1 p2 : Pr A} (hX : X.Ok) (a : Nxt X P told i γ u L γ1 h1 p1) (b : Nxt X P told i γ1 γ1.p.u L γ2 h2 p2) : Nxt X P told i γ u L γ2 h2 p2 :=
  ⟨a.al.trans b.al, b.at_, hX.vtrans _ _ _ _ a.V b.V, Nat.lt_trans a.len b.len⟩
theorem own_le {l : List Ev} : (ownOf i l).length <= l.length := List.length_filter_le _ _
theorem AtP.len {p : Pr A} (a : AtP X P told i γ u L h p) : (ownOf i (γ.p.acc i).log).length <= 65536 := by
  have h1 : (ownOf i (γ.p.acc i).log).length <= (γ.p.acc i).log.length := own_le
  have h2 : (γ.p.acc i).log.length <= γ.p.log.length + 1 := by
    unfold PS.acc
    split
    · simp
    · omega
  have := a.thr.len
  omega
theorem Nxt.of (K : CodX X P told F V M) {r : Rq} {k : Int -> Pr A} {h' : Hp} (a : AtP X P told i γ u L h (.step r k)) (T : Thr X i γ' γ'.p.u L h') (st : Stood X i γ u r γ') : Nxt X P told i γ u L γ' h' (k (γ'.p.val r.b)) /\ M h' /\ V γ'.p.log γ'.p.val /\ γ'.p.log.length < 65536 :=
  ⟨⟨st.al, ⟨T, a.res.didF K.prog st⟩, st.V, by rw [st.after]; simp⟩, K.mem _ _ T.I, K.jv _ _ _ T.J, T.len⟩
theorem loadC (K : CodX X P told F V M) {b : Nat} {k : Int -> Pr A} (a : AtP X P told i γ u L h (.step ⟨1, b, 0, 0⟩ k)) (hF : F ⟨1, b, 0, 0⟩) (hb : X.isC b) {t : Nat} (ht : t = γ.p.tb i) : CallW Try.prog false (SitT Try.prog (PX X) (i + 1)) 97 #[ptr b, ptr t] h ⟨0, γ⟩ (RetP (fun w h' δ' => ∃ γ' : GG X, δ' = ⟨0, γ'⟩ /\ w = .int .i64 (γ'.p.val b) /\ Nxt X P told i γ u L γ' h' (k (γ'.p.val b)) /\ M h' /\ V γ'.p.log γ'.p.val /\ γ'.p.log.length < 65536) (Halt X i γ.p)) := by
  subst ht
  refine (cloadT K.ok a.thr hb (a.res.asksF K.prog hF (K.j a.thr))).conseqP ?_
  rintro w h' δ' ⟨γ', rfl, T, st, rfl⟩
  obtain ⟨x, y⟩ := Nxt.of K a T st
  exact ⟨γ', rfl, rfl, x, y⟩
theorem storeC (K : CodX X P told F V M) {b : Nat} {v : Int} {k : Int -> Pr A} (a : AtP X P told i γ u L h (.step ⟨2, b, v, 0⟩ k)) (hF : F ⟨2, b, v, 0⟩) (hb : X.isC b) {t : Nat} (ht : t = γ.p.tb i) : CallW Try.prog false (SitT Try.prog (PX X) (i + 1)) 95 #[ptr b, ptr t, .int .i64 v] h ⟨0, γ⟩ (RetP (fun w h' δ' => ∃ γ' : GG X, δ' = ⟨0, γ'⟩ /\ w = .tuple #[] /\ Nxt X P told i γ u L γ' h' (k (γ'.p.val b)) /\ M h' /\ V γ'.p.log γ'.p.val /\ γ'.p.log.length < 65536) (Halt X i γ.p)) := by
  subst ht
  refine (cstoreT K.ok a.thr hb (a.res.asksF K.prog hF (K.j a.thr))).conseqP ?_
  rintro w h' δ' ⟨γ', rfl, T, st, rfl⟩
  obtain ⟨x, y⟩ := Nxt.of K a T st
  exact ⟨γ', rfl, rfl, x, y⟩
theorem casC (K : CodX X P told F V M) {b : Nat} {v c : Int} {k : Int -> Pr A} (a : AtP X P told i γ u L h (.step ⟨3, b, v, c⟩ k)) (hF : F ⟨3, b, v, c⟩) (hb : X.isC b) {t : Nat} (ht : t = γ.p.tb i) : CallW Try.prog false (SitT Try.prog (PX X) (i + 1)) 106 #[ptr b, ptr t, .int .i64 v, .int .i64 c] h ⟨0, γ⟩ (RetP (fun w h' δ' => ∃ γ' : GG X, δ' = ⟨0, γ'⟩ /\ w = .bool (decide (γ'.p.val b = v)) /\ Nxt X P told i γ u L γ' h' (k (γ'.p.val b)) /\ M h' /\ V γ'.p.log γ'.p.val /\ γ'.p.log.length < 65536) (Halt X i γ.p)) := by
  subst ht
  refine (ccasT K.ok a.thr hb (a.res.asksF K.prog hF (K.j a.thr))).conseqP ?_
  rintro w h' δ' ⟨γ', rfl, T, st, rfl⟩
  obtain ⟨x, y⟩ := Nxt.of K a T st
  exact ⟨γ', rfl, rfl, x, y⟩
theorem addC (K : CodX X P told F V M) {b : Nat} {v : Int} {k : Int -> Pr A} (a : AtP X P told i γ u L h (.step ⟨4, b, v, 0⟩ k)) (hF : F ⟨4, b, v, 0⟩) (hb : X.isC b) {t : Nat} (ht : t = γ.p.tb i) : CallW Try.prog false (SitT Try.prog (PX X) (i + 1)) 128 #[ptr b, ptr t, .int .i64 v] h ⟨0, γ⟩ (RetP (fun w h' δ' => ∃ γ' : GG X, δ' = ⟨0, γ'⟩ /\ w = .int .i64 (IntKind.i64.wrap (γ'.p.val b + v)) /\ Nxt X P told i γ u L γ' h' (k (γ'.p.val b)) /\ M h' /\ V γ'.p.log γ'.p.val /\ γ'.p.log.length < 65536) (Halt X i γ.p)) := by
  subst ht
  refine (caddT K.ok a.thr hb (a.res.asksF K.prog hF (K.j a.thr))).conseqP ?_
  rintro w h' δ' ⟨γ', rfl, T, st, rfl⟩
  obtain ⟨x, y⟩ := Nxt.of K a T st
  exact ⟨γ', rfl, rfl, x, y⟩
structure CallP (X : Us) {A : Type} (P : Nat -> Pr A) (told : X.U -> Nat -> List A) (i : Nat) (γ : GG X) (u : X.U) (L : List (Nat × Obj)) (γ' : GG X) (u' : X.U) (h' : Hp) (p : Pr A) : Prop where
  al : Along X i γ.p γ'.p
  at_ : AtP X P told i γ' u' L h' p
  V : X.V i u u'
theorem Thr.privs (T : Thr X i γ u L h) : (∀ q, q ∈ L -> h[q.1]? = some q.2 /\ ¬ X.Dom u q.1) /\ ∀ b, X.Dom u b -> b < h.size := by
  obtain ⟨s, M, g⟩ := T.gi
  have hn : i < ({ γ.p.acc i with u := u, prv := ut (γ.p.acc i).prv i L } : PS X.U).num := by show i < (γ.p.acc i).num; rw [(acc_same γ.p i).2.2.1]; exact T.lt
  refine ⟨fun q hq => ?_, fun b hb => (g.dom b hb).1⟩
  have := g.prv i hn q (by show q ∈ ut (γ.p.acc i).prv i L i; rw [ut_same]; exact hq)
  exact ⟨this.1, this.2.2.2.2⟩
theorem Thr.priv {L' : List (Nat × Obj)} (hX : X.Ok) (T : Thr X i γ u L h) (hu : Upd (fun b => ∃ q, q ∈ L /\ q.1 = b) h h') (h2 : ∀ q, q ∈ L' -> h'[q.1]? = some q.2 /\ ∃ q0, q0 ∈ L /\ q0.1 = q.1) : Thr X i γ u L' h' := by
  obtain ⟨p1, p3⟩ := T.privs
  refine T.user hX (u' := u) (L' := L') (hu.mono fun b _ e => .inr e) (fun b hb => ⟨.inl hb, Nat.lt_of_lt_of_le (p3 b hb) hu.size⟩) (fun q hq => ?_) (hX.loc _ _ _ (fun b hb => hu.2 b (p3 b hb) (fun ⟨q, hq, e⟩ => (p1 q hq).2 (e ▸ hb))) T.I) (fun x _ => hX.vrefl _ _)
  obtain ⟨y1, q0, hq0, e⟩ := h2 q hq
  exact ⟨y1, .inl ⟨q0, hq0, e⟩, by rw [<- e]; exact (p1 q0 hq0).2⟩
theorem Thr.priv1 {y : Nat} {o0 o : Obj} (hX : X.Ok) (T : Thr X i γ u ((y, o0) :: L) h) (hn : ∀ q, q ∈ L -> q.1 ≠ y) : Thr X i γ u ((y, o) :: L) (h.setIfInBounds y o) := by
  refine T.priv hX (Upd.set _ _ _ ⟨_, List.mem_cons_self, rfl⟩) fun q hq => ?_
  rcases List.mem_cons.1 hq with rfl | hq
  · exact ⟨get_set_same (T.privs.1 _ List.mem_cons_self).1, _, List.mem_cons_self, rfl⟩
  · exact ⟨by rw [get_set_ne _ (Ne.symm (hn q hq))]; exact (T.privs.1 q (List.mem_cons_of_mem _ hq)).1, q, List.mem_cons_of_mem _ hq, rfl⟩
theorem Thr.sub {L' : List (Nat × Obj)} (hX : X.Ok) (T : Thr X i γ u L h) (hs : ∀ q, q ∈ L' -> q ∈ L) : Thr X i γ u L' h :=
  T.priv hX (Upd.refl _ _) fun q hq => ⟨(T.privs.1 q (hs q hq)).1, q, hs q hq, rfl⟩
end
theorem acc_over {U : Type} (p : PS U) (i : Nat) (h : p.st i = .over) : p.acc i = p := by
  unfold PS.acc; rw [h]
theorem jaccT {A : Type} {c : TC A} {V : List Ev -> (Nat -> Int) -> Prop} (hV : ∀ l u v, (UsT c).J l u v ↔ V l v) (hFV : ∀ (l : List Ev) (v : Nat -> Int) (r : Rq) (n : Nat), V l v -> l.length < 65536 -> c.F r -> V (l ++ [evOf n r (v r.b)]) (ut v r.b (behind r.op (v r.b) r.arg r.new).1)) {i : Nat} {γ : GG (UsT c)} {u : (UsT c).U} {L : List (Nat × Obj)} {h : Hp} (T : Thr (UsT c) i γ u L h) : (UsT c).J (γ.p.acc i).log u (γ.p.acc i).val := by
  rw [hV]
  have hJ : V γ.p.log γ.p.val := (hV _ _ _).1 T.J
  obtain ⟨p, -, hp⟩ := T.Q i
  cases hst : γ.p.st i with
  | born => rw [acc_born _ _ hst]; exact hJ
  | stands r => rw [acc_stands _ _ hst]; rw [hst] at hp; exact hFV _ _ _ _ hJ T.len hp.2
  | over => rw [acc_over _ _ hst]; exact hJ
end
section
open Go Go.TJ Go.Conc Go.Proofs
def numsA (acc : List Nat) (l : List Ev) : List Nat := l.foldl (fun a e => if e.b ∈ a then a else a ++ [e.b]) acc
theorem numsA_pre : ∀ (l : List Ev) (acc : List Nat), ∃ s, numsA acc l = acc ++ s
  | [], acc => ⟨[], by simp [numsA]⟩
  | e :: l, acc => by
    by_cases h : e.b ∈ acc
    · obtain ⟨s, hs⟩ := numsA_pre l acc
      exact ⟨s, by unfold numsA at hs ⊢; rw [List.foldl_cons, if_pos h]; exact hs⟩
    · obtain ⟨s, hs⟩ := numsA_pre l (acc ++ [e.b])
      exact ⟨e.b :: s, by unfold numsA at hs ⊢; rw [List.foldl_cons, if_neg h, hs]; simp⟩
theorem nums_app (l l' : List Ev) : ∃ s, nums (l ++ l') = nums l ++ s := by
  obtain ⟨s, hs⟩ := numsA_pre l' (nums l)
  exact ⟨s, by unfold nums at hs ⊢; rw [List.foldl_append]; exact hs⟩
theorem numsA_nodup : ∀ (l : List Ev) (acc : List Nat), acc.Nodup -> (numsA acc l).Nodup
  | [], acc, h => h
  | e :: l, acc, h => by
    unfold numsA
    rw [List.foldl_cons]
    by_cases he : e.b ∈ acc
    · rw [if_pos he]; exact numsA_nodup l acc h
    · rw [if_neg he]
      refine numsA_nodup l _ (List.nodup_append.2 ⟨h, by simp, fun a ha b hb => ?_⟩)
      rw [List.mem_singleton.1 hb]
      exact fun e' => he (e' ▸ ha)
theorem nums_nodup (l : List Ev) : (nums l).Nodup := numsA_nodup l [] List.nodup_nil
theorem take_mid {α : Type} {l : List α} {k : Nat} {a : α} (h : l[k]? = some a) : l.take (k + 1) = l.take k ++ [a] /\ l = l.take (k + 1) ++ l.drop (k + 1) /\ k < l.length := by
  have hk : k < l.length := by
    rcases Nat.lt_or_ge k l.length with y | y
    · exact y
    · rw [List.getElem?_eq_none y] at h; cases h
  refine ⟨?_, (List.take_append_drop _ _).symm, hk⟩
  rw [List.take_add_one, h]; rfl
theorem idx_at {l : List Ev} {k : Nat} {e : Ev} (h : l[k]? = some e) : (nums l).idxOf e.b = (nums (l.take (k + 1))).idxOf e.b /\ (nums l).idxOf e.b < (nums (l.take (k + 1))).length /\ (nums (l.take (k + 1)))[(nums l).idxOf e.b]? = some e.b /\
    ((e.b ∈ nums (l.take k) /\ nums (l.take (k + 1)) = nums (l.take k) /\ (nums l).idxOf e.b < (nums (l.take k)).length) \/ (e.b ∉ nums (l.take k) /\ nums (l.take (k + 1)) = nums (l.take k) ++ [e.b] /\ (nums l).idxOf e.b = (nums (l.take k)).length)) := by
  obtain ⟨h1, h2, h3⟩ := take_mid h
  have hm : e.b ∈ nums (l.take (k + 1)) := (nums_mem _ _).2 ⟨e, by rw [h1]; simp, rfl⟩
  obtain ⟨s, hs⟩ := nums_app (l.take (k + 1)) (l.drop (k + 1))
  rw [<- h2] at hs
  have e1 : (nums l).idxOf e.b = (nums (l.take (k + 1))).idxOf e.b := by rw [hs]; exact idxOf_app hm s
  have hlt := List.idxOf_lt_length_iff.2 hm
  refine ⟨e1, e1 ▸ hlt, ?_, ?_⟩
  · rw [e1, List.getElem?_eq_getElem hlt]; simp
  · by_cases hc : e.b ∈ nums (l.take k)
    · left
      have e2 : nums (l.take (k + 1)) = nums (l.take k) := by rw [h1, nums_snoc, if_pos hc]
      refine ⟨hc, e2, ?_⟩
      rw [e1, e2]; exact List.idxOf_lt_length_iff.2 hc
    · right
      have e2 : nums (l.take (k + 1)) = nums (l.take k) ++ [e.b] := by rw [h1, nums_snoc, if_neg hc]
      refine ⟨hc, e2, ?_⟩
      rw [e1, e2, List.idxOf_append, if_neg hc]
      simp
theorem map_ut {f : Nat -> Int} {b : Nat} {x : Int} {F : Int -> Value} : ∀ {l : List Nat}, l.Nodup -> b ∈ l -> (l.map fun c => F (ut f b x c)) = (l.map fun c => F (f c)).set (l.idxOf b) (F x)
  | [], _, h => by cases h
  | a :: l, hn, h => by
    obtain ⟨h1, h2⟩ := List.nodup_cons.1 hn
    by_cases e : a = b
    · subst e
      have : (l.map fun c => F (ut f a x c)) = l.map fun c => F (f c) := List.map_congr_left fun c hc => by rw [ut_ne _ _ (fun e : c = a => h1 (by rw [<- e]; exact hc))]
      simp [this, ut_same]
    · have hb : b ∈ l := (List.mem_cons.1 h).resolve_left (Ne.symm e)
      have e' : (a == b) = false := by simpa using e
      simp only [List.map_cons, List.idxOf_cons, e', cond_false, List.set_cons_succ, ut_ne _ _ e]
      rw [map_ut h2 hb]
section
variable {X : Us} {v0 v v' : Nat -> Int} {l : List Ev}
theorem Chain.inv (c : Chain X v0 l v) {k : Nat} {e : Ev} (h : l[k]? = some e) : ∃ (w : Nat -> Int) (i : Nat) (r : Rq), Chain X v0 (l.take k) w /\ RqOk X r /\ e = evOf i r (w r.b) /\ Chain X v0 (l.take (k + 1)) (ut w r.b (behind r.op (w r.b) r.arg r.new).1) := by
  induction c with
  | nil => cases h
  | @snoc l v i r c hr ih =>
    rcases Nat.lt_trichotomy k l.length with y | y | y
    · rw [List.getElem?_append_left y] at h
      rw [List.take_append_of_le_length (by omega), List.take_append_of_le_length (by omega)]
      exact ih h
    · subst y
      rw [List.getElem?_append_right (Nat.le_refl _), Nat.sub_self] at h
      obtain rfl : evOf i r (v r.b) = e := by simpa using h
      rw [List.take_left, List.take_of_length_le (by simp)]
      exact ⟨v, i, r, c, hr, rfl, .snoc i r c hr⟩
    · rw [List.getElem?_eq_none (by simp; omega)] at h; cases h
theorem Chain.det (c : Chain X v0 l v) : ∀ {v'}, Chain X v0 l v' -> v' = v := by
  induction c with
  | nil =>
    intro v' c'
    generalize hl : ([] : List Ev) = l' at c'
    cases c' with
    | nil => rfl
    | snoc => simp at hl
  | @snoc l v i r c hr ih =>
    intro v' c'
    generalize hl : l ++ [evOf i r (v r.b)] = l' at c'
    cases c' with
    | nil => simp at hl
    | @snoc l2 w i2 r2 c2 hr2 =>
      obtain ⟨h1, h2⟩ := List.append_inj' hl rfl
      subst h1
      have := ih c2
      subst this
      have h3 : evOf i r (w r.b) = evOf i2 r2 (w r2.b) := by simpa using h2
      have hb : r.b = r2.b := congrArg Ev.b h3
      have ho : r.op = r2.op := congrArg Ev.op h3
      have ha : r.arg = r2.arg := congrArg Ev.arg h3
      have hn : r.new = r2.new := congrArg Ev.new h3
      rw [hb, ho, ha, hn]
theorem Chain.first (c : Chain X v0 l v) {b : Nat} (h : b ∉ nums l) : v b = v0 b := by
  induction c with
  | nil => rfl
  | @snoc l v i r c hr ih =>
    rw [nums_snoc] at h
    have hb : b ≠ r.b := fun e => by
      subst e
      split at h
      · rename_i y; exact h y
      · exact h (by simp [evOf])
    rw [ut_ne _ _ hb]
    refine ih fun y => h ?_
    split
    · exact y
    · exact List.mem_append_left _ y
theorem Chain.cell (c : Chain X v0 l v) {b : Nat} (h : b ∈ nums l) : X.isC b := by
  induction c with
  | nil => cases h
  | @snoc l v i r c hr ih =>
    rw [nums_snoc] at h
    split at h
    · exact ih h
    · rcases List.mem_append.1 h with y | y
      · exact ih y
      · rw [List.mem_singleton.1 y]; exact hr.cell
end
structure Rec where
  nb : Nat
  most : Nat
  e : Int
  log : List Ev
  rdy : List Nat
  left : List (Nat × Rq)
  v0 : Nat -> Int
  val : Nat -> Int
def Rec.alive (R : Rec) (k : Nat) : List Nat := (List.range R.nb).filter (fun j => R.left.any (fun q => q.1 == j) || (R.log.drop k).any (fun e => e.thr == j))
structure RecOk (X : Us) (picks : List Int) (R : Rec) : Prop where
  nb : R.nb <= 64
  most : R.most <= 65536
  len : R.log.length <= R.most
  rdy : R.rdy.length = R.log.length
  chain : Chain X R.v0 R.log R.val
  left : ∀ q, q ∈ R.left -> q.1 < R.nb /\ RqOk X q.2
  rise : R.left.Pairwise fun a b => a.1 < b.1
  turns : ∀ (k : Nat) (e : Ev), R.log[k]? = some e -> R.rdy[k]? = some (R.alive k).length /\ e.thr = pickOf picks ((R.log.take k).map (·.thr)) (R.alive k) /\ e.thr ∈ R.alive k
  how : (R.e = 1 /\ R.left = []) \/ (R.e = 2 /\ R.left ≠ [] /\ R.log.length = R.most)
def leftE (ns : List Nat) (v : Nat -> Int) (q : Nat × Rq) : List Value := accL q.1 q.2.op (if q.2.b ∈ ns then (ns.idxOf q.2.b : Int) else -1) q.2.arg q.2.new (v q.2.b) (v q.2.b) false
structure RdS (h : Hp) (s : Value) (vs : List Value) : Prop where
  val : ∃ a k, s = .slice a vs.length k
  cell : ∀ i v, vs[i]? = some v -> ∃ b o k, s = .slice (some ⟨b, o, none⟩) vs.length k /\ TJ.hcell h ⟨b, o + i * 1, none⟩ = some v
theorem RdS.lt {h : Hp} {s : Value} {vs : List Value} (x : RdS h s vs) (hn : vs ≠ []) : ∀ b, blk s = some b -> b < h.size := by
  intro b hb
  cases vs with
  | nil => exact absurd rfl hn
  | cons v vs =>
    obtain ⟨b', o, k, e, hc⟩ := x.cell 0 v rfl
    rw [e] at hb
    cases hb
    obtain ⟨c, e', f, h1, -⟩ := hcell_some hc
    exact lt_of_get h1
theorem RdS.upd {h h' : Hp} {s : Value} {vs : List Value} (x : RdS h s vs) {T : Nat -> Prop} (u : Upd T h h') (hT : vs ≠ [] -> ∀ b, blk s = some b -> ¬ T b) : RdS h' s vs := by
  refine ⟨x.val, fun i v hv => ?_⟩
  obtain ⟨b, o, k, e, hc⟩ := x.cell i v hv
  refine ⟨b, o, k, e, u.hcell hc (hT (fun y => by rw [y] at hv; cases hv) b (by rw [e]; rfl))⟩
structure RecM (R : Rec) (picks : List Int) (lL lW lY lV sP : Value) (h : Hp) : Prop where
  log : SliceO h lL 75 8 R.log.length (R.log.flatMap (entL (nums R.log)))
  went : SliceO h lW 3 1 (R.log.map (·.thr)).length ((R.log.map (·.thr)).map fun (n : Nat) => Value.int .i64 (n : Int))
  rdy : SliceO h lY 3 1 R.rdy.length (R.rdy.map fun (n : Nat) => Value.int .i64 (n : Int))
  left : SliceO h lV 75 8 R.left.length (R.left.flatMap (leftE (nums R.log) R.val))
  picks : RdS h sP (picks.map fun x => .int .i64 x)
theorem RecM.upd {R : Rec} {picks : List Int} {lL lW lY lV sP : Value} {h h' : Hp} (m : RecM R picks lL lW lY lV sP h) (u : Upd (fun _ => False) h h') : RecM R picks lL lW lY lV sP h' :=
  ⟨m.log.upd u (fun _ _ x => x), m.went.upd u (fun _ _ x => x), m.rdy.upd u (fun _ _ x => x), m.left.upd u (fun _ _ x => x), m.picks.upd u (fun _ _ _ x => x)⟩
def rqOf : Ph -> Rq
  | .stands r => r
  | _ => ⟨0, 0, 0, 0⟩
def recOf {U : Type} (p : PS U) (v0 : Nat -> Int) (nb most : Nat) (e : Int) : Rec := ⟨nb, most, e, p.log, p.rdy, (p.live nb).map fun j => (j, rqOf (p.st j)), v0, p.val⟩
theorem recOf_alive {U : Type} {p : PS U} {v0 : Nat -> Int} {nb most : Nat} {e : Int} (hn : p.num = nb) (k : Nat) : (recOf p v0 nb most e).alive k = aliveAt p k := by
  unfold Rec.alive aliveAt recOf
  rw [hn]
  refine List.filter_congr fun j hj => ?_
  have hj' : j < nb := List.mem_range.1 hj
  have : (List.map (fun j => (j, rqOf (p.st j))) (p.live nb)).any (fun q => q.1 == j) = !p.gone j := by
    rw [List.any_map]
    cases hg : p.gone j
    · refine List.any_eq_true.2 ⟨j, mem_live.2 ⟨hj', hg⟩, by simp⟩
    · refine List.any_eq_false.2 fun x hx => ?_
      obtain ⟨_, hx2⟩ := mem_live.1 hx
      have : x ≠ j := fun e => by rw [e, hg] at hx2; cases hx2
      simpa using this
  dsimp only
  rw [this]
theorem Ended.record {X : Us} {v0 : Nat -> Int} {picks : List Int} {nb most : Nat} {p : PS X.U} {e : Int} {lL lW lY lV _sP : Value} {h : Hp} (E : Ended X v0 picks nb most p e lL lW lY lV h) (hnb : nb <= 64) (hm : most <= 65536) : RecOk X picks (recOf p v0 nb most e) := by
  have rg := E.reg
  have hlen : p.log.length <= most := by
    rcases E.how with ⟨-, -, h⟩ | ⟨-, -, h⟩
    · exact h
    · exact Nat.le_of_eq h
  have st : ∀ j, j < nb -> p.gone j = false -> ∃ r, p.st j = .stands r /\ RqOk X r := fun j hj hg => by
    rcases rg.alive j hj with ⟨_, r, h1, h2⟩ | ⟨h1, _⟩
    · exact ⟨r, h1, h2⟩
    · rw [hg] at h1; cases h1
  refine ⟨hnb, hm, hlen, rg.rdy, rg.chain, fun q hq => ?_, ?_, fun k ev hk => ?_, ?_⟩
  · obtain ⟨j, hj, rfl⟩ := List.mem_map.1 hq
    obtain ⟨h1, h2⟩ := mem_live.1 hj
    obtain ⟨r, h3, h4⟩ := st j h1 h2
    exact ⟨h1, by show RqOk X (rqOf (p.st j)); rw [h3]; exact h4⟩
  · show (List.map _ (p.live nb)).Pairwise _
    rw [List.pairwise_map]
    unfold PS.live
    exact List.Pairwise.filter _ List.pairwise_lt_range
  · rw [recOf_alive rg.num]
    exact rg.turns k ev hk
  · rcases E.how with ⟨h1, h2, -⟩ | ⟨h1, h2, h3⟩
    · exact .inl ⟨h1, by show List.map _ (p.live nb) = []; rw [h2]; rfl⟩
    · exact .inr ⟨h1, fun e => h2 (List.map_eq_nil_iff.1 e), h3⟩
theorem Ended.mem {X : Us} {v0 : Nat -> Int} {picks : List Int} {nb most : Nat} {p : PS X.U} {e : Int} {lL lW lY lV sP : Value} {h : Hp} (E : Ended X v0 picks nb most p e lL lW lY lV h) (hP : RdS h sP (picks.map fun x => .int .i64 x)) : RecM (recOf p v0 nb most e) picks lL lW lY lV sP h := by
  have rg := E.reg
  refine ⟨E.log, by have := E.went; rw [rg.went] at this; exact this, E.rdy, ?_, hP⟩
  have e1 : (p.live nb).flatMap (leftL p (nums p.log)) = ((p.live nb).map fun j => (j, rqOf (p.st j))).flatMap (leftE (nums p.log) p.val) := by
    rw [List.flatMap_map]
    have : ∀ l : List Nat, (∀ j, j ∈ l -> j ∈ p.live nb) -> l.flatMap (leftL p (nums p.log)) = l.flatMap fun a => leftE (nums p.log) p.val (a, rqOf (p.st a)) := fun l => by
      induction l with
      | nil => intro _; rfl
      | cons j l ih =>
        intro hl
        obtain ⟨h1, h2⟩ := mem_live.1 (hl j (by simp))
        have : ∃ r, p.st j = .stands r := by
          rcases rg.alive j h1 with ⟨_, r, h1, _⟩ | ⟨h1, _⟩
          · exact ⟨r, h1⟩
          · rw [h2] at h1; cases h1
        obtain ⟨r, hr⟩ := this
        rw [List.flatMap_cons, List.flatMap_cons, ih (fun x hx => hl x (by simp [hx]))]
        congr 1
        unfold leftL leftE
        rw [hr]
        rfl
    exact this _ fun _ x => x
  have := E.left
  rw [e1] at this
  show SliceO h lV _ 8 ((p.live nb).map fun j => (j, rqOf (p.st j))).length _
  rw [List.length_map]
  exact this
theorem flat_at {α : Type} {c : Nat} {f : α -> List Value} (hf : ∀ a, (f a).length = c) : ∀ {l : List α} {k : Nat} {a : α}, l[k]? = some a -> ∀ j, j < c -> (l.flatMap f)[k * c + j]? = (f a)[j]?
  | [], _, _, h, _, _ => by cases h
  | x :: l, 0, a, h, j, hj => by
    obtain rfl : x = a := by simpa using h
    rw [List.flatMap_cons, Nat.zero_mul, Nat.zero_add, List.getElem?_append_left (by rw [hf]; exact hj)]
  | x :: l, k + 1, a, h, j, hj => by
    rw [List.flatMap_cons, List.getElem?_append_right (by rw [hf, Nat.succ_mul]; omega), hf, show (k + 1) * c + j - c = k * c + j by rw [Nat.succ_mul]; omega]
    exact flat_at hf (by simpa using h) j hj
theorem slice_row {h : Hp} {a : Option Addr} {n cap e c : Nat} {α : Type} {f : α -> List Value} (hf : ∀ a, (f a).length = c) {l : List α} (x : SliceO h (.slice a n cap) e c l.length (l.flatMap f)) {k : Nat} {q : α} (hk : l[k]? = some q) :
    ∃ b, a = some ⟨b, 0, none⟩ /\ hrow h b (0 + k * c) (f q) /\ ∀ o, hfroz h ⟨b, o, none⟩ = false := by
  obtain ⟨_, _, hlt⟩ := take_mid hk
  obtain ⟨b, cap', e1, hc, hz⟩ := x.cell (by omega)
  injection e1 with e1 _ _
  refine ⟨b, e1, fun j v hv => ?_, hz⟩
  have hj : j < c := by
    rcases Nat.lt_or_ge j c with y | y
    · exact y
    · rw [List.getElem?_eq_none (by rw [hf]; exact y)] at hv; cases hv
  rw [Nat.zero_add]
  exact hc _ _ ((flat_at hf hk j hj).trans hv)
theorem slice_at {h : Hp} {a : Option Addr} {n cap e : Nat} {α : Type} {f : α -> Value} {l : List α} (x : SliceO h (.slice a n cap) e 1 l.length (l.map f)) {k : Nat} {q : α} (hk : l[k]? = some q) :
    ∃ b, a = some ⟨b, 0, none⟩ /\ hcell h ⟨b, 0 + k * 1, none⟩ = some (f q) /\ ∀ o, hfroz h ⟨b, o, none⟩ = false := by
  obtain ⟨_, _, hlt⟩ := take_mid hk
  obtain ⟨b, cap', e1, hc, hz⟩ := x.cell (by omega)
  injection e1 with e1 _ _
  refine ⟨b, e1, ?_, hz⟩
  rw [Nat.zero_add, Nat.mul_one]
  exact hc _ _ (by rw [List.getElem?_map, hk]; rfl)
theorem entL_len (ns : List Nat) (e : Ev) : (entL ns e).length = 8 := rfl
theorem leftE_len (ns : List Nat) (v : Nat -> Int) (q : Nat × Rq) : (leftE ns v q).length = 8 := rfl
abbrev chkL (e : Int) (n : Nat) (lL lW lY lV sP : Value) (most : Nat) (tv cv : Value) (last : Int) : List Value := [.int .i8 e, .int .i64 n, lL, lW, lY, lV, nilS, sP, .int .i64 most, tv, cv, .int .i64 last]
abbrev chkO (e : Int) (n : Nat) (lL lW lY lV sP : Value) (most : Nat) (tv cv : Value) (last : Int) : Obj := .cells (chkL e n lL lW lY lV sP most tv cv last).toArray 208 (0, 0)
end
section
open Go Go.TJ Go.Conc Go.Proofs
abbrev GCall := Int × Int × Int
abbrev GAns := Int × Int × Bool × Int
def gansL (a : GAns) : List Value := [.int .i64 a.1, .int .i64 a.2.1, .bool a.2.2.1, .int .i64 a.2.2.2]
def gcallL (q : GCall) : List Value := [.int .i64 q.1, .int .i64 q.2.1, .int .i64 q.2.2]
abbrev zA : GAns := (0, 0, false, 0)
abbrev gansO (a : GAns) : Obj := .cells (gansL a).toArray 137 (0, 0)
def scriptG (cl : GCall -> (GAns -> Pr GAns) -> Pr GAns) : List GCall -> Pr GAns
  | [] => .done
  | q :: l => cl q fun a => .emit a (scriptG cl l)
theorem eaiCallP {Γ : Type} {P : Program} {main : Bool} {S : Sit Γ} {f : FuncId} {n : Nat} {k : List Item} {env : Env} {h : Hp} {δ : Ix Γ} {R : Post Γ} {ops : Array Oper} {Z : Hp -> Prop} {z m : Nat} {listed l' : Array Bool} {d : Nat} {ty : TypeId} {pos : String} {af : Array Edge} {g : Option (Nat × Bool)} {i : Nat} {x : Operand} {args : Array Operand} {ats : Array TypeId} {fn : Func} [hf : IsFn P f fn] {c : FuncId} {cap ws : Array Value} {vs : List Value} [HasBody P c] {Q : Value -> Hp -> Ix Γ -> Prop} {Y : List PanicEntry -> Hp -> Ix Γ -> Prop}
    (hi : ops[i]? = some ⟨some d, .call { callee := .value x, args, argTypes := ats }, ty, pos, af, g⟩) (hl : listed.setIfInBounds i true = l') (hd : Nat.blt d n = true) (hw : wantE ops env g = some true) (hx : ev env x = some (.func (.func c) #[] cap)) (ha : evL env args.toList = some vs) (hws : vs.toArray ++ cap = ws)
    (hc : CallW P main S c ws h δ (RetP Q Y)) (hY : ∀ p h' δ', Y p h' δ' -> R (.pan p) h' δ') (hn : ∀ v h' δ', Q v h' δ' -> Z h' /\ EA P main S f n ops Z z m l' k ((d, v) :: env) [] h' δ' R) : EAi P main S f n ops Z z m listed k env [] h δ R i := by
  subst hl
  intro a ka
  unfold OpK
  simp only [hi]
  rw [if_pos (wantE_ok ka (o := ⟨some d, .call { callee := .value x, args, argTypes := ats }, ty, pos, af, g⟩) hw), ka.defers]
  subst hws
  refine semW_call rfl (ka.eval hx) (map_ofL (fun x v hx => ka.eval hx) ha) (hc.mono ?_)
  rintro (v | p) h' δ' hq
  · exact ⟨.inr (hn v h' δ' hq).1, (hn v h' δ' hq).2 _ (ka.put v hd)⟩
  · exact fun a' ha' => WU.pan0 (ha'.trans ka.defers) hf.out (hY _ _ _ hq)
theorem eaiCallR {Γ : Type} {P : Program} {main : Bool} {S : Sit Γ} {f : FuncId} {n : Nat} {k : List Item} {env : Env} {ds : List Deferred} {h : Hp} {δ : Ix Γ} {R : Post Γ} {ops : Array Oper} {Z : Hp -> Prop} {z m : Nat} {listed l' : Array Bool} {d : Nat} {ty : TypeId} {pos : String} {af : Array Edge} {g : Option (Nat × Bool)} {i : Nat} {x : Operand} {args : Array Operand} {ats : Array TypeId} {c : FuncId} {cap ws : Array Value} {vs : List Value} [HasBody P c] {Q : Value -> Hp -> Ix Γ -> Prop}
    (hi : ops[i]? = some ⟨some d, .call { callee := .value x, args, argTypes := ats }, ty, pos, af, g⟩) (hl : listed.setIfInBounds i true = l') (hd : Nat.blt d n = true) (hw : wantE ops env g = some true) (hx : ev env x = some (.func (.func c) #[] cap)) (ha : evL env args.toList = some vs) (hws : vs.toArray ++ cap = ws)
    (hc : CallW P main S c ws h δ (Ret Q)) (hn : ∀ v h' δ', Q v h' δ' -> Z h' /\ EA P main S f n ops Z z m l' k ((d, v) :: env) ds h' δ' R) : EAi P main S f n ops Z z m listed k env ds h δ R i := by
  subst hl
  intro a ka
  unfold OpK
  simp only [hi]
  rw [if_pos (wantE_ok ka (o := ⟨some d, .call { callee := .value x, args, argTypes := ats }, ty, pos, af, g⟩) hw)]
  subst hws
  refine semW_call rfl (ka.eval hx) (map_ofL (fun x v hx => ka.eval hx) ha) (hc.mono ?_)
  rintro (v | p) h' δ' hq
  · exact ⟨.inr (hn v h' δ' hq).1, (hn v h' δ' hq).2 _ (ka.put v hd)⟩
  · exact hq.elim
structure ScrM (base : Nat) (h : Hp) (scv : Value) (sc : List (List GCall)) : Prop where
  val : ∃ a k, scv = .slice a sc.length k
  big : sc.length <= 1000000000000000 /\ ∀ l, l ∈ sc -> l.length <= 1000000000000000
  row : ∀ i l, sc[i]? = some l -> ∃ b o k a' k', scv = .slice (some ⟨b, o, none⟩) sc.length k /\ b < base /\ TJ.hcell h ⟨b, o + i * 1, none⟩ = some (.slice a' l.length k') /\
    ∀ j q, l[j]? = some q -> ∃ b' o', a' = some ⟨b', o', none⟩ /\ b' < base /\ TJ.hrow h b' (o' + j * 3) (gcallL q)
theorem hcell_same {h h' : Hp} {a : Addr} {v : Value} (hc : TJ.hcell h a = some v) (hb : h'[a.block]? = h[a.block]?) : TJ.hcell h' a = some v := by
  unfold TJ.hcell at hc ⊢
  rw [hb]; exact hc
theorem ScrM.low {base : Nat} {h h' : Hp} {scv : Value} {sc : List (List GCall)} (x : ScrM base h scv sc) (hb : ∀ b, b < base -> h'[b]? = h[b]?) : ScrM base h' scv sc := by
  refine ⟨x.val, x.big, fun i l hl => ?_⟩
  obtain ⟨b, o, k, a', k', e1, e2, e3, e4⟩ := x.row i l hl
  refine ⟨b, o, k, a', k', e1, e2, hcell_same e3 (hb _ e2), fun j q hq => ?_⟩
  obtain ⟨b', o', f1, f2, f3⟩ := e4 j q hq
  exact ⟨b', o', f1, f2, fun j v hv => hcell_same (f3 j v hv) (hb _ f2)⟩
structure SEnv (c : TC GAns) (F : Rq -> Prop) (V : List Ev -> (Nat -> Int) -> Prop) (M : Hp -> Prop) (o : Nat) (cl : GCall -> (GAns -> Pr GAns) -> Pr GAns) (base : Nat) (sc : List (List GCall)) (pB sB S0 : Nat) (lv rm : Int) (scv pv : Value) : Prop where
  T : c.old c.T
  K : CodX (UsT c) c.P (fun u i => (u i).1) F V M
  low : ∀ b, b < base -> c.old b /\ b ≠ c.T
  p : c.old pB /\ pB ≠ c.T /\ c.hN[pB]? = some (.cells #[.int .i64 lv, .int .i64 rm, scv, pv] 132 (0, 0))
  s : c.old sB /\ sB ≠ c.T /\ c.hN[sB]? = some (.cells #[ptr S0] 133 (0, 0))
  st : c.old S0 /\ S0 ≠ c.T /\ c.hN[S0]? = some (.cells #[ptr o, .slice (some ⟨c.T, 0, none⟩) c.n c.n] 145 (0, 0))
  scr : ScrM base c.hN scv sc
  len : sc.length = c.n
  P : ∀ i q, sc[i]? = some q -> c.P i = scriptG cl q
  small : ∀ l, l ∈ sc -> l.length <= 400
  ty : c.e = 137 /\ c.tS = 141 /\ c.sz = 4 /\ c.enc = gansL
structure SNow (c : TC GAns) (o base : Nat) (sc : List (List GCall)) (pB sB S0 : Nat) (lv rm : Int) (scv pv : Value) (h : Hp) : Prop where
  p : h[pB]? = some (.cells #[.int .i64 lv, .int .i64 rm, scv, pv] 132 (0, 0))
  s : h[sB]? = some (.cells #[ptr S0] 133 (0, 0))
  st : h[S0]? = some (.cells #[ptr o, .slice (some ⟨c.T, 0, none⟩) c.n c.n] 145 (0, 0))
  scr : ScrM base h scv sc
theorem SEnv.now {c : TC GAns} {F : Rq -> Prop} {V : List Ev -> (Nat -> Int) -> Prop} {M : Hp -> Prop} {o : Nat} {cl : GCall -> (GAns -> Pr GAns) -> Pr GAns} {base : Nat} {sc : List (List GCall)} {pB sB S0 : Nat} {lv rm : Int} {scv pv : Value} (E : SEnv c F V M o cl base sc pB sB S0 lv rm scv pv) {u : Nat -> List GAns × Value} {h : Hp} (I : ToldI c u h) : SNow c o base sc pB sB S0 lv rm scv pv h :=
  ⟨(I.old _ E.p.1 E.p.2.1).trans E.p.2.2, (I.old _ E.s.1 E.s.2.1).trans E.s.2.2, (I.old _ E.st.1 E.st.2.1).trans E.st.2.2, E.scr.low fun b hb => I.old b (E.low b hb).1 (E.low b hb).2⟩
end
section
open Go Go.TJ Go.Conc Go.Proofs
theorem drop_at {α : Type} {l : List α} {j : Nat} {a : α} (h : l[j]? = some a) : l.drop j = a :: l.drop (j + 1) := by
  obtain ⟨h1, h2⟩ := List.getElem?_eq_some_iff.1 h
  rw [List.drop_eq_getElem_cons h1, h2]
section
variable {c : TC GAns} {F : Rq -> Prop} {V : List Ev -> (Nat -> Int) -> Prop} {M : Hp -> Prop} {o0 : Nat} {cl : GCall -> (GAns -> Pr GAns) -> Pr GAns} {base : Nat} {sc : List (List GCall)} {pB sB S0 : Nat} {lv rm : Int} {scv pv : Value}
def CallOk (c : TC GAns) (o0 S0 : Nat) (cl : GCall -> (GAns -> Pr GAns) -> Pr GAns) : Prop := ∀ {i : Nat} {γ : GG (UsT c)} {u : (UsT c).U} {L : List (Nat × Obj)} {h : Hp} {q : GCall} {k : GAns -> Pr GAns} {t : Nat},
  (∀ u h, (UsT c).I u h -> hcell h ⟨S0, 0, none⟩ = some (ptr o0)) -> AtP (UsT c) c.P (fun u i => (u i).1) i γ u L h (cl q k) -> t = γ.p.tb i ->
    CallW Try.prog false (SitT Try.prog (PX (UsT c)) (i + 1)) 56 #[ptr S0, ptr t, .agg (gcallL q).toArray] h ⟨0, γ⟩ (RetP (fun w h' δ' => ∃ (γ' : GG (UsT c)) (u' : (UsT c).U) (e : GAns), δ' = ⟨0, γ'⟩ /\ w = .agg (gansL e).toArray /\ CallP (UsT c) c.P (fun u i => (u i).1) i γ u L γ' u' h' (k e)) (Halt (UsT c) i γ.p))
set_option maxRecDepth 8000 in
set_option maxHeartbeats 16000000 in
theorem sbody_ok (E : SEnv c F V M o0 cl base sc pB sB S0 lv rm scv pv) (hcall : CallOk c o0 S0 cl) {i iB : Nat} (hiB : c.old iB /\ iB ≠ c.T /\ c.hN[iB]? = some (.cells #[.int .i64 i] 3 (0, 0))) {q : List GCall} (hq : sc[i]? = some q) : Body (UsT c) i 55 #[ptr pB, ptr iB, ptr sB] := by
  intro h γ T hb ho
  have hX := usT_ok E.T
  obtain ⟨b, o, k, a', k', e1, e2, e3, e4⟩ := E.scr.row i q hq
  subst e1
  have hil := (take_mid hq).2.2
  have hin : i < c.n := by rw [<- E.len]; exact hil
  have hbig := E.scr.big.1
  have hqb := E.scr.big.2 q (List.mem_of_getElem? hq)
  have hS : ∀ (u : (UsT c).U) (h : Hp), (UsT c).I u h -> hcell h ⟨S0, 0, none⟩ = some (ptr o0) := fun u h I => hcell_of (E.now I).st rfl
  have ht : (γ.p.u i).1 = [] := by
    obtain ⟨p, -, hp⟩ := T.Q i
    rw [hb] at hp
    exact hp
  have a0 : AtP (UsT c) c.P (fun u i => (u i).1) i γ γ.p.u [] h (scriptG cl (q.drop 0)) := ⟨T, by
    have := Res.bornF E.K.prog T hb ho ht
    rw [E.P i q hq] at this
    exact this⟩
  refine CallW.start (n := 44) rfl rfl ?_
  (repeat (first | refine EK.seq ?_ | refine EK.region ?_ | refine ER.done ?_ | refine EK.block ?_ | refine ER.assign rfl rfl rfl ?_))
  refine EK.loopInv (fun s : Nat × GG (UsT c) × (UsT c).U => [(5, .int .i64 s.1), (0, ptr (γ.p.tb i)), (1, ptr pB), (2, ptr iB), (3, ptr sB)]) (fun s h' δ' => δ' = ⟨0, s.2.1⟩ /\ s.1 <= q.length /\ AtP (UsT c) c.P (fun u i => (u i).1) i s.2.1 s.2.2 [] h' (scriptG cl (q.drop s.1)) /\ Along (UsT c) i γ.p s.2.1.p /\ (s.2.2 i).1.length = s.1) (fun s => q.length - s.1) (0, γ, γ.p.u) ⟨rfl, rfl, rfl, rfl, rfl, trivial⟩ ⟨rfl, Nat.zero_le _, a0, Along.refl _ _, by dsimp only; rw [ht]; rfl⟩ ?_
  clear a0 T hb ho ht
  rintro ⟨j, γ1, u1⟩ h1 δ1 ⟨hδ, hj, a, al, htl⟩ again
  dsimp only at hδ hj a al htl again ⊢
  subst hδ
  have zall : ∀ (u : Nat -> List GAns × Value) (h' : Hp), ToldI c u h' -> hcell h' ⟨sB, 0, none⟩ = some (ptr S0) /\ hcell h' ⟨pB, 2, none⟩ = some (.slice (some ⟨b, o, none⟩) sc.length k) /\ hcell h' ⟨iB, 0, none⟩ = some (.int .i64 i) /\ hcell h' ⟨b, o + i * 1, none⟩ = some (.slice a' q.length k') := fun u h' I =>
    ⟨hcell_of (E.now I).s rfl, hcell_of (E.now I).p rfl, hcell_of ((I.old _ hiB.1 hiB.2.1).trans hiB.2.2) rfl, hcell_same e3 (I.old b (E.low b e2).1 (E.low b e2).2)⟩
  have z1 := zall u1 h1 a.thr.I
  obtain ⟨q1, q2, q3, q4⟩ := z1
  by_cases hjn : j < q.length
  · obtain ⟨cj, hcj⟩ : ∃ cj, q[j]? = some cj := ⟨_, List.getElem?_eq_getElem hjn⟩
    obtain ⟨b', o', ea, f2, f3⟩ := e4 j cj hcj
    subst ea
    have zrow : ∀ (u : Nat -> List GAns × Value) (h' : Hp), ToldI c u h' -> TJ.hrow h' b' (o' + j * 3) (gcallL cj) := fun u h' I a v hv => hcell_same (f3 a v hv) (I.old b' (E.low b' f2).1 (E.low b' f2).2)
    have q5 := zrow u1 h1 a.thr.I
    rw [drop_at hcj] at a
    unfold scriptG at a
    (repeat (first | refine EK.seq ?_ | refine EK.region ?_ | refine ER.done ?_ | refine EK.skip ?_ | refine EK.block ?_ | refine ER.move rfl rfl rfl ?_ | refine ER.fieldAddr rfl rfl rfl ?_ | refine ER.cmpT rfl rfl rfl rfl rfl (by first | (dsimp only [cmpP]; omega) | exact rfl | exact Int.le_refl _) ?_ | refine ER.len1 rfl rfl rfl ?_ | refine ER.indexSl rfl rfl rfl rfl (by omega) (by omega) ?_ | refine EK.condT rfl ?_ | refine ER.load1 rfl rfl rfl (by assumption) ?_))
    refine EK.regionAnyM (fun s : Nat × GG (UsT c) × (UsT c).U × GAns => [(6, ptr s.1), (5, .int .i64 j), (0, ptr (γ.p.tb i)), (1, ptr pB), (2, ptr iB), (3, ptr sB)]) (fun s h' δ' => δ' = ⟨0, s.2.1⟩ /\ CallP (UsT c) c.P (fun u i => (u i).1) i γ1 u1 [] s.2.1 s.2.2.1 h' (.emit s.2.2.2 (scriptG cl (q.drop (j + 1)))) /\ h'[s.1]? = some (gansO s.2.2.2) /\ ¬ (UsT c).Dom s.2.2.1 s.1) (fun h' => hcell h' ⟨sB, 0, none⟩ = some (ptr S0) /\ hcell h' ⟨pB, 2, none⟩ = some (.slice (some ⟨b, o, none⟩) sc.length k) /\ hcell h' ⟨iB, 0, none⟩ = some (.int .i64 i) /\ hcell h' ⟨b, o + i * 1, none⟩ = some (.slice (some ⟨b', o', none⟩) q.length k') /\ TJ.hrow h' b' (o' + j * 3) (gcallL cj)) 12 (fun key => ?_) ?_
    · have hZ : _ /\ _ /\ _ /\ _ /\ _ := And.intro q1 ⟨q2, q3, q4, q5⟩
      refine EA.tLoad 0 rfl (by kernel_rfl) rfl rfl rfl rfl (fun _ hz => hz.1) hZ ?_
      refine EA.tMove 1 rfl (by kernel_rfl) rfl rfl rfl rfl hZ ?_
      refine EA.tField 2 rfl (by kernel_rfl) rfl rfl rfl rfl hZ ?_
      refine EA.tLoad 3 rfl (by kernel_rfl) rfl rfl rfl rfl (fun _ hz => hz.2.1) hZ ?_
      refine EA.tLoad 4 rfl (by kernel_rfl) rfl rfl rfl rfl (fun _ hz => hz.2.2.1) hZ ?_
      refine EA.tIdxS 5 rfl (by kernel_rfl) rfl rfl rfl rfl rfl (by omega) (by omega) hZ ?_
      refine EA.tLoad 6 rfl (by kernel_rfl) rfl rfl rfl rfl (fun _ hz => hz.2.2.2.1) hZ ?_
      refine EA.tMove 7 rfl (by kernel_rfl) rfl rfl rfl rfl hZ ?_
      refine EA.tIdxS 8 rfl (by kernel_rfl) rfl rfl rfl rfl rfl (by omega) (by omega) hZ ?_
      refine EA.tLoadN (vs := gcallL cj) 9 rfl (by kernel_rfl) rfl rfl rfl rfl rfl (fun _ hz => hz.2.2.2.2) hZ ?_
      refine EA.alt2 10 11 (by kernel_rfl) ?_ ?_
      · refine eaiCallP (i := 10) rfl rfl rfl rfl rfl rfl rfl (hcall hS a al.tb.symm) (fun _ _ _ x => x.along al) ?_
        rintro _ h2 δ2 ⟨γ2, u2, ans, rfl, rfl, cp⟩
        have I2 : ToldI c u2 h2 := cp.at_.thr.I
        have z2 := zall u2 h2 I2
        refine ⟨⟨z2.1, z2.2.1, z2.2.2.1, z2.2.2.2, zrow u2 h2 I2⟩, ?_⟩
        have T3 := cp.at_.thr.alloc hX (gansO zA)
        have z3 := zall u2 _ T3.I
        refine EA.val (v := ptr h2.size) (h' := h2.push (gansO zA)) 11 rfl (by kernel_rfl) rfl rfl rfl (fun ρ Q X hρ hq => sem_allocA hq) ⟨z3.1, z3.2.1, z3.2.2.1, z3.2.2.2, zrow u2 _ T3.I⟩ ?_
        have g3 := (T3.privs.1 _ List.mem_cons_self).1
        have T4 := T3.priv1 (o := gansO ans) hX (fun q hq => by cases hq)
        refine EA.unitL (h' := (h2.push (gansO zA)).setIfInBounds h2.size (gansO ans)) 12 rfl (by kernel_rfl) rfl rfl rfl (fun ρ Q X hρ hq => sem_storeN (vs := gansL ans) (hρ _ _ rfl) (hρ _ _ rfl) rfl (by simp [gansL, OneCell]) (fun j hj => ⟨⟨_, hcell_of g3 (by simp only [List.getElem?_toArray]; rw [Nat.zero_add]; exact List.getElem?_eq_getElem (show j < (gansL zA).length from hj))⟩, hfroz_of g3, T3.free (.inr (.inr (.inl ⟨_, List.mem_cons_self, rfl⟩)))⟩) (by rw [row_set (c := gansL zA) (vs := gansL ans) g3 rfl]; exact hq)) ?_
        refine EA.done (by kernel_rfl) ?_
        exact EK.back (key (h2.size, γ2, u2, ans) _ _ ⟨rfl, ⟨cp.al, ⟨T4.sub hX (fun q hq => by cases hq), cp.at_.res⟩, cp.V⟩, (T4.privs.1 _ List.mem_cons_self).1, (T4.privs.1 _ List.mem_cons_self).2⟩) ⟨rfl, rfl, rfl, rfl, rfl, rfl, trivial⟩
      · have T2 := a.thr.alloc hX (gansO zA)
        have z2 := zall u1 _ T2.I
        refine EAi.val (i := 11) (v := ptr h1.size) (h' := h1.push (gansO zA)) rfl rfl rfl rfl (fun ρ Q X hρ hq => sem_allocA hq) ⟨z2.1, z2.2.1, z2.2.2.1, z2.2.2.2, zrow u1 _ T2.I⟩ ?_
        refine eaCallP 10 rfl (by kernel_rfl) rfl rfl rfl rfl rfl rfl (hcall hS ⟨T2, a.res⟩ al.tb.symm) (fun _ _ _ x => x.along al) ?_
        rintro _ h3 δ2 ⟨γ2, u2, ans, rfl, rfl, cp⟩
        have I3 : ToldI c u2 h3 := cp.at_.thr.I
        have z3 := zall u2 h3 I3
        refine ⟨⟨z3.1, z3.2.1, z3.2.2.1, z3.2.2.2, zrow u2 h3 I3⟩, ?_⟩
        have T3 := cp.at_.thr
        have g3 := (T3.privs.1 _ List.mem_cons_self).1
        have T4 := T3.priv1 (o := gansO ans) hX (fun q hq => by cases hq)
        refine EA.unitL (h' := h3.setIfInBounds h1.size (gansO ans)) 12 rfl (by kernel_rfl) rfl rfl rfl (fun ρ Q X hρ hq => sem_storeN (vs := gansL ans) (hρ _ _ rfl) (hρ _ _ rfl) rfl (by simp [gansL, OneCell]) (fun j hj => ⟨⟨_, hcell_of g3 (by simp only [List.getElem?_toArray]; rw [Nat.zero_add]; exact List.getElem?_eq_getElem (show j < (gansL zA).length from hj))⟩, hfroz_of g3, T3.free (.inr (.inr (.inl ⟨_, List.mem_cons_self, rfl⟩)))⟩) (by rw [row_set (c := gansL zA) (vs := gansL ans) g3 rfl]; exact hq)) ?_
        refine EA.done (by kernel_rfl) ?_
        exact EK.back (key (h1.size, γ2, u2, ans) _ _ ⟨rfl, ⟨cp.al, ⟨T4.sub hX (fun q hq => by cases hq), cp.at_.res⟩, cp.V⟩, (T4.privs.1 _ List.mem_cons_self).1, (T4.privs.1 _ List.mem_cons_self).2⟩) ⟨rfl, rfl, rfl, rfl, rfl, rfl, trivial⟩
    · clear q1 q2 q3 q4 q5 a
      rintro ⟨y, γ2, u2, ans⟩ h2 δ2 ⟨hδ, cp, gy, ny⟩
      dsimp only at hδ cp gy ny ⊢
      subst hδ
      have I2 : ToldI c u2 h2 := cp.at_.thr.I
      have al2 := al.trans cp.al
      have hV : u2 i = u1 i := cp.V
      have hq4 := E.small q (List.mem_of_getElem? hq)
      obtain ⟨eE, etS, esz, eenc⟩ := E.ty
      have inn := I2.inn i hin
      rw [eE, esz, eenc] at inn
      have hl2 : (u2 i).1.length = j := by rw [hV]; exact htl
      obtain ⟨aS, kS, eS⟩ := inn.val
      have zt : ∀ (h' : Hp), ToldI c u2 h' -> hcell h' ⟨S0, 1, none⟩ = some (.slice (some ⟨c.T, 0, none⟩) c.n c.n) /\ hcell h' ⟨c.T, 0 + i * 1, none⟩ = some (u2 i).2 := fun h' I => ⟨hcell_of (E.now I).st rfl, hcell_of I.out (by simp [hin])⟩
      have z2 := zall u2 h2 I2
      have t2 := zt h2 I2
      have ry : TJ.hrow h2 y 0 (gansL ans) := hrow_block (rest := []) (by rw [List.append_nil]; exact gy)
      skip
      refine EK.regionAnyL (fun h' => hcell h' ⟨sB, 0, none⟩ = some (ptr S0) /\ hcell h' ⟨S0, 1, none⟩ = some (.slice (some ⟨c.T, 0, none⟩) c.n c.n) /\ hcell h' ⟨iB, 0, none⟩ = some (.int .i64 i) /\ hcell h' ⟨c.T, 0 + i * 1, none⟩ = some (u2 i).2 /\ TJ.hrow h' y 0 (gansL ans)) 16 ?_
      have hZ : _ /\ _ /\ _ /\ _ /\ _ := And.intro z2.1 ⟨t2.1, z2.2.2.1, t2.2, ry⟩
      refine EA.tLoad 0 rfl (by kernel_rfl) rfl rfl rfl rfl (fun _ hz => hz.1) hZ ?_
      refine EA.tNil 1 rfl (by kernel_rfl) rfl rfl rfl rfl hZ ?_
      refine EA.tField 2 rfl (by kernel_rfl) rfl rfl rfl rfl hZ ?_
      refine EA.tLoad 3 rfl (by kernel_rfl) rfl rfl rfl rfl (fun _ hz => hz.2.1) hZ ?_
      refine EA.tLoad 4 rfl (by kernel_rfl) rfl rfl rfl rfl (fun _ hz => hz.2.2.1) hZ ?_
      refine EA.tLoad 5 rfl (by kernel_rfl) rfl rfl rfl rfl (fun _ hz => hz.1) hZ ?_
      refine EA.tNil 6 rfl (by kernel_rfl) rfl rfl rfl rfl hZ ?_
      refine EA.tField 7 rfl (by kernel_rfl) rfl rfl rfl rfl hZ ?_
      refine EA.tLoad 8 rfl (by kernel_rfl) rfl rfl rfl rfl (fun _ hz => hz.2.1) hZ ?_
      refine EA.tLoad 9 rfl (by kernel_rfl) rfl rfl rfl rfl (fun _ hz => hz.2.2.1) hZ ?_
      refine EA.tIdxS 10 rfl (by kernel_rfl) rfl rfl rfl rfl rfl (by omega) (by omega) hZ ?_
      refine EA.tLoad 11 rfl (by kernel_rfl) rfl rfl rfl rfl (fun _ hz => hz.2.2.2.1) hZ ?_
      refine EA.tLoadN (vs := gansL ans) 12 rfl (by kernel_rfl) rfl rfl rfl rfl rfl (fun _ hz => hz.2.2.2.2) hZ ?_
      have up := Upd.push (T := fun _ => False) h2 (.cells (gansL ans).toArray 137)
      have T3 := cp.at_.thr.upd0 hX up
      have I3 : ToldI c u2 (h2.push (.cells (gansL ans).toArray 137)) := T3.I
      have z3 := zall u2 _ I3
      have t3 := zt _ I3
      have hZ5 : _ /\ _ /\ _ /\ _ /\ _ := And.intro z3.1 ⟨t3.1, z3.2.2.1, t3.2, (fun j v hv => up.hcell (ry j v hv) (fun x => x) : TJ.hrow _ y 0 (gansL ans))⟩
      refine EA.val (v := .slice (some ⟨h2.size, 0, none⟩) 1 1) (h' := h2.push (.cells (gansL ans).toArray 137)) 13 rfl (by kernel_rfl) rfl rfl rfl (fun ρ Q X hρ hq => sem_slice1 (sz := 4) hρ rfl (by omega) (by omega) rfl rfl hq) hZ5 ?_
      have inn3 := I3.inn i hin
      rw [eE, esz, eenc] at inn3
      refine EA.append1 (new := gansL ans) 14 rfl (by kernel_rfl) rfl rfl rfl rfl rfl inn3 (get_push_new _ _) rfl (by simp [gansL, OneCell]) (by omega) (by omega) rfl (fun b o hb => T3.free (.inl (.inr ⟨(I3.new i b hin hb).2, i, hin, hb⟩))) ?_
      generalize h2.push (.cells (gansL ans).toArray 137) = h3 at T3 I3 z3 t3 hZ5 inn3 ⊢
      intro s6 h4 sl6 u6 hb6
      have nOld : ∀ b, c.old b -> ¬ blk (u2 i).2 = some b := fun b hb hx => (I3.new i b hin hx).1 hb
      have ny' : ¬ blk (u2 i).2 = some y := fun hx => ny (.inr ⟨(I3.new i y hin hx).2, i, hin, hx⟩)
      have hZ6 : _ /\ _ /\ _ /\ _ /\ _ := And.intro (u6.hcell hZ5.1 (nOld _ E.s.1)) ⟨u6.hcell hZ5.2.1 (nOld _ E.st.1), u6.hcell hZ5.2.2.1 (nOld _ hiB.1), u6.hcell hZ5.2.2.2.1 (nOld _ E.T), (fun j v hv => u6.hcell (hZ5.2.2.2.2 j v hv) ny' : TJ.hrow _ y 0 (gansL ans))⟩
      refine ⟨hZ6, ?_⟩
      obtain ⟨a4, k4, e4'⟩ := sl6.val
      have fT : hfroz h4 ⟨c.T, 0 + i * 1, none⟩ = false := hfroz_of (u6.get I3.out (nOld _ E.T))
      refine EA.val 15 rfl (by kernel_rfl) rfl rfl rfl (fun ρ Q X hρ hq => sem_indexSl (hρ _ _ rfl) (hρ _ _ rfl) (by omega) (by omega) hq) hZ6 ?_
      refine EA.unitL (h' := hset h4 ⟨c.T, 0 + i * 1, none⟩ s6) 16 rfl (by kernel_rfl) rfl rfl rfl (fun ρ Q X hρ hq => sem_store1 (hρ _ _ rfl) (hρ _ _ rfl) (by rw [e4']; exact ⟨nofun, nofun⟩) ⟨_, hZ6.2.2.2.1⟩ fT (T3.free (.inl (.inl E.T))) hq) ?_
      refine EA.done (by kernel_rfl) ?_
      have T5 := T3.tell E.T hin u6 (by rw [eE, esz, eenc]; exact sl6) (fun b hb => (hb6 b hb).imp id (fun e => Nat.le_of_eq e.symm))
      have e9 : (ut (u2 : Nat -> List GAns × Value) i ((u2 i).1 ++ [ans], s6)) i = ((u2 i).1 ++ [ans], s6) := ut_same _ _ _
      (repeat (first | refine EK.region ?_ | refine ER.done ?_ | refine EK.inBlock ?_ | refine ER.move rfl rfl rfl ?_ | refine ER.assign rfl rfl rfl ?_ | refine ER.add (kd := .i64) rfl rfl rfl rfl (i64_in (by omega) (by omega)) ?_))
      refine EK.back (again (j + 1, γ2, ut u2 i ((u2 i).1 ++ [ans], s6)) _ _ (by dsimp only; omega) ⟨rfl, by dsimp only; omega, ⟨T5, ?_⟩, al2, ?_⟩) ⟨rfl, rfl, rfl, rfl, rfl, trivial⟩
      · exact (congrArg (fun z : List GAns × Value => Goes i (c.P i) (ownOf i (γ2.p.acc i).log) z.1 (scriptG cl (q.drop (j + 1)))) e9).mpr (Goes.tell cp.at_.res)
      · exact (congrArg (fun z : List GAns × Value => z.1.length) e9).trans (by simp [hl2])
  · obtain rfl : j = q.length := by omega
    clear again
    rw [List.drop_length] at a
    (repeat (first | refine EK.seq ?_ | refine EK.region ?_ | refine ER.done ?_ | refine ER.move rfl rfl rfl ?_ | refine ER.fieldAddr rfl rfl rfl ?_ | refine ER.cmpF rfl rfl rfl rfl rfl (by first | (dsimp only [cmpP]; omega) | exact rfl | exact Int.le_refl _) ?_ | refine ER.len1 rfl rfl rfl ?_ | refine ER.indexSl rfl rfl rfl rfl (by omega) (by omega) ?_ | refine EK.condF rfl ?_ | refine EK.exit rfl ?_ | refine ER.load1 rfl rfl rfl (by assumption) ?_))
    exact EK.done (EU.ret0 rfl ⟨γ1, u1, [], rfl, al, a.thr, Res.overF E.K.prog a.res, E.K.j a.thr⟩)
end
end
section
open Go Go.TJ Go.Conc Go.Proofs
structure Thg (Mm : Mem (Nat × Nat × Nat)) (cs : (Nat × Nat × Nat) -> Prop) (v1 : (Nat × Nat × Nat) -> Int) : Prop where
  ok : ∀ k, cs k -> Mm.ok k
  cel : ∀ k, cs k -> Mm.O k = cellO (v1 k)
  oth : ∀ k, Mm.ok k -> ¬ cs k -> ∃ a t, Mm.O k = .cells a t (0, 0) /\ t ≠ 45 /\ t ≠ 3 /\ t ≠ 141
def isCG (Mm : Mem (Nat × Nat × Nat)) (cs : (Nat × Nat × Nat) -> Prop) (b : Nat) : Prop := ∃ k, cs k /\ b = Mm.B k
def thH (Mm : Mem (Nat × Nat × Nat)) (cs : (Nat × Nat × Nat) -> Prop) (h : Hp) : Prop := ∀ k, Mm.ok k -> ¬ cs k -> h[Mm.B k]? = some (Mm.O k)
abbrev sfunV (pB sB b : Nat) : Value := .func (.func 55) #[] #[ptr pB, ptr b, ptr sB]
structure SPre (base : Nat) (Mm : Mem (Nat × Nat × Nat)) (cs : (Nat × Nat × Nat) -> Prop) (v1 : (Nat × Nat × Nat) -> Int) (o0 : Nat) (sc : List (List GCall)) (hN : Hp) (pB sB S0 T : Nat) (lv rm : Int) (scv pv pv2 bv : Value) (iBs : List Nat) (picks : List Int) : Prop where
  rep : Rep hN Mm
  thg : Thg Mm cs v1
  lowB : ∀ k, Mm.ok k -> base <= Mm.B k
  p : hN[pB]? = some (.cells #[.int .i64 lv, .int .i64 rm, scv, pv] 132 (0, 0))
  s : hN[sB]? = some (.cells #[ptr S0] 133 (0, 0))
  st : hN[S0]? = some (.cells #[ptr o0, .slice (some ⟨T, 0, none⟩) sc.length sc.length] 145 (0, 0))
  t : hN[T]? = some (.cells (List.replicate sc.length nilS).toArray 141 (0, 0))
  tb : base <= T
  scr : ScrM base hN scv sc
  l8 : sc.length <= 8
  small : ∀ l, l ∈ sc -> l.length <= 400
  bods : SliceO hN bv 45 1 sc.length (iBs.map fun b => sfunV pB sB b)
  nb : ∀ b, blk bv = some b -> base <= b
  ib : iBs.length = sc.length
  ibx : ∀ (j b : Nat), iBs[j]? = some b -> hN[b]? = some (.cells #[.int .i64 (j : Int)] 3 (0, 0)) /\ blk pv2 ≠ some b
  pk : SliceO hN pv2 3 1 picks.length (picks.map fun x => .int .i64 x)
  np : ∀ b, blk pv2 = some b -> base <= b
def tcG (Mm : Mem (Nat × Nat × Nat)) (cs : (Nat × Nat × Nat) -> Prop) (F : Rq -> Prop) (V : List Ev -> (Nat -> Int) -> Prop) (cl : GCall -> (GAns -> Pr GAns) -> Pr GAns) (sc : List (List GCall)) (hN : Hp) (T : Nat) (pv2 bv : Value) : TC GAns where
  n := sc.length
  hN := hN
  isC := isCG Mm cs
  ex := fun b => blk bv = some b \/ blk pv2 = some b
  T := T
  tS := 141
  e := 137
  sz := 4
  enc := gansL
  J := fun l _ v => V l v
  P := fun i => scriptG cl (sc.getD i [])
  F := F
section
variable {base : Nat} {Mm : Mem (Nat × Nat × Nat)} {cs : (Nat × Nat × Nat) -> Prop} {v1 : (Nat × Nat × Nat) -> Int} {F : Rq -> Prop} {V : List Ev -> (Nat -> Int) -> Prop} {o0 : Nat} {cl : GCall -> (GAns -> Pr GAns) -> Pr GAns} {sc : List (List GCall)} {hN : Hp} {pB sB S0 T : Nat} {lv rm : Int} {scv pv pv2 bv : Value} {iBs : List Nat} {picks : List Int}
theorem SPre.cell (x : SPre base Mm cs v1 o0 sc hN pB sB S0 T lv rm scv pv pv2 bv iBs picks) {k : (Nat × Nat × Nat)} (hk : cs k) : hN[Mm.B k]? = some (cellO (v1 k)) := by
  rw [<- x.thg.cel k hk]
  exact x.rep.has k (x.thg.ok k hk)
theorem SPre.notC (x : SPre base Mm cs v1 o0 sc hN pB sB S0 T lv rm scv pv pv2 bv iBs picks) {y : Nat} {a : Array Value} {t : TypeId} (hy : hN[y]? = some (.cells a t (0, 0))) (ht : t ≠ 317) : ¬ isCG Mm cs y := by
  rintro ⟨k, hk, rfl⟩
  rw [x.cell hk] at hy
  injection hy with hy
  injection hy with _ hy _
  exact ht hy.symm
theorem SPre.old (x : SPre base Mm cs v1 o0 sc hN pB sB S0 T lv rm scv pv pv2 bv iBs picks) {y : Nat} {a : Array Value} {t : TypeId} (hy : hN[y]? = some (.cells a t (0, 0))) (hn : ¬ isCG Mm cs y) (h1 : t ≠ 45) (h2 : t ≠ 3) : (tcG Mm cs F V cl sc hN T pv2 bv).old y :=
  ⟨lt_of_get hy, hn, fun e => e.elim (fun e => sliceO_ne x.bods hy (Ne.symm h1) y e rfl) (fun e => sliceO_ne x.pk hy (Ne.symm h2) y e rfl)⟩
theorem SPre.neT (x : SPre base Mm cs v1 o0 sc hN pB sB S0 T lv rm scv pv pv2 bv iBs picks) {y : Nat} {a : Array Value} {t : TypeId} (hy : hN[y]? = some (.cells a t (0, 0))) (ht : t ≠ 141) : y ≠ T := fun e => by
  rw [e, x.t] at hy
  injection hy with hy
  injection hy with _ hy _
  exact ht hy.symm
theorem senv_of (x : SPre base Mm cs v1 o0 sc hN pB sB S0 T lv rm scv pv pv2 bv iBs picks) (hb : base <= hN.size) (hFV : ∀ (l : List Ev) (v : Nat -> Int) (r : Rq) (n : Nat), V l v -> l.length < 65536 -> F r -> V (l ++ [evOf n r (v r.b)]) (ut v r.b (behind r.op (v r.b) r.arg r.new).1)) : SEnv (tcG Mm cs F V cl sc hN T pv2 bv) F V (thH Mm cs) o0 cl base sc pB sB S0 lv rm scv pv := by
  have hT : (tcG Mm cs F V cl sc hN T pv2 bv).old T := x.old x.t (x.notC x.t (by decide)) (by decide) (by decide)
  refine ⟨hT, ⟨usT_ok hT, usT_prog, fun u h I k hk hn => ?_, fun l u v h => h, fun T => jaccT (fun _ _ _ => Iff.rfl) hFV T⟩, fun b hb' => ?_, ⟨x.old x.p (x.notC x.p (by decide)) (by decide) (by decide), x.neT x.p (by decide), x.p⟩, ⟨x.old x.s (x.notC x.s (by decide)) (by decide) (by decide), x.neT x.s (by decide), x.s⟩, ⟨x.old x.st (x.notC x.st (by decide)) (by decide) (by decide), x.neT x.st (by decide), x.st⟩, x.scr, rfl, fun i q hq => ?_, x.small, rfl, rfl, rfl, rfl⟩
  · have I' : ToldI (tcG Mm cs F V cl sc hN T pv2 bv) u h := I
    obtain ⟨a, t, e, t1, t2, t3⟩ := x.thg.oth k hk hn
    have hh := x.rep.has k hk
    rw [e] at hh ⊢
    refine (I'.old _ (x.old hh (fun ⟨k', hk', e'⟩ => hn ?_) t1 t2) (x.neT hh t3)).trans hh
    rw [x.rep.inj k k' hk (x.thg.ok k' hk') e']
    exact hk'
  · refine ⟨⟨Nat.lt_of_lt_of_le hb' hb, fun ⟨k, h1, e⟩ => by have := x.lowB k (x.thg.ok k h1); omega, fun e => e.elim (fun e => by have := x.nb b e; omega) (fun e => by have := x.np b e; omega)⟩, fun e => by have := x.tb; change b = T at e; omega⟩
  · show scriptG cl (sc.getD i []) = _
    rw [List.getD_eq_getElem?_getD, hq]; rfl
end
end
end Go.Proofs.Ytcpcdnkemobneaa
namespace Go.TJ
section
open Go Go.Conc
open Go.ConcN (sumTo upd sumTo_upd upd_ne upd_same)
def SwS (P : Program) : Sit Nat where
  still := fun _ _ => False
  yld g h δ Y := δ.d = 0 /\ ∃ (Γ' : Type) (X : Proto Γ') (γ : Γ'), X.Ok /\ X.num γ = δ.g /\ δ.g = 1 /\
    Runs P true (SitM P X) (fun g' h' δ' => δ'.d = 0 /\ (∀ i, i ≠ 0 -> i < X.num δ'.g -> X.ch δ'.g i = none) /\ Y g' h' ⟨0, X.num δ'.g⟩) g h ⟨0, γ⟩
theorem CallW.sw {P : Program} {Γ' : Type} {X : Proto Γ'} (hX : X.Ok) {γ : Γ'} (h1 : X.num γ = 1) {f : FuncId} {args : Array Value} {h : Hp} {R : Post Nat} (hc : CallW P true (SitM P X) f args h ⟨0, γ⟩ fun r h' δ' => δ'.d = 0 /\ (∀ i, i ≠ 0 -> i < X.num δ'.g -> X.ch δ'.g i = none) /\ R r h' ⟨0, X.num δ'.g⟩) : CallW P true (SwS P) f args h ⟨0, 1⟩ R := by
  intro kind hk cs
  refine .hands (fun g' h' δ' => Left P f kind cs R g' h' δ') (fun g' h' δ' y => .stop y) ⟨rfl, Γ', X, γ, hX, h1, rfl, (hc kind hk cs).mono ?_⟩
  rintro g' h' δ' ⟨a, todo, mode, fn, h1, h2, h3, ⟨h5, v, h6, h7, h8, h9⟩ | ⟨c, h5, h7, h8, h9⟩⟩
  · exact ⟨h7, h8, a, todo, mode, fn, h1, h2, h3, .inl ⟨h5, v, h6, h9⟩⟩
  · exact ⟨h7, h8, a, todo, mode, fn, h1, h2, h3, .inr ⟨c, h5, h9⟩⟩
def PN : Proto Nat where
  num n := n
  ch _ _ := none
  cells _ _ _ := none
  R _ _ _ := True
  Pass _ _ _ := True
section
variable {P : Program}
theorem lk_none {h : Nat} {n : Nat} {I : Nat -> Option Wait} (hI : ∀ i, i ≠ h -> I i = none) : Lk P PN h n I n :=
  ⟨rfl, fun i hi _ => (by rw [hI i hi]; rfl), fun i W hi e => (by rw [hI i hi] at e; cases e), fun i W hi _ e => (by rw [hI i hi] at e; cases e)⟩
theorem lk_end {Γ' : Type} {X : Proto Γ'} {γ : Γ'} {I : Nat -> Option Wait} {T : Trace} {gs : Array Goroutine} {w : World} {q : Nat -> Nat} (F : Fr P 0 I T gs w q) (L : Lk P X 0 γ I gs.size) (hch : ∀ i, i ≠ 0 -> i < X.num γ -> X.ch γ i = none) : ∀ i, i ≠ 0 -> I i = none := fun i hi => by
  cases e : I i with
  | none => rfl
  | some V =>
    have hlt := F.room i hi (by rw [e]; rfl)
    have h1 := L.ch i hi hlt
    rw [hch i hi (by rw [L.num]; exact hlt), e] at h1
    cases h1
theorem company_sw {Stop : Goroutine -> Hp -> Ix Nat -> Prop} {g : Goroutine} {hp : Hp} {δ : Ix Nat} (H : Runs P true (SwS P) Stop g hp δ) :
    ∀ {I : Nat -> Option Wait} {T : Trace} {gs : Array Goroutine} {w : World} {q : Nat -> Nat} {sl : Option (Nat × Nat)}, w.heap = hp -> Fr P 0 I T gs w q -> (∀ i, i ≠ 0 -> I i = none) -> gs.size = δ.g -> gs[0]? = some g -> Deaf T 0 = δ.d ->
    ∃ (N : Nat) (gs' : Array Goroutine) (g' : Goroutine) (w' : World) (sl' : Option (Nat × Nat)) (T' : Trace) (q' : Nat -> Nat) (δ' : Ix Nat) (I' : Nat -> Option Wait),
      runNT P N (crowd gs w sl) T = (.next (crowd gs' w' sl'), T') /\ gs'[0]? = some g' /\ Fr P 0 I' T' gs' w' q' /\ (∀ i, i ≠ 0 -> I' i = none) /\ Deaf T' 0 = δ'.d /\ Same w w' /\ Stop g' w'.heap δ' := by
  induction H with
  | stop hs =>
    intro I T gs w q sl hw F hI hn hg hd
    subst hw
    exact ⟨0, gs, _, w, sl, T, q, _, I, rfl, hg, F, hI, hd, Same.refl _, hs⟩
  | step Y _ hst ih =>
    intro I T gs w q sl hw F hI hn hg hd
    subst hw
    obtain ⟨N, gs', g', w', sl', T', q', δ', h1, h2, h3, h4, h5, h6, h7, h8⟩ := step_run (X := PN) (i := 0) (by rfl) (S := SwS P) (funext fun n => funext fun a => propext ⟨fun x => x.elim, fun ⟨j, _, _, x, _⟩ => by cases x⟩) (sl := sl) F (by rw [hn]; exact lk_none hI) hg hd hst
    obtain ⟨N₂, gs₂, g₂, w₂, sl₂, T₂, q₂, δ₂, I', k1, k3, k5, k6, k7, k8, k9⟩ := ih _ _ _ h8 (sl := sl') rfl h4 hI (by rw [h5, h2]; exact hn) h3 h6
    exact ⟨N + N₂, gs₂, g₂, w₂, sl₂, T₂, q₂, δ₂, I', runNT_then h1 k1, k3, k5, k6, k7, h7.trans k8, k9⟩
  | @hands g hp δ Y _ hY ih =>
    intro I T gs w q sl hw F hI hn hg hd
    subst hw
    obtain ⟨hd0, Γ', X, γ, hX, e1, e2, hrun⟩ := hY
    obtain ⟨N, gs', g', w', sl', T', q', δ', I', h1, h2, h3, h4, h5, h6, h7, h8, h9⟩ := company hX hrun (sl := sl) rfl F ⟨by rw [e1, hn], fun i hi hlt => by omega, fun i W hi e => (by rw [hI i hi] at e; cases e), fun i W hi _ e => (by rw [hI i hi] at e; cases e)⟩ hg (hd.trans hd0)
    obtain ⟨N₂, gs₂, g₂, w₂, sl₂, T₂, q₂, δ₂, I₂, k1, k3, k5, k6, k7, k8, k9⟩ := ih _ _ _ h9 (sl := sl') rfl h3 (lk_end h3 h4 h8) h4.num.symm h2 (h5.trans h7)
    exact ⟨N + N₂, gs₂, g₂, w₂, sl₂, T₂, q₂, δ₂, I₂, runNT_then h1 k1, k3, k5, k6, k7, h6.trans k8, k9⟩
theorem sw_run {f : FuncId} {args : Array Value} {W : World} {R : Value -> Hp -> Prop} (hini : P.inits.idxOf? f = none)
    (hc : CallW P true (SwS P) f args W.heap ⟨0, 1⟩ fun
      | .ret v, h', δ' => δ'.d = 0 /\ R v h'
      | .pan _, _, _ => False) :
    ∃ M last o w' t', runNT P (M + 1) (solo (G (Frame.enter P f args .normal) []) W) #[] = (.ended o w', t') /\ runN P M (solo (G (Frame.enter P f args .normal) []) W) = .next last /\ step P last = .ended o w' /\
      Conc.Good P (fun v W' => R v W'.heap /\ Same W W') last o w' t' := by
  obtain ⟨N, gs, g', w, sl, T, q, δ, I, hr, hg, F, hI, hd, hs, a, todo, mode, fn, rfl, hda, hf, hend⟩ := company_sw (hc .normal (by simp) []) (sl := none) (w := W) rfl (fr_one P _ W) (fun i _ => rfl) rfl rfl rfl
  rcases hend with ⟨rfl, v, hv, hd0, hR⟩ | ⟨_, _, hp⟩
  · obtain ⟨N₂, gs₂, d, d', sl₂, sl₃, T₂, q₂, hr₂, hst, hsz, ha₂, F₂, hd₂⟩ := F.picked (sl := sl) hg rfl
    obtain ⟨es, hrun, hes⟩ := hv (w.at d') rfl
    have hend := stepG_last (w := w.at d') (todo := todo) hda hf hini hrun
    have hrt := runT_many_ended (P := P) (sl := sl₃) (i := 0) ha₂ hend
    have hops : ∀ op ∈ MemOp.ofEvents 0 f (G { (fb f .normal).at a todo with mode := .returning } []).frame.place (seen P f es), op.g = 0 := fun op hop => by obtain ⟨e, _, rfl⟩ := Go.Conc.mem_ofEvents hop; rfl
    have hTr : Tr 0 (loOf 0 I) (stOf I) (T₂ ++ MemOp.ofEvents 0 f (G { (fb f .normal).at a todo with mode := .returning } []).frame.place (seen P f es)) :=
      F₂.tr.own (fun x => x.1 rfl) hops fun op hop b hb g hg' hS => by
        have := hg'.2
        rw [hI g hg'.1] at this
        cases this
    refine ⟨N + N₂, _, .done v, w.at d', _, runNT_succ_end (runNT_then hr hr₂) (hst.trans hrt), runN_of_runNT _ _ _ _ _ (runNT_then hr hr₂), ?_, v, rfl, ⟨hR, hs.trans (same_at w d')⟩, hTr.clean, tr_over hTr hI, ⟨fun x hx => ?_, rfl⟩, fun j x hx hj => ?_⟩
    · rw [step, hst, hrt]
    · obtain ⟨j, hj⟩ := List.mem_iff_getElem?.1 hx
      rw [List.getElem?_drop] at hj
      have hid := F₂.idle (1 + j) x (by omega) (by simpa [crowd] using hj)
      rw [hI _ (by omega)] at hid
      exact ⟨_, hid.2.leaves⟩
    · have hid := F₂.idle j x hj hx
      rw [hI j hj] at hid
      refine ⟨q₂ j, ?_⟩
      have e : (T₂ ++ MemOp.ofEvents 0 f (G { (fb f .normal).at a todo with mode := .returning } []).frame.place (seen P f es)).deaf j (T₂ ++ MemOp.ofEvents 0 f (G { (fb f .normal).at a todo with mode := .returning } []).frame.place (seen P f es)).size = Deaf T₂ j :=
        Deaf_other T₂ (g := j) (g' := 0) (Ne.symm hj) _ hops
      rw [show (G { (fb f .normal).at a todo with mode := .returning } []).frame.fn = f from rfl, e]
      exact hid.2.hears _
  · exact hp.elim
end
end
end Go.TJ
namespace Go.Proofs.Ytcpcdnkemobneaa
section
open Go Go.TJ Go.Conc Go.Proofs
section
variable {base : Nat} {Mm : Mem (Nat × Nat × Nat)} {cs : (Nat × Nat × Nat) -> Prop} {v1 : (Nat × Nat × Nat) -> Int} {F : Rq -> Prop} {V : List Ev -> (Nat -> Int) -> Prop} {o0 : Nat} {cl : GCall -> (GAns -> Pr GAns) -> Pr GAns} {sc : List (List GCall)} {hN : Hp} {pB sB S0 T : Nat} {lv rm : Int} {scv pv pv2 bv : Value} {iBs : List Nat} {picks : List Int}
abbrev u0S : Nat -> List GAns × Value := fun _ => ([], nilS)
set_option maxRecDepth 8000 in
set_option maxHeartbeats 4000000 in
theorem srun_ok (x : SPre base Mm cs v1 o0 sc hN pB sB S0 T lv rm scv pv pv2 bv iBs picks) (hb : base <= hN.size) (hFV : ∀ (l : List Ev) (v : Nat -> Int) (r : Rq) (n : Nat), V l v -> l.length < 65536 -> F r -> V (l ++ [evOf n r (v r.b)]) (ut v r.b (behind r.op (v r.b) r.arg r.new).1)) (hcall : CallOk (tcG Mm cs F V cl sc hN T pv2 bv) o0 S0 cl) {v0 : Nat -> Int} (hV0 : V [] v0) (hv0 : ∀ k, cs k -> v0 (Mm.B k) = v1 k) :
    CallW Try.prog true (SwS Try.prog) 17 #[pv2, .int .i64 16384, bv] hN ⟨0, 1⟩ (Ret fun v h' δ' => (∃ m, δ' = ⟨0, m⟩) /\ ∃ (p : PS (UsT (tcG Mm cs F V cl sc hN T pv2 bv)).U) (e : Int) (lL lW lY lV : Value), v = .agg (repL e p.log.length lL lW lY lV).toArray /\ Ended (UsT (tcG Mm cs F V cl sc hN T pv2 bv)) v0 picks sc.length 16384 p e lL lW lY lV h' /\ Upd (fun b => (UsT (tcG Mm cs F V cl sc hN T pv2 bv)).isC b \/ (UsT (tcG Mm cs F V cl sc hN T pv2 bv)).Dom u0S b) hN h') := by
  have E := senv_of (cl := cl) x hb hFV
  have hX : (UsT (tcG Mm cs F V cl sc hN T pv2 bv)).Ok := E.K.ok
  have hnD : ∀ c, (UsT (tcG Mm cs F V cl sc hN T pv2 bv)).Dom u0S c -> (tcG Mm cs F V cl sc hN T pv2 bv).old c := fun c hc => hc.elim id (fun ⟨_, i, _, e⟩ => by cases e)
  have lb : (iBs.map fun b => ((55, #[ptr pB, ptr b, ptr sB]) : FuncId × Array Value)).length = sc.length := by rw [List.length_map]; exact x.ib
  have hI0 : ToldI (tcG Mm cs F V cl sc hN T pv2 bv) u0S hN := by
    refine ⟨fun b _ _ => rfl, ?_, fun i hi => SliceO.nil, fun i b hi e => (by cases e), fun i j b hi hj e => (by cases e)⟩
    have := x.t
    show hN[T]? = some (.cells ((List.range sc.length).map fun i => nilS).toArray _ (0, 0))
    rw [this]
    congr 2
    rw [List.map_const', List.length_range]
  have hrun := runG (X := UsT (tcG Mm cs F V cl sc hN T pv2 bv)) (γ := ⟨psZ 0 0 v0 u0S, psZ 0 0 v0 u0S, hN, fun _ => False, 0⟩) (h := hN) hX (v0 := v0) (u0 := u0S) (picks := picks) (m := 16384) (bods := iBs.map fun b => (55, #[ptr pB, ptr b, ptr sB])) (sP := pv2) (sB := bv) rfl (by decide) (by decide)
    (fun b hb => by
      obtain ⟨k, hk, rfl⟩ := hb
      rw [hv0 k hk]; exact x.cell hk)
    (fun b hb => (hnD b hb).1) hI0 hV0 (fun i => ⟨_, .nil _, rfl⟩) (by rw [lb]; have := x.l8; omega)
    (by rw [lb, List.map_map]; exact x.bods)
    (fun c hc => ⟨fun ⟨k, hk, e⟩ => sliceO_ne x.bods (x.cell hk) (by decide) c hc e, fun hd => (hnD c hd).2.2 (.inl hc)⟩)
    x.pk
    (fun c hc => ⟨fun ⟨k, hk, e⟩ => sliceO_ne x.pk (x.cell hk) (by decide) c hc e, fun hd => (hnD c hd).2.2 (.inr hc)⟩)
    (fun k q hq => by
      rw [List.getElem?_map] at hq
      obtain ⟨b, hb, rfl⟩ := Option.map_eq_some_iff.1 hq
      obtain ⟨r1, r2⟩ := x.ibx k b hb
      have hk : k < sc.length := by rw [<- x.ib]; exact (take_mid hb).2.2
      obtain ⟨l, hl⟩ : ∃ l, sc[k]? = some l := ⟨_, List.getElem?_eq_getElem hk⟩
      exact ⟨inferInstance, sbody_ok E hcall ⟨⟨lt_of_get r1, x.notC r1 (by decide), fun e => e.elim (fun e => sliceO_ne x.bods r1 (by decide) b e rfl) r2⟩, x.neT r1 (by decide), r1⟩ hl⟩)
  refine CallW.sw (px_ok hX) rfl (hrun.mono ?_)
  rintro (v | ps) h' δ' y
  · obtain ⟨γ', p, e, lL, lW, lY, lV, rfl, h1, h2, h3, h4, h5⟩ := y
    rw [lb] at h4
    exact ⟨rfl, h2, ⟨_, rfl⟩, p, e, lL, lW, lY, lV, h3, h4, h5⟩
  · exact y.elim
end
end
section
open Go Go.TJ Go.Proofs
abbrev Key := Nat × Nat × Nat
abbrev kTop : Key := (0, 0, 0)
abbrev kLvs : Key := (1, 0, 0)
abbrev kLev (i : Nat) : Key := (2, i + 1, 0)
abbrev kPls (i : Nat) : Key := (3, i + 1, 0)
abbrev kTk : Key := (4, 0, 0)
abbrev kIn (i : Nat) : Key := (5, i + 1, 0)
abbrev kOut (i : Nat) : Key := (6, i + 1, 0)
abbrev kTurn (i j : Nat) : Key := (7, i + 1, j)
abbrev kTick (i j : Nat) : Key := (8, i + 1, j)
abbrev kSlot (i j : Nat) : Key := (9, i + 1, j)
structure PG where
  L : Nat
  m : Nat
  capL : Nat
  capP : Nat -> Nat
  rL : List Value
  rP : Nat -> List Value
  B : Key -> Nat
def okP (L m : Nat) : Key -> Prop
  | (0, 0, 0) => True
  | (1, 0, 0) => True
  | (2, i + 1, 0) => i < L
  | (3, i + 1, 0) => i < L
  | (4, 0, 0) => True
  | (5, i + 1, 0) => i < L
  | (6, i + 1, 0) => i < L
  | (7, i + 1, j) => i < L /\ j < m
  | (8, i + 1, j) => i < L /\ j < m
  | (9, i + 1, j) => i < L /\ j < m
  | _ => False
def priO (G : PG) (v : Key -> Int) : Key -> Obj
  | (0, _, _) => .cells #[ptr (G.B kTk), .slice (some ⟨G.B kLvs, 0, none⟩) G.L G.capL] 251 (0, 0)
  | (1, _, _) => .cells (((List.range G.L).map fun i => ptr (G.B (kLev i))) ++ G.rL).toArray 252 (0, 0)
  | (2, 0, _) => cellO 0
  | (2, i + 1, _) => .cells #[ptr (G.B (kIn i)), ptr (G.B (kOut i)), .slice (some ⟨G.B (kPls i), 0, none⟩) G.m (G.capP i)] 255 (0, 0)
  | (3, 0, _) => cellO 0
  | (3, i + 1, _) => .cells (((List.range G.m).flatMap fun j => [ptr (G.B (kTurn i j)), ptr (G.B (kTick i j)), ptr (G.B (kSlot i j))]) ++ G.rP i).toArray 257 (0, 0)
  | k => cellO (v k)
abbrev priM (G : PG) (v : Key -> Int) : Mem Key := ⟨okP G.L G.m, G.B, priO G v⟩
abbrev Pri (h : Hp) (G : PG) (v : Key -> Int) : Prop := Rep h (priM G v)
def isV (k : Key) : Prop := 4 <= k.1
theorem priO_v {G : PG} {v : Key -> Int} {k : Key} (hk : isV k) : priO G v k = cellO (v k) := by
  obtain ⟨a, b, c⟩ := k
  unfold isV at hk
  dsimp only at hk
  rcases a with _ | _ | _ | _ | a
  · omega
  · omega
  · omega
  · omega
  · rfl
theorem priO_other {G : PG} {v v' : Key -> Int} {k : Key} (hk : ¬ isV k) : priO G v k = priO G v' k := by
  obtain ⟨a, b, c⟩ := k
  unfold isV at hk
  dsimp only at hk
  rcases a with _ | _ | _ | _ | a
  · rfl
  · rfl
  · rcases b with _ | b <;> rfl
  · rcases b with _ | b <;> rfl
  · omega
theorem Pri.val {h : Hp} {G : PG} {v : Key -> Int} (r : Pri h G v) {k : Key} (hk : okP G.L G.m k) (hv : isV k) : h[G.B k]? = some (cellO (v k)) := by
  have := r.has k hk
  rwa [show (priM G v).O k = cellO (v k) from priO_v hv] at this
theorem Pri.setv {h : Hp} {G : PG} {v : Key -> Int} (r : Pri h G v) {k : Key} (hk : okP G.L G.m k) (hv : isV k) (x : Int) : Pri (h.setIfInBounds (G.B k) (cellO x)) G (ut v k x) := by
  refine (Rep.set r hk (cellO x)).congr (fun _ y => y) (fun _ _ => rfl) (fun j _ => ?_)
  show priO G (ut v k x) j = ut (priO G v) k (cellO x) j
  by_cases e : j = k
  · subst e; rw [ut_same, priO_v hv, ut_same]
  · rw [ut_ne _ _ e]
    by_cases hj : isV j
    · rw [priO_v hj, priO_v hj, ut_ne _ _ e]
    · exact priO_other hj
theorem flat3_get {G : PG} {i j : Nat} : ∀ {m : Nat}, j < m -> ∀ t, t < 3 -> ((List.range m).flatMap fun j => [ptr (G.B (kTurn i j)), ptr (G.B (kTick i j)), ptr (G.B (kSlot i j))])[j * 3 + t]? = some (ptr (G.B (7 + t, i + 1, j)))
  | 0, h, _, _ => by omega
  | m + 1, h, t, ht => by
    have hl : ∀ m, ((List.range m).flatMap fun j => [ptr (G.B (kTurn i j)), ptr (G.B (kTick i j)), ptr (G.B (kSlot i j))]).length = m * 3 := by
      intro m
      induction m with
      | zero => rfl
      | succ m ih => rw [List.range_succ, List.flatMap_append, List.length_append, ih]; simp; omega
    rw [List.range_succ, List.flatMap_append]
    by_cases e : j = m
    · subst e
      rw [List.getElem?_append_right (by rw [hl]; omega), hl, show j * 3 + t - j * 3 = t by omega]
      rcases t with _ | _ | _ | t
      · rfl
      · rfl
      · rfl
      · omega
    · have : j * 3 + t < m * 3 := by omega
      rw [List.getElem?_append_left (by rw [hl]; exact this)]
      exact flat3_get (by omega) t ht
section
variable {h : Hp} {G : PG} {v : Key -> Int}
theorem Pri.ptk (r : Pri h G v) : hcell h ⟨G.B kTop, 0, none⟩ = some (ptr (G.B kTk)) := r.cell (k := kTop) trivial rfl rfl
theorem Pri.plv (r : Pri h G v) : hcell h ⟨G.B kTop, 1, none⟩ = some (.slice (some ⟨G.B kLvs, 0, none⟩) G.L G.capL) := r.cell (k := kTop) trivial rfl rfl
theorem Pri.plev (r : Pri h G v) {i : Nat} (hi : i < G.L) : hcell h ⟨G.B kLvs, 0 + i * 1, none⟩ = some (ptr (G.B (kLev i))) := r.cell (k := kLvs) trivial rfl (by
  rw [show 0 + i * 1 = i by omega]
  simp [List.getElem?_append_left, hi])
theorem Pri.pin (r : Pri h G v) {i : Nat} (hi : i < G.L) : hcell h ⟨G.B (kLev i), 0, none⟩ = some (ptr (G.B (kIn i))) := r.cell (k := kLev i) hi rfl rfl
theorem Pri.pout (r : Pri h G v) {i : Nat} (hi : i < G.L) : hcell h ⟨G.B (kLev i), 1, none⟩ = some (ptr (G.B (kOut i))) := r.cell (k := kLev i) hi rfl rfl
theorem Pri.ppls (r : Pri h G v) {i : Nat} (hi : i < G.L) : hcell h ⟨G.B (kLev i), 2, none⟩ = some (.slice (some ⟨G.B (kPls i), 0, none⟩) G.m (G.capP i)) := r.cell (k := kLev i) hi rfl rfl
theorem Pri.pplace (r : Pri h G v) {i j t : Nat} (hi : i < G.L) (hj : j < G.m) (ht : t < 3) : hcell h ⟨G.B (kPls i), 0 + j * 3 + t, none⟩ = some (ptr (G.B (7 + t, i + 1, j))) := r.cell (k := kPls i) hi rfl (by
  have hlen : ((List.range G.m).flatMap fun j => [ptr (G.B (kTurn i j)), ptr (G.B (kTick i j)), ptr (G.B (kSlot i j))])[j * 3 + t]? = some (ptr (G.B (7 + t, i + 1, j))) := flat3_get hj t ht
  rw [show 0 + j * 3 + t = j * 3 + t by omega]
  simp only [List.getElem?_toArray]
  rw [List.getElem?_append_left (by rcases Nat.lt_or_ge (j * 3 + t) ((List.range G.m).flatMap fun j => [ptr (G.B (kTurn i j)), ptr (G.B (kTick i j)), ptr (G.B (kSlot i j))]).length with x | x
                                    · exact x
                                    · rw [List.getElem?_eq_none x] at hlen; cases hlen)]
  exact hlen)
end
theorem mask {x m e : Nat} (hm : m = 2 ^ e) (he : e <= 62) (hx : x < 4611686018427387904) : bits .and .i64 (x : Int) ((m : Int) - 1) = ((x % m : Nat) : Int) := by
  subst hm
  have := and_mask (x := (x : Int)) he (by omega) (by omega)
  rw [show ((2 ^ e : Nat) : Int) = 2 ^ e by simp, this]
  simp
section
variable {Γ : Type} {main : Bool} {S : Sit Γ} {h : Hp} {δ : Ix Γ} {G : PG} {v : Key -> Int}
theorem at_ok {i p e : Nat} (r : Pri h G v) (hi : i < G.L) (hm : G.m = 2 ^ e) (he : e <= 12) (hp : p < 4611686018427387904) :
    CallW Try.prog main S 126 #[ptr (G.B (kLev i)), .int .i64 p] h δ (Ret (Det (.pointer (some ⟨G.B (kPls i), 0 + (p % G.m) * 3, none⟩)) h δ)) := by
  have hm0 : 0 < G.m := by rw [hm]; exact Nat.two_pow_pos e
  have hm1 : G.m <= 4096 := by have := Nat.pow_le_pow_right (n := 2) (by decide) he; omega
  have hlt : p % G.m < G.m := Nat.mod_lt _ hm0
  refine CallW.start (n := 18) rfl rfl ?_
  (repeat (first | refine EK.seq ?_ | refine EK.region ?_ | refine ER.done ?_ | refine ER.assign rfl rfl rfl ?_))
  refine EK.regionAny (fun h' => h' = h) ?_
  have hZ : h = h := rfl
  have hc := r.ppls hi
  refine EA.tMove 0 rfl (by kernel_rfl) rfl rfl rfl rfl hZ ?_
  refine EA.tNil 1 rfl (by kernel_rfl) rfl rfl rfl rfl hZ ?_
  refine EA.tField 2 rfl (by kernel_rfl) rfl rfl rfl rfl hZ ?_
  refine EA.tLoad 3 rfl (by kernel_rfl) rfl rfl rfl rfl (fun _ hz => hz ▸ hc) hZ ?_
  refine EA.tMove 4 rfl (by kernel_rfl) rfl rfl rfl rfl hZ ?_
  refine EA.tMove 5 rfl (by kernel_rfl) rfl rfl rfl rfl hZ ?_
  refine EA.tNil 6 rfl (by kernel_rfl) rfl rfl rfl rfl hZ ?_
  refine EA.tField 7 rfl (by kernel_rfl) rfl rfl rfl rfl hZ ?_
  refine EA.tLoad 8 rfl (by kernel_rfl) rfl rfl rfl rfl (fun _ hz => hz ▸ hc) hZ ?_
  refine EA.tLen1 9 rfl (by kernel_rfl) rfl rfl rfl rfl hZ ?_
  refine EA.tSub (kd := .i64) 10 rfl (by kernel_rfl) rfl rfl rfl rfl rfl (i64_in (by omega) (by omega)) hZ ?_
  refine EA.tBinI (kd := .i64) (v := .int .i64 ((p % G.m : Nat) : Int)) 11 rfl (by kernel_rfl) rfl rfl rfl rfl rfl (by rw [binOp_bits (.inl rfl), mask hm (by omega) hp]) hZ ?_
  refine EA.tIdxS 12 rfl (by kernel_rfl) rfl rfl rfl rfl rfl (by omega) (by omega) hZ ?_
  refine EA.tAssign 13 rfl (by kernel_rfl) rfl rfl rfl rfl hZ ?_
  refine EA.done (by kernel_rfl) ?_
  (repeat refine EK.ret ?_)
  exact EU.ret1 rfl rfl det
theorem vv {a b c : Nat} (h : 4 <= a) : isV (a, b, c) := h
abbrev PFree (S : Sit Γ) (γ : Γ) (G : PG) : Prop := ∀ k o, okP G.L G.m k -> ¬ S.still γ ⟨G.B k, o, none⟩
theorem Pri.own (_ : Pri h G v) {k : Key} (hk : okP G.L G.m k) : (priM G v).Own (G.B k) := ⟨k, hk, rfl⟩
abbrev PSet (G : PG) (v : Key -> Int) (h : Hp) (δ : Ix Γ) (k : Key) (y : Int) (w : Value) : Value -> Hp -> Ix Γ -> Prop := fun w' h' δ' => w' = w /\ δ' = δ /\ Pri h' G (ut v k y) /\ Upd (priM G v).Own h h'
theorem pload {k : Key} {x : Int} (r : Pri h G v) (hk : okP G.L G.m k) (hv : isV k) (hx : v k = x) : CallW Try.prog main S 97 #[ptr (G.B k), .pointer none] h δ (Ret (Det (.int .i64 x) h δ)) :=
  cload (hx ▸ r.val hk hv)
theorem pstore {k : Key} {y : Int} (r : Pri h G v) (hk : okP G.L G.m k) (hv : isV k) (hS : PFree S δ.g G) : CallW Try.prog main S 95 #[ptr (G.B k), .pointer none, .int .i64 y] h δ (Ret (PSet G v h δ k y (.tuple #[]))) :=
  (cstore (r.val hk hv) (fun o => hS k o hk)).conseq (by rintro _ _ _ ⟨rfl, rfl, rfl⟩; exact ⟨rfl, rfl, r.setv hk hv y, Upd.set _ _ _ (r.own hk)⟩)
theorem padd {k : Key} {x y z : Int} (r : Pri h G v) (hk : okP G.L G.m k) (hv : isV k) (hx : v k = x) (hz : IntKind.i64.wrap (x + y) = z) (hS : PFree S δ.g G) : CallW Try.prog main S 128 #[ptr (G.B k), .pointer none, .int .i64 y] h δ (Ret (PSet G v h δ k z (.int .i64 z))) :=
  (cadd hz (hx ▸ r.val hk hv) (fun o => hS k o hk)).conseq (by rintro _ _ _ ⟨rfl, rfl, rfl⟩; exact ⟨rfl, rfl, r.setv hk hv z, Upd.set _ _ _ (r.own hk)⟩)
theorem pcas {k : Key} {x y : Int} (r : Pri h G v) (hk : okP G.L G.m k) (hv : isV k) (hx : v k = x) (hS : PFree S δ.g G) : CallW Try.prog main S 106 #[ptr (G.B k), .pointer none, .int .i64 x, .int .i64 y] h δ (Ret (PSet G v h δ k y (.bool true))) :=
  (ccas_yes (hx ▸ r.val hk hv) (fun o => hS k o hk)).conseq (by rintro _ _ _ ⟨rfl, rfl, rfl⟩; exact ⟨rfl, rfl, r.setv hk hv y, Upd.set _ _ _ (r.own hk)⟩)
theorem claim_ok {i I e : Nat} (r : Pri h G v) (hi : i < G.L) (hm : G.m = 2 ^ e) (he : e <= 12) (hI : v (kIn i) = I) (hIb : I < 2305843009213693952) (hfree : v (kTurn i (I % G.m)) = I) (hS : PFree S δ.g G) :
    CallW Try.prog main S 127 #[ptr (G.B (kLev i)), .pointer none] h δ (Ret (PSet G v h δ (kIn i) ((I : Int) + 1) (.tuple #[.int .i64 I, .bool true]))) := by
  have hm0 : 0 < G.m := by rw [hm]; exact Nat.two_pow_pos e
  have hlt : I % G.m < G.m := Nat.mod_lt _ hm0
  refine CallW.start (n := 42) rfl rfl ?_
  (repeat (first | refine EK.seq ?_ | refine EK.region ?_ | refine ER.done ?_ | refine EK.block ?_ | refine ER.assign rfl rfl rfl ?_))
  refine EK.loop ?_
  (repeat (first | refine EK.seq ?_ | refine EK.region ?_ | refine EK.block ?_ | refine ER.move rfl rfl rfl ?_ | refine ER.nilCheck rfl rfl rfl ?_ | refine ER.fieldAddr rfl rfl rfl ?_))
  refine ER.load1 rfl rfl rfl (r.pin hi) ?_
  (repeat refine ER.move rfl rfl rfl ?_)
  refine ER.callD rfl rfl rfl rfl rfl (pload r (k := kIn i) hi (vv (by omega)) hI) ?_
  (repeat (first | refine EK.seq ?_ | refine EK.region ?_ | refine ER.done ?_ | refine ER.move rfl rfl rfl ?_ | refine ER.assign rfl rfl rfl ?_))
  refine ER.callD rfl rfl rfl rfl rfl (at_ok r hi hm he (by omega)) ?_
  (repeat (first | refine ER.nilCheck rfl rfl rfl ?_ | refine ER.fieldAddr rfl rfl rfl ?_))
  refine ER.load1 rfl rfl rfl (r.pplace (t := 0) hi hlt (by omega)) ?_
  (repeat refine ER.move rfl rfl rfl ?_)
  refine ER.callD rfl rfl rfl rfl rfl (pload r (k := kTurn i (I % G.m)) ⟨hi, hlt⟩ (vv (by omega)) hfree) ?_
  (repeat (first | refine EK.seq ?_ | refine EK.region ?_ | refine ER.done ?_ | refine EK.block ?_ | refine ER.move rfl rfl rfl ?_ | refine ER.assign rfl rfl rfl ?_ | refine ER.nilCheck rfl rfl rfl ?_ | refine ER.fieldAddr rfl rfl rfl ?_ | refine ER.cmpT rfl rfl rfl rfl rfl (by first | (dsimp only [cmpP]; omega) | exact rfl | exact Int.le_refl _) ?_ | refine ER.cmpF rfl rfl rfl rfl rfl (by first | (dsimp only [cmpP]; omega) | exact rfl | exact Int.le_refl _) ?_ | refine ER.sub' (kd := .i64) rfl rfl rfl rfl (i64_in (by omega) (by omega)) ?_ | refine EK.condF rfl ?_))
  refine ER.load1 rfl rfl rfl (r.pin hi) ?_
  (repeat (first | refine ER.move rfl rfl rfl ?_ | refine ER.add (kd := .i64) rfl rfl rfl rfl (i64_in (by omega) (by omega)) ?_))
  refine ER.callR rfl rfl rfl rfl rfl (pcas r (k := kIn i) hi (vv (by omega)) hI hS) ?_
  rintro _ h1 δ1 ⟨rfl, hδ, r1, u1⟩
  (repeat (first | refine EK.seq ?_ | refine EK.region ?_ | refine ER.done ?_ | refine ER.move rfl rfl rfl ?_ | refine ER.assign rfl rfl rfl ?_ | refine ER.pickT rfl rfl rfl rfl ?_ | refine EK.condT rfl ?_ | refine EK.ret ?_))
  exact EU.ret2 rfl rfl rfl ⟨rfl, hδ, r1, u1⟩
theorem put_arg {on : Int} {t x : Value} (r : Pri h G v) (ho : on < 0 \/ (G.L : Int) <= on) :
    CallW Try.prog main S 63 #[ptr (G.B kTop), t, .int .i64 on, x] h δ (Ret (Det (.int .i64 1) h δ)) := by
  refine CallW.start (n := 87) rfl rfl ?_
  (repeat (first | refine EK.seq ?_ | refine EK.region ?_ | refine ER.done ?_ | refine ER.move rfl rfl rfl ?_ | refine ER.assign rfl rfl rfl ?_ | refine ER.nilCheck rfl rfl rfl ?_ | refine ER.fieldAddr rfl rfl rfl ?_ | refine ER.eqV rfl rfl rfl rfl rfl ?_))
  refine ER.load1 rfl rfl rfl r.ptk ?_
  by_cases h0 : on < 0
  · (repeat (first | refine EK.seq ?_ | refine EK.region ?_ | refine ER.done ?_ | refine EK.skip ?_ | refine ER.move rfl rfl rfl ?_ | refine ER.assign rfl rfl rfl ?_ | refine ER.no rfl rfl ?_ | refine ER.eqV rfl rfl rfl rfl rfl ?_ | refine ER.pickT rfl rfl rfl rfl ?_ | refine ER.pickF rfl rfl rfl rfl ?_ | refine ER.cmpT rfl rfl rfl rfl rfl (by first | (dsimp only [cmpP]; omega) | exact rfl | exact Int.le_refl _) ?_ | refine EK.condT rfl ?_ | refine EK.condF rfl ?_ | refine EK.ret ?_))
    exact EU.ret1 rfl rfl det
  · have h1 : (G.L : Int) <= on := ho.resolve_left h0
    (repeat (first | refine EK.seq ?_ | refine EK.region ?_ | refine ER.done ?_ | refine EK.skip ?_ | refine ER.move rfl rfl rfl ?_ | refine ER.nilCheck rfl rfl rfl ?_ | refine ER.fieldAddr rfl rfl rfl ?_ | refine ER.eqV rfl rfl rfl rfl rfl ?_ | refine ER.pickF rfl rfl rfl rfl ?_ | refine ER.cmpF rfl rfl rfl rfl rfl (by first | (dsimp only [cmpP]; omega) | exact rfl | exact Int.le_refl _) ?_ | refine EK.condF rfl ?_))
    refine ER.load1 rfl rfl rfl r.plv ?_
    (repeat (first | refine EK.seq ?_ | refine EK.region ?_ | refine ER.done ?_ | refine ER.assign rfl rfl rfl ?_ | refine ER.pickF rfl rfl rfl rfl ?_ | refine ER.cmpT rfl rfl rfl rfl rfl (by first | (dsimp only [cmpP]; omega) | exact rfl | exact Int.le_refl _) ?_ | refine ER.len1 rfl rfl rfl ?_ | refine EK.condT rfl ?_ | refine EK.ret ?_))
    exact EU.ret1 rfl rfl det
def putV (m : Nat) (v : Key -> Int) (i I : Nat) (K x : Int) : Key -> Int :=
  ut (ut (ut (ut (ut v (kIn i) ((I : Int) + 1)) kTk (K + 1)) (kTick i (I % m)) (K + 1)) (kSlot i (I % m)) x) (kTurn i (I % m)) ((I : Int) + 1)
set_option maxHeartbeats 1000000 in
theorem put_ok {i I e : Nat} {K x : Int} (r : Pri h G v) (hi : i < G.L) (hm : G.m = 2 ^ e) (he : e <= 12) (hI : v (kIn i) = I) (hIb : I < 2305843009213693952) (hfree : v (kTurn i (I % G.m)) = I) (hK : v kTk = K) (hK0 : 0 <= K) (hK1 : K < 2305843009213693952) (hS : PFree S δ.g G) :
    CallW Try.prog main S 63 #[ptr (G.B kTop), .pointer none, .int .i64 i, .int .i64 x] h δ (Ret fun w h' δ' => w = .int .i64 0 /\ δ' = δ /\ Pri h' G (putV G.m v i I K x) /\ Upd (priM G v).Own h h') := by
  have hm0 : 0 < G.m := by rw [hm]; exact Nat.two_pow_pos e
  have hlt : I % G.m < G.m := Nat.mod_lt _ hm0
  refine CallW.start (n := 87) rfl rfl ?_
  (repeat (first | refine EK.seq ?_ | refine EK.region ?_ | refine ER.done ?_ | refine ER.move rfl rfl rfl ?_ | refine ER.assign rfl rfl rfl ?_ | refine ER.nilCheck rfl rfl rfl ?_ | refine ER.fieldAddr rfl rfl rfl ?_ | refine ER.eqV rfl rfl rfl rfl rfl ?_))
  refine ER.load1 rfl rfl rfl r.ptk ?_
  (repeat (first | refine EK.seq ?_ | refine EK.region ?_ | refine ER.done ?_ | refine EK.skip ?_ | refine ER.move rfl rfl rfl ?_ | refine ER.nilCheck rfl rfl rfl ?_ | refine ER.fieldAddr rfl rfl rfl ?_ | refine ER.eqV rfl rfl rfl rfl rfl ?_ | refine ER.pickF rfl rfl rfl rfl ?_ | refine ER.cmpF rfl rfl rfl rfl rfl (by first | (dsimp only [cmpP]; omega) | exact rfl | exact Int.le_refl _) ?_ | refine EK.condF rfl ?_))
  refine ER.load1 rfl rfl rfl r.plv ?_
  (repeat (first | refine EK.seq ?_ | refine EK.region ?_ | refine ER.done ?_ | refine EK.skip ?_ | refine ER.move rfl rfl rfl ?_ | refine ER.nilCheck rfl rfl rfl ?_ | refine ER.fieldAddr rfl rfl rfl ?_ | refine ER.pickF rfl rfl rfl rfl ?_ | refine ER.cmpF rfl rfl rfl rfl rfl (by first | (dsimp only [cmpP]; omega) | exact rfl | exact Int.le_refl _) ?_ | refine ER.len1 rfl rfl rfl ?_ | refine EK.condF rfl ?_))
  refine ER.load1 rfl rfl rfl r.plv ?_
  (repeat (first | refine ER.move rfl rfl rfl ?_ | refine ER.indexSl rfl rfl rfl rfl (by omega) (by omega) ?_))
  refine ER.load1 rfl rfl rfl (r.plev hi) ?_
  refine ER.makeF rfl rfl rfl rfl rfl rfl ?_
  (repeat (first | refine EK.seq ?_ | refine EK.region ?_ | refine ER.done ?_ | refine ER.move rfl rfl rfl ?_ | refine ER.assign rfl rfl rfl ?_))
  refine ER.callFR rfl rfl rfl rfl rfl (claim_ok r hi hm he hI hIb hfree hS) ?_
  rintro _ h1 δ1 ⟨rfl, rfl, r1, u1⟩
  (repeat (first | refine EK.seq ?_ | refine EK.region ?_ | refine ER.done ?_ | refine EK.skip ?_ | refine ER.move rfl rfl rfl ?_ | refine ER.assign rfl rfl rfl ?_ | refine ER.nilCheck rfl rfl rfl ?_ | refine ER.fieldAddr rfl rfl rfl ?_ | refine ER.notB rfl rfl rfl ?_ | refine ER.extract rfl rfl rfl rfl ?_ | refine EK.condF rfl ?_))
  refine ER.load1 rfl rfl rfl r1.plv ?_
  (repeat (first | refine ER.move rfl rfl rfl ?_ | refine ER.indexSl rfl rfl rfl rfl (by omega) (by omega) ?_))
  refine ER.load1 rfl rfl rfl (r1.plev hi) ?_
  (repeat refine ER.move rfl rfl rfl ?_)
  refine ER.callD rfl rfl rfl rfl rfl (at_ok r1 hi hm he (by omega)) ?_
  (repeat (first | refine EK.seq ?_ | refine EK.region ?_ | refine ER.done ?_ | refine ER.move rfl rfl rfl ?_ | refine ER.assign rfl rfl rfl ?_ | refine ER.nilCheck rfl rfl rfl ?_ | refine ER.fieldAddr rfl rfl rfl ?_))
  refine ER.load1 rfl rfl rfl r1.ptk ?_
  (repeat refine ER.move rfl rfl rfl ?_)
  refine ER.callR rfl rfl rfl rfl rfl (padd (z := K + 1) r1 (k := kTk) trivial (vv (by omega)) ((ut_ne _ _ (by simp)).trans hK) (i64_in (by omega) (by omega)) hS) ?_
  rintro _ h2 δ2 ⟨rfl, rfl, r2, u2⟩
  (repeat (first | refine EK.seq ?_ | refine EK.region ?_ | refine ER.done ?_ | refine ER.move rfl rfl rfl ?_ | refine ER.assign rfl rfl rfl ?_ | refine ER.nilCheck rfl rfl rfl ?_ | refine ER.fieldAddr rfl rfl rfl ?_))
  refine ER.load1 rfl rfl rfl (r2.pplace (t := 1) hi hlt (by omega)) ?_
  (repeat refine ER.move rfl rfl rfl ?_)
  refine ER.callR rfl rfl rfl rfl rfl (pstore r2 (k := kTick i (I % G.m)) ⟨hi, hlt⟩ (vv (by omega)) hS) ?_
  rintro _ h3 δ3 ⟨rfl, rfl, r3, u3⟩
  (repeat (first | refine EK.seq ?_ | refine EK.region ?_ | refine ER.done ?_ | refine ER.move rfl rfl rfl ?_ | refine ER.nilCheck rfl rfl rfl ?_ | refine ER.fieldAddr rfl rfl rfl ?_))
  refine ER.load1 rfl rfl rfl (r3.pplace (t := 2) hi hlt (by omega)) ?_
  (repeat refine ER.move rfl rfl rfl ?_)
  refine ER.callR rfl rfl rfl rfl rfl (pstore r3 (k := kSlot i (I % G.m)) ⟨hi, hlt⟩ (vv (by omega)) hS) ?_
  rintro _ h4 δ4 ⟨rfl, rfl, r4, u4⟩
  (repeat (first | refine EK.seq ?_ | refine EK.region ?_ | refine ER.done ?_ | refine ER.move rfl rfl rfl ?_ | refine ER.nilCheck rfl rfl rfl ?_ | refine ER.fieldAddr rfl rfl rfl ?_))
  refine ER.load1 rfl rfl rfl (r4.pplace (t := 0) hi hlt (by omega)) ?_
  (repeat (first | refine ER.move rfl rfl rfl ?_ | refine ER.add (kd := .i64) rfl rfl rfl rfl (i64_in (by omega) (by omega)) ?_))
  refine ER.callR rfl rfl rfl rfl rfl (pstore r4 (k := kTurn i (I % G.m)) ⟨hi, hlt⟩ (vv (by omega)) hS) ?_
  rintro _ h5 δ5 ⟨rfl, rfl, r5, u5⟩
  (repeat (first | refine EK.seq ?_ | refine EK.region ?_ | refine ER.done ?_ | refine ER.assign rfl rfl rfl ?_ | refine EK.ret ?_))
  exact EU.ret1 rfl rfl ⟨rfl, rfl, r5, (((u1.trans u2).trans u3).trans u4).trans u5⟩
end
end
section
open Go Go.TJ Go.Proofs
abbrev Hd := Bool × Int × Int
def hrowH (x : Hd) : List Value := [.bool x.1, .int .i64 x.2.1, .int .i64 x.2.2]
def cellsH (H : Nat -> Hd) : List Value := (List.range 8).flatMap fun i => hrowH (H i)
def headsO (H : Nat -> Hd) : Obj := .cells (cellsH H).toArray 260 (0, 0)
theorem cellsH_len (H : Nat -> Hd) : (cellsH H).length = 24 := rfl
theorem lt8 {i : Nat} (hi : i < 8) : i = 0 \/ i = 1 \/ i = 2 \/ i = 3 \/ i = 4 \/ i = 5 \/ i = 6 \/ i = 7 := by omega
theorem cellsH_get (H : Nat -> Hd) {i t : Nat} (hi : i < 8) (ht : t < 3) : (cellsH H)[i * 3 + t]? = (hrowH (H i))[t]? := by
  have h3 : t = 0 \/ t = 1 \/ t = 2 := by omega
  rcases lt8 hi with rfl | rfl | rfl | rfl | rfl | rfl | rfl | rfl <;> rcases h3 with rfl | rfl | rfl <;> rfl
theorem cellsH_set (H : Nat -> Hd) {i : Nat} (hi : i < 8) (x : Hd) : (cellsH H).take (i * 3) ++ hrowH x ++ (cellsH H).drop (i * 3 + 3) = cellsH (up H i x) := by
  rcases lt8 hi with rfl | rfl | rfl | rfl | rfl | rfl | rfl | rfl <;> rfl
theorem cellsH_one (H : Nat -> Hd) : ∀ v ∈ cellsH H, OneCell v := by
  intro v hv
  obtain ⟨i, _, hi⟩ := List.mem_flatMap.mp hv
  simp only [hrowH, List.mem_cons, List.not_mem_nil, or_false] at hi
  rcases hi with rfl | rfl | rfl <;> exact ⟨nofun, nofun⟩
theorem heads_row {h : Hp} {b : Nat} {H : Nat -> Hd} (hb : h[b]? = some (headsO H)) {i : Nat} (hi : i < 8) : hrow h b (0 + i * 3) (hrowH (H i)) := fun t v hv => by
  have ht : t < 3 := by
    rcases Nat.lt_or_ge t 3 with x | x
    · exact x
    · rw [List.getElem?_eq_none (by exact x)] at hv; cases hv
  refine hcell_of hb ?_
  simp only [List.getElem?_toArray]
  rw [show 0 + i * 3 + t = i * 3 + t by omega, cellsH_get H hi ht, hv]
theorem heads_all {h : Hp} {b : Nat} {H : Nat -> Hd} (hb : h[b]? = some (headsO H)) : hrow h b 0 (cellsH H) := hrow_block (rest := []) (by rw [List.append_nil]; exact hb)
theorem heads_put {h : Hp} {H : Nat -> Hd} {i : Nat} (hi : i < 8) (x : Hd) : hsetRow (h.push (headsO H)) h.size (0 + i * 3) (hrowH x) = h.push (headsO (up H i x)) := by
  unfold headsO
  rw [hsetRow_block (hrowH x) _ _ _ (get_push_new _ _) (by rw [cellsH_len]; show 0 + i * 3 + 3 <= 24; omega), push_set, Nat.zero_add]
  rw [<- cellsH_set H hi x]
  rfl
def hdF (G : PG) (v : Key -> Int) (oN : Nat -> Nat) (i q : Nat) : Hd :=
  if i <= q /\ q < G.L /\ v (kTurn q (oN q % G.m)) = oN q + 1 then (true, (oN q : Int), v (kTick q (oN q % G.m))) else (false, 0, 0)
def bst (H : Nat -> Hd) : Nat -> Option Nat
  | 0 => none
  | n + 1 => if (H n).1 = true /\ ∀ b, bst H n = some b -> 64 * ((n : Int) - b) > (H n).2.2 - (H b).2.2 then some n else bst H n
def bv : Option Nat -> Int
  | none => -1
  | some b => b
theorem bst_lt {H : Nat -> Hd} : ∀ {n b : Nat}, bst H n = some b -> b < n /\ (H b).1 = true
  | 0, _, h => by cases h
  | n + 1, b, h => by
    unfold bst at h
    split at h
    · rename_i hc; cases h; exact ⟨by omega, hc.1⟩
    · have := bst_lt h; exact ⟨by omega, this.2⟩
theorem hdF_step {G : PG} {v : Key -> Int} {oN : Nat -> Nat} {n : Nat} (h : n < G.L) : hdF G v oN n = up (hdF G v oN (n + 1)) n (if v (kTurn n (oN n % G.m)) = oN n + 1 then (true, (oN n : Int), v (kTick n (oN n % G.m))) else (false, 0, 0)) := by
  funext q
  by_cases e : q = n
  · subst e
    rw [up_same]
    unfold hdF
    by_cases e : v (kTurn q (oN q % G.m)) = oN q + 1
    · rw [if_pos ⟨Nat.le_refl _, h, e⟩, if_pos e]
    · rw [if_neg (fun x => e x.2.2), if_neg e]
  · rw [up_ne _ _ e]
    unfold hdF
    by_cases hq : n + 1 <= q
    · simp only [hq, show n <= q by omega, true_and]
    · rw [if_neg (fun x => by omega), if_neg (fun x => hq x.1)]
section
variable {Γ : Type} {main : Bool} {S : Sit Γ} {h : Hp} {δ : Ix Γ} {G : PG} {v : Key -> Int}
set_option maxRecDepth 8000 in
set_option maxHeartbeats 2000000 in
theorem looks_ok {e : Nat} {oN : Nat -> Nat} (r : Pri h G v) (hm : G.m = 2 ^ e) (he : e <= 12) (hL1 : 1 <= G.L) (hL : G.L <= 8) (hO : ∀ q, q < G.L -> v (kOut q) = oN q /\ oN q < 2305843009213693952)
    (hT : ∀ q j, q < G.L -> -2305843009213693952 <= v (kTick q j) /\ v (kTick q j) <= 2305843009213693952) (hF : ∀ b o, h.size <= b -> ¬ S.still δ.g ⟨b, o, none⟩) :
    CallW Try.prog main S 125 #[ptr (G.B kTop), .pointer none] h δ
      (Ret fun w h' δ' => δ' = δ /\ Upd (fun _ => False) h h' /\ w = .tuple #[.agg (cellsH (hdF G v oN 0)).toArray, .int .i64 (bv (bst (hdF G v oN 0) 8))]) := by
  have hm0 : 0 < G.m := by rw [hm]; exact Nat.two_pow_pos e
  have hH0 : hdF G v oN G.L = fun _ => (false, 0, 0) := by
    funext q; unfold hdF; rw [if_neg (by omega)]
  refine CallW.start (n := 88) rfl rfl ?_
  (repeat (first | refine EK.seq ?_ | refine EK.region ?_ | refine ER.done ?_ | refine ER.move rfl rfl rfl ?_ | refine ER.assign rfl rfl rfl ?_ | refine ER.nilCheck rfl rfl rfl ?_ | refine ER.fieldAddr rfl rfl rfl ?_ | refine ER.allocA rfl rfl ?_))
  have r1 : Pri (h.push (headsO (hdF G v oN G.L))) G v := r.upd0 (Upd.push _ _)
  change ER _ _ _ _ _ _ _ _ _ _ (h.push (headsO fun _ => (false, 0, 0))) _ _
  rw [<- hH0]
  refine ER.load1 rfl rfl rfl r1.plv ?_
  (repeat (first | refine ER.done ?_ | refine EK.block ?_ | refine ER.assign rfl rfl rfl ?_ | refine ER.sub' (kd := .i64) rfl rfl rfl rfl (i64_in (by omega) (by omega)) ?_ | refine ER.len1 rfl rfl rfl ?_))
  refine EK.loopInv (fun i : Nat => [(6, .int .i64 ((i : Int) - 1)), (0, ptr (G.B kTop)), (1, .pointer none), (4, ptr h.size), (5, .int .i64 0)]) (fun i h' δ' => h' = h.push (headsO (hdF G v oN i)) /\ δ' = δ /\ i <= G.L) (fun i => i) G.L ⟨rfl, rfl, rfl, rfl, rfl, trivial⟩ ⟨rfl, rfl, Nat.le_refl _⟩ ?_
  clear r1
  rintro i _ δi ⟨rfl, hδi, hi⟩ again
  obtain rfl : δ = δi := hδi.symm
  have r1 : Pri (h.push (headsO (hdF G v oN i))) G v := r.upd0 (Upd.push _ _)
  rcases i with _ | n
  · obtain ⟨H, hH⟩ : ∃ H, H = hdF G v oN 0 := ⟨_, rfl⟩
    rw [<- hH]
    have hTk : ∀ q, -2305843009213693952 <= (H q).2.2 /\ (H q).2.2 <= 2305843009213693952 := fun q => by
      rw [hH]; unfold hdF
      by_cases hc : 0 <= q /\ q < G.L /\ v (kTurn q (oN q % G.m)) = oN q + 1
      · rw [if_pos hc]; exact hT q _ hc.2.1
      · rw [if_neg hc]; exact ⟨by dsimp only; omega, by dsimp only; omega⟩
    have hb1 := get_push_new h (headsO H)
    have u1 : Upd (fun _ => False) h (h.push (headsO H)) := Upd.push _ _
    generalize h.push (headsO H) = h1 at hb1 u1 ⊢
    clear r1 again hi
    (repeat (first | refine EK.seq ?_ | refine EK.region ?_ | refine ER.done ?_ | refine EK.block ?_ | refine ER.move rfl rfl rfl ?_ | refine ER.assign rfl rfl rfl ?_ | refine ER.nilCheck rfl rfl rfl ?_ | refine ER.cmpF rfl rfl rfl rfl rfl (by first | (dsimp only [cmpP]; omega) | exact rfl | exact Int.le_refl _) ?_ | refine EK.condF rfl ?_ | refine EK.exit rfl ?_))
    refine EK.loopInv (fun n : Nat => [(58, .int .i64 n), (5, .int .i64 (bv (bst H n))), (0, ptr (G.B kTop)), (1, .pointer none), (4, ptr h.size)]) (fun n h' δ' => h'[h.size]? = some (headsO H) /\ Upd (fun _ => False) h h' /\ δ' = δ /\ n <= 8) (fun n => 8 - n) 0 ⟨rfl, rfl, rfl, rfl, rfl, trivial⟩ ⟨hb1, u1, rfl, by omega⟩ ?_
    clear hb1 u1
    rintro n h2 δ2 ⟨hb2, u2, hδ2, hn8⟩ again
    obtain rfl : δ = δ2 := hδ2.symm
    have hsz := u2.size
    by_cases hn : n < 8
    · (repeat (first | refine EK.seq ?_ | refine EK.region ?_ | refine ER.done ?_ | refine EK.skip ?_ | refine EK.block ?_ | refine ER.cmpT rfl rfl rfl rfl rfl (by first | (dsimp only [cmpP]; omega) | exact rfl | exact Int.le_refl _) ?_ | refine EK.condT rfl ?_))
      refine EK.regionAny (fun h' => hrow h' h.size (0 + n * 3) (hrowH (H n))) ?_
      have hZ := heads_row hb2 hn
      refine EA.tMove 0 rfl (by kernel_rfl) rfl rfl rfl rfl hZ ?_
      refine EA.tNil 1 rfl (by kernel_rfl) rfl rfl rfl rfl hZ ?_
      refine EA.tIdxA 2 rfl (by kernel_rfl) rfl rfl rfl rfl rfl (by omega) (by omega) hZ ?_
      refine EA.tLoadN (vs := hrowH (H n)) 3 rfl (by kernel_rfl) rfl rfl rfl rfl rfl (fun _ hz => hz) hZ ?_
      have hZ : hrow (h2.push (.cells #[.bool false, .int .i64 0, .int .i64 0] 259)) h.size (0 + n * 3) (hrowH (H n)) := fun i w hw => hcell_push (hZ i w hw)
      refine EA.val (v := ptr h2.size) (h' := h2.push (.cells #[.bool false, .int .i64 0, .int .i64 0] 259)) 4 rfl (by kernel_rfl) rfl rfl rfl (fun ρ Q X hρ hq => sem_allocA hq) hZ ?_
      refine EA.tAssign 5 rfl (by kernel_rfl) rfl rfl rfl rfl hZ ?_
      have hrs : hsetRow (h2.push (.cells #[.bool false, .int .i64 0, .int .i64 0] 259)) h2.size 0 (hrowH (H n)) = h2.push (.cells (hrowH (H n)).toArray 259) := hsetRow_push (c := [.bool false, .int .i64 0, .int .i64 0]) rfl
      have hlth := lt_of_get hb2
      refine EA.unit 6 rfl (by kernel_rfl) rfl rfl (fun ρ Q X hρ hq => sem_storeN (hρ _ _ rfl) (hρ _ _ rfl) rfl (by simp [hrowH, OneCell]) (fun j hj => ⟨?_, hfroz_of (get_push_new _ _), hF _ _ hsz⟩) hq) ?_ ?_
      · have hj3 : j < 3 := hj
        have hb := get_push_new h2 (.cells #[.bool false, .int .i64 0, .int .i64 0] 259 (0, 0))
        rcases (show j = 0 \/ j = 1 \/ j = 2 by omega) with rfl | rfl | rfl <;> exact ⟨_, hcell_of hb rfl⟩
      · rw [hrs]
        exact fun i w hw => hcell_push (heads_row hb2 hn i w hw)
      refine EA.done (by kernel_rfl) ?_
      rw [hrs]
      have hb3 := get_push (.cells (hrowH (H n)).toArray 259) hb2
      have hc3 := get_push_new h2 (.cells (hrowH (H n)).toArray 259)
      have u3 := u2.trans (Upd.push (T := fun _ => False) h2 (.cells (hrowH (H n)).toArray 259))
      generalize h2.push (.cells (hrowH (H n)).toArray 259) = h3 at hb3 hc3 u3 ⊢
      have c0 : hcell h3 ⟨h2.size, 0 + 0, none⟩ = some (.bool (H n).1) := hcell_of hc3 rfl
      have c2 : hcell h3 ⟨h2.size, 0 + 2, none⟩ = some (.int .i64 (H n).2.2) := hcell_of hc3 rfl
      clear hc3 hZ hb2 u2 hrs
      have hTn := hTk n
      have fin : ∀ o : Option Nat, bst H (n + 1) = o -> EK Try.prog main S 125 88 _ [(58, .int .i64 ((n : Int) + 1)), (5, .int .i64 (bv o)), (0, ptr (G.B kTop)), (1, .pointer none), (4, ptr h.size)] [] h3 δ _ := fun o ho => by
        subst ho
        exact EK.back (again (n + 1) _ _ (by omega) ⟨hb3, u3, rfl, by omega⟩) ⟨rfl, rfl, rfl, rfl, rfl, trivial⟩
      (repeat refine EK.seq ?_)
      refine EK.regionAny (fun h' => h' = h3) ?_
      have hZ : h3 = h3 := rfl
      refine EA.tField 0 rfl (by kernel_rfl) rfl rfl rfl rfl hZ ?_
      refine EA.tLoad 1 rfl (by kernel_rfl) rfl rfl rfl rfl (fun _ hz => hz ▸ c0) hZ ?_
      cases hthere : (H n).1
      · have hbn : bst H (n + 1) = bst H n := by
          show (if (H n).1 = true /\ _ then some n else bst H n) = _
          rw [if_neg (fun x => by rw [hthere] at x; cases x.1)]
        refine EA.tMove 2 rfl (by kernel_rfl) rfl rfl rfl rfl hZ ?_
        refine EA.takeNo 3 rfl (by kernel_rfl) rfl rfl rfl hZ ?_
        refine EA.takeNo 4 rfl (by kernel_rfl) rfl rfl rfl hZ ?_
        refine EA.takeNo 5 rfl (by kernel_rfl) rfl rfl rfl hZ ?_
        refine EA.takeNo 6 rfl (by kernel_rfl) rfl rfl rfl hZ ?_
        refine EA.takeNo 7 rfl (by kernel_rfl) rfl rfl rfl hZ ?_
        refine EA.takeNo 8 rfl (by kernel_rfl) rfl rfl rfl hZ ?_
        refine EA.takeNo 9 rfl (by kernel_rfl) rfl rfl rfl hZ ?_
        refine EA.takeNo 10 rfl (by kernel_rfl) rfl rfl rfl hZ ?_
        refine EA.takeNo 11 rfl (by kernel_rfl) rfl rfl rfl hZ ?_
        refine EA.takeNo 12 rfl (by kernel_rfl) rfl rfl rfl hZ ?_
        refine EA.takeNo 13 rfl (by kernel_rfl) rfl rfl rfl hZ ?_
        refine EA.takeNo 14 rfl (by kernel_rfl) rfl rfl rfl hZ ?_
        refine EA.takeNo 15 rfl (by kernel_rfl) rfl rfl rfl hZ ?_
        refine EA.takeNo 16 rfl (by kernel_rfl) rfl rfl rfl hZ ?_
        refine EA.takeNo 17 rfl (by kernel_rfl) rfl rfl rfl hZ ?_
        refine EA.takeNo 18 rfl (by kernel_rfl) rfl rfl rfl hZ ?_
        refine EA.tPickF 19 rfl (by kernel_rfl) rfl rfl rfl rfl rfl hZ ?_
        refine EA.done (by kernel_rfl) ?_
        (repeat (first | refine EK.region ?_ | refine ER.done ?_ | refine EK.skip ?_ | refine EK.inBlock ?_ | refine ER.move rfl rfl rfl ?_ | refine ER.add (kd := .i64) rfl rfl rfl rfl (i64_in (by omega) (by omega)) ?_ | refine EK.condF rfl ?_))
        exact EK.back (fin _ hbn) ⟨rfl, rfl, rfl, rfl, rfl, trivial⟩
      · cases hbe : bst H n with
        | none =>
          have hbn : bst H (n + 1) = some n := by
            show (if (H n).1 = true /\ _ then some n else bst H n) = _
            rw [if_pos ⟨hthere, fun b hb => by rw [hbe] at hb; cases hb⟩]
          have hm1 : (bv none : Int) = -1 := rfl
          refine EA.tMove 2 rfl (by kernel_rfl) rfl rfl rfl rfl hZ ?_
          refine EA.tMove 3 rfl (by kernel_rfl) rfl rfl rfl rfl hZ ?_
          refine EA.tCmpT 4 rfl (by kernel_rfl) rfl rfl rfl rfl rfl rfl (by first | (dsimp only [cmpP]; omega) | exact rfl | exact Int.le_refl _) hZ ?_
          refine EA.tMove 5 rfl (by kernel_rfl) rfl rfl rfl rfl hZ ?_
          refine EA.takeNo 6 rfl (by kernel_rfl) rfl rfl rfl hZ ?_
          refine EA.takeNo 7 rfl (by kernel_rfl) rfl rfl rfl hZ ?_
          refine EA.takeNo 8 rfl (by kernel_rfl) rfl rfl rfl hZ ?_
          refine EA.takeNo 9 rfl (by kernel_rfl) rfl rfl rfl hZ ?_
          refine EA.takeNo 10 rfl (by kernel_rfl) rfl rfl rfl hZ ?_
          refine EA.takeNo 11 rfl (by kernel_rfl) rfl rfl rfl hZ ?_
          refine EA.takeNo 12 rfl (by kernel_rfl) rfl rfl rfl hZ ?_
          refine EA.takeNo 13 rfl (by kernel_rfl) rfl rfl rfl hZ ?_
          refine EA.takeNo 14 rfl (by kernel_rfl) rfl rfl rfl hZ ?_
          refine EA.takeNo 15 rfl (by kernel_rfl) rfl rfl rfl hZ ?_
          refine EA.takeNo 16 rfl (by kernel_rfl) rfl rfl rfl hZ ?_
          refine EA.takeNo 17 rfl (by kernel_rfl) rfl rfl rfl hZ ?_
          refine EA.tPickT 18 rfl (by kernel_rfl) rfl rfl rfl rfl rfl hZ ?_
          refine EA.tPickT 19 rfl (by kernel_rfl) rfl rfl rfl rfl rfl hZ ?_
          refine EA.done (by kernel_rfl) ?_
          (repeat (first | refine EK.region ?_ | refine ER.done ?_ | refine EK.inBlock ?_ | refine ER.move rfl rfl rfl ?_ | refine ER.assign rfl rfl rfl ?_ | refine ER.add (kd := .i64) rfl rfl rfl rfl (i64_in (by omega) (by omega)) ?_ | refine EK.condT rfl ?_))
          exact EK.back (fin _ hbn) ⟨rfl, rfl, rfl, rfl, rfl, trivial⟩
        | some b =>
          have hbb : (bv (some b) : Int) = b := rfl
          have hb8 := (bst_lt hbe).1
          have hTb := hTk b
          have c4 : hcell h3 ⟨h.size, 0 + b * 3 + 2, none⟩ = some (.int .i64 (H b).2.2) := heads_row hb3 (i := b) (by omega) 2 _ rfl
          rw [hbb]
          refine EA.tMove 2 rfl (by kernel_rfl) rfl rfl rfl rfl hZ ?_
          refine EA.tMove 3 rfl (by kernel_rfl) rfl rfl rfl rfl hZ ?_
          refine EA.tCmpF 4 rfl (by kernel_rfl) rfl rfl rfl rfl rfl rfl (by first | (dsimp only [cmpP]; omega) | exact rfl | exact Int.le_refl _) hZ ?_
          refine EA.tMove 5 rfl (by kernel_rfl) rfl rfl rfl rfl hZ ?_
          refine EA.tMove 6 rfl (by kernel_rfl) rfl rfl rfl rfl hZ ?_
          refine EA.tMove 7 rfl (by kernel_rfl) rfl rfl rfl rfl hZ ?_
          refine EA.tSub (kd := .i64) 8 rfl (by kernel_rfl) rfl rfl rfl rfl rfl (i64_in (by omega) (by omega)) hZ ?_
          refine EA.tMul (kd := .i64) 9 rfl (by kernel_rfl) rfl rfl rfl rfl rfl (i64_in (by omega) (by omega)) hZ ?_
          refine EA.tField 10 rfl (by kernel_rfl) rfl rfl rfl rfl hZ ?_
          refine EA.tLoad 11 rfl (by kernel_rfl) rfl rfl rfl rfl (fun _ hz => hz ▸ c2) hZ ?_
          refine EA.tMove 12 rfl (by kernel_rfl) rfl rfl rfl rfl hZ ?_
          refine EA.tIdxA 13 rfl (by kernel_rfl) rfl rfl rfl rfl rfl (by omega) (by omega) hZ ?_
          refine EA.tField 14 rfl (by kernel_rfl) rfl rfl rfl rfl hZ ?_
          refine EA.tLoad 15 rfl (by kernel_rfl) rfl rfl rfl rfl (fun _ hz => hz ▸ c4) hZ ?_
          refine EA.tSub (kd := .i64) 16 rfl (by kernel_rfl) rfl rfl rfl rfl rfl (i64_in (by omega) (by omega)) hZ ?_
          by_cases hgo : 64 * ((n : Int) - b) > (H n).2.2 - (H b).2.2
          · have hbn : bst H (n + 1) = some n := by
              show (if (H n).1 = true /\ _ then some n else bst H n) = _
              rw [if_pos ⟨hthere, fun b' hb' => by rw [hbe] at hb'; cases hb'; exact hgo⟩]
            refine EA.tCmpT 17 rfl (by kernel_rfl) rfl rfl rfl rfl rfl rfl (by first | (dsimp only [cmpP]; omega) | exact rfl | exact Int.le_refl _) hZ ?_
            refine EA.tPickF 18 rfl (by kernel_rfl) rfl rfl rfl rfl rfl hZ ?_
            refine EA.tPickT 19 rfl (by kernel_rfl) rfl rfl rfl rfl rfl hZ ?_
            refine EA.done (by kernel_rfl) ?_
            (repeat (first | refine EK.region ?_ | refine ER.done ?_ | refine EK.inBlock ?_ | refine ER.move rfl rfl rfl ?_ | refine ER.assign rfl rfl rfl ?_ | refine ER.add (kd := .i64) rfl rfl rfl rfl (i64_in (by omega) (by omega)) ?_ | refine EK.condT rfl ?_))
            exact EK.back (fin _ hbn) ⟨rfl, rfl, rfl, rfl, rfl, trivial⟩
          · have hbn : bst H (n + 1) = some b := by
              show (if (H n).1 = true /\ _ then some n else bst H n) = _
              rw [if_neg (fun x => hgo (x.2 b hbe)), hbe]
            refine EA.tCmpF 17 rfl (by kernel_rfl) rfl rfl rfl rfl rfl rfl (by first | (dsimp only [cmpP]; omega) | exact rfl | exact Int.le_refl _) hZ ?_
            refine EA.tPickF 18 rfl (by kernel_rfl) rfl rfl rfl rfl rfl hZ ?_
            refine EA.tPickT 19 rfl (by kernel_rfl) rfl rfl rfl rfl rfl hZ ?_
            refine EA.done (by kernel_rfl) ?_
            (repeat (first | refine EK.region ?_ | refine ER.done ?_ | refine EK.skip ?_ | refine EK.inBlock ?_ | refine ER.move rfl rfl rfl ?_ | refine ER.add (kd := .i64) rfl rfl rfl rfl (i64_in (by omega) (by omega)) ?_ | refine EK.condF rfl ?_))
            exact EK.back (fin _ hbn) ⟨rfl, rfl, rfl, rfl, rfl, trivial⟩
    · obtain rfl : n = 8 := by omega
      (repeat (first | refine EK.seq ?_ | refine EK.region ?_ | refine ER.done ?_ | refine ER.cmpF rfl rfl rfl rfl rfl (by first | (dsimp only [cmpP]; omega) | exact rfl | exact Int.le_refl _) ?_ | refine EK.condF rfl ?_ | refine EK.exit rfl ?_))
      refine ER.loadN (vs := cellsH H) rfl rfl rfl rfl (heads_all hb2) ?_
      (repeat refine ER.move rfl rfl rfl ?_)
      refine ER.storeN (vs := cellsH H) rfl rfl rfl rfl (cellsH_one H) (fun j hj => ⟨?_, hfroz_of hb2, hF _ _ (Nat.le_refl _)⟩) ?_
      · have hj3 : j < (cellsH H).length := hj
        exact ⟨_, heads_all hb2 j _ (List.getElem?_eq_getElem hj3)⟩
      rw [hsetRow_block (cellsH H) 0 _ _ hb2 (by rw [Nat.zero_add]; exact Nat.le_refl _)]
      have e1 : List.take 0 (cellsH H) ++ cellsH H ++ List.drop (0 + (cellsH H).length) (cellsH H) = cellsH H := by simp
      rw [e1]
      have hb4 : (h2.setIfInBounds h.size (headsO H))[h.size]? = some (headsO H) := get_set_same hb2
      have u4 : Upd (fun _ => False) h (h2.setIfInBounds h.size (headsO H)) := u2.over (Upd.set (T := fun b => b = h.size) _ _ _ rfl) (fun b hb => by omega)
      change ER _ _ _ _ _ _ _ _ _ _ (h2.setIfInBounds h.size (headsO H)) _ _
      generalize h2.setIfInBounds h.size (headsO H) = h5 at hb4 u4 ⊢
      (repeat (first | refine ER.done ?_ | refine ER.assign rfl rfl rfl ?_ | refine EK.ret ?_))
      exact EU.retCell (vs := cellsH H) rfl rfl rfl (heads_all hb4) rfl ⟨rfl, u4, rfl⟩
  · have ex : (((n + 1 : Nat) : Int) - 1) = (n : Int) := by omega
    rw [ex]
    have hn : n < G.L := by omega
    obtain ⟨hOn, hOb⟩ := hO n hn
    have hlt : oN n % G.m < G.m := Nat.mod_lt _ hm0
    have hstep := hdF_step (v := v) (oN := oN) hn
    (repeat (first | refine EK.seq ?_ | refine EK.region ?_ | refine ER.done ?_ | refine EK.skip ?_ | refine EK.block ?_ | refine ER.move rfl rfl rfl ?_ | refine ER.nilCheck rfl rfl rfl ?_ | refine ER.fieldAddr rfl rfl rfl ?_ | refine ER.cmpT rfl rfl rfl rfl rfl (by first | (dsimp only [cmpP]; omega) | exact rfl | exact Int.le_refl _) ?_ | refine EK.condT rfl ?_))
    refine ER.load1 rfl rfl rfl r1.plv ?_
    (repeat (first | refine ER.move rfl rfl rfl ?_ | refine ER.indexSl rfl rfl rfl rfl (by omega) (by omega) ?_))
    refine ER.load1 rfl rfl rfl (r1.plev hn) ?_
    (repeat (first | refine EK.seq ?_ | refine EK.region ?_ | refine ER.done ?_ | refine ER.move rfl rfl rfl ?_ | refine ER.assign rfl rfl rfl ?_ | refine ER.nilCheck rfl rfl rfl ?_ | refine ER.fieldAddr rfl rfl rfl ?_))
    refine ER.load1 rfl rfl rfl (r1.pout hn) ?_
    (repeat refine ER.move rfl rfl rfl ?_)
    refine ER.callD rfl rfl rfl rfl rfl (pload r1 (k := kOut n) hn (vv (by omega)) hOn) ?_
    (repeat (first | refine EK.seq ?_ | refine EK.region ?_ | refine ER.done ?_ | refine ER.move rfl rfl rfl ?_ | refine ER.assign rfl rfl rfl ?_))
    refine ER.callD rfl rfl rfl rfl rfl (at_ok r1 hn hm he (by omega)) ?_
    (repeat (first | refine ER.nilCheck rfl rfl rfl ?_ | refine ER.fieldAddr rfl rfl rfl ?_))
    refine ER.load1 rfl rfl rfl (r1.pplace (t := 0) hn hlt (by omega)) ?_
    (repeat refine ER.move rfl rfl rfl ?_)
    refine ER.callD rfl rfl rfl rfl rfl (pload r1 (k := kTurn n (oN n % G.m)) ⟨hn, hlt⟩ (vv (by omega)) rfl) ?_
    by_cases ht : v (kTurn n (oN n % G.m)) = oN n + 1
    · rw [if_pos ht] at hstep
      (repeat (first | refine EK.region ?_ | refine ER.done ?_ | refine ER.move rfl rfl rfl ?_ | refine ER.cmpT rfl rfl rfl rfl rfl (by first | (dsimp only [cmpP]; omega) | exact rfl | exact Int.le_refl _) ?_ | refine ER.add (kd := .i64) rfl rfl rfl rfl (i64_in (by omega) (by omega)) ?_ | refine EK.condT rfl ?_))
      refine ER.callD rfl rfl rfl rfl rfl (at_ok r1 hn hm he (by omega)) ?_
      (repeat (first | refine ER.nilCheck rfl rfl rfl ?_ | refine ER.fieldAddr rfl rfl rfl ?_))
      refine ER.load1 rfl rfl rfl (r1.pplace (t := 1) hn hlt (by omega)) ?_
      (repeat refine ER.move rfl rfl rfl ?_)
      refine ER.callD rfl rfl rfl rfl rfl (pload r1 (k := kTick n (oN n % G.m)) ⟨hn, hlt⟩ (vv (by omega)) rfl) ?_
      skip
      refine ER.buildS (cells := #[.bool true, .int .i64 (oN n), .int .i64 (v (kTick n (oN n % G.m)))]) rfl rfl rfl rfl ?_
      (repeat refine ER.indexArr rfl rfl rfl rfl (by omega) (by omega) ?_)
      have hrw := heads_row (get_push_new h (headsO (hdF G v oN (n + 1)))) (i := n) (by omega)
      refine ER.storeN (vs := hrowH (true, (oN n : Int), v (kTick n (oN n % G.m)))) rfl rfl rfl rfl (by simp [hrowH, OneCell]) (fun j hj => ⟨?_, hfroz_of (get_push_new _ _), hF _ _ (Nat.le_refl _)⟩) ?_
      · have hj3 : j < 3 := hj
        rcases (show j = 0 \/ j = 1 \/ j = 2 by omega) with rfl | rfl | rfl
        · exact ⟨_, hrw 0 _ rfl⟩
        · exact ⟨_, hrw 1 _ rfl⟩
        · exact ⟨_, hrw 2 _ rfl⟩
      change ER _ _ _ _ _ _ _ _ _ _ (hsetRow (h.push (headsO (hdF G v oN (n + 1)))) h.size (0 + n * 3) (hrowH (true, (oN n : Int), v (kTick n (oN n % G.m))))) _ _
      rw [heads_put (by omega), <- hstep]
      (repeat (first | refine EK.region ?_ | refine ER.done ?_ | refine EK.inBlock ?_ | refine ER.move rfl rfl rfl ?_ | refine ER.assign rfl rfl rfl ?_ | refine ER.sub' (kd := .i64) rfl rfl rfl rfl (i64_in (by omega) (by omega)) ?_))
      exact EK.back (again n _ _ (by omega) ⟨rfl, rfl, by omega⟩) ⟨rfl, rfl, rfl, rfl, rfl, trivial⟩
    · rw [if_neg ht] at hstep
      have hz : hdF G v oN (n + 1) n = (false, 0, 0) := by unfold hdF; rw [if_neg (by omega)]
      have hs2 : hdF G v oN n = hdF G v oN (n + 1) := by
        rw [hstep, <- hz]; funext q
        by_cases e : q = n
        · subst e; rw [up_same]
        · rw [up_ne _ _ e]
      (repeat (first | refine EK.region ?_ | refine ER.done ?_ | refine EK.skip ?_ | refine EK.inBlock ?_ | refine ER.move rfl rfl rfl ?_ | refine ER.assign rfl rfl rfl ?_ | refine ER.cmpF rfl rfl rfl rfl rfl (by first | (dsimp only [cmpP]; omega) | exact rfl | exact Int.le_refl _) ?_ | refine ER.add (kd := .i64) rfl rfl rfl rfl (i64_in (by omega) (by omega)) ?_ | refine ER.sub' (kd := .i64) rfl rfl rfl rfl (i64_in (by omega) (by omega)) ?_ | refine EK.condF rfl ?_))
      exact EK.back (again n _ _ (by omega) ⟨by rw [hs2], rfl, by omega⟩) ⟨rfl, rfl, rfl, rfl, rfl, trivial⟩
theorem heads_new {H : Nat -> Hd} : hsetRow (h.push (headsO fun _ => (false, 0, 0))) h.size 0 (cellsH H) = h.push (headsO H) := hsetRow_push (c := cellsH fun _ => (false, 0, 0)) rfl
theorem take_none {e : Nat} {oN : Nat -> Nat} (r : Pri h G v) (hm : G.m = 2 ^ e) (he : e <= 12) (hL1 : 1 <= G.L) (hL : G.L <= 8) (hO : ∀ q, q < G.L -> v (kOut q) = oN q /\ oN q < 2305843009213693952)
    (hT : ∀ q j, q < G.L -> -2305843009213693952 <= v (kTick q j) /\ v (kTick q j) <= 2305843009213693952) (hF : ∀ b o, h.size <= b -> ¬ S.still δ.g ⟨b, o, none⟩) (hb : bst (hdF G v oN 0) 8 = none) :
    CallW Try.prog main S 61 #[ptr (G.B kTop), .pointer none] h δ (Ret fun w h' δ' => w = .tuple #[.int .i64 0, .int .i64 0, .bool false] /\ δ' = δ /\ Upd (fun _ => False) h h') := by
  refine CallW.start (n := 75) rfl rfl ?_
  (repeat (first | refine EK.seq ?_ | refine EK.region ?_ | refine ER.done ?_ | refine ER.move rfl rfl rfl ?_ | refine ER.assign rfl rfl rfl ?_ | refine ER.nilCheck rfl rfl rfl ?_ | refine ER.fieldAddr rfl rfl rfl ?_ | refine ER.eqV rfl rfl rfl rfl rfl ?_))
  refine ER.load1 rfl rfl rfl r.ptk ?_
  (repeat (first | refine ER.done ?_ | refine EK.skip ?_ | refine EK.block ?_ | refine ER.eqV rfl rfl rfl rfl rfl ?_ | refine ER.pickF rfl rfl rfl rfl ?_ | refine EK.condF rfl ?_))
  refine EK.loop ?_
  (repeat (first | refine EK.seq ?_ | refine EK.region ?_ | refine EK.block ?_ | refine ER.move rfl rfl rfl ?_))
  refine ER.callR rfl rfl rfl rfl rfl (looks_ok r hm he hL1 hL hO hT hF) ?_
  rintro _ h1 δ1 ⟨rfl, u1, rfl⟩
  rw [hb]
  generalize hdF G v oN 0 = H
  have hsz := u1.size
  (repeat (first | refine ER.move rfl rfl rfl ?_ | refine ER.extract rfl rfl rfl rfl ?_ | refine ER.allocA rfl rfl ?_))
  change ER _ _ _ _ _ _ _ _ _ _ (h1.push (headsO fun _ => (false, 0, 0))) _ _
  refine ER.storeN (vs := cellsH H) rfl rfl rfl rfl (cellsH_one H) (fun j hj => ⟨?_, hfroz_of (get_push_new _ _), hF _ _ hsz⟩) ?_
  · exact ⟨_, heads_all (get_push_new h1 (headsO fun _ => (false, 0, 0))) j _ (List.getElem?_eq_getElem (show j < (cellsH fun _ => (false, 0, 0)).length from hj))⟩
  rw [heads_new]
  have hv : (bv none : Int) = -1 := rfl
  (repeat (first | refine EK.seq ?_ | refine EK.region ?_ | refine ER.done ?_ | refine ER.move rfl rfl rfl ?_ | refine ER.assign rfl rfl rfl ?_ | refine ER.cmpT rfl rfl rfl rfl rfl (by first | (dsimp only [cmpP]; omega) | exact rfl | exact Int.le_refl _) ?_ | refine EK.condT rfl ?_ | refine EK.ret ?_))
  exact EU.ret3 rfl rfl rfl rfl ⟨rfl, rfl, u1.trans (Upd.push _ _)⟩
def takeV (m : Nat) (v : Key -> Int) (b o : Nat) : Key -> Int := ut (ut v (kOut b) ((o : Int) + 1)) (kTurn b (o % m)) ((o : Int) + m)
set_option maxRecDepth 8000 in
set_option maxHeartbeats 2000000 in
theorem take_ok {e b : Nat} {oN : Nat -> Nat} (r : Pri h G v) (hm : G.m = 2 ^ e) (he : e <= 12) (hL1 : 1 <= G.L) (hL : G.L <= 8) (hO : ∀ q, q < G.L -> v (kOut q) = oN q /\ oN q < 2305843009213693952)
    (hT : ∀ q j, q < G.L -> -2305843009213693952 <= v (kTick q j) /\ v (kTick q j) <= 2305843009213693952) (hF : ∀ b o, h.size <= b -> ¬ S.still δ.g ⟨b, o, none⟩) (hS : PFree S δ.g G) (hb : bst (hdF G v oN 0) 8 = some b) :
    CallW Try.prog main S 61 #[ptr (G.B kTop), .pointer none] h δ (Ret fun w h' δ' => w = .tuple #[.int .i64 (v (kSlot b (oN b % G.m))), .int .i64 b, .bool true] /\ δ' = δ /\ Pri h' G (takeV G.m v b (oN b)) /\ Upd (priM G v).Own h h') := by
  have hm0 : 0 < G.m := by rw [hm]; exact Nat.two_pow_pos e
  have hm1 : G.m <= 4096 := by have := Nat.pow_le_pow_right (n := 2) (by decide) he; omega
  have hlt : oN b % G.m < G.m := Nat.mod_lt _ hm0
  obtain ⟨hb8, hbt⟩ := bst_lt hb
  have hbH : b < G.L /\ hdF G v oN 0 b = (true, (oN b : Int), v (kTick b (oN b % G.m))) := by
    unfold hdF at hbt ⊢
    by_cases hc : 0 <= b /\ b < G.L /\ v (kTurn b (oN b % G.m)) = oN b + 1
    · rw [if_pos hc]; exact ⟨hc.2.1, rfl⟩
    · rw [if_neg hc] at hbt; cases hbt
  obtain ⟨hbL, hbe⟩ := hbH
  obtain ⟨hOb, hOl⟩ := hO b hbL
  refine CallW.start (n := 75) rfl rfl ?_
  (repeat (first | refine EK.seq ?_ | refine EK.region ?_ | refine ER.done ?_ | refine ER.move rfl rfl rfl ?_ | refine ER.assign rfl rfl rfl ?_ | refine ER.nilCheck rfl rfl rfl ?_ | refine ER.fieldAddr rfl rfl rfl ?_ | refine ER.eqV rfl rfl rfl rfl rfl ?_))
  refine ER.load1 rfl rfl rfl r.ptk ?_
  (repeat (first | refine ER.done ?_ | refine EK.skip ?_ | refine EK.block ?_ | refine ER.eqV rfl rfl rfl rfl rfl ?_ | refine ER.pickF rfl rfl rfl rfl ?_ | refine EK.condF rfl ?_))
  refine EK.loop ?_
  (repeat (first | refine EK.seq ?_ | refine EK.region ?_ | refine EK.block ?_ | refine ER.move rfl rfl rfl ?_))
  refine ER.callR rfl rfl rfl rfl rfl (looks_ok r hm he hL1 hL hO hT hF) ?_
  rintro _ h1 δ1 ⟨rfl, u1, rfl⟩
  rw [hb]
  generalize hdF G v oN 0 = H at hbe
  have hsz := u1.size
  (repeat (first | refine ER.move rfl rfl rfl ?_ | refine ER.extract rfl rfl rfl rfl ?_ | refine ER.allocA rfl rfl ?_))
  change ER _ _ _ _ _ _ _ _ _ _ (h1.push (headsO fun _ => (false, 0, 0))) _ _
  refine ER.storeN (vs := cellsH H) rfl rfl rfl rfl (cellsH_one H) (fun j hj => ⟨?_, hfroz_of (get_push_new _ _), hF _ _ hsz⟩) ?_
  · exact ⟨_, heads_all (get_push_new h1 (headsO fun _ => (false, 0, 0))) j _ (List.getElem?_eq_getElem (show j < (cellsH fun _ => (false, 0, 0)).length from hj))⟩
  rw [heads_new]
  have hb2 := get_push_new h1 (headsO H)
  have u2 : Upd (fun _ => False) h (h1.push (headsO H)) := u1.trans (Upd.push _ _)
  have r2 : Pri (h1.push (headsO H)) G v := r.upd0 u2
  generalize h1.push (headsO H) = h2 at hb2 u2 r2 ⊢
  have hv : (bv (some b) : Int) = b := rfl
  rw [hv]
  have cA : hcell h2 ⟨h1.size, 0 + b * 3 + 1, none⟩ = some (.int .i64 (oN b : Int)) := by
    have := heads_row hb2 hb8 1 _ rfl
    rw [hbe] at this
    exact this
  have cL := r2.plv
  have cV := r2.plev hbL
  (repeat (first | refine EK.seq ?_ | refine EK.region ?_ | refine ER.done ?_ | refine EK.skip ?_ | refine ER.move rfl rfl rfl ?_ | refine ER.assign rfl rfl rfl ?_ | refine ER.cmpF rfl rfl rfl rfl rfl (by first | (dsimp only [cmpP]; omega) | exact rfl | exact Int.le_refl _) ?_ | refine EK.condF rfl ?_))
  refine EK.regionAny (fun h' => h' = h2) ?_
  have hZ : h2 = h2 := rfl
  refine EA.tMove 0 rfl (by kernel_rfl) rfl rfl rfl rfl hZ ?_
  refine EA.tNil 1 rfl (by kernel_rfl) rfl rfl rfl rfl hZ ?_
  refine EA.tField 2 rfl (by kernel_rfl) rfl rfl rfl rfl hZ ?_
  refine EA.tLoad 3 rfl (by kernel_rfl) rfl rfl rfl rfl (fun _ hz => hz ▸ cL) hZ ?_
  refine EA.tMove 4 rfl (by kernel_rfl) rfl rfl rfl rfl hZ ?_
  refine EA.tIdxS 5 rfl (by kernel_rfl) rfl rfl rfl rfl rfl (by omega) (by omega) hZ ?_
  refine EA.tLoad 6 rfl (by kernel_rfl) rfl rfl rfl rfl (fun _ hz => hz ▸ cV) hZ ?_
  refine EA.tMove 7 rfl (by kernel_rfl) rfl rfl rfl rfl hZ ?_
  refine EA.tIdxA 8 rfl (by kernel_rfl) rfl rfl rfl rfl rfl (by omega) (by omega) hZ ?_
  refine EA.tField 9 rfl (by kernel_rfl) rfl rfl rfl rfl hZ ?_
  refine EA.tLoad 10 rfl (by kernel_rfl) rfl rfl rfl rfl (fun _ hz => hz ▸ cA) hZ ?_
  refine EA.tAssign 11 rfl (by kernel_rfl) rfl rfl rfl rfl hZ ?_
  refine EA.tAssign 12 rfl (by kernel_rfl) rfl rfl rfl rfl hZ ?_
  refine EA.done (by kernel_rfl) ?_
  clear hZ
  (repeat (first | refine EK.seq ?_ | refine EK.region ?_ | refine ER.move rfl rfl rfl ?_ | refine ER.nilCheck rfl rfl rfl ?_ | refine ER.fieldAddr rfl rfl rfl ?_))
  refine ER.load1 rfl rfl rfl (r2.pout hbL) ?_
  (repeat (first | refine ER.move rfl rfl rfl ?_ | refine ER.add (kd := .i64) rfl rfl rfl rfl (i64_in (by omega) (by omega)) ?_))
  refine ER.callR rfl rfl rfl rfl rfl (pcas r2 (k := kOut b) hbL (vv (by omega)) hOb hS) ?_
  rintro _ h3 δ3 ⟨rfl, rfl, r3, u3⟩
  (repeat (first | refine EK.seq ?_ | refine EK.region ?_ | refine ER.done ?_ | refine EK.skip ?_ | refine ER.move rfl rfl rfl ?_ | refine ER.notB rfl rfl rfl ?_ | refine EK.condF rfl ?_))
  refine ER.callD rfl rfl rfl rfl rfl (at_ok r3 hbL hm he (by omega)) ?_
  (repeat (first | refine ER.nilCheck rfl rfl rfl ?_ | refine ER.fieldAddr rfl rfl rfl ?_))
  refine ER.load1 rfl rfl rfl (r3.pplace (t := 2) hbL hlt (by omega)) ?_
  (repeat refine ER.move rfl rfl rfl ?_)
  refine ER.callD rfl rfl rfl rfl rfl (pload r3 (k := kSlot b (oN b % G.m)) ⟨hbL, hlt⟩ (vv (by omega)) (ut_ne _ _ (by simp))) ?_
  (repeat (first | refine EK.seq ?_ | refine ER.done ?_ | refine ER.assign rfl rfl rfl ?_))
  have cP := r3.ppls hbL
  have cT := r3.pplace (t := 0) hbL hlt (by omega)
  refine EK.regionAny (fun h' => hcell h' ⟨G.B (kLev b), 2, none⟩ = some (.slice (some ⟨G.B (kPls b), 0, none⟩) G.m (G.capP b)) /\ hcell h' ⟨G.B (kPls b), 0 + (oN b % G.m) * 3 + 0, none⟩ = some (ptr (G.B (kTurn b (oN b % G.m))))) ?_
  have hZ := And.intro cP cT
  refine EA.tMove 0 rfl (by kernel_rfl) rfl rfl rfl rfl hZ ?_
  refine EA.tMove 1 rfl (by kernel_rfl) rfl rfl rfl rfl hZ ?_
  refine EA.tMove 6 rfl (by kernel_rfl) rfl rfl rfl rfl hZ ?_
  refine EA.tMove 7 rfl (by kernel_rfl) rfl rfl rfl rfl hZ ?_
  refine EA.tMove 8 rfl (by kernel_rfl) rfl rfl rfl rfl hZ ?_
  refine EA.tNil 9 rfl (by kernel_rfl) rfl rfl rfl rfl hZ ?_
  refine EA.tField 10 rfl (by kernel_rfl) rfl rfl rfl rfl hZ ?_
  refine EA.tLoad 11 rfl (by kernel_rfl) rfl rfl rfl rfl (fun _ hz => hz.1) hZ ?_
  refine EA.tLen1 12 rfl (by kernel_rfl) rfl rfl rfl rfl hZ ?_
  refine EA.tAdd (kd := .i64) 13 rfl (by kernel_rfl) rfl rfl rfl rfl rfl (i64_in (by omega) (by omega)) hZ ?_
  refine EA.callD 2 rfl (by kernel_rfl) rfl rfl rfl rfl rfl rfl (at_ok r3 hbL hm he (by omega)) hZ ?_
  refine EA.tNil 3 rfl (by kernel_rfl) rfl rfl rfl rfl hZ ?_
  refine EA.tField 4 rfl (by kernel_rfl) rfl rfl rfl rfl hZ ?_
  refine EA.tLoad 5 rfl (by kernel_rfl) rfl rfl rfl rfl (fun _ hz => hz.2) hZ ?_
  refine EA.callR 14 rfl (by kernel_rfl) rfl rfl rfl rfl rfl rfl (pstore r3 (k := kTurn b (oN b % G.m)) ⟨hbL, hlt⟩ (vv (by omega)) hS) ?_
  rintro _ h4 δ4 ⟨rfl, rfl, r4, u4⟩
  refine ⟨⟨r4.ppls hbL, r4.pplace (t := 0) hbL hlt (by omega)⟩, ?_⟩
  refine EA.done (by kernel_rfl) ?_
  (repeat (first | refine EK.seq ?_ | refine EK.region ?_ | refine ER.done ?_ | refine ER.move rfl rfl rfl ?_ | refine ER.assign rfl rfl rfl ?_ | refine EK.ret ?_))
  exact EU.ret3 rfl rfl rfl rfl ⟨rfl, rfl, r4, ((u2.mono (fun _ _ x => x.elim)).trans u3).trans u4⟩
end
end
section
open Go Go.TJ Go.Conc Go.Proofs
def pj (m : Nat) (p : Int) : Nat := (p % m).toNat
theorem pj_nat {m P : Nat} : pj m (P : Int) = P % m := by unfold pj; omega
theorem pj_lt {m : Nat} (hm : 0 < m) (p : Int) : pj m p < m := by
  have := Int.emod_nonneg p (by omega : (m : Int) ≠ 0)
  have := Int.emod_lt_of_pos p (by omega : 0 < (m : Int))
  unfold pj; omega
section
variable {A : Type}
def putP (G : PG) (i : Nat) (v : Int) (k : Int -> Pr A) : Nat -> Pr A
  | 0 => .done
  | f + 1 => .step ⟨1, G.B (kIn i), 0, 0⟩ fun p => .step ⟨1, G.B (kTurn i (pj G.m p)), 0, 0⟩ fun t =>
      if IntKind.i64.wrap (t - p) < 0 then k 12
      else if IntKind.i64.wrap (t - p) = 0 then .step ⟨3, G.B (kIn i), p, p + 1⟩ fun w =>
        if w = p then .step ⟨4, G.B kTk, 1, 0⟩ fun x => .step ⟨2, G.B (kTick i (pj G.m p)), x + 1, 0⟩ fun _ => .step ⟨2, G.B (kSlot i (pj G.m p)), v, 0⟩ fun _ => .step ⟨2, G.B (kTurn i (pj G.m p)), p + 1, 0⟩ fun _ => k 0
        else putP G i v k f
      else putP G i v k f
def looksP (G : PG) (K : (Nat -> Hd) -> Pr A) : Nat -> (Nat -> Hd) -> Pr A
  | 0, H => K H
  | n + 1, H => .step ⟨1, G.B (kOut n), 0, 0⟩ fun p => .step ⟨1, G.B (kTurn n (pj G.m p)), 0, 0⟩ fun t =>
      if t = p + 1 then .step ⟨1, G.B (kTick n (pj G.m p)), 0, 0⟩ fun x => looksP G K n (up H n (true, p, x)) else looksP G K n H
def gotP (G : PG) (k : Int -> Int -> Bool -> Pr A) (again : Pr A) (H : Nat -> Hd) (b : Nat) : Pr A :=
  .step ⟨3, G.B (kOut b), (H b).2.1, (H b).2.1 + 1⟩ fun w => if w = (H b).2.1 then .step ⟨1, G.B (kSlot b (pj G.m (H b).2.1)), 0, 0⟩ fun v => .step ⟨2, G.B (kTurn b (pj G.m (H b).2.1)), (H b).2.1 + G.m, 0⟩ fun _ => k v b true else again
def chooseP (G : PG) (k : Int -> Int -> Bool -> Pr A) (again : Pr A) (H : Nat -> Hd) : Pr A :=
  match bst H 8 with
  | none => k 0 0 false
  | some b => gotP G k again H b
def H0 : Nat -> Hd := fun _ => (false, 0, 0)
def takeP (G : PG) (k : Int -> Int -> Bool -> Pr A) : Nat -> Pr A
  | 0 => .done
  | f + 1 => looksP G (chooseP G k (takeP G k f)) G.L H0
end
def PriH (G : PG) (h : Hp) : Prop := ∀ k, okP G.L G.m k -> ¬ isV k -> h[G.B k]? = some (priO G (fun _ => 0) k)
theorem nv {a b c : Nat} (h : a < 4) : ¬ isV (a, b, c) := fun x => by have : 4 <= a := x; omega
section
variable {h : Hp} {G : PG}
theorem PriH.ptk (r : PriH G h) : hcell h ⟨G.B kTop, 0, none⟩ = some (ptr (G.B kTk)) := hcell_of (r kTop trivial (nv (by omega))) rfl
theorem PriH.plv (r : PriH G h) : hcell h ⟨G.B kTop, 1, none⟩ = some (.slice (some ⟨G.B kLvs, 0, none⟩) G.L G.capL) := hcell_of (r kTop trivial (nv (by omega))) rfl
theorem PriH.plev (r : PriH G h) {i : Nat} (hi : i < G.L) : hcell h ⟨G.B kLvs, 0 + i * 1, none⟩ = some (ptr (G.B (kLev i))) := hcell_of (r kLvs trivial (nv (by omega))) (by
  rw [show 0 + i * 1 = i by omega]
  simp [List.getElem?_append_left, hi])
theorem PriH.pin (r : PriH G h) {i : Nat} (hi : i < G.L) : hcell h ⟨G.B (kLev i), 0, none⟩ = some (ptr (G.B (kIn i))) := hcell_of (r (kLev i) hi (nv (by omega))) rfl
theorem PriH.pout (r : PriH G h) {i : Nat} (hi : i < G.L) : hcell h ⟨G.B (kLev i), 1, none⟩ = some (ptr (G.B (kOut i))) := hcell_of (r (kLev i) hi (nv (by omega))) rfl
theorem PriH.ppls (r : PriH G h) {i : Nat} (hi : i < G.L) : hcell h ⟨G.B (kLev i), 2, none⟩ = some (.slice (some ⟨G.B (kPls i), 0, none⟩) G.m (G.capP i)) := hcell_of (r (kLev i) hi (nv (by omega))) rfl
theorem PriH.pplace (r : PriH G h) {i j t : Nat} (hi : i < G.L) (hj : j < G.m) (ht : t < 3) : hcell h ⟨G.B (kPls i), 0 + j * 3 + t, none⟩ = some (ptr (G.B (7 + t, i + 1, j))) := hcell_of (r (kPls i) hi (nv (by omega))) (by
  have hlen : ((List.range G.m).flatMap fun j => [ptr (G.B (kTurn i j)), ptr (G.B (kTick i j)), ptr (G.B (kSlot i j))])[j * 3 + t]? = some (ptr (G.B (7 + t, i + 1, j))) := flat3_get hj t ht
  rw [show 0 + j * 3 + t = j * 3 + t by omega]
  simp only [List.getElem?_toArray]
  rw [List.getElem?_append_left (by rcases Nat.lt_or_ge (j * 3 + t) ((List.range G.m).flatMap fun j => [ptr (G.B (kTurn i j)), ptr (G.B (kTick i j)), ptr (G.B (kSlot i j))]).length with x | x
                                    · exact x
                                    · rw [List.getElem?_eq_none x] at hlen; cases hlen)]
  exact hlen)
end
def isB (k : Key) : Prop := k.1 = 4 \/ k.1 = 5 \/ k.1 = 6 \/ k.1 = 8
structure JPr (G : PG) (l : List Ev) (v : Nat -> Int) : Prop where
  tk : 0 <= v (G.B kTk) /\ v (G.B kTk) <= l.length
  inn : ∀ i, i < G.L -> 0 <= v (G.B (kIn i)) /\ v (G.B (kIn i)) <= l.length
  out : ∀ i, i < G.L -> 0 <= v (G.B (kOut i)) /\ v (G.B (kOut i)) <= l.length
  ti : ∀ i j, i < G.L -> j < G.m -> 0 <= v (G.B (kTick i j)) /\ v (G.B (kTick i j)) <= 70000
  lg : ∀ e, e ∈ l -> (∃ k, okP G.L G.m k /\ isB k /\ e.b = G.B k) -> 0 <= e.was /\ e.was <= 70000
def FinePr (G : PG) (r : Rq) : Prop :=
  r.op = 1 \/ (r.op = 3 /\ r.new = r.arg + 1 /\ ∃ i, i < G.L /\ (r.b = G.B (kIn i) \/ r.b = G.B (kOut i))) \/ (r.op = 4 /\ r.b = G.B kTk /\ r.arg = 1) \/
    (r.op = 2 /\ 0 <= r.arg /\ r.arg <= 70000 /\ ∃ i j, i < G.L /\ j < G.m /\ r.b = G.B (kTick i j)) \/ (r.op = 2 /\ ∃ i j, i < G.L /\ j < G.m /\ (r.b = G.B (kTurn i j) \/ r.b = G.B (kSlot i j)))
theorem okP_key {L m : Nat} {k : Key} (hk : okP L m k) (hb : isB k) : k = kTk \/ (∃ i, i < L /\ k = kIn i) \/ (∃ i, i < L /\ k = kOut i) \/ ∃ i j, i < L /\ j < m /\ k = kTick i j := by
  obtain ⟨a, b, c⟩ := k
  have hb' : a = 4 \/ a = 5 \/ a = 6 \/ a = 8 := hb
  rcases hb' with rfl | rfl | rfl | rfl
  · rcases b with _ | b <;> rcases c with _ | c
    · exact .inl rfl
    · exact hk.elim
    · exact hk.elim
    · exact hk.elim
  · rcases b with _ | b <;> rcases c with _ | c
    · exact hk.elim
    · exact hk.elim
    · exact .inr (.inl ⟨b, hk, rfl⟩)
    · exact hk.elim
  · rcases b with _ | b <;> rcases c with _ | c
    · exact hk.elim
    · exact hk.elim
    · exact .inr (.inr (.inl ⟨b, hk, rfl⟩))
    · exact hk.elim
  · rcases b with _ | b
    · exact hk.elim
    · exact .inr (.inr (.inr ⟨b, c, hk.1, hk.2, rfl⟩))
theorem JPr.bnd {G : PG} {l : List Ev} {v : Nat -> Int} (J : JPr G l v) (hl : l.length < 65536) {k : Key} (hk : okP G.L G.m k) (hb : isB k) : 0 <= v (G.B k) /\ v (G.B k) <= 70000 := by
  rcases okP_key hk hb with rfl | ⟨i, hi, rfl⟩ | ⟨i, hi, rfl⟩ | ⟨i, j, hi, hj, rfl⟩
  · have := J.tk; omega
  · have := J.inn i hi; omega
  · have := J.out i hi; omega
  · exact J.ti i j hi hj
theorem JPr.fine {G : PG} {l : List Ev} {v : Nat -> Int} {r : Rq} {n : Nat} (inj : ∀ j k, okP G.L G.m j -> okP G.L G.m k -> G.B j = G.B k -> j = k) (J : JPr G l v) (hl : l.length < 65536) (f : FinePr G r) : JPr G (l ++ [evOf n r (v r.b)]) (ut v r.b (behind r.op (v r.b) r.arg r.new).1) := by
  have hlg : ∀ e, e ∈ l ++ [evOf n r (v r.b)] -> (∃ k, okP G.L G.m k /\ isB k /\ e.b = G.B k) -> 0 <= e.was /\ e.was <= 70000 := fun e he ⟨k, h1, h2, h3⟩ => by
    rcases List.mem_append.1 he with he | he
    · exact J.lg e he ⟨k, h1, h2, h3⟩
    · obtain rfl := List.mem_singleton.1 he
      have h3' : r.b = G.B k := h3
      show 0 <= v r.b /\ v r.b <= 70000
      rw [h3']
      exact J.bnd hl h1 h2
  have hlen : (l ++ [evOf n r (v r.b)]).length = l.length + 1 := by simp
  have up1 : ∀ x : Int, 0 <= x /\ x <= l.length -> 0 <= x /\ x <= ((l ++ [evOf n r (v r.b)]).length : Nat) := fun x hx => by rw [hlen]; omega
  rcases f with f | ⟨f, hn, i, hi, hb⟩ | ⟨f, hb, ha⟩ | ⟨f, h0, h1, i, j, hi, hj, hb⟩ | ⟨f, i, j, hi, hj, hb⟩
  · have : (behind r.op (v r.b) r.arg r.new).1 = v r.b := by rw [f]; rfl
    rw [this, ut_self]
    exact ⟨up1 _ J.tk, fun i hi => up1 _ (J.inn i hi), fun i hi => up1 _ (J.out i hi), J.ti, hlg⟩
  · have e : (behind r.op (v r.b) r.arg r.new).1 = if v r.b = r.arg then r.arg + 1 else v r.b := by rw [f]; unfold behind; by_cases h : v r.b = r.arg <;> simp [h, hn]
    have hx : 0 <= v r.b /\ v r.b <= l.length := by
      rcases hb with hb | hb
      · rw [hb]; exact J.inn i hi
      · rw [hb]; exact J.out i hi
    have hy : 0 <= (behind r.op (v r.b) r.arg r.new).1 /\ (behind r.op (v r.b) r.arg r.new).1 <= ((l ++ [evOf n r (v r.b)]).length : Nat) := by
      rw [e, hlen]
      split <;> omega
    have key : ∀ k, okP G.L G.m k -> (0 <= v (G.B k) /\ v (G.B k) <= l.length) -> 0 <= ut v r.b (behind r.op (v r.b) r.arg r.new).1 (G.B k) /\ ut v r.b (behind r.op (v r.b) r.arg r.new).1 (G.B k) <= ((l ++ [evOf n r (v r.b)]).length : Nat) := fun k hk hv => by
      by_cases e2 : G.B k = r.b
      · rw [e2, ut_same]; exact hy
      · rw [ut_ne _ _ e2]; exact up1 _ hv
    refine ⟨key kTk trivial J.tk, fun i hi => key (kIn i) hi (J.inn i hi), fun i hi => key (kOut i) hi (J.out i hi), fun i' j hi' hj => ?_, hlg⟩
    rw [ut_ne _ _ (fun e2 => ?_)]
    · exact J.ti i' j hi' hj
    · rcases hb with hb | hb
      · have := inj (kTick i' j) (kIn i) ⟨hi', hj⟩ hi (e2.trans hb); simp at this
      · have := inj (kTick i' j) (kOut i) ⟨hi', hj⟩ hi (e2.trans hb); simp at this
  · have e : (behind r.op (v r.b) r.arg r.new).1 = v r.b + 1 := by
      have hx := J.tk
      rw [<- hb] at hx
      rw [f, ha]
      exact i64_in (by omega) (by omega)
    rw [e]
    refine ⟨?_, fun i hi => ?_, fun i hi => ?_, fun i j hi hj => ?_, hlg⟩
    · rw [hlen, hb, ut_same]; have := J.tk; omega
    · rw [ut_ne _ _ (fun e2 => by have := inj (kIn i) kTk hi trivial (e2.trans hb); simp at this)]; exact up1 _ (J.inn i hi)
    · rw [ut_ne _ _ (fun e2 => by have := inj (kOut i) kTk hi trivial (e2.trans hb); simp at this)]; exact up1 _ (J.out i hi)
    · rw [ut_ne _ _ (fun e2 => by have := inj (kTick i j) kTk ⟨hi, hj⟩ trivial (e2.trans hb); simp at this)]; exact J.ti i j hi hj
  · have e : (behind r.op (v r.b) r.arg r.new).1 = r.arg := by rw [f]; rfl
    rw [e]
    refine ⟨?_, fun i' hi' => ?_, fun i' hi' => ?_, fun i' j' hi' hj' => ?_, hlg⟩
    · rw [ut_ne _ _ (fun e2 => by have := inj kTk (kTick i j) trivial ⟨hi, hj⟩ (e2.trans hb); simp at this)]; exact up1 _ J.tk
    · rw [ut_ne _ _ (fun e2 => by have := inj (kIn i') (kTick i j) hi' ⟨hi, hj⟩ (e2.trans hb); simp at this)]; exact up1 _ (J.inn i' hi')
    · rw [ut_ne _ _ (fun e2 => by have := inj (kOut i') (kTick i j) hi' ⟨hi, hj⟩ (e2.trans hb); simp at this)]; exact up1 _ (J.out i' hi')
    · by_cases e2 : G.B (kTick i' j') = r.b
      · rw [e2, ut_same]; exact ⟨h0, h1⟩
      · rw [ut_ne _ _ e2]; exact J.ti i' j' hi' hj'
  · have e : (behind r.op (v r.b) r.arg r.new).1 = r.arg := by rw [f]; rfl
    rw [e]
    have key : ∀ k, okP G.L G.m k -> k.1 < 7 \/ k.1 = 8 -> G.B k ≠ r.b := fun k hk h7 e2 => by
      rcases hb with hb | hb
      · have := inj k (kTurn i j) hk ⟨hi, hj⟩ (e2.trans hb); rw [this] at h7; have h7' : (7 : Nat) < 7 \/ (7 : Nat) = 8 := h7; omega
      · have := inj k (kSlot i j) hk ⟨hi, hj⟩ (e2.trans hb); rw [this] at h7; have h7' : (9 : Nat) < 7 \/ (9 : Nat) = 8 := h7; omega
    refine ⟨?_, fun i' hi' => ?_, fun i' hi' => ?_, fun i' j' hi' hj' => ?_, hlg⟩
    · rw [ut_ne _ _ (key kTk trivial (.inl (by decide)))]; exact up1 _ J.tk
    · rw [ut_ne _ _ (key (kIn i') hi' (.inl (show 5 < 7 by decide)))]; exact up1 _ (J.inn i' hi')
    · rw [ut_ne _ _ (key (kOut i') hi' (.inl (show 6 < 7 by decide)))]; exact up1 _ (J.out i' hi')
    · rw [ut_ne _ _ (key (kTick i' j') ⟨hi', hj'⟩ (.inr rfl))]; exact J.ti i' j' hi' hj'
end
section
open Go Go.TJ Go.Conc Go.Proofs
section
variable {Γ : Type} {main : Bool} {S : Sit Γ} {δ : Ix Γ} {h : Hp} {G : PG}
set_option maxRecDepth 8000 in
set_option maxHeartbeats 1000000 in
theorem pat_T {i e : Nat} {p : Int} (r : PriH G h) (hi : i < G.L) (hm : G.m = 2 ^ e) (he : e <= 12) (hp : 0 <= p /\ p <= 70000) :
    CallW Try.prog main S 126 #[ptr (G.B (kLev i)), .int .i64 p] h δ (Ret (Det (.pointer (some ⟨G.B (kPls i), 0 + (pj G.m p) * 3, none⟩)) h δ)) := by
  obtain ⟨P, rfl⟩ : ∃ P : Nat, p = P := ⟨p.toNat, by omega⟩
  have hm0 : 0 < G.m := by rw [hm]; exact Nat.two_pow_pos e
  have hm1 : G.m <= 4096 := by have := Nat.pow_le_pow_right (n := 2) (by decide) he; omega
  have hlt : P % G.m < G.m := Nat.mod_lt _ hm0
  rw [pj_nat]
  refine CallW.start (n := 18) rfl rfl ?_
  (repeat (first | refine EK.seq ?_ | refine EK.region ?_ | refine ER.done ?_ | refine ER.assign rfl rfl rfl ?_))
  refine EK.regionAny (fun h' => h' = h) ?_
  have hZ : h = h := rfl
  have hc := r.ppls hi
  refine EA.tMove 0 rfl (by kernel_rfl) rfl rfl rfl rfl hZ ?_
  refine EA.tNil 1 rfl (by kernel_rfl) rfl rfl rfl rfl hZ ?_
  refine EA.tField 2 rfl (by kernel_rfl) rfl rfl rfl rfl hZ ?_
  refine EA.tLoad 3 rfl (by kernel_rfl) rfl rfl rfl rfl (fun _ hz => hz ▸ hc) hZ ?_
  refine EA.tMove 4 rfl (by kernel_rfl) rfl rfl rfl rfl hZ ?_
  refine EA.tMove 5 rfl (by kernel_rfl) rfl rfl rfl rfl hZ ?_
  refine EA.tNil 6 rfl (by kernel_rfl) rfl rfl rfl rfl hZ ?_
  refine EA.tField 7 rfl (by kernel_rfl) rfl rfl rfl rfl hZ ?_
  refine EA.tLoad 8 rfl (by kernel_rfl) rfl rfl rfl rfl (fun _ hz => hz ▸ hc) hZ ?_
  refine EA.tLen1 9 rfl (by kernel_rfl) rfl rfl rfl rfl hZ ?_
  refine EA.tSub (kd := .i64) 10 rfl (by kernel_rfl) rfl rfl rfl rfl rfl (i64_in (by omega) (by omega)) hZ ?_
  refine EA.tBinI (kd := .i64) (v := .int .i64 ((P % G.m : Nat) : Int)) 11 rfl (by kernel_rfl) rfl rfl rfl rfl rfl (by rw [binOp_bits (.inl rfl), mask hm (by omega) (by omega)]) hZ ?_
  refine EA.tIdxS 12 rfl (by kernel_rfl) rfl rfl rfl rfl rfl (by omega) (by omega) hZ ?_
  refine EA.tAssign 13 rfl (by kernel_rfl) rfl rfl rfl rfl hZ ?_
  refine EA.done (by kernel_rfl) ?_
  (repeat refine EK.ret ?_)
  exact EU.ret1 rfl rfl det
end
structure PriK (X : Us) (e : Nat) (G : PG) : Prop where
  cell : ∀ k, okP G.L G.m k -> isV k -> X.isC (G.B k)
  hm : G.m = 2 ^ e
  he : e <= 12
  hL1 : 1 <= G.L
  hL : G.L <= 8
theorem PriK.m0 {X : Us} {e : Nat} {G : PG} (D : PriK X e G) : 0 < G.m := by rw [D.hm]; exact Nat.two_pow_pos e
section
variable {X : Us} {A : Type} {P : Nat -> Pr A} {told : X.U -> Nat -> List A} {G : PG} {e : Nat} {i : Nat} {γ γ' : GG X} {u : X.U} {L : List (Nat × Obj)} {h : Hp} {t : Nat}
set_option maxRecDepth 8000 in
set_option maxHeartbeats 8000000 in
theorem claim_T (K : CodX X P told (FinePr G) (JPr G) (PriH G)) (D : PriK X e G) {l : Nat} (hl : l < G.L) {v : Int} {k : Int -> Pr A} {f : Nat} (a : AtP X P told i γ u L h (putP G l v k f)) (hf : 65536 < f + (ownOf i (γ.p.acc i).log).length) (ht : t = γ.p.tb i) :
    CallW Try.prog false (SitT Try.prog (PX X) (i + 1)) 127 #[ptr (G.B (kLev l)), ptr t] h ⟨0, γ⟩ (RetP (fun w h' δ' => ∃ (γ' : GG X), δ' = ⟨0, γ'⟩ /\
      ((w = .tuple #[.int .i64 0, .bool false] /\ Nxt X P told i γ u L γ' h' (k 12)) \/ ∃ p, 0 <= p /\ p <= 70000 /\ w = .tuple #[.int .i64 p, .bool true] /\
        Nxt X P told i γ u L γ' h' (.step ⟨4, G.B kTk, 1, 0⟩ fun x => .step ⟨2, G.B (kTick l (pj G.m p)), x + 1, 0⟩ fun _ => .step ⟨2, G.B (kSlot l (pj G.m p)), v, 0⟩ fun _ => .step ⟨2, G.B (kTurn l (pj G.m p)), p + 1, 0⟩ fun _ => k 0))) (Halt X i γ.p)) := by
  subst ht
  have hm0 := D.m0
  refine CallW.start (n := 42) rfl rfl ?_
  (repeat (first | refine EK.seq ?_ | refine EK.region ?_ | refine ER.done ?_ | refine EK.block ?_ | refine ER.assign rfl rfl rfl ?_))
  refine EK.loopInv (fun _ : GG X × X.U × Nat => [(0, ptr (G.B (kLev l))), (1, ptr (γ.p.tb i))]) (fun q h' δ' => δ' = ⟨0, q.1⟩ /\ AtP X P told i q.1 q.2.1 L h' (putP G l v k q.2.2) /\ Along X i γ.p q.1.p /\ X.V i u q.2.1 /\ (ownOf i (γ.p.acc i).log).length <= (ownOf i (q.1.p.acc i).log).length /\ 65536 < q.2.2 + (ownOf i (q.1.p.acc i).log).length) (fun q => q.2.2) (γ, u, f) ⟨rfl, rfl, trivial⟩ ⟨rfl, a, Along.refl _ _, K.ok.vrefl _ _, Nat.le_refl _, hf⟩ ?_
  clear a hf
  rintro ⟨γ1, u1, f1⟩ h1 δ1 ⟨hδ, a, al, hV, hle, hf1⟩ again
  dsimp only at a al hV hle hf1 again hδ ⊢
  subst hδ
  have hl1 := a.len
  obtain ⟨f2, rfl⟩ : ∃ f2, f1 = f2 + 1 := ⟨f1 - 1, by omega⟩
  have s1 := K.mem _ _ a.thr.I
  have c1 := s1.pin hl
  (repeat (first | refine EK.seq ?_ | refine EK.region ?_ | refine EK.block ?_ | refine ER.move rfl rfl rfl ?_ | refine ER.nilCheck rfl rfl rfl ?_ | refine ER.fieldAddr rfl rfl rfl ?_ | refine ER.load1 rfl rfl rfl (by assumption) ?_))
  refine ER.callP rfl rfl rfl rfl rfl (loadC K a (.inl rfl) (D.cell (kIn l) hl (vv (by omega))) al.tb.symm) (fun _ _ _ y => y.along al) ?_
  rintro _ hh δ3 ⟨γ3, rfl, rfl, nx, s3, j3, l3⟩
  have hp := j3.bnd l3 (k := kIn l) hl (.inr (.inl rfl))
  generalize γ3.p.val (G.B (kIn l)) = p at nx hp ⊢
  have hlt := pj_lt hm0 p
  clear c1 s1
  have al3 := al.trans nx.al
  (repeat (first | refine EK.seq ?_ | refine EK.region ?_ | refine ER.done ?_ | refine ER.move rfl rfl rfl ?_ | refine ER.assign rfl rfl rfl ?_))
  refine ER.callD rfl rfl rfl rfl rfl (pat_T s3 hl D.hm D.he hp) ?_
  (repeat (first | refine ER.nilCheck rfl rfl rfl ?_ | refine ER.fieldAddr rfl rfl rfl ?_))
  refine ER.load1 rfl rfl rfl (s3.pplace (t := 0) hl hlt (by omega)) ?_
  (repeat refine ER.move rfl rfl rfl ?_)
  refine ER.callP rfl rfl rfl rfl rfl (loadC K nx.at_ (.inl rfl) (D.cell (kTurn l (pj G.m p)) ⟨hl, hlt⟩ (vv (by omega))) al3.tb.symm) (fun _ _ _ y => y.along al3) ?_
  rintro _ hh δ3 ⟨γ4, rfl, rfl, nx3, s4, j4, l4⟩
  replace nx := nx.trans K.ok nx3
  clear nx3 j3 l3 s3 al3
  generalize γ4.p.val (G.B (7 + 0, l + 1, pj G.m p)) = tn at nx ⊢
  have al4 := al.trans nx.al
  have hle4 := nx.len
  (repeat refine ER.move rfl rfl rfl ?_)
  refine ER.sub' (r := IntKind.i64.wrap (tn - p)) rfl rfl rfl rfl rfl ?_
  by_cases h0 : IntKind.i64.wrap (tn - p) < 0
  · rw [if_pos h0] at nx
    (repeat (first | refine EK.seq ?_ | refine EK.region ?_ | refine ER.done ?_ | refine EK.block ?_ | refine ER.move rfl rfl rfl ?_ | refine ER.assign rfl rfl rfl ?_ | refine ER.cmpT rfl rfl rfl rfl rfl (by first | (dsimp only [cmpP]; omega) | exact rfl | exact Int.le_refl _) ?_ | refine EK.condT rfl ?_ | refine EK.ret ?_))
    exact EU.ret2 rfl rfl rfl ⟨γ4, rfl, .inl ⟨rfl, al4, nx.at_, K.ok.vtrans _ _ _ _ hV nx.V, Nat.lt_of_le_of_lt hle nx.len⟩⟩
  · rw [if_neg h0] at nx
    by_cases h2 : IntKind.i64.wrap (tn - p) = 0
    · rw [if_pos h2] at nx
      have c1 := s4.pin hl
      rw [h2]
      (repeat (first | refine EK.seq ?_ | refine EK.region ?_ | refine ER.done ?_ | refine EK.block ?_ | refine ER.move rfl rfl rfl ?_ | refine ER.assign rfl rfl rfl ?_ | refine ER.nilCheck rfl rfl rfl ?_ | refine ER.fieldAddr rfl rfl rfl ?_ | refine ER.cmpT rfl rfl rfl rfl rfl (by first | (dsimp only [cmpP]; omega) | exact rfl | exact Int.le_refl _) ?_ | refine ER.cmpF rfl rfl rfl rfl rfl (by first | (dsimp only [cmpP]; omega) | exact rfl | exact Int.le_refl _) ?_ | refine ER.add (kd := .i64) rfl rfl rfl rfl (i64_in (by omega) (by omega)) ?_ | refine EK.condF rfl ?_ | refine ER.load1 rfl rfl rfl (by assumption) ?_))
      refine ER.callP rfl rfl rfl rfl rfl (casC K nx.at_ (.inr (.inl ⟨rfl, rfl, l, hl, .inl rfl⟩)) (D.cell (kIn l) hl (vv (by omega))) al4.tb.symm) (fun _ _ _ y => y.along al4) ?_
      rintro _ hh δ3 ⟨γ5, rfl, rfl, nx3, s5, j5, l5⟩
      replace nx := nx.trans K.ok nx3
      clear nx3 c1
      have al5 := al.trans nx.al
      have hle5 := nx.len
      by_cases hw : γ5.p.val (G.B (kIn l)) = p
      · rw [if_pos hw] at nx
        rw [decide_eq_true hw]
        (repeat (first | refine EK.seq ?_ | refine EK.region ?_ | refine ER.done ?_ | refine ER.move rfl rfl rfl ?_ | refine ER.assign rfl rfl rfl ?_ | refine ER.pickT rfl rfl rfl rfl ?_ | refine EK.condT rfl ?_ | refine EK.ret ?_))
        exact EU.ret2 rfl rfl rfl ⟨γ5, rfl, .inr ⟨p, hp.1, hp.2, rfl, al5, nx.at_, K.ok.vtrans _ _ _ _ hV nx.V, Nat.lt_of_le_of_lt hle nx.len⟩⟩
      · rw [if_neg hw] at nx
        rw [decide_eq_false hw]
        (repeat (first | refine ER.done ?_ | refine EK.skip ?_ | refine EK.inBlock ?_ | refine ER.assign rfl rfl rfl ?_ | refine ER.pickT rfl rfl rfl rfl ?_ | refine EK.condF rfl ?_))
        exact EK.back (again (γ5, γ5.p.u, f2) _ _ (by dsimp only; omega) ⟨rfl, nx.at_, al5, K.ok.vtrans _ _ _ _ hV nx.V, by dsimp only; omega, by dsimp only; omega⟩) ⟨rfl, rfl, trivial⟩
    · rw [if_neg h2] at nx
      generalize IntKind.i64.wrap (tn - p) = dd at h0 h2 ⊢
      (repeat (first | refine EK.seq ?_ | refine EK.region ?_ | refine ER.done ?_ | refine EK.skip ?_ | refine EK.block ?_ | refine EK.inBlock ?_ | refine ER.move rfl rfl rfl ?_ | refine ER.assign rfl rfl rfl ?_ | refine ER.no rfl rfl ?_ | refine ER.pickF rfl rfl rfl rfl ?_ | refine ER.cmpF rfl rfl rfl rfl rfl (by first | (dsimp only [cmpP]; omega) | exact rfl | exact Int.le_refl _) ?_ | refine EK.condF rfl ?_))
      exact EK.back (again (γ4, γ4.p.u, f2) _ _ (by dsimp only; omega) ⟨rfl, nx.at_, al4, K.ok.vtrans _ _ _ _ hV nx.V, by dsimp only; omega, by dsimp only; omega⟩) ⟨rfl, rfl, trivial⟩
set_option maxRecDepth 8000 in
set_option maxHeartbeats 8000000 in
theorem put_T (K : CodX X P told (FinePr G) (JPr G) (PriH G)) (D : PriK X e G) {l : Nat} (hl : l < G.L) {v : Int} {k : Int -> Pr A} {f : Nat} (a : AtP X P told i γ u L h (putP G l v k f)) (hf : 65536 < f + (ownOf i (γ.p.acc i).log).length) (ht : t = γ.p.tb i) :
    CallW Try.prog false (SitT Try.prog (PX X) (i + 1)) 63 #[ptr (G.B kTop), ptr t, .int .i64 l, .int .i64 v] h ⟨0, γ⟩ (RetP (fun w h' δ' => ∃ (γ' : GG X) (e : Int), δ' = ⟨0, γ'⟩ /\ w = .int .i64 e /\ Nxt X P told i γ u L γ' h' (k e)) (Halt X i γ.p)) := by
  subst ht
  have hm0 := D.m0
  have s0 := K.mem _ _ a.thr.I
  have c1 := s0.ptk
  have c2 := s0.plv
  refine CallW.start (n := 87) rfl rfl ?_
  (repeat (first | refine EK.seq ?_ | refine EK.region ?_ | refine ER.done ?_ | refine EK.skip ?_ | refine ER.move rfl rfl rfl ?_ | refine ER.assign rfl rfl rfl ?_ | refine ER.nilCheck rfl rfl rfl ?_ | refine ER.fieldAddr rfl rfl rfl ?_ | refine ER.eqV rfl rfl rfl rfl rfl ?_ | refine ER.pickF rfl rfl rfl rfl ?_ | refine ER.cmpF rfl rfl rfl rfl rfl (by first | (dsimp only [cmpP]; omega) | exact rfl | exact Int.le_refl _) ?_ | refine ER.len1 rfl rfl rfl ?_ | refine ER.indexSl rfl rfl rfl rfl (by omega) (by omega) ?_ | refine EK.condF rfl ?_ | refine ER.load1 rfl rfl rfl (by assumption) ?_))
  refine ER.load1 rfl rfl rfl (s0.plev hl) ?_
  refine ER.makeF rfl rfl rfl rfl rfl rfl ?_
  (repeat (first | refine EK.seq ?_ | refine EK.region ?_ | refine ER.done ?_ | refine ER.move rfl rfl rfl ?_ | refine ER.assign rfl rfl rfl ?_))
  refine ER.callP rfl rfl rfl rfl rfl (claim_T K D hl a hf rfl) (fun _ _ _ y => y) ?_
  clear a hf s0 c1 c2
  rintro _ h1 δ1 ⟨γ1, rfl, ⟨rfl, nx⟩ | ⟨p, p0, p1, rfl, nx⟩⟩
  · (repeat (first | refine EK.seq ?_ | refine EK.region ?_ | refine ER.done ?_ | refine ER.move rfl rfl rfl ?_ | refine ER.assign rfl rfl rfl ?_ | refine ER.notB rfl rfl rfl ?_ | refine ER.extract rfl rfl rfl rfl ?_ | refine EK.condT rfl ?_ | refine EK.ret ?_))
    exact EU.ret1 rfl rfl ⟨γ1, 12, rfl, rfl, nx⟩
  · have s1 := K.mem _ _ nx.at_.thr.I
    have c1 := s1.ptk
    have c2 := s1.plv
    have hlt := pj_lt hm0 p
    (repeat (first | refine EK.seq ?_ | refine EK.region ?_ | refine ER.done ?_ | refine EK.skip ?_ | refine ER.move rfl rfl rfl ?_ | refine ER.assign rfl rfl rfl ?_ | refine ER.nilCheck rfl rfl rfl ?_ | refine ER.fieldAddr rfl rfl rfl ?_ | refine ER.notB rfl rfl rfl ?_ | refine ER.extract rfl rfl rfl rfl ?_ | refine ER.indexSl rfl rfl rfl rfl (by omega) (by omega) ?_ | refine EK.condF rfl ?_ | refine ER.load1 rfl rfl rfl (by assumption) ?_))
    refine ER.load1 rfl rfl rfl (s1.plev hl) ?_
    (repeat refine ER.move rfl rfl rfl ?_)
    refine ER.callD rfl rfl rfl rfl rfl (pat_T s1 hl D.hm D.he ⟨p0, p1⟩) ?_
    (repeat (first | refine EK.seq ?_ | refine EK.region ?_ | refine ER.done ?_ | refine ER.move rfl rfl rfl ?_ | refine ER.assign rfl rfl rfl ?_ | refine ER.nilCheck rfl rfl rfl ?_ | refine ER.fieldAddr rfl rfl rfl ?_ | refine ER.load1 rfl rfl rfl (by assumption) ?_))
    refine ER.callP rfl rfl rfl rfl rfl (addC K nx.at_ (.inr (.inr (.inl ⟨rfl, rfl, rfl⟩))) (D.cell kTk trivial (vv (by omega))) nx.al.tb.symm) (fun _ _ _ y => y.along nx.al) ?_
    rintro _ hh δ3 ⟨γ3, rfl, rfl, nx3, s3, j3, l3⟩
    replace nx := nx.trans K.ok nx3
    clear nx3
    have hx := j3.bnd l3 (k := kTk) trivial (.inl rfl)
    have hx1 := j3.tk.2
    generalize γ3.p.val (G.B kTk) = x at nx hx hx1 ⊢
    have ex : IntKind.i64.wrap (x + 1) = x + 1 := i64_in (by omega) (by omega)
    rw [ex]
    clear c1 c2 s1
    (repeat (first | refine EK.seq ?_ | refine EK.region ?_ | refine ER.done ?_ | refine ER.move rfl rfl rfl ?_ | refine ER.assign rfl rfl rfl ?_ | refine ER.nilCheck rfl rfl rfl ?_ | refine ER.fieldAddr rfl rfl rfl ?_))
    refine ER.load1 rfl rfl rfl (s3.pplace (t := 1) hl hlt (by omega)) ?_
    (repeat refine ER.move rfl rfl rfl ?_)
    refine ER.callP rfl rfl rfl rfl rfl (storeC K nx.at_ (.inr (.inr (.inr (.inl ⟨rfl, show 0 <= x + 1 by omega, show x + 1 <= 70000 by omega, l, _, hl, hlt, rfl⟩)))) (D.cell (kTick l (pj G.m p)) ⟨hl, hlt⟩ (vv (by omega))) nx.al.tb.symm) (fun _ _ _ y => y.along nx.al) ?_
    rintro _ hh δ3 ⟨γ3, rfl, rfl, nx3, s3, j3, l3⟩
    replace nx := nx.trans K.ok nx3
    clear nx3
    (repeat (first | refine EK.seq ?_ | refine EK.region ?_ | refine ER.done ?_ | refine ER.move rfl rfl rfl ?_ | refine ER.nilCheck rfl rfl rfl ?_ | refine ER.fieldAddr rfl rfl rfl ?_))
    refine ER.load1 rfl rfl rfl (s3.pplace (t := 2) hl hlt (by omega)) ?_
    (repeat refine ER.move rfl rfl rfl ?_)
    refine ER.callP rfl rfl rfl rfl rfl (storeC K nx.at_ (.inr (.inr (.inr (.inr ⟨rfl, l, _, hl, hlt, .inr rfl⟩)))) (D.cell (kSlot l (pj G.m p)) ⟨hl, hlt⟩ (vv (by omega))) nx.al.tb.symm) (fun _ _ _ y => y.along nx.al) ?_
    rintro _ hh δ3 ⟨γ3, rfl, rfl, nx3, s3, j3, l3⟩
    replace nx := nx.trans K.ok nx3
    clear nx3
    (repeat (first | refine EK.seq ?_ | refine EK.region ?_ | refine ER.done ?_ | refine ER.move rfl rfl rfl ?_ | refine ER.nilCheck rfl rfl rfl ?_ | refine ER.fieldAddr rfl rfl rfl ?_))
    refine ER.load1 rfl rfl rfl (s3.pplace (t := 0) hl hlt (by omega)) ?_
    (repeat (first | refine ER.move rfl rfl rfl ?_ | refine ER.add (kd := .i64) rfl rfl rfl rfl (i64_in (by omega) (by omega)) ?_))
    refine ER.callP rfl rfl rfl rfl rfl (storeC K nx.at_ (.inr (.inr (.inr (.inr ⟨rfl, l, _, hl, hlt, .inl rfl⟩)))) (D.cell (kTurn l (pj G.m p)) ⟨hl, hlt⟩ (vv (by omega))) nx.al.tb.symm) (fun _ _ _ y => y.along nx.al) ?_
    rintro _ hh δ3 ⟨γ3, rfl, rfl, nx3, s3, j3, l3⟩
    replace nx := nx.trans K.ok nx3
    clear nx3
    (repeat (first | refine EK.seq ?_ | refine EK.region ?_ | refine ER.done ?_ | refine ER.assign rfl rfl rfl ?_ | refine EK.ret ?_))
    exact EU.ret1 rfl rfl ⟨γ3, 0, rfl, rfl, nx⟩
end
end
section
open Go Go.TJ Go.Conc Go.Proofs
theorem heads_set {h : Hp} {y : Nat} {H : Nat -> Hd} (hy : h[y]? = some (headsO H)) {i : Nat} (hi : i < 8) (x : Hd) : hsetRow h y (0 + i * 3) (hrowH x) = h.setIfInBounds y (headsO (up H i x)) := by
  unfold headsO at hy ⊢
  rw [hsetRow_block (hrowH x) _ _ _ hy (by rw [cellsH_len]; show 0 + i * 3 + 3 <= 24; omega), Nat.zero_add]
  rw [<- cellsH_set H hi x]
  rfl
def Sml (H : Nat -> Hd) : Prop := ∀ q, 0 <= (H q).2.1 /\ (H q).2.1 <= 70000 /\ 0 <= (H q).2.2 /\ (H q).2.2 <= 70000
theorem Sml.up {H : Nat -> Hd} (s : Sml H) {n : Nat} {p x : Int} (hp : 0 <= p /\ p <= 70000) (hx : 0 <= x /\ x <= 70000) : Sml (Go.TJ.up H n (true, p, x)) := fun q => by
  by_cases e : q = n
  · subst e; rw [up_same]; exact ⟨hp.1, hp.2, hx.1, hx.2⟩
  · rw [up_ne _ _ e]; exact s q
theorem sml0 : Sml H0 := fun q => ⟨by show (0 : Int) <= 0; omega, by show (0 : Int) <= 70000; omega, by show (0 : Int) <= 0; omega, by show (0 : Int) <= 70000; omega⟩
section
variable {X : Us} {A : Type} {P : Nat -> Pr A} {told : X.U -> Nat -> List A} {G : PG} {e : Nat} {i : Nat} {γ γ' : GG X} {u : X.U} {L : List (Nat × Obj)} {h : Hp} {t : Nat}
structure Lkd (X : Us) {A : Type} (P : Nat -> Pr A) (told : X.U -> Nat -> List A) (G : PG) (Kc : (Nat -> Hd) -> Pr A) (i : Nat) (γ : GG X) (u : X.U) (L : List (Nat × Obj)) (γ' : GG X) (u' : X.U) (H : Nat -> Hd) (h' : Hp) : Prop where
  al : Along X i γ.p γ'.p
  at_ : AtP X P told i γ' u' L h' (Kc H)
  V : X.V i u u'
  len : (ownOf i (γ.p.acc i).log).length <= (ownOf i (γ'.p.acc i).log).length
  sml : Sml H
  low : ∀ b, bst H 8 = some b -> b < G.L
set_option maxRecDepth 8000 in
set_option maxHeartbeats 16000000 in
theorem looks_T (K : CodX X P told (FinePr G) (JPr G) (PriH G)) (D : PriK X e G) {Kc : (Nat -> Hd) -> Pr A} (a : AtP X P told i γ u L h (looksP G Kc G.L H0)) (ht : t = γ.p.tb i) :
    CallW Try.prog false (SitT Try.prog (PX X) (i + 1)) 125 #[ptr (G.B kTop), ptr t] h ⟨0, γ⟩ (RetP (fun w h' δ' => ∃ (γ' : GG X) (u' : X.U) (H : Nat -> Hd), δ' = ⟨0, γ'⟩ /\ w = .tuple #[.agg (cellsH H).toArray, .int .i64 (bv (bst H 8))] /\ Lkd X P told G Kc i γ u L γ' u' H h') (Halt X i γ.p)) := by
  subst ht
  have hm0 := D.m0
  have hL8 := D.hL
  obtain ⟨y, hy⟩ : ∃ y, y = h.size := ⟨_, rfl⟩
  have T1 := a.thr.alloc K.ok (headsO H0)
  have s1 := K.mem _ _ T1.I
  have hny : ∀ q, q ∈ L -> q.1 ≠ y := fun q hq => by have := a.thr.lts q hq; omega
  refine CallW.start (n := 88) rfl rfl ?_
  (repeat (first | refine EK.seq ?_ | refine EK.region ?_ | refine ER.done ?_ | refine ER.move rfl rfl rfl ?_ | refine ER.assign rfl rfl rfl ?_ | refine ER.nilCheck rfl rfl rfl ?_ | refine ER.fieldAddr rfl rfl rfl ?_ | refine ER.allocA rfl rfl ?_))
  change ER _ _ _ _ _ _ _ _ _ _ (h.push (headsO H0)) _ _
  refine ER.load1 rfl rfl rfl s1.plv ?_
  (repeat (first | refine ER.done ?_ | refine EK.block ?_ | refine ER.assign rfl rfl rfl ?_ | refine ER.sub' (kd := .i64) rfl rfl rfl rfl (i64_in (by omega) (by omega)) ?_ | refine ER.len1 rfl rfl rfl ?_))
  rw [<- hy]
  refine EK.loopInv (fun s : Nat × GG X × X.U × (Nat -> Hd) => [(6, .int .i64 ((s.1 : Int) - 1)), (0, ptr (G.B kTop)), (1, ptr (γ.p.tb i)), (4, ptr y), (5, .int .i64 0)]) (fun s h' δ' => δ' = ⟨0, s.2.1⟩ /\ s.1 <= G.L /\ AtP X P told i s.2.1 s.2.2.1 ((y, headsO s.2.2.2) :: L) h' (looksP G Kc s.1 s.2.2.2) /\ Along X i γ.p s.2.1.p /\ X.V i u s.2.2.1 /\ (ownOf i (γ.p.acc i).log).length <= (ownOf i (s.2.1.p.acc i).log).length /\ Sml s.2.2.2 /\ ∀ q, G.L <= q -> (s.2.2.2 q).1 = false) (fun s => s.1) (G.L, γ, u, H0) ⟨rfl, rfl, rfl, rfl, rfl, trivial⟩ ⟨rfl, Nat.le_refl _, ⟨by rw [hy]; exact T1, a.res⟩, Along.refl _ _, K.ok.vrefl _ _, Nat.le_refl _, sml0, fun q _ => rfl⟩ ?_
  clear s1 T1 hy a
  rintro ⟨n, γ1, u1, H⟩ h1 δ1 ⟨hδ, hn, a, al, hV, hle, hs, hno⟩ again
  dsimp only at hδ hn a al hV hle hs hno again ⊢
  subst hδ
  rcases n with _ | n
  · have hb1 := (a.thr.privs.1 (y, headsO H) List.mem_cons_self).1
    have hsz := lt_of_get hb1
    clear again hn
    have ff : ∀ b o, h1.size <= b -> ¬ (SitT Try.prog (PX X) (i + 1)).still γ1 ⟨b, o, none⟩ := fun b o hb => a.thr.free (.inr (.inr (.inr hb)))
    have fy : ∀ o, ¬ (SitT Try.prog (PX X) (i + 1)).still γ1 ⟨y, o, none⟩ := fun o => a.thr.free (.inr (.inr (.inl ⟨_, List.mem_cons_self, rfl⟩)))
    (repeat (first | refine EK.seq ?_ | refine EK.region ?_ | refine ER.done ?_ | refine EK.block ?_ | refine ER.move rfl rfl rfl ?_ | refine ER.assign rfl rfl rfl ?_ | refine ER.nilCheck rfl rfl rfl ?_ | refine ER.cmpF rfl rfl rfl rfl rfl (by first | (dsimp only [cmpP]; omega) | exact rfl | exact Int.le_refl _) ?_ | refine EK.condF rfl ?_ | refine EK.exit rfl ?_))
    refine EK.loopInv (fun n : Nat => [(58, .int .i64 n), (5, .int .i64 (bv (bst H n))), (0, ptr (G.B kTop)), (1, ptr (γ.p.tb i)), (4, ptr y)]) (fun n h' δ' => h'[y]? = some (headsO H) /\ Upd (fun _ => False) h1 h' /\ δ' = ⟨0, γ1⟩ /\ n <= 8) (fun n => 8 - n) 0 ⟨rfl, rfl, rfl, rfl, rfl, trivial⟩ ⟨hb1, Upd.refl _ _, rfl, by omega⟩ ?_
    clear hb1
    rintro n h2 δ2 ⟨hb2, u2, rfl, hn8⟩ again
    have hsz2 := u2.size
    by_cases hn : n < 8
    · (repeat (first | refine EK.seq ?_ | refine EK.region ?_ | refine ER.done ?_ | refine EK.skip ?_ | refine EK.block ?_ | refine ER.cmpT rfl rfl rfl rfl rfl (by first | (dsimp only [cmpP]; omega) | exact rfl | exact Int.le_refl _) ?_ | refine EK.condT rfl ?_))
      refine EK.regionAny (fun h' => hrow h' y (0 + n * 3) (hrowH (H n))) ?_
      have hZ := heads_row hb2 hn
      refine EA.tMove 0 rfl (by kernel_rfl) rfl rfl rfl rfl hZ ?_
      refine EA.tNil 1 rfl (by kernel_rfl) rfl rfl rfl rfl hZ ?_
      refine EA.tIdxA 2 rfl (by kernel_rfl) rfl rfl rfl rfl rfl (by omega) (by omega) hZ ?_
      refine EA.tLoadN (vs := hrowH (H n)) 3 rfl (by kernel_rfl) rfl rfl rfl rfl rfl (fun _ hz => hz) hZ ?_
      have hZ : hrow (h2.push (.cells #[.bool false, .int .i64 0, .int .i64 0] 259)) y (0 + n * 3) (hrowH (H n)) := fun i w hw => hcell_push (hZ i w hw)
      refine EA.val (v := ptr h2.size) (h' := h2.push (.cells #[.bool false, .int .i64 0, .int .i64 0] 259)) 4 rfl (by kernel_rfl) rfl rfl rfl (fun ρ Q X hρ hq => sem_allocA hq) hZ ?_
      refine EA.tAssign 5 rfl (by kernel_rfl) rfl rfl rfl rfl hZ ?_
      have hrs : hsetRow (h2.push (.cells #[.bool false, .int .i64 0, .int .i64 0] 259)) h2.size 0 (hrowH (H n)) = h2.push (.cells (hrowH (H n)).toArray 259) := hsetRow_push (c := [.bool false, .int .i64 0, .int .i64 0]) rfl
      have hlth := lt_of_get hb2
      refine EA.unit 6 rfl (by kernel_rfl) rfl rfl (fun ρ Q X hρ hq => sem_storeN (hρ _ _ rfl) (hρ _ _ rfl) rfl (by simp [hrowH, OneCell]) (fun j hj => ⟨?_, hfroz_of (get_push_new _ _), ff _ _ hsz2⟩) hq) ?_ ?_
      · have hj3 : j < 3 := hj
        have hb := get_push_new h2 (.cells #[.bool false, .int .i64 0, .int .i64 0] 259 (0, 0))
        rcases (show j = 0 \/ j = 1 \/ j = 2 by omega) with rfl | rfl | rfl <;> exact ⟨_, hcell_of hb rfl⟩
      · rw [hrs]
        exact fun i w hw => hcell_push (heads_row hb2 hn i w hw)
      refine EA.done (by kernel_rfl) ?_
      rw [hrs]
      have hb3 := get_push (.cells (hrowH (H n)).toArray 259) hb2
      have hc3 := get_push_new h2 (.cells (hrowH (H n)).toArray 259)
      have u3 := u2.trans (Upd.push (T := fun _ => False) h2 (.cells (hrowH (H n)).toArray 259))
      generalize h2.push (.cells (hrowH (H n)).toArray 259) = h3 at hb3 hc3 u3 ⊢
      have c0 : hcell h3 ⟨h2.size, 0 + 0, none⟩ = some (.bool (H n).1) := hcell_of hc3 rfl
      have c2 : hcell h3 ⟨h2.size, 0 + 2, none⟩ = some (.int .i64 (H n).2.2) := hcell_of hc3 rfl
      clear hc3 hZ hb2 u2 hrs
      have hTn := hs n
      have fin : ∀ o : Option Nat, bst H (n + 1) = o -> EK Try.prog false (SitT Try.prog (PX X) (i + 1)) 125 88 _ [(58, .int .i64 ((n : Int) + 1)), (5, .int .i64 (bv o)), (0, ptr (G.B kTop)), (1, ptr (γ.p.tb i)), (4, ptr y)] [] h3 ⟨0, γ1⟩ _ := fun o ho => by
        subst ho
        exact EK.back (again (n + 1) _ _ (by omega) ⟨hb3, u3, rfl, by omega⟩) ⟨rfl, rfl, rfl, rfl, rfl, trivial⟩
      (repeat refine EK.seq ?_)
      refine EK.regionAny (fun h' => h' = h3) ?_
      have hZ : h3 = h3 := rfl
      refine EA.tField 0 rfl (by kernel_rfl) rfl rfl rfl rfl hZ ?_
      refine EA.tLoad 1 rfl (by kernel_rfl) rfl rfl rfl rfl (fun _ hz => hz ▸ c0) hZ ?_
      cases hthere : (H n).1
      · have hbn : bst H (n + 1) = bst H n := by
          show (if (H n).1 = true /\ _ then some n else bst H n) = _
          rw [if_neg (fun x => by rw [hthere] at x; cases x.1)]
        refine EA.tMove 2 rfl (by kernel_rfl) rfl rfl rfl rfl hZ ?_
        refine EA.takeNo 3 rfl (by kernel_rfl) rfl rfl rfl hZ ?_
        refine EA.takeNo 4 rfl (by kernel_rfl) rfl rfl rfl hZ ?_
        refine EA.takeNo 5 rfl (by kernel_rfl) rfl rfl rfl hZ ?_
        refine EA.takeNo 6 rfl (by kernel_rfl) rfl rfl rfl hZ ?_
        refine EA.takeNo 7 rfl (by kernel_rfl) rfl rfl rfl hZ ?_
        refine EA.takeNo 8 rfl (by kernel_rfl) rfl rfl rfl hZ ?_
        refine EA.takeNo 9 rfl (by kernel_rfl) rfl rfl rfl hZ ?_
        refine EA.takeNo 10 rfl (by kernel_rfl) rfl rfl rfl hZ ?_
        refine EA.takeNo 11 rfl (by kernel_rfl) rfl rfl rfl hZ ?_
        refine EA.takeNo 12 rfl (by kernel_rfl) rfl rfl rfl hZ ?_
        refine EA.takeNo 13 rfl (by kernel_rfl) rfl rfl rfl hZ ?_
        refine EA.takeNo 14 rfl (by kernel_rfl) rfl rfl rfl hZ ?_
        refine EA.takeNo 15 rfl (by kernel_rfl) rfl rfl rfl hZ ?_
        refine EA.takeNo 16 rfl (by kernel_rfl) rfl rfl rfl hZ ?_
        refine EA.takeNo 17 rfl (by kernel_rfl) rfl rfl rfl hZ ?_
        refine EA.takeNo 18 rfl (by kernel_rfl) rfl rfl rfl hZ ?_
        refine EA.tPickF 19 rfl (by kernel_rfl) rfl rfl rfl rfl rfl hZ ?_
        refine EA.done (by kernel_rfl) ?_
        (repeat (first | refine EK.region ?_ | refine ER.done ?_ | refine EK.skip ?_ | refine EK.inBlock ?_ | refine ER.move rfl rfl rfl ?_ | refine ER.add (kd := .i64) rfl rfl rfl rfl (i64_in (by omega) (by omega)) ?_ | refine EK.condF rfl ?_))
        exact EK.back (fin _ hbn) ⟨rfl, rfl, rfl, rfl, rfl, trivial⟩
      · cases hbe : bst H n with
        | none =>
          have hbn : bst H (n + 1) = some n := by
            show (if (H n).1 = true /\ _ then some n else bst H n) = _
            rw [if_pos ⟨hthere, fun b hb => by rw [hbe] at hb; cases hb⟩]
          have hm1 : (bv none : Int) = -1 := rfl
          refine EA.tMove 2 rfl (by kernel_rfl) rfl rfl rfl rfl hZ ?_
          refine EA.tMove 3 rfl (by kernel_rfl) rfl rfl rfl rfl hZ ?_
          refine EA.tCmpT 4 rfl (by kernel_rfl) rfl rfl rfl rfl rfl rfl (by first | (dsimp only [cmpP]; omega) | exact rfl | exact Int.le_refl _) hZ ?_
          refine EA.tMove 5 rfl (by kernel_rfl) rfl rfl rfl rfl hZ ?_
          refine EA.takeNo 6 rfl (by kernel_rfl) rfl rfl rfl hZ ?_
          refine EA.takeNo 7 rfl (by kernel_rfl) rfl rfl rfl hZ ?_
          refine EA.takeNo 8 rfl (by kernel_rfl) rfl rfl rfl hZ ?_
          refine EA.takeNo 9 rfl (by kernel_rfl) rfl rfl rfl hZ ?_
          refine EA.takeNo 10 rfl (by kernel_rfl) rfl rfl rfl hZ ?_
          refine EA.takeNo 11 rfl (by kernel_rfl) rfl rfl rfl hZ ?_
          refine EA.takeNo 12 rfl (by kernel_rfl) rfl rfl rfl hZ ?_
          refine EA.takeNo 13 rfl (by kernel_rfl) rfl rfl rfl hZ ?_
          refine EA.takeNo 14 rfl (by kernel_rfl) rfl rfl rfl hZ ?_
          refine EA.takeNo 15 rfl (by kernel_rfl) rfl rfl rfl hZ ?_
          refine EA.takeNo 16 rfl (by kernel_rfl) rfl rfl rfl hZ ?_
          refine EA.takeNo 17 rfl (by kernel_rfl) rfl rfl rfl hZ ?_
          refine EA.tPickT 18 rfl (by kernel_rfl) rfl rfl rfl rfl rfl hZ ?_
          refine EA.tPickT 19 rfl (by kernel_rfl) rfl rfl rfl rfl rfl hZ ?_
          refine EA.done (by kernel_rfl) ?_
          (repeat (first | refine EK.region ?_ | refine ER.done ?_ | refine EK.inBlock ?_ | refine ER.move rfl rfl rfl ?_ | refine ER.assign rfl rfl rfl ?_ | refine ER.add (kd := .i64) rfl rfl rfl rfl (i64_in (by omega) (by omega)) ?_ | refine EK.condT rfl ?_))
          exact EK.back (fin _ hbn) ⟨rfl, rfl, rfl, rfl, rfl, trivial⟩
        | some b =>
          have hbb : (bv (some b) : Int) = b := rfl
          have hb8 := (bst_lt hbe).1
          have hTb := hs b
          have c4 : hcell h3 ⟨y, 0 + b * 3 + 2, none⟩ = some (.int .i64 (H b).2.2) := heads_row hb3 (i := b) (by omega) 2 _ rfl
          rw [hbb]
          refine EA.tMove 2 rfl (by kernel_rfl) rfl rfl rfl rfl hZ ?_
          refine EA.tMove 3 rfl (by kernel_rfl) rfl rfl rfl rfl hZ ?_
          refine EA.tCmpF 4 rfl (by kernel_rfl) rfl rfl rfl rfl rfl rfl (by first | (dsimp only [cmpP]; omega) | exact rfl | exact Int.le_refl _) hZ ?_
          refine EA.tMove 5 rfl (by kernel_rfl) rfl rfl rfl rfl hZ ?_
          refine EA.tMove 6 rfl (by kernel_rfl) rfl rfl rfl rfl hZ ?_
          refine EA.tMove 7 rfl (by kernel_rfl) rfl rfl rfl rfl hZ ?_
          refine EA.tSub (kd := .i64) 8 rfl (by kernel_rfl) rfl rfl rfl rfl rfl (i64_in (by omega) (by omega)) hZ ?_
          refine EA.tMul (kd := .i64) 9 rfl (by kernel_rfl) rfl rfl rfl rfl rfl (i64_in (by omega) (by omega)) hZ ?_
          refine EA.tField 10 rfl (by kernel_rfl) rfl rfl rfl rfl hZ ?_
          refine EA.tLoad 11 rfl (by kernel_rfl) rfl rfl rfl rfl (fun _ hz => hz ▸ c2) hZ ?_
          refine EA.tMove 12 rfl (by kernel_rfl) rfl rfl rfl rfl hZ ?_
          refine EA.tIdxA 13 rfl (by kernel_rfl) rfl rfl rfl rfl rfl (by omega) (by omega) hZ ?_
          refine EA.tField 14 rfl (by kernel_rfl) rfl rfl rfl rfl hZ ?_
          refine EA.tLoad 15 rfl (by kernel_rfl) rfl rfl rfl rfl (fun _ hz => hz ▸ c4) hZ ?_
          refine EA.tSub (kd := .i64) 16 rfl (by kernel_rfl) rfl rfl rfl rfl rfl (i64_in (by omega) (by omega)) hZ ?_
          by_cases hgo : 64 * ((n : Int) - b) > (H n).2.2 - (H b).2.2
          · have hbn : bst H (n + 1) = some n := by
              show (if (H n).1 = true /\ _ then some n else bst H n) = _
              rw [if_pos ⟨hthere, fun b' hb' => by rw [hbe] at hb'; cases hb'; exact hgo⟩]
            refine EA.tCmpT 17 rfl (by kernel_rfl) rfl rfl rfl rfl rfl rfl (by first | (dsimp only [cmpP]; omega) | exact rfl | exact Int.le_refl _) hZ ?_
            refine EA.tPickF 18 rfl (by kernel_rfl) rfl rfl rfl rfl rfl hZ ?_
            refine EA.tPickT 19 rfl (by kernel_rfl) rfl rfl rfl rfl rfl hZ ?_
            refine EA.done (by kernel_rfl) ?_
            (repeat (first | refine EK.region ?_ | refine ER.done ?_ | refine EK.inBlock ?_ | refine ER.move rfl rfl rfl ?_ | refine ER.assign rfl rfl rfl ?_ | refine ER.add (kd := .i64) rfl rfl rfl rfl (i64_in (by omega) (by omega)) ?_ | refine EK.condT rfl ?_))
            exact EK.back (fin _ hbn) ⟨rfl, rfl, rfl, rfl, rfl, trivial⟩
          · have hbn : bst H (n + 1) = some b := by
              show (if (H n).1 = true /\ _ then some n else bst H n) = _
              rw [if_neg (fun x => hgo (x.2 b hbe)), hbe]
            refine EA.tCmpF 17 rfl (by kernel_rfl) rfl rfl rfl rfl rfl rfl (by first | (dsimp only [cmpP]; omega) | exact rfl | exact Int.le_refl _) hZ ?_
            refine EA.tPickF 18 rfl (by kernel_rfl) rfl rfl rfl rfl rfl hZ ?_
            refine EA.tPickT 19 rfl (by kernel_rfl) rfl rfl rfl rfl rfl hZ ?_
            refine EA.done (by kernel_rfl) ?_
            (repeat (first | refine EK.region ?_ | refine ER.done ?_ | refine EK.skip ?_ | refine EK.inBlock ?_ | refine ER.move rfl rfl rfl ?_ | refine ER.add (kd := .i64) rfl rfl rfl rfl (i64_in (by omega) (by omega)) ?_ | refine EK.condF rfl ?_))
            exact EK.back (fin _ hbn) ⟨rfl, rfl, rfl, rfl, rfl, trivial⟩
    · obtain rfl : n = 8 := by omega
      (repeat (first | refine EK.seq ?_ | refine EK.region ?_ | refine ER.done ?_ | refine ER.cmpF rfl rfl rfl rfl rfl (by first | (dsimp only [cmpP]; omega) | exact rfl | exact Int.le_refl _) ?_ | refine EK.condF rfl ?_ | refine EK.exit rfl ?_))
      refine ER.loadN (vs := cellsH H) rfl rfl rfl rfl (heads_all hb2) ?_
      (repeat refine ER.move rfl rfl rfl ?_)
      refine ER.storeN (vs := cellsH H) rfl rfl rfl rfl (cellsH_one H) (fun j hj => ⟨?_, hfroz_of hb2, fy _⟩) ?_
      · have hj3 : j < (cellsH H).length := hj
        exact ⟨_, heads_all hb2 j _ (List.getElem?_eq_getElem hj3)⟩
      rw [hsetRow_block (cellsH H) 0 _ _ hb2 (by rw [Nat.zero_add]; exact Nat.le_refl _)]
      have e1 : List.take 0 (cellsH H) ++ cellsH H ++ List.drop (0 + (cellsH H).length) (cellsH H) = cellsH H := by simp
      rw [e1]
      have T2 := a.thr.upd0 K.ok u2
      have T3 := T2.priv1 (o := headsO H) K.ok hny
      change ER _ _ _ _ _ _ _ _ _ _ (h2.setIfInBounds y (headsO H)) _ _
      generalize h2.setIfInBounds y (headsO H) = h5 at T3 ⊢
      have hb4 := (T3.privs.1 (y, headsO H) List.mem_cons_self).1
      (repeat (first | refine ER.done ?_ | refine ER.assign rfl rfl rfl ?_ | refine EK.ret ?_))
      exact EU.retCell (vs := cellsH H) rfl rfl rfl (heads_all hb4) rfl ⟨γ1, u1, H, rfl, rfl, al, ⟨T3.sub K.ok (fun q hq => List.mem_cons_of_mem _ hq), a.res⟩, hV, hle, hs, fun b hb => by
        rcases Nat.lt_or_ge b G.L with z | z
        · exact z
        · have := (bst_lt hb).2
          rw [hno b z] at this; cases this⟩
  · have ex : (((n + 1 : Nat) : Int) - 1) = (n : Int) := by omega
    rw [ex]
    have hnL : n < G.L := by omega
    have s1 := K.mem _ _ a.thr.I
    have cl := s1.plv
    (repeat (first | refine EK.seq ?_ | refine EK.region ?_ | refine ER.done ?_ | refine EK.skip ?_ | refine EK.block ?_ | refine ER.move rfl rfl rfl ?_ | refine ER.nilCheck rfl rfl rfl ?_ | refine ER.fieldAddr rfl rfl rfl ?_ | refine ER.cmpT rfl rfl rfl rfl rfl (by first | (dsimp only [cmpP]; omega) | exact rfl | exact Int.le_refl _) ?_ | refine ER.indexSl rfl rfl rfl rfl (by omega) (by omega) ?_ | refine EK.condT rfl ?_ | refine ER.load1 rfl rfl rfl (by assumption) ?_))
    refine ER.load1 rfl rfl rfl (s1.plev hnL) ?_
    (repeat (first | refine EK.seq ?_ | refine EK.region ?_ | refine ER.done ?_ | refine ER.move rfl rfl rfl ?_ | refine ER.assign rfl rfl rfl ?_ | refine ER.nilCheck rfl rfl rfl ?_ | refine ER.fieldAddr rfl rfl rfl ?_))
    refine ER.load1 rfl rfl rfl (s1.pout hnL) ?_
    (repeat refine ER.move rfl rfl rfl ?_)
    refine ER.callP rfl rfl rfl rfl rfl (loadC K a (.inl rfl) (D.cell (kOut n) hnL (vv (by omega))) al.tb.symm) (fun _ _ _ y => y.along al) ?_
    rintro _ h2 δ2 ⟨γ2, rfl, rfl, nx, s2, j2, l2⟩
    have hp := j2.bnd l2 (k := kOut n) hnL (.inr (.inr (.inl rfl)))
    generalize γ2.p.val (G.B (kOut n)) = p at nx hp ⊢
    have hlt := pj_lt hm0 p
    have al2 := al.trans nx.al
    clear s1 cl j2 l2
    (repeat (first | refine EK.seq ?_ | refine EK.region ?_ | refine ER.done ?_ | refine ER.move rfl rfl rfl ?_ | refine ER.assign rfl rfl rfl ?_))
    refine ER.callD rfl rfl rfl rfl rfl (pat_T s2 hnL D.hm D.he hp) ?_
    (repeat (first | refine ER.nilCheck rfl rfl rfl ?_ | refine ER.fieldAddr rfl rfl rfl ?_))
    refine ER.load1 rfl rfl rfl (s2.pplace (t := 0) hnL hlt (by omega)) ?_
    (repeat refine ER.move rfl rfl rfl ?_)
    refine ER.callP rfl rfl rfl rfl rfl (loadC K nx.at_ (.inl rfl) (D.cell (kTurn n (pj G.m p)) ⟨hnL, hlt⟩ (vv (by omega))) al2.tb.symm) (fun _ _ _ y => y.along al2) ?_
    rintro _ h3 δ3 ⟨γ3, rfl, rfl, nx3, s3, j3, l3⟩
    replace nx := nx.trans K.ok nx3
    generalize γ3.p.val (G.B (7 + 0, n + 1, pj G.m p)) = tn at nx ⊢
    have al3 := al.trans nx.al
    have hle3 := nx.len
    clear nx3 j3 l3 s2 al2
    by_cases htn : tn = p + 1
    · rw [if_pos htn] at nx
      subst htn
      (repeat (first | refine EK.region ?_ | refine ER.done ?_ | refine ER.move rfl rfl rfl ?_ | refine ER.cmpT rfl rfl rfl rfl rfl (by first | (dsimp only [cmpP]; omega) | exact rfl | exact Int.le_refl _) ?_ | refine ER.add (kd := .i64) rfl rfl rfl rfl (i64_in (by omega) (by omega)) ?_ | refine EK.condT rfl ?_))
      refine ER.callD rfl rfl rfl rfl rfl (pat_T s3 hnL D.hm D.he hp) ?_
      (repeat (first | refine ER.nilCheck rfl rfl rfl ?_ | refine ER.fieldAddr rfl rfl rfl ?_))
      refine ER.load1 rfl rfl rfl (s3.pplace (t := 1) hnL hlt (by omega)) ?_
      (repeat refine ER.move rfl rfl rfl ?_)
      refine ER.callP rfl rfl rfl rfl rfl (loadC K nx.at_ (.inl rfl) (D.cell (kTick n (pj G.m p)) ⟨hnL, hlt⟩ (vv (by omega))) al3.tb.symm) (fun _ _ _ y => y.along al3) ?_
      rintro _ h4 δ4 ⟨γ4, rfl, rfl, nx4, s4, j4, l4⟩
      replace nx := nx.trans K.ok nx4
      have hx := j4.bnd l4 (k := kTick n (pj G.m p)) ⟨hnL, hlt⟩ (.inr (.inr (.inr rfl)))
      generalize γ4.p.val (G.B (kTick n (pj G.m p))) = x at nx hx ⊢
      have al4 := al.trans nx.al
      have hle4 := nx.len
      have hb4 := (nx.at_.thr.privs.1 (y, headsO H) List.mem_cons_self).1
      clear nx4 j4 l4 s3 al3
      skip
      refine ER.buildS (cells := #[.bool true, .int .i64 p, .int .i64 x]) rfl rfl rfl rfl ?_
      (repeat refine ER.indexArr rfl rfl rfl rfl (by omega) (by omega) ?_)
      have hrw := heads_row hb4 (i := n) (by omega)
      refine ER.storeN (vs := hrowH (true, p, x)) rfl rfl rfl rfl (by simp [hrowH, OneCell]) (fun j hj => ⟨?_, hfroz_of hb4, nx.at_.thr.free (.inr (.inr (.inl ⟨_, List.mem_cons_self, rfl⟩)))⟩) ?_
      · have hj3 : j < 3 := hj
        rcases (show j = 0 \/ j = 1 \/ j = 2 by omega) with rfl | rfl | rfl
        · exact ⟨_, hrw 0 _ rfl⟩
        · exact ⟨_, hrw 1 _ rfl⟩
        · exact ⟨_, hrw 2 _ rfl⟩
      change ER _ _ _ _ _ _ _ _ _ _ (hsetRow h4 y (0 + n * 3) (hrowH (true, p, x))) _ _
      rw [heads_set hb4 (by omega)]
      have T4 := nx.at_.thr.priv1 (o := headsO (up H n (true, p, x))) K.ok hny
      (repeat (first | refine EK.region ?_ | refine ER.done ?_ | refine EK.inBlock ?_ | refine ER.move rfl rfl rfl ?_ | refine ER.assign rfl rfl rfl ?_ | refine ER.sub' (kd := .i64) rfl rfl rfl rfl (i64_in (by omega) (by omega)) ?_))
      exact EK.back (again (n, γ4, γ4.p.u, up H n (true, p, x)) _ _ (by dsimp only; omega) ⟨rfl, by dsimp only; omega, ⟨T4, nx.at_.res⟩, al4, K.ok.vtrans _ _ _ _ hV nx.V, by dsimp only; omega, hs.up hp hx, fun q hq => by dsimp only; rw [up_ne _ _ (by omega)]; exact hno q hq⟩) ⟨rfl, rfl, rfl, rfl, rfl, trivial⟩
    · rw [if_neg htn] at nx
      (repeat (first | refine EK.region ?_ | refine ER.done ?_ | refine EK.skip ?_ | refine EK.inBlock ?_ | refine ER.move rfl rfl rfl ?_ | refine ER.assign rfl rfl rfl ?_ | refine ER.cmpF rfl rfl rfl rfl rfl (by first | (dsimp only [cmpP]; omega) | exact rfl | exact Int.le_refl _) ?_ | refine ER.add (kd := .i64) rfl rfl rfl rfl (i64_in (by omega) (by omega)) ?_ | refine ER.sub' (kd := .i64) rfl rfl rfl rfl (i64_in (by omega) (by omega)) ?_ | refine EK.condF rfl ?_))
      exact EK.back (again (n, γ3, γ3.p.u, H) _ _ (by dsimp only; omega) ⟨rfl, by dsimp only; omega, nx.at_, al3, K.ok.vtrans _ _ _ _ hV nx.V, by dsimp only; omega, hs, hno⟩) ⟨rfl, rfl, rfl, rfl, rfl, trivial⟩
end
end
section
open Go Go.TJ Go.Conc Go.Proofs
section
variable {X : Us} {A : Type} {P : Nat -> Pr A} {told : X.U -> Nat -> List A} {G : PG} {e : Nat} {i : Nat} {γ γ' : GG X} {u : X.U} {L : List (Nat × Obj)} {h : Hp} {t : Nat}
set_option maxRecDepth 8000 in
set_option maxHeartbeats 16000000 in
theorem take_T (K : CodX X P told (FinePr G) (JPr G) (PriH G)) (D : PriK X e G) {k : Int -> Int -> Bool -> Pr A} {f : Nat} (a : AtP X P told i γ u L h (takeP G k f)) (hf : 65536 < f + (ownOf i (γ.p.acc i).log).length) (ht : t = γ.p.tb i) :
    CallW Try.prog false (SitT Try.prog (PX X) (i + 1)) 61 #[ptr (G.B kTop), ptr t] h ⟨0, γ⟩ (RetP (fun w h' δ' => ∃ (γ' : GG X) (u' : X.U) (v l : Int) (e : Bool), δ' = ⟨0, γ'⟩ /\ w = .tuple #[.int .i64 v, .int .i64 l, .bool e] /\ CallP X P told i γ u L γ' u' h' (k v l e)) (Halt X i γ.p)) := by
  subst ht
  have hm0 := D.m0
  have hm1 : G.m <= 4096 := by have := Nat.pow_le_pow_right (n := 2) (by decide) D.he; have := D.hm; omega
  have hL8 := D.hL
  have s0 := K.mem _ _ a.thr.I
  have ct := s0.ptk
  refine CallW.start (n := 75) rfl rfl ?_
  (repeat (first | refine EK.seq ?_ | refine EK.region ?_ | refine ER.done ?_ | refine EK.skip ?_ | refine EK.block ?_ | refine ER.move rfl rfl rfl ?_ | refine ER.assign rfl rfl rfl ?_ | refine ER.nilCheck rfl rfl rfl ?_ | refine ER.fieldAddr rfl rfl rfl ?_ | refine ER.eqV rfl rfl rfl rfl rfl ?_ | refine ER.pickF rfl rfl rfl rfl ?_ | refine EK.condF rfl ?_ | refine ER.load1 rfl rfl rfl (by assumption) ?_))
  refine EK.loopInv (fun _ : GG X × X.U × Nat => [(0, ptr (G.B kTop)), (1, ptr (γ.p.tb i))]) (fun q h' δ' => δ' = ⟨0, q.1⟩ /\ AtP X P told i q.1 q.2.1 L h' (takeP G k q.2.2) /\ Along X i γ.p q.1.p /\ X.V i u q.2.1 /\ (ownOf i (γ.p.acc i).log).length <= (ownOf i (q.1.p.acc i).log).length /\ 65536 < q.2.2 + (ownOf i (q.1.p.acc i).log).length) (fun q => q.2.2) (γ, u, f) ⟨rfl, rfl, trivial⟩ ⟨rfl, a, Along.refl _ _, K.ok.vrefl _ _, Nat.le_refl _, hf⟩ ?_
  clear a hf s0 ct
  rintro ⟨γ1, u1, f1⟩ h1 δ1 ⟨hδ, a, al, hV, hle, hf1⟩ again
  dsimp only at a al hV hle hf1 again hδ ⊢
  subst hδ
  have hl1 := a.len
  obtain ⟨f2, rfl⟩ : ∃ f2, f1 = f2 + 1 := ⟨f1 - 1, by omega⟩
  (repeat (first | refine EK.seq ?_ | refine EK.region ?_ | refine EK.block ?_ | refine ER.move rfl rfl rfl ?_))
  refine ER.callP rfl rfl rfl rfl rfl (looks_T K D a al.tb.symm) (fun _ _ _ y => y.along al) ?_
  clear a
  rintro _ h2 δ2 ⟨γ2, u2, H, rfl, rfl, lk⟩
  have al2 := al.trans lk.al
  have hV2 := K.ok.vtrans _ _ _ _ hV lk.V
  have hle2 := lk.len
  have hs := lk.sml
  have T2 := lk.at_.thr
  have hres := lk.at_.res
  have hlow := lk.low
  clear lk hV al
  (repeat (first | refine ER.move rfl rfl rfl ?_ | refine ER.extract rfl rfl rfl rfl ?_ | refine ER.allocA rfl rfl ?_))
  change ER _ _ _ _ _ _ _ _ _ _ (h2.push (headsO fun _ => (false, 0, 0))) _ _
  refine ER.storeN (vs := cellsH H) rfl rfl rfl rfl (cellsH_one H) (fun j hj => ⟨?_, hfroz_of (get_push_new _ _), T2.free (.inr (.inr (.inr (Nat.le_refl _))))⟩) ?_
  · exact ⟨_, heads_all (get_push_new h2 (headsO fun _ => (false, 0, 0))) j _ (List.getElem?_eq_getElem (show j < (cellsH fun _ => (false, 0, 0)).length from hj))⟩
  rw [heads_new]
  have T3 := T2.alloc K.ok (headsO H)
  obtain ⟨y, hy⟩ : ∃ y, y = h2.size := ⟨_, rfl⟩
  rw [<- hy] at T3 ⊢
  generalize h2.push (headsO H) = h3 at T3 ⊢
  clear T2 hy
  cases hb : bst H 8 with
  | none =>
    have hc : chooseP G k (takeP G k f2) H = k 0 0 false := by unfold chooseP; rw [hb]
    rw [hc] at hres
    have hv : (bv none : Int) = -1 := rfl
    (repeat (first | refine EK.seq ?_ | refine EK.region ?_ | refine ER.done ?_ | refine ER.move rfl rfl rfl ?_ | refine ER.assign rfl rfl rfl ?_ | refine ER.cmpT rfl rfl rfl rfl rfl (by first | (dsimp only [cmpP]; omega) | exact rfl | exact Int.le_refl _) ?_ | refine EK.condT rfl ?_ | refine EK.ret ?_))
    exact EU.ret3 rfl rfl rfl rfl ⟨γ2, u2, 0, 0, false, rfl, rfl, al2, ⟨T3.sub K.ok (fun q hq => List.mem_cons_of_mem _ hq), hres⟩, hV2⟩
  | some b =>
    have hc : chooseP G k (takeP G k f2) H = gotP G k (takeP G k f2) H b := by unfold chooseP; rw [hb]
    rw [hc] at hres
    have hbL := hlow b hb
    have hb8 := (bst_lt hb).1
    have hsb := hs b
    have hv : (bv (some b) : Int) = b := rfl
    rw [hv]
    have a3 : AtP X P told i γ2 u2 ((y, headsO H) :: L) h3 (gotP G k (takeP G k f2) H b) := ⟨T3, hres⟩
    have gy := (T3.privs.1 (y, headsO H) List.mem_cons_self).1
    clear hres hc hlow hs
    unfold gotP at a3
    have s3 := K.mem _ _ T3.I
    have cA : hcell h3 ⟨y, 0 + b * 3 + 1, none⟩ = some (.int .i64 (H b).2.1) := heads_row gy hb8 1 _ rfl
    generalize (H b).2.1 = p at a3 hsb cA ⊢
    have hlt := pj_lt hm0 p
    have cL := s3.plv
    have cV := s3.plev hbL
    (repeat (first | refine EK.seq ?_ | refine EK.region ?_ | refine ER.done ?_ | refine EK.skip ?_ | refine ER.move rfl rfl rfl ?_ | refine ER.assign rfl rfl rfl ?_ | refine ER.cmpF rfl rfl rfl rfl rfl (by first | (dsimp only [cmpP]; omega) | exact rfl | exact Int.le_refl _) ?_ | refine EK.condF rfl ?_))
    refine EK.regionAny (fun h' => h' = h3) ?_
    have hZ : h3 = h3 := rfl
    refine EA.tMove 0 rfl (by kernel_rfl) rfl rfl rfl rfl hZ ?_
    refine EA.tNil 1 rfl (by kernel_rfl) rfl rfl rfl rfl hZ ?_
    refine EA.tField 2 rfl (by kernel_rfl) rfl rfl rfl rfl hZ ?_
    refine EA.tLoad 3 rfl (by kernel_rfl) rfl rfl rfl rfl (fun _ hz => hz ▸ cL) hZ ?_
    refine EA.tMove 4 rfl (by kernel_rfl) rfl rfl rfl rfl hZ ?_
    refine EA.tIdxS 5 rfl (by kernel_rfl) rfl rfl rfl rfl rfl (by omega) (by omega) hZ ?_
    refine EA.tLoad 6 rfl (by kernel_rfl) rfl rfl rfl rfl (fun _ hz => hz ▸ cV) hZ ?_
    refine EA.tMove 7 rfl (by kernel_rfl) rfl rfl rfl rfl hZ ?_
    refine EA.tIdxA 8 rfl (by kernel_rfl) rfl rfl rfl rfl rfl (by omega) (by omega) hZ ?_
    refine EA.tField 9 rfl (by kernel_rfl) rfl rfl rfl rfl hZ ?_
    refine EA.tLoad 10 rfl (by kernel_rfl) rfl rfl rfl rfl (fun _ hz => hz ▸ cA) hZ ?_
    refine EA.tAssign 11 rfl (by kernel_rfl) rfl rfl rfl rfl hZ ?_
    refine EA.tAssign 12 rfl (by kernel_rfl) rfl rfl rfl rfl hZ ?_
    refine EA.done (by kernel_rfl) ?_
    clear hZ
    (repeat (first | refine EK.seq ?_ | refine EK.region ?_ | refine ER.move rfl rfl rfl ?_ | refine ER.nilCheck rfl rfl rfl ?_ | refine ER.fieldAddr rfl rfl rfl ?_))
    refine ER.load1 rfl rfl rfl (s3.pout hbL) ?_
    (repeat (first | refine ER.move rfl rfl rfl ?_ | refine ER.add (kd := .i64) rfl rfl rfl rfl (i64_in (by omega) (by omega)) ?_))
    refine ER.callP rfl rfl rfl rfl rfl (casC K a3 (.inr (.inl ⟨rfl, rfl, b, hbL, .inr rfl⟩)) (D.cell (kOut b) hbL (vv (by omega))) al2.tb.symm) (fun _ _ _ y => y.along al2) ?_
    rintro _ h4 δ4 ⟨γ4, rfl, rfl, nx, s4, -, -⟩
    clear a3 T3 gy s3 cA cL cV
    have al4 := al2.trans nx.al
    have hV4 := K.ok.vtrans _ _ _ _ hV2 nx.V
    have hle4 := nx.len
    by_cases hw : γ4.p.val (G.B (kOut b)) = p
    · rw [if_pos hw] at nx
      rw [decide_eq_true hw]
      (repeat (first | refine EK.seq ?_ | refine EK.region ?_ | refine ER.done ?_ | refine EK.skip ?_ | refine ER.move rfl rfl rfl ?_ | refine ER.notB rfl rfl rfl ?_ | refine EK.condF rfl ?_))
      refine ER.callD rfl rfl rfl rfl rfl (pat_T s4 hbL D.hm D.he ⟨hsb.1, hsb.2.1⟩) ?_
      (repeat (first | refine ER.nilCheck rfl rfl rfl ?_ | refine ER.fieldAddr rfl rfl rfl ?_))
      refine ER.load1 rfl rfl rfl (s4.pplace (t := 2) hbL hlt (by omega)) ?_
      (repeat refine ER.move rfl rfl rfl ?_)
      refine ER.callP rfl rfl rfl rfl rfl (loadC K nx.at_ (.inl rfl) (D.cell (kSlot b (pj G.m p)) ⟨hbL, hlt⟩ (vv (by omega))) al4.tb.symm) (fun _ _ _ y => y.along al4) ?_
      rintro _ h5 δ5 ⟨γ5, rfl, rfl, nx5, s5, -, -⟩
      generalize γ5.p.val (G.B (7 + 2, b + 1, pj G.m p)) = v at nx5 ⊢
      replace nx := nx.trans K.ok nx5
      clear nx5 s4 hle4 hw
      have al5 := al2.trans nx.al
      have hV5 := K.ok.vtrans _ _ _ _ hV2 nx.V
      (repeat (first | refine EK.seq ?_ | refine ER.done ?_ | refine ER.assign rfl rfl rfl ?_))
      have cP := s5.ppls hbL
      have cT := s5.pplace (t := 0) hbL hlt (by omega)
      refine EK.regionAny (fun h' => hcell h' ⟨G.B (kLev b), 2, none⟩ = some (.slice (some ⟨G.B (kPls b), 0, none⟩) G.m (G.capP b)) /\ hcell h' ⟨G.B (kPls b), 0 + (pj G.m p) * 3 + 0, none⟩ = some (ptr (G.B (kTurn b (pj G.m p))))) ?_
      have hZ := And.intro cP cT
      refine EA.tMove 0 rfl (by kernel_rfl) rfl rfl rfl rfl hZ ?_
      refine EA.tMove 1 rfl (by kernel_rfl) rfl rfl rfl rfl hZ ?_
      refine EA.tMove 6 rfl (by kernel_rfl) rfl rfl rfl rfl hZ ?_
      refine EA.tMove 7 rfl (by kernel_rfl) rfl rfl rfl rfl hZ ?_
      refine EA.tMove 8 rfl (by kernel_rfl) rfl rfl rfl rfl hZ ?_
      refine EA.tNil 9 rfl (by kernel_rfl) rfl rfl rfl rfl hZ ?_
      refine EA.tField 10 rfl (by kernel_rfl) rfl rfl rfl rfl hZ ?_
      refine EA.tLoad 11 rfl (by kernel_rfl) rfl rfl rfl rfl (fun _ hz => hz.1) hZ ?_
      refine EA.tLen1 12 rfl (by kernel_rfl) rfl rfl rfl rfl hZ ?_
      refine EA.tAdd (kd := .i64) 13 rfl (by kernel_rfl) rfl rfl rfl rfl rfl (i64_in (by omega) (by omega)) hZ ?_
      refine EA.callD 2 rfl (by kernel_rfl) rfl rfl rfl rfl rfl rfl (pat_T s5 hbL D.hm D.he ⟨hsb.1, hsb.2.1⟩) hZ ?_
      refine EA.tNil 3 rfl (by kernel_rfl) rfl rfl rfl rfl hZ ?_
      refine EA.tField 4 rfl (by kernel_rfl) rfl rfl rfl rfl hZ ?_
      refine EA.tLoad 5 rfl (by kernel_rfl) rfl rfl rfl rfl (fun _ hz => hz.2) hZ ?_
      refine eaCallP 14 rfl (by kernel_rfl) rfl rfl rfl rfl rfl rfl (storeC K nx.at_ (.inr (.inr (.inr (.inr ⟨rfl, b, _, hbL, hlt, .inl rfl⟩)))) (D.cell (kTurn b (pj G.m p)) ⟨hbL, hlt⟩ (vv (by omega))) al5.tb.symm) (fun _ _ _ y => y.along al5) ?_
      rintro _ h6 δ6 ⟨γ6, rfl, rfl, nx6, s6, -, -⟩
      refine ⟨⟨s6.ppls hbL, s6.pplace (t := 0) hbL hlt (by omega)⟩, ?_⟩
      refine EA.done (by kernel_rfl) ?_
      (repeat (first | refine EK.seq ?_ | refine EK.region ?_ | refine ER.done ?_ | refine ER.move rfl rfl rfl ?_ | refine ER.assign rfl rfl rfl ?_ | refine EK.ret ?_))
      exact EU.ret3 rfl rfl rfl rfl ⟨γ6, γ6.p.u, v, b, true, rfl, rfl, al5.trans nx6.al, ⟨nx6.at_.thr.sub K.ok (fun q hq => List.mem_cons_of_mem _ hq), nx6.at_.res⟩, K.ok.vtrans _ _ _ _ hV5 nx6.V⟩
    · rw [if_neg hw] at nx
      rw [decide_eq_false hw]
      (repeat (first | refine ER.done ?_ | refine ER.notB rfl rfl rfl ?_ | refine EK.condT rfl ?_ | refine EK.exit rfl ?_))
      exact EK.back (again (γ4, γ4.p.u, f2) _ _ (by dsimp only; omega) ⟨rfl, ⟨nx.at_.thr.sub K.ok (fun q hq => List.mem_cons_of_mem _ hq), nx.at_.res⟩, al4, hV4, by dsimp only; omega, by dsimp only; omega⟩) ⟨rfl, rfl, trivial⟩
theorem put_argT (_K : CodX X P told (FinePr G) (JPr G) (PriH G)) {on : Int} {tv x : Value} (s : PriH G h) (ho : on < 0 \/ (G.L : Int) <= on) {δ : Ix (GG X)} :
    CallW Try.prog false (SitT Try.prog (PX X) (i + 1)) 63 #[ptr (G.B kTop), tv, .int .i64 on, x] h δ (Ret (Det (.int .i64 1) h δ)) := by
  have c1 := s.ptk
  have c2 := s.plv
  refine CallW.start (n := 87) rfl rfl ?_
  (repeat (first | refine EK.seq ?_ | refine EK.region ?_ | refine ER.done ?_ | refine EK.skip ?_ | refine ER.move rfl rfl rfl ?_ | refine ER.assign rfl rfl rfl ?_ | refine ER.nilCheck rfl rfl rfl ?_ | refine ER.fieldAddr rfl rfl rfl ?_ | refine ER.eqV rfl rfl rfl rfl rfl ?_ | refine ER.pickF rfl rfl rfl rfl ?_ | refine EK.condF rfl ?_ | refine ER.load1 rfl rfl rfl (by assumption) ?_))
  by_cases h0 : on < 0
  · (repeat (first | refine EK.seq ?_ | refine EK.region ?_ | refine ER.done ?_ | refine ER.move rfl rfl rfl ?_ | refine ER.assign rfl rfl rfl ?_ | refine ER.no rfl rfl ?_ | refine ER.pickT rfl rfl rfl rfl ?_ | refine ER.cmpT rfl rfl rfl rfl rfl (by first | (dsimp only [cmpP]; omega) | exact rfl | exact Int.le_refl _) ?_ | refine EK.condT rfl ?_ | refine EK.ret ?_))
    exact EU.ret1 rfl rfl det
  · have h1 : (G.L : Int) <= on := ho.resolve_left h0
    (repeat (first | refine EK.seq ?_ | refine EK.region ?_ | refine ER.done ?_ | refine ER.move rfl rfl rfl ?_ | refine ER.assign rfl rfl rfl ?_ | refine ER.nilCheck rfl rfl rfl ?_ | refine ER.fieldAddr rfl rfl rfl ?_ | refine ER.pickF rfl rfl rfl rfl ?_ | refine ER.cmpT rfl rfl rfl rfl rfl (by first | (dsimp only [cmpP]; omega) | exact rfl | exact Int.le_refl _) ?_ | refine ER.cmpF rfl rfl rfl rfl rfl (by first | (dsimp only [cmpP]; omega) | exact rfl | exact Int.le_refl _) ?_ | refine ER.len1 rfl rfl rfl ?_ | refine EK.condT rfl ?_ | refine EK.ret ?_ | refine ER.load1 rfl rfl rfl (by assumption) ?_))
    exact EU.ret1 rfl rfl det
end
end
section
open Go Go.TJ Go.Conc Go.Proofs
def callPr (G : PG) (f : Nat) (q : GCall) (k : GAns -> Pr GAns) : Pr GAns :=
  if q.1 = 0 then (if q.2.1 < 0 \/ (G.L : Int) <= q.2.1 then k (0, 0, false, 1) else putP G q.2.1.toNat q.2.2 (fun e => k (0, 0, false, e)) f) else if q.1 = 1 then takeP G (fun v l is => k (v, l, is, 0)) f else k (0, 0, false, 0)
theorem callPr0a {G : PG} {f : Nat} {l v : Int} {k : GAns -> Pr GAns} (h : l < 0 \/ (G.L : Int) <= l) : callPr G f (0, l, v) k = k (0, 0, false, 1) := (if_pos rfl).trans (if_pos h)
theorem callPr0 {G : PG} {f l : Nat} {v : Int} {k : GAns -> Pr GAns} (h : l < G.L) : callPr G f (0, (l : Int), v) k = putP G l v (fun e => k (0, 0, false, e)) f := (if_pos rfl).trans (if_neg (by dsimp only; omega))
theorem callPr1 {G : PG} {f : Nat} {l v : Int} {k : GAns -> Pr GAns} : callPr G f (1, l, v) k = takeP G (fun v l is => k (v, l, is, 0)) f := (if_neg (show ¬ (1 : Int) = 0 by decide)).trans (if_pos rfl)
theorem callPr2 {G : PG} {f : Nat} {d l v : Int} {k : GAns -> Pr GAns} (h0 : d ≠ 0) (h1 : d ≠ 1) : callPr G f (d, l, v) k = k (0, 0, false, 0) := (if_neg h0).trans (if_neg h1)
section
variable {X : Us} {P : Nat -> Pr GAns} {told : X.U -> Nat -> List GAns} {G : PG} {e : Nat} {i : Nat} {γ γ' : GG X} {u : X.U} {L : List (Nat × Obj)} {h h' : Hp}
theorem CodX.weaken {A : Type} {P : Nat -> Pr A} {told : X.U -> Nat -> List A} {F : Rq -> Prop} {V : List Ev -> (Nat -> Int) -> Prop} {M M' : Hp -> Prop} (K : CodX X P told F V M) (hm : ∀ h, M h -> M' h) : CodX X P told F V M' := ⟨K.ok, K.prog, fun u h I => hm h (K.mem u h I), K.jv, K.j⟩
set_option maxRecDepth 8000 in
set_option maxHeartbeats 8000000 in
theorem pcall_T {P : Nat -> Pr GAns} {told : X.U -> Nat -> List GAns} (K : CodX X P told (FinePr G) (JPr G) (PriH G)) (D : PriK X e G) {f : Nat} (hf : 65536 < f) {q : GCall} {k : GAns -> Pr GAns} {S0 t : Nat} (hS : ∀ u h, X.I u h -> hcell h ⟨S0, 0, none⟩ = some (ptr (G.B kTop))) (a : AtP X P told i γ u L h (callPr G f q k)) (ht : t = γ.p.tb i) :
    CallW Try.prog false (SitT Try.prog (PX X) (i + 1)) 56 #[ptr S0, ptr t, .agg (gcallL q).toArray] h ⟨0, γ⟩ (RetP (fun w h' δ' => ∃ (γ' : GG X) (u' : X.U) (e : GAns), δ' = ⟨0, γ'⟩ /\ w = .agg (gansL e).toArray /\ CallP X P told i γ u L γ' u' h' (k e)) (Halt X i γ.p)) := by
  subst ht
  obtain ⟨d, l, v⟩ := q
  obtain ⟨y5, hy5⟩ : ∃ y5, y5 = h.size := ⟨_, rfl⟩
  obtain ⟨y6, hy6⟩ : ∃ y6, y6 = (h.push (.cells (gcallL (d, l, v)).toArray 140)).size := ⟨_, rfl⟩
  have T1 : Thr X i γ u ((y6, gansO (0, 0, false, 0)) :: (y5, .cells (gcallL (d, l, v)).toArray 140) :: L) ((h.push (.cells (gcallL (d, l, v)).toArray 140)).push (gansO (0, 0, false, 0))) := by
    rw [hy5, hy6]
    exact (a.thr.alloc K.ok _).alloc K.ok _
  have a1 : AtP X P told i γ u _ _ _ := ⟨T1, a.res⟩
  refine CallW.start (n := 38) rfl rfl ?_
  have q1 : ((h.push (.cells (gcallL (d, l, v)).toArray 140)).push (gansO (0, 0, false, 0)))[h.size]? = some (.cells (gcallL (d, l, v)).toArray 140 (0, 0)) := get_push _ (get_push_new _ _)
  (repeat (first | refine EK.seq ?_ | refine EK.region ?_ | refine ER.done ?_ | refine EK.block ?_ | refine ER.fieldAddr rfl rfl rfl ?_ | refine ER.load1 rfl rfl rfl (hcell_of (by assumption) rfl) ?_ | refine ER.boxA rfl rfl rfl ?_ | refine ER.allocA rfl rfl ?_))
  refine ER.gen (fun h' => AtP X P told i γ u ((y6, gansO (0, 0, false, 0)) :: (y5, .cells (gcallL (d, l, v)).toArray 140) :: L) h' (callPr G f (d, l, v) k)) a1 ?_
  rw [<- hy5, <- hy6]
  have ne : y6 ≠ y5 := by rw [hy6, hy5, Array.size_push]; omega
  have hn : ∀ q, q ∈ (y5, .cells (gcallL (d, l, v)).toArray 140) :: L -> q.1 ≠ y6 := fun q hq => by
    rcases List.mem_cons.1 hq with rfl | hq
    · exact Ne.symm ne
    · have := a.thr.lts q hq
      rw [hy6, Array.size_push]; omega
  clear a a1 T1 q1 hy5 hy6
  intro h1 a
  have hs1 := hS _ _ a.thr.I
  by_cases h0 : d = 0
  · subst h0
    by_cases hl : l < 0 \/ (G.L : Int) <= l
    · rw [callPr0a hl] at a
      (repeat (first | refine ER.done ?_ | refine ER.assign rfl rfl rfl ?_ | refine ER.cmpT rfl rfl rfl rfl rfl (by first | (dsimp only [cmpP]; omega) | exact rfl | exact Int.le_refl _) ?_ | refine EK.condT rfl ?_))
      refine EK.regionAnyL (fun h' => hcell h' ⟨S0, 0, none⟩ = some (ptr (G.B kTop)) /\ hcell h' ⟨y5, 1, none⟩ = some (.int .i64 l) /\ hcell h' ⟨y5, 2, none⟩ = some (.int .i64 v)) 11 ?_
      have g5 := (a.thr.privs.1 (y5, .cells (gcallL (0, l, v)).toArray 140) (List.mem_cons_of_mem _ List.mem_cons_self)).1
      have hZ : _ /\ _ /\ _ := And.intro (hS _ _ a.thr.I) ⟨(hcell_of g5 rfl : hcell h1 ⟨y5, 1, none⟩ = some (.int .i64 l)), (hcell_of g5 rfl : hcell h1 ⟨y5, 2, none⟩ = some (.int .i64 v))⟩
      refine EA.tMove 0 rfl (by kernel_rfl) rfl rfl rfl rfl hZ ?_
      refine EA.tNil 1 rfl (by kernel_rfl) rfl rfl rfl rfl hZ ?_
      refine EA.tField 2 rfl (by kernel_rfl) rfl rfl rfl rfl hZ ?_
      refine EA.tLoad 3 rfl (by kernel_rfl) rfl rfl rfl rfl (fun _ hz => hz.1) hZ ?_
      refine EA.tMove 4 rfl (by kernel_rfl) rfl rfl rfl rfl hZ ?_
      refine EA.tField 5 rfl (by kernel_rfl) rfl rfl rfl rfl hZ ?_
      refine EA.tLoad 6 rfl (by kernel_rfl) rfl rfl rfl rfl (fun _ hz => hz.2.1) hZ ?_
      refine EA.tField 7 rfl (by kernel_rfl) rfl rfl rfl rfl hZ ?_
      refine EA.tLoad 8 rfl (by kernel_rfl) rfl rfl rfl rfl (fun _ hz => hz.2.2) hZ ?_
      refine EA.callD 9 rfl (by kernel_rfl) rfl rfl rfl rfl rfl rfl (put_argT K (K.mem _ _ a.thr.I) hl) hZ ?_
      have T2 := a.thr
      have h2 := h1
      skip
      have g6 := (T2.privs.1 (y6, gansO (0, 0, false, 0)) List.mem_cons_self).1
      refine EA.tField 10 rfl (by kernel_rfl) rfl rfl rfl rfl hZ ?_
      refine EA.unitL (h' := h1.setIfInBounds y6 (gansO (0, 0, false, 1))) 11 rfl (by kernel_rfl) rfl rfl rfl (fun ρ Q X hρ hq => sem_store1 (hρ _ _ rfl) (hρ _ _ rfl) ⟨nofun, nofun⟩ ⟨_, hcell_of g6 rfl⟩ (hfroz_of g6) (T2.free (.inr (.inr (.inl ⟨_, List.mem_cons_self, rfl⟩)))) (by
        have e7 : hset h1 ⟨y6, 3, none⟩ (.int .i64 1) = h1.setIfInBounds y6 (gansO (0, 0, false, 1)) := hset_block g6 _
        rw [show (0 : Nat) + 3 = 3 from rfl, e7]; exact hq)) ?_
      refine EA.done (by kernel_rfl) ?_
      have T3 := T2.priv1 (o := gansO (0, 0, false, 1)) K.ok hn
      clear hZ g6 hs1
      generalize h1.setIfInBounds y6 (gansO (0, 0, false, 1)) = h3 at T3 ⊢
      have g6 := (T3.privs.1 (y6, gansO (0, 0, false, 1)) List.mem_cons_self).1
      have T4 := ((T3.priv1 (y := y6) (o := gansO (0, 0, false, 1)) K.ok hn).sub K.ok (L' := L) (fun q hq => List.mem_cons_of_mem _ (List.mem_cons_of_mem _ hq)))
      (repeat (first | refine EK.seq ?_ | refine EK.region ?_ | refine EK.inBlock ?_))
      refine ER.loadN (vs := gansL (0, 0, false, 1)) rfl rfl rfl rfl (hrow_block (rest := []) (by rw [List.append_nil]; exact g6)) ?_
      refine ER.storeN (vs := gansL (0, 0, false, 1)) rfl rfl rfl rfl (by simp [gansL, OneCell]) (fun j hj => ⟨⟨_, hcell_of g6 (by simp only [List.getElem?_toArray]; exact List.getElem?_eq_getElem (by simpa using hj))⟩, hfroz_of g6, T3.free (.inr (.inr (.inl ⟨_, List.mem_cons_self, rfl⟩)))⟩) ?_
      rw [row_set (c := gansL (0, 0, false, 1)) (vs := gansL (0, 0, false, 1)) g6 rfl]
      (repeat (first | refine ER.done ?_ | refine EK.ret ?_))
      exact EU.retCell1 (vs := gansL (0, 0, false, 1)) rfl rfl rfl (hrow_block (rest := []) (by rw [List.append_nil]; exact get_set_same g6)) ⟨γ, u, (0, 0, false, 1), rfl, rfl, ⟨Along.refl _ _, ⟨T4, a.res⟩, K.ok.vrefl _ _⟩⟩
    · obtain ⟨ln, rfl⟩ : ∃ ln : Nat, l = ln := ⟨l.toNat, by omega⟩
      rw [callPr0 (by omega)] at a
      (repeat (first | refine ER.done ?_ | refine ER.assign rfl rfl rfl ?_ | refine ER.cmpT rfl rfl rfl rfl rfl (by first | (dsimp only [cmpP]; omega) | exact rfl | exact Int.le_refl _) ?_ | refine EK.condT rfl ?_))
      refine EK.regionAnyL (fun h' => hcell h' ⟨S0, 0, none⟩ = some (ptr (G.B kTop)) /\ hcell h' ⟨y5, 1, none⟩ = some (.int .i64 ln) /\ hcell h' ⟨y5, 2, none⟩ = some (.int .i64 v)) 11 ?_
      have g5 := (a.thr.privs.1 (y5, .cells (gcallL (0, ln, v)).toArray 140) (List.mem_cons_of_mem _ List.mem_cons_self)).1
      have hZ : _ /\ _ /\ _ := And.intro (hS _ _ a.thr.I) ⟨(hcell_of g5 rfl : hcell h1 ⟨y5, 1, none⟩ = some (.int .i64 ln)), (hcell_of g5 rfl : hcell h1 ⟨y5, 2, none⟩ = some (.int .i64 v))⟩
      refine EA.tMove 0 rfl (by kernel_rfl) rfl rfl rfl rfl hZ ?_
      refine EA.tNil 1 rfl (by kernel_rfl) rfl rfl rfl rfl hZ ?_
      refine EA.tField 2 rfl (by kernel_rfl) rfl rfl rfl rfl hZ ?_
      refine EA.tLoad 3 rfl (by kernel_rfl) rfl rfl rfl rfl (fun _ hz => hz.1) hZ ?_
      refine EA.tMove 4 rfl (by kernel_rfl) rfl rfl rfl rfl hZ ?_
      refine EA.tField 5 rfl (by kernel_rfl) rfl rfl rfl rfl hZ ?_
      refine EA.tLoad 6 rfl (by kernel_rfl) rfl rfl rfl rfl (fun _ hz => hz.2.1) hZ ?_
      refine EA.tField 7 rfl (by kernel_rfl) rfl rfl rfl rfl hZ ?_
      refine EA.tLoad 8 rfl (by kernel_rfl) rfl rfl rfl rfl (fun _ hz => hz.2.2) hZ ?_
      refine eaCallP 9 rfl (by kernel_rfl) rfl rfl rfl rfl rfl rfl (put_T K D (by omega) a (by omega) rfl) (fun _ _ _ x => x) ?_
      clear hZ
      rintro _ h2 δ2 ⟨γ2, e, rfl, rfl, nx⟩
      have T2 := nx.at_.thr
      have g5 := (T2.privs.1 (y5, .cells (gcallL (0, (ln : Int), v)).toArray 140) (List.mem_cons_of_mem _ List.mem_cons_self)).1
      have hZ : _ /\ _ /\ _ := And.intro (hS _ _ T2.I) ⟨(hcell_of g5 rfl : hcell h2 ⟨y5, 1, none⟩ = some (.int .i64 ln)), (hcell_of g5 rfl : hcell h2 ⟨y5, 2, none⟩ = some (.int .i64 v))⟩
      refine ⟨hZ, ?_⟩
      have g6 := (T2.privs.1 (y6, gansO (0, 0, false, 0)) List.mem_cons_self).1
      refine EA.tField 10 rfl (by kernel_rfl) rfl rfl rfl rfl hZ ?_
      refine EA.unitL (h' := h2.setIfInBounds y6 (gansO (0, 0, false, e))) 11 rfl (by kernel_rfl) rfl rfl rfl (fun ρ Q X hρ hq => sem_store1 (hρ _ _ rfl) (hρ _ _ rfl) ⟨nofun, nofun⟩ ⟨_, hcell_of g6 rfl⟩ (hfroz_of g6) (T2.free (.inr (.inr (.inl ⟨_, List.mem_cons_self, rfl⟩)))) (by
        have e7 : hset h2 ⟨y6, 3, none⟩ (.int .i64 e) = h2.setIfInBounds y6 (gansO (0, 0, false, e)) := hset_block g6 _
        rw [show (0 : Nat) + 3 = 3 from rfl, e7]; exact hq)) ?_
      refine EA.done (by kernel_rfl) ?_
      have T3 := T2.priv1 (o := gansO (0, 0, false, e)) K.ok hn
      clear hZ g6 hs1
      generalize h2.setIfInBounds y6 (gansO (0, 0, false, e)) = h3 at T3 ⊢
      have g6 := (T3.privs.1 (y6, gansO (0, 0, false, e)) List.mem_cons_self).1
      have T4 := ((T3.priv1 (y := y6) (o := gansO (0, 0, false, e)) K.ok hn).sub K.ok (L' := L) (fun q hq => List.mem_cons_of_mem _ (List.mem_cons_of_mem _ hq)))
      (repeat (first | refine EK.seq ?_ | refine EK.region ?_ | refine EK.inBlock ?_))
      refine ER.loadN (vs := gansL (0, 0, false, e)) rfl rfl rfl rfl (hrow_block (rest := []) (by rw [List.append_nil]; exact g6)) ?_
      refine ER.storeN (vs := gansL (0, 0, false, e)) rfl rfl rfl rfl (by simp [gansL, OneCell]) (fun j hj => ⟨⟨_, hcell_of g6 (by simp only [List.getElem?_toArray]; exact List.getElem?_eq_getElem (by simpa using hj))⟩, hfroz_of g6, T3.free (.inr (.inr (.inl ⟨_, List.mem_cons_self, rfl⟩)))⟩) ?_
      rw [row_set (c := gansL (0, 0, false, e)) (vs := gansL (0, 0, false, e)) g6 rfl]
      (repeat (first | refine ER.done ?_ | refine EK.ret ?_))
      exact EU.retCell1 (vs := gansL (0, 0, false, e)) rfl rfl rfl (hrow_block (rest := []) (by rw [List.append_nil]; exact get_set_same g6)) ⟨γ2, γ2.p.u, (0, 0, false, e), rfl, rfl, ⟨nx.al, ⟨T4, nx.at_.res⟩, nx.V⟩⟩
  by_cases h1' : d = 1
  · subst h1'
    rw [callPr1] at a
    (repeat (first | refine EK.seq ?_ | refine EK.region ?_ | refine ER.done ?_ | refine ER.move rfl rfl rfl ?_ | refine ER.assign rfl rfl rfl ?_ | refine ER.nilCheck rfl rfl rfl ?_ | refine ER.fieldAddr rfl rfl rfl ?_ | refine ER.cmpT rfl rfl rfl rfl rfl (by first | (dsimp only [cmpP]; omega) | exact rfl | exact Int.le_refl _) ?_ | refine ER.cmpF rfl rfl rfl rfl rfl (by first | (dsimp only [cmpP]; omega) | exact rfl | exact Int.le_refl _) ?_ | refine EK.condT rfl ?_ | refine EK.condF rfl ?_ | refine ER.load1 rfl rfl rfl (by assumption) ?_))
    refine ER.callP rfl rfl rfl rfl rfl (take_T K D a (by omega) rfl) (fun _ _ _ x => x) ?_
    clear hs1
    rintro _ h2 δ2 ⟨γ2, u2, w, lv, e, rfl, rfl, cp⟩
    have T3 := cp.at_.thr
    have g6 := (T3.privs.1 (y6, gansO (0, 0, false, 0)) List.mem_cons_self).1
    (repeat (first | refine ER.move rfl rfl rfl ?_ | refine ER.fieldAddr rfl rfl rfl ?_ | refine ER.extract rfl rfl rfl rfl ?_))
    have g6 := (T3.privs.1 (y6, gansO (0, 0, false, 0)) List.mem_cons_self).1
    refine ER.store1 rfl rfl rfl ⟨nofun, nofun⟩ ⟨_, hcell_of g6 rfl⟩ (hfroz_of g6) (T3.free (.inr (.inr (.inl ⟨_, List.mem_cons_self, rfl⟩)))) ?_
    have e7 : hset h2 ⟨y6, 0, none⟩ (.int .i64 w) = h2.setIfInBounds y6 (gansO (w, 0, false, 0)) := hset_block g6 _
    have T4 := T3.priv1 (o := gansO (w, 0, false, 0)) K.ok hn
    change ER _ _ _ _ _ _ _ _ _ _ (hset h2 ⟨y6, 0, none⟩ (.int .i64 w)) _ _
    rw [e7]
    clear e7 g6 T3
    generalize h2.setIfInBounds y6 (gansO (w, 0, false, 0)) = h3 at T4 ⊢
    have T3 := T4
    clear T4
    have g6 := (T3.privs.1 (y6, gansO (w, 0, false, 0)) List.mem_cons_self).1
    (repeat refine ER.fieldAddr rfl rfl rfl ?_)
    have g6 := (T3.privs.1 (y6, gansO (w, 0, false, 0)) List.mem_cons_self).1
    refine ER.store1 rfl rfl rfl ⟨nofun, nofun⟩ ⟨_, hcell_of g6 rfl⟩ (hfroz_of g6) (T3.free (.inr (.inr (.inl ⟨_, List.mem_cons_self, rfl⟩)))) ?_
    have e7 : hset h3 ⟨y6, 1, none⟩ (.int .i64 lv) = h3.setIfInBounds y6 (gansO (w, lv, false, 0)) := hset_block g6 _
    have T4 := T3.priv1 (o := gansO (w, lv, false, 0)) K.ok hn
    change ER _ _ _ _ _ _ _ _ _ _ (hset h3 ⟨y6, 1, none⟩ (.int .i64 lv)) _ _
    rw [e7]
    clear e7 g6 T3
    generalize h3.setIfInBounds y6 (gansO (w, lv, false, 0)) = h4 at T4 ⊢
    have T3 := T4
    clear T4
    have g6 := (T3.privs.1 (y6, gansO (w, lv, false, 0)) List.mem_cons_self).1
    (repeat refine ER.fieldAddr rfl rfl rfl ?_)
    have g6 := (T3.privs.1 (y6, gansO (w, lv, false, 0)) List.mem_cons_self).1
    refine ER.store1 rfl rfl rfl ⟨nofun, nofun⟩ ⟨_, hcell_of g6 rfl⟩ (hfroz_of g6) (T3.free (.inr (.inr (.inl ⟨_, List.mem_cons_self, rfl⟩)))) ?_
    have e7 : hset h4 ⟨y6, 2, none⟩ (.bool e) = h4.setIfInBounds y6 (gansO (w, lv, e, 0)) := hset_block g6 _
    have T4 := T3.priv1 (o := gansO (w, lv, e, 0)) K.ok hn
    change ER _ _ _ _ _ _ _ _ _ _ (hset h4 ⟨y6, 2, none⟩ (.bool e)) _ _
    rw [e7]
    clear e7 g6 T3
    generalize h4.setIfInBounds y6 (gansO (w, lv, e, 0)) = h5 at T4 ⊢
    have T3 := T4
    clear T4
    have g6 := (T3.privs.1 (y6, gansO (w, lv, e, 0)) List.mem_cons_self).1
    have T4 := ((T3.priv1 (y := y6) (o := gansO (w, lv, e, 0)) K.ok hn).sub K.ok (L' := L) (fun q hq => List.mem_cons_of_mem _ (List.mem_cons_of_mem _ hq)))
    (repeat (first | refine EK.seq ?_ | refine EK.region ?_ | refine ER.done ?_ | refine EK.inBlock ?_))
    refine ER.loadN (vs := gansL (w, lv, e, 0)) rfl rfl rfl rfl (hrow_block (rest := []) (by rw [List.append_nil]; exact g6)) ?_
    refine ER.storeN (vs := gansL (w, lv, e, 0)) rfl rfl rfl rfl (by simp [gansL, OneCell]) (fun j hj => ⟨⟨_, hcell_of g6 (by simp only [List.getElem?_toArray]; exact List.getElem?_eq_getElem (by simpa using hj))⟩, hfroz_of g6, T3.free (.inr (.inr (.inl ⟨_, List.mem_cons_self, rfl⟩)))⟩) ?_
    rw [row_set (c := gansL (w, lv, e, 0)) (vs := gansL (w, lv, e, 0)) g6 rfl]
    (repeat (first | refine ER.done ?_ | refine EK.ret ?_))
    exact EU.retCell1 (vs := gansL (w, lv, e, 0)) rfl rfl rfl (hrow_block (rest := []) (by rw [List.append_nil]; exact get_set_same g6)) ⟨γ2, u2, (w, lv, e, 0), rfl, rfl, ⟨cp.al, ⟨T4, cp.at_.res⟩, cp.V⟩⟩
  · rw [callPr2 h0 h1'] at a
    have h2 := h1
    have T3 : Thr X i γ u ((y6, gansO (0, 0, false, 0)) :: (y5, .cells (gcallL (d, l, v)).toArray 140) :: L) h1 := a.thr
    have g6 := (T3.privs.1 (y6, gansO (0, 0, false, 0)) List.mem_cons_self).1
    have T4 := ((T3.priv1 (y := y6) (o := gansO (0, 0, false, 0)) K.ok hn).sub K.ok (L' := L) (fun q hq => List.mem_cons_of_mem _ (List.mem_cons_of_mem _ hq)))
    (repeat (first | refine EK.seq ?_ | refine EK.region ?_ | refine ER.done ?_ | refine EK.skip ?_ | refine EK.inBlock ?_ | refine ER.assign rfl rfl rfl ?_ | refine ER.cmpF rfl rfl rfl rfl rfl (by first | (dsimp only [cmpP]; omega) | exact rfl | exact Int.le_refl _) ?_ | refine EK.condF rfl ?_))
    refine ER.loadN (vs := gansL (0, 0, false, 0)) rfl rfl rfl rfl (hrow_block (rest := []) (by rw [List.append_nil]; exact g6)) ?_
    refine ER.storeN (vs := gansL (0, 0, false, 0)) rfl rfl rfl rfl (by simp [gansL, OneCell]) (fun j hj => ⟨⟨_, hcell_of g6 (by simp only [List.getElem?_toArray]; exact List.getElem?_eq_getElem (by simpa using hj))⟩, hfroz_of g6, T3.free (.inr (.inr (.inl ⟨_, List.mem_cons_self, rfl⟩)))⟩) ?_
    rw [row_set (c := gansL (0, 0, false, 0)) (vs := gansL (0, 0, false, 0)) g6 rfl]
    (repeat (first | refine ER.done ?_ | refine EK.ret ?_))
    exact EU.retCell1 (vs := gansL (0, 0, false, 0)) rfl rfl rfl (hrow_block (rest := []) (by rw [List.append_nil]; exact get_set_same g6)) ⟨γ, u, (0, 0, false, 0), rfl, rfl, ⟨Along.refl _ _, ⟨T4, a.res⟩, K.ok.vrefl _ _⟩⟩
end
end
end Go.Proofs.Ytcpcdnkemobneaa
