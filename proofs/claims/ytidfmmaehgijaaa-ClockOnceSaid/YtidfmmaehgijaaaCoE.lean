/- Steps of the walk and of the plain law (CoJ to ClockWorks). Conditions: as each lemma says. -/
import Derived.Test.YtidfmmaehgijaaaCoD
namespace Go.Proofs.Ytidfmmaehgijaaa
section
open Go Go.TJ Go.Conc Go.Proofs
theorem eaiCallP {Γ : Type} {P : Program} {main : Bool} {S : Sit Γ} {f : FuncId} {n : Nat} {k : List Item} {env : Env} {h : Hp} {δ : Ix Γ} {R : Post Γ} {ops : Array Oper} {Z : Hp -> Prop} {z m : Nat} {listed l' : Array Bool} {d : Nat} {ty : TypeId} {pos : String} {af : Array Edge} {g : Option (Nat × Bool)} {i : Nat} {x : Operand} {args : Array Operand} {ats : Array TypeId} {fn : Func} [hf : IsFn P f fn] {c : FuncId} {cap ws : Array Value} {vs : List Value} [HasBody P c] {Q : Value -> Hp -> Ix Γ -> Prop} {Y : List PanicEntry -> Hp -> Ix Γ -> Prop}
    (hi : ops[i]? = some ⟨some d, .call { callee := .value x, args, argTypes := ats }, ty, pos, af, g⟩) (hl : listed.setIfInBounds i true = l') (hd : Nat.blt d n = true) (hw : wantE ops env g = some true) (hx : ev env x = some (.func (.func c) #[] cap)) (ha : evL env args.toList = some vs) (hws : vs.toArray ++ cap = ws)
    (hc : CallW P main S c ws h δ (RetP Q Y)) (hY : ∀ p h' δ', Y p h' δ' -> R (.pan p) h' δ') (hn : ∀ v h' δ', Q v h' δ' -> Z h' /\ EA P main S f n ops Z z m l' k ((d, v) :: env) [] h' δ' R) : EAi P main S f n ops Z z m listed k env [] h δ R i := by
  subst hl
  intro a ka
  unfold OpK
  simp only [hi]
  rw [if_pos (wantE_ok ka (o := ⟨some d, .call { callee := .value x, args, argTypes := ats }, ty, pos, af, g⟩) hw), ka.defers]
  subst hws
  refine semW_call rfl (ka.eval hx) (map_ofL (fun x v hx => ka.eval hx) ha) (hc.mono ?_)
  rintro (v | p) h' δ' hq
  · exact ⟨.inr (hn v h' δ' hq).1, (hn v h' δ' hq).2 _ (ka.put v hd)⟩
  · exact fun a' ha' => WU.pan0 (ha'.trans ka.defers) hf.out (hY _ _ _ hq)
theorem eaiCallR {Γ : Type} {P : Program} {main : Bool} {S : Sit Γ} {f : FuncId} {n : Nat} {k : List Item} {env : Env} {ds : List Deferred} {h : Hp} {δ : Ix Γ} {R : Post Γ} {ops : Array Oper} {Z : Hp -> Prop} {z m : Nat} {listed l' : Array Bool} {d : Nat} {ty : TypeId} {pos : String} {af : Array Edge} {g : Option (Nat × Bool)} {i : Nat} {x : Operand} {args : Array Operand} {ats : Array TypeId} {c : FuncId} {cap ws : Array Value} {vs : List Value} [HasBody P c] {Q : Value -> Hp -> Ix Γ -> Prop}
    (hi : ops[i]? = some ⟨some d, .call { callee := .value x, args, argTypes := ats }, ty, pos, af, g⟩) (hl : listed.setIfInBounds i true = l') (hd : Nat.blt d n = true) (hw : wantE ops env g = some true) (hx : ev env x = some (.func (.func c) #[] cap)) (ha : evL env args.toList = some vs) (hws : vs.toArray ++ cap = ws)
    (hc : CallW P main S c ws h δ (Ret Q)) (hn : ∀ v h' δ', Q v h' δ' -> Z h' /\ EA P main S f n ops Z z m l' k ((d, v) :: env) ds h' δ' R) : EAi P main S f n ops Z z m listed k env ds h δ R i := by
  subst hl
  intro a ka
  unfold OpK
  simp only [hi]
  rw [if_pos (wantE_ok ka (o := ⟨some d, .call { callee := .value x, args, argTypes := ats }, ty, pos, af, g⟩) hw)]
  subst hws
  refine semW_call rfl (ka.eval hx) (map_ofL (fun x v hx => ka.eval hx) ha) (hc.mono ?_)
  rintro (v | p) h' δ' hq
  · exact ⟨.inr (hn v h' δ' hq).1, (hn v h' δ' hq).2 _ (ka.put v hd)⟩
  · exact hq.elim
theorem EA.tExtract {Γ : Type} {P : Program} {main : Bool} {S : Sit Γ} {f : FuncId} {n : Nat} {k : List Item} {env : Env} {ds : List Deferred} {h : Hp} {δ : Ix Γ} {R : Post Γ} {ops : Array Oper} {d : Nat} {ty : TypeId} {pos : String} {af : Array Edge} {g : Option (Nat × Bool)} {Z : Hp -> Prop} {zz : Nat} {m : Nat} {listed l' : Array Bool} (i : Nat) {x : Operand} {j : Nat} {vs : Array Value} {v : Value} (hi : ops[i]? = some ⟨some d, .extract x j, ty, pos, af, g⟩) (hs : takeB ops listed zz i = true) (hl : listed.setIfInBounds i true = l')
    (hd : Nat.blt d n = true) (hw : wantE ops env g = some true) (hx : ev env x = some (.tuple vs)) (hv : vs[j]? = some v) (hZ : Z h)
    (hn : EA P main S f n ops Z zz m l' k ((d, v) :: env) ds h δ R) : EA P main S f n ops Z zz (m + 1) listed k env ds h δ R :=
  EA.take i hi hs hl hd hw (fun ρ _ _ Q X hρ _ hq => by
    show SemW P S (Instr.extract (ρ x) j >>= fun v => pure (.value v)) _ _ Q X
    rw [hρ x _ hx]
    unfold Instr.extract
    simp only [hv]
    exact hq) hZ hn
def dlc (d : CD) (q : CCall) (vs : List Int) (e : Int) : Int := if 0 <= q.a /\ q.a < d.c.nC then (if q.op = 11 /\ e = 0 then 1 else if q.op = 12 /\ vs = [1] then -1 else 0) else 0
theorem dlc_zero {d : CD} {q : CCall} {vs : List Int} {e : Int} (h1 : q.op ≠ 11) (h2 : q.op ≠ 12) : dlc d q vs e = 0 := by
  unfold dlc
  split
  · rw [if_neg fun z => h1 z.1, if_neg fun z => h2 z.1]
  · rfl
def dlS (d : CD) (q : CCall) (e : Int) : Int := if (0 <= q.a /\ q.a < d.c.nC) /\ e = 0 then 1 else 0
def vsO (vs : List Int) : Obj := .cells (vs.map fun x => Value.int .i64 x).toArray 2 (0, 0)
def VOk (kept : List (Nat × Obj)) (vs : List Int) (vv : Value) : Prop := (vs = [] /\ vv = nilS) \/ ∃ b, vv = .slice (some ⟨b, 0, none⟩) vs.length vs.length /\ (b, vsO vs) ∈ kept
def TolR (d : CD) (i : Nat) (γ : GG (XC d)) (u : CU) (L : List (Nat × Obj)) (q : CCall) (w : Value) (h' : Hp) (δ' : Ix (GG (XC d))) : Prop :=
  ∃ (γ' : GG (XC d)) (u' : CU) (vs : List Int) (vv : Value) (e : Int), δ' = ⟨0, γ'⟩ /\ w = tolV vv e /\ VOk u'.kept vs vv /\ AtC d i γ' u' L h' (dlc d q vs e) /\ Go_ d i γ u γ' u'
theorem tolC_len {vv : Value} {e : Int} : (tolC vv e).length = 6 := by
  unfold tolC errC; split <;> rfl
theorem tolC_one {va : Option Addr} {vl vc : Nat} {e : Int} : ∀ v ∈ tolC (.slice va vl vc) e, OneCell v := by
  unfold tolC errC; split <;> simp [OneCell]
section
variable {d : CD} {x : WdS} {u u' u1 u2 : CU} {h h' h1 : Hp} {i : Nat} {γ γ' γ1 γ2 : GG (XC d)} {L L' : List (Nat × Obj)} {dl : Int} {t id m y : Nat} {H : List (Nat × Int)} {q : CCall}
theorem AtC.cast {dl' : Int} (a : AtC d i γ u L h dl) (e : dl = dl') : AtC d i γ u L h dl' := e ▸ a
theorem Go_.keepMore (g : Go_ d i γ u γ1 u1) (o : Nat × Obj) : Go_ d i γ u γ1 { u1 with kept := u1.kept ++ [o] } := ⟨g.al, g.hold, g.th, fun q hq => List.mem_append_left _ (g.kept q hq), g.len, g.tol⟩
theorem ckV_in {z : Nat} (e : q.a = z) (h : z < d.c.nC) : ckV d q = ptr (d.c.C z) := by unfold ckV; rw [if_pos ⟨by omega, by omega⟩, e]; rfl
theorem ckV_out (h : ¬ (0 <= q.a /\ q.a < d.c.nC)) : ckV d q = .pointer none := if_neg h
set_option maxRecDepth 8000 in
set_option maxHeartbeats 8000000 in
theorem coonclk (E : WdOk d x) (hR : ∀ m', m' < m -> RingC d i m') (a : AtC d i γ u L h 0) (hfr : freeI d.c (u.hold i) <= m) (hth : u.th i = ptr (γ.p.tb i)) (hto : (u.told i).length <= 31 * ownN i γ + 31) {k : Nat} : CallW Try.prog false (SitT Try.prog (PX (XC d)) (i + 1)) 108 #[ptr d.c.w, ptr (d.hb i), .agg (callE q).toArray, .int .i64 k] h ⟨0, γ⟩ (RetP (TolR d i γ u L q) (Halt (XC d) i γ.p)) := by
  have ok := E.ok
  have hi64 : i < 64 := Nat.lt_of_lt_of_le a.lt ok.nT
  obtain ⟨y6, hy6⟩ : ∃ y, y = h.size := ⟨_, rfl⟩
  obtain ⟨y8, hy8⟩ : ∃ y, y = (h.push (callO q)).size := ⟨_, rfl⟩
  have a0 := (a.alloc ok (callO q)).alloc ok (tolO z6)
  have hn8 := (a.alloc ok (callO q)).fresh
  refine CallW.start (n := 100) rfl rfl ?_
  refine EK.seq ?_
  refine EK.region ?_
  refine ER.boxA rfl rfl rfl ?_
  refine ER.allocA rfl rfl ?_
  refine ER.done ?_
  change EK _ _ _ _ _ _ _ _ ((h.push (callO q)).push (tolO z6)) _ _
  change EK _ _ _ _ _ _ ((8, ptr (h.push (callO q)).size) :: (6, ptr h.size) :: _) _ _ _ _
  rw [<- hy8] at a0 hn8 ⊢
  rw [<- hy6] at a0 hn8 ⊢
  have g6 := a0.own (q := (y6, callO q)) (List.mem_cons_of_mem _ List.mem_cons_self)
  generalize (h.push (callO q)).push (tolO z6) = h1 at a0 g6 ⊢
  have N := a0.wd E
  (repeat (first | refine EK.seq ?_ | refine EK.region ?_ | refine ER.move rfl rfl rfl ?_))
  refine ER.loadN (vs := callE q) rfl rfl rfl rfl (hrow_block (rest := []) (by rw [List.append_nil]; exact g6)) ?_
  skip
  refine ER.callR rfl rfl rfl rfl rfl (coclock N) ?_
  rintro _ h2 δ2 ⟨rfl, u2, rfl⟩
  have a2 := a0.upd0 ok u2
  clear N g6 a0 u2
  have g6 := a2.own (q := (y6, callO q)) (List.mem_cons_of_mem _ List.mem_cons_self)
  have c60 : hcell h2 ⟨y6, 0, none⟩ = some (.int .i64 q.op) := hcell_of g6 rfl
  have c62 : hcell h2 ⟨y6, 2, none⟩ = some (.int .i64 q.b) := hcell_of g6 rfl
  have c63 : hcell h2 ⟨y6, 3, none⟩ = some (.int .i64 q.c) := hcell_of g6 rfl
  have c65 : hcell h2 ⟨y6, 5, none⟩ = some (.int .i64 q.f) := hcell_of g6 rfl
  have hhd := a2.I.hnd i hi64
  rw [hth] at hhd
  have cH : hcell h2 ⟨d.hb i, 0, none⟩ = some (ptr (γ.p.tb i)) := hcell_of hhd rfl
  have go0 := Go_.refl d i γ u
  by_cases h10 : q.op = 10
  · rw [h10] at c60
    by_cases hin : 0 <= q.a /\ q.a < d.c.nC
    · obtain ⟨z, hz⟩ : ∃ z : Nat, q.a = z := ⟨q.a.toNat, by omega⟩
      have hzn : z < d.c.nC := by omega
      rw [ckV_in hz hzn]
      (repeat (first | refine EK.seq ?_ | refine EK.region ?_ | refine ER.done ?_ | refine EK.block ?_ | refine ER.move rfl rfl rfl ?_ | refine ER.assign rfl rfl rfl ?_ | refine ER.nilCheck rfl rfl rfl ?_ | refine ER.fieldAddr rfl rfl rfl ?_ | refine ER.load1 rfl rfl rfl (hcell_of (by assumption) rfl) ?_ | refine ER.cmpT rfl rfl rfl rfl rfl (by first | (dsimp only [cmpP]; omega) | exact rfl | exact Int.le_refl _) ?_ | refine EK.condT rfl ?_))
      refine ER.callP rfl rfl rfl rfl rfl (conow_T ok a2 hzn rfl) (fun _ _ _ y => y) ?_
      rintro _ h4 δ4 ⟨γ4, u4, w, rfl, rfl, a4, go4⟩
      skip
      refine ER.slice1 (sz := 1) (z := .int .i64 0) (cells := #[.int .i64 w]) rfl rfl rfl (by omega) (by omega) rfl rfl ?_
      have AB := a4.keep ok (vsO [w])
      have gb := go4.keepMore (h4.size, vsO [w])
      have hvok : VOk ({ u4 with kept := u4.kept ++ [(h4.size, vsO [w])] } : CU).kept [w] (.slice (some ⟨h4.size, 0, none⟩) ([w]).length ([w]).length) := .inr ⟨h4.size, rfl, List.mem_append_right _ (List.mem_singleton.2 rfl)⟩
      change ER _ _ _ _ _ _ _ _ _ _ (h4.push (vsO [w])) _ _
      skip
      refine ER.callR rfl rfl rfl rfl rfl (cotold_nil fun _ hb _ => AB.free (.inr (.inr hb))) ?_
      rintro _ h3 δ3 ⟨rfl, u3, rfl⟩
      have AC := AB.upd0 ok u3
      have g8 := AC.own (q := (y8, tolO z6)) List.mem_cons_self
      refine ER.storeN (vs := tolC (.slice (some ⟨h4.size, 0, none⟩) 1 1) 0) rfl rfl rfl tolC_len tolC_one (rowAll (c := z6) g8 rfl (fun _ => AC.free (.inr (.inl ⟨_, List.mem_cons_self, rfl⟩)))) ?_
      rw [row_set (c := z6) (vs := tolC (.slice (some ⟨h4.size, 0, none⟩) 1 1) 0) g8 (by rw [tolC_len]; rfl)]
      have a9 := AC.put ok (o := tolO (tolC (.slice (some ⟨h4.size, 0, none⟩) 1 1) 0)) hn8
      (repeat (first | refine ER.done ?_ | refine EK.ret ?_))
      exact EU.retCell1 (vs := tolC (.slice (some ⟨h4.size, 0, none⟩) 1 1) 0) rfl rfl tolC_len (hrow_block (rest := []) (by rw [List.append_nil]; exact a9.own (q := (y8, tolO (tolC (.slice (some ⟨h4.size, 0, none⟩) 1 1) 0))) List.mem_cons_self)) ⟨γ4, _, [w], (.slice (some ⟨h4.size, 0, none⟩) 1 1), 0, rfl, rfl, hvok, by rw [dlc_zero (by omega) (by omega)]; exact (a9.drop ok).drop ok, gb⟩
    · rw [ckV_out hin]
      (repeat (first | refine EK.seq ?_ | refine EK.region ?_ | refine ER.done ?_ | refine EK.block ?_ | refine ER.move rfl rfl rfl ?_ | refine ER.assign rfl rfl rfl ?_ | refine ER.nilCheck rfl rfl rfl ?_ | refine ER.fieldAddr rfl rfl rfl ?_ | refine ER.load1 rfl rfl rfl (hcell_of (by assumption) rfl) ?_ | refine ER.cmpT rfl rfl rfl rfl rfl (by first | (dsimp only [cmpP]; omega) | exact rfl | exact Int.le_refl _) ?_ | refine EK.condT rfl ?_))
      refine ER.callD rfl rfl rfl rfl rfl conow_nil ?_
      skip
      refine ER.slice1 (sz := 1) (z := .int .i64 0) (cells := #[.int .i64 0]) rfl rfl rfl (by omega) (by omega) rfl rfl ?_
      have AB := a2.keep ok (vsO [0])
      have gb := go0.keepMore (h2.size, vsO [0])
      have hvok : VOk ({ u with kept := u.kept ++ [(h2.size, vsO [0])] } : CU).kept [0] (.slice (some ⟨h2.size, 0, none⟩) ([0]).length ([0]).length) := .inr ⟨h2.size, rfl, List.mem_append_right _ (List.mem_singleton.2 rfl)⟩
      change ER _ _ _ _ _ _ _ _ _ _ (h2.push (vsO [0])) _ _
      skip
      refine ER.callR rfl rfl rfl rfl rfl (cotold_nil fun _ hb _ => AB.free (.inr (.inr hb))) ?_
      rintro _ h3 δ3 ⟨rfl, u3, rfl⟩
      have AC := AB.upd0 ok u3
      have g8 := AC.own (q := (y8, tolO z6)) List.mem_cons_self
      refine ER.storeN (vs := tolC (.slice (some ⟨h2.size, 0, none⟩) 1 1) 0) rfl rfl rfl tolC_len tolC_one (rowAll (c := z6) g8 rfl (fun _ => AC.free (.inr (.inl ⟨_, List.mem_cons_self, rfl⟩)))) ?_
      rw [row_set (c := z6) (vs := tolC (.slice (some ⟨h2.size, 0, none⟩) 1 1) 0) g8 (by rw [tolC_len]; rfl)]
      have a9 := AC.put ok (o := tolO (tolC (.slice (some ⟨h2.size, 0, none⟩) 1 1) 0)) hn8
      (repeat (first | refine ER.done ?_ | refine EK.ret ?_))
      exact EU.retCell1 (vs := tolC (.slice (some ⟨h2.size, 0, none⟩) 1 1) 0) rfl rfl tolC_len (hrow_block (rest := []) (by rw [List.append_nil]; exact a9.own (q := (y8, tolO (tolC (.slice (some ⟨h2.size, 0, none⟩) 1 1) 0))) List.mem_cons_self)) ⟨γ, _, [0], (.slice (some ⟨h2.size, 0, none⟩) 1 1), 0, rfl, rfl, hvok, by rw [dlc_zero (by omega) (by omega)]; exact (a9.drop ok).drop ok, gb⟩
  by_cases h11 : q.op = 11
  · rw [h11] at c60
    have zal : ∀ {γ' : GG (XC d)} {u' : CU} {L' : List (Nat × Obj)} {h' : Hp} {dl : Int}, AtC d i γ' u' L' h' dl -> (y6, callO q) ∈ L' -> u'.th i = u.th i -> hcell h' ⟨d.hb i, 0, none⟩ = some (ptr (γ.p.tb i)) /\ hcell h' ⟨y6, 2, none⟩ = some (.int .i64 q.b) /\ hcell h' ⟨y6, 5, none⟩ = some (.int .i64 q.f) := fun {γ' u' L' h' dl} b hb hu => by
      have g := b.own hb
      have g2 := b.I.hnd i hi64
      rw [hu, hth] at g2
      exact ⟨hcell_of g2 rfl, hcell_of g rfl, hcell_of g rfl⟩
    have m6 : (y6, callO q) ∈ (y8, tolO z6) :: (y6, callO q) :: L := List.mem_cons_of_mem _ List.mem_cons_self
    have hZ := zal a2 m6 rfl
    (repeat (first | refine EK.seq ?_ | refine EK.region ?_ | refine ER.done ?_ | refine EK.block ?_ | refine ER.assign rfl rfl rfl ?_ | refine ER.fieldAddr rfl rfl rfl ?_ | refine ER.load1 rfl rfl rfl (hcell_of (by assumption) rfl) ?_ | refine ER.cmpT rfl rfl rfl rfl rfl (by first | (dsimp only [cmpP]; omega) | exact rfl | exact Int.le_refl _) ?_ | refine ER.cmpF rfl rfl rfl rfl rfl (by first | (dsimp only [cmpP]; omega) | exact rfl | exact Int.le_refl _) ?_ | refine EK.condT rfl ?_ | refine EK.condF rfl ?_))
    refine EK.regionAnyM (fun z : Nat × GG (XC d) × CU × Int × Int × Int => [(11, .int .i64 z.2.2.2.2.2), (10, ptr z.1), (8, ptr y8)]) (fun z h' δ' => δ' = ⟨0, z.2.1⟩ /\ AtC d i z.2.1 z.2.2.1 ((z.1, timC z.2.2.2.1 z.2.2.2.2.1) :: (y8, tolO z6) :: (y6, callO q) :: L) h' (dlS d q z.2.2.2.2.2) /\ Go_ d i γ u z.2.1 z.2.2.1) (fun h' => hcell h' ⟨d.hb i, 0, none⟩ = some (ptr (γ.p.tb i)) /\ hcell h' ⟨y6, 2, none⟩ = some (.int .i64 q.b) /\ hcell h' ⟨y6, 5, none⟩ = some (.int .i64 q.f)) 18 (fun key => ?_) ?_
    · by_cases hin : 0 <= q.a /\ q.a < d.c.nC
      · obtain ⟨z, hz⟩ : ∃ z : Nat, q.a = z := ⟨q.a.toNat, by omega⟩
        have hzn : z < d.c.nC := by omega
        rw [ckV_in hz hzn]
        have hds : ∀ e, (if e = 0 then (1 : Int) else 0) = dlS d q e := fun e => by
          unfold dlS
          by_cases he : e = 0
          · rw [if_pos he, if_pos ⟨hin, he⟩]
          · rw [if_neg he, if_neg fun x => he x.2]
        refine EA.tMove 0 rfl (by kernel_rfl) rfl rfl rfl rfl hZ ?_
        refine EA.tMove 1 rfl (by kernel_rfl) rfl rfl rfl rfl hZ ?_
        refine EA.tNil 2 rfl (by kernel_rfl) rfl rfl rfl rfl hZ ?_
        refine EA.tField 3 rfl (by kernel_rfl) rfl rfl rfl rfl hZ ?_
        refine EA.tLoad 4 rfl (by kernel_rfl) rfl rfl rfl rfl (fun _ hz => hz.1) hZ ?_
        refine EA.tField 5 rfl (by kernel_rfl) rfl rfl rfl rfl hZ ?_
        refine EA.tLoad 6 rfl (by kernel_rfl) rfl rfl rfl rfl (fun _ hz => hz.2.1) hZ ?_
        refine EA.tMove 7 rfl (by kernel_rfl) rfl rfl rfl rfl hZ ?_
        refine EA.tField 8 rfl (by kernel_rfl) rfl rfl rfl rfl hZ ?_
        refine EA.tLoad 9 rfl (by kernel_rfl) rfl rfl rfl rfl (fun _ hz => hz.2.2) hZ ?_
        refine EA.tMove 10 rfl (by kernel_rfl) rfl rfl rfl rfl hZ ?_
        refine EA.alt2 11 16 (by kernel_rfl) ?_ ?_
        · refine eaiCallR (i := 11) rfl rfl rfl rfl rfl rfl rfl (cofunction E a2) ?_
          rintro fv h3 δ3 ⟨u3, rfl, a3, go3, hf3⟩
          refine ⟨zal a3 m6 go3.th, ?_⟩
          have hZ := zal a3 m6 go3.th
          refine EA.alt2 12 16 (by kernel_rfl) ?_ ?_
          · refine eaiCallP (i := 12) rfl rfl rfl rfl rfl rfl rfl (coset_T ok a3 hzn rfl hf3) (fun _ _ _ y => y.along go3.al) ?_
            rintro _ h4 δ4 ⟨γ4, u4, s, r, e, rfl, rfl, a4, go4⟩
            rw [hds] at a4
            have gg4 := go3.trans go4
            refine ⟨zal a4 m6 gg4.th, ?_⟩
            have hZ := zal a4 m6 gg4.th
            refine EA.tMove 13 rfl (by kernel_rfl) rfl rfl rfl rfl hZ ?_
            refine EA.tExtract 14 rfl (by kernel_rfl) rfl rfl rfl rfl rfl hZ ?_
            refine EA.tExtract 15 rfl (by kernel_rfl) rfl rfl rfl rfl rfl hZ ?_
            have a5 := a4.alloc ok (timC 0 0)
            have f5 := a4.fresh
            have hZ := zal a5 (List.mem_cons_of_mem _ m6) gg4.th
            refine EA.val (v := ptr h4.size) (h' := h4.push (timC 0 0)) 16 rfl (by kernel_rfl) rfl rfl rfl (fun ρ Q X hρ hq => sem_allocA hq) hZ ?_
            have g10 := a5.own (q := (h4.size, timC 0 0)) List.mem_cons_self
            have a6 := a5.put ok (o := timC s r) f5
            have hZ := zal a6 (List.mem_cons_of_mem _ m6) (gg4).th
            refine EA.unit (h' := ((h4.push (timC 0 0))).setIfInBounds h4.size (timC s r)) 17 rfl (by kernel_rfl) rfl rfl (fun ρ Q X hρ hq => sem_storeN (vs := [.int .i64 s, .int .i64 r]) (hρ _ _ rfl) (hρ _ _ rfl) rfl (by simp [OneCell]) (rowAll (c := [.int .i64 0, .int .i64 0]) g10 rfl (fun _ => a5.free (.inr (.inl ⟨_, List.mem_cons_self, rfl⟩)))) (by rw [row_set (c := [.int .i64 0, .int .i64 0]) (vs := [.int .i64 s, .int .i64 r]) g10 rfl]; exact hq)) hZ ?_
            refine EA.tAssign 18 rfl (by kernel_rfl) rfl rfl rfl rfl hZ ?_
            refine EA.done (by kernel_rfl) ?_
            exact EK.back (key (h4.size, γ4, u4, s, r, e) _ _ ⟨rfl, a6, gg4⟩) ⟨rfl, rfl, rfl, trivial⟩
          · have a3' := a3.alloc ok (timC 0 0)
            have f3 := a3.fresh
            have m7 := List.mem_cons_of_mem (h3.size, timC 0 0) m6
            have hZ := zal a3' m7 go3.th
            refine EAi.val (i := 16) (v := ptr h3.size) (h' := h3.push (timC 0 0)) rfl rfl rfl rfl (fun ρ Q X hρ hq => sem_allocA hq) hZ ?_
            refine eaCallP 12 rfl (by kernel_rfl) rfl rfl rfl rfl rfl rfl (coset_T ok a3' hzn rfl hf3) (fun _ _ _ y => y.along go3.al) ?_
            rintro _ h4 δ4 ⟨γ4, u4, s, r, e, rfl, rfl, a4, go4⟩
            rw [hds] at a4
            have gg4 := go3.trans go4
            refine ⟨zal a4 m7 gg4.th, ?_⟩
            have hZ := zal a4 m7 gg4.th
            refine EA.tMove 13 rfl (by kernel_rfl) rfl rfl rfl rfl hZ ?_
            refine EA.tExtract 14 rfl (by kernel_rfl) rfl rfl rfl rfl rfl hZ ?_
            refine EA.tExtract 15 rfl (by kernel_rfl) rfl rfl rfl rfl rfl hZ ?_
            have g10 := a4.own (q := (h3.size, timC 0 0)) List.mem_cons_self
            have a6 := a4.put ok (o := timC s r) f3
            have hZ := zal a6 (List.mem_cons_of_mem _ m6) (gg4).th
            refine EA.unit (h' := (h4).setIfInBounds h3.size (timC s r)) 17 rfl (by kernel_rfl) rfl rfl (fun ρ Q X hρ hq => sem_storeN (vs := [.int .i64 s, .int .i64 r]) (hρ _ _ rfl) (hρ _ _ rfl) rfl (by simp [OneCell]) (rowAll (c := [.int .i64 0, .int .i64 0]) g10 rfl (fun _ => a4.free (.inr (.inl ⟨_, List.mem_cons_self, rfl⟩)))) (by rw [row_set (c := [.int .i64 0, .int .i64 0]) (vs := [.int .i64 s, .int .i64 r]) g10 rfl]; exact hq)) hZ ?_
            refine EA.tAssign 18 rfl (by kernel_rfl) rfl rfl rfl rfl hZ ?_
            refine EA.done (by kernel_rfl) ?_
            exact EK.back (key (h3.size, γ4, u4, s, r, e) _ _ ⟨rfl, a6, gg4⟩) ⟨rfl, rfl, rfl, trivial⟩
        · have a2' := a2.alloc ok (timC 0 0)
          have f2 := a2.fresh
          have m7 := List.mem_cons_of_mem (h2.size, timC 0 0) m6
          have hZ := zal a2' m7 rfl
          refine EAi.val (i := 16) (v := ptr h2.size) (h' := h2.push (timC 0 0)) rfl rfl rfl rfl (fun ρ Q X hρ hq => sem_allocA hq) hZ ?_
          refine EA.callR 11 rfl (by kernel_rfl) rfl rfl rfl rfl rfl rfl (cofunction E a2') ?_
          rintro fv h3 δ3 ⟨u3, rfl, a3, go3, hf3⟩
          refine ⟨zal a3 m7 go3.th, ?_⟩
          have hZ := zal a3 m7 go3.th
          refine eaCallP 12 rfl (by kernel_rfl) rfl rfl rfl rfl rfl rfl (coset_T ok a3 hzn rfl hf3) (fun _ _ _ y => y.along go3.al) ?_
          rintro _ h4 δ4 ⟨γ4, u4, s, r, e, rfl, rfl, a4, go4⟩
          rw [hds] at a4
          have gg4 := go3.trans go4
          refine ⟨zal a4 m7 gg4.th, ?_⟩
          have hZ := zal a4 m7 gg4.th
          refine EA.tMove 13 rfl (by kernel_rfl) rfl rfl rfl rfl hZ ?_
          refine EA.tExtract 14 rfl (by kernel_rfl) rfl rfl rfl rfl rfl hZ ?_
          refine EA.tExtract 15 rfl (by kernel_rfl) rfl rfl rfl rfl rfl hZ ?_
          have g10 := a4.own (q := (h2.size, timC 0 0)) List.mem_cons_self
          have a6 := a4.put ok (o := timC s r) f2
          have hZ := zal a6 (List.mem_cons_of_mem _ m6) (gg4).th
          refine EA.unit (h' := (h4).setIfInBounds h2.size (timC s r)) 17 rfl (by kernel_rfl) rfl rfl (fun ρ Q X hρ hq => sem_storeN (vs := [.int .i64 s, .int .i64 r]) (hρ _ _ rfl) (hρ _ _ rfl) rfl (by simp [OneCell]) (rowAll (c := [.int .i64 0, .int .i64 0]) g10 rfl (fun _ => a4.free (.inr (.inl ⟨_, List.mem_cons_self, rfl⟩)))) (by rw [row_set (c := [.int .i64 0, .int .i64 0]) (vs := [.int .i64 s, .int .i64 r]) g10 rfl]; exact hq)) hZ ?_
          refine EA.tAssign 18 rfl (by kernel_rfl) rfl rfl rfl rfl hZ ?_
          refine EA.done (by kernel_rfl) ?_
          exact EK.back (key (h2.size, γ4, u4, s, r, e) _ _ ⟨rfl, a6, gg4⟩) ⟨rfl, rfl, rfl, trivial⟩
      · rw [ckV_out hin]
        have hds : (0 : Int) = dlS d q 2 := (if_neg fun x => hin x.1).symm
        refine EA.tMove 0 rfl (by kernel_rfl) rfl rfl rfl rfl hZ ?_
        refine EA.tMove 1 rfl (by kernel_rfl) rfl rfl rfl rfl hZ ?_
        refine EA.tNil 2 rfl (by kernel_rfl) rfl rfl rfl rfl hZ ?_
        refine EA.tField 3 rfl (by kernel_rfl) rfl rfl rfl rfl hZ ?_
        refine EA.tLoad 4 rfl (by kernel_rfl) rfl rfl rfl rfl (fun _ hz => hz.1) hZ ?_
        refine EA.tField 5 rfl (by kernel_rfl) rfl rfl rfl rfl hZ ?_
        refine EA.tLoad 6 rfl (by kernel_rfl) rfl rfl rfl rfl (fun _ hz => hz.2.1) hZ ?_
        refine EA.tMove 7 rfl (by kernel_rfl) rfl rfl rfl rfl hZ ?_
        refine EA.tField 8 rfl (by kernel_rfl) rfl rfl rfl rfl hZ ?_
        refine EA.tLoad 9 rfl (by kernel_rfl) rfl rfl rfl rfl (fun _ hz => hz.2.2) hZ ?_
        refine EA.tMove 10 rfl (by kernel_rfl) rfl rfl rfl rfl hZ ?_
        refine EA.alt2 11 16 (by kernel_rfl) ?_ ?_
        · refine eaiCallR (i := 11) rfl rfl rfl rfl rfl rfl rfl (cofunction E a2) ?_
          rintro fv h3 δ3 ⟨u3, rfl, a3, go3, hf3⟩
          refine ⟨zal a3 m6 go3.th, ?_⟩
          have hZ := zal a3 m6 go3.th
          refine EA.alt2 12 16 (by kernel_rfl) ?_ ?_
          · refine eaiCallR (i := 12) rfl rfl rfl rfl rfl rfl rfl (coset_nil fun _ => a3.free (.inr (.inr (Nat.le_refl _)))) ?_
            rintro _ h4 δ4 ⟨rfl, u4, rfl⟩
            have a4 := ((a3).upd0 ok u4).cast hds
            refine ⟨zal a4 m6 go3.th, ?_⟩
            have hZ := zal a4 m6 go3.th
            refine EA.tMove 13 rfl (by kernel_rfl) rfl rfl rfl rfl hZ ?_
            refine EA.tExtract 14 rfl (by kernel_rfl) rfl rfl rfl rfl rfl hZ ?_
            refine EA.tExtract 15 rfl (by kernel_rfl) rfl rfl rfl rfl rfl hZ ?_
            have a5 := a4.alloc ok (timC 0 0)
            have f5 := a4.fresh
            have hZ := zal a5 (List.mem_cons_of_mem _ m6) go3.th
            refine EA.val (v := ptr h4.size) (h' := h4.push (timC 0 0)) 16 rfl (by kernel_rfl) rfl rfl rfl (fun ρ Q X hρ hq => sem_allocA hq) hZ ?_
            have g10 := a5.own (q := (h4.size, timC 0 0)) List.mem_cons_self
            have a6 := a5.put ok (o := timC 0 0) f5
            have hZ := zal a6 (List.mem_cons_of_mem _ m6) (go3).th
            refine EA.unit (h' := ((h4.push (timC 0 0))).setIfInBounds h4.size (timC 0 0)) 17 rfl (by kernel_rfl) rfl rfl (fun ρ Q X hρ hq => sem_storeN (vs := [.int .i64 0, .int .i64 0]) (hρ _ _ rfl) (hρ _ _ rfl) rfl (by simp [OneCell]) (rowAll (c := [.int .i64 0, .int .i64 0]) g10 rfl (fun _ => a5.free (.inr (.inl ⟨_, List.mem_cons_self, rfl⟩)))) (by rw [row_set (c := [.int .i64 0, .int .i64 0]) (vs := [.int .i64 0, .int .i64 0]) g10 rfl]; exact hq)) hZ ?_
            refine EA.tAssign 18 rfl (by kernel_rfl) rfl rfl rfl rfl hZ ?_
            refine EA.done (by kernel_rfl) ?_
            exact EK.back (key (h4.size, γ, u3, 0, 0, 2) _ _ ⟨rfl, a6, go3⟩) ⟨rfl, rfl, rfl, trivial⟩
          · have a3' := a3.alloc ok (timC 0 0)
            have f3 := a3.fresh
            have m7 := List.mem_cons_of_mem (h3.size, timC 0 0) m6
            have hZ := zal a3' m7 go3.th
            refine EAi.val (i := 16) (v := ptr h3.size) (h' := h3.push (timC 0 0)) rfl rfl rfl rfl (fun ρ Q X hρ hq => sem_allocA hq) hZ ?_
            refine EA.callR 12 rfl (by kernel_rfl) rfl rfl rfl rfl rfl rfl (coset_nil fun _ => a3'.free (.inr (.inr (Nat.le_refl _)))) ?_
            rintro _ h4 δ4 ⟨rfl, u4, rfl⟩
            have a4 := ((a3').upd0 ok u4).cast hds
            refine ⟨zal a4 m7 go3.th, ?_⟩
            have hZ := zal a4 m7 go3.th
            refine EA.tMove 13 rfl (by kernel_rfl) rfl rfl rfl rfl hZ ?_
            refine EA.tExtract 14 rfl (by kernel_rfl) rfl rfl rfl rfl rfl hZ ?_
            refine EA.tExtract 15 rfl (by kernel_rfl) rfl rfl rfl rfl rfl hZ ?_
            have g10 := a4.own (q := (h3.size, timC 0 0)) List.mem_cons_self
            have a6 := a4.put ok (o := timC 0 0) f3
            have hZ := zal a6 (List.mem_cons_of_mem _ m6) (go3).th
            refine EA.unit (h' := (h4).setIfInBounds h3.size (timC 0 0)) 17 rfl (by kernel_rfl) rfl rfl (fun ρ Q X hρ hq => sem_storeN (vs := [.int .i64 0, .int .i64 0]) (hρ _ _ rfl) (hρ _ _ rfl) rfl (by simp [OneCell]) (rowAll (c := [.int .i64 0, .int .i64 0]) g10 rfl (fun _ => a4.free (.inr (.inl ⟨_, List.mem_cons_self, rfl⟩)))) (by rw [row_set (c := [.int .i64 0, .int .i64 0]) (vs := [.int .i64 0, .int .i64 0]) g10 rfl]; exact hq)) hZ ?_
            refine EA.tAssign 18 rfl (by kernel_rfl) rfl rfl rfl rfl hZ ?_
            refine EA.done (by kernel_rfl) ?_
            exact EK.back (key (h3.size, γ, u3, 0, 0, 2) _ _ ⟨rfl, a6, go3⟩) ⟨rfl, rfl, rfl, trivial⟩
        · have a2' := a2.alloc ok (timC 0 0)
          have f2 := a2.fresh
          have m7 := List.mem_cons_of_mem (h2.size, timC 0 0) m6
          have hZ := zal a2' m7 rfl
          refine EAi.val (i := 16) (v := ptr h2.size) (h' := h2.push (timC 0 0)) rfl rfl rfl rfl (fun ρ Q X hρ hq => sem_allocA hq) hZ ?_
          refine EA.callR 11 rfl (by kernel_rfl) rfl rfl rfl rfl rfl rfl (cofunction E a2') ?_
          rintro fv h3 δ3 ⟨u3, rfl, a3, go3, hf3⟩
          refine ⟨zal a3 m7 go3.th, ?_⟩
          have hZ := zal a3 m7 go3.th
          refine EA.callR 12 rfl (by kernel_rfl) rfl rfl rfl rfl rfl rfl (coset_nil fun _ => a3.free (.inr (.inr (Nat.le_refl _)))) ?_
          rintro _ h4 δ4 ⟨rfl, u4, rfl⟩
          have a4 := ((a3).upd0 ok u4).cast hds
          refine ⟨zal a4 m7 go3.th, ?_⟩
          have hZ := zal a4 m7 go3.th
          refine EA.tMove 13 rfl (by kernel_rfl) rfl rfl rfl rfl hZ ?_
          refine EA.tExtract 14 rfl (by kernel_rfl) rfl rfl rfl rfl rfl hZ ?_
          refine EA.tExtract 15 rfl (by kernel_rfl) rfl rfl rfl rfl rfl hZ ?_
          have g10 := a4.own (q := (h2.size, timC 0 0)) List.mem_cons_self
          have a6 := a4.put ok (o := timC 0 0) f2
          have hZ := zal a6 (List.mem_cons_of_mem _ m6) (go3).th
          refine EA.unit (h' := (h4).setIfInBounds h2.size (timC 0 0)) 17 rfl (by kernel_rfl) rfl rfl (fun ρ Q X hρ hq => sem_storeN (vs := [.int .i64 0, .int .i64 0]) (hρ _ _ rfl) (hρ _ _ rfl) rfl (by simp [OneCell]) (rowAll (c := [.int .i64 0, .int .i64 0]) g10 rfl (fun _ => a4.free (.inr (.inl ⟨_, List.mem_cons_self, rfl⟩)))) (by rw [row_set (c := [.int .i64 0, .int .i64 0]) (vs := [.int .i64 0, .int .i64 0]) g10 rfl]; exact hq)) hZ ?_
          refine EA.tAssign 18 rfl (by kernel_rfl) rfl rfl rfl rfl hZ ?_
          refine EA.done (by kernel_rfl) ?_
          exact EK.back (key (h2.size, γ, u3, 0, 0, 2) _ _ ⟨rfl, a6, go3⟩) ⟨rfl, rfl, rfl, trivial⟩
    · clear hZ
      rintro ⟨y10, γ3, u3, s, r, e⟩ h3 δ3 ⟨hδ, a3, go3⟩
      dsimp only at hδ a3 go3 ⊢
      subst hδ
      have g10 := a3.own (q := (y10, timC s r)) List.mem_cons_self
      have c0 : hcell h3 ⟨y10, 0, none⟩ = some (.int .i64 s) := hcell_of g10 rfl
      have c1 : hcell h3 ⟨y10, 1, none⟩ = some (.int .i64 r) := hcell_of g10 rfl
      have a4 := a3.drop ok
      have hd11 : dlS d q e = dlc d q [s, r] e := by
        unfold dlS dlc
        by_cases hin : 0 <= q.a /\ q.a < d.c.nC
        · rw [if_pos hin]
          by_cases he : e = 0
          · rw [if_pos ⟨hin, he⟩, if_pos ⟨h11, he⟩]
          · rw [if_neg fun x => he x.2, if_neg fun x => he x.2, if_neg fun x => by omega]
        · rw [if_neg fun x => hin x.1, if_neg hin]
      (repeat (first | refine EK.seq ?_ | refine EK.region ?_ | refine ER.move rfl rfl rfl ?_))
      refine ER.mkIface (by rfl) rfl rfl rfl (fun _ z => by cases z) ?_
      (repeat (first | refine ER.fieldAddr rfl rfl rfl ?_ | refine ER.load1 rfl rfl rfl (hcell_of (by assumption) rfl) ?_))
      refine ER.sliceN (sz := 1) (z := .int .i64 0) (cells := #[.int .i64 s, .int .i64 r]) rfl rfl rfl (by omega) (by omega) (by kernel_rfl) ?_
      have AB := a4.keep ok (vsO [s, r])
      have gb := go3.keepMore (h3.size, vsO [s, r])
      have hvok : VOk ({ u3 with kept := u3.kept ++ [(h3.size, vsO [s, r])] } : CU).kept [s, r] (.slice (some ⟨h3.size, 0, none⟩) ([s, r]).length ([s, r]).length) := .inr ⟨h3.size, rfl, List.mem_append_right _ (List.mem_singleton.2 rfl)⟩
      change ER _ _ _ _ _ _ _ _ _ _ (h3.push (vsO [s, r])) _ _
      skip
      refine ER.callR rfl rfl rfl rfl rfl (cotold_val fun _ hb _ => AB.free (.inr (.inr hb))) ?_
      rintro _ h5 δ5 ⟨rfl, u5, rfl⟩
      have AC := AB.upd0 ok u5
      have g8 := AC.own (q := (y8, tolO z6)) List.mem_cons_self
      refine ER.storeN (vs := tolC (.slice (some ⟨h3.size, 0, none⟩) 2 2) e) rfl rfl rfl tolC_len tolC_one (rowAll (c := z6) g8 rfl (fun _ => AC.free (.inr (.inl ⟨_, List.mem_cons_self, rfl⟩)))) ?_
      rw [row_set (c := z6) (vs := tolC (.slice (some ⟨h3.size, 0, none⟩) 2 2) e) g8 (by rw [tolC_len]; rfl)]
      have a9 := AC.put ok (o := tolO (tolC (.slice (some ⟨h3.size, 0, none⟩) 2 2) e)) hn8
      (repeat (first | refine ER.done ?_ | refine EK.ret ?_))
      exact EU.retCell1 (vs := tolC (.slice (some ⟨h3.size, 0, none⟩) 2 2) e) rfl rfl tolC_len (hrow_block (rest := []) (by rw [List.append_nil]; exact a9.own (q := (y8, tolO (tolC (.slice (some ⟨h3.size, 0, none⟩) 2 2) e))) List.mem_cons_self)) ⟨γ3, _, [s, r], (.slice (some ⟨h3.size, 0, none⟩) 2 2), e, rfl, rfl, hvok, by rw [hd11.symm]; exact (a9.drop ok).drop ok, gb⟩
  by_cases h12 : q.op = 12
  · rw [h12] at c60
    have zal : ∀ {γ' : GG (XC d)} {u' : CU} {L' : List (Nat × Obj)} {h' : Hp} {dl : Int}, AtC d i γ' u' L' h' dl -> (y6, callO q) ∈ L' -> u'.th i = u.th i -> hcell h' ⟨d.hb i, 0, none⟩ = some (ptr (γ.p.tb i)) /\ hcell h' ⟨y6, 3, none⟩ = some (.int .i64 q.c) := fun {γ' u' L' h' dl} b hb hu => by
      have g := b.own hb
      have g2 := b.I.hnd i hi64
      rw [hu, hth] at g2
      exact ⟨hcell_of g2 rfl, hcell_of g rfl⟩
    have m6 : (y6, callO q) ∈ (y8, tolO z6) :: (y6, callO q) :: L := List.mem_cons_of_mem _ List.mem_cons_self
    have hZ := zal a2 m6 rfl
    by_cases hb0 : 0 <= q.b
    · by_cases hb1 : q.b < 16
      · (repeat (first | refine EK.seq ?_ | refine EK.region ?_ | refine ER.done ?_ | refine EK.block ?_ | refine ER.move rfl rfl rfl ?_ | refine ER.assign rfl rfl rfl ?_ | refine ER.fieldAddr rfl rfl rfl ?_ | refine ER.load1 rfl rfl rfl (hcell_of (by assumption) rfl) ?_ | refine ER.pickT rfl rfl rfl rfl ?_ | refine ER.cmpT rfl rfl rfl rfl rfl (by first | (dsimp only [cmpP]; omega) | exact rfl | exact Int.le_refl _) ?_ | refine ER.cmpF rfl rfl rfl rfl rfl (by first | (dsimp only [cmpP]; omega) | exact rfl | exact Int.le_refl _) ?_ | refine EK.condT rfl ?_ | refine EK.condF rfl ?_))
        refine EK.regionAnyL (fun h' => hcell h' ⟨d.hb i, 0, none⟩ = some (ptr (γ.p.tb i)) /\ hcell h' ⟨y6, 3, none⟩ = some (.int .i64 q.c)) 13 ?_
        refine EA.tMove 0 rfl (by kernel_rfl) rfl rfl rfl rfl hZ ?_
        refine EA.tMove 1 rfl (by kernel_rfl) rfl rfl rfl rfl hZ ?_
        refine EA.tNil 2 rfl (by kernel_rfl) rfl rfl rfl rfl hZ ?_
        refine EA.tField 3 rfl (by kernel_rfl) rfl rfl rfl rfl hZ ?_
        refine EA.tLoad 4 rfl (by kernel_rfl) rfl rfl rfl rfl (fun _ hz => hz.1) hZ ?_
        refine EA.tMove 5 rfl (by kernel_rfl) rfl rfl rfl rfl hZ ?_
        refine EA.tField 6 rfl (by kernel_rfl) rfl rfl rfl rfl hZ ?_
        refine EA.tLoad 7 rfl (by kernel_rfl) rfl rfl rfl rfl (fun _ hz => hz.2) hZ ?_
        refine EA.val (v := .agg #[.int .i64 q.b, .int .i64 q.c]) (h' := h2) 8 rfl (by kernel_rfl) rfl rfl rfl (fun ρ Q X hρ hq => sem_buildS (parts := [(0, .int .i64 q.b), (1, .int .i64 q.c)]) hρ rfl rfl hq) hZ ?_
        by_cases hin : 0 <= q.a /\ q.a < d.c.nC
        · obtain ⟨z, hz⟩ : ∃ z : Nat, q.a = z := ⟨q.a.toNat, by omega⟩
          have hzn : z < d.c.nC := by omega
          rw [ckV_in hz hzn]
          refine eaCallP 9 rfl (by kernel_rfl) rfl rfl rfl rfl rfl rfl (costop_T ok a2 hzn rfl) (fun _ _ _ y => y) ?_
          rintro _ h4 δ4 ⟨γ4, u4, b, rfl, rfl, a4, go4⟩
          refine ⟨zal a4 m6 go4.th, ?_⟩
          have hZ := zal a4 m6 go4.th
          have hDD : ∀ w : Int, w = (if b = true then 1 else 0) -> (if b = true then (-1 : Int) else 0) = dlc d q [w] 0 := fun w hw => by
            rw [hw]; unfold dlc; rw [if_pos hin, if_neg (show ¬ (q.op = 11 /\ (0 : Int) = 0) from fun x => by omega)]; cases b <;> simp [h12]
          refine EA.callD 10 rfl (by kernel_rfl) rfl rfl rfl rfl rfl rfl coone hZ ?_
          obtain ⟨w, hw⟩ : ∃ w : Int, w = (if b = true then 1 else 0) := ⟨_, rfl⟩
          have AA := a4.cast (dl' := dlc d q [w] 0) (hDD w hw)
          rw [<- hw]
          have AB := AA.keep ok (vsO [w])
          have gb := go4.keepMore (h4.size, vsO [w])
          have hvok : VOk ({ u4 with kept := u4.kept ++ [(h4.size, vsO [w])] } : CU).kept [w] (.slice (some ⟨h4.size, 0, none⟩) 1 1) := .inr ⟨h4.size, rfl, List.mem_append_right _ (List.mem_singleton.2 rfl)⟩
          have hZ := zal AB m6 go4.th
          refine EA.val (v := .slice (some ⟨h4.size, 0, none⟩) 1 1) (h' := h4.push (vsO [w])) 11 rfl (by kernel_rfl) rfl rfl rfl (fun ρ Q X hρ hq => sem_slice1 (sz := 1) (z := .int .i64 0) hρ rfl (by omega) (by omega) rfl rfl hq) hZ ?_
          refine EA.callR 12 rfl (by kernel_rfl) rfl rfl rfl rfl rfl rfl (cotold_nil fun _ hb _ => AB.free (.inr (.inr hb))) ?_
          rintro _ h5 δ5 ⟨rfl, u5, rfl⟩
          have AC := AB.upd0 ok u5
          refine ⟨zal AC m6 go4.th, ?_⟩
          have g8 := AC.own (q := (y8, tolO z6)) List.mem_cons_self
          have a9 := AC.put ok (o := tolO (tolC (.slice (some ⟨h4.size, 0, none⟩) 1 1) 0)) hn8
          refine EA.unitL (h' := h5.setIfInBounds y8 (tolO (tolC (.slice (some ⟨h4.size, 0, none⟩) 1 1) 0))) 13 rfl (by kernel_rfl) rfl rfl rfl (fun ρ Q X hρ hq => sem_storeN (vs := tolC (.slice (some ⟨h4.size, 0, none⟩) 1 1) 0) (hρ _ _ rfl) (hρ _ _ rfl) tolC_len tolC_one (rowAll (c := z6) g8 rfl (fun _ => AC.free (.inr (.inl ⟨_, List.mem_cons_self, rfl⟩)))) (by rw [row_set (c := z6) (vs := tolC (.slice (some ⟨h4.size, 0, none⟩) 1 1) 0) g8 (by rw [tolC_len]; rfl)]; exact hq)) ?_
          refine EA.done (by kernel_rfl) ?_
          (repeat refine EK.ret ?_)
          exact EU.retCell1 (vs := tolC (.slice (some ⟨h4.size, 0, none⟩) 1 1) 0) rfl rfl tolC_len (hrow_block (rest := []) (by rw [List.append_nil]; exact a9.own (q := (y8, tolO (tolC (.slice (some ⟨h4.size, 0, none⟩) 1 1) 0))) List.mem_cons_self)) ⟨γ4, _, [w], _, 0, rfl, rfl, hvok, (a9.drop ok).drop ok, gb⟩
        · rw [ckV_out hin]
          refine EA.callR 9 rfl (by kernel_rfl) rfl rfl rfl rfl rfl rfl costop_nil ?_
          rintro _ h4 δ4 ⟨rfl, u24, rfl⟩
          have a4 := a2.upd0 ok u24
          refine ⟨zal a4 m6 rfl, ?_⟩
          have hZ := zal a4 m6 rfl
          have go4 := go0
          have hDD : ∀ w : Int, w = (if false = true then 1 else 0) -> (0 : Int) = dlc d q [w] 0 := fun w _ => by
            unfold dlc; rw [if_neg hin]
          refine EA.callD 10 rfl (by kernel_rfl) rfl rfl rfl rfl rfl rfl coone hZ ?_
          obtain ⟨w, hw⟩ : ∃ w : Int, w = (if false = true then 1 else 0) := ⟨_, rfl⟩
          have AA := a4.cast (dl' := dlc d q [w] 0) (hDD w hw)
          rw [<- hw]
          have AB := AA.keep ok (vsO [w])
          have gb := go4.keepMore (h4.size, vsO [w])
          have hvok : VOk ({ u with kept := u.kept ++ [(h4.size, vsO [w])] } : CU).kept [w] (.slice (some ⟨h4.size, 0, none⟩) 1 1) := .inr ⟨h4.size, rfl, List.mem_append_right _ (List.mem_singleton.2 rfl)⟩
          have hZ := zal AB m6 go4.th
          refine EA.val (v := .slice (some ⟨h4.size, 0, none⟩) 1 1) (h' := h4.push (vsO [w])) 11 rfl (by kernel_rfl) rfl rfl rfl (fun ρ Q X hρ hq => sem_slice1 (sz := 1) (z := .int .i64 0) hρ rfl (by omega) (by omega) rfl rfl hq) hZ ?_
          refine EA.callR 12 rfl (by kernel_rfl) rfl rfl rfl rfl rfl rfl (cotold_nil fun _ hb _ => AB.free (.inr (.inr hb))) ?_
          rintro _ h5 δ5 ⟨rfl, u5, rfl⟩
          have AC := AB.upd0 ok u5
          refine ⟨zal AC m6 go4.th, ?_⟩
          have g8 := AC.own (q := (y8, tolO z6)) List.mem_cons_self
          have a9 := AC.put ok (o := tolO (tolC (.slice (some ⟨h4.size, 0, none⟩) 1 1) 0)) hn8
          refine EA.unitL (h' := h5.setIfInBounds y8 (tolO (tolC (.slice (some ⟨h4.size, 0, none⟩) 1 1) 0))) 13 rfl (by kernel_rfl) rfl rfl rfl (fun ρ Q X hρ hq => sem_storeN (vs := tolC (.slice (some ⟨h4.size, 0, none⟩) 1 1) 0) (hρ _ _ rfl) (hρ _ _ rfl) tolC_len tolC_one (rowAll (c := z6) g8 rfl (fun _ => AC.free (.inr (.inl ⟨_, List.mem_cons_self, rfl⟩)))) (by rw [row_set (c := z6) (vs := tolC (.slice (some ⟨h4.size, 0, none⟩) 1 1) 0) g8 (by rw [tolC_len]; rfl)]; exact hq)) ?_
          refine EA.done (by kernel_rfl) ?_
          (repeat refine EK.ret ?_)
          exact EU.retCell1 (vs := tolC (.slice (some ⟨h4.size, 0, none⟩) 1 1) 0) rfl rfl tolC_len (hrow_block (rest := []) (by rw [List.append_nil]; exact a9.own (q := (y8, tolO (tolC (.slice (some ⟨h4.size, 0, none⟩) 1 1) 0))) List.mem_cons_self)) ⟨γ, _, [w], _, 0, rfl, rfl, hvok, (a9.drop ok).drop ok, gb⟩
      · (repeat (first | refine EK.seq ?_ | refine EK.region ?_ | refine ER.done ?_ | refine EK.skip ?_ | refine EK.block ?_ | refine ER.move rfl rfl rfl ?_ | refine ER.assign rfl rfl rfl ?_ | refine ER.fieldAddr rfl rfl rfl ?_ | refine ER.load1 rfl rfl rfl (hcell_of (by assumption) rfl) ?_ | refine ER.pickT rfl rfl rfl rfl ?_ | refine ER.cmpT rfl rfl rfl rfl rfl (by first | (dsimp only [cmpP]; omega) | exact rfl | exact Int.le_refl _) ?_ | refine ER.cmpF rfl rfl rfl rfl rfl (by first | (dsimp only [cmpP]; omega) | exact rfl | exact Int.le_refl _) ?_ | refine EK.condT rfl ?_ | refine EK.condF rfl ?_))
        refine EK.regionAnyL (fun h' => hcell h' ⟨d.hb i, 0, none⟩ = some (ptr (γ.p.tb i)) /\ hcell h' ⟨y6, 3, none⟩ = some (.int .i64 q.c)) 13 ?_
        refine EA.tMove 0 rfl (by kernel_rfl) rfl rfl rfl rfl hZ ?_
        refine EA.tMove 1 rfl (by kernel_rfl) rfl rfl rfl rfl hZ ?_
        refine EA.tNil 2 rfl (by kernel_rfl) rfl rfl rfl rfl hZ ?_
        refine EA.tField 3 rfl (by kernel_rfl) rfl rfl rfl rfl hZ ?_
        refine EA.tLoad 4 rfl (by kernel_rfl) rfl rfl rfl rfl (fun _ hz => hz.1) hZ ?_
        refine EA.tMove 5 rfl (by kernel_rfl) rfl rfl rfl rfl hZ ?_
        refine EA.tField 6 rfl (by kernel_rfl) rfl rfl rfl rfl hZ ?_
        refine EA.tLoad 7 rfl (by kernel_rfl) rfl rfl rfl rfl (fun _ hz => hz.2) hZ ?_
        refine EA.val (v := .agg #[.int .i64 (-1), .int .i64 q.c]) (h' := h2) 8 rfl (by kernel_rfl) rfl rfl rfl (fun ρ Q X hρ hq => sem_buildS (parts := [(0, .int .i64 (-1)), (1, .int .i64 q.c)]) hρ rfl rfl hq) hZ ?_
        by_cases hin : 0 <= q.a /\ q.a < d.c.nC
        · obtain ⟨z, hz⟩ : ∃ z : Nat, q.a = z := ⟨q.a.toNat, by omega⟩
          have hzn : z < d.c.nC := by omega
          rw [ckV_in hz hzn]
          refine eaCallP 9 rfl (by kernel_rfl) rfl rfl rfl rfl rfl rfl (costop_T ok a2 hzn rfl) (fun _ _ _ y => y) ?_
          rintro _ h4 δ4 ⟨γ4, u4, b, rfl, rfl, a4, go4⟩
          refine ⟨zal a4 m6 go4.th, ?_⟩
          have hZ := zal a4 m6 go4.th
          have hDD : ∀ w : Int, w = (if b = true then 1 else 0) -> (if b = true then (-1 : Int) else 0) = dlc d q [w] 0 := fun w hw => by
            rw [hw]; unfold dlc; rw [if_pos hin, if_neg (show ¬ (q.op = 11 /\ (0 : Int) = 0) from fun x => by omega)]; cases b <;> simp [h12]
          refine EA.callD 10 rfl (by kernel_rfl) rfl rfl rfl rfl rfl rfl coone hZ ?_
          obtain ⟨w, hw⟩ : ∃ w : Int, w = (if b = true then 1 else 0) := ⟨_, rfl⟩
          have AA := a4.cast (dl' := dlc d q [w] 0) (hDD w hw)
          rw [<- hw]
          have AB := AA.keep ok (vsO [w])
          have gb := go4.keepMore (h4.size, vsO [w])
          have hvok : VOk ({ u4 with kept := u4.kept ++ [(h4.size, vsO [w])] } : CU).kept [w] (.slice (some ⟨h4.size, 0, none⟩) 1 1) := .inr ⟨h4.size, rfl, List.mem_append_right _ (List.mem_singleton.2 rfl)⟩
          have hZ := zal AB m6 go4.th
          refine EA.val (v := .slice (some ⟨h4.size, 0, none⟩) 1 1) (h' := h4.push (vsO [w])) 11 rfl (by kernel_rfl) rfl rfl rfl (fun ρ Q X hρ hq => sem_slice1 (sz := 1) (z := .int .i64 0) hρ rfl (by omega) (by omega) rfl rfl hq) hZ ?_
          refine EA.callR 12 rfl (by kernel_rfl) rfl rfl rfl rfl rfl rfl (cotold_nil fun _ hb _ => AB.free (.inr (.inr hb))) ?_
          rintro _ h5 δ5 ⟨rfl, u5, rfl⟩
          have AC := AB.upd0 ok u5
          refine ⟨zal AC m6 go4.th, ?_⟩
          have g8 := AC.own (q := (y8, tolO z6)) List.mem_cons_self
          have a9 := AC.put ok (o := tolO (tolC (.slice (some ⟨h4.size, 0, none⟩) 1 1) 0)) hn8
          refine EA.unitL (h' := h5.setIfInBounds y8 (tolO (tolC (.slice (some ⟨h4.size, 0, none⟩) 1 1) 0))) 13 rfl (by kernel_rfl) rfl rfl rfl (fun ρ Q X hρ hq => sem_storeN (vs := tolC (.slice (some ⟨h4.size, 0, none⟩) 1 1) 0) (hρ _ _ rfl) (hρ _ _ rfl) tolC_len tolC_one (rowAll (c := z6) g8 rfl (fun _ => AC.free (.inr (.inl ⟨_, List.mem_cons_self, rfl⟩)))) (by rw [row_set (c := z6) (vs := tolC (.slice (some ⟨h4.size, 0, none⟩) 1 1) 0) g8 (by rw [tolC_len]; rfl)]; exact hq)) ?_
          refine EA.done (by kernel_rfl) ?_
          (repeat refine EK.ret ?_)
          exact EU.retCell1 (vs := tolC (.slice (some ⟨h4.size, 0, none⟩) 1 1) 0) rfl rfl tolC_len (hrow_block (rest := []) (by rw [List.append_nil]; exact a9.own (q := (y8, tolO (tolC (.slice (some ⟨h4.size, 0, none⟩) 1 1) 0))) List.mem_cons_self)) ⟨γ4, _, [w], _, 0, rfl, rfl, hvok, (a9.drop ok).drop ok, gb⟩
        · rw [ckV_out hin]
          refine EA.callR 9 rfl (by kernel_rfl) rfl rfl rfl rfl rfl rfl costop_nil ?_
          rintro _ h4 δ4 ⟨rfl, u24, rfl⟩
          have a4 := a2.upd0 ok u24
          refine ⟨zal a4 m6 rfl, ?_⟩
          have hZ := zal a4 m6 rfl
          have go4 := go0
          have hDD : ∀ w : Int, w = (if false = true then 1 else 0) -> (0 : Int) = dlc d q [w] 0 := fun w _ => by
            unfold dlc; rw [if_neg hin]
          refine EA.callD 10 rfl (by kernel_rfl) rfl rfl rfl rfl rfl rfl coone hZ ?_
          obtain ⟨w, hw⟩ : ∃ w : Int, w = (if false = true then 1 else 0) := ⟨_, rfl⟩
          have AA := a4.cast (dl' := dlc d q [w] 0) (hDD w hw)
          rw [<- hw]
          have AB := AA.keep ok (vsO [w])
          have gb := go4.keepMore (h4.size, vsO [w])
          have hvok : VOk ({ u with kept := u.kept ++ [(h4.size, vsO [w])] } : CU).kept [w] (.slice (some ⟨h4.size, 0, none⟩) 1 1) := .inr ⟨h4.size, rfl, List.mem_append_right _ (List.mem_singleton.2 rfl)⟩
          have hZ := zal AB m6 go4.th
          refine EA.val (v := .slice (some ⟨h4.size, 0, none⟩) 1 1) (h' := h4.push (vsO [w])) 11 rfl (by kernel_rfl) rfl rfl rfl (fun ρ Q X hρ hq => sem_slice1 (sz := 1) (z := .int .i64 0) hρ rfl (by omega) (by omega) rfl rfl hq) hZ ?_
          refine EA.callR 12 rfl (by kernel_rfl) rfl rfl rfl rfl rfl rfl (cotold_nil fun _ hb _ => AB.free (.inr (.inr hb))) ?_
          rintro _ h5 δ5 ⟨rfl, u5, rfl⟩
          have AC := AB.upd0 ok u5
          refine ⟨zal AC m6 go4.th, ?_⟩
          have g8 := AC.own (q := (y8, tolO z6)) List.mem_cons_self
          have a9 := AC.put ok (o := tolO (tolC (.slice (some ⟨h4.size, 0, none⟩) 1 1) 0)) hn8
          refine EA.unitL (h' := h5.setIfInBounds y8 (tolO (tolC (.slice (some ⟨h4.size, 0, none⟩) 1 1) 0))) 13 rfl (by kernel_rfl) rfl rfl rfl (fun ρ Q X hρ hq => sem_storeN (vs := tolC (.slice (some ⟨h4.size, 0, none⟩) 1 1) 0) (hρ _ _ rfl) (hρ _ _ rfl) tolC_len tolC_one (rowAll (c := z6) g8 rfl (fun _ => AC.free (.inr (.inl ⟨_, List.mem_cons_self, rfl⟩)))) (by rw [row_set (c := z6) (vs := tolC (.slice (some ⟨h4.size, 0, none⟩) 1 1) 0) g8 (by rw [tolC_len]; rfl)]; exact hq)) ?_
          refine EA.done (by kernel_rfl) ?_
          (repeat refine EK.ret ?_)
          exact EU.retCell1 (vs := tolC (.slice (some ⟨h4.size, 0, none⟩) 1 1) 0) rfl rfl tolC_len (hrow_block (rest := []) (by rw [List.append_nil]; exact a9.own (q := (y8, tolO (tolC (.slice (some ⟨h4.size, 0, none⟩) 1 1) 0))) List.mem_cons_self)) ⟨γ, _, [w], _, 0, rfl, rfl, hvok, (a9.drop ok).drop ok, gb⟩
    · (repeat (first | refine EK.seq ?_ | refine EK.region ?_ | refine ER.done ?_ | refine EK.skip ?_ | refine EK.block ?_ | refine ER.move rfl rfl rfl ?_ | refine ER.assign rfl rfl rfl ?_ | refine ER.fieldAddr rfl rfl rfl ?_ | refine ER.load1 rfl rfl rfl (hcell_of (by assumption) rfl) ?_ | refine ER.no rfl rfl ?_ | refine ER.pickF rfl rfl rfl rfl ?_ | refine ER.cmpT rfl rfl rfl rfl rfl (by first | (dsimp only [cmpP]; omega) | exact rfl | exact Int.le_refl _) ?_ | refine ER.cmpF rfl rfl rfl rfl rfl (by first | (dsimp only [cmpP]; omega) | exact rfl | exact Int.le_refl _) ?_ | refine EK.condT rfl ?_ | refine EK.condF rfl ?_))
      refine EK.regionAnyL (fun h' => hcell h' ⟨d.hb i, 0, none⟩ = some (ptr (γ.p.tb i)) /\ hcell h' ⟨y6, 3, none⟩ = some (.int .i64 q.c)) 13 ?_
      refine EA.tMove 0 rfl (by kernel_rfl) rfl rfl rfl rfl hZ ?_
      refine EA.tMove 1 rfl (by kernel_rfl) rfl rfl rfl rfl hZ ?_
      refine EA.tNil 2 rfl (by kernel_rfl) rfl rfl rfl rfl hZ ?_
      refine EA.tField 3 rfl (by kernel_rfl) rfl rfl rfl rfl hZ ?_
      refine EA.tLoad 4 rfl (by kernel_rfl) rfl rfl rfl rfl (fun _ hz => hz.1) hZ ?_
      refine EA.tMove 5 rfl (by kernel_rfl) rfl rfl rfl rfl hZ ?_
      refine EA.tField 6 rfl (by kernel_rfl) rfl rfl rfl rfl hZ ?_
      refine EA.tLoad 7 rfl (by kernel_rfl) rfl rfl rfl rfl (fun _ hz => hz.2) hZ ?_
      refine EA.val (v := .agg #[.int .i64 (-1), .int .i64 q.c]) (h' := h2) 8 rfl (by kernel_rfl) rfl rfl rfl (fun ρ Q X hρ hq => sem_buildS (parts := [(0, .int .i64 (-1)), (1, .int .i64 q.c)]) hρ rfl rfl hq) hZ ?_
      by_cases hin : 0 <= q.a /\ q.a < d.c.nC
      · obtain ⟨z, hz⟩ : ∃ z : Nat, q.a = z := ⟨q.a.toNat, by omega⟩
        have hzn : z < d.c.nC := by omega
        rw [ckV_in hz hzn]
        refine eaCallP 9 rfl (by kernel_rfl) rfl rfl rfl rfl rfl rfl (costop_T ok a2 hzn rfl) (fun _ _ _ y => y) ?_
        rintro _ h4 δ4 ⟨γ4, u4, b, rfl, rfl, a4, go4⟩
        refine ⟨zal a4 m6 go4.th, ?_⟩
        have hZ := zal a4 m6 go4.th
        have hDD : ∀ w : Int, w = (if b = true then 1 else 0) -> (if b = true then (-1 : Int) else 0) = dlc d q [w] 0 := fun w hw => by
          rw [hw]; unfold dlc; rw [if_pos hin, if_neg (show ¬ (q.op = 11 /\ (0 : Int) = 0) from fun x => by omega)]; cases b <;> simp [h12]
        refine EA.callD 10 rfl (by kernel_rfl) rfl rfl rfl rfl rfl rfl coone hZ ?_
        obtain ⟨w, hw⟩ : ∃ w : Int, w = (if b = true then 1 else 0) := ⟨_, rfl⟩
        have AA := a4.cast (dl' := dlc d q [w] 0) (hDD w hw)
        rw [<- hw]
        have AB := AA.keep ok (vsO [w])
        have gb := go4.keepMore (h4.size, vsO [w])
        have hvok : VOk ({ u4 with kept := u4.kept ++ [(h4.size, vsO [w])] } : CU).kept [w] (.slice (some ⟨h4.size, 0, none⟩) 1 1) := .inr ⟨h4.size, rfl, List.mem_append_right _ (List.mem_singleton.2 rfl)⟩
        have hZ := zal AB m6 go4.th
        refine EA.val (v := .slice (some ⟨h4.size, 0, none⟩) 1 1) (h' := h4.push (vsO [w])) 11 rfl (by kernel_rfl) rfl rfl rfl (fun ρ Q X hρ hq => sem_slice1 (sz := 1) (z := .int .i64 0) hρ rfl (by omega) (by omega) rfl rfl hq) hZ ?_
        refine EA.callR 12 rfl (by kernel_rfl) rfl rfl rfl rfl rfl rfl (cotold_nil fun _ hb _ => AB.free (.inr (.inr hb))) ?_
        rintro _ h5 δ5 ⟨rfl, u5, rfl⟩
        have AC := AB.upd0 ok u5
        refine ⟨zal AC m6 go4.th, ?_⟩
        have g8 := AC.own (q := (y8, tolO z6)) List.mem_cons_self
        have a9 := AC.put ok (o := tolO (tolC (.slice (some ⟨h4.size, 0, none⟩) 1 1) 0)) hn8
        refine EA.unitL (h' := h5.setIfInBounds y8 (tolO (tolC (.slice (some ⟨h4.size, 0, none⟩) 1 1) 0))) 13 rfl (by kernel_rfl) rfl rfl rfl (fun ρ Q X hρ hq => sem_storeN (vs := tolC (.slice (some ⟨h4.size, 0, none⟩) 1 1) 0) (hρ _ _ rfl) (hρ _ _ rfl) tolC_len tolC_one (rowAll (c := z6) g8 rfl (fun _ => AC.free (.inr (.inl ⟨_, List.mem_cons_self, rfl⟩)))) (by rw [row_set (c := z6) (vs := tolC (.slice (some ⟨h4.size, 0, none⟩) 1 1) 0) g8 (by rw [tolC_len]; rfl)]; exact hq)) ?_
        refine EA.done (by kernel_rfl) ?_
        (repeat refine EK.ret ?_)
        exact EU.retCell1 (vs := tolC (.slice (some ⟨h4.size, 0, none⟩) 1 1) 0) rfl rfl tolC_len (hrow_block (rest := []) (by rw [List.append_nil]; exact a9.own (q := (y8, tolO (tolC (.slice (some ⟨h4.size, 0, none⟩) 1 1) 0))) List.mem_cons_self)) ⟨γ4, _, [w], _, 0, rfl, rfl, hvok, (a9.drop ok).drop ok, gb⟩
      · rw [ckV_out hin]
        refine EA.callR 9 rfl (by kernel_rfl) rfl rfl rfl rfl rfl rfl costop_nil ?_
        rintro _ h4 δ4 ⟨rfl, u24, rfl⟩
        have a4 := a2.upd0 ok u24
        refine ⟨zal a4 m6 rfl, ?_⟩
        have hZ := zal a4 m6 rfl
        have go4 := go0
        have hDD : ∀ w : Int, w = (if false = true then 1 else 0) -> (0 : Int) = dlc d q [w] 0 := fun w _ => by
          unfold dlc; rw [if_neg hin]
        refine EA.callD 10 rfl (by kernel_rfl) rfl rfl rfl rfl rfl rfl coone hZ ?_
        obtain ⟨w, hw⟩ : ∃ w : Int, w = (if false = true then 1 else 0) := ⟨_, rfl⟩
        have AA := a4.cast (dl' := dlc d q [w] 0) (hDD w hw)
        rw [<- hw]
        have AB := AA.keep ok (vsO [w])
        have gb := go4.keepMore (h4.size, vsO [w])
        have hvok : VOk ({ u with kept := u.kept ++ [(h4.size, vsO [w])] } : CU).kept [w] (.slice (some ⟨h4.size, 0, none⟩) 1 1) := .inr ⟨h4.size, rfl, List.mem_append_right _ (List.mem_singleton.2 rfl)⟩
        have hZ := zal AB m6 go4.th
        refine EA.val (v := .slice (some ⟨h4.size, 0, none⟩) 1 1) (h' := h4.push (vsO [w])) 11 rfl (by kernel_rfl) rfl rfl rfl (fun ρ Q X hρ hq => sem_slice1 (sz := 1) (z := .int .i64 0) hρ rfl (by omega) (by omega) rfl rfl hq) hZ ?_
        refine EA.callR 12 rfl (by kernel_rfl) rfl rfl rfl rfl rfl rfl (cotold_nil fun _ hb _ => AB.free (.inr (.inr hb))) ?_
        rintro _ h5 δ5 ⟨rfl, u5, rfl⟩
        have AC := AB.upd0 ok u5
        refine ⟨zal AC m6 go4.th, ?_⟩
        have g8 := AC.own (q := (y8, tolO z6)) List.mem_cons_self
        have a9 := AC.put ok (o := tolO (tolC (.slice (some ⟨h4.size, 0, none⟩) 1 1) 0)) hn8
        refine EA.unitL (h' := h5.setIfInBounds y8 (tolO (tolC (.slice (some ⟨h4.size, 0, none⟩) 1 1) 0))) 13 rfl (by kernel_rfl) rfl rfl rfl (fun ρ Q X hρ hq => sem_storeN (vs := tolC (.slice (some ⟨h4.size, 0, none⟩) 1 1) 0) (hρ _ _ rfl) (hρ _ _ rfl) tolC_len tolC_one (rowAll (c := z6) g8 rfl (fun _ => AC.free (.inr (.inl ⟨_, List.mem_cons_self, rfl⟩)))) (by rw [row_set (c := z6) (vs := tolC (.slice (some ⟨h4.size, 0, none⟩) 1 1) 0) g8 (by rw [tolC_len]; rfl)]; exact hq)) ?_
        refine EA.done (by kernel_rfl) ?_
        (repeat refine EK.ret ?_)
        exact EU.retCell1 (vs := tolC (.slice (some ⟨h4.size, 0, none⟩) 1 1) 0) rfl rfl tolC_len (hrow_block (rest := []) (by rw [List.append_nil]; exact a9.own (q := (y8, tolO (tolC (.slice (some ⟨h4.size, 0, none⟩) 1 1) 0))) List.mem_cons_self)) ⟨γ, _, [w], _, 0, rfl, rfl, hvok, (a9.drop ok).drop ok, gb⟩
  by_cases h13 : q.op = 13
  · rw [h13] at c60
    have zal : ∀ {γ' : GG (XC d)} {u' : CU} {L' : List (Nat × Obj)} {h' : Hp} {dl : Int}, AtC d i γ' u' L' h' dl -> (y6, callO q) ∈ L' -> u'.th i = u.th i -> hcell h' ⟨d.hb i, 0, none⟩ = some (ptr (γ.p.tb i)) /\ hcell h' ⟨y6, 2, none⟩ = some (.int .i64 q.b) := fun {γ' u' L' h' dl} b hb hu => by
      have g := b.own hb
      have g2 := b.I.hnd i hi64
      rw [hu, hth] at g2
      exact ⟨hcell_of g2 rfl, hcell_of g rfl⟩
    have m6 : (y6, callO q) ∈ (y8, tolO z6) :: (y6, callO q) :: L := List.mem_cons_of_mem _ List.mem_cons_self
    have hZ := zal a2 m6 rfl
    by_cases hin : 0 <= q.a /\ q.a < d.c.nC
    · obtain ⟨z, hz⟩ : ∃ z : Nat, q.a = z := ⟨q.a.toNat, by omega⟩
      have hzn : z < d.c.nC := by omega
      rw [ckV_in hz hzn]
      (repeat (first | refine EK.seq ?_ | refine EK.region ?_ | refine ER.done ?_ | refine EK.block ?_ | refine ER.assign rfl rfl rfl ?_ | refine ER.fieldAddr rfl rfl rfl ?_ | refine ER.load1 rfl rfl rfl (hcell_of (by assumption) rfl) ?_ | refine ER.cmpT rfl rfl rfl rfl rfl (by first | (dsimp only [cmpP]; omega) | exact rfl | exact Int.le_refl _) ?_ | refine ER.cmpF rfl rfl rfl rfl rfl (by first | (dsimp only [cmpP]; omega) | exact rfl | exact Int.le_refl _) ?_ | refine EK.condT rfl ?_ | refine EK.condF rfl ?_))
      refine EK.regionAny (fun h' => hcell h' ⟨d.hb i, 0, none⟩ = some (ptr (γ.p.tb i)) /\ hcell h' ⟨y6, 2, none⟩ = some (.int .i64 q.b)) ?_
      refine EA.tMove 0 rfl (by kernel_rfl) rfl rfl rfl rfl hZ ?_
      refine EA.tMove 1 rfl (by kernel_rfl) rfl rfl rfl rfl hZ ?_
      refine EA.tNil 2 rfl (by kernel_rfl) rfl rfl rfl rfl hZ ?_
      refine EA.tField 3 rfl (by kernel_rfl) rfl rfl rfl rfl hZ ?_
      refine EA.tLoad 4 rfl (by kernel_rfl) rfl rfl rfl rfl (fun _ hz => hz.1) hZ ?_
      refine EA.tField 5 rfl (by kernel_rfl) rfl rfl rfl rfl hZ ?_
      refine EA.tLoad 6 rfl (by kernel_rfl) rfl rfl rfl rfl (fun _ hz => hz.2) hZ ?_
      refine eaCallP 7 rfl (by kernel_rfl) rfl rfl rfl rfl rfl rfl (coadv_T ok hR a2 hfr hzn rfl hth hto) (fun _ _ _ y => y) ?_
      rintro _ h4 δ4 ⟨γ4, u4, r, e, rfl, rfl, a4, go4⟩
      refine ⟨zal a4 m6 go4.th, ?_⟩
      have hZ := zal a4 m6 go4.th
      refine EA.tMove 8 rfl (by kernel_rfl) rfl rfl rfl rfl hZ ?_
      refine EA.tExtract 9 rfl (by kernel_rfl) rfl rfl rfl rfl rfl hZ ?_
      refine EA.tExtract 10 rfl (by kernel_rfl) rfl rfl rfl rfl rfl hZ ?_
      refine EA.tAssign 11 rfl (by kernel_rfl) rfl rfl rfl rfl hZ ?_
      refine EA.tAssign 12 rfl (by kernel_rfl) rfl rfl rfl rfl hZ ?_
      refine EA.done (by kernel_rfl) ?_
      (repeat (first | refine EK.seq ?_ | refine EK.region ?_ | refine ER.move rfl rfl rfl ?_))
      refine ER.mkIface (by rfl) rfl rfl rfl (fun _ z => by cases z) ?_
      (repeat refine ER.move rfl rfl rfl ?_)
      refine ER.slice1 (sz := 1) (z := .int .i64 0) (cells := #[.int .i64 r]) rfl rfl rfl (by omega) (by omega) rfl rfl ?_
      have AB := a4.keep ok (vsO [r])
      have gb := go4.keepMore (h4.size, vsO [r])
      have hvok : VOk ({ u4 with kept := u4.kept ++ [(h4.size, vsO [r])] } : CU).kept [r] (.slice (some ⟨h4.size, 0, none⟩) ([r]).length ([r]).length) := .inr ⟨h4.size, rfl, List.mem_append_right _ (List.mem_singleton.2 rfl)⟩
      change ER _ _ _ _ _ _ _ _ _ _ (h4.push (vsO [r])) _ _
      skip
      refine ER.callR rfl rfl rfl rfl rfl (cotold_val fun _ hb _ => AB.free (.inr (.inr hb))) ?_
      rintro _ h5 δ5 ⟨rfl, u5, rfl⟩
      have AC := AB.upd0 ok u5
      have g8 := AC.own (q := (y8, tolO z6)) List.mem_cons_self
      refine ER.storeN (vs := tolC (.slice (some ⟨h4.size, 0, none⟩) 1 1) e) rfl rfl rfl tolC_len tolC_one (rowAll (c := z6) g8 rfl (fun _ => AC.free (.inr (.inl ⟨_, List.mem_cons_self, rfl⟩)))) ?_
      rw [row_set (c := z6) (vs := tolC (.slice (some ⟨h4.size, 0, none⟩) 1 1) e) g8 (by rw [tolC_len]; rfl)]
      have a9 := AC.put ok (o := tolO (tolC (.slice (some ⟨h4.size, 0, none⟩) 1 1) e)) hn8
      (repeat (first | refine ER.done ?_ | refine EK.ret ?_))
      exact EU.retCell1 (vs := tolC (.slice (some ⟨h4.size, 0, none⟩) 1 1) e) rfl rfl tolC_len (hrow_block (rest := []) (by rw [List.append_nil]; exact a9.own (q := (y8, tolO (tolC (.slice (some ⟨h4.size, 0, none⟩) 1 1) e))) List.mem_cons_self)) ⟨γ4, _, [r], (.slice (some ⟨h4.size, 0, none⟩) 1 1), e, rfl, rfl, hvok, by rw [dlc_zero h11 h12]; exact (a9.drop ok).drop ok, gb⟩
    · rw [ckV_out hin]
      obtain ⟨r, hr⟩ : ∃ r : Int, r = 0 := ⟨_, rfl⟩
      obtain ⟨e, he⟩ : ∃ r : Int, r = 2 := ⟨_, rfl⟩
      obtain ⟨h4, h24⟩ : ∃ h4, h4 = h2 := ⟨_, rfl⟩
      have a4 := a2
      rw [<- h24] at a4
      have hck := coadv_nil (main := false) (S := SitT Try.prog (PX (XC d)) (i + 1)) (h := h2) (δ := ⟨0, γ⟩) (t := ptr (γ.p.tb i)) (x := q.b)
      rw [<- hr, <- he] at hck
      (repeat (first | refine EK.seq ?_ | refine EK.region ?_ | refine ER.done ?_ | refine EK.block ?_ | refine ER.assign rfl rfl rfl ?_ | refine ER.fieldAddr rfl rfl rfl ?_ | refine ER.load1 rfl rfl rfl (hcell_of (by assumption) rfl) ?_ | refine ER.cmpT rfl rfl rfl rfl rfl (by first | (dsimp only [cmpP]; omega) | exact rfl | exact Int.le_refl _) ?_ | refine ER.cmpF rfl rfl rfl rfl rfl (by first | (dsimp only [cmpP]; omega) | exact rfl | exact Int.le_refl _) ?_ | refine EK.condT rfl ?_ | refine EK.condF rfl ?_))
      refine EK.regionAny (fun h' => hcell h' ⟨d.hb i, 0, none⟩ = some (ptr (γ.p.tb i)) /\ hcell h' ⟨y6, 2, none⟩ = some (.int .i64 q.b)) ?_
      refine EA.tMove 0 rfl (by kernel_rfl) rfl rfl rfl rfl hZ ?_
      refine EA.tMove 1 rfl (by kernel_rfl) rfl rfl rfl rfl hZ ?_
      refine EA.tNil 2 rfl (by kernel_rfl) rfl rfl rfl rfl hZ ?_
      refine EA.tField 3 rfl (by kernel_rfl) rfl rfl rfl rfl hZ ?_
      refine EA.tLoad 4 rfl (by kernel_rfl) rfl rfl rfl rfl (fun _ hz => hz.1) hZ ?_
      refine EA.tField 5 rfl (by kernel_rfl) rfl rfl rfl rfl hZ ?_
      refine EA.tLoad 6 rfl (by kernel_rfl) rfl rfl rfl rfl (fun _ hz => hz.2) hZ ?_
      refine EA.callD 7 rfl (by kernel_rfl) rfl rfl rfl rfl rfl rfl hck hZ ?_
      rw [<- h24] at hZ ⊢
      have go4 := go0
      refine EA.tMove 8 rfl (by kernel_rfl) rfl rfl rfl rfl hZ ?_
      refine EA.tExtract 9 rfl (by kernel_rfl) rfl rfl rfl rfl rfl hZ ?_
      refine EA.tExtract 10 rfl (by kernel_rfl) rfl rfl rfl rfl rfl hZ ?_
      refine EA.tAssign 11 rfl (by kernel_rfl) rfl rfl rfl rfl hZ ?_
      refine EA.tAssign 12 rfl (by kernel_rfl) rfl rfl rfl rfl hZ ?_
      refine EA.done (by kernel_rfl) ?_
      (repeat (first | refine EK.seq ?_ | refine EK.region ?_ | refine ER.move rfl rfl rfl ?_))
      refine ER.mkIface (by rfl) rfl rfl rfl (fun _ z => by cases z) ?_
      (repeat refine ER.move rfl rfl rfl ?_)
      refine ER.slice1 (sz := 1) (z := .int .i64 0) (cells := #[.int .i64 r]) rfl rfl rfl (by omega) (by omega) rfl rfl ?_
      have AB := a4.keep ok (vsO [r])
      have gb := go4.keepMore (h4.size, vsO [r])
      have hvok : VOk ({ u with kept := u.kept ++ [(h4.size, vsO [r])] } : CU).kept [r] (.slice (some ⟨h4.size, 0, none⟩) ([r]).length ([r]).length) := .inr ⟨h4.size, rfl, List.mem_append_right _ (List.mem_singleton.2 rfl)⟩
      change ER _ _ _ _ _ _ _ _ _ _ (h4.push (vsO [r])) _ _
      skip
      refine ER.callR rfl rfl rfl rfl rfl (cotold_val fun _ hb _ => AB.free (.inr (.inr hb))) ?_
      rintro _ h5 δ5 ⟨rfl, u5, rfl⟩
      have AC := AB.upd0 ok u5
      have g8 := AC.own (q := (y8, tolO z6)) List.mem_cons_self
      refine ER.storeN (vs := tolC (.slice (some ⟨h4.size, 0, none⟩) 1 1) e) rfl rfl rfl tolC_len tolC_one (rowAll (c := z6) g8 rfl (fun _ => AC.free (.inr (.inl ⟨_, List.mem_cons_self, rfl⟩)))) ?_
      rw [row_set (c := z6) (vs := tolC (.slice (some ⟨h4.size, 0, none⟩) 1 1) e) g8 (by rw [tolC_len]; rfl)]
      have a9 := AC.put ok (o := tolO (tolC (.slice (some ⟨h4.size, 0, none⟩) 1 1) e)) hn8
      (repeat (first | refine ER.done ?_ | refine EK.ret ?_))
      exact EU.retCell1 (vs := tolC (.slice (some ⟨h4.size, 0, none⟩) 1 1) e) rfl rfl tolC_len (hrow_block (rest := []) (by rw [List.append_nil]; exact a9.own (q := (y8, tolO (tolC (.slice (some ⟨h4.size, 0, none⟩) 1 1) e))) List.mem_cons_self)) ⟨γ, _, [r], (.slice (some ⟨h4.size, 0, none⟩) 1 1), e, rfl, rfl, hvok, by rw [dlc_zero h11 h12]; exact (a9.drop ok).drop ok, gb⟩
  · (repeat (first | refine EK.seq ?_ | refine EK.region ?_ | refine ER.done ?_ | refine EK.skip ?_ | refine EK.block ?_ | refine EK.inBlock ?_ | refine ER.assign rfl rfl rfl ?_ | refine ER.fieldAddr rfl rfl rfl ?_ | refine ER.load1 rfl rfl rfl (hcell_of (by assumption) rfl) ?_ | refine ER.cmpF rfl rfl rfl rfl rfl (by first | (dsimp only [cmpP]; omega) | exact rfl | exact Int.le_refl _) ?_ | refine EK.condF rfl ?_))
    refine ER.buildS (cells := (tolC nilS 0).toArray) rfl rfl (by rfl) (by rfl) ?_
    have AC := a2
    have g8 := AC.own (q := (y8, tolO z6)) List.mem_cons_self
    refine ER.storeN (vs := tolC nilS 0) rfl rfl rfl tolC_len tolC_one (rowAll (c := z6) g8 rfl (fun _ => AC.free (.inr (.inl ⟨_, List.mem_cons_self, rfl⟩)))) ?_
    rw [row_set (c := z6) (vs := tolC nilS 0) g8 (by rw [tolC_len]; rfl)]
    have a9 := AC.put ok (o := tolO (tolC nilS 0)) hn8
    (repeat (first | refine ER.done ?_ | refine EK.ret ?_))
    exact EU.retCell1 (vs := tolC nilS 0) rfl rfl tolC_len (hrow_block (rest := []) (by rw [List.append_nil]; exact a9.own (q := (y8, tolO (tolC nilS 0))) List.mem_cons_self)) ⟨γ, _, [], nilS, 0, rfl, rfl, (.inl ⟨rfl, rfl⟩), by rw [dlc_zero h11 h12]; exact (a9.drop ok).drop ok, go0⟩
end
end
section
open Go Go.TJ Go.Conc Go.Proofs
section
variable {d : CD} {x : WdS} {u u' u1 u2 : CU} {h h' h1 : Hp} {i : Nat} {γ γ' γ1 γ2 : GG (XC d)} {L L' : List (Nat × Obj)} {dl : Int} {t id m y : Nat} {H : List (Nat × Int)} {q : CCall}
theorem RdS.one {s : Value} {vs : List Value} (r : RdS h s vs) {z : Nat} {v : Value} (hv : vs[z]? = some v) : ∃ b o k, s = .slice (some ⟨b, o, none⟩) vs.length k /\ ∀ h' : Hp, RdS h' s vs -> hcell h' ⟨b, o + z * 1, none⟩ = some v := by
  obtain ⟨b, o, k, e, -⟩ := r.cell z v hv
  refine ⟨b, o, k, e, fun h' r' => ?_⟩
  obtain ⟨b', o', k', e', hc⟩ := r'.cell z v hv
  rw [e] at e'
  cases e'
  exact hc
set_option maxRecDepth 8000 in
set_option maxHeartbeats 8000000 in
theorem cocall (E : WdOk d x) (hR : ∀ m', m' < m -> RingC d i m') (a : AtC d i γ u L h 0) (hfr : freeI d.c (u.hold i) <= m) (hth : u.th i = ptr (γ.p.tb i)) (hto : (u.told i).length <= 31 * ownN i γ + 31) {k : Nat} : CallW Try.prog false (SitT Try.prog (PX (XC d)) (i + 1)) 73 #[ptr d.c.w, ptr (d.hb i), .agg (callE q).toArray, .int .i64 k] h ⟨0, γ⟩ (RetP (TolR d i γ u L q) (Halt (XC d) i γ.p)) := by
  have ok := E.ok
  have hi64 : i < 64 := Nat.lt_of_lt_of_le a.lt ok.nT
  obtain ⟨y6, hy6⟩ : ∃ y, y = h.size := ⟨_, rfl⟩
  obtain ⟨y8, hy8⟩ : ∃ y, y = (h.push (callO q)).size := ⟨_, rfl⟩
  have a2 := (a.alloc ok (callO q)).alloc ok (tolO z6)
  have hn8 := (a.alloc ok (callO q)).fresh
  refine CallW.start (n := 58) rfl rfl ?_
  refine EK.seq ?_
  refine EK.region ?_
  refine ER.boxA rfl rfl rfl ?_
  refine ER.allocA rfl rfl ?_
  refine ER.done ?_
  change EK _ _ _ _ _ _ _ _ ((h.push (callO q)).push (tolO z6)) _ _
  change EK _ _ _ _ _ _ ((8, ptr (h.push (callO q)).size) :: (6, ptr h.size) :: _) _ _ _ _
  rw [<- hy8] at a2 hn8 ⊢
  rw [<- hy6] at a2 hn8 ⊢
  generalize (h.push (callO q)).push (tolO z6) = h2 at a2 ⊢
  have g6 := a2.own (q := (y6, callO q)) (List.mem_cons_of_mem _ List.mem_cons_self)
  have c60 : hcell h2 ⟨y6, 0, none⟩ = some (.int .i64 q.op) := hcell_of g6 rfl
  have c61 : hcell h2 ⟨y6, 1, none⟩ = some (.int .i64 q.a) := hcell_of g6 rfl
  have hhd := a2.I.hnd i hi64
  rw [hth] at hhd
  have cH : hcell h2 ⟨d.hb i, 0, none⟩ = some (ptr (γ.p.tb i)) := hcell_of hhd rfl
  have go0 := Go_.refl d i γ u
  have N := a2.wd E
  by_cases hop : 10 <= q.op /\ q.op < 20
  · obtain ⟨hop1, hop2⟩ := hop
    (repeat (first | refine EK.seq ?_ | refine EK.region ?_ | refine ER.done ?_ | refine EK.block ?_ | refine ER.move rfl rfl rfl ?_ | refine ER.assign rfl rfl rfl ?_ | refine ER.fieldAddr rfl rfl rfl ?_ | refine ER.load1 rfl rfl rfl (hcell_of (by assumption) rfl) ?_ | refine ER.pickT rfl rfl rfl rfl ?_ | refine ER.cmpT rfl rfl rfl rfl rfl (by first | (dsimp only [cmpP]; omega) | exact rfl | exact Int.le_refl _) ?_ | refine EK.condT rfl ?_))
    refine ER.loadN (vs := callE q) rfl rfl rfl rfl (hrow_block (rest := []) (by rw [List.append_nil]; exact g6)) ?_
    (repeat refine ER.move rfl rfl rfl ?_)
    refine ER.callP rfl rfl rfl rfl rfl (coonclk E hR a2 hfr hth hto) (fun _ _ _ y => y) ?_
    rintro _ h3 δ3 ⟨γ3, u3, vs, vv, e, rfl, rfl, hvv, AC, go3⟩
    obtain ⟨va, vl, vc, rfl⟩ : ∃ va vl vc, vv = .slice va vl vc := by
      rcases hvv with ⟨-, rfl⟩ | ⟨b, rfl, -⟩
      · exact ⟨_, _, _, rfl⟩
      · exact ⟨_, _, _, rfl⟩
    have g8 := AC.own (q := (y8, tolO z6)) List.mem_cons_self
    refine ER.storeN (vs := tolC (.slice va vl vc) e) rfl rfl rfl tolC_len tolC_one (rowAll (c := z6) g8 rfl (fun _ => AC.free (.inr (.inl ⟨_, List.mem_cons_self, rfl⟩)))) ?_
    rw [row_set (c := z6) (vs := tolC (.slice va vl vc) e) g8 (by rw [tolC_len]; rfl)]
    have a9 := AC.put ok (o := tolO (tolC (.slice va vl vc) e)) hn8
    (repeat (first | refine ER.done ?_ | refine EK.ret ?_))
    exact EU.retCell1 (vs := tolC (.slice va vl vc) e) rfl rfl tolC_len (hrow_block (rest := []) (by rw [List.append_nil]; exact a9.own (q := (y8, tolO (tolC (.slice va vl vc) e))) List.mem_cons_self)) ⟨γ3, _, vs, (.slice va vl vc), e, rfl, rfl, hvv, by rw [(show dlc d q vs e = dlc d q vs e from rfl)]; exact (a9.drop ok).drop ok, go3⟩
  have cK := N.w.2.2.1
  obtain ⟨av, kv, ev⟩ := N.K.val
  rw [List.length_map, List.length_range] at ev
  by_cases h102 : q.op = 102
  · rw [h102] at c60
    by_cases hk0 : 0 <= q.a
    · by_cases hk1 : q.a < d.c.nK
      · obtain ⟨z, hz⟩ : ∃ z : Nat, q.a = z := ⟨q.a.toNat, by omega⟩
        have hzn : z < d.c.nK := by omega
        rw [hz] at c61 hk0 hk1
        obtain ⟨b, o, kk, e, hcell_⟩ := N.K.one (z := z) (v := ptr (d.c.K z)) (by rw [List.getElem?_map, List.getElem?_range hzn]; rfl)
        rw [List.length_map, List.length_range] at e
        have zal : ∀ {γ' : GG (XC d)} {u' : CU} {L' : List (Nat × Obj)} {h' : Hp} {dl : Int}, AtC d i γ' u' L' h' dl -> (y6, callO q) ∈ L' -> u'.th i = u.th i -> hcell h' ⟨d.hb i, 0, none⟩ = some (ptr (γ.p.tb i)) /\ hcell h' ⟨y6, 0, none⟩ = some (.int .i64 102) /\ hcell h' ⟨y6, 1, none⟩ = some (.int .i64 z) /\ hcell h' ⟨d.c.w, 14, none⟩ = some (.slice (some ⟨b, o, none⟩) d.c.nK kk) /\ hcell h' ⟨b, o + z * 1, none⟩ = some (ptr (d.c.K z)) := fun {γ' u' L' h' dl} b hb hu => by
          have g := b.own hb
          have g2 := b.I.hnd i hi64
          rw [hu, hth] at g2
          have N' := b.wd E
          refine ⟨hcell_of g2 rfl, ?_, ?_, by rw [<- e]; exact N'.w.2.2.1, hcell_ _ N'.K⟩
          · rw [<- h102]; exact hcell_of g rfl
          · rw [<- hz]; exact hcell_of g rfl
        have m6 : (y6, callO q) ∈ (y8, tolO z6) :: (y6, callO q) :: L := List.mem_cons_of_mem _ List.mem_cons_self
        have hZ := zal a2 m6 rfl
        clear cK c61 cH ev
        (repeat (first | refine EK.seq ?_ | refine EK.region ?_ | refine ER.done ?_ | refine EK.block ?_ | refine ER.move rfl rfl rfl ?_ | refine ER.assign rfl rfl rfl ?_ | refine ER.fieldAddr rfl rfl rfl ?_ | refine ER.load1 rfl rfl rfl (hcell_of (by assumption) rfl) ?_ | refine ER.pickT rfl rfl rfl rfl ?_ | refine ER.cmpT rfl rfl rfl rfl rfl (by first | (dsimp only [cmpP]; omega) | exact rfl | exact Int.le_refl _) ?_ | refine ER.cmpF rfl rfl rfl rfl rfl (by first | (dsimp only [cmpP]; omega) | exact rfl | exact Int.le_refl _) ?_ | refine EK.condF rfl ?_))
        refine EK.regionAny (fun h' => hcell h' ⟨d.hb i, 0, none⟩ = some (ptr (γ.p.tb i)) /\ hcell h' ⟨y6, 0, none⟩ = some (.int .i64 102) /\ hcell h' ⟨y6, 1, none⟩ = some (.int .i64 z) /\ hcell h' ⟨d.c.w, 14, none⟩ = some (.slice (some ⟨b, o, none⟩) d.c.nK kk) /\ hcell h' ⟨b, o + z * 1, none⟩ = some (ptr (d.c.K z))) ?_
        refine EA.tField 0 rfl (by kernel_rfl) rfl rfl rfl rfl hZ ?_
        refine EA.tLoad 1 rfl (by kernel_rfl) rfl rfl rfl rfl (fun _ hz => hz.2.1) hZ ?_
        refine EA.tCmpT 2 rfl (by kernel_rfl) rfl rfl rfl rfl rfl rfl (by first | (dsimp only [cmpP]; omega) | exact rfl | exact Int.le_refl _) hZ ?_
        refine EA.tMove 3 rfl (by kernel_rfl) rfl rfl rfl rfl hZ ?_
        refine EA.tField 4 rfl (by kernel_rfl) rfl rfl rfl rfl hZ ?_
        refine EA.tLoad 5 rfl (by kernel_rfl) rfl rfl rfl rfl (fun _ hz => hz.2.2.1) hZ ?_
        refine EA.tCmpT 6 rfl (by kernel_rfl) rfl rfl rfl rfl rfl rfl (by first | (dsimp only [cmpP]; omega) | exact rfl | exact Int.le_refl _) hZ ?_
        refine EA.tPickT 7 rfl (by kernel_rfl) rfl rfl rfl rfl rfl hZ ?_
        refine EA.tMove 8 rfl (by kernel_rfl) rfl rfl rfl rfl hZ ?_
        refine EA.tField 9 rfl (by kernel_rfl) rfl rfl rfl rfl hZ ?_
        refine EA.tLoad 10 rfl (by kernel_rfl) rfl rfl rfl rfl (fun _ hz => hz.2.2.1) hZ ?_
        refine EA.tMove 11 rfl (by kernel_rfl) rfl rfl rfl rfl hZ ?_
        refine EA.tNil 12 rfl (by kernel_rfl) rfl rfl rfl rfl hZ ?_
        refine EA.tField 13 rfl (by kernel_rfl) rfl rfl rfl rfl hZ ?_
        refine EA.tLoad 14 rfl (by kernel_rfl) rfl rfl rfl rfl (fun _ hz => hz.2.2.2.1) hZ ?_
        refine EA.tLen1 15 rfl (by kernel_rfl) rfl rfl rfl rfl hZ ?_
        refine EA.tCmpT 16 rfl (by kernel_rfl) rfl rfl rfl rfl rfl rfl (by first | (dsimp only [cmpP]; omega) | exact rfl | exact Int.le_refl _) hZ ?_
        refine EA.tPickT 17 rfl (by kernel_rfl) rfl rfl rfl rfl rfl hZ ?_
        refine EA.tAssign 18 rfl (by kernel_rfl) rfl rfl rfl rfl hZ ?_
        refine EA.done (by kernel_rfl) ?_
        (repeat (first | refine EK.seq ?_ | refine EK.condT rfl ?_))
        refine EK.regionAnyL (fun h' => hcell h' ⟨d.hb i, 0, none⟩ = some (ptr (γ.p.tb i)) /\ hcell h' ⟨y6, 0, none⟩ = some (.int .i64 102) /\ hcell h' ⟨y6, 1, none⟩ = some (.int .i64 z) /\ hcell h' ⟨d.c.w, 14, none⟩ = some (.slice (some ⟨b, o, none⟩) d.c.nK kk) /\ hcell h' ⟨b, o + z * 1, none⟩ = some (ptr (d.c.K z))) 15 ?_
        refine EA.tMove 0 rfl (by kernel_rfl) rfl rfl rfl rfl hZ ?_
        refine EA.tNil 1 rfl (by kernel_rfl) rfl rfl rfl rfl hZ ?_
        refine EA.tField 2 rfl (by kernel_rfl) rfl rfl rfl rfl hZ ?_
        refine EA.tLoad 3 rfl (by kernel_rfl) rfl rfl rfl rfl (fun _ hz => hz.2.2.2.1) hZ ?_
        refine EA.tField 4 rfl (by kernel_rfl) rfl rfl rfl rfl hZ ?_
        refine EA.tLoad 5 rfl (by kernel_rfl) rfl rfl rfl rfl (fun _ hz => hz.2.2.1) hZ ?_
        refine EA.tIdxS 6 rfl (by kernel_rfl) rfl rfl rfl rfl rfl (by omega) (by omega) hZ ?_
        refine EA.tLoad 7 rfl (by kernel_rfl) rfl rfl rfl rfl (fun _ hz => hz.2.2.2.2) hZ ?_
        refine EA.tMove 8 rfl (by kernel_rfl) rfl rfl rfl rfl hZ ?_
        refine EA.tNil 9 rfl (by kernel_rfl) rfl rfl rfl rfl hZ ?_
        refine EA.tField 10 rfl (by kernel_rfl) rfl rfl rfl rfl hZ ?_
        refine EA.tLoad 11 rfl (by kernel_rfl) rfl rfl rfl rfl (fun _ hz => hz.1) hZ ?_
        refine eaCallP 12 rfl (by kernel_rfl) rfl rfl rfl rfl rfl rfl (coadd ok a2 (b := d.c.K z) (.inr ⟨z, hzn, rfl⟩) rfl) (fun _ _ _ y => y) ?_
        rintro _ h4 δ4 ⟨γ4, w, rfl, rfl, g4, hv4⟩
        have a4 := g4.plain ok hv4 (fun i' j' hi' hj' => ok.c.K z i' _ hzn hi' (by omega)) (fun i' hi' => ok.c.K z i' _ hzn hi' (by omega)) (.inl fun i' j' hi' hj' => ok.c.K z i' _ hzn hi' hj')
        have go4 := g4.go
        refine ⟨zal a4 m6 go4.th, ?_⟩
        have AB := a4.keep ok (vsO [w])
        have gb := go4.keepMore (h4.size, vsO [w])
        have hvok : VOk ({ γ4.p.u with kept := γ4.p.u.kept ++ [(h4.size, vsO [w])] } : CU).kept [w] (.slice (some ⟨h4.size, 0, none⟩) 1 1) := .inr ⟨h4.size, rfl, List.mem_append_right _ (List.mem_singleton.2 rfl)⟩
        have hZ := zal AB m6 go4.th
        refine EA.val (v := .slice (some ⟨h4.size, 0, none⟩) 1 1) (h' := h4.push (vsO [w])) 13 rfl (by kernel_rfl) rfl rfl rfl (fun ρ Q X hρ hq => sem_slice1 (sz := 1) (z := .int .i64 0) hρ rfl (by omega) (by omega) rfl rfl hq) hZ ?_
        refine EA.callR 14 rfl (by kernel_rfl) rfl rfl rfl rfl rfl rfl (cotold_nil fun _ hb _ => AB.free (.inr (.inr hb))) ?_
        rintro _ h5 δ5 ⟨rfl, u5, rfl⟩
        have AC := AB.upd0 ok u5
        refine ⟨zal AC m6 go4.th, ?_⟩
        have g8 := AC.own (q := (y8, tolO z6)) List.mem_cons_self
        have a9 := AC.put ok (o := tolO (tolC (.slice (some ⟨h4.size, 0, none⟩) 1 1) 0)) hn8
        refine EA.unitL (h' := h5.setIfInBounds y8 (tolO (tolC (.slice (some ⟨h4.size, 0, none⟩) 1 1) 0))) 15 rfl (by kernel_rfl) rfl rfl rfl (fun ρ Q X hρ hq => sem_storeN (vs := tolC (.slice (some ⟨h4.size, 0, none⟩) 1 1) 0) (hρ _ _ rfl) (hρ _ _ rfl) tolC_len tolC_one (rowAll (c := z6) g8 rfl (fun _ => AC.free (.inr (.inl ⟨_, List.mem_cons_self, rfl⟩)))) (by rw [row_set (c := z6) (vs := tolC (.slice (some ⟨h4.size, 0, none⟩) 1 1) 0) g8 (by rw [tolC_len]; rfl)]; exact hq)) ?_
        refine EA.done (by kernel_rfl) ?_
        (repeat refine EK.ret ?_)
        exact EU.retCell1 (vs := tolC (.slice (some ⟨h4.size, 0, none⟩) 1 1) 0) rfl rfl tolC_len (hrow_block (rest := []) (by rw [List.append_nil]; exact a9.own (q := (y8, tolO (tolC (.slice (some ⟨h4.size, 0, none⟩) 1 1) 0))) List.mem_cons_self)) ⟨γ4, _, [w], _, 0, rfl, rfl, hvok, by rw [dlc_zero (by omega) (by omega)]; exact (a9.drop ok).drop ok, gb⟩
      · rw [ev] at cK
        (repeat (first | refine EK.seq ?_ | refine EK.region ?_ | refine ER.done ?_ | refine EK.block ?_ | refine ER.move rfl rfl rfl ?_ | refine ER.assign rfl rfl rfl ?_ | refine ER.fieldAddr rfl rfl rfl ?_ | refine ER.load1 rfl rfl rfl (hcell_of (by assumption) rfl) ?_ | refine ER.pickT rfl rfl rfl rfl ?_ | refine ER.cmpT rfl rfl rfl rfl rfl (by first | (dsimp only [cmpP]; omega) | exact rfl | exact Int.le_refl _) ?_ | refine ER.cmpF rfl rfl rfl rfl rfl (by first | (dsimp only [cmpP]; omega) | exact rfl | exact Int.le_refl _) ?_ | refine EK.condF rfl ?_))
        refine EK.regionAny (fun h' => h' = h2) ?_
        have hZ : h2 = h2 := rfl
        refine EA.tField 0 rfl (by kernel_rfl) rfl rfl rfl rfl hZ ?_
        refine EA.tLoad 1 rfl (by kernel_rfl) rfl rfl rfl rfl (fun _ hz => hz ▸ c60) hZ ?_
        refine EA.tCmpT 2 rfl (by kernel_rfl) rfl rfl rfl rfl rfl rfl (by first | (dsimp only [cmpP]; omega) | exact rfl | exact Int.le_refl _) hZ ?_
        refine EA.tMove 3 rfl (by kernel_rfl) rfl rfl rfl rfl hZ ?_
        refine EA.tField 4 rfl (by kernel_rfl) rfl rfl rfl rfl hZ ?_
        refine EA.tLoad 5 rfl (by kernel_rfl) rfl rfl rfl rfl (fun _ hz => hz ▸ c61) hZ ?_
        refine EA.tCmpT 6 rfl (by kernel_rfl) rfl rfl rfl rfl rfl rfl (by first | (dsimp only [cmpP]; omega) | exact rfl | exact Int.le_refl _) hZ ?_
        refine EA.tPickT 7 rfl (by kernel_rfl) rfl rfl rfl rfl rfl hZ ?_
        refine EA.tMove 8 rfl (by kernel_rfl) rfl rfl rfl rfl hZ ?_
        refine EA.tField 9 rfl (by kernel_rfl) rfl rfl rfl rfl hZ ?_
        refine EA.tLoad 10 rfl (by kernel_rfl) rfl rfl rfl rfl (fun _ hz => hz ▸ c61) hZ ?_
        refine EA.tMove 11 rfl (by kernel_rfl) rfl rfl rfl rfl hZ ?_
        refine EA.tNil 12 rfl (by kernel_rfl) rfl rfl rfl rfl hZ ?_
        refine EA.tField 13 rfl (by kernel_rfl) rfl rfl rfl rfl hZ ?_
        refine EA.tLoad 14 rfl (by kernel_rfl) rfl rfl rfl rfl (fun _ hz => hz ▸ cK) hZ ?_
        refine EA.tLen1 15 rfl (by kernel_rfl) rfl rfl rfl rfl hZ ?_
        refine EA.tCmpF 16 rfl (by kernel_rfl) rfl rfl rfl rfl rfl rfl (by first | (dsimp only [cmpP]; omega) | exact rfl | exact Int.le_refl _) hZ ?_
        refine EA.tPickT 17 rfl (by kernel_rfl) rfl rfl rfl rfl rfl hZ ?_
        refine EA.tAssign 18 rfl (by kernel_rfl) rfl rfl rfl rfl hZ ?_
        refine EA.done (by kernel_rfl) ?_
        (repeat (first | refine EK.seq ?_ | refine EK.region ?_ | refine EK.skip ?_ | refine EK.inBlock ?_ | refine EK.condF rfl ?_))
        refine ER.buildS (cells := (tolC nilS 0).toArray) rfl rfl (by rfl) (by rfl) ?_
        have AC := a2
        have g8 := AC.own (q := (y8, tolO z6)) List.mem_cons_self
        refine ER.storeN (vs := tolC nilS 0) rfl rfl rfl tolC_len tolC_one (rowAll (c := z6) g8 rfl (fun _ => AC.free (.inr (.inl ⟨_, List.mem_cons_self, rfl⟩)))) ?_
        rw [row_set (c := z6) (vs := tolC nilS 0) g8 (by rw [tolC_len]; rfl)]
        have a9 := AC.put ok (o := tolO (tolC nilS 0)) hn8
        (repeat (first | refine ER.done ?_ | refine EK.ret ?_))
        exact EU.retCell1 (vs := tolC nilS 0) rfl rfl tolC_len (hrow_block (rest := []) (by rw [List.append_nil]; exact a9.own (q := (y8, tolO (tolC nilS 0))) List.mem_cons_self)) ⟨γ, _, [], nilS, 0, rfl, rfl, (.inl ⟨rfl, rfl⟩), by rw [dlc_zero (by omega) (by omega)]; exact (a9.drop ok).drop ok, go0⟩
    · (repeat (first | refine EK.seq ?_ | refine EK.region ?_ | refine ER.done ?_ | refine EK.block ?_ | refine ER.move rfl rfl rfl ?_ | refine ER.assign rfl rfl rfl ?_ | refine ER.fieldAddr rfl rfl rfl ?_ | refine ER.load1 rfl rfl rfl (hcell_of (by assumption) rfl) ?_ | refine ER.pickT rfl rfl rfl rfl ?_ | refine ER.cmpT rfl rfl rfl rfl rfl (by first | (dsimp only [cmpP]; omega) | exact rfl | exact Int.le_refl _) ?_ | refine ER.cmpF rfl rfl rfl rfl rfl (by first | (dsimp only [cmpP]; omega) | exact rfl | exact Int.le_refl _) ?_ | refine EK.condF rfl ?_))
      refine EK.regionAny (fun h' => h' = h2) ?_
      have hZ : h2 = h2 := rfl
      refine EA.tField 0 rfl (by kernel_rfl) rfl rfl rfl rfl hZ ?_
      refine EA.tLoad 1 rfl (by kernel_rfl) rfl rfl rfl rfl (fun _ hz => hz ▸ c60) hZ ?_
      refine EA.tCmpT 2 rfl (by kernel_rfl) rfl rfl rfl rfl rfl rfl (by first | (dsimp only [cmpP]; omega) | exact rfl | exact Int.le_refl _) hZ ?_
      refine EA.tMove 3 rfl (by kernel_rfl) rfl rfl rfl rfl hZ ?_
      refine EA.tField 4 rfl (by kernel_rfl) rfl rfl rfl rfl hZ ?_
      refine EA.tLoad 5 rfl (by kernel_rfl) rfl rfl rfl rfl (fun _ hz => hz ▸ c61) hZ ?_
      refine EA.tCmpF 6 rfl (by kernel_rfl) rfl rfl rfl rfl rfl rfl (by first | (dsimp only [cmpP]; omega) | exact rfl | exact Int.le_refl _) hZ ?_
      refine EA.tPickT 7 rfl (by kernel_rfl) rfl rfl rfl rfl rfl hZ ?_
      refine EA.tMove 8 rfl (by kernel_rfl) rfl rfl rfl rfl hZ ?_
      refine EA.takeNo 9 rfl (by kernel_rfl) rfl rfl rfl hZ ?_
      refine EA.takeNo 10 rfl (by kernel_rfl) rfl rfl rfl hZ ?_
      refine EA.takeNo 11 rfl (by kernel_rfl) rfl rfl rfl hZ ?_
      refine EA.takeNo 12 rfl (by kernel_rfl) rfl rfl rfl hZ ?_
      refine EA.takeNo 13 rfl (by kernel_rfl) rfl rfl rfl hZ ?_
      refine EA.takeNo 14 rfl (by kernel_rfl) rfl rfl rfl hZ ?_
      refine EA.takeNo 15 rfl (by kernel_rfl) rfl rfl rfl hZ ?_
      refine EA.takeNo 16 rfl (by kernel_rfl) rfl rfl rfl hZ ?_
      refine EA.tPickF 17 rfl (by kernel_rfl) rfl rfl rfl rfl rfl hZ ?_
      refine EA.tAssign 18 rfl (by kernel_rfl) rfl rfl rfl rfl hZ ?_
      refine EA.done (by kernel_rfl) ?_
      (repeat (first | refine EK.seq ?_ | refine EK.region ?_ | refine EK.skip ?_ | refine EK.inBlock ?_ | refine EK.condF rfl ?_))
      refine ER.buildS (cells := (tolC nilS 0).toArray) rfl rfl (by rfl) (by rfl) ?_
      have AC := a2
      have g8 := AC.own (q := (y8, tolO z6)) List.mem_cons_self
      refine ER.storeN (vs := tolC nilS 0) rfl rfl rfl tolC_len tolC_one (rowAll (c := z6) g8 rfl (fun _ => AC.free (.inr (.inl ⟨_, List.mem_cons_self, rfl⟩)))) ?_
      rw [row_set (c := z6) (vs := tolC nilS 0) g8 (by rw [tolC_len]; rfl)]
      have a9 := AC.put ok (o := tolO (tolC nilS 0)) hn8
      (repeat (first | refine ER.done ?_ | refine EK.ret ?_))
      exact EU.retCell1 (vs := tolC nilS 0) rfl rfl tolC_len (hrow_block (rest := []) (by rw [List.append_nil]; exact a9.own (q := (y8, tolO (tolC nilS 0))) List.mem_cons_self)) ⟨γ, _, [], nilS, 0, rfl, rfl, (.inl ⟨rfl, rfl⟩), by rw [dlc_zero (by omega) (by omega)]; exact (a9.drop ok).drop ok, go0⟩
  · by_cases h10 : 10 <= q.op
    · have h20 : 20 <= q.op := by omega
      (repeat (first | refine EK.seq ?_ | refine EK.region ?_ | refine ER.done ?_ | refine EK.block ?_ | refine ER.move rfl rfl rfl ?_ | refine ER.assign rfl rfl rfl ?_ | refine ER.fieldAddr rfl rfl rfl ?_ | refine ER.load1 rfl rfl rfl (hcell_of (by assumption) rfl) ?_ | refine ER.pickT rfl rfl rfl rfl ?_ | refine ER.cmpT rfl rfl rfl rfl rfl (by first | (dsimp only [cmpP]; omega) | exact rfl | exact Int.le_refl _) ?_ | refine ER.cmpF rfl rfl rfl rfl rfl (by first | (dsimp only [cmpP]; omega) | exact rfl | exact Int.le_refl _) ?_ | refine EK.condF rfl ?_))
      refine EK.regionAny (fun h' => h' = h2) ?_
      have hZ : h2 = h2 := rfl
      refine EA.tField 0 rfl (by kernel_rfl) rfl rfl rfl rfl hZ ?_
      refine EA.tLoad 1 rfl (by kernel_rfl) rfl rfl rfl rfl (fun _ hz => hz ▸ c60) hZ ?_
      refine EA.tCmpF 2 rfl (by kernel_rfl) rfl rfl rfl rfl rfl rfl (by first | (dsimp only [cmpP]; omega) | exact rfl | exact Int.le_refl _) hZ ?_
      refine EA.tMove 3 rfl (by kernel_rfl) rfl rfl rfl rfl hZ ?_
      refine EA.takeNo 4 rfl (by kernel_rfl) rfl rfl rfl hZ ?_
      refine EA.takeNo 5 rfl (by kernel_rfl) rfl rfl rfl hZ ?_
      refine EA.takeNo 6 rfl (by kernel_rfl) rfl rfl rfl hZ ?_
      refine EA.tPickF 7 rfl (by kernel_rfl) rfl rfl rfl rfl rfl hZ ?_
      refine EA.tMove 8 rfl (by kernel_rfl) rfl rfl rfl rfl hZ ?_
      refine EA.takeNo 9 rfl (by kernel_rfl) rfl rfl rfl hZ ?_
      refine EA.takeNo 10 rfl (by kernel_rfl) rfl rfl rfl hZ ?_
      refine EA.takeNo 11 rfl (by kernel_rfl) rfl rfl rfl hZ ?_
      refine EA.takeNo 12 rfl (by kernel_rfl) rfl rfl rfl hZ ?_
      refine EA.takeNo 13 rfl (by kernel_rfl) rfl rfl rfl hZ ?_
      refine EA.takeNo 14 rfl (by kernel_rfl) rfl rfl rfl hZ ?_
      refine EA.takeNo 15 rfl (by kernel_rfl) rfl rfl rfl hZ ?_
      refine EA.takeNo 16 rfl (by kernel_rfl) rfl rfl rfl hZ ?_
      refine EA.tPickF 17 rfl (by kernel_rfl) rfl rfl rfl rfl rfl hZ ?_
      refine EA.tAssign 18 rfl (by kernel_rfl) rfl rfl rfl rfl hZ ?_
      refine EA.done (by kernel_rfl) ?_
      (repeat (first | refine EK.seq ?_ | refine EK.region ?_ | refine EK.skip ?_ | refine EK.inBlock ?_ | refine EK.condF rfl ?_))
      refine ER.buildS (cells := (tolC nilS 0).toArray) rfl rfl (by rfl) (by rfl) ?_
      have AC := a2
      have g8 := AC.own (q := (y8, tolO z6)) List.mem_cons_self
      refine ER.storeN (vs := tolC nilS 0) rfl rfl rfl tolC_len tolC_one (rowAll (c := z6) g8 rfl (fun _ => AC.free (.inr (.inl ⟨_, List.mem_cons_self, rfl⟩)))) ?_
      rw [row_set (c := z6) (vs := tolC nilS 0) g8 (by rw [tolC_len]; rfl)]
      have a9 := AC.put ok (o := tolO (tolC nilS 0)) hn8
      (repeat (first | refine ER.done ?_ | refine EK.ret ?_))
      exact EU.retCell1 (vs := tolC nilS 0) rfl rfl tolC_len (hrow_block (rest := []) (by rw [List.append_nil]; exact a9.own (q := (y8, tolO (tolC nilS 0))) List.mem_cons_self)) ⟨γ, _, [], nilS, 0, rfl, rfl, (.inl ⟨rfl, rfl⟩), by rw [dlc_zero (by omega) (by omega)]; exact (a9.drop ok).drop ok, go0⟩
    · (repeat (first | refine EK.seq ?_ | refine EK.region ?_ | refine ER.done ?_ | refine EK.block ?_ | refine ER.move rfl rfl rfl ?_ | refine ER.assign rfl rfl rfl ?_ | refine ER.fieldAddr rfl rfl rfl ?_ | refine ER.load1 rfl rfl rfl (hcell_of (by assumption) rfl) ?_ | refine ER.no rfl rfl ?_ | refine ER.pickF rfl rfl rfl rfl ?_ | refine ER.cmpF rfl rfl rfl rfl rfl (by first | (dsimp only [cmpP]; omega) | exact rfl | exact Int.le_refl _) ?_ | refine EK.condF rfl ?_))
      refine EK.regionAny (fun h' => h' = h2) ?_
      have hZ : h2 = h2 := rfl
      refine EA.tField 0 rfl (by kernel_rfl) rfl rfl rfl rfl hZ ?_
      refine EA.tLoad 1 rfl (by kernel_rfl) rfl rfl rfl rfl (fun _ hz => hz ▸ c60) hZ ?_
      refine EA.tCmpF 2 rfl (by kernel_rfl) rfl rfl rfl rfl rfl rfl (by first | (dsimp only [cmpP]; omega) | exact rfl | exact Int.le_refl _) hZ ?_
      refine EA.tMove 3 rfl (by kernel_rfl) rfl rfl rfl rfl hZ ?_
      refine EA.takeNo 4 rfl (by kernel_rfl) rfl rfl rfl hZ ?_
      refine EA.takeNo 5 rfl (by kernel_rfl) rfl rfl rfl hZ ?_
      refine EA.takeNo 6 rfl (by kernel_rfl) rfl rfl rfl hZ ?_
      refine EA.tPickF 7 rfl (by kernel_rfl) rfl rfl rfl rfl rfl hZ ?_
      refine EA.tMove 8 rfl (by kernel_rfl) rfl rfl rfl rfl hZ ?_
      refine EA.takeNo 9 rfl (by kernel_rfl) rfl rfl rfl hZ ?_
      refine EA.takeNo 10 rfl (by kernel_rfl) rfl rfl rfl hZ ?_
      refine EA.takeNo 11 rfl (by kernel_rfl) rfl rfl rfl hZ ?_
      refine EA.takeNo 12 rfl (by kernel_rfl) rfl rfl rfl hZ ?_
      refine EA.takeNo 13 rfl (by kernel_rfl) rfl rfl rfl hZ ?_
      refine EA.takeNo 14 rfl (by kernel_rfl) rfl rfl rfl hZ ?_
      refine EA.takeNo 15 rfl (by kernel_rfl) rfl rfl rfl hZ ?_
      refine EA.takeNo 16 rfl (by kernel_rfl) rfl rfl rfl hZ ?_
      refine EA.tPickF 17 rfl (by kernel_rfl) rfl rfl rfl rfl rfl hZ ?_
      refine EA.tAssign 18 rfl (by kernel_rfl) rfl rfl rfl rfl hZ ?_
      refine EA.done (by kernel_rfl) ?_
      (repeat (first | refine EK.seq ?_ | refine EK.region ?_ | refine EK.skip ?_ | refine EK.inBlock ?_ | refine EK.condF rfl ?_))
      refine ER.buildS (cells := (tolC nilS 0).toArray) rfl rfl (by rfl) (by rfl) ?_
      have AC := a2
      have g8 := AC.own (q := (y8, tolO z6)) List.mem_cons_self
      refine ER.storeN (vs := tolC nilS 0) rfl rfl rfl tolC_len tolC_one (rowAll (c := z6) g8 rfl (fun _ => AC.free (.inr (.inl ⟨_, List.mem_cons_self, rfl⟩)))) ?_
      rw [row_set (c := z6) (vs := tolC nilS 0) g8 (by rw [tolC_len]; rfl)]
      have a9 := AC.put ok (o := tolO (tolC nilS 0)) hn8
      (repeat (first | refine ER.done ?_ | refine EK.ret ?_))
      exact EU.retCell1 (vs := tolC nilS 0) rfl rfl tolC_len (hrow_block (rest := []) (by rw [List.append_nil]; exact a9.own (q := (y8, tolO (tolC nilS 0))) List.mem_cons_self)) ⟨γ, _, [], nilS, 0, rfl, rfl, (.inl ⟨rfl, rfl⟩), by rw [dlc_zero (by omega) (by omega)]; exact (a9.drop ok).drop ok, go0⟩
end
end
section
open Go Go.TJ Go.Conc Go.Proofs
def tolS (s k : Int) (vv : Value) (e : Int) : List Value := [.int .i64 s, .int .i64 k, vv] ++ errC e
def teOf (s k : Int) (vs : List Int) (vv : Value) (e : Int) : TE := ⟨s, k, vs, vv, if e = 0 then 0 else 7, e⟩
theorem tolS_enc {s k e : Int} {vs : List Int} {vv : Value} : tolS s k vv e = encE (teOf s k vs vv e) := by
  unfold tolS encE teOf errC
  by_cases h : e = 0
  · subst h; rfl
  · dsimp only
    rw [if_neg h, if_neg h]; rfl
theorem tolS_len {s k e : Int} {vv : Value} : (tolS s k vv e).length = 6 := by
  unfold tolS errC; split <;> rfl
theorem tolS_one {s k : Int} {va : Option Addr} {vl vc : Nat} {e : Int} : ∀ v ∈ tolS s k (.slice va vl vc) e, OneCell v := by
  unfold tolS errC; split <;> simp [OneCell]
theorem tolS_set0 {s a k e : Int} {vv : Value} : (tolS a k vv e).toArray.setIfInBounds 0 (.int .i64 s) = (tolS s k vv e).toArray := by simp [tolS]
theorem tolS_set1 {s a k e : Int} {vv : Value} : (tolS s a vv e).toArray.setIfInBounds 1 (.int .i64 k) = (tolS s k vv e).toArray := by simp [tolS]
theorem encE_one {e : TE} {va : Option Addr} {vl vc : Nat} (h : e.vv = .slice va vl vc) : ∀ v ∈ encE e, OneCell v := by
  unfold encE; rw [h]; simp [OneCell]
theorem dltE_of {d : CD} {s k : Nat} {q : CCall} {vs : List Int} {vv : Value} {e : Int} (h : d.c.call s k = some q) : dltE d.c (teOf s k vs vv e) = dlc d q vs e := by
  unfold dltE dlc teOf
  dsimp only
  rw [if_neg (by omega), h]
  dsimp only
  by_cases hin : 0 <= q.a /\ q.a < d.c.nC
  · rw [if_pos hin, if_pos hin]
    by_cases he : e = 0 <;> simp [he]
  · rw [if_neg hin, if_neg hin]
theorem call_of {c : CP} {s k : Nat} {l : List CCall} {q : CCall} (h1 : c.sc[s]? = some l) (h2 : l[k]? = some q) : c.call s k = some q := by
  unfold CP.call
  rw [if_pos ⟨by omega, by omega⟩]
  simp [h1, h2]
section
variable {d : CD} {x : WdS} {u u' u1 u2 : CU} {h h' h1 h5 : Hp} {i : Nat} {γ γ' γ1 γ2 : GG (XC d)} {L L' : List (Nat × Obj)} {dl : Int} {t id m y : Nat} {H : List (Nat × Int)} {q : CCall}
theorem GoS.tell {s : Nat} (g : GoS d i s γ u γ1 u1) (e : TE) (tv' : Nat -> Value) : GoS d i (s + 1) γ u γ1 { u1 with told := ut u1.told i (u1.told i ++ [e]), tv := tv' } :=
  ⟨g.al, g.hold, g.th, g.kept, g.len, by
    show (ut u1.told i (u1.told i ++ [e]) i).length + _ <= _
    rw [ut_same, List.length_append]
    have := g.tol
    show (u1.told i).length + 1 + _ <= _
    omega⟩
theorem GoS.keepM {s : Nat} (g : GoS d i s γ u γ1 u1) (o : Nat × Obj) : GoS d i s γ u γ1 { u1 with kept := u1.kept ++ [o] } := ⟨g.al, g.hold, g.th, fun q hq => List.mem_append_left _ (g.kept q hq), g.len, g.tol⟩
theorem AtC.tolFree (a : AtC d i γ u L h dl) (hi : i < 64) : ∀ b o, blk (u.tv i) = some b -> ¬ (SitT Try.prog (PX (XC d)) (i + 1)).still γ ⟨b, o, none⟩ := fun b o hb => a.free (.inl (.inr ⟨(a.I.newt i b hi hb).1, .inl ⟨i, hi, hb⟩⟩))
theorem AtC.tolNe (ok : d.Ok) (a : AtC d i γ u L h dl) (hi : i < 64) {b : Nat} (hb : blk (u.tv i) = some b) : b ≠ d.hb i /\ (∀ q, q ∈ L -> q.1 ≠ b) /\ b < h.size := by
  have I := a.I
  have hdom : CDom d u b := .inr ⟨(I.newt i b hi hb).1, .inl ⟨i, hi, hb⟩⟩
  exact ⟨fun e => (I.newt i b hi hb).2 (e ▸ ok.hb i hi), fun q hq e => (a.thr.privC.1 q hq).2 (e ▸ hdom), a.dom hdom⟩
theorem callE_get : ∀ {l : List CCall} {k : Nat} {q : CCall}, l[k]? = some q -> ∀ j, j < (callE q).length -> (l.flatMap callE)[k * 7 + j]? = (callE q)[j]?
  | [], _, _, h, _, _ => by cases h
  | y :: l, 0, q, h, r, hr => by
    have e : y = q := by simpa using h
    subst e
    rw [List.flatMap_cons, List.getElem?_append_left (show 0 * 7 + r < (callE y).length by omega)]
    congr 1; omega
  | y :: l, j + 1, q, h, r, hr => by
    rw [List.flatMap_cons, List.getElem?_append_right (show (callE y).length <= (j + 1) * 7 + r by show 7 <= _; omega), <- callE_get (l := l) (k := j) (by simpa using h) r hr]
    congr 1
    show (j + 1) * 7 + r - 7 = _
    omega
set_option maxRecDepth 8000 in
set_option maxHeartbeats 8000000 in
theorem codoes (E : WdOk d x) (hR : ∀ m', m' < m -> RingC d i m') (a : AtC d i γ u L h dl) (hfr : freeI d.c (u.hold i) <= m) (hto : (u.told i).length <= 31 * ownN i γ) (ht : t = γ.p.tb i) {s : Nat} {sc : List CCall} (hs : d.c.sc[s]? = some sc) (hsc : sc.length <= 30) {tf : Bool} (hdl : dl = if tf = true then -1 else 0) : CallW Try.prog false (SitT Try.prog (PX (XC d)) (i + 1)) 12 #[ptr d.c.w, ptr t, .int .i64 s, .int .i64 0, .nilIface, .bool false, .bool tf] h ⟨0, γ⟩
    (RetP (fun _ h' δ' => ∃ (γ' : GG (XC d)) (u' : CU), δ' = ⟨0, γ'⟩ /\ AtC d i γ' u' L h' 0 /\ GoS d i 31 γ { u with th := ut u.th i (ptr t) } γ' u') (Halt (XC d) i γ.p)) := by
  have ok := E.ok
  have hi64 : i < 64 := Nat.lt_of_lt_of_le a.lt ok.nT
  have hown := a.own_le
  have hsl : s < d.c.sc.length := (List.getElem?_eq_some_iff.1 hs).1
  refine CallW.start (n := 108) rfl rfl ?_
  (repeat (first | refine EK.seq ?_ | refine EK.region ?_ | refine ER.done ?_ | refine ER.move rfl rfl rfl ?_ | refine ER.assign rfl rfl rfl ?_))
  refine ER.callR rfl rfl rfl rfl rfl (cohand E a ht) ?_
  rintro _ h1 δ1 ⟨rfl, rfl, a1⟩
  have hth1 : ({ u with th := ut u.th i (ptr t) } : CU).th i = ptr t := ut_same _ _ _
  have hto1 : (({ u with th := ut u.th i (ptr t) } : CU).told i).length <= 31 * ownN i γ := hto
  have hfr1 : freeI d.c (({ u with th := ut u.th i (ptr t) } : CU).hold i) <= m := hfr
  clear hto hfr
  generalize ({ u with th := ut u.th i (ptr t) } : CU) = u1 at a1 hth1 hto1 hfr1 ⊢
  refine ER.assign rfl rfl rfl ?_
  (repeat (first | refine ER.done ?_ | refine EK.seq ?_ | refine EK.region ?_))
  refine ER.move rfl rfl rfl ?_
  (repeat (first | refine ER.done ?_ | refine EK.seq ?_))
  refine EK.fork (fun _ : CU => [(16, ptr (d.hb i)), (0, ptr d.c.w), (2, .int .i64 s), (5, .bool false)]) (fun u2 h' δ' => δ' = ⟨0, γ⟩ /\ AtC d i γ u2 L h' 0 /\ GoS d i 1 γ u1 γ u2) (fun _ key => ?_) ?_
  · cases tf with
    | false =>
      obtain rfl : dl = 0 := hdl
      (repeat (first | refine EK.skip ?_ | refine EK.condF rfl ?_))
      exact EK.back (key u1 _ _ ⟨rfl, a1, ⟨Along.refl _ _, rfl, rfl, fun _ h => h, Nat.le_refl _, Nat.le_succ _⟩⟩) ⟨rfl, rfl, rfl, rfl, trivial⟩
    | true =>
      obtain rfl : dl = -1 := hdl
      (repeat refine EK.condT rfl ?_)
      refine EK.regionAnyL (fun h' => hcell h' ⟨d.hb i, 2, none⟩ = some (u1.tv i)) 15 ?_
      have hZ : hcell h1 ⟨d.hb i, 2, none⟩ = some (u1.tv i) := hcell_of (a1.I.hnd i hi64) rfl
      refine EA.tMove 0 rfl (by kernel_rfl) rfl rfl rfl rfl hZ ?_
      refine EA.tMove 1 rfl (by kernel_rfl) rfl rfl rfl rfl hZ ?_
      refine EA.tNil 2 rfl (by kernel_rfl) rfl rfl rfl rfl hZ ?_
      refine EA.tField 3 rfl (by kernel_rfl) rfl rfl rfl rfl hZ ?_
      refine EA.tLoad 4 rfl (by kernel_rfl) rfl rfl rfl rfl (fun _ hz => hz) hZ ?_
      refine EA.tMove 5 rfl (by kernel_rfl) rfl rfl rfl rfl hZ ?_
      refine EA.tMove 6 rfl (by kernel_rfl) rfl rfl rfl rfl hZ ?_
      refine EA.tMove 8 rfl (by kernel_rfl) rfl rfl rfl rfl hZ ?_
      refine EA.alt2 7 9 (by kernel_rfl) ?_ ?_
      · have a2 := a1.keep ok (vsO [0])
        have g2 := GoS.keepM (Go_.refl d i γ u1) (h1.size, vsO [0])
        have hv : VOk ({ u1 with kept := u1.kept ++ [(h1.size, vsO [0])] } : CU).kept [0] (.slice (some ⟨h1.size, 0, none⟩) 1 1) := .inr ⟨h1.size, rfl, List.mem_append_right _ (List.mem_singleton.2 rfl)⟩
        obtain ⟨u2, hu2⟩ : ∃ u2 : CU, u2 = { u1 with kept := u1.kept ++ [(h1.size, vsO [0])] } := ⟨_, rfl⟩
        have htv : u2.tv i = u1.tv i := by rw [hu2]
        have htd : u2.told i = u1.told i := by rw [hu2]
        rw [<- hu2] at a2 g2 hv
        have z2 : hcell (h1.push (vsO [0])) ⟨d.hb i, 2, none⟩ = some (u1.tv i) := htv ▸ hcell_of (a2.I.hnd i hi64) rfl
        refine EAi.val (i := 7) (v := .slice (some ⟨h1.size, 0, none⟩) 1 1) (h' := h1.push (vsO [0])) rfl rfl rfl rfl (fun ρ Q X hρ hq => sem_slice1 (sz := 1) (z := .int .i64 0) hρ rfl (by omega) (by omega) rfl rfl hq) z2 ?_
        refine EA.callR 9 rfl (by kernel_rfl) rfl rfl rfl rfl rfl rfl (coerr_nil fun o => a2.free (.inr (.inr (Nat.le_refl _)))) ?_
        rintro _ h3 δ3 ⟨rfl, u3, rfl⟩
        have a3 := a2.upd0 ok u3
        have z3 : hcell h3 ⟨d.hb i, 2, none⟩ = some (u1.tv i) := htv ▸ hcell_of (a3.I.hnd i hi64) rfl
        refine ⟨z3, ?_⟩
        have hZ := z3
        refine EA.val (v := .agg (tolS s (-1) (.slice (some ⟨h1.size, 0, none⟩) 1 1) 0).toArray) (h' := h3) 10 rfl (by kernel_rfl) rfl rfl rfl (fun ρ Q X hρ hq => sem_buildS (parts := [(0, .int .i64 s), (1, .int .i64 (-1)), (2, .slice (some ⟨h1.size, 0, none⟩) 1 1), (3, .agg (errC 0).toArray)]) hρ rfl (by rfl) hq) hZ ?_
        have a4 := a3.upd0 ok (Upd.push (T := fun _ => False) h3 (tolO (tolS s (-1) (.slice (some ⟨h1.size, 0, none⟩) 1 1) 0)))
        have hZ4 : hcell (h3.push (tolO (tolS s (-1) (.slice (some ⟨h1.size, 0, none⟩) 1 1) 0))) ⟨d.hb i, 2, none⟩ = some (u1.tv i) := htv ▸ hcell_of (a4.I.hnd i hi64) rfl
        refine EA.val (v := .slice (some ⟨h3.size, 0, none⟩) 1 1) (h' := h3.push (tolO (tolS s (-1) (.slice (some ⟨h1.size, 0, none⟩) 1 1) 0))) 11 rfl (by kernel_rfl) rfl rfl rfl (fun ρ Q X hρ hq => sem_slice1 (sz := 6) (parts := [(0, .agg (tolS s (-1) (.slice (some ⟨h1.size, 0, none⟩) 1 1) 0).toArray)]) hρ rfl (by omega) (by omega) rfl rfl hq) hZ4 ?_
        have hlen : (u2.told i).length <= 31 * 65536 := by rw [htd]; omega
        rw [<- htv]
        have sl0 := (SliceO.upd (a3.I.sl i hi64) (Upd.push (T := fun _ => False) h3 (tolO (tolS s (-1) (.slice (some ⟨h1.size, 0, none⟩) 1 1) 0))) (fun _ _ z => z))
        refine EA.append1 (new := (tolS s (-1) (.slice (some ⟨h1.size, 0, none⟩) 1 1) 0)) 12 rfl (by kernel_rfl) rfl rfl rfl rfl rfl sl0 (get_push_new _ _) tolS_len tolS_one (by omega) (by omega) rfl (a3.tolFree hi64) ?_
        intro s' h5 sl5 u5 hb5
        have up5 : Upd (fun b => blk (u2.tv i) = some b) h3 h5 := (Upd.push (T := fun b => blk (u2.tv i) = some b) h3 (tolO (tolS s (-1) (.slice (some ⟨h1.size, 0, none⟩) 1 1) 0))).trans u5
        have hh5 : hcell h5 ⟨d.hb i, 2, none⟩ = some (u2.tv i) := up5.hcell (hcell_of (a3.I.hnd i hi64) rfl) (fun z => (a3.tolNe ok hi64 z).1 rfl)
        refine ⟨hh5, ?_⟩
        have hZ := hh5
        refine EA.val (v := ptr (d.hb i)) (h' := h5) 13 rfl (by kernel_rfl) rfl rfl rfl (fun ρ Q X hρ hq => sem_nilCheck (hρ _ _ rfl) hq) hZ ?_
        refine EA.val (v := .pointer (some ⟨d.hb i, 2, none⟩)) (h' := h5) 14 rfl (by kernel_rfl) rfl rfl rfl (fun ρ Q X hρ hq => sem_fieldAddr (hρ _ _ rfl) hq) hZ ?_
        obtain ⟨av, cv, es⟩ := sl5.val
        have aT := a3.tell ok hi64 (h1 := h5) (s' := s') (e := teOf s (-1) [0] (.slice (some ⟨h1.size, 0, none⟩) 1 1) 0) ⟨⟨by show (0 : Int) <= (s : Nat); omega, by show ((s : Nat) : Int) < _; omega⟩, .inl (by show (-1 : Int) < 0; decide), hv⟩ up5 (by rw [<- tolS_enc]; exact sl5) (fun b hb => (hb5 b hb).imp (fun x => x) fun e => by rw [e, Array.size_push]; omega)
        have aT2 := aT.cast (dl' := 0) (by rw [show dltE d.c (teOf s (-1) [0] (.slice (some ⟨h1.size, 0, none⟩) 1 1) 0) = -1 from if_pos (by show (-1 : Int) < 0; decide)]; rfl)
        have g5 := up5.get (a3.I.hnd i hi64) (fun z => (a3.tolNe ok hi64 z).1 rfl)
        refine EA.unitL (h' := hset h5 ⟨d.hb i, 2, none⟩ s') 15 rfl (by kernel_rfl) rfl rfl rfl (fun ρ Q X hρ hq => sem_store1 (hρ _ _ rfl) (hρ _ _ rfl) (by rw [es]; simp [OneCell]) ⟨_, hcell_of g5 rfl⟩ (hfroz_of g5) (a3.free (.inl (.inl (ok.hb i hi64)))) hq) ?_
        refine EA.done (by kernel_rfl) ?_
        skip
        exact EK.back (key _ _ _ ⟨rfl, aT2, g2.tell _ _⟩) ⟨rfl, rfl, rfl, rfl, trivial⟩
      · refine eaiCallR (i := 9) rfl rfl rfl rfl rfl rfl rfl (coerr_nil fun o => a1.free (.inr (.inr (Nat.le_refl _)))) ?_
        rintro _ h2 δ3 ⟨rfl, u3, rfl⟩
        have a2 := a1.upd0 ok u3
        refine ⟨hcell_of (a2.I.hnd i hi64) rfl, ?_⟩
        have a3 := a2.keep ok (vsO [0])
        have g2 := GoS.keepM (Go_.refl d i γ u1) (h2.size, vsO [0])
        have hv : VOk ({ u1 with kept := u1.kept ++ [(h2.size, vsO [0])] } : CU).kept [0] (.slice (some ⟨h2.size, 0, none⟩) 1 1) := .inr ⟨h2.size, rfl, List.mem_append_right _ (List.mem_singleton.2 rfl)⟩
        obtain ⟨u2, hu2⟩ : ∃ u2 : CU, u2 = { u1 with kept := u1.kept ++ [(h2.size, vsO [0])] } := ⟨_, rfl⟩
        have htv : u2.tv i = u1.tv i := by rw [hu2]
        have htd : u2.told i = u1.told i := by rw [hu2]
        rw [<- hu2] at a3 g2 hv
        obtain ⟨h3, hh3⟩ : ∃ h3, h3 = h2.push (vsO [0]) := ⟨_, rfl⟩
        rw [<- hh3] at a3
        have hZ : hcell h3 ⟨d.hb i, 2, none⟩ = some (u1.tv i) := htv ▸ hcell_of (a3.I.hnd i hi64) rfl
        refine EA.val (v := .slice (some ⟨h2.size, 0, none⟩) 1 1) (h' := h3) 7 rfl (by kernel_rfl) rfl rfl rfl (fun ρ Q X hρ hq => sem_slice1 (sz := 1) (z := .int .i64 0) hρ rfl (by omega) (by omega) rfl rfl (hh3 ▸ hq)) hZ ?_
        refine EA.val (v := .agg (tolS s (-1) (.slice (some ⟨h2.size, 0, none⟩) 1 1) 0).toArray) (h' := h3) 10 rfl (by kernel_rfl) rfl rfl rfl (fun ρ Q X hρ hq => sem_buildS (parts := [(0, .int .i64 s), (1, .int .i64 (-1)), (2, .slice (some ⟨h2.size, 0, none⟩) 1 1), (3, .agg (errC 0).toArray)]) hρ rfl (by rfl) hq) hZ ?_
        have a4 := a3.upd0 ok (Upd.push (T := fun _ => False) h3 (tolO (tolS s (-1) (.slice (some ⟨h2.size, 0, none⟩) 1 1) 0)))
        have hZ4 : hcell (h3.push (tolO (tolS s (-1) (.slice (some ⟨h2.size, 0, none⟩) 1 1) 0))) ⟨d.hb i, 2, none⟩ = some (u1.tv i) := htv ▸ hcell_of (a4.I.hnd i hi64) rfl
        refine EA.val (v := .slice (some ⟨h3.size, 0, none⟩) 1 1) (h' := h3.push (tolO (tolS s (-1) (.slice (some ⟨h2.size, 0, none⟩) 1 1) 0))) 11 rfl (by kernel_rfl) rfl rfl rfl (fun ρ Q X hρ hq => sem_slice1 (sz := 6) (parts := [(0, .agg (tolS s (-1) (.slice (some ⟨h2.size, 0, none⟩) 1 1) 0).toArray)]) hρ rfl (by omega) (by omega) rfl rfl hq) hZ4 ?_
        have hlen : (u2.told i).length <= 31 * 65536 := by rw [htd]; omega
        rw [<- htv]
        have sl0 := (SliceO.upd (a3.I.sl i hi64) (Upd.push (T := fun _ => False) h3 (tolO (tolS s (-1) (.slice (some ⟨h2.size, 0, none⟩) 1 1) 0))) (fun _ _ z => z))
        refine EA.append1 (new := (tolS s (-1) (.slice (some ⟨h2.size, 0, none⟩) 1 1) 0)) 12 rfl (by kernel_rfl) rfl rfl rfl rfl rfl sl0 (get_push_new _ _) tolS_len tolS_one (by omega) (by omega) rfl (a3.tolFree hi64) ?_
        intro s' h5 sl5 u5 hb5
        have up5 : Upd (fun b => blk (u2.tv i) = some b) h3 h5 := (Upd.push (T := fun b => blk (u2.tv i) = some b) h3 (tolO (tolS s (-1) (.slice (some ⟨h2.size, 0, none⟩) 1 1) 0))).trans u5
        have hh5 : hcell h5 ⟨d.hb i, 2, none⟩ = some (u2.tv i) := up5.hcell (hcell_of (a3.I.hnd i hi64) rfl) (fun z => (a3.tolNe ok hi64 z).1 rfl)
        refine ⟨hh5, ?_⟩
        have hZ := hh5
        refine EA.val (v := ptr (d.hb i)) (h' := h5) 13 rfl (by kernel_rfl) rfl rfl rfl (fun ρ Q X hρ hq => sem_nilCheck (hρ _ _ rfl) hq) hZ ?_
        refine EA.val (v := .pointer (some ⟨d.hb i, 2, none⟩)) (h' := h5) 14 rfl (by kernel_rfl) rfl rfl rfl (fun ρ Q X hρ hq => sem_fieldAddr (hρ _ _ rfl) hq) hZ ?_
        obtain ⟨av, cv, es⟩ := sl5.val
        have aT := a3.tell ok hi64 (h1 := h5) (s' := s') (e := teOf s (-1) [0] (.slice (some ⟨h2.size, 0, none⟩) 1 1) 0) ⟨⟨by show (0 : Int) <= (s : Nat); omega, by show ((s : Nat) : Int) < _; omega⟩, .inl (by show (-1 : Int) < 0; decide), hv⟩ up5 (by rw [<- tolS_enc]; exact sl5) (fun b hb => (hb5 b hb).imp (fun x => x) fun e => by rw [e, Array.size_push]; omega)
        have aT2 := aT.cast (dl' := 0) (by rw [show dltE d.c (teOf s (-1) [0] (.slice (some ⟨h2.size, 0, none⟩) 1 1) 0) = -1 from if_pos (by show (-1 : Int) < 0; decide)]; rfl)
        have g5 := up5.get (a3.I.hnd i hi64) (fun z => (a3.tolNe ok hi64 z).1 rfl)
        refine EA.unitL (h' := hset h5 ⟨d.hb i, 2, none⟩ s') 15 rfl (by kernel_rfl) rfl rfl rfl (fun ρ Q X hρ hq => sem_store1 (hρ _ _ rfl) (hρ _ _ rfl) (by rw [es]; simp [OneCell]) ⟨_, hcell_of g5 rfl⟩ (hfroz_of g5) (a3.free (.inl (.inl (ok.hb i hi64)))) hq) ?_
        refine EA.done (by kernel_rfl) ?_
        skip
        exact EK.back (key _ _ _ ⟨rfl, aT2, g2.tell _ _⟩) ⟨rfl, rfl, rfl, rfl, trivial⟩
  · rintro u2 h2 δ2 ⟨rfl, a2, g2⟩
    clear a1
    (repeat (first | refine EK.seq ?_ | refine EK.region ?_ | refine ER.done ?_ | refine EK.block ?_ | refine ER.assign rfl rfl rfl ?_))
    refine EK.loopInv (fun q : Nat × GG (XC d) × CU => [(17, .int .i64 q.1), (16, ptr (d.hb i)), (0, ptr d.c.w), (2, .int .i64 s), (5, .bool false)]) (fun q h' δ' => δ' = ⟨0, q.2.1⟩ /\ q.1 <= sc.length /\ AtC d i q.2.1 q.2.2 L h' 0 /\ GoS d i (1 + q.1) γ u1 q.2.1 q.2.2) (fun q => sc.length - q.1) (0, γ, u2) ⟨rfl, rfl, rfl, rfl, rfl, trivial⟩ ⟨rfl, Nat.zero_le _, a2, g2⟩ ?_
    clear a2 g2
    rintro ⟨k, γ3, u3⟩ h3 δ3 ⟨hδ, hk, a3, g3⟩ again
    dsimp only at hδ hk a3 g3 again ⊢
    subst hδ
    have N := a3.wd E
    obtain ⟨sv, hsv, hsl3⟩ := N.sc s sc hs
    obtain ⟨b, o, kk, e, hcV⟩ := N.V.one hsv
    have c0 : hcell h3 ⟨d.c.w, 0, none⟩ = some (.slice (some ⟨b, o, none⟩) x.ws.length kk) := by rw [<- e]; exact N.w.1
    have c1 : hcell h3 ⟨b, o + s * 1, none⟩ = some sv := hcV _ N.V
    have hws : s < x.ws.length := by rw [E.len]; exact hsl
    obtain ⟨av, cv, esv⟩ := hsl3.val
    by_cases hkl : k < sc.length
    case neg =>
      have ek : k = sc.length := by omega
      subst ek
      rw [esv] at c1
      (repeat (first | refine EK.seq ?_ | refine EK.region ?_ | refine ER.done ?_ | refine ER.move rfl rfl rfl ?_ | refine ER.assign rfl rfl rfl ?_ | refine ER.nilCheck rfl rfl rfl ?_ | refine ER.fieldAddr rfl rfl rfl ?_ | refine ER.cmpF rfl rfl rfl rfl rfl (by first | (dsimp only [cmpP]; omega) | exact rfl | exact Int.le_refl _) ?_ | refine ER.len1 rfl rfl rfl ?_ | refine ER.indexSl rfl rfl rfl rfl (by omega) (by omega) ?_ | refine EK.condF rfl ?_ | refine EK.ret ?_ | refine EK.exit rfl ?_ | refine ER.load1 rfl rfl rfl (by assumption) ?_))
      exact EU.ret2 rfl rfl rfl ⟨γ3, u3, rfl, a3, ⟨g3.al, g3.hold, g3.th, g3.kept, g3.len, by have := g3.tol; omega⟩⟩
    obtain ⟨q, hq⟩ : ∃ q, sc[k]? = some q := ⟨_, List.getElem?_eq_getElem hkl⟩
    obtain ⟨b2, cap2, e2, hcc, -⟩ := SliceO.cell hsl3 (by omega)
    rw [e2] at c1
    have crow : TJ.hrow h3 b2 (0 + k * 7) (callE q) := fun j v hv => by
      rw [show 0 + k * 7 + j = k * 7 + j by omega]
      refine hcc _ _ ?_
      rw [callE_get hq j (by have := (List.getElem?_eq_some_iff.1 hv).1; exact this)]
      exact hv
    obtain ⟨la, ll, lc, hql⟩ := E.sl s sc q hs (List.mem_of_getElem? hq)
    obtain ⟨y18, hy18⟩ : ∃ y, y = h3.size := ⟨_, rfl⟩
    obtain ⟨h4, hh4⟩ : ∃ h4, h4 = h3.push (callO ⟨0, 0, 0, 0, 0, 0, nilS⟩) := ⟨_, rfl⟩
    have f4 := a3.fresh
    have a4 := a3.alloc ok (callO ⟨0, 0, 0, 0, 0, 0, nilS⟩)
    rw [<- hh4, <- hy18] at a4
    rw [<- hy18] at f4
    (repeat (first | refine EK.seq ?_ | refine EK.region ?_ | refine ER.done ?_ | refine EK.skip ?_ | refine EK.block ?_ | refine ER.move rfl rfl rfl ?_ | refine ER.nilCheck rfl rfl rfl ?_ | refine ER.fieldAddr rfl rfl rfl ?_ | refine ER.cmpT rfl rfl rfl rfl rfl (by first | (dsimp only [cmpP]; omega) | exact rfl | exact Int.le_refl _) ?_ | refine ER.len1 rfl rfl rfl ?_ | refine ER.indexSl rfl rfl rfl rfl (by omega) (by omega) ?_ | refine EK.condT rfl ?_ | refine ER.load1 rfl rfl rfl (by assumption) ?_))
    refine ER.loadN (vs := callE q) rfl rfl rfl rfl crow ?_
    (repeat refine ER.allocA rfl rfl ?_)
    change ER _ _ _ _ _ _ _ _ _ _ (h3.push (callO ⟨0, 0, 0, 0, 0, 0, nilS⟩)) _ _
    rw [<- hh4, <- hy18]
    have g4 := a4.own (q := (y18, callO ⟨0, 0, 0, 0, 0, 0, nilS⟩)) List.mem_cons_self
    refine ER.storeN (vs := callE q) rfl rfl rfl rfl (by rw [callE, hql]; simp [OneCell]) (rowAll (c := callE ⟨0, 0, 0, 0, 0, 0, nilS⟩) g4 rfl (fun _ => a4.free (.inr (.inl ⟨_, List.mem_cons_self, rfl⟩)))) ?_
    rw [row_set (c := callE ⟨0, 0, 0, 0, 0, 0, nilS⟩) (vs := callE q) g4 rfl]
    have a5 := a4.put ok (o := callO q) f4
    change ER _ _ _ _ _ _ _ _ _ _ (h4.setIfInBounds y18 (callO q)) _ _
    generalize h4.setIfInBounds y18 (callO q) = h5 at a5 ⊢
    clear g4 hh4 hy18
    clear a4 crow c0 c1 hcc N hcV hsl3 esv e2 e
    have g18 := a5.own (q := (y18, callO q)) List.mem_cons_self
    have d0 : hcell h5 ⟨y18, 0, none⟩ = some (.int .i64 q.op) := hcell_of g18 rfl
    have d2 : hcell h5 ⟨y18, 2, none⟩ = some (.int .i64 q.b) := hcell_of g18 rfl
    have d3 : hcell h5 ⟨y18, 3, none⟩ = some (.int .i64 q.c) := hcell_of g18 rfl
    have d4 : hcell h5 ⟨y18, 4, none⟩ = some (.int .i64 q.d) := hcell_of g18 rfl
    by_cases h100 : q.op = 100
    · rw [h100] at d0
      (repeat (first | refine EK.seq ?_ | refine EK.region ?_ | refine ER.done ?_ | refine ER.move rfl rfl rfl ?_ | refine ER.fieldAddr rfl rfl rfl ?_ | refine ER.load1 rfl rfl rfl (hcell_of (by assumption) rfl) ?_ | refine ER.no rfl rfl ?_ | refine ER.pickT rfl rfl rfl rfl ?_ | refine ER.cmpT rfl rfl rfl rfl rfl (by first | (dsimp only [cmpP]; omega) | exact rfl | exact Int.le_refl _) ?_ | refine EK.condT rfl ?_))
      refine ER.callR rfl rfl rfl rfl rfl (coended fun b hb _ => a5.free (.inr (.inr hb))) ?_
      rintro _ h6 δ6 ⟨⟨z, rfl⟩, u6, rfl⟩
      have a6 := a5.upd0 ok u6
      (repeat (first | refine ER.done ?_ | refine ER.assign rfl rfl rfl ?_ | refine ER.extract rfl rfl rfl rfl ?_ | refine EK.ret ?_))
      exact EU.ret2 rfl rfl rfl ⟨γ3, u3, rfl, a6.drop ok, ⟨g3.al, g3.hold, g3.th, g3.kept, g3.len, by have := g3.tol; omega⟩⟩
    by_cases h101 : q.op = 101
    · rw [h101] at d0
      (repeat (first | refine EK.seq ?_ | refine EK.region ?_ | refine ER.done ?_ | refine ER.move rfl rfl rfl ?_ | refine ER.fieldAddr rfl rfl rfl ?_ | refine ER.load1 rfl rfl rfl (hcell_of (by assumption) rfl) ?_ | refine ER.notB rfl rfl rfl ?_ | refine ER.pickT rfl rfl rfl rfl ?_ | refine ER.pickF rfl rfl rfl rfl ?_ | refine ER.cmpT rfl rfl rfl rfl rfl (by first | (dsimp only [cmpP]; omega) | exact rfl | exact Int.le_refl _) ?_ | refine ER.cmpF rfl rfl rfl rfl rfl (by first | (dsimp only [cmpP]; omega) | exact rfl | exact Int.le_refl _) ?_ | refine EK.condT rfl ?_))
      refine ER.callR rfl rfl rfl rfl rfl (coended fun b hb _ => a5.free (.inr (.inr hb))) ?_
      rintro _ h6 δ6 ⟨⟨z, rfl⟩, u6, rfl⟩
      have a6 := a5.upd0 ok u6
      (repeat (first | refine ER.done ?_ | refine ER.assign rfl rfl rfl ?_ | refine ER.extract rfl rfl rfl rfl ?_ | refine EK.ret ?_))
      exact EU.ret2 rfl rfl rfl ⟨γ3, u3, rfl, a6.drop ok, ⟨g3.al, g3.hold, g3.th, g3.kept, g3.len, by have := g3.tol; omega⟩⟩
    (repeat (first | refine EK.seq ?_ | refine EK.region ?_ | refine ER.done ?_ | refine EK.skip ?_ | refine ER.move rfl rfl rfl ?_ | refine ER.fieldAddr rfl rfl rfl ?_ | refine ER.load1 rfl rfl rfl (hcell_of (by assumption) rfl) ?_ | refine ER.no rfl rfl ?_ | refine ER.pickF rfl rfl rfl rfl ?_ | refine ER.cmpF rfl rfl rfl rfl rfl (by first | (dsimp only [cmpP]; omega) | exact rfl | exact Int.le_refl _) ?_ | refine EK.condF rfl ?_))
    refine ER.loadN (vs := callE q) rfl rfl rfl rfl (hrow_block (rest := []) (by rw [List.append_nil]; exact g18)) ?_
    (repeat refine ER.move rfl rfl rfl ?_)
    refine ER.callP rfl rfl rfl rfl rfl (cocall E hR a5 (by rw [g3.hold]; exact hfr1) (by rw [g3.th, hth1, ht, g3.al.tb]) (by have := g3.tol; unfold ownN at *; omega)) (fun _ _ _ y => y.along g3.al) ?_
    rintro _ h6 δ6 ⟨γ4, u4, vs, vv, e, rfl, rfl, hvv, a6, g4⟩
    obtain ⟨va, vl, vc, evv⟩ : ∃ va vl vc, vv = .slice va vl vc := by
      rcases hvv with ⟨-, rfl⟩ | ⟨b, rfl, -⟩
      · exact ⟨_, _, _, rfl⟩
      · exact ⟨_, _, _, rfl⟩
    have gg4 := g3.trans g4
    obtain ⟨y19, hy19⟩ : ∃ y, y = h6.size := ⟨_, rfl⟩
    obtain ⟨h7, hh7⟩ : ∃ h7, h7 = h6.push (tolO z6) := ⟨_, rfl⟩
    have f7 := a6.fresh
    have a7 := a6.alloc ok (tolO z6)
    rw [<- hh7, <- hy19] at a7
    rw [<- hy19] at f7
    (repeat refine ER.allocA rfl rfl ?_)
    change ER _ _ _ _ _ _ _ _ _ _ (h6.push (tolO z6)) _ _
    rw [<- hh7, <- hy19]
    clear hh7 hy19
    have g7 := a7.own (q := (y19, tolO z6)) List.mem_cons_self
    refine ER.storeN (vs := tolS 0 0 vv e) rfl rfl rfl tolS_len (by rw [evv]; exact tolS_one) (rowAll (c := z6) g7 rfl (fun _ => a7.free (.inr (.inl ⟨_, List.mem_cons_self, rfl⟩)))) ?_
    rw [row_set (c := z6) (vs := tolS 0 0 vv e) g7 (by rw [tolS_len]; rfl)]
    have a8 := a7.put ok (o := tolO (tolS 0 0 vv e)) f7
    change ER _ _ _ _ _ _ _ _ _ _ (h7.setIfInBounds y19 (tolO (tolS 0 0 vv e))) _ _
    generalize h7.setIfInBounds y19 (tolO (tolS 0 0 vv e)) = h8 at a8 ⊢
    have g8 := a8.own (q := (y19, tolO (tolS 0 0 vv e))) List.mem_cons_self
    (repeat (first | refine EK.seq ?_ | refine EK.region ?_ | refine ER.done ?_ | refine ER.move rfl rfl rfl ?_ | refine ER.fieldAddr rfl rfl rfl ?_))
    refine ER.store1 rfl rfl rfl (by simp [OneCell]) ⟨_, hcell_of g8 rfl⟩ (hfroz_of g8) (a8.free (.inr (.inl ⟨_, List.mem_cons_self, rfl⟩))) ?_
    rw [hset_block g8, tolS_set0]
    have a9 := a8.put ok (o := tolO (tolS s 0 vv e)) f7
    change ER _ _ _ _ _ _ _ _ _ _ (h8.setIfInBounds y19 (tolO (tolS s 0 vv e))) _ _
    generalize h8.setIfInBounds y19 (tolO (tolS s 0 vv e)) = h9 at a9 ⊢
    have g9 := a9.own (q := (y19, tolO (tolS s 0 vv e))) List.mem_cons_self
    (repeat (first | refine EK.seq ?_ | refine EK.region ?_ | refine ER.done ?_ | refine ER.move rfl rfl rfl ?_ | refine ER.fieldAddr rfl rfl rfl ?_))
    refine ER.store1 rfl rfl rfl (by simp [OneCell]) ⟨_, hcell_of g9 rfl⟩ (hfroz_of g9) (a9.free (.inr (.inl ⟨_, List.mem_cons_self, rfl⟩))) ?_
    rw [hset_block g9, tolS_set1]
    change ER _ _ _ _ _ _ _ _ _ _ (h9.setIfInBounds y19 (tolO (tolS s k vv e))) _ _
    rw [tolS_enc (s := s) (k := k) (vs := vs) (vv := vv) (e := e)]
    have a10 := a9.put ok (o := tolO (encE (teOf s k vs vv e))) f7
    generalize h9.setIfInBounds y19 (tolO (encE (teOf s k vs vv e))) = h10 at a10 ⊢
    have g10 := a10.own (q := (y19, tolO (encE (teOf s k vs vv e)))) List.mem_cons_self
    clear a7 a8 a9 g7 g8 g9 a6
    have hown4 := a10.own_le
    have hlen : (u4.told i).length <= 31 * 65536 + 31 := by have := gg4.tol; unfold ownN at *; omega
    have hone := encE_one (e := teOf s k vs vv e) evv
    obtain ⟨RQ, hRQ⟩ : ∃ R, R = encE (teOf s k vs vv e) := ⟨_, rfl⟩
    have hRl : RQ.length = 6 := by rw [hRQ]; rfl
    have hRf : Instr.fill (fun i => some (i * 6, 6)) #[.int .i64 0, .int .i64 0, nilS, .int .i64 0, .int .i64 0, nilS] [(0, .agg RQ.toArray)] = some RQ.toArray := by rw [hRQ]; rfl
    (repeat refine ER.done ?_)
    rw [<- hRQ] at a10 g10 hone
    refine EK.regionAnyL (fun h' => hcell h' ⟨d.hb i, 2, none⟩ = some (u4.tv i) /\ TJ.hrow h' y19 0 RQ) 10 ?_
    have hZ : _ /\ _ := And.intro (hcell_of (a10.I.hnd i hi64) rfl : hcell h10 ⟨d.hb i, 2, none⟩ = some (u4.tv i)) (hrow_block (vs := RQ) (rest := []) (by rw [List.append_nil]; exact g10))
    refine EA.tMove 0 rfl (by kernel_rfl) rfl rfl rfl rfl hZ ?_
    refine EA.tMove 1 rfl (by kernel_rfl) rfl rfl rfl rfl hZ ?_
    refine EA.tNil 2 rfl (by kernel_rfl) rfl rfl rfl rfl hZ ?_
    refine EA.tField 3 rfl (by kernel_rfl) rfl rfl rfl rfl hZ ?_
    refine EA.tLoad 4 rfl (by kernel_rfl) rfl rfl rfl rfl (fun _ hz => hz.1) hZ ?_
    refine EA.tLoadN (vs := RQ) 5 rfl (by kernel_rfl) rfl rfl rfl rfl hRl (fun _ hz => hz.2) hZ ?_
    have a11 := a10.upd0 ok (Upd.push (T := fun _ => False) h10 (tolO RQ))
    have hZ : _ /\ _ := And.intro (hcell_of (a11.I.hnd i hi64) rfl : hcell (h10.push (tolO RQ)) ⟨d.hb i, 2, none⟩ = some (u4.tv i)) (hrow_block (vs := RQ) (rest := []) (by rw [List.append_nil]; exact a11.own (q := (y19, tolO RQ)) List.mem_cons_self))
    refine EA.val (v := .slice (some ⟨h10.size, 0, none⟩) 1 1) (h' := h10.push (tolO RQ)) 6 rfl (by kernel_rfl) rfl rfl rfl (fun ρ Q X hρ hq => sem_slice1 (sz := 6) (parts := [(0, .agg RQ.toArray)]) hρ rfl (by omega) (by omega) rfl (by exact hRf) hq) hZ ?_
    have sl0 := (SliceO.upd (a10.I.sl i hi64) (Upd.push (T := fun _ => False) h10 (tolO RQ)) (fun _ _ z => z))
    refine EA.append1 (new := RQ) 7 rfl (by kernel_rfl) rfl rfl rfl rfl rfl sl0 (get_push_new _ _) hRl hone (by omega) (by omega) rfl (a10.tolFree hi64) ?_
    intro s' h5 sl5 u5 hb5
    have up5 : Upd (fun b => blk (u4.tv i) = some b) h10 h5 := (Upd.push (T := fun b => blk (u4.tv i) = some b) h10 (tolO RQ)).trans u5
    have hh5 : hcell h5 ⟨d.hb i, 2, none⟩ = some (u4.tv i) := up5.hcell (hcell_of (a10.I.hnd i hi64) rfl) (fun z => (a10.tolNe ok hi64 z).1 rfl)
    have g5 := up5.get (a10.I.hnd i hi64) (fun z => (a10.tolNe ok hi64 z).1 rfl)
    have g19 := up5.get g10 (fun z => (a10.tolNe ok hi64 z).2.1 _ List.mem_cons_self rfl)
    have hZ : _ /\ _ := And.intro hh5 (hrow_block (vs := RQ) (rest := []) (by rw [List.append_nil]; exact g19))
    refine ⟨hZ, ?_⟩
    refine EA.val (v := ptr (d.hb i)) (h' := h5) 8 rfl (by kernel_rfl) rfl rfl rfl (fun ρ Q X hρ hq => sem_nilCheck (hρ _ _ rfl) hq) hZ ?_
    refine EA.val (v := .pointer (some ⟨d.hb i, 2, none⟩)) (h' := h5) 9 rfl (by kernel_rfl) rfl rfl rfl (fun ρ Q X hρ hq => sem_fieldAddr (hρ _ _ rfl) hq) hZ ?_
    obtain ⟨av5, cv5, es⟩ := sl5.val
    have aT := a10.tell ok hi64 (h1 := h5) (s' := s') (e := teOf s k vs vv e) ⟨⟨by show (0 : Int) <= (s : Nat); omega, by show ((s : Nat) : Int) < _; omega⟩, .inr ⟨q, call_of hs hq⟩, hvv⟩ up5 (by rw [<- hRQ]; exact sl5) (fun b hb => (hb5 b hb).imp (fun x => x) fun e => by rw [e, Array.size_push]; omega)
    have aT2 := aT.cast (dl' := 0) (by rw [dltE_of (call_of hs hq)]; omega)
    refine EA.unitL (h' := hset h5 ⟨d.hb i, 2, none⟩ s') 10 rfl (by kernel_rfl) rfl rfl rfl (fun ρ Q X hρ hq => sem_store1 (hρ _ _ rfl) (hρ _ _ rfl) (by rw [es]; simp [OneCell]) ⟨_, hcell_of g5 rfl⟩ (hfroz_of g5) (a10.free (.inl (.inl (ok.hb i hi64)))) hq) ?_
    refine EA.done (by kernel_rfl) ?_
    (repeat (first | refine EK.region ?_ | refine ER.done ?_ | refine EK.inBlock ?_ | refine ER.move rfl rfl rfl ?_ | refine ER.assign rfl rfl rfl ?_ | refine ER.add (kd := .i64) rfl rfl rfl rfl (i64_in (by omega) (by omega)) ?_))
    exact EK.back (again (k + 1, γ4, _) _ _ (by show sc.length - (k + 1) < sc.length - k; omega) ⟨rfl, by show k + 1 <= sc.length; omega, (aT2.drop ok).drop ok, gg4.tell _ _⟩) ⟨rfl, rfl, rfl, rfl, rfl, trivial⟩
end
end
end Go.Proofs.Ytidfmmaehgijaaa
namespace Go.TJ
section
open Go Go.Conc
open Go.ConcN (sumTo upd sumTo_upd upd_ne upd_same)
def SwS (P : Program) : Sit Nat where
  still := fun _ _ => False
  yld g h δ Y := δ.d = 0 /\ ∃ (Γ' : Type) (X : Proto Γ') (γ : Γ'), X.Ok /\ X.num γ = δ.g /\ δ.g = 1 /\
    Runs P true (SitM P X) (fun g' h' δ' => δ'.d = 0 /\ (∀ i, i ≠ 0 -> i < X.num δ'.g -> X.ch δ'.g i = none) /\ Y g' h' ⟨0, X.num δ'.g⟩) g h ⟨0, γ⟩
theorem CallW.sw {P : Program} {Γ' : Type} {X : Proto Γ'} (hX : X.Ok) {γ : Γ'} (h1 : X.num γ = 1) {f : FuncId} {args : Array Value} {h : Hp} {R : Post Nat} (hc : CallW P true (SitM P X) f args h ⟨0, γ⟩ fun r h' δ' => δ'.d = 0 /\ (∀ i, i ≠ 0 -> i < X.num δ'.g -> X.ch δ'.g i = none) /\ R r h' ⟨0, X.num δ'.g⟩) : CallW P true (SwS P) f args h ⟨0, 1⟩ R := by
  intro kind hk cs
  refine .hands (fun g' h' δ' => Left P f kind cs R g' h' δ') (fun g' h' δ' y => .stop y) ⟨rfl, Γ', X, γ, hX, h1, rfl, (hc kind hk cs).mono ?_⟩
  rintro g' h' δ' ⟨a, todo, mode, fn, h1, h2, h3, ⟨h5, v, h6, h7, h8, h9⟩ | ⟨c, h5, h7, h8, h9⟩⟩
  · exact ⟨h7, h8, a, todo, mode, fn, h1, h2, h3, .inl ⟨h5, v, h6, h9⟩⟩
  · exact ⟨h7, h8, a, todo, mode, fn, h1, h2, h3, .inr ⟨c, h5, h9⟩⟩
def PN : Proto Nat where
  num n := n
  ch _ _ := none
  cells _ _ _ := none
  R _ _ _ := True
  Pass _ _ _ := True
section
variable {P : Program}
theorem lk_none {h : Nat} {n : Nat} {I : Nat -> Option Wait} (hI : ∀ i, i ≠ h -> I i = none) : Lk P PN h n I n :=
  ⟨rfl, fun i hi _ => (by rw [hI i hi]; rfl), fun i W hi e => (by rw [hI i hi] at e; cases e), fun i W hi _ e => (by rw [hI i hi] at e; cases e)⟩
theorem lk_end {Γ' : Type} {X : Proto Γ'} {γ : Γ'} {I : Nat -> Option Wait} {T : Trace} {gs : Array Goroutine} {w : World} {q : Nat -> Nat} (F : Fr P 0 I T gs w q) (L : Lk P X 0 γ I gs.size) (hch : ∀ i, i ≠ 0 -> i < X.num γ -> X.ch γ i = none) : ∀ i, i ≠ 0 -> I i = none := fun i hi => by
  cases e : I i with
  | none => rfl
  | some V =>
    have hlt := F.room i hi (by rw [e]; rfl)
    have h1 := L.ch i hi hlt
    rw [hch i hi (by rw [L.num]; exact hlt), e] at h1
    cases h1
theorem company_sw {Stop : Goroutine -> Hp -> Ix Nat -> Prop} {g : Goroutine} {hp : Hp} {δ : Ix Nat} (H : Runs P true (SwS P) Stop g hp δ) :
    ∀ {I : Nat -> Option Wait} {T : Trace} {gs : Array Goroutine} {w : World} {q : Nat -> Nat} {sl : Option (Nat × Nat)}, w.heap = hp -> Fr P 0 I T gs w q -> (∀ i, i ≠ 0 -> I i = none) -> gs.size = δ.g -> gs[0]? = some g -> Deaf T 0 = δ.d ->
    ∃ (N : Nat) (gs' : Array Goroutine) (g' : Goroutine) (w' : World) (sl' : Option (Nat × Nat)) (T' : Trace) (q' : Nat -> Nat) (δ' : Ix Nat) (I' : Nat -> Option Wait),
      runNT P N (crowd gs w sl) T = (.next (crowd gs' w' sl'), T') /\ gs'[0]? = some g' /\ Fr P 0 I' T' gs' w' q' /\ (∀ i, i ≠ 0 -> I' i = none) /\ Deaf T' 0 = δ'.d /\ Same w w' /\ Stop g' w'.heap δ' := by
  induction H with
  | stop hs =>
    intro I T gs w q sl hw F hI hn hg hd
    subst hw
    exact ⟨0, gs, _, w, sl, T, q, _, I, rfl, hg, F, hI, hd, Same.refl _, hs⟩
  | step Y _ hst ih =>
    intro I T gs w q sl hw F hI hn hg hd
    subst hw
    obtain ⟨N, gs', g', w', sl', T', q', δ', h1, h2, h3, h4, h5, h6, h7, h8⟩ := step_run (X := PN) (i := 0) (by rfl) (S := SwS P) (funext fun n => funext fun a => propext ⟨fun x => x.elim, fun ⟨j, _, _, x, _⟩ => by cases x⟩) (sl := sl) F (by rw [hn]; exact lk_none hI) hg hd hst
    obtain ⟨N₂, gs₂, g₂, w₂, sl₂, T₂, q₂, δ₂, I', k1, k3, k5, k6, k7, k8, k9⟩ := ih _ _ _ h8 (sl := sl') rfl h4 hI (by rw [h5, h2]; exact hn) h3 h6
    exact ⟨N + N₂, gs₂, g₂, w₂, sl₂, T₂, q₂, δ₂, I', runNT_then h1 k1, k3, k5, k6, k7, h7.trans k8, k9⟩
  | @hands g hp δ Y _ hY ih =>
    intro I T gs w q sl hw F hI hn hg hd
    subst hw
    obtain ⟨hd0, Γ', X, γ, hX, e1, e2, hrun⟩ := hY
    obtain ⟨N, gs', g', w', sl', T', q', δ', I', h1, h2, h3, h4, h5, h6, h7, h8, h9⟩ := company hX hrun (sl := sl) rfl F ⟨by rw [e1, hn], fun i hi hlt => by omega, fun i W hi e => (by rw [hI i hi] at e; cases e), fun i W hi _ e => (by rw [hI i hi] at e; cases e)⟩ hg (hd.trans hd0)
    obtain ⟨N₂, gs₂, g₂, w₂, sl₂, T₂, q₂, δ₂, I₂, k1, k3, k5, k6, k7, k8, k9⟩ := ih _ _ _ h9 (sl := sl') rfl h3 (lk_end h3 h4 h8) h4.num.symm h2 (h5.trans h7)
    exact ⟨N + N₂, gs₂, g₂, w₂, sl₂, T₂, q₂, δ₂, I₂, runNT_then h1 k1, k3, k5, k6, k7, h6.trans k8, k9⟩
theorem sw_run {f : FuncId} {args : Array Value} {W : World} {R : Value -> Hp -> Prop} (hini : P.inits.idxOf? f = none)
    (hc : CallW P true (SwS P) f args W.heap ⟨0, 1⟩ fun
      | .ret v, h', δ' => δ'.d = 0 /\ R v h'
      | .pan _, _, _ => False) :
    ∃ M last o w' t', runNT P (M + 1) (solo (G (Frame.enter P f args .normal) []) W) #[] = (.ended o w', t') /\ runN P M (solo (G (Frame.enter P f args .normal) []) W) = .next last /\ step P last = .ended o w' /\
      Conc.Good P (fun v W' => R v W'.heap /\ Same W W') last o w' t' := by
  obtain ⟨N, gs, g', w, sl, T, q, δ, I, hr, hg, F, hI, hd, hs, a, todo, mode, fn, rfl, hda, hf, hend⟩ := company_sw (hc .normal (by simp) []) (sl := none) (w := W) rfl (fr_one P _ W) (fun i _ => rfl) rfl rfl rfl
  rcases hend with ⟨rfl, v, hv, hd0, hR⟩ | ⟨_, _, hp⟩
  · obtain ⟨N₂, gs₂, d, d', sl₂, sl₃, T₂, q₂, hr₂, hst, hsz, ha₂, F₂, hd₂⟩ := F.picked (sl := sl) hg rfl
    obtain ⟨es, hrun, hes⟩ := hv (w.at d') rfl
    have hend := stepG_last (w := w.at d') (todo := todo) hda hf hini hrun
    have hrt := runT_many_ended (P := P) (sl := sl₃) (i := 0) ha₂ hend
    have hops : ∀ op ∈ MemOp.ofEvents 0 f (G { (fb f .normal).at a todo with mode := .returning } []).frame.place (seen P f es), op.g = 0 := fun op hop => by obtain ⟨e, _, rfl⟩ := Go.Conc.mem_ofEvents hop; rfl
    have hTr : Tr 0 (loOf 0 I) (stOf I) (T₂ ++ MemOp.ofEvents 0 f (G { (fb f .normal).at a todo with mode := .returning } []).frame.place (seen P f es)) :=
      F₂.tr.own (fun x => x.1 rfl) hops fun op hop b hb g hg' hS => by
        have := hg'.2
        rw [hI g hg'.1] at this
        cases this
    refine ⟨N + N₂, _, .done v, w.at d', _, runNT_succ_end (runNT_then hr hr₂) (hst.trans hrt), runN_of_runNT _ _ _ _ _ (runNT_then hr hr₂), ?_, v, rfl, ⟨hR, hs.trans (same_at w d')⟩, hTr.clean, tr_over hTr hI, ⟨fun x hx => ?_, rfl⟩, fun j x hx hj => ?_⟩
    · rw [step, hst, hrt]
    · obtain ⟨j, hj⟩ := List.mem_iff_getElem?.1 hx
      rw [List.getElem?_drop] at hj
      have hid := F₂.idle (1 + j) x (by omega) (by simpa [crowd] using hj)
      rw [hI _ (by omega)] at hid
      exact ⟨_, hid.2.leaves⟩
    · have hid := F₂.idle j x hj hx
      rw [hI j hj] at hid
      refine ⟨q₂ j, ?_⟩
      have e : (T₂ ++ MemOp.ofEvents 0 f (G { (fb f .normal).at a todo with mode := .returning } []).frame.place (seen P f es)).deaf j (T₂ ++ MemOp.ofEvents 0 f (G { (fb f .normal).at a todo with mode := .returning } []).frame.place (seen P f es)).size = Deaf T₂ j :=
        Deaf_other T₂ (g := j) (g' := 0) (Ne.symm hj) _ hops
      rw [show (G { (fb f .normal).at a todo with mode := .returning } []).frame.fn = f from rfl, e]
      exact hid.2.hears _
  · exact hp.elim
end
end
end Go.TJ
namespace Go.Proofs.Ytidfmmaehgijaaa
section
open Go Go.TJ Go.Conc Go.Proofs
section
variable {d : CD} {x : WdS} {u u' u1 u2 : CU} {h h' h1 h5 : Hp} {i : Nat} {γ γ' γ1 γ2 : GG (XC d)} {L L' : List (Nat × Obj)} {dl : Int} {t id y : Nat} {H : List (Nat × Int)} {q : CCall}
theorem ring_all (E : WdOk d x) : ∀ m, RingC d i m := by
  intro m
  induction m using Nat.strongRecOn with
  | _ m ih =>
    intro γ u L h a hto hth hfr b1 b2 s h1 h2 hs
    obtain ⟨sc, hsc⟩ : ∃ sc, d.c.sc[s]? = some sc := ⟨_, List.getElem?_eq_getElem hs⟩
    have c1 : hcell h ⟨b1, 0, none⟩ = some (ptr d.c.w) := hcell_of (a.I.kept _ h1) rfl
    have c2 : hcell h ⟨b2, 0, none⟩ = some (.int .i64 s) := hcell_of (a.I.kept _ h2) rfl
    have hu : ({ u with th := ut u.th i (ptr (γ.p.tb i)) } : CU) = u := by rw [<- hth, ut_self]
    have hd := codoes E ih a hfr hto rfl hsc (E.small s sc hsc) (tf := true) rfl
    rw [hu] at hd
    refine CallW.start (n := 8) rfl rfl ?_
    (repeat (first | refine EK.region ?_ | refine ER.move rfl rfl rfl ?_ | refine ER.load1 rfl rfl rfl (by assumption) ?_))
    refine ER.callP rfl rfl rfl rfl rfl hd (fun _ _ _ y => y) ?_
    rintro w h' δ' ⟨γ', u', rfl, a', g'⟩
    (repeat refine ER.done ?_)
    exact EK.done (EU.ret0 rfl ⟨γ', u', rfl, a', g'⟩)
theorem cbody (E : WdOk d x) {b3 b5 : Nat} (h3 : d.old b3 /\ d.hN[b3]? = some (.cells #[ptr d.c.w] 27 (0, 0))) (h5 : d.old b5 /\ d.hN[b5]? = some (.cells #[.int .i64 i] 3 (0, 0))) (hi : i < d.c.nT) (his : i < d.c.sc.length) : Body (XC d) i 11 #[ptr b3, ptr b5] := by
  intro h γ T hbn ho
  have Q : γ.p.u.hold i = [] /\ γ.p.u.told i = [] := by
    have := T.Q i
    rw [hbn] at this
    exact this
  have a : AtC d i γ γ.p.u [] h 0 := ⟨T, by rw [acc_born _ _ hbn]; exact T.J, hi⟩
  obtain ⟨sc, hsc⟩ : ∃ sc, d.c.sc[i]? = some sc := ⟨_, List.getElem?_eq_getElem his⟩
  have c1 : hcell h ⟨b3, 0, none⟩ = some (ptr d.c.w) := hcell_of ((a.I.old _ h3.1).trans h3.2) rfl
  have c2 : hcell h ⟨b5, 0, none⟩ = some (.int .i64 i) := hcell_of ((a.I.old _ h5.1).trans h5.2) rfl
  have hd := codoes E (m := (freeI d.c (γ.p.u.hold i)).toNat) (fun m' _ => ring_all E m') a (by have := freeI_nn (c := d.c) (H := γ.p.u.hold i); omega) (by rw [Q.2]; exact Nat.zero_le _) rfl hsc (E.small i sc hsc) (tf := false) rfl
  refine CallW.start (n := 8) rfl rfl ?_
  (repeat (first | refine EK.region ?_ | refine ER.move rfl rfl rfl ?_ | refine ER.load1 rfl rfl rfl (by assumption) ?_))
  refine ER.callP rfl rfl rfl rfl rfl hd (fun _ _ _ y => y) ?_
  rintro w h' δ' ⟨γ', u', rfl, a', g'⟩
  (repeat refine ER.done ?_)
  exact EK.done (EU.ret0 rfl ⟨γ', u', [], rfl, g'.al, a'.thr, ⟨g'.hold.trans Q.1, by
    have h1 := g'.tol
    have h2 := a'.own_le
    have h3 : (γ.p.u.told i).length = 0 := by rw [Q.2]; rfl
    unfold ownN at h2
    change (u'.told i).length + _ <= (γ.p.u.told i).length + _ + _ at h1
    omega⟩, a'.inv⟩)
end
end
section
open Go Go.TJ Go.Conc Go.Proofs
abbrev cbodV (b3 : Nat) (b5 : Nat -> Nat) (n : Nat) : List (FuncId × Array Value) := (List.range n).map fun i => (11, #[ptr b3, ptr (b5 i)])
structure CPre (d : CD) (x : WdS) (b3 : Nat) (b5 : Nat -> Nat) (bv kS : Value) (picks : List Int) : Prop where
  E : WdOk d x
  ex : ∀ b, d.ex b ↔ blk bv = some b
  clk : ∀ i, i < d.c.nC -> ClkP d.hN (d.c.C i) (d.c.B i) (fun _ => .nilFunc)
  cel : ∀ b, d.isC b -> d.hN[b]? = some (cellO 0)
  hnd : ∀ t, t < 64 -> d.hN[d.hb t]? = some (handO (.pointer none) nilS)
  pk : RdS d.hN kS (picks.map fun x => .int .i64 x) /\ ∀ b, blk kS = some b -> d.old b
  h3 : d.old b3 /\ d.hN[b3]? = some (.cells #[ptr d.c.w] 27 (0, 0))
  h5 : ∀ i, i < d.c.nT -> d.old (b5 i) /\ d.hN[b5 i]? = some (.cells #[.int .i64 i] 3 (0, 0))
  th : d.c.nT <= d.c.sc.length
  bods : SliceO d.hN bv 35 1 d.c.nT ((cbodV b3 b5 d.c.nT).map fun q => .func (.func q.1) #[] q.2)
structure CEd (d : CD) (fin : Bool) (u : CU) (v : Nat -> Int) (h : Hp) : Prop where
  I : CMI d u h
  inv : CInv d.c 0 65536 u v
  cel : ∀ b, d.isC b -> h[b]? = some (cellO (v b))
  over : fin = true -> ∀ t, t < d.c.nT -> u.hold t = [] /\ (u.told t).length <= 2031647
theorem cSum_zero : ∀ {n : Nat}, cSum (fun _ => 0) n = 0
  | 0 => rfl
  | n + 1 => by
    show cSum (fun _ => 0) n + 0 = 0
    rw [cSum_zero]; rfl
def cu0 : CU := ⟨fun _ => [], fun _ => [], fun _ => nilS, fun _ => .pointer none, fun _ _ => .nilFunc, []⟩
theorem cinv0 (c : CP) : CInv c 0 0 cu0 (fun _ => 0) :=
  ⟨fun _ _ _ _ => ⟨Int.le_refl _, Int.le_refl _⟩, fun _ _ _ _ => ⟨Int.le_refl _, by decide⟩, fun _ _ => ⟨Int.le_refl _, by decide⟩, fun _ _ => .inl rfl, fun _ _ h => (by cases h), fun _ => List.nodup_nil, fun _ _ _ _ h => (by cases h), fun _ _ _ _ h => (by rcases h with h | h <;> exact absurd h (by decide)), fun _ _ h => absurd h (by decide), fun _ _ _ _ h => absurd rfl h, fun _ _ h => (by cases h), by
    show cSum (fun _ => 0) c.nT + 0 = cSum (fun _ => 0) (16 * c.nC)
    rw [cSum_zero, cSum_zero]; rfl, fun _ _ => rfl⟩
section
variable {d : CD} {x : WdS} {b3 : Nat} {b5 : Nat -> Nat} {bv kS : Value} {picks : List Int}
set_option maxRecDepth 8000 in
set_option maxHeartbeats 4000000 in
theorem crun_ok (P : CPre d x b3 b5 bv kS picks) {most : Int} (hm0 : 0 <= most) (hm1 : most <= 65536) :
    CallW Try.prog true (SwS Try.prog) 13 #[kS, .int .i64 most, bv] d.hN ⟨0, 1⟩ (Ret fun v h' δ' => (∃ m, δ' = ⟨0, m⟩) /\ ∃ (fin : Bool) (lL lW lY lV : Value) (n : Nat) (u : CU) (cv : Nat -> Int), v = .agg (repL (if fin then 1 else 2) n lL lW lY lV).toArray /\
      ((∃ a n k, lL = .slice a n k) /\ (∃ a n k, lW = .slice a n k) /\ (∃ a n k, lY = .slice a n k) /\ (∃ a n k, lV = .slice a n k)) /\ CEd d fin u cv h' /\ d.hN.size <= h'.size) := by
  have ok := P.E.ok
  have hX : (XC d).Ok := xc_ok ok
  have hnD : ∀ c, CDom d cu0 c -> d.base c := fun c hc => by
    rcases hc with y | ⟨-, ⟨t, -, y⟩ | ⟨q, hq, -⟩⟩
    · exact y
    · cases y
    · cases hq
  have hI0 : CMI d cu0 d.hN := ⟨fun _ _ => rfl, P.clk, P.hnd, fun _ _ => SliceO.nil, fun _ h => (by cases h), fun _ _ _ h => (by cases h), fun _ h => (by cases h), fun _ _ _ h => (by cases h), fun _ _ _ _ _ _ h => (by cases h)⟩
  have hlen : (cbodV b3 b5 d.c.nT).length = d.c.nT := by simp
  have hrun := runG (X := XC d) (γ := ⟨psZ 0 0 (fun _ => 0) cu0, psZ 0 0 (fun _ => 0) cu0, d.hN, fun _ => False, 0⟩) (h := d.hN) hX (v0 := fun _ => 0) (u0 := cu0) (picks := picks) (m := most) (bods := cbodV b3 b5 d.c.nT) (sP := kS) (sB := bv) rfl hm0 hm1
    (fun b hb => P.cel b hb) (fun b hb => (hnD b hb).1) hI0 (cinv0 d.c) (fun i => ⟨rfl, rfl⟩) (by rw [hlen]; exact ok.nT) (by rw [hlen]; exact P.bods)
    (fun c hc => ⟨fun z => sliceO_ne P.bods (P.cel c z) (by decide) c hc rfl, fun hd => (hnD c hd).2.2 ((P.ex c).2 hc)⟩)
    (fun u h' I _ => P.pk.1.low6 fun b hb' => CMI.old (show CMI d u h' from I) b (P.pk.2 b hb'))
    (fun k q hq => by
      have hk : k < d.c.nT := by
        have := (List.getElem?_eq_some_iff.1 hq).1
        rwa [hlen] at this
      rw [List.getElem?_map, List.getElem?_range hk] at hq
      obtain rfl := Option.some.inj hq
      exact ⟨inferInstance, cbody P.E P.h3 (P.h5 k hk) hk (Nat.lt_of_lt_of_le hk P.th)⟩)
  refine CallW.sw (px_ok hX) rfl (hrun.mono ?_)
  rintro (v | ps) h' δ' y
  · obtain ⟨γ', p, er, lL, lW, lY, lV, rfl, h1, h2, rfl, En, up⟩ := y
    refine ⟨rfl, h2, ⟨_, rfl⟩, ?_⟩
    have En' : Ended (XC d) (fun _ => 0) picks d.c.nT most.toNat p er lL lW lY lV h' := hlen ▸ En
    obtain ⟨aw, kw, ew⟩ := En'.went.val
    obtain ⟨ay, ky, ey⟩ := En'.rdy.val
    obtain ⟨av, kv, ev⟩ := En'.left.val
    obtain ⟨al, kl, el⟩ := En'.log.val
    have hlog : p.log.length <= 65536 := by rcases En'.how with ⟨-, -, z⟩ | ⟨-, -, z⟩ <;> omega
    obtain ⟨fin, hfin, hto⟩ : ∃ fin : Bool, er = (if fin then 1 else 2) /\ (fin = true -> ∀ t, t < d.c.nT -> p.u.hold t = [] /\ (p.u.told t).length <= 2031647) := by
      rcases En'.how with ⟨z1, z2, -⟩ | ⟨z1, -, -⟩
      · refine ⟨true, z1, fun _ t ht => ?_⟩
        have hq := En'.Q t
        rcases En'.reg.alive t ht with ⟨a1, -⟩ | ⟨a1, a2⟩
        · have : t ∈ p.live d.c.nT := mem_live.2 ⟨ht, a1⟩
          rw [z2] at this; cases this
        · rw [a2] at hq
          exact hq
      · exact ⟨false, z1, fun h => by cases h⟩
    have IM : CMI d p.u h' := En'.I
    have J : CInv d.c 0 p.log.length p.u p.val := En'.J
    exact ⟨fin, lL, lW, lY, lV, p.log.length, p.u, p.val, by rw [<- hfin], ⟨⟨_, _, _, el⟩, ⟨_, _, _, ew⟩, ⟨_, _, _, ey⟩, ⟨_, _, _, ev⟩⟩, ⟨IM, J.mono hlog, En'.cel, hto⟩, up.size⟩
  · exact y.elim
end
end
section
open Go Go.TJ Go.Proofs
instance : Mixed Try.prog := ⟨by kernel_rfl⟩
structure Clk (h : Hp) (c : Nat) (B : Nat -> Nat) (vals : Nat -> Int) (fns : Nat -> Value) : Prop where
  obj : ∃ cs, h[c]? = some (.cells cs 151 (0, 0))
  pnow : hcell h ⟨c, 0, none⟩ = some (.pointer (some ⟨B 0, 0, none⟩))
  pbusy : hcell h ⟨c, 1, none⟩ = some (.pointer (some ⟨B 1, 0, none⟩))
  pst : ∀ i, i < 16 -> hcell h ⟨c, 2 + i * 3, none⟩ = some (.pointer (some ⟨B (2 + 2 * i), 0, none⟩))
  pdu : ∀ i, i < 16 -> hcell h ⟨c, 2 + i * 3 + 1, none⟩ = some (.pointer (some ⟨B (3 + 2 * i), 0, none⟩))
  pf : ∀ i, i < 16 -> hcell h ⟨c, 2 + i * 3 + 2, none⟩ = some (fns i)
  cell : ∀ j, j < 34 -> h[B j]? = some (cellO (vals j))
  inj : ∀ i j, i < 34 -> j < 34 -> B i = B j -> i = j
  cne : ∀ j, j < 34 -> B j ≠ c
def Own (c : Nat) (B : Nat -> Nat) (b : Nat) : Prop := b = c \/ ∃ j, j < 34 /\ b = B j
theorem Clk.upd {h h' : Hp} {c : Nat} {B : Nat -> Nat} {vals : Nat -> Int} {fns : Nat -> Value} (k : Clk h c B vals fns) {T : Nat -> Prop} (u : Upd T h h') (hT : ∀ b, T b -> ¬ Own c B b) : Clk h' c B vals fns := by
  have hc : ¬ T c := fun x => hT _ x (.inl rfl)
  have hB : ∀ j, j < 34 -> ¬ T (B j) := fun j hj x => hT _ x (.inr ⟨j, hj, rfl⟩)
  obtain ⟨cs, hcs⟩ := k.obj
  exact ⟨⟨cs, u.get hcs hc⟩, u.hcell k.pnow hc, u.hcell k.pbusy hc, fun i hi => u.hcell (k.pst i hi) hc, fun i hi => u.hcell (k.pdu i hi) hc, fun i hi => u.hcell (k.pf i hi) hc, fun j hj => u.get (k.cell j hj) (hB j hj), k.inj, k.cne⟩
theorem Clk.set {h : Hp} {c : Nat} {B : Nat -> Nat} {vals : Nat -> Int} {fns : Nat -> Value} (k : Clk h c B vals fns) {j : Nat} (hj : j < 34) (x : Int) : Clk (h.setIfInBounds (B j) (cellO x)) c B (up vals j x) fns := by
  have hc : B j ≠ c := k.cne j hj
  obtain ⟨cs, hcs⟩ := k.obj
  refine ⟨⟨cs, by rw [get_set_ne _ hc]; exact hcs⟩, by rw [hcell_set_ne _ hc]; exact k.pnow, by rw [hcell_set_ne _ hc]; exact k.pbusy, fun i hi => by rw [hcell_set_ne _ hc]; exact k.pst i hi, fun i hi => by rw [hcell_set_ne _ hc]; exact k.pdu i hi,
    fun i hi => by rw [hcell_set_ne _ hc]; exact k.pf i hi, fun i hi => ?_, k.inj, k.cne⟩
  by_cases e : i = j
  · subst e; rw [up_same]; exact get_set_same (k.cell i hi)
  · rw [up_ne _ _ e, get_set_ne _ (fun x => e (k.inj _ _ hi hj x.symm))]
    exact k.cell i hi
theorem Clk.setF {h : Hp} {c : Nat} {B : Nat -> Nat} {vals : Nat -> Int} {fns : Nat -> Value} (k : Clk h c B vals fns) {i : Nat} (hi : i < 16) (v : Value) : Clk (hset h ⟨c, 2 + i * 3 + 2, none⟩ v) c B vals (up fns i v) := by
  have hc := k.pf i hi
  obtain ⟨cs, hcs⟩ := k.obj
  have o : ∀ q, q ≠ 2 + i * 3 + 2 -> hcell (hset h ⟨c, 2 + i * 3 + 2, none⟩ v) ⟨c, q, none⟩ = hcell h ⟨c, q, none⟩ := fun q hq => hset_cell_ne _ _ _ _ (by simp; omega) ⟨_, hc⟩
  refine ⟨⟨_, hset_same h ⟨c, 2 + i * 3 + 2, none⟩ v hcs rfl⟩, by rw [o _ (by omega)]; exact k.pnow, by rw [o _ (by omega)]; exact k.pbusy, fun q hq => by rw [o _ (by omega)]; exact k.pst q hq, fun q hq => by rw [o _ (by omega)]; exact k.pdu q hq,
    fun q hq => ?_, fun j hj => ?_, k.inj, k.cne⟩
  · by_cases e : q = i
    · subst e; rw [up_same]; exact hcell_hset_same hc
    · rw [up_ne _ _ e, o _ (by omega)]; exact k.pf q hq
  · have : (⟨c, 2 + i * 3 + 2, none⟩ : Addr).block ≠ B j := fun e => k.cne j hj e.symm
    rw [hset_ne _ _ _ this]; exact k.cell j hj
theorem Clk.froz {h : Hp} {c : Nat} {B : Nat -> Nat} {vals : Nat -> Int} {fns : Nat -> Value} (k : Clk h c B vals fns) (o : Nat) : hfroz h ⟨c, o, none⟩ = false := by
  obtain ⟨cs, hcs⟩ := k.obj; exact hfroz_of hcs
section
variable {Γ : Type} {main : Bool} {h : Hp} {δ : Ix Γ} {c : Nat} {B : Nat -> Nat} {vals : Nat -> Int} {fns : Nat -> Value}
theorem made_ok {a : Addr} (hc : hcell h ⟨c, 0, none⟩ = some (.pointer (some a))) : CallW Try.prog main NoS 78 #[.pointer (some ⟨c, 0, none⟩)] h δ (Ret (Det (.bool true) h δ)) := by
  refine CallW.start (n := 12) rfl rfl ?_
  (repeat (first | refine EK.seq ?_ | refine EK.region ?_ | refine ER.done ?_ | refine ER.move rfl rfl rfl ?_ | refine ER.assign rfl rfl rfl ?_ | refine ER.nilCheck rfl rfl rfl ?_ | refine ER.fieldAddr rfl rfl rfl ?_ | refine ER.neqV rfl rfl rfl rfl rfl ?_))
  refine ER.load1 rfl rfl rfl hc ?_
  (repeat (first | refine ER.done ?_ | refine ER.assign rfl rfl rfl ?_ | refine ER.neqV rfl rfl rfl rfl rfl ?_ | refine ER.pickT rfl rfl rfl rfl ?_ | refine EK.ret ?_))
  exact EU.ret1 rfl rfl det
theorem now_ok (k : Clk h c B vals fns) : CallW Try.prog main NoS 17 #[.pointer (some ⟨c, 0, none⟩), .pointer none] h δ (Ret (Det (.int .i64 (vals 0)) h δ)) := by
  refine CallW.start (n := 14) rfl rfl ?_
  (repeat (first | refine EK.seq ?_ | refine EK.region ?_ | refine ER.done ?_ | refine ER.move rfl rfl rfl ?_ | refine ER.assign rfl rfl rfl ?_))
  refine ER.callD rfl rfl rfl rfl rfl (made_ok k.pnow) ?_
  (repeat (first | refine EK.seq ?_ | refine EK.region ?_ | refine ER.done ?_ | refine EK.skip ?_ | refine ER.move rfl rfl rfl ?_ | refine ER.nilCheck rfl rfl rfl ?_ | refine ER.fieldAddr rfl rfl rfl ?_ | refine ER.notB rfl rfl rfl ?_ | refine EK.condF rfl ?_))
  refine ER.load1 rfl rfl rfl k.pnow ?_
  (repeat refine ER.move rfl rfl rfl ?_)
  refine ER.callD rfl rfl rfl rfl rfl (cload (k.cell 0 (by omega))) ?_
  (repeat (first | refine ER.done ?_ | refine ER.assign rfl rfl rfl ?_ | refine EK.ret ?_))
  exact EU.ret1 rfl rfl det
theorem stop_yes (k : Clk h c B vals fns) {s : Nat} {r : Int} (hs : s < 16) (hr : 0 <= r) (hm : r.tmod 4 = 2) : CallW Try.prog main NoS 56 #[.pointer (some ⟨c, 0, none⟩), .pointer none, .agg #[.int .i64 s, .int .i64 r]] h δ
    (Ret fun v h' δ' => δ' = δ /\ ((vals (2 + 2 * s) ≠ r /\ v = .bool false /\ Upd (fun _ => False) h h') \/ (vals (2 + 2 * s) = r /\ v = .bool true /\ Upd (Own c B) h h' /\ (r <= 4611686018427387904 -> Clk h' c B (up vals (2 + 2 * s) (r + 2)) fns)))) := by
  have hb := get_push_new h (.cells #[.int .i64 s, .int .i64 r] 104)
  have hu : Upd (fun _ => False) h (h.push (.cells #[.int .i64 s, .int .i64 r] 104)) := Upd.push _ _
  have k1 := k.upd hu (fun _ x => x.elim)
  have hlt : B (2 + 2 * s) ≠ h.size := fun e => by have := lt_of_get (k.cell (2 + 2 * s) (by omega)); omega
  have e0 : hcell (h.push (.cells #[.int .i64 s, .int .i64 r] 104)) ⟨h.size, 0, none⟩ = some (.int .i64 s) := hcell_of hb rfl
  have e1 : hcell (h.push (.cells #[.int .i64 s, .int .i64 r] 104)) ⟨h.size, 1, none⟩ = some (.int .i64 r) := hcell_of hb rfl
  refine CallW.start (n := 47) rfl rfl ?_
  (repeat (first | refine EK.seq ?_ | refine EK.region ?_ | refine ER.done ?_ | refine ER.move rfl rfl rfl ?_ | refine ER.assign rfl rfl rfl ?_ | refine ER.boxA rfl rfl rfl ?_))
  refine ER.callD rfl rfl rfl rfl rfl (made_ok (hcell_push k.pnow)) ?_
  (repeat (first | refine EK.seq ?_ | refine ER.done ?_ | refine EK.skip ?_ | refine ER.move rfl rfl rfl ?_ | refine ER.fieldAddr rfl rfl rfl ?_ | refine ER.load1 rfl rfl rfl (hcell_of (by assumption) rfl) ?_ | refine ER.notB rfl rfl rfl ?_ | refine ER.pickF rfl rfl rfl rfl ?_ | refine ER.cmpF rfl rfl rfl rfl rfl (by first | (dsimp only [cmpP]; omega) | exact rfl | exact Int.le_refl _) ?_ | refine ER.rem (kd := .i64) rfl rfl rfl rfl (by decide) rfl ?_ | refine EK.condF rfl ?_))
  refine EK.regionAny (fun h' => hcell h' ⟨h.size, 0, none⟩ = some (.int .i64 s) /\ hcell h' ⟨h.size, 1, none⟩ = some (.int .i64 r) /\ hcell h' ⟨c, 2 + s * 3, none⟩ = some (.pointer (some ⟨B (2 + 2 * s), 0, none⟩))) ?_
  have hZ := And.intro e0 (And.intro e1 (k1.pst s hs))
  refine EA.tMove 0 rfl (by kernel_rfl) rfl rfl rfl rfl hZ ?_
  refine EA.tField 1 rfl (by kernel_rfl) rfl rfl rfl rfl hZ ?_
  refine EA.tLoad 2 rfl (by kernel_rfl) rfl rfl rfl rfl (fun _ hz => hz.1) hZ ?_
  refine EA.tNil 3 rfl (by kernel_rfl) rfl rfl rfl rfl hZ ?_
  refine EA.tField 4 rfl (by kernel_rfl) rfl rfl rfl rfl hZ ?_
  refine EA.tIdxA 5 rfl (by kernel_rfl) rfl rfl rfl rfl rfl (by omega) (by omega) hZ ?_
  refine EA.tField 6 rfl (by kernel_rfl) rfl rfl rfl rfl hZ ?_
  refine EA.tLoad 7 rfl (by kernel_rfl) rfl rfl rfl rfl (fun _ hz => hz.2.2) hZ ?_
  refine EA.tMove 8 rfl (by kernel_rfl) rfl rfl rfl rfl hZ ?_
  refine EA.tField 9 rfl (by kernel_rfl) rfl rfl rfl rfl hZ ?_
  refine EA.tLoad 10 rfl (by kernel_rfl) rfl rfl rfl rfl (fun _ hz => hz.2.1) hZ ?_
  refine EA.tField 11 rfl (by kernel_rfl) rfl rfl rfl rfl hZ ?_
  refine EA.tLoad 12 rfl (by kernel_rfl) rfl rfl rfl rfl (fun _ hz => hz.2.1) hZ ?_
  (first | refine EA.tAdd (kd := .i64) 13 rfl (by kernel_rfl) rfl rfl rfl rfl rfl rfl hZ ?_ | refine EA.tSub (kd := .i64) 13 rfl (by kernel_rfl) rfl rfl rfl rfl rfl rfl hZ ?_)
  (first | refine EA.tAdd (kd := .i64) 14 rfl (by kernel_rfl) rfl rfl rfl rfl rfl rfl hZ ?_ | refine EA.tSub (kd := .i64) 14 rfl (by kernel_rfl) rfl rfl rfl rfl rfl rfl hZ ?_)
  by_cases hv : vals (2 + 2 * s) = r
  · refine EA.callD 15 rfl (by kernel_rfl) rfl rfl rfl rfl rfl rfl (ccas_yes (v := r) (hv ▸ k1.cell (2 + 2 * s) (by omega)) (fun _ x => x)) ⟨?_, ?_, ?_⟩ ?_
    · rw [hcell_set_ne _ hlt]; exact e0
    · rw [hcell_set_ne _ hlt]; exact e1
    · rw [hcell_set_ne _ (k.cne _ (by omega))]; exact k1.pst s hs
    refine EA.val 16 rfl (by kernel_rfl) rfl rfl rfl (fun ρ Q X hρ hq => sem_assign (hρ _ _ rfl) hq) ⟨?_, ?_, ?_⟩ ?_
    · rw [hcell_set_ne _ hlt]; exact e0
    · rw [hcell_set_ne _ hlt]; exact e1
    · rw [hcell_set_ne _ (k.cne _ (by omega))]; exact k1.pst s hs
    refine EA.done (by kernel_rfl) ?_
    (repeat refine EK.ret ?_)
    refine EU.ret1 rfl rfl ⟨rfl, .inr ⟨hv, rfl, (hu.mono (fun _ _ x => x.elim)).trans (Upd.set _ _ _ (.inr ⟨_, by omega, rfl⟩)), fun hle => ?_⟩⟩
    have e : IntKind.i64.wrap (IntKind.i64.wrap (r + 4) - 2) = r + 2 := by rw [i64_in (x := r + 4) (by omega) (by omega), i64_in (by omega) (by omega)]; omega
    rw [e]
    exact k1.set (by omega) (r + 2)
  · refine EA.callD 15 rfl (by kernel_rfl) rfl rfl rfl rfl rfl rfl (ccas_no hv (k1.cell (2 + 2 * s) (by omega)) (fun _ x => x)) hZ ?_
    refine EA.val 16 rfl (by kernel_rfl) rfl rfl rfl (fun ρ Q X hρ hq => sem_assign (hρ _ _ rfl) hq) hZ ?_
    refine EA.done (by kernel_rfl) ?_
    (repeat refine EK.ret ?_)
    exact EU.ret1 rfl rfl ⟨rfl, .inl ⟨hv, rfl, hu⟩⟩
end
end
section
open Go Go.TJ Go.Proofs
section
variable {Γ : Type} {main : Bool} {h : Hp} {δ : Ix Γ} {c : Nat} {B : Nat -> Nat} {vals : Nat -> Int} {fns : Nat -> Value}
def timO (s r : Int) : Obj := .cells #[.int .i64 s, .int .i64 r] 104 (0, 0)
theorem set_ok {F : Go.Fn} {G H : Array Value} {due : Int} {i : Nat} (k : Clk h c B vals fns) (hd0 : 0 <= due) (hd1 : due <= 4611686018427387904) (hi : i < 16) (hbusy : ∀ q, q < i -> (vals (2 + 2 * q)).tmod 4 ≠ 0) (hfree : (vals (2 + 2 * i)).tmod 4 = 0)
    (hv0 : -4611686018427387904 <= vals (2 + 2 * i)) (hv1 : vals (2 + 2 * i) <= 4611686018427387904) :
    CallW Try.prog main NoS 53 #[.pointer (some ⟨c, 0, none⟩), .pointer none, .int .i64 due, .func F G H] h δ
    (Ret fun v h' δ' => v = .tuple #[.agg #[.int .i64 i, .int .i64 (vals (2 + 2 * i) + 2)], .int .i64 0] /\ Upd (Own c B) h h' /\ δ' = δ /\ Clk h' c B (up (up vals (3 + 2 * i) due) (2 + 2 * i) (vals (2 + 2 * i) + 2)) (up fns i (.func F G H))) := by
  have hu : Upd (fun _ => False) h (h.push (timO 0 0)) := Upd.push _ _
  have k1 := k.upd hu (fun _ x => x.elim)
  have hsz : ∀ j, j < 34 -> B j ≠ h.size := fun j hj e => by have := lt_of_get (k.cell j hj); omega
  have hcz : c ≠ h.size := fun e => by obtain ⟨cs, hcs⟩ := k.obj; have := lt_of_get hcs; omega
  refine CallW.start (n := 82) rfl rfl ?_
  (repeat (first | refine EK.seq ?_ | refine EK.region ?_ | refine ER.done ?_ | refine ER.move rfl rfl rfl ?_ | refine ER.assign rfl rfl rfl ?_ | refine ER.allocA rfl rfl ?_))
  refine ER.callD rfl rfl rfl rfl rfl (made_ok (hcell_push k.pnow)) ?_
  (repeat (first | refine EK.seq ?_ | refine EK.region ?_ | refine ER.done ?_ | refine EK.skip ?_ | refine EK.block ?_ | refine ER.move rfl rfl rfl ?_ | refine ER.eqV rfl rfl rfl rfl rfl ?_ | refine ER.notB rfl rfl rfl ?_ | refine ER.pickF rfl rfl rfl rfl ?_ | refine ER.cmpF rfl rfl rfl rfl rfl (by first | (dsimp only [cmpP]; omega) | exact rfl | exact Int.le_refl _) ?_ | refine EK.condF rfl ?_))
  refine EK.loopInv (fun q : Nat => [(28, .int .i64 q), (0, .pointer (some ⟨c, 0, none⟩)), (1, .pointer none), (2, .int .i64 due), (3, .func F G H), (8, .pointer (some ⟨h.size, 0, none⟩))]) (fun q h' δ' => h' = h.push (timO 0 0) /\ δ' = δ /\ q <= i) (fun q => 16 - q) 0
    ⟨rfl, rfl, rfl, rfl, rfl, rfl, trivial⟩ ⟨rfl, rfl, Nat.zero_le _⟩ ?_
  rintro q _ _ ⟨rfl, rfl, hqi⟩ again
  have hq : q < 16 := by omega
  (repeat (first | refine EK.seq ?_ | refine EK.region ?_ | refine ER.done ?_ | refine EK.skip ?_ | refine EK.block ?_ | refine ER.move rfl rfl rfl ?_ | refine ER.assign rfl rfl rfl ?_ | refine ER.nilCheck rfl rfl rfl ?_ | refine ER.fieldAddr rfl rfl rfl ?_ | refine ER.cmpT rfl rfl rfl rfl rfl (by first | (dsimp only [cmpP]; omega) | exact rfl | exact Int.le_refl _) ?_ | refine ER.indexArr rfl rfl rfl rfl (by omega) (by omega) ?_ | refine EK.condT rfl ?_))
  refine ER.load1 rfl rfl rfl (k1.pst q hq) ?_
  (repeat refine ER.move rfl rfl rfl ?_)
  refine ER.callD rfl rfl rfl rfl rfl (cload (k1.cell (2 + 2 * q) (by omega))) ?_
  by_cases e : q = i
  · subst e
    (repeat (first | refine EK.seq ?_ | refine EK.region ?_ | refine ER.done ?_ | refine ER.move rfl rfl rfl ?_ | refine ER.assign rfl rfl rfl ?_ | refine ER.nilCheck rfl rfl rfl ?_ | refine ER.fieldAddr rfl rfl rfl ?_ | refine ER.cmpF rfl rfl rfl rfl rfl (by first | (dsimp only [cmpP]; omega) | exact rfl | exact Int.le_refl _) ?_ | refine ER.rem (kd := .i64) rfl rfl rfl rfl (by decide) rfl ?_))
    refine ER.load1 rfl rfl rfl (k1.pst q hq) ?_
    (repeat (first | refine ER.move rfl rfl rfl ?_ | refine ER.add (kd := .i64) rfl rfl rfl rfl (i64_in (by omega) (by omega)) ?_))
    refine ER.callD rfl rfl rfl rfl rfl (ccas_yes (k1.cell (2 + 2 * q) (by omega)) (fun _ x => x)) ?_
    have k2 := k1.set (j := 2 + 2 * q) (by omega) (vals (2 + 2 * q) + 1)
    (repeat (first | refine EK.seq ?_ | refine EK.region ?_ | refine ER.done ?_ | refine EK.skip ?_ | refine ER.move rfl rfl rfl ?_ | refine ER.nilCheck rfl rfl rfl ?_ | refine ER.fieldAddr rfl rfl rfl ?_ | refine ER.notB rfl rfl rfl ?_ | refine ER.pickF rfl rfl rfl rfl ?_ | refine EK.condF rfl ?_))
    refine ER.store1 rfl rfl rfl (by simp [OneCell]) ⟨_, k2.pf q hq⟩ (k2.froz _) (fun x => x) ?_
    have k3 := k2.setF hq (.func F G H)
    (repeat (first | refine EK.seq ?_ | refine EK.region ?_ | refine ER.done ?_ | refine ER.move rfl rfl rfl ?_ | refine ER.nilCheck rfl rfl rfl ?_ | refine ER.fieldAddr rfl rfl rfl ?_))
    refine ER.load1 rfl rfl rfl (k3.pdu q hq) ?_
    (repeat refine ER.move rfl rfl rfl ?_)
    refine ER.callD rfl rfl rfl rfl rfl (cstore (k3.cell (3 + 2 * q) (by omega)) (fun _ x => x)) ?_
    have k4 := k3.set (j := 3 + 2 * q) (by omega) due
    (repeat (first | refine EK.seq ?_ | refine EK.region ?_ | refine ER.done ?_ | refine ER.move rfl rfl rfl ?_ | refine ER.nilCheck rfl rfl rfl ?_ | refine ER.fieldAddr rfl rfl rfl ?_))
    refine ER.load1 rfl rfl rfl (k4.pst q hq) ?_
    (repeat (first | refine ER.move rfl rfl rfl ?_ | refine ER.add (kd := .i64) rfl rfl rfl rfl (i64_in (by omega) (by omega)) ?_))
    refine ER.callD rfl rfl rfl rfl rfl (cstore (k4.cell (2 + 2 * q) (by omega)) (fun _ x => x)) ?_
    have k5 := k4.set (j := 2 + 2 * q) (by omega) (vals (2 + 2 * q) + 2)
    (repeat (first | refine EK.seq ?_ | refine EK.region ?_ | refine ER.done ?_ | refine ER.move rfl rfl rfl ?_ | refine ER.add (kd := .i64) rfl rfl rfl rfl (i64_in (by omega) (by omega)) ?_))
    refine ER.buildS (cells := #[.int .i64 q, .int .i64 (vals (2 + 2 * q) + 2)]) rfl rfl rfl rfl ?_
    have u4 := ((((hu.mono (T' := Own c B) (fun _ _ x => x.elim)).trans (Upd.set _ (B (2 + 2 * q)) (cellO (vals (2 + 2 * q) + 1)) (.inr ⟨_, by omega, rfl⟩))).trans (Upd.hset _ ⟨c, 2 + q * 3 + 2, none⟩ (.func F G H) (.inl rfl))).trans (Upd.set _ (B (3 + 2 * q)) (cellO due) (.inr ⟨_, by omega, rfl⟩))).trans (Upd.set _ (B (2 + 2 * q)) (cellO (vals (2 + 2 * q) + 2)) (.inr ⟨_, by omega, rfl⟩))
    have hb : ((((h.push (timO 0 0)).setIfInBounds (B (2 + 2 * q)) (cellO (vals (2 + 2 * q) + 1)) |> fun x => hset x ⟨c, 2 + q * 3 + 2, none⟩ (.func F G H)).setIfInBounds (B (3 + 2 * q)) (cellO due)).setIfInBounds (B (2 + 2 * q)) (cellO (vals (2 + 2 * q) + 2)))[h.size]? = some (timO 0 0) := by
      rw [get_set_ne _ (hsz _ (by omega)), get_set_ne _ (hsz _ (by omega)), hset_ne _ _ _ hcz, get_set_ne _ (hsz _ (by omega))]
      exact get_push_new h _
    refine ER.storeT2 hb rfl rfl rfl rfl (by simp [OneCell]) (by simp [OneCell]) (fun _ x => x) ?_
    (repeat (first | refine ER.done ?_ | refine ER.assign rfl rfl rfl ?_ | refine EK.ret ?_))
    refine EU.retCell2 (get_set_same hb) rfl rfl rfl ⟨rfl, ?_, rfl, ?_⟩
    · refine ⟨by have := u4.size; simpa using this, fun b hb' hO => ?_⟩
      rw [get_set_ne _ (by omega)]
      exact u4.same b hb' hO
    · have k6 := k5.upd (Upd.set (T := fun b => b = h.size) _ h.size (.cells #[.int .i64 q, .int .i64 (vals (2 + 2 * q) + 2)] 104 (0, 0)) rfl) (by
        rintro b rfl (x | ⟨j, hj, x⟩)
        · exact hcz x.symm
        · exact hsz j hj x.symm)
      have e : up (up (up vals (2 + 2 * q) (vals (2 + 2 * q) + 1)) (3 + 2 * q) due) (2 + 2 * q) (vals (2 + 2 * q) + 2) = up (up vals (3 + 2 * q) due) (2 + 2 * q) (vals (2 + 2 * q) + 2) := by
        funext j
        unfold up
        by_cases h1 : j = 2 + 2 * q
        · simp [h1]
        · simp [h1]
      rw [<- e]
      exact k6
  · have hb := hbusy q (by omega)
    (repeat (first | refine EK.seq ?_ | refine EK.region ?_ | refine ER.done ?_ | refine ER.move rfl rfl rfl ?_ | refine ER.assign rfl rfl rfl ?_ | refine ER.no rfl rfl ?_ | refine ER.pickT rfl rfl rfl rfl ?_ | refine ER.cmpT rfl rfl rfl rfl rfl (by first | (dsimp only [cmpP]; omega) | exact rfl | exact Int.le_refl _) ?_ | refine ER.add (kd := .i64) rfl rfl rfl rfl (i64_in (by omega) (by omega)) ?_ | refine ER.rem (kd := .i64) rfl rfl rfl rfl (by decide) rfl ?_ | refine EK.condT rfl ?_ | refine EK.exit rfl ?_))
    exact EK.back (again (q + 1) _ _ (by omega) ⟨rfl, rfl, by omega⟩) ⟨rfl, rfl, rfl, rfl, rfl, rfl, trivial⟩
end
end
section
open Go Go.TJ Go.Proofs
section
variable {Γ : Type} {main : Bool} {h : Hp} {δ : Ix Γ} {c : Nat} {B : Nat -> Nat} {vals : Nat -> Int} {fns : Nat -> Value}
def lk (vals : Nat -> Int) (m : Int) : Nat -> Option Nat
  | 0 => none
  | n + 1 => if (vals (2 + 2 * n)).tmod 4 = 2 /\ vals (3 + 2 * n) <= m /\ (∀ b, lk vals m n = some b -> vals (3 + 2 * n) < vals (3 + 2 * b)) then some n else lk vals m n
theorem lk_lt {vals : Nat -> Int} {m : Int} : ∀ {n i : Nat}, lk vals m n = some i -> i < n /\ (vals (2 + 2 * i)).tmod 4 = 2 /\ vals (3 + 2 * i) <= m
  | 0, _, h => by cases h
  | n + 1, i, h => by
    unfold lk at h
    split at h
    · rename_i hc; cases h; exact ⟨by omega, hc.1, hc.2.1⟩
    · have := lk_lt h; exact ⟨by omega, this.2⟩
def timR (vals : Nat -> Int) : Option Nat -> Obj
  | none => timO 0 0
  | some b => timO b (vals (2 + 2 * b))
def dueR (vals : Nat -> Int) : Option Nat -> Int
  | none => 0
  | some b => vals (3 + 2 * b)
theorem look_ok {m : Int} (k : Clk h c B vals fns) : CallW Try.prog main NoS 80 #[.pointer (some ⟨c, 0, none⟩), .pointer none, .int .i64 m] h δ
    (Ret fun v h' δ' => Upd (fun _ => False) h h' /\ δ' = δ /\ ((lk vals m 16 = none /\ v = .tuple #[.agg #[.int .i64 0, .int .i64 0], .bool false]) \/ (∃ i, lk vals m 16 = some i /\ v = .tuple #[.agg #[.int .i64 i, .int .i64 (vals (2 + 2 * i))], .bool true]))) := by
  have hu : ∀ o, Upd (fun _ => False) h ((h.push (timO 0 0)).push o) := fun o => (Upd.push _ _).trans (Upd.push _ _)
  have kk : ∀ o, Clk ((h.push (timO 0 0)).push o) c B vals fns := fun o => k.upd (hu o) (fun _ x => x.elim)
  refine CallW.start (n := 57) rfl rfl ?_
  (repeat (first | refine EK.seq ?_ | refine EK.region ?_ | refine ER.done ?_ | refine EK.block ?_ | refine ER.move rfl rfl rfl ?_ | refine ER.assign rfl rfl rfl ?_ | refine ER.allocA rfl rfl ?_))
  refine EK.loopInv (fun s : Nat × Option Nat => [(14, .int .i64 s.1), (0, .pointer (some ⟨c, 0, none⟩)), (1, .pointer none), (2, .int .i64 m), (6, .pointer (some ⟨h.size, 0, none⟩)), (8, .pointer (some ⟨(h.push (timO 0 0)).size, 0, none⟩)), (9, .int .i64 (dueR vals s.2)), (10, .bool s.2.isSome)])
    (fun s h' δ' => s.2 = lk vals m s.1 /\ h' = (h.push (timO 0 0)).push (timR vals s.2) /\ δ' = δ /\ s.1 <= 16) (fun s => 16 - s.1) (0, none) ⟨rfl, rfl, rfl, rfl, rfl, rfl, rfl, rfl, trivial⟩ ⟨rfl, rfl, rfl, by simp⟩ ?_
  rintro ⟨q, r⟩ _ _ ⟨hr, rfl, rfl, hq⟩ again
  dsimp only at hr hq again ⊢
  have k1 := kk (timR vals r)
  by_cases hlt : q < 16
  · (repeat (first | refine EK.seq ?_ | refine EK.region ?_ | refine ER.done ?_ | refine EK.skip ?_ | refine EK.block ?_ | refine ER.move rfl rfl rfl ?_ | refine ER.assign rfl rfl rfl ?_ | refine ER.nilCheck rfl rfl rfl ?_ | refine ER.fieldAddr rfl rfl rfl ?_ | refine ER.cmpT rfl rfl rfl rfl rfl (by first | (dsimp only [cmpP]; omega) | exact rfl | exact Int.le_refl _) ?_ | refine ER.indexArr rfl rfl rfl rfl (by omega) (by omega) ?_ | refine EK.condT rfl ?_))
    refine ER.load1 rfl rfl rfl (k1.pst q hlt) ?_
    (repeat refine ER.move rfl rfl rfl ?_)
    refine ER.callD rfl rfl rfl rfl rfl (cload (k1.cell (2 + 2 * q) (by omega))) ?_
    by_cases h2 : (vals (2 + 2 * q)).tmod 4 = 2
    · (repeat (first | refine EK.seq ?_ | refine EK.region ?_ | refine ER.done ?_ | refine EK.skip ?_ | refine ER.move rfl rfl rfl ?_ | refine ER.assign rfl rfl rfl ?_ | refine ER.nilCheck rfl rfl rfl ?_ | refine ER.fieldAddr rfl rfl rfl ?_ | refine ER.cmpF rfl rfl rfl rfl rfl (by first | (dsimp only [cmpP]; omega) | exact rfl | exact Int.le_refl _) ?_ | refine ER.rem (kd := .i64) rfl rfl rfl rfl (by decide) rfl ?_ | refine ER.indexArr rfl rfl rfl rfl (by omega) (by omega) ?_ | refine EK.condF rfl ?_))
      refine ER.load1 rfl rfl rfl (k1.pdu q hlt) ?_
      (repeat refine ER.move rfl rfl rfl ?_)
      refine ER.callD rfl rfl rfl rfl rfl (cload (k1.cell (3 + 2 * q) (by omega))) ?_
      by_cases h3 : vals (3 + 2 * q) <= m
      · rcases r with _ | b
        · have hn : lk vals m (q + 1) = some q := by
            unfold lk; rw [<- hr]; exact if_pos ⟨h2, h3, fun b hb => by cases hb⟩
          (repeat (first | refine EK.seq ?_ | refine EK.region ?_ | refine ER.done ?_ | refine ER.move rfl rfl rfl ?_ | refine ER.assign rfl rfl rfl ?_ | refine ER.no rfl rfl ?_ | refine ER.notB rfl rfl rfl ?_ | refine ER.pickT rfl rfl rfl rfl ?_ | refine ER.cmpT rfl rfl rfl rfl rfl (by first | (dsimp only [cmpP]; omega) | exact rfl | exact Int.le_refl _) ?_ | refine EK.condT rfl ?_))
          refine ER.buildS (cells := #[.int .i64 q, .int .i64 (vals (2 + 2 * q))]) rfl rfl rfl rfl ?_
          (repeat refine ER.move rfl rfl rfl ?_)
          refine ER.storeT2 (get_push_new _ (timO 0 0)) rfl rfl rfl rfl (by simp [OneCell]) (by simp [OneCell]) (fun _ x => x) ?_
          (repeat (first | refine EK.region ?_ | refine ER.done ?_ | refine EK.inBlock ?_ | refine ER.move rfl rfl rfl ?_ | refine ER.assign rfl rfl rfl ?_ | refine ER.add (kd := .i64) rfl rfl rfl rfl (i64_in (by omega) (by omega)) ?_))
          exact EK.back (again (q + 1, some q) _ _ (by dsimp only; omega) ⟨hn.symm, push_set _ _ _, rfl, by dsimp only; omega⟩) ⟨rfl, rfl, rfl, rfl, rfl, rfl, rfl, rfl, trivial⟩
        · by_cases h4 : vals (3 + 2 * q) < vals (3 + 2 * b)
          · have hn : lk vals m (q + 1) = some q := by
              unfold lk; rw [<- hr]; exact if_pos ⟨h2, h3, fun b hb => by cases hb; exact h4⟩
            have h4' : vals (3 + 2 * q) < dueR vals (some b) := h4
            (repeat (first | refine EK.seq ?_ | refine EK.region ?_ | refine ER.done ?_ | refine ER.move rfl rfl rfl ?_ | refine ER.assign rfl rfl rfl ?_ | refine ER.notB rfl rfl rfl ?_ | refine ER.pickT rfl rfl rfl rfl ?_ | refine ER.pickF rfl rfl rfl rfl ?_ | refine ER.cmpT rfl rfl rfl rfl rfl (by first | (dsimp only [cmpP]; omega) | exact rfl | exact Int.le_refl _) ?_ | refine EK.condT rfl ?_))
            refine ER.buildS (cells := #[.int .i64 q, .int .i64 (vals (2 + 2 * q))]) rfl rfl rfl rfl ?_
            (repeat refine ER.move rfl rfl rfl ?_)
            refine ER.storeT2 (get_push_new _ (timO b (vals (2 + 2 * b)))) rfl rfl rfl rfl (by simp [OneCell]) (by simp [OneCell]) (fun _ x => x) ?_
            (repeat (first | refine EK.region ?_ | refine ER.done ?_ | refine EK.inBlock ?_ | refine ER.move rfl rfl rfl ?_ | refine ER.assign rfl rfl rfl ?_ | refine ER.add (kd := .i64) rfl rfl rfl rfl (i64_in (by omega) (by omega)) ?_))
            exact EK.back (again (q + 1, some q) _ _ (by dsimp only; omega) ⟨hn.symm, push_set _ _ _, rfl, by dsimp only; omega⟩) ⟨rfl, rfl, rfl, rfl, rfl, rfl, rfl, rfl, trivial⟩
          · have hn : lk vals m (q + 1) = some b := by
              unfold lk; rw [<- hr]; exact if_neg (fun x => h4 (x.2.2 b rfl))
            have h4' : ¬ vals (3 + 2 * q) < dueR vals (some b) := h4
            (repeat (first | refine EK.seq ?_ | refine EK.region ?_ | refine ER.done ?_ | refine EK.skip ?_ | refine EK.inBlock ?_ | refine ER.move rfl rfl rfl ?_ | refine ER.assign rfl rfl rfl ?_ | refine ER.notB rfl rfl rfl ?_ | refine ER.pickT rfl rfl rfl rfl ?_ | refine ER.pickF rfl rfl rfl rfl ?_ | refine ER.cmpT rfl rfl rfl rfl rfl (by first | (dsimp only [cmpP]; omega) | exact rfl | exact Int.le_refl _) ?_ | refine ER.cmpF rfl rfl rfl rfl rfl (by first | (dsimp only [cmpP]; omega) | exact rfl | exact Int.le_refl _) ?_ | refine ER.add (kd := .i64) rfl rfl rfl rfl (i64_in (by omega) (by omega)) ?_ | refine EK.condF rfl ?_))
            exact EK.back (again (q + 1, some b) _ _ (by dsimp only; omega) ⟨hn.symm, rfl, rfl, by dsimp only; omega⟩) ⟨rfl, rfl, rfl, rfl, rfl, rfl, rfl, rfl, trivial⟩
      · have hn : lk vals m (q + 1) = r := by
          unfold lk; rw [<- hr]; exact if_neg (fun x => h3 x.2.1)
        (repeat (first | refine EK.seq ?_ | refine EK.region ?_ | refine ER.done ?_ | refine EK.skip ?_ | refine EK.inBlock ?_ | refine ER.move rfl rfl rfl ?_ | refine ER.assign rfl rfl rfl ?_ | refine ER.no rfl rfl ?_ | refine ER.pickF rfl rfl rfl rfl ?_ | refine ER.cmpF rfl rfl rfl rfl rfl (by first | (dsimp only [cmpP]; omega) | exact rfl | exact Int.le_refl _) ?_ | refine ER.add (kd := .i64) rfl rfl rfl rfl (i64_in (by omega) (by omega)) ?_ | refine EK.condF rfl ?_))
        exact EK.back (again (q + 1, r) _ _ (by dsimp only; omega) ⟨hn.symm, rfl, rfl, by dsimp only; omega⟩) ⟨rfl, rfl, rfl, rfl, rfl, rfl, rfl, rfl, trivial⟩
    · have hn : lk vals m (q + 1) = r := by
        unfold lk; rw [<- hr]; exact if_neg (fun x => h2 x.1)
      (repeat (first | refine EK.seq ?_ | refine EK.region ?_ | refine ER.done ?_ | refine ER.move rfl rfl rfl ?_ | refine ER.assign rfl rfl rfl ?_ | refine ER.cmpT rfl rfl rfl rfl rfl (by first | (dsimp only [cmpP]; omega) | exact rfl | exact Int.le_refl _) ?_ | refine ER.add (kd := .i64) rfl rfl rfl rfl (i64_in (by omega) (by omega)) ?_ | refine ER.rem (kd := .i64) rfl rfl rfl rfl (by decide) rfl ?_ | refine EK.condT rfl ?_ | refine EK.exit rfl ?_))
      exact EK.back (again (q + 1, r) _ _ (by dsimp only; omega) ⟨hn.symm, rfl, rfl, by dsimp only; omega⟩) ⟨rfl, rfl, rfl, rfl, rfl, rfl, rfl, rfl, trivial⟩
  · have e : q = 16 := by omega
    subst e
    have hb : ((h.push (timO 0 0)).push (timR vals r))[h.size]? = some (timO 0 0) := get_push _ (get_push_new h _)
    have hb2 : ((h.push (timO 0 0)).push (timR vals r))[(h.push (timO 0 0)).size]? = some (timR vals r) := get_push_new _ _
    have hs : ∀ o o', Upd (fun _ => False) h (((h.push (timO 0 0)).push o).setIfInBounds h.size o') := fun o o' => by
      refine ⟨by simp; omega, fun b hb' _ => ?_⟩
      rw [get_set_ne _ (by omega)]
      exact (hu o).same b hb' (fun x => x)
    (repeat (first | refine EK.seq ?_ | refine EK.region ?_ | refine ER.done ?_ | refine ER.cmpF rfl rfl rfl rfl rfl (by first | (dsimp only [cmpP]; omega) | exact rfl | exact Int.le_refl _) ?_ | refine EK.condF rfl ?_ | refine EK.exit rfl ?_))
    rcases r with _ | b
    · refine ER.loadN (vs := [.int .i64 0, .int .i64 0]) rfl rfl rfl rfl (hrow2 hb2) ?_
      (repeat refine ER.move rfl rfl rfl ?_)
      refine ER.storeT2 hb rfl rfl rfl rfl (by simp [OneCell]) (by simp [OneCell]) (fun _ x => x) ?_
      (repeat (first | refine ER.done ?_ | refine ER.assign rfl rfl rfl ?_ | refine EK.ret ?_))
      exact EU.retCell2 (get_set_same hb) rfl rfl rfl ⟨hs _ _, rfl, .inl ⟨hr.symm, rfl⟩⟩
    · refine ER.loadN (vs := [.int .i64 b, .int .i64 (vals (2 + 2 * b))]) rfl rfl rfl rfl (hrow2 hb2) ?_
      (repeat refine ER.move rfl rfl rfl ?_)
      refine ER.storeT2 hb rfl rfl rfl rfl (by simp [OneCell]) (by simp [OneCell]) (fun _ x => x) ?_
      (repeat (first | refine ER.done ?_ | refine ER.assign rfl rfl rfl ?_ | refine EK.ret ?_))
      exact EU.retCell2 (get_set_same hb) rfl rfl rfl ⟨hs _ _, rfl, .inr ⟨b, hr.symm, rfl⟩⟩
end
end
section
open Go Go.TJ Go.Proofs
section
variable {Γ : Type} {main : Bool} {h : Hp} {δ : Ix Γ}
def newB (N j : Nat) : Nat := if j < 2 then N + j else N + j + 1
structure PClk (h : Hp) (N i : Nat) : Prop where
  obj : ∃ cs, h[N + 2]? = some (.cells cs 151 (0, 0))
  pnow : hcell h ⟨N + 2, 0, none⟩ = some (.pointer (some ⟨N, 0, none⟩))
  pbusy : hcell h ⟨N + 2, 1, none⟩ = some (.pointer (some ⟨N + 1, 0, none⟩))
  pst : ∀ q, q < i -> hcell h ⟨N + 2, 2 + q * 3, none⟩ = some (.pointer (some ⟨newB N (2 + 2 * q), 0, none⟩))
  pdu : ∀ q, q < i -> hcell h ⟨N + 2, 2 + q * 3 + 1, none⟩ = some (.pointer (some ⟨newB N (3 + 2 * q), 0, none⟩))
  ost : ∀ q, q < 16 -> ∃ v, hcell h ⟨N + 2, 2 + q * 3, none⟩ = some v
  odu : ∀ q, q < 16 -> ∃ v, hcell h ⟨N + 2, 2 + q * 3 + 1, none⟩ = some v
  pf : ∀ q, q < 16 -> hcell h ⟨N + 2, 2 + q * 3 + 2, none⟩ = some .nilFunc
  cell : ∀ j, j < 2 + 2 * i -> h[newB N j]? = some (cellO 0)
  size : h.size = N + 3 + 2 * i
theorem PClk.push2 {h : Hp} {N i : Nat} (k : PClk h N i) (hi : i < 16) : PClk ((hset (hset ((h.push (cellO 0)).push (cellO 0)) ⟨N + 2, 2 + i * 3, none⟩ (.pointer (some ⟨h.size, 0, none⟩))) ⟨N + 2, 2 + i * 3 + 1, none⟩ (.pointer (some ⟨h.size + 1, 0, none⟩)))) N (i + 1) := by
  have hz := k.size
  obtain ⟨cs, hcs⟩ := k.obj
  have o0 : ∀ a v, hcell h a = some v -> hcell ((h.push (cellO 0)).push (cellO 0)) a = some v := fun a v x => hcell_push (hcell_push x)
  obtain ⟨v1, e1⟩ := k.ost i hi
  obtain ⟨v2, e2⟩ := k.odu i hi
  have e1' := o0 _ _ e1
  have e2' := o0 _ _ e2
  have e2'' : hcell (hset ((h.push (cellO 0)).push (cellO 0)) ⟨N + 2, 2 + i * 3, none⟩ (.pointer (some ⟨h.size, 0, none⟩))) ⟨N + 2, 2 + i * 3 + 1, none⟩ = some v2 := by rw [hset_cell_ne _ _ _ _ (by simp) ⟨_, e1'⟩]; exact e2'
  have o : ∀ q, q ≠ 2 + i * 3 -> q ≠ 2 + i * 3 + 1 -> ∀ v, hcell h ⟨N + 2, q, none⟩ = some v -> hcell (hset (hset ((h.push (cellO 0)).push (cellO 0)) ⟨N + 2, 2 + i * 3, none⟩ (.pointer (some ⟨h.size, 0, none⟩))) ⟨N + 2, 2 + i * 3 + 1, none⟩ (.pointer (some ⟨h.size + 1, 0, none⟩))) ⟨N + 2, q, none⟩ = some v := fun q h1 h2 v hv => by
    rw [hset_cell_ne _ _ _ _ (by simp; omega) ⟨_, e2''⟩, hset_cell_ne _ _ _ _ (by simp; omega) ⟨_, e1'⟩]; exact o0 _ _ hv
  have w1 : hcell (hset (hset ((h.push (cellO 0)).push (cellO 0)) ⟨N + 2, 2 + i * 3, none⟩ (.pointer (some ⟨h.size, 0, none⟩))) ⟨N + 2, 2 + i * 3 + 1, none⟩ (.pointer (some ⟨h.size + 1, 0, none⟩))) ⟨N + 2, 2 + i * 3, none⟩ = some (.pointer (some ⟨h.size, 0, none⟩)) := by
    rw [hset_cell_ne _ _ _ _ (by simp) ⟨_, e2''⟩]; exact hcell_hset_same e1'
  have w2 : hcell (hset (hset ((h.push (cellO 0)).push (cellO 0)) ⟨N + 2, 2 + i * 3, none⟩ (.pointer (some ⟨h.size, 0, none⟩))) ⟨N + 2, 2 + i * 3 + 1, none⟩ (.pointer (some ⟨h.size + 1, 0, none⟩))) ⟨N + 2, 2 + i * 3 + 1, none⟩ = some (.pointer (some ⟨h.size + 1, 0, none⟩)) := hcell_hset_same e2''
  have g0 : ∀ b x, h[b]? = some x -> b ≠ N + 2 -> (hset (hset ((h.push (cellO 0)).push (cellO 0)) ⟨N + 2, 2 + i * 3, none⟩ (.pointer (some ⟨h.size, 0, none⟩))) ⟨N + 2, 2 + i * 3 + 1, none⟩ (.pointer (some ⟨h.size + 1, 0, none⟩)))[b]? = some x := fun b x hx hb => by
    rw [hset_ne _ _ _ (Ne.symm hb), hset_ne _ _ _ (Ne.symm hb)]; exact get_push _ (get_push _ hx)
  have g1 : (hset (hset ((h.push (cellO 0)).push (cellO 0)) ⟨N + 2, 2 + i * 3, none⟩ (.pointer (some ⟨h.size, 0, none⟩))) ⟨N + 2, 2 + i * 3 + 1, none⟩ (.pointer (some ⟨h.size + 1, 0, none⟩)))[h.size]? = some (cellO 0) := by
    rw [hset_ne _ _ _ (by dsimp only; omega), hset_ne _ _ _ (by dsimp only; omega)]; exact get_push _ (get_push_new _ _)
  have g2 : (hset (hset ((h.push (cellO 0)).push (cellO 0)) ⟨N + 2, 2 + i * 3, none⟩ (.pointer (some ⟨h.size, 0, none⟩))) ⟨N + 2, 2 + i * 3 + 1, none⟩ (.pointer (some ⟨h.size + 1, 0, none⟩)))[h.size + 1]? = some (cellO 0) := by
    rw [hset_ne _ _ _ (by dsimp only; omega), hset_ne _ _ _ (by dsimp only; omega)]
    have := get_push_new (h.push (cellO 0)) (cellO 0)
    simpa using this
  have b1 : h.size = newB N (2 + 2 * i) := by unfold newB; rw [if_neg (by omega)]; omega
  have b2 : h.size + 1 = newB N (3 + 2 * i) := by unfold newB; rw [if_neg (by omega)]; omega
  refine ⟨⟨_, hset_same _ ⟨N + 2, 2 + i * 3 + 1, none⟩ _ (hset_same _ ⟨N + 2, 2 + i * 3, none⟩ _ (get_push _ (get_push _ hcs)) rfl) rfl⟩, o 0 (by omega) (by omega) _ k.pnow, o 1 (by omega) (by omega) _ k.pbusy, fun q hq => ?_, fun q hq => ?_, fun q hq => ?_, fun q hq => ?_, fun q hq => o _ (by omega) (by omega) _ (k.pf q hq), fun j hj => ?_, ?_⟩
  · by_cases e : q = i
    · subst e; rw [<- b1]; exact w1
    · exact o _ (by omega) (by omega) _ (k.pst q (by omega))
  · by_cases e : q = i
    · subst e; rw [<- b2]; exact w2
    · exact o _ (by omega) (by omega) _ (k.pdu q (by omega))
  · by_cases e : q = i
    · subst e; exact ⟨_, w1⟩
    · obtain ⟨v, hv⟩ := k.ost q hq
      exact ⟨v, o _ (by omega) (by omega) _ hv⟩
  · by_cases e : q = i
    · subst e; exact ⟨_, w2⟩
    · obtain ⟨v, hv⟩ := k.odu q hq
      exact ⟨v, o _ (by omega) (by omega) _ hv⟩
  · by_cases e : j = 2 + 2 * i
    · subst e; rw [<- b1]; exact g1
    by_cases e : j = 3 + 2 * i
    · subst e; rw [<- b2]; exact g2
    exact g0 _ _ (k.cell j (by omega)) (by unfold newB; split <;> omega)
  · simp [hset_size]; omega
theorem new_ok : CallW Try.prog main NoS 51 #[] h δ
    (Ret fun v h' δ' => v = .pointer (some ⟨h.size + 2, 0, none⟩) /\ Upd (fun _ => False) h h' /\ δ' = δ /\ Clk h' (h.size + 2) (newB h.size) (fun _ => 0) (fun _ => .nilFunc)) := by
  refine CallW.start (n := 26) rfl rfl ?_
  (repeat (first | refine EK.seq ?_ | refine EK.region ?_ | refine ER.done ?_ | refine ER.assign rfl rfl rfl ?_))
  refine ER.callD rfl rfl rfl rfl rfl cnew ?_
  refine ER.callD rfl rfl rfl rfl rfl cnew ?_
  refine ER.buildS (cells := #[.pointer (some ⟨h.size, 0, none⟩), .pointer (some ⟨(h.push (cellO 0)).size, 0, none⟩), .pointer none, .pointer none, .nilFunc, .pointer none, .pointer none, .nilFunc, .pointer none, .pointer none, .nilFunc, .pointer none, .pointer none, .nilFunc, .pointer none, .pointer none, .nilFunc, .pointer none, .pointer none, .nilFunc, .pointer none, .pointer none, .nilFunc, .pointer none, .pointer none, .nilFunc, .pointer none, .pointer none, .nilFunc, .pointer none, .pointer none, .nilFunc, .pointer none, .pointer none, .nilFunc, .pointer none, .pointer none, .nilFunc, .pointer none, .pointer none, .nilFunc, .pointer none, .pointer none, .nilFunc, .pointer none, .pointer none, .nilFunc, .pointer none, .pointer none, .nilFunc]) rfl rfl rfl rfl ?_
  refine ER.boxA rfl rfl rfl ?_
  have hN : ((h.push (cellO 0)).push (cellO 0)).size = h.size + 2 := by simp
  have hN1 : (h.push (cellO 0)).size = h.size + 1 := by simp
  rw [hN, hN1]
  have k0 : PClk (((h.push (cellO 0)).push (cellO 0)).push (.cells #[.pointer (some ⟨h.size, 0, none⟩), .pointer (some ⟨h.size + 1, 0, none⟩), .pointer none, .pointer none, .nilFunc, .pointer none, .pointer none, .nilFunc, .pointer none, .pointer none, .nilFunc, .pointer none, .pointer none, .nilFunc, .pointer none, .pointer none, .nilFunc, .pointer none, .pointer none, .nilFunc, .pointer none, .pointer none, .nilFunc, .pointer none, .pointer none, .nilFunc, .pointer none, .pointer none, .nilFunc, .pointer none, .pointer none, .nilFunc, .pointer none, .pointer none, .nilFunc, .pointer none, .pointer none, .nilFunc, .pointer none, .pointer none, .nilFunc, .pointer none, .pointer none, .nilFunc, .pointer none, .pointer none, .nilFunc, .pointer none, .pointer none, .nilFunc] 151)) h.size 0 := by
    have hb := get_push_new ((h.push (cellO 0)).push (cellO 0)) (.cells #[.pointer (some ⟨h.size, 0, none⟩), .pointer (some ⟨h.size + 1, 0, none⟩), .pointer none, .pointer none, .nilFunc, .pointer none, .pointer none, .nilFunc, .pointer none, .pointer none, .nilFunc, .pointer none, .pointer none, .nilFunc, .pointer none, .pointer none, .nilFunc, .pointer none, .pointer none, .nilFunc, .pointer none, .pointer none, .nilFunc, .pointer none, .pointer none, .nilFunc, .pointer none, .pointer none, .nilFunc, .pointer none, .pointer none, .nilFunc, .pointer none, .pointer none, .nilFunc, .pointer none, .pointer none, .nilFunc, .pointer none, .pointer none, .nilFunc, .pointer none, .pointer none, .nilFunc, .pointer none, .pointer none, .nilFunc, .pointer none, .pointer none, .nilFunc] 151)
    rw [hN] at hb
    have key : ∀ q, q < 16 -> hcell _ ⟨h.size + 2, 2 + q * 3, none⟩ = some (.pointer none) /\ hcell _ ⟨h.size + 2, 2 + q * 3 + 1, none⟩ = some (.pointer none) /\ hcell _ ⟨h.size + 2, 2 + q * 3 + 2, none⟩ = some .nilFunc := fun q hq => by
      have : q = 0 \/ q = 1 \/ q = 2 \/ q = 3 \/ q = 4 \/ q = 5 \/ q = 6 \/ q = 7 \/ q = 8 \/ q = 9 \/ q = 10 \/ q = 11 \/ q = 12 \/ q = 13 \/ q = 14 \/ q = 15 := by omega
      rcases this with rfl | rfl | rfl | rfl | rfl | rfl | rfl | rfl | rfl | rfl | rfl | rfl | rfl | rfl | rfl | rfl <;> exact ⟨hcell_of hb rfl, hcell_of hb rfl, hcell_of hb rfl⟩
    refine ⟨⟨_, hb⟩, hcell_of hb rfl, hcell_of hb rfl, fun q hq => by omega, fun q hq => by omega, fun q hq => ⟨_, (key q hq).1⟩, fun q hq => ⟨_, (key q hq).2.1⟩, fun q hq => (key q hq).2.2, fun j hj => ?_, by simp⟩
    have : j = 0 \/ j = 1 := by omega
    rcases this with rfl | rfl
    · exact get_push _ (get_push _ (get_push_new h _))
    · have := get_push (.cells #[.pointer (some ⟨h.size, 0, none⟩), .pointer (some ⟨h.size + 1, 0, none⟩), .pointer none, .pointer none, .nilFunc, .pointer none, .pointer none, .nilFunc, .pointer none, .pointer none, .nilFunc, .pointer none, .pointer none, .nilFunc, .pointer none, .pointer none, .nilFunc, .pointer none, .pointer none, .nilFunc, .pointer none, .pointer none, .nilFunc, .pointer none, .pointer none, .nilFunc, .pointer none, .pointer none, .nilFunc, .pointer none, .pointer none, .nilFunc, .pointer none, .pointer none, .nilFunc, .pointer none, .pointer none, .nilFunc, .pointer none, .pointer none, .nilFunc, .pointer none, .pointer none, .nilFunc, .pointer none, .pointer none, .nilFunc, .pointer none, .pointer none, .nilFunc] 151) (get_push_new (h.push (cellO 0)) (cellO 0))
      rw [hN1] at this
      exact this
  have u0 : Upd (fun _ => False) h (((h.push (cellO 0)).push (cellO 0)).push (.cells #[.pointer (some ⟨h.size, 0, none⟩), .pointer (some ⟨h.size + 1, 0, none⟩), .pointer none, .pointer none, .nilFunc, .pointer none, .pointer none, .nilFunc, .pointer none, .pointer none, .nilFunc, .pointer none, .pointer none, .nilFunc, .pointer none, .pointer none, .nilFunc, .pointer none, .pointer none, .nilFunc, .pointer none, .pointer none, .nilFunc, .pointer none, .pointer none, .nilFunc, .pointer none, .pointer none, .nilFunc, .pointer none, .pointer none, .nilFunc, .pointer none, .pointer none, .nilFunc, .pointer none, .pointer none, .nilFunc, .pointer none, .pointer none, .nilFunc, .pointer none, .pointer none, .nilFunc, .pointer none, .pointer none, .nilFunc, .pointer none, .pointer none, .nilFunc] 151)) := ((Upd.push _ _).trans (Upd.push _ _)).trans (Upd.push _ _)
  generalize ((h.push (cellO 0)).push (cellO 0)).push (.cells #[.pointer (some ⟨h.size, 0, none⟩), .pointer (some ⟨h.size + 1, 0, none⟩), .pointer none, .pointer none, .nilFunc, .pointer none, .pointer none, .nilFunc, .pointer none, .pointer none, .nilFunc, .pointer none, .pointer none, .nilFunc, .pointer none, .pointer none, .nilFunc, .pointer none, .pointer none, .nilFunc, .pointer none, .pointer none, .nilFunc, .pointer none, .pointer none, .nilFunc, .pointer none, .pointer none, .nilFunc, .pointer none, .pointer none, .nilFunc, .pointer none, .pointer none, .nilFunc, .pointer none, .pointer none, .nilFunc, .pointer none, .pointer none, .nilFunc, .pointer none, .pointer none, .nilFunc, .pointer none, .pointer none, .nilFunc, .pointer none, .pointer none, .nilFunc] 151) = h3 at k0 u0 ⊢
  (repeat (first | refine EK.seq ?_ | refine EK.region ?_ | refine ER.done ?_ | refine EK.block ?_ | refine ER.move rfl rfl rfl ?_ | refine ER.assign rfl rfl rfl ?_))
  refine EK.loopInv (fun q : Nat => [(7, .int .i64 q), (1, .pointer (some ⟨h.size + 2, 0, none⟩))]) (fun q h' δ' => q <= 16 /\ PClk h' h.size q /\ Upd (fun _ => False) h h' /\ δ' = δ) (fun q => 16 - q) 0 ⟨rfl, rfl, trivial⟩ ⟨Nat.zero_le _, k0, u0, rfl⟩ ?_
  clear k0 u0
  rintro q h1 _ ⟨hq, k, u, rfl⟩ again
  by_cases hlt : q < 16
  · (repeat (first | refine EK.seq ?_ | refine EK.region ?_ | refine ER.done ?_ | refine EK.skip ?_ | refine EK.block ?_ | refine ER.move rfl rfl rfl ?_ | refine ER.assign rfl rfl rfl ?_ | refine ER.cmpT rfl rfl rfl rfl rfl (by first | (dsimp only [cmpP]; omega) | exact rfl | exact Int.le_refl _) ?_ | refine EK.condT rfl ?_))
    refine EK.regionAny (fun _ => True) ?_
    have hZ := trivial
    refine EA.tMove 0 rfl (by kernel_rfl) rfl rfl rfl rfl hZ ?_
    refine EA.tMove 1 rfl (by kernel_rfl) rfl rfl rfl rfl hZ ?_
    refine EA.tMove 2 rfl (by kernel_rfl) rfl rfl rfl rfl hZ ?_
    refine EA.tMove 3 rfl (by kernel_rfl) rfl rfl rfl rfl hZ ?_
    refine EA.tNil 6 rfl (by kernel_rfl) rfl rfl rfl rfl hZ ?_
    refine EA.tField 7 rfl (by kernel_rfl) rfl rfl rfl rfl hZ ?_
    refine EA.tNil 11 rfl (by kernel_rfl) rfl rfl rfl rfl hZ ?_
    refine EA.tField 12 rfl (by kernel_rfl) rfl rfl rfl rfl hZ ?_
    refine EA.callD 4 rfl (by kernel_rfl) rfl rfl rfl rfl rfl rfl cnew hZ ?_
    refine EA.callD 5 rfl (by kernel_rfl) rfl rfl rfl rfl rfl rfl cnew hZ ?_
    refine EA.tIdxA 8 rfl (by kernel_rfl) rfl rfl rfl rfl rfl (by omega) (by omega) hZ ?_
    refine EA.tField 9 rfl (by kernel_rfl) rfl rfl rfl rfl hZ ?_
    have hz1 : (h1.push (cellO 0)).size = h1.size + 1 := by simp
    obtain ⟨v1, e1⟩ := k.ost q hlt
    obtain ⟨v2, e2⟩ := k.odu q hlt
    obtain ⟨cs, hcs⟩ := k.obj
    have f0 := hfroz_of (off := 2 + q * 3) (get_push (cellO 0) (get_push (cellO 0) hcs))
    have f1 := hfroz_of (off := 2 + q * 3 + 1) (get_push (cellO 0) (get_push (cellO 0) hcs))
    refine EA.unit 10 rfl (by kernel_rfl) rfl rfl (fun ρ Q X hρ hq => sem_store1 (hρ _ _ rfl) (hρ _ _ rfl) (by simp [OneCell]) ⟨_, hcell_push (hcell_push e1)⟩ f0 (fun x => x) hq) hZ ?_
    refine EA.tIdxA 13 rfl (by kernel_rfl) rfl rfl rfl rfl rfl (by omega) (by omega) hZ ?_
    refine EA.tField 14 rfl (by kernel_rfl) rfl rfl rfl rfl hZ ?_
    refine EA.unit 15 rfl (by kernel_rfl) rfl rfl (fun ρ Q X hρ hq => sem_store1 (hρ _ _ rfl) (hρ _ _ rfl) (by simp [OneCell]) ⟨v2, ?_⟩ ?_ (fun x => x) hq) hZ ?_
    · exact (hset_cell_ne _ ⟨h.size + 2, 2 + q * 3, none⟩ ⟨h.size + 2, 2 + q * 3 + 1, none⟩ _ (by simp) ⟨v1, hcell_push (hcell_push e1)⟩).trans (hcell_push (hcell_push e2))
    · exact (hfroz_hset _ ⟨h.size + 2, 2 + q * 3, none⟩ ⟨h.size + 2, 2 + q * 3 + 1, none⟩ _).trans f1
    refine EA.done (by kernel_rfl) ?_
    have k2 := k.push2 hlt
    rw [<- hz1] at k2
    (repeat (first | refine EK.region ?_ | refine ER.done ?_ | refine EK.inBlock ?_ | refine ER.move rfl rfl rfl ?_ | refine ER.add (kd := .i64) rfl rfl rfl rfl (i64_in (by omega) (by omega)) ?_))
    refine EK.back (again (q + 1) _ _ (by omega) ⟨by omega, k2, ?_, rfl⟩) ⟨rfl, rfl, trivial⟩
    have hu := k.size
    refine ⟨by simp only [hset_size, Array.size_push]; omega, fun b hb _ => ?_⟩
    rw [hset_ne _ _ _ (by dsimp only; omega), hset_ne _ _ _ (by dsimp only; omega)]
    exact (u.trans ((Upd.push _ _).trans (Upd.push _ _)) : Upd (fun _ => False) h ((h1.push (cellO 0)).push (cellO 0))).same b hb (fun x => x)
  · have e : q = 16 := by omega
    subst e
    (repeat (first | refine EK.seq ?_ | refine EK.region ?_ | refine ER.done ?_ | refine ER.move rfl rfl rfl ?_ | refine ER.assign rfl rfl rfl ?_ | refine ER.cmpF rfl rfl rfl rfl rfl (by first | (dsimp only [cmpP]; omega) | exact rfl | exact Int.le_refl _) ?_ | refine EK.condF rfl ?_ | refine EK.ret ?_ | refine EK.exit rfl ?_))
    refine EU.ret1 rfl rfl ⟨rfl, u, rfl, k.obj, ?_, ?_, fun i hi => k.pst i hi, fun i hi => k.pdu i hi, fun i hi => k.pf i hi, fun j hj => k.cell j (by omega), ?_, ?_⟩
    · exact k.pnow
    · exact k.pbusy
    · intro i j _ _ hij; unfold newB at hij; split at hij <;> split at hij <;> omega
    · intro j _; unfold newB; split <;> omega
end
end
section
open Go Go.TJ Go.Proofs
section
variable {Γ : Type} {main : Bool} {h : Hp} {δ : Ix Γ} {c : Nat} {B : Nat -> Nat} {vals : Nat -> Int} {fns : Nat -> Value}
structure Acc (main : Bool) (δ : Ix Γ) {σ : Type} (c : Nat) (B : Nat -> Nat) (base : Nat) (m : Int) (vl : σ -> Nat -> Int) (fn : σ -> Nat -> Value) (Inv : σ -> Nat -> Hp -> Prop) : Prop where
  clk : ∀ s r h, Inv s r h -> Clk h c B (vl s) (fn s) /\ base <= h.size
  stab : ∀ s r h h', Inv s r h -> Upd (fun _ => False) h h' -> Inv s r h'
  own : ∀ b, Own c B b -> b < base
  ring : ∀ s r h₀ h i, Inv s r h₀ -> Upd (fun _ => False) h₀ h -> r < 64 -> lk (vl s) m 16 = some i -> 0 <= vl s (2 + 2 * i) /\ vl s (2 + 2 * i) <= 4611686018427387904 /\ ∃ g cap, fn s i = .func (.func g) #[] cap /\ HasBody Try.prog g /\
    CallW Try.prog main NoS g (#[.pointer none] ++ cap) (h.setIfInBounds (B (2 + 2 * i)) (cellO (vl s (2 + 2 * i) + 1))) δ
      (Ret fun _ h' δ' => δ' = δ /\ Upd (fun b => b < h₀.size) h h' /\ (∃ vl' fn', Clk h' c B vl' fn') /\ ∃ s', Inv s' (r + 1) (h'.setIfInBounds (B (2 + 2 * i)) (cellO (vl s (2 + 2 * i) + 2))))
set_option maxHeartbeats 4000000 in
theorem adv_ok {σ : Type} {vl : σ -> Nat -> Int} {fn : σ -> Nat -> Value} {Inv : σ -> Nat -> Hp -> Prop} {base : Nat} {d m : Int} {s0 : σ} (k : Clk h c B vals fns) (hb : vals 1 = 0) (hd : 0 <= d) (h0 : 0 <= vals 0) (h1 : vals 0 <= 4611686018427387904)
    (hm : vals 0 + (if 4611686018427387904 - vals 0 < d then 4611686018427387904 - vals 0 else d) = m) (A : Acc main δ c B base m vl fn Inv) (hi : Inv s0 0 ((h.setIfInBounds (B 1) (cellO 1)).setIfInBounds (B 0) (cellO m))) :
    CallW Try.prog main NoS 16 #[.pointer (some ⟨c, 0, none⟩), .pointer none, .int .i64 d] h δ
      (Ret fun v h' δ' => δ' = δ /\ ∃ s, ∃ r : Nat, ∃ h1, r <= 64 /\ Inv s r h1 /\ (lk (vl s) m 16 = none \/ r = 64) /\ h' = h1.setIfInBounds (B 1) (cellO 0) /\ v = .tuple #[.int .i64 r, .int .i64 0]) := by
  have k1 := k.set (j := 1) (by omega) 1
  have hmb : 0 <= m /\ m <= 4611686018427387904 := by subst hm; split <;> omega
  refine CallW.start (n := 101) rfl rfl ?_
  (repeat (first | refine EK.seq ?_ | refine EK.region ?_ | refine ER.done ?_ | refine ER.move rfl rfl rfl ?_ | refine ER.assign rfl rfl rfl ?_))
  refine ER.callD rfl rfl rfl rfl rfl (made_ok k.pnow) ?_
  (repeat (first | refine EK.seq ?_ | refine EK.region ?_ | refine ER.done ?_ | refine EK.skip ?_ | refine ER.move rfl rfl rfl ?_ | refine ER.nilCheck rfl rfl rfl ?_ | refine ER.fieldAddr rfl rfl rfl ?_ | refine ER.notB rfl rfl rfl ?_ | refine ER.cmpF rfl rfl rfl rfl rfl (by first | (dsimp only [cmpP]; omega) | exact rfl | exact Int.le_refl _) ?_ | refine EK.condF rfl ?_))
  refine ER.load1 rfl rfl rfl k.pbusy ?_
  (repeat refine ER.move rfl rfl rfl ?_)
  refine ER.callD rfl rfl rfl rfl rfl (ccas_yes (hb ▸ k.cell 1 (by omega)) (fun _ x => x)) ?_
  (repeat (first | refine EK.seq ?_ | refine EK.region ?_ | refine ER.done ?_ | refine EK.skip ?_ | refine ER.move rfl rfl rfl ?_ | refine ER.nilCheck rfl rfl rfl ?_ | refine ER.fieldAddr rfl rfl rfl ?_ | refine ER.notB rfl rfl rfl ?_ | refine EK.condF rfl ?_))
  refine ER.load1 rfl rfl rfl k1.pnow ?_
  (repeat refine ER.move rfl rfl rfl ?_)
  refine ER.callD rfl rfl rfl rfl rfl (cload (k1.cell 0 (by omega))) ?_
  have e0 : up vals 1 1 0 = vals 0 := up_ne _ _ (by omega)
  rw [e0]
  (repeat (first | refine EK.seq ?_ | refine EK.region ?_ | refine ER.done ?_ | refine ER.move rfl rfl rfl ?_ | refine ER.assign rfl rfl rfl ?_ | refine ER.sub' (kd := .i64) rfl rfl rfl rfl (i64_in (by omega) (by omega)) ?_))
  refine ER.min rfl rfl rfl rfl rfl ?_
  refine ER.add (kd := .i64) (r := m) rfl rfl rfl rfl (by rw [hm]; exact i64_in (by omega) (by omega)) ?_
  (repeat (first | refine EK.seq ?_ | refine EK.region ?_ | refine ER.done ?_ | refine ER.move rfl rfl rfl ?_ | refine ER.assign rfl rfl rfl ?_ | refine ER.nilCheck rfl rfl rfl ?_ | refine ER.fieldAddr rfl rfl rfl ?_))
  refine ER.load1 rfl rfl rfl k1.pnow ?_
  (repeat refine ER.move rfl rfl rfl ?_)
  refine ER.callD rfl rfl rfl rfl rfl (cstore (x := m) (k1.cell 0 (by omega)) (fun _ x => x)) ?_
  (repeat (first | refine EK.seq ?_ | refine EK.region ?_ | refine ER.done ?_ | refine EK.block ?_ | refine ER.assign rfl rfl rfl ?_))
  refine EK.loopInv (fun s : σ × Nat => [(9, .int .i64 s.2), (0, .pointer (some ⟨c, 0, none⟩)), (1, .pointer none), (8, .int .i64 m)]) (fun s h' δ' => Inv s.1 s.2 h' /\ δ' = δ /\ s.2 <= 64) (fun s => 64 - s.2) (s0, 0) ⟨rfl, rfl, rfl, rfl, trivial⟩ ⟨hi, rfl, by simp⟩ ?_
  rintro ⟨s, r⟩ h2 _ ⟨hI, rfl, hr⟩ again
  dsimp only at hI hr again ⊢
  obtain ⟨k2, hbs⟩ := A.clk _ _ _ hI
  (repeat (first | refine EK.seq ?_ | refine EK.region ?_ | refine EK.block ?_ | refine ER.move rfl rfl rfl ?_))
  refine ER.callR rfl rfl rfl rfl rfl (look_ok k2) ?_
  rintro _ h3 _ ⟨u3, rfl, ⟨hn, rfl⟩ | ⟨i, hn, rfl⟩⟩
  · have hI3 := A.stab _ _ _ _ hI u3
    (repeat (first | refine ER.move rfl rfl rfl ?_ | refine ER.extract rfl rfl rfl rfl ?_ | refine ER.allocA rfl rfl ?_))
    refine ER.storeT2 (get_push_new h3 (timO 0 0)) rfl rfl rfl rfl (by simp [OneCell]) (by simp [OneCell]) (fun _ x => x) ?_
    rw [push_set]
    have hI4 := A.stab _ _ _ _ hI3 (Upd.push (T := fun _ => False) h3 (timO 0 0))
    have k4 := (A.clk _ _ _ hI4).1
    (repeat (first | refine EK.seq ?_ | refine EK.region ?_ | refine ER.done ?_ | refine ER.move rfl rfl rfl ?_ | refine ER.assign rfl rfl rfl ?_ | refine ER.nilCheck rfl rfl rfl ?_ | refine ER.fieldAddr rfl rfl rfl ?_ | refine ER.no rfl rfl ?_ | refine ER.notB rfl rfl rfl ?_ | refine ER.pickT rfl rfl rfl rfl ?_ | refine EK.condT rfl ?_ | refine EK.exit rfl ?_))
    refine ER.load1 rfl rfl rfl k4.pbusy ?_
    (repeat refine ER.move rfl rfl rfl ?_)
    refine ER.callD rfl rfl rfl rfl rfl (cstore (x := 0) (k4.cell 1 (by omega)) (fun _ x => x)) ?_
    (repeat (first | refine EK.seq ?_ | refine EK.region ?_ | refine ER.done ?_ | refine ER.move rfl rfl rfl ?_ | refine ER.assign rfl rfl rfl ?_ | refine EK.ret ?_))
    exact EU.ret2 rfl rfl rfl ⟨rfl, s, r, _, hr, hI4, .inl hn, rfl, rfl⟩
  have hI3 := A.stab _ _ _ _ hI u3
  have hI4 := A.stab _ _ _ _ hI3 (Upd.push (T := fun _ => False) h3 (timO i (vl s (2 + 2 * i))))
  have k4 := (A.clk _ _ _ hI4).1
  obtain ⟨hi16, -, -⟩ := lk_lt hn
  by_cases h64 : r = 64
  · subst h64
    (repeat (first | refine ER.move rfl rfl rfl ?_ | refine ER.extract rfl rfl rfl rfl ?_ | refine ER.allocA rfl rfl ?_))
    refine ER.storeT2 (get_push_new h3 (timO 0 0)) rfl rfl rfl rfl (by simp [OneCell]) (by simp [OneCell]) (fun _ x => x) ?_
    rw [push_set]
    (repeat (first | refine EK.seq ?_ | refine EK.region ?_ | refine ER.done ?_ | refine ER.move rfl rfl rfl ?_ | refine ER.assign rfl rfl rfl ?_ | refine ER.nilCheck rfl rfl rfl ?_ | refine ER.fieldAddr rfl rfl rfl ?_ | refine ER.notB rfl rfl rfl ?_ | refine ER.pickF rfl rfl rfl rfl ?_ | refine ER.cmpT rfl rfl rfl rfl rfl (by first | (dsimp only [cmpP]; omega) | exact rfl | exact Int.le_refl _) ?_ | refine EK.condT rfl ?_ | refine EK.exit rfl ?_))
    refine ER.load1 rfl rfl rfl k4.pbusy ?_
    (repeat refine ER.move rfl rfl rfl ?_)
    refine ER.callD rfl rfl rfl rfl rfl (cstore (x := 0) (k4.cell 1 (by omega)) (fun _ x => x)) ?_
    (repeat (first | refine EK.seq ?_ | refine EK.region ?_ | refine ER.done ?_ | refine ER.move rfl rfl rfl ?_ | refine ER.assign rfl rfl rfl ?_ | refine EK.ret ?_))
    exact EU.ret2 rfl rfl rfl ⟨rfl, s, 64, _, hr, hI4, .inr rfl, rfl, rfl⟩
  obtain ⟨hv0, hv1, g, cap, hfn, hg, hcall⟩ := A.ring _ _ _ _ _ hI3 (Upd.push (T := fun _ => False) h3 (timO i (vl s (2 + 2 * i)))) (by omega) hn
  have hb3 : base <= h3.size := (A.clk _ _ _ hI3).2
  have hlt : B (2 + 2 * i) ≠ h3.size := fun e => by have := A.own _ (.inr ⟨2 + 2 * i, by omega, rfl⟩); omega
  have hcs : c ≠ h3.size := fun e => by have := A.own _ (.inl rfl); omega
  have e0 : hcell (h3.push (timO i (vl s (2 + 2 * i)))) ⟨h3.size, 0, none⟩ = some (.int .i64 i) := hcell_of (get_push_new _ _) rfl
  have e1 : hcell (h3.push (timO i (vl s (2 + 2 * i)))) ⟨h3.size, 1, none⟩ = some (.int .i64 (vl s (2 + 2 * i))) := hcell_of (get_push_new _ _) rfl
  (repeat (first | refine ER.move rfl rfl rfl ?_ | refine ER.extract rfl rfl rfl rfl ?_ | refine ER.allocA rfl rfl ?_))
  refine ER.storeT2 (get_push_new h3 (timO 0 0)) rfl rfl rfl rfl (by simp [OneCell]) (by simp [OneCell]) (fun _ x => x) ?_
  rw [push_set]
  change ER _ _ _ _ _ _ _ _ _ _ (h3.push (timO i (vl s (2 + 2 * i)))) _ _
  generalize h3.push (timO i (vl s (2 + 2 * i))) = h4 at *
  (repeat (first | refine EK.seq ?_ | refine EK.region ?_ | refine ER.done ?_ | refine EK.skip ?_ | refine ER.move rfl rfl rfl ?_ | refine ER.assign rfl rfl rfl ?_ | refine ER.notB rfl rfl rfl ?_ | refine ER.pickF rfl rfl rfl rfl ?_ | refine ER.cmpF rfl rfl rfl rfl rfl (by first | (dsimp only [cmpP]; omega) | exact rfl | exact Int.le_refl _) ?_ | refine EK.condF rfl ?_))
  refine EK.regionAny (fun h' => h' = h4) ?_
  have hZ : h4 = h4 := rfl
  refine EA.tMove 0 rfl (by kernel_rfl) rfl rfl rfl rfl hZ ?_
  refine EA.tField 1 rfl (by kernel_rfl) rfl rfl rfl rfl hZ ?_
  refine EA.tLoad 2 rfl (by kernel_rfl) rfl rfl rfl rfl (fun _ hz => hz ▸ e0) hZ ?_
  refine EA.tNil 3 rfl (by kernel_rfl) rfl rfl rfl rfl hZ ?_
  refine EA.tField 4 rfl (by kernel_rfl) rfl rfl rfl rfl hZ ?_
  refine EA.tIdxA 5 rfl (by kernel_rfl) rfl rfl rfl rfl rfl (by omega) (by omega) hZ ?_
  refine EA.tAssign 6 rfl (by kernel_rfl) rfl rfl rfl rfl hZ ?_
  refine EA.done (by kernel_rfl) ?_
  (repeat refine EK.seq ?_)
  refine EK.regionAny (fun h' => hcell h' ⟨h3.size, 1, none⟩ = some (.int .i64 (vl s (2 + 2 * i))) /\ hcell h' ⟨c, 2 + i * 3, none⟩ = some (.pointer (some ⟨B (2 + 2 * i), 0, none⟩))) ?_
  have hZ := And.intro e1 (k4.pst i hi16)
  refine EA.tMove 0 rfl (by kernel_rfl) rfl rfl rfl rfl hZ ?_
  refine EA.tNil 1 rfl (by kernel_rfl) rfl rfl rfl rfl hZ ?_
  refine EA.tField 2 rfl (by kernel_rfl) rfl rfl rfl rfl hZ ?_
  refine EA.tLoad 3 rfl (by kernel_rfl) rfl rfl rfl rfl (fun _ hz => hz.2) hZ ?_
  refine EA.tMove 4 rfl (by kernel_rfl) rfl rfl rfl rfl hZ ?_
  refine EA.tField 5 rfl (by kernel_rfl) rfl rfl rfl rfl hZ ?_
  refine EA.tLoad 6 rfl (by kernel_rfl) rfl rfl rfl rfl (fun _ hz => hz.1) hZ ?_
  refine EA.tField 7 rfl (by kernel_rfl) rfl rfl rfl rfl hZ ?_
  refine EA.tLoad 8 rfl (by kernel_rfl) rfl rfl rfl rfl (fun _ hz => hz.1) hZ ?_
  refine EA.tAdd (kd := .i64) 9 rfl (by kernel_rfl) rfl rfl rfl rfl rfl (i64_in (by omega) (by omega)) hZ ?_
  refine EA.tSub (kd := .i64) 10 rfl (by kernel_rfl) rfl rfl rfl rfl rfl (i64_in (by omega) (by omega)) hZ ?_
  have ev1 : vl s (2 + 2 * i) + 3 - 2 = vl s (2 + 2 * i) + 1 := by omega
  rw [ev1]
  have k5 := k4.set (j := 2 + 2 * i) (by omega) (vl s (2 + 2 * i) + 1)
  refine EA.callD 11 rfl (by kernel_rfl) rfl rfl rfl rfl rfl rfl (ccas_yes (k4.cell (2 + 2 * i) (by omega)) (fun _ x => x)) ⟨?_, k5.pst i hi16⟩ ?_
  · rw [hcell_set_ne _ hlt]; exact e1
  have hZ : hcell (h4.setIfInBounds (B (2 + 2 * i)) (cellO (vl s (2 + 2 * i) + 1))) ⟨h3.size, 1, none⟩ = some (.int .i64 (vl s (2 + 2 * i))) /\ hcell (h4.setIfInBounds (B (2 + 2 * i)) (cellO (vl s (2 + 2 * i) + 1))) ⟨c, 2 + i * 3, none⟩ = some (.pointer (some ⟨B (2 + 2 * i), 0, none⟩)) := ⟨by rw [hcell_set_ne _ hlt]; exact e1, k5.pst i hi16⟩
  refine EA.tNot 12 rfl (by kernel_rfl) rfl rfl rfl rfl hZ ?_
  refine EA.done (by kernel_rfl) ?_
  (repeat (first | refine EK.seq ?_ | refine EK.region ?_ | refine EK.skip ?_ | refine ER.move rfl rfl rfl ?_ | refine ER.nilCheck rfl rfl rfl ?_ | refine ER.fieldAddr rfl rfl rfl ?_ | refine EK.condF rfl ?_))
  have hpf := k5.pf i hi16
  rw [hfn] at hpf
  refine ER.load1 rfl rfl rfl hpf ?_
  (repeat refine ER.move rfl rfl rfl ?_)
  haveI := hg
  refine ER.callR rfl rfl rfl rfl rfl hcall ?_
  rintro _ h5 _ ⟨rfl, u5, ⟨_, _, k6⟩, s', hI'⟩
  have e2 := u5.hcell e1 (by dsimp only; omega)
  (repeat (first | refine EK.seq ?_ | refine ER.done ?_))
  refine EK.regionAny (fun h' => hcell h' ⟨h3.size, 1, none⟩ = some (.int .i64 (vl s (2 + 2 * i))) /\ hcell h' ⟨c, 2 + i * 3, none⟩ = some (.pointer (some ⟨B (2 + 2 * i), 0, none⟩))) ?_
  have hZ := And.intro e2 (k6.pst i hi16)
  refine EA.tMove 0 rfl (by kernel_rfl) rfl rfl rfl rfl hZ ?_
  refine EA.tNil 1 rfl (by kernel_rfl) rfl rfl rfl rfl hZ ?_
  refine EA.tField 2 rfl (by kernel_rfl) rfl rfl rfl rfl hZ ?_
  refine EA.tLoad 3 rfl (by kernel_rfl) rfl rfl rfl rfl (fun _ hz => hz.2) hZ ?_
  refine EA.tMove 4 rfl (by kernel_rfl) rfl rfl rfl rfl hZ ?_
  refine EA.tField 5 rfl (by kernel_rfl) rfl rfl rfl rfl hZ ?_
  refine EA.tLoad 6 rfl (by kernel_rfl) rfl rfl rfl rfl (fun _ hz => hz.1) hZ ?_
  refine EA.tAdd (kd := .i64) 7 rfl (by kernel_rfl) rfl rfl rfl rfl rfl (i64_in (by omega) (by omega)) hZ ?_
  refine EA.tSub (kd := .i64) 8 rfl (by kernel_rfl) rfl rfl rfl rfl rfl (i64_in (by omega) (by omega)) hZ ?_
  have ev2 : vl s (2 + 2 * i) + 4 - 2 = vl s (2 + 2 * i) + 2 := by omega
  rw [ev2]
  have k7 := k6.set (j := 2 + 2 * i) (by omega) (vl s (2 + 2 * i) + 2)
  refine EA.callD 9 rfl (by kernel_rfl) rfl rfl rfl rfl rfl rfl (cstore (k6.cell (2 + 2 * i) (by omega)) (fun _ x => x)) ⟨?_, k7.pst i hi16⟩ ?_
  · rw [hcell_set_ne _ hlt]; exact e2
  refine EA.done (by kernel_rfl) ?_
  (repeat (first | refine EK.region ?_ | refine ER.done ?_ | refine EK.inBlock ?_ | refine ER.move rfl rfl rfl ?_ | refine ER.assign rfl rfl rfl ?_ | refine ER.add (kd := .i64) rfl rfl rfl rfl (i64_in (by omega) (by omega)) ?_))
  exact EK.back (again (s', r + 1) _ _ (by dsimp only; omega) ⟨hI', rfl, by dsimp only; omega⟩) ⟨rfl, rfl, rfl, rfl, trivial⟩
end
end
section
open Go Go.TJ Go.Proofs
section
variable {Γ : Type} {main : Bool} {h : Hp} {δ : Ix Γ} {c : Nat} {B : Nat -> Nat} {vals : Nat -> Int} {fns : Nat -> Value}
theorem Clk.congr {h : Hp} {c : Nat} {B : Nat -> Nat} {vals vals' : Nat -> Int} {fns fns' : Nat -> Value} (k : Clk h c B vals fns) (hv : ∀ j, j < 34 -> vals j = vals' j) (hf : ∀ i, i < 16 -> fns i = fns' i) : Clk h c B vals' fns' :=
  ⟨k.obj, k.pnow, k.pbusy, k.pst, k.pdu, fun i hi => hf i hi ▸ k.pf i hi, fun j hj => hv j hj ▸ k.cell j hj, k.inj, k.cne⟩
theorem lk_one {vals : Nat -> Int} {m : Int} {i : Nat} : ∀ {n : Nat}, i < n -> (vals (2 + 2 * i)).tmod 4 = 2 -> vals (3 + 2 * i) <= m -> (∀ q, q < n -> q ≠ i -> (vals (2 + 2 * q)).tmod 4 ≠ 2) -> lk vals m n = some i
  | 0, h, _, _, _ => by omega
  | n + 1, h, h2, hd, ho => by
    unfold lk
    by_cases e : i = n
    · subst e
      have hn : ∀ k, k <= i -> lk vals m k = none := by
        intro k
        induction k with
        | zero => intro _; rfl
        | succ k ih => intro hk; unfold lk; rw [if_neg (fun x => ho k (by omega) (by omega) x.1)]; exact ih (by omega)
      rw [if_pos ⟨h2, hd, fun b hb => by rw [hn i (Nat.le_refl _)] at hb; cases hb⟩]
    · rw [if_neg (fun x => ho n (by omega) (fun y => e y.symm) x.1)]
      exact lk_one (by omega) h2 hd (fun q hq => ho q (by omega))
theorem lk_none {vals : Nat -> Int} {m : Int} : ∀ {n : Nat}, (∀ q, q < n -> (vals (2 + 2 * q)).tmod 4 ≠ 2 \/ m < vals (3 + 2 * q)) -> lk vals m n = none
  | 0, _ => rfl
  | n + 1, ho => by
    unfold lk
    rw [if_neg (fun x => by rcases ho n (by omega) with y | y; · exact y x.1
                            · exact absurd x.2.1 (by omega))]
    exact lk_none (fun q hq => ho q (by omega))
abbrev intO (x : Int) : Obj := oneO (.int .i64 x) 3
theorem wring {p : Nat} {x : Int} {t : Value} (hb : h[p]? = some (intO x)) (h0 : 0 <= x) (h1 : x <= 1000) : CallW Try.prog main NoS 77 #[t, .pointer (some ⟨p, 0, none⟩)] h δ (Ret (Det (.tuple #[]) (h.setIfInBounds p (intO (x + 1))) δ)) := by
  have e := hset_one (v := .int .i64 (x + 1)) hb
  refine CallW.start (n := 5) rfl rfl ?_
  (repeat (first | refine EK.region ?_ | refine ER.load1 rfl rfl rfl (hcell_of (by assumption) rfl) ?_ | refine ER.add (kd := .i64) rfl rfl rfl rfl (i64_in (by omega) (by omega)) ?_))
  refine ER.store1 rfl rfl rfl (by simp [OneCell]) ⟨_, hcell_of hb rfl⟩ (hfroz_of hb) (fun x => x) ?_
  rw [e]
  (repeat refine ER.done ?_)
  refine EK.done ?_
  exact EU.ret0 rfl det
def wv : Bool -> Nat -> Int
  | b => fun j => if j = 0 then 9 else if j = 1 then 1 else if j = 2 then 4 else if j = 3 then 5 else if j = 4 then (if b then 4 else 2) else if j = 5 then 3 else 0
def wf (p : Nat) : Nat -> Value := fun i => if i = 0 \/ i = 1 then .func (.func 77) #[] #[.pointer (some ⟨p, 0, none⟩)] else .nilFunc
def wI (h0 : Hp) (c : Nat) (B : Nat -> Nat) (base p : Nat) (b : Bool) (r : Nat) (h : Hp) : Prop :=
  r = (if b then 1 else 0) /\ Clk h c B (wv b) (wf p) /\ h[p]? = some (intO (if b then 1 else 0)) /\ base <= h.size /\ Upd (fun _ => False) h0 h
theorem wv_lk : lk (wv false) 9 16 = some 1 /\ lk (wv true) 9 16 = none := by
  constructor
  · refine lk_one (by omega) rfl (by decide) (fun q hq hne => ?_)
    have : q = 0 \/ 2 <= q := by omega
    rcases this with rfl | x
    · decide
    · unfold wv; simp; repeat (rw [if_neg (by omega)])
      decide
  · refine lk_none (fun q hq => .inl ?_)
    have : q = 0 \/ q = 1 \/ 2 <= q := by omega
    rcases this with rfl | rfl | x
    · decide
    · decide
    · unfold wv; simp; repeat (rw [if_neg (by omega)])
      decide
theorem wacc {h0 : Hp} {base p : Nat} (own : ∀ b, Own c B b -> b < base) (hp : p < base) (hpn : ¬ Own c B p) (ho : ∀ b, Own c B b \/ b = p -> h0.size <= b) : Acc main δ c B base 9 wv (fun _ => wf p) (wI h0 c B base p) := by
  refine ⟨fun s r h hi => ⟨hi.2.1, hi.2.2.2.1⟩, fun s r h h' hi u => ⟨hi.1, hi.2.1.upd u (fun _ x => x.elim), u.get hi.2.2.1 (fun x => x), Nat.le_trans hi.2.2.2.1 u.size, hi.2.2.2.2.trans u⟩, own, fun s r h₀ h i hi uu hr hl => ?_⟩
  have hz0 := hi.2.2.2.1
  obtain ⟨h1, k, hg, hz, hf⟩ : wI h0 c B base p s r h := ⟨hi.1, hi.2.1.upd uu (fun _ x => x.elim), uu.get hi.2.2.1 (fun x => x), Nat.le_trans hi.2.2.2.1 uu.size, hi.2.2.2.2.trans uu⟩
  have hs : s = false := by cases s; rfl; rw [wv_lk.2] at hl; cases hl
  subst hs
  rw [wv_lk.1] at hl
  cases hl
  have hlt : B (2 + 2 * 1) ≠ p := fun e => hpn (.inr ⟨_, by omega, e.symm⟩)
  have k1 := k.set (j := 2 + 2 * 1) (by omega) (wv false (2 + 2 * 1) + 1)
  have hg1 : (h.setIfInBounds (B (2 + 2 * 1)) (cellO (wv false (2 + 2 * 1) + 1)))[p]? = some (intO 0) := by rw [get_set_ne _ hlt]; exact hg
  refine ⟨by decide, by decide, _, _, rfl, inferInstance, (wring hg1 (by omega) (by omega)).mono ?_⟩
  rintro (v | p) h' δ' hq
  rotate_left
  · exact hq.elim
  obtain ⟨-, rfl, rfl⟩ := hq
  have u1 : Upd (fun b => b < base) h (h.setIfInBounds (B (2 + 2 * 1)) (cellO (wv false (2 + 2 * 1) + 1))) := Upd.set _ _ _ (own _ (.inr ⟨_, by omega, rfl⟩))
  have u2 := u1.trans (Upd.set (T := fun b => b < base) (h.setIfInBounds (B (2 + 2 * 1)) (cellO (wv false (2 + 2 * 1) + 1))) p (intO (0 + 1)) hp)
  have k2 := k1.upd (Upd.set (T := fun b => b = p) _ p (intO (0 + 1)) rfl) (fun b hb => hb ▸ hpn)
  refine ⟨rfl, u2.mono (fun b _ hb => Nat.lt_of_lt_of_le hb hz0), ⟨_, _, k2⟩, true, (by rw [show r = 0 from h1]; rfl), (k2.set (j := 2 + 2 * 1) (by omega) (wv false (2 + 2 * 1) + 2)).congr (fun j _ => ?_) (fun i _ => rfl), ?_, by simpa using hz, hf.over ((Upd.set (T := fun b => Own c B b \/ b = p) _ _ _ (.inl (.inr ⟨_, by omega, rfl⟩))).trans ((Upd.set _ _ _ (.inr rfl)).trans (Upd.set _ _ _ (.inl (.inr ⟨_, by omega, rfl⟩))))) ho⟩
  · unfold up wv
    by_cases e0 : j = 4
    · subst e0; rfl
    · simp [e0]
  · rw [get_set_ne _ hlt]; exact get_set_same hg1
set_option maxHeartbeats 2000000 in
theorem works_ok : CallW Try.prog main NoS 14 #[] h δ (Ret fun v h' δ' => v = .bool true /\ Upd (fun _ => False) h h' /\ δ' = δ) := by
  refine CallW.start (n := 66) rfl rfl ?_
  (repeat (first | refine EK.seq ?_ | refine EK.region ?_ | refine ER.done ?_ | refine ER.assign rfl rfl rfl ?_))
  refine ER.callR rfl rfl rfl rfl rfl new_ok ?_
  rintro _ h1 _ ⟨rfl, u1, rfl, k1⟩
  have hN : h.size + 35 <= h1.size := by have := lt_of_get (k1.cell 33 (by omega)); unfold newB at this; simp at this; omega
  generalize hB : newB h.size = B at k1
  have own : ∀ b, Own (h.size + 2) B b -> h.size <= b /\ b < h.size + 35 := fun b hb => by
    subst hB
    rcases hb with rfl | ⟨j, hj, rfl⟩
    · omega
    · unfold newB; split <;> omega
  generalize hc : h.size + 2 = c at *
  (repeat (first | refine EK.seq ?_ | refine EK.region ?_ | refine ER.done ?_ | refine ER.assign rfl rfl rfl ?_ | refine ER.alloc rfl rfl ?_))
  refine ER.storeNew rfl rfl rfl rfl (by simp [OneCell]) (fun x => x) ?_
  have u2 : Upd (fun _ => False) h1 (h1.push (intO 0)) := Upd.push _ _
  have k2 := k1.upd u2 (fun _ x => x.elim)
  have g2 : (h1.push (intO 0))[h1.size]? = some (intO 0) := get_push_new _ _
  generalize hp : h1.size = p at *
  change ER _ _ _ _ _ _ _ _ _ _ (h1.push (intO 0)) _ _
  have hz2 : (h1.push (intO 0)).size = p + 1 := by simp [hp]
  generalize h1.push (intO 0) = h2 at *
  have hpn : ¬ Own c B p := fun x => by have := own _ x; omega
  (repeat (first | refine EK.seq ?_ | refine EK.region ?_ | refine ER.done ?_))
  refine ER.makeF rfl rfl rfl rfl rfl rfl ?_
  (repeat (first | refine EK.seq ?_ | refine EK.region ?_ | refine ER.done ?_ | refine ER.move rfl rfl rfl ?_ | refine ER.assign rfl rfl rfl ?_))
  refine ER.callR rfl rfl rfl rfl rfl (set_ok (i := 0) k2 (by omega) (by omega) (by omega) (fun q hq => by omega) rfl (by omega) (by omega)) ?_
  rintro _ h3 _ ⟨rfl, u3, rfl, k3⟩
  have g3 := u3.get g2 hpn
  (repeat (first | refine ER.move rfl rfl rfl ?_ | refine ER.extract rfl rfl rfl rfl ?_ | refine ER.allocA rfl rfl ?_))
  refine ER.storeNew2 rfl rfl rfl rfl (by simp [OneCell]) (by simp [OneCell]) (fun _ x => x) ?_
  have u4 : Upd (fun _ => False) h3 (h3.push (timO 0 2)) := Upd.push _ _
  have k4 := k3.upd u4 (fun _ x => x.elim)
  have g4 := u4.get g3 (fun x => x)
  have t4 : (h3.push (timO 0 2))[h3.size]? = some (timO 0 2) := get_push_new _ _
  change ER _ _ _ _ _ _ _ _ _ _ (h3.push (timO 0 2)) _ _
  have hz3 : p + 1 <= h3.size := hz2 ▸ u3.size
  generalize hq : h3.size = q at *
  have hz4 : (h3.push (timO 0 2)).size = q + 1 := by simp [hq]
  generalize h3.push (timO 0 2) = h4 at *
  have hqn : ¬ Own c B q := fun x => by have := own _ x; omega
  (repeat (first | refine EK.seq ?_ | refine EK.region ?_ | refine ER.done ?_ | refine ER.move rfl rfl rfl ?_ | refine ER.assign rfl rfl rfl ?_))
  refine ER.callR rfl rfl rfl rfl rfl (set_ok (i := 1) k4 (by omega) (by omega) (by omega) (fun q hq => by have : q = 0 := by omega
                                                                                                           subst this; decide) rfl (by decide) (by decide)) ?_
  rintro _ h5 _ ⟨rfl, u5, rfl, k5⟩
  have g5 := u5.get g4 hpn
  have t5 := u5.get t4 hqn
  (repeat (first | refine ER.move rfl rfl rfl ?_ | refine ER.extract rfl rfl rfl rfl ?_ | refine ER.allocA rfl rfl ?_))
  refine ER.storeNew2 rfl rfl rfl rfl (by simp [OneCell]) (by simp [OneCell]) (fun _ x => x) ?_
  have u6 : Upd (fun _ => False) h5 (h5.push (timO 1 2)) := Upd.push _ _
  have k6 := k5.upd u6 (fun _ x => x.elim)
  have g6 := u6.get g5 (fun x => x)
  have t6 := u6.get t5 (fun x => x)
  have s6 : (h5.push (timO 1 2))[h5.size]? = some (timO 1 2) := get_push_new _ _
  change ER _ _ _ _ _ _ _ _ _ _ (h5.push (timO 1 2)) _ _
  have hz5 : q + 1 <= h5.size := hz4 ▸ u5.size
  generalize hr : h5.size = r at *
  have hz6 : (h5.push (timO 1 2)).size = r + 1 := by simp [hr]
  generalize h5.push (timO 1 2) = h6 at *
  have hrn : ¬ Own c B r := fun x => by have := own _ x; omega
  (repeat (first | refine EK.seq ?_ | refine EK.region ?_ | refine ER.done ?_ | refine ER.move rfl rfl rfl ?_ | refine ER.assign rfl rfl rfl ?_))
  refine ER.loadN (vs := [.int .i64 0, .int .i64 2]) rfl rfl rfl rfl (hrow2 t6) ?_
  refine ER.callR rfl rfl rfl rfl rfl (stop_yes (s := 0) k6 (by omega) (by decide) (by decide)) ?_
  rintro _ h7 _ ⟨rfl, ⟨hv, -, -⟩ | ⟨-, rfl, u7, k7⟩⟩
  · exact absurd rfl hv
  have k7 := k7 (by decide)
  have g7 := u7.get g6 hpn
  have t7 := u7.get t6 hqn
  have s7 := u7.get s6 hrn
  (repeat (first | refine ER.move rfl rfl rfl ?_ | refine ER.notB rfl rfl rfl ?_))
  refine ER.loadN (vs := [.int .i64 0, .int .i64 2]) rfl rfl rfl rfl (hrow2 t7) ?_
  refine ER.callR rfl rfl rfl rfl rfl (stop_yes (s := 0) k7 (by omega) (by decide) (by decide)) ?_
  rintro _ h8 δ' ⟨hδ, hh⟩
  subst hδ
  obtain ⟨-, rfl, u8⟩ := hh.resolve_right (fun x => absurd x.1 (by decide))
  have k8 := k7.upd u8 (fun _ x => x.elim)
  have g8 := u8.get g7 (fun x => x)
  have s8 := u8.get s7 (fun x => x)
  (repeat (first | refine ER.move rfl rfl rfl ?_ | refine ER.pickF rfl rfl rfl rfl ?_ | refine ER.cmpF rfl rfl rfl rfl rfl (by first | (dsimp only [cmpP]; omega) | exact rfl | exact Int.le_refl _) ?_))
  refine ER.loadN (vs := [.int .i64 1, .int .i64 2]) rfl rfl rfl rfl (hrow2 s8) ?_
  refine ER.buildS (cells := #[.int .i64 1, .int .i64 2]) rfl rfl rfl rfl ?_
  (repeat (first | refine EK.seq ?_ | refine EK.region ?_ | refine ER.done ?_ | refine EK.skip ?_ | refine ER.move rfl rfl rfl ?_ | refine ER.neqA rfl rfl rfl rfl rfl ?_ | refine ER.pickF rfl rfl rfl rfl ?_ | refine EK.condF rfl ?_))
  have hz8 : r < h8.size := lt_of_get s8
  have hbs : ∀ b, Own c B b -> b < h8.size := fun b hb => by have := own _ hb; omega
  have kc : Clk h8 c B (fun j => if j < 2 then 0 else wv false j) (wf p) := k8.congr (fun j _ => by
      unfold up wv
      by_cases e0 : j = 0; · subst e0; rfl
      by_cases e1 : j = 1; · subst e1; rfl
      by_cases e2 : j = 2; · subst e2; rfl
      by_cases e3 : j = 3; · subst e3; rfl
      by_cases e4 : j = 4; · subst e4; rfl
      by_cases e5 : j = 5; · subst e5; rfl
      simp [e0, e1, e2, e3, e4, e5]) (fun i _ => by
      unfold up wf
      by_cases e0 : i = 0; · subst e0; rfl
      by_cases e1 : i = 1; · subst e1; rfl
      simp [e0, e1])
  have ho : ∀ b, Own c B b \/ b = p -> h.size <= b := fun b hb => by
    rcases hb with x | x
    · exact (own _ x).1
    · omega
  have w1 : Upd (fun _ => False) h h3 := (u1.trans u2).over u3 (fun b hb => (own _ hb).1)
  have w2 : Upd (fun _ => False) h h5 := (w1.trans u4).over u5 (fun b hb => (own _ hb).1)
  have w3 : Upd (fun _ => False) h h8 := ((w2.trans u6).over u7 (fun b hb => (own _ hb).1)).trans u8
  have hadv := adv_ok (main := main) (δ := δ') (d := 9) (m := 9) (s0 := false) (vl := wv) (fn := fun _ => wf p) (Inv := wI h c B h8.size p) kc rfl (by omega) (by decide) (by decide) rfl (wacc (h0 := h) (base := h8.size) (p := p) hbs (by omega) hpn ho) (by
    refine ⟨rfl, ((kc.set (j := 1) (by omega) 1).set (j := 0) (by omega) 9).congr (fun j _ => ?_) (fun i _ => rfl), ?_, by simp, w3.over ((Upd.set (T := Own c B) _ _ _ (.inr ⟨_, by omega, rfl⟩)).trans (Upd.set _ _ _ (.inr ⟨_, by omega, rfl⟩))) (fun b hb => (own _ hb).1)⟩
    · unfold up wv
      by_cases e0 : j = 0; · subst e0; rfl
      by_cases e1 : j = 1; · subst e1; rfl
      simp [e0, e1]; intro; omega
    · rw [get_set_ne _ (fun x => hpn (.inr ⟨0, by omega, x.symm⟩)), get_set_ne _ (fun x => hpn (.inr ⟨1, by omega, x.symm⟩))]; exact g8)
  refine ER.callR rfl rfl rfl rfl rfl hadv ?_
  rintro _ h9 _ ⟨rfl, s, r', h10, hr64, ⟨hrs, k10, g10, hz10, w10⟩, hlk, rfl, rfl⟩
  have hs : s = true := by
    cases s
    · rcases hlk with x | x
      · rw [wv_lk.1] at x; cases x
      · simp at hrs; omega
    · rfl
  subst hs
  have hr1 : r' = 1 := hrs
  subst hr1
  have g11 : (h10.setIfInBounds (B 1) (cellO 0))[p]? = some (intO 1) := by rw [get_set_ne _ (fun x => hpn (.inr ⟨1, by omega, x.symm⟩))]; exact g10
  have k11 := k10.set (j := 1) (by omega) 0
  (repeat (first | refine EK.seq ?_ | refine EK.region ?_ | refine ER.done ?_ | refine ER.move rfl rfl rfl ?_ | refine ER.assign rfl rfl rfl ?_ | refine ER.load1 rfl rfl rfl (hcell_of (by assumption) rfl) ?_ | refine ER.pickT rfl rfl rfl rfl ?_ | refine ER.extract rfl rfl rfl rfl ?_ | refine ER.cmpT rfl rfl rfl rfl rfl (by first | (dsimp only [cmpP]; omega) | exact rfl | exact Int.le_refl _) ?_))
  refine ER.callD rfl rfl rfl rfl rfl (now_ok k11) ?_
  (repeat (first | refine ER.done ?_ | refine ER.assign rfl rfl rfl ?_ | refine ER.pickT rfl rfl rfl rfl ?_ | refine ER.cmpT rfl rfl rfl rfl rfl (by first | (dsimp only [cmpP]; omega) | exact rfl | exact Int.le_refl _) ?_ | refine EK.ret ?_))
  exact EU.ret1 rfl rfl ⟨rfl, w10.over (Upd.set (T := Own c B) _ _ _ (.inr ⟨1, by omega, rfl⟩)) (fun b hb => (own _ hb).1), rfl⟩
end
end
end Go.Proofs.Ytidfmmaehgijaaa
