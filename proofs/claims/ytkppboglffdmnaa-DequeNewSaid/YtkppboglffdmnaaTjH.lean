/- Own theory, part 13: bits; bound receivers; operations of a drawn region that end in more ways than one; contracts that may panic. Conditions: as the rules say. -/
import Derived.Test.YtkppboglffdmnaaTjA
import Derived.Laws.BitsLemmas
namespace Go.TJ
open Go Go.Conc
variable {Γ : Type}

theorem binOp_bits {op : BinOp} {t : TypeId} {kd : IntKind} {a b : Int} (h : op = .and ∨ op = .or) : binOp op t (.int kd a) (.int kd b) = pure (.int kd (bits op kd a b)) := by
  rcases h with rfl | rfl <;> simp [binOp, Op.intBits, bits]

/-- x & (2^e - 1), where x is not negative. -/
theorem and_mask {x : Int} {e : Nat} (he : e ≤ 62) (h0 : 0 ≤ x) (h1 : x < 4611686018427387904) : bits .and .i64 x (2 ^ e - 1) = x % 2 ^ e := by
  have h1' : x < 2 ^ 62 := by have : (2 : Int) ^ 62 = 4611686018427387904 := by decide
                              rw [this]; exact h1
  exact bits_mask .i64 62 (by decide) (fun n h h' => by
    have h62 : (2 : Int) ^ 62 = 4611686018427387904 := by decide
    rw [h62] at h'
    exact i64_in (by omega) (by omega)) e he x h0 h1'

section
variable {P : Program} {main : Bool} {S : Sit Γ} {f : FuncId} {n : Nat} {k : List Item} {env : Env} {ds : List Deferred} {h : Hp} {δ : Ix Γ} {R : Post Γ}
variable {ops : Array Oper} {l : List Oper} {d : Nat} {ty : TypeId} {pos : String} {af : Array Edge} {g : Option (Nat × Bool)}

theorem ER.andI {t t2 : TypeId} {x y : Operand} {kd : IntKind} {a b r : Int} (hw : wantE ops env g = some true) (hd : Nat.blt d n = true) (hx : ev env x = some (.int kd a)) (hy : ev env y = some (.int kd b)) (hr : bits .and kd a b = r)
    (hn : ER P main S f n ops l k ((d, .int kd r) :: env) ds h δ R) : ER P main S f n ops (⟨some d, .binOp .and t x y t2, ty, pos, af, g⟩ :: l) k env ds h δ R :=
  ER.binI hw hd hx hy (by rw [binOp_bits (.inl rfl), hr]) hn

/-! ### a function value with a bound receiver -/

theorem semW_callF {op : Op} {dst : Option Nat} {x : Operand} {args : Array Operand} {ats : Array TypeId} {c : FuncId} {first cap vs : Array Value} [hb : HasBody P c] {ρ : Operand → Value} {Q : Next → Hp → Ix Γ → Prop} {X : Value → Hp → Ix Γ → Prop}
    (hop : op = .call { callee := .value x, args, argTypes := ats }) (hx : ρ x = .func (.func c) first cap) (ha : args.map ρ = vs) (hq : Q (.enter c (first ++ vs ++ cap)) h δ) : SemW P S (execOp ρ ⟨dst, op, ty, pos, af, g⟩) h δ Q X := by
  subst hop
  show SemW P S (Deferred.ofValue (ρ x) (args.map ρ) >>= fun d => invoke d.target d.args) h δ Q X
  rw [hx, ha]
  obtain ⟨fn, code, h1, h2, h3⟩ := hb.out
  show SemW P S (callFunc c ((first ++ vs) ++ cap)) h δ Q X
  exact callFunc_semW h1 h2 h3 hq

/-- How a call of a function value may end, in the words of the caller. -/
def UponR (P : Program) (main : Bool) (S : Sit Γ) (f : FuncId) (n : Nat) (ops : Array Oper) (l : List Oper) (k : List Item) (d : Nat) (env : Env) (ds : List Deferred) (R : Post Γ) : Post Γ
  | .ret v, h', δ' => ER P main S f n ops l k ((d, v) :: env) ds h' δ' R
  | .pan p, h', δ' => EU P main S f n (.panicking p) env ds h' δ' R

theorem ER.callFR {x : Operand} {args : Array Operand} {ats : Array TypeId} {c : FuncId} {first cap ws : Array Value} {vs : List Value} [HasBody P c] {Q : Value → Hp → Ix Γ → Prop} (hw : wantE ops env g = some true) (hd : Nat.blt d n = true) (hx : ev env x = some (.func (.func c) first cap))
    (ha : evL env args.toList = some vs) (hws : first ++ vs.toArray ++ cap = ws) (hc : CallW P main S c ws h δ (Ret Q))
    (hn : ∀ v h' δ', Q v h' δ' → ER P main S f n ops l k ((d, v) :: env) ds h' δ' R) : ER P main S f n ops (⟨some d, .call { callee := .value x, args, argTypes := ats }, ty, pos, af, g⟩ :: l) k env ds h δ R := by
  subst hws
  refine ER.callGen hw hd (fun _ _ _ hρ hq => semW_callF rfl (hρ x _ hx) (map_ofL hρ ha) hq) (hc.mono ?_)
  rintro (v | p) h' δ' hq
  · exact hn _ _ _ hq
  · exact hq.elim

/-! ### contracts that may panic -/

/-- It returns, and so; or it panics, and so. -/
def RetP (Q : Value → Hp → Ix Γ → Prop) (X : List PanicEntry → Hp → Ix Γ → Prop) : Post Γ
  | .ret v, h, δ => Q v h δ
  | .pan p, h, δ => X p h δ

theorem CallW.retP {c : FuncId} {args : Array Value} {Q : Value → Hp → Ix Γ → Prop} {X : List PanicEntry → Hp → Ix Γ → Prop} (hc : CallW P main S c args h δ (Ret Q)) : CallW P main S c args h δ (RetP Q X) :=
  hc.mono (by
    rintro (v | p) h δ hx
    · exact hx
    · exact hx.elim)
theorem CallW.conseqP {c : FuncId} {args : Array Value} {Q Q' : Value → Hp → Ix Γ → Prop} {X : List PanicEntry → Hp → Ix Γ → Prop} (hc : CallW P main S c args h δ (RetP Q X)) (hq : ∀ v h' δ', Q v h' δ' → Q' v h' δ') : CallW P main S c args h δ (RetP Q' X) :=
  hc.mono (by
    rintro (v | p) h δ hx
    · exact hq _ _ _ hx
    · exact hx)

theorem EU.pan0 {fn : Func} {p : List PanicEntry} [hf : IsFn P f fn] (hR : R (.pan p) h δ) : EU P main S f n (.panicking p) env [] h δ R :=
  fun _ ka => WU.pan0 ka.defers hf.out hR

/-- A call by a contract that may panic, in a frame without deferred calls. -/
theorem ER.callP {fn : Func} [hf : IsFn P f fn] {x : Operand} {args : Array Operand} {ats : Array TypeId} {c : FuncId} {first cap ws : Array Value} {vs : List Value} [HasBody P c] {Q : Value → Hp → Ix Γ → Prop} {X : List PanicEntry → Hp → Ix Γ → Prop} (hw : wantE ops env g = some true) (hd : Nat.blt d n = true) (hx : ev env x = some (.func (.func c) first cap))
    (ha : evL env args.toList = some vs) (hws : first ++ vs.toArray ++ cap = ws) (hc : CallW P main S c ws h δ (RetP Q X)) (hX : ∀ p h' δ', X p h' δ' → R (.pan p) h' δ')
    (hn : ∀ v h' δ', Q v h' δ' → ER P main S f n ops l k ((d, v) :: env) [] h' δ' R) : ER P main S f n ops (⟨some d, .call { callee := .value x, args, argTypes := ats }, ty, pos, af, g⟩ :: l) k env [] h δ R := by
  subst hws
  refine ER.callGen hw hd (fun _ _ _ hρ hq => semW_callF rfl (hρ x _ hx) (map_ofL hρ ha) hq) (hc.mono ?_)
  rintro (v | p) h' δ' hq
  · exact hn _ _ _ hq
  · exact EU.pan0 (hX _ _ _ hq)
theorem ER.callPU {fn : Func} [hf : IsFn P f fn] {x : Operand} {args : Array Operand} {ats : Array TypeId} {c : FuncId} {first cap ws : Array Value} {vs : List Value} [HasBody P c] {Q : Value → Hp → Ix Γ → Prop} {X : List PanicEntry → Hp → Ix Γ → Prop} (hw : wantE ops env g = some true) (hx : ev env x = some (.func (.func c) first cap))
    (ha : evL env args.toList = some vs) (hws : first ++ vs.toArray ++ cap = ws) (hc : CallW P main S c ws h δ (RetP Q X)) (hX : ∀ p h' δ', X p h' δ' → R (.pan p) h' δ')
    (hn : ∀ v h' δ', Q v h' δ' → ER P main S f n ops l k env [] h' δ' R) : ER P main S f n ops (⟨none, .call { callee := .value x, args, argTypes := ats }, ty, pos, af, g⟩ :: l) k env [] h δ R := by
  subst hws
  refine ER.callGenU hw (fun _ _ _ hρ hq => semW_callF rfl (hρ x _ hx) (map_ofL hρ ha) hq) (hc.mono ?_)
  rintro (v | p) h' δ' hq
  · exact hn _ _ _ hq
  · exact EU.pan0 (hX _ _ _ hq)

/-! ### drawn regions -/
variable {Z : Hp → Prop} {zz : Nat} {m : Nat} {listed l' : Array Bool}

/-- An operation that yields some value and alone may come up. -/
theorem EA.valQ (i : Nat) {op : Op} {Q : Value → Hp → Ix Γ → Prop}
    (hi : ops[i]? = some ⟨some d, op, ty, pos, af, g⟩) (hr : Region.ready .any ops listed = [i]) (hl : listed.setIfInBounds i true = l') (hd : Nat.blt d n = true) (hw : wantE ops env g = some true)
    (hs : ∀ ρ : Operand → Value, (∀ x v, ev env x = some v → ρ x = v) → ∀ X, SemW P S (execOp ρ ⟨some d, op, ty, pos, af, g⟩) h δ (fun nx h' δ' => ∃ v, nx = .value v ∧ Q v h' δ') X)
    (hn : ∀ v h' δ', Q v h' δ' → Z h' ∧ EA P main S f n ops Z zz m l' k ((d, v) :: env) ds h' δ' R) : EA P main S f n ops Z zz (m + 1) listed k env ds h δ R := by
  refine EA.only i hi hr hl hw fun a ka => ?_
  refine semW_mono _ _ _ (hs a.eval (fun x v hx => ka.eval hx) _) ?_ (fun _ _ _ x => x)
  rintro nx h' δ' ⟨v, rfl, hq⟩
  exact ⟨.inr (hn v h' δ' hq).1, (hn v h' δ' hq).2 _ (ka.put v hd)⟩

theorem EA.append1 (i : Nat) {t e sz by_ : Nat} {z : Value} [Inf P e sz by_ z] [Und P t (.slice e)] {x y : Operand} {s : Value} {q c' b' e' : Nat} {fz : Nat × Nat} {cells new : List Value}
    (hi : ops[i]? = some ⟨some d, .call { callee := .builtin .append, args := #[x, y], argTypes := #[t, t] }, ty, pos, af, g⟩) (hr : Region.ready .any ops listed = [i]) (hl : listed.setIfInBounds i true = l') (hd : Nat.blt d n = true) (hw : wantE ops env g = some true)
    (hx : ev env x = some s) (hy : ev env y = some (.slice (some ⟨b', 0, none⟩) 1 c'))
    (hs : SliceO h s e sz q cells) (hb' : h[b']? = some (.cells new.toArray e' fz)) (hnew : new.length = sz) (hone : ∀ v ∈ new, OneCell v) (hfit : (q + 1) * by_ ≤ 140737488355328) (hm : q < 1000000000000) (hz : z.cells.size = sz) (hS : ∀ b o, blk s = some b → ¬ S.still δ.g ⟨b, o, none⟩)
    (hn : ∀ s' h', SliceO h' s' e sz (q + 1) (cells ++ new) → Upd (fun b => blk s = some b) h h' → (∀ b, blk s' = some b → blk s = some b ∨ b = h.size) → Z h' ∧ EA P main S f n ops Z zz m l' k ((d, s') :: env) ds h' δ R) :
    EA P main S f n ops Z zz (m + 1) listed k env ds h δ R := by
  refine EA.valQ (Q := fun s' h' δ' => δ' = δ ∧ SliceO h' s' e sz (q + 1) (cells ++ new) ∧ Upd (fun b => blk s = some b) h h' ∧ (∀ b, blk s' = some b → blk s = some b ∨ b = h.size)) i hi hr hl hd hw (fun ρ hρ X => sem_builtin (vs := #[s, .slice (some ⟨b', 0, none⟩) 1 c']) (by simp [hρ x _ hx, hρ y _ hy]) fun cs => ?_) ?_
  · show SemW P S (Builtin.append_ #[t, t] ty #[s, .slice (some ⟨b', 0, none⟩) 1 c'] >>= fun v => pure (Next.value v)) h δ _ _
    exact semW_bind _ _ _ _ _ _ (sem_append1 hs rfl hb' hnew hone hfit hm hz hS (fun s' h' h1 h2 h3 => ⟨s', rfl, rfl, h1, h2, h3⟩))
  · rintro s' h' δ' ⟨rfl, h1, h2, h3⟩
    exact hn s' h' h1 h2 h3

theorem EA.tLen1 (i : Nat) {x : Operand} {t e : TypeId} [Und P t (.slice e)] {a : Option Addr} {len cap : Nat} (hi : ops[i]? = some ⟨some d, .call { callee := .builtin .len, args := #[x], argTypes := #[t] }, ty, pos, af, g⟩) (hs : (Region.noSelect ops && TJ.Region.pinned ops zz i) = true) (hf : Region.free .any ops listed i = true) (hr : (Region.ready .any ops listed).contains i = true) (hl : listed.setIfInBounds i true = l')
    (hd : Nat.blt d n = true) (hw : wantE ops env g = some true) (hx : ev env x = some (.slice a len cap)) (hZ : Z h)
    (hn : EA P main S f n ops Z zz m l' k ((d, .int .i64 len) :: env) ds h δ R) : EA P main S f n ops Z zz (m + 1) listed k env ds h δ R :=
  EA.tLen (t := t) i hi hs hf hr hl hd hw rfl hx hZ hn

theorem EA.tPickT (i : Nat) {c x y : Operand} {v : Value} (hi : ops[i]? = some ⟨some d, .pick c x y, ty, pos, af, g⟩) (hs : (Region.noSelect ops && TJ.Region.pinned ops zz i) = true) (hf : Region.free .any ops listed i = true) (hr : (Region.ready .any ops listed).contains i = true) (hl : listed.setIfInBounds i true = l')
    (hd : Nat.blt d n = true) (hw : wantE ops env g = some true) (hc : ev env c = some (.bool true)) (hx : ev env x = some v) (hZ : Z h)
    (hn : EA P main S f n ops Z zz m l' k ((d, v) :: env) ds h δ R) : EA P main S f n ops Z zz (m + 1) listed k env ds h δ R :=
  EA.take i hi hs hf hr hl hd hw (fun _ _ _ _ _ hρ _ hq => sem_pick (b := true) (hρ _ _ hc) (hρ _ _ hx) hq) hZ hn
theorem EA.tPickF (i : Nat) {c x y : Operand} {v : Value} (hi : ops[i]? = some ⟨some d, .pick c x y, ty, pos, af, g⟩) (hs : (Region.noSelect ops && TJ.Region.pinned ops zz i) = true) (hf : Region.free .any ops listed i = true) (hr : (Region.ready .any ops listed).contains i = true) (hl : listed.setIfInBounds i true = l')
    (hd : Nat.blt d n = true) (hw : wantE ops env g = some true) (hc : ev env c = some (.bool false)) (hx : ev env y = some v) (hZ : Z h)
    (hn : EA P main S f n ops Z zz m l' k ((d, v) :: env) ds h δ R) : EA P main S f n ops Z zz (m + 1) listed k env ds h δ R :=
  EA.take i hi hs hf hr hl hd hw (fun _ _ _ _ _ hρ _ hq => sem_pick (b := false) (hρ _ _ hc) (hρ _ _ hx) hq) hZ hn
theorem EA.tCmpT (i : Nat) {op : BinOp} {t t2 : TypeId} {x y : Operand} {kd : IntKind} {a b : Int} (hi : ops[i]? = some ⟨some d, .binOp op t x y t2, ty, pos, af, g⟩) (hs : (Region.noSelect ops && TJ.Region.pinned ops zz i) = true) (hf : Region.free .any ops listed i = true) (hr : (Region.ready .any ops listed).contains i = true) (hl : listed.setIfInBounds i true = l')
    (hd : Nat.blt d n = true) (hw : wantE ops env g = some true) (hc : isCmp op = true) (hx : ev env x = some (.int kd a)) (hy : ev env y = some (.int kd b)) (hp : cmpP op a b) (hZ : Z h)
    (hn : EA P main S f n ops Z zz m l' k ((d, .bool true) :: env) ds h δ R) : EA P main S f n ops Z zz (m + 1) listed k env ds h δ R :=
  EA.tBinI i hi hs hf hr hl hd hw hx hy (binOp_cmpT hc hp) hZ hn
theorem EA.tCmpF (i : Nat) {op : BinOp} {t t2 : TypeId} {x y : Operand} {kd : IntKind} {a b : Int} (hi : ops[i]? = some ⟨some d, .binOp op t x y t2, ty, pos, af, g⟩) (hs : (Region.noSelect ops && TJ.Region.pinned ops zz i) = true) (hf : Region.free .any ops listed i = true) (hr : (Region.ready .any ops listed).contains i = true) (hl : listed.setIfInBounds i true = l')
    (hd : Nat.blt d n = true) (hw : wantE ops env g = some true) (hc : isCmp op = true) (hx : ev env x = some (.int kd a)) (hy : ev env y = some (.int kd b)) (hp : ¬ cmpP op a b) (hZ : Z h)
    (hn : EA P main S f n ops Z zz m l' k ((d, .bool false) :: env) ds h δ R) : EA P main S f n ops Z zz (m + 1) listed k env ds h δ R :=
  EA.tBinI i hi hs hf hr hl hd hw hx hy (binOp_cmpF hc hp) hZ hn
theorem EA.tMul (i : Nat) {t t2 : TypeId} {x y : Operand} {kd : IntKind} {a b r : Int} (hi : ops[i]? = some ⟨some d, .binOp .mul t x y t2, ty, pos, af, g⟩) (hs : (Region.noSelect ops && TJ.Region.pinned ops zz i) = true) (hf : Region.free .any ops listed i = true) (hr : (Region.ready .any ops listed).contains i = true) (hl : listed.setIfInBounds i true = l')
    (hd : Nat.blt d n = true) (hw : wantE ops env g = some true) (hx : ev env x = some (.int kd a)) (hy : ev env y = some (.int kd b)) (hrr : kd.wrap (a * b) = r) (hZ : Z h)
    (hn : EA P main S f n ops Z zz m l' k ((d, .int kd r) :: env) ds h δ R) : EA P main S f n ops Z zz (m + 1) listed k env ds h δ R :=
  EA.tBinI i hi hs hf hr hl hd hw hx hy (by rw [binOp_mul, hrr]) hZ hn

theorem sem_alloc {t sz by_ : Nat} {z : Value} [i : Inf P t sz by_ z] {ρ : Operand → Value} {dst : Option Nat} {Q : Next → Hp → Ix Γ → Prop} {X : Value → Hp → Ix Γ → Prop} (hq : Q (.value (.pointer (some ⟨h.size, 0, none⟩))) (h.push (.cells z.cells t)) δ) : SemW P S (execOp ρ ⟨dst, .alloc t, ty, pos, af, g⟩) h δ Q X := by
  show SemW P S (Instr.alloc t true (.tuple #[]) >>= fun v => pure (.value v)) h δ Q X
  refine semW_bind _ _ _ _ _ _ ?_
  unfold Instr.alloc
  obtain ⟨inf, h1, h2, h3, h4⟩ := i.get
  exact semW_zeroValue h1 h4 ⟨thawed, hq⟩

theorem sem_allocA {t sz by_ : Nat} {cs : Array Value} [Inf P t sz by_ (.agg cs)] {ρ : Operand → Value} {dst : Option Nat} {Q : Next → Hp → Ix Γ → Prop} {X : Value → Hp → Ix Γ → Prop} (hq : Q (.value (.pointer (some ⟨h.size, 0, none⟩))) (h.push (.cells cs t)) δ) : SemW P S (execOp ρ ⟨dst, .alloc t, ty, pos, af, g⟩) h δ Q X :=
  sem_alloc (z := .agg cs) hq

theorem hsetRow_push {h : Hp} {c vs : List Value} {e : TypeId} {f : Nat × Nat} (hl : c.length = vs.length) : hsetRow (h.push (.cells c.toArray e f)) h.size 0 vs = h.push (.cells vs.toArray e f) := by
  rw [hsetRow_block vs 0 _ c (get_push_new _ _) (by omega), push_set]
  congr 2
  simp [← hl]

theorem sem_buildS {t sz by_ : Nat} {z : Value} {pl : List (Nat × Nat)} [Inf P t sz by_ z] [Places P t pl] {ps : Array (Nat × Operand)} {parts : List (Nat × Value)} {cells : Array Value} {ρ : Operand → Value} {dst : Option Nat} {Q : Next → Hp → Ix Γ → Prop} {X : Value → Hp → Ix Γ → Prop}
    (hρ : ∀ x v, ev env x = some v → ρ x = v) (hp : evP env ps.toList = some parts) (hf : Instr.fill (fun i => pl.toArray[i]?) z.cells parts = some cells) (hq : Q (.value (.agg cells)) h δ) : SemW P S (execOp ρ ⟨dst, .build t ps, ty, pos, af, g⟩) h δ Q X := by
  have e1 : (ps.map fun (i, x) => (i, ρ x)) = parts.toArray := by
    obtain ⟨ps⟩ := ps
    simp only [List.map_toArray]
    rw [← evP_ok hρ ps parts hp]
  unfold execOp
  dsimp only
  rw [e1]
  exact semW_bind _ _ _ _ _ _ (semW_build (parts := parts.toArray) hf hq)
theorem sem_slice1 {t e sz by_ : Nat} {z : Value} {ps : Array (Nat × Operand)} {parts : List (Nat × Value)} {cells : Array Value} [hinf : Inf P e sz by_ z] [hu : Und P t (.slice e)] {ρ : Operand → Value} {dst : Option Nat} {Q : Next → Hp → Ix Γ → Prop} {X : Value → Hp → Ix Γ → Prop}
    (hρ : ∀ x v, ev env x = some v → ρ x = v) (hp : evP env ps.toList = some parts) (hsz : 0 < sz) (hsz2 : sz ≤ 1000000) (hz : z.cells.size = sz) (hf : Instr.fill (fun i => some (i * sz, sz)) z.cells parts = some cells)
    (hq : Q (.value (.slice (some ⟨h.size, 0, none⟩) 1 1)) (h.push (.cells cells e)) δ) : SemW P S (execOp ρ ⟨dst, .buildSlice t 1 ps, ty, pos, af, g⟩) h δ Q X := by
  have e1 : (ps.map fun (i, x) => (i, ρ x)) = parts.toArray := by
    obtain ⟨ps⟩ := ps
    simp only [List.map_toArray]
    rw [← evP_ok hρ ps parts hp]
  unfold execOp
  dsimp only
  rw [e1]
  refine semW_bind _ _ _ _ _ _ ?_
  obtain ⟨inf, hi1, hi2, hi3, hi4⟩ := hinf.get
  unfold Instr.buildSlice
  refine semW_underlying hu.out ?_
  refine semW_sizeOf hi1 ?_
  rw [hi2, if_neg (by omega), if_neg (by omega)]
  refine semW_zeroValue hi1 hi4 ?_
  refine semW_pureBind ?_
  have hf' : Instr.fill (fun i => some (i * sz, sz)) ((Array.range (1 * sz)).map (z.cells[· % z.cells.size]!)) parts.toArray.toList = some cells := by rw [zeros1 hz]; exact hf
  dsimp only
  rw [hf']
  exact ⟨thawed, hq⟩
end
end Go.TJ
