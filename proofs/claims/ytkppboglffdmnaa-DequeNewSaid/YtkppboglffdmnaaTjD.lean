/- Own theory, part 7: a region that draws its order. An operation that yields its value on every heap that meets Z may be taken first. Conditions: as its rules say. -/
import Derived.Test.YtkppboglffdmnaaTjR
import Derived.OrdersHeld
namespace Go.TJ
open Go Go.Conc
variable {Γ : Type}

section
variable {P : Program} {main : Bool} {S : Sit Γ} {f : FuncId} {n : Nat} {k : List Item} {R : Post Γ} {ops : Array Oper} {Z : Hp → Prop} {z : Nat}

/-- Every frame with these deferred calls that panics so does well. -/
def PanAll (P : Program) (main : Bool) (S : Sit Γ) (f : FuncId) (c : List PanicEntry) (ds : List Deferred) (R : Post Γ) (h : Hp) (δ : Ix Γ) : Prop :=
  ∀ a : Act, a.defers = ds → WU P main S f (.panicking c) a h δ R

/-- What is asked once an operation of a drawn region has yielded this. -/
def NextO (P : Program) (main : Bool) (S : Sit Γ) (f : FuncId) (R : Post Γ) (K : Act → Hp → Ix Γ → Prop) (a : Act) (dst : Option Tmp) : Next → Hp → Ix Γ → Prop
  | .value v, h, δ => K (a.put dst v) h δ
  | .skip, h, δ => K (a.put dst undef) h δ
  | .enter g args, h, δ => CallW P main S g args h δ fun
      | .ret v, h', δ' => K (a.put dst v) h' δ'
      | .pan c, h', δ' => PanAll P main S f c a.defers R h' δ'
  | _, _, _ => False

/-- One operation of the region, then K. -/
def OpK (P : Program) (main : Bool) (S : Sit Γ) (f : FuncId) (R : Post Γ) (ops : Array Oper) (i : Nat) (K : Act → Hp → Ix Γ → Prop) (a : Act) (h : Hp) (δ : Ix Γ) : Prop :=
  match ops[i]? with
  | none => False
  | some o => if Region.wanted o (yielded ops a.tmps) = true then
      SemW P S (execOp a.eval o) h δ (NextO P main S f R K a o.dst) (fun v h' δ' => PanAll P main S f [{ v, recovered := false }] a.defers R h' δ')
    else K (a.put o.dst undef) h δ

theorem OpK.mono {i : Nat} {K K' : Act → Hp → Ix Γ → Prop} {a : Act} {h : Hp} {δ : Ix Γ} (hk : ∀ a h δ, K a h δ → K' a h δ) (hh : OpK P main S f R ops i K a h δ) : OpK P main S f R ops i K' a h δ := by
  unfold OpK at *
  split
  · rename_i hn; simp only [hn] at hh
  · rename_i o ho
    simp only [ho] at hh
    split
    · rename_i hw
      simp only [hw, if_true] at hh
      refine semW_mono _ _ _ hh (fun nx h δ hx => ?_) (fun _ _ _ x => x)
      cases nx <;> first | exact hk _ _ _ hx | exact hx.elim | skip
      refine CallW.mono hx ?_
      rintro (v | c) h' δ' y
      · exact hk _ _ _ y
      · exact y
    · rename_i hw
      simp only [hw] at hh
      exact hk _ _ _ hh

/-- Whatever order is picked from here on; Z holds behind every operation. -/
def AnyK (P : Program) (main : Bool) (S : Sit Γ) (f : FuncId) (k : List Item) (R : Post Γ) (ops : Array Oper) (Z : Hp → Prop) (z : Nat) : Nat → Array Bool → Act → Hp → Ix Γ → Prop
  | 0, listed, a, h, δ => Region.ready .any ops listed = [] ∧ WK P main S f k a h δ R
  | m + 1, listed, a, h, δ => (Region.ready .any ops listed = [] → WK P main S f k a h δ R) ∧
      ∀ i ∈ Region.ready .any ops listed, OpK P main S f R ops i (fun a' h' δ' => (i = z ∨ Z h') ∧ AnyK P main S f k R ops Z z m (listed.setIfInBounds i true) a' h' δ') a h δ

theorem OpK.sound {i : Nat} {rest : List Nat} {a : Act} {h : Hp} {δ : Ix Γ} (hh : OpK P main S f R ops i (fun a' h' δ' => WK P main S f (.inRegion ops rest :: k) a' h' δ' R) a h δ) : WK P main S f (.inRegion ops (i :: rest) :: k) a h δ R := by
  unfold OpK at hh
  split at hh
  · exact hh.elim
  · rename_i o ho
    split at hh
    · rename_i hw
      refine WK.op ho hw (semW_mono _ _ _ hh (fun nx h δ hx => ?_) (fun v h δ hx => hx a rfl))
      cases nx <;> first | exact hx | exact hx.elim | skip
      refine CallW.mono hx ?_
      rintro (v | c) h' δ' y
      · exact y
      · exact y a rfl
    · rename_i hw
      exact WK.unwanted ho (by simpa using hw) hh

theorem AnyK.sound : ∀ (m t : Nat) (listed : Array Bool) (a : Act) (h : Hp) (δ : Ix Γ), AnyK P main S f k R ops Z z m listed a h δ →
    WK P main S f (.inRegion ops (Region.linearise.go .any ops m t listed []) :: k) a h δ R := by
  intro m
  induction m with
  | zero => intro t listed a h δ hh; simpa [Region.linearise.go] using WK.regionEnd hh.2
  | succ m ih =>
    intro t listed a h δ hh
    obtain ⟨h0, h1⟩ := hh
    simp only [Region.linearise.go]
    change WK P main S f (.inRegion ops (match (Region.ready .any ops listed)[t % (Region.ready .any ops listed).length]? with
      | some i => Region.linearise.go .any ops m (t / (Region.ready .any ops listed).length) (listed.setIfInBounds i true) [i]
      | none => [].reverse) :: k) a h δ R
    cases hi : (Region.ready .any ops listed)[t % (Region.ready .any ops listed).length]? with
    | none =>
      have hnil : Region.ready .any ops listed = [] := by
        cases hr : Region.ready .any ops listed with
        | nil => rfl
        | cons x xs =>
          rw [hr] at hi
          have hlt : t % (x :: xs).length < (x :: xs).length := Nat.mod_lt _ (by simp)
          simp at hi
          simp at hlt
          omega
      simpa using WK.regionEnd (h0 hnil)
    | some i =>
      simp only []
      rw [linearise_go_acc, List.reverse_singleton, List.singleton_append]
      exact OpK.sound (OpK.mono (fun a h δ x => ih _ _ a h δ x.2) (h1 i (List.mem_of_getElem? hi)))

/-- In state a, on every heap that meets Z, the operation yields v and does nothing else. -/
def YldZ (P : Program) (S : Sit Γ) (ops : Array Oper) (Z : Hp → Prop) (o : Oper) (v : Value) (a : Act) : Prop :=
  (Region.wanted o (yielded ops a.tmps) = true ∧ ∀ h δ (Q : Next → Hp → Ix Γ → Prop) (X : Value → Hp → Ix Γ → Prop), Z h → Q (.value v) h δ → SemW P S (execOp a.eval o) h δ Q X) ∨
  (Region.wanted o (yielded ops a.tmps) = false ∧ v = undef)

theorem YldZ.opK {i : Nat} {o : Oper} {v : Value} {a : Act} (hi : ops[i]? = some o) (hy : YldZ P S ops Z o v a) {K : Act → Hp → Ix Γ → Prop} {h : Hp} {δ : Ix Γ} (hZ : Z h) (hk : K (a.put o.dst v) h δ) : OpK P main S f R ops i K a h δ := by
  unfold OpK
  simp only [hi]
  rcases hy with ⟨hw, hv⟩ | ⟨hw, rfl⟩
  · rw [if_pos hw]
    exact hv h δ _ _ hZ hk
  · rw [if_neg (by simp [hw])]
    exact hk

theorem YldZ.same {o : Oper} {v : Value} {a a' : Act} (hy : YldZ P S ops Z o v a) (he : execOp a'.eval o = execOp a.eval o)
    (hw : Region.wanted o (yielded ops a'.tmps) = Region.wanted o (yielded ops a.tmps)) : YldZ P S ops Z o v a' := by
  unfold YldZ at *
  rw [he, hw]
  exact hy

theorem put_defers (a : Act) (d : Option Tmp) (v : Value) : (a.put d v).defers = a.defers := by cases d <;> rfl

theorem OpK.put {j : Nat} {oi oj : Oper} {v : Value} (hj : ops[j]? = some oj) (hap : oi.apart ops oj = true) (hsi : ∀ cs b, oi.op ≠ .select cs b) (hsj : ∀ cs b, oj.op ≠ .select cs b)
    {K : Act → Hp → Ix Γ → Prop} {a : Act} {h : Hp} {δ : Ix Γ} (hy : YldZ P S ops Z oi v a) (hh : OpK P main S f R ops j K (a.put oi.dst v) h δ) :
    OpK P main S f R ops j (fun a' h' δ' => YldZ P S ops Z oi v a' ∧ K (a'.put oi.dst v) h' δ') a h δ := by
  obtain ⟨h1, h2, h3⟩ := Oper.apart_spec hap
  have keep : ∀ (a : Act), YldZ P S ops Z oi v a → ∀ u, YldZ P S ops Z oi v (a.put oj.dst u) := fun a hy u =>
    hy.same (execOp_put oi hsi a oj.dst u h3) (wanted_put oi a oj.dst u h3)
  unfold OpK at *
  simp only [hj] at *
  rw [wanted_put oj a oi.dst v h1] at hh
  split
  · rename_i hw
    simp only [hw, if_true] at hh
    rw [execOp_put oj hsj a oi.dst v h1] at hh
    refine semW_mono _ _ _ hh (fun nx h δ hx => ?_) (fun x h δ hx => by rw [put_defers] at hx; exact hx)
    cases nx <;> simp only [NextO] at hx ⊢
    case value u => exact ⟨keep a hy u, by rw [← Act.put_comm a v u h2]; exact hx⟩
    case skip => exact ⟨keep a hy _, by rw [← Act.put_comm a v undef h2]; exact hx⟩
    case enter g args =>
      refine CallW.mono hx ?_
      rintro (u | c) h' δ' y
      · exact ⟨keep a hy u, by rw [← Act.put_comm a v u h2]; exact y⟩
      · dsimp only at y ⊢
        rw [put_defers] at y
        exact y
  · rename_i hw
    simp only [hw] at hh
    exact ⟨keep a hy _, by rw [← Act.put_comm a v undef h2]; exact hh⟩

/-- Operation z, if there is one, comes behind i. -/
def Region.pinned (ops : Array Oper) (z i : Nat) : Bool := match ops[z]? with
  | none => true
  | some o => (i == z) || o.after.any fun e => Region.binds .any e && e.on == i

theorem AnyK.first {i : Nat} {oi : Oper} {v : Value} (hi : ops[i]? = some oi) (hsel : ∀ (j : Nat) (o : Oper) cs b, ops[j]? = some o → o.op ≠ .select cs b) (hpin : TJ.Region.pinned ops z i = true) :
    ∀ (m : Nat) (listed : Array Bool) (a : Act) (h : Hp) (δ : Ix Γ),
      (∀ j oj, ops[j]? = some oj → j ≠ i → listed.getD j true = false → (∀ e ∈ oj.after, Region.binds .any e = true → e.on ≠ i) → oi.apart ops oj = true) →
      i ∈ Region.ready .any ops listed → YldZ P S ops Z oi v a → Z h →
      AnyK P main S f k R ops Z z m (listed.setIfInBounds i true) (a.put oi.dst v) h δ → AnyK P main S f k R ops Z z (m + 1) listed a h δ := by
  intro m
  induction m with
  | zero =>
    intro listed a h δ _ hr hy hZ H
    refine ⟨fun x => (by rw [x] at hr; cases hr), fun j hj => ?_⟩
    by_cases hji : j = i
    · subst hji; exact hy.opK hi hZ ⟨.inr hZ, H⟩
    · have := ready_mono hj hji
      rw [H.1] at this
      cases this
  | succ m ih =>
    intro listed a h δ hfree hr hy hZ H
    refine ⟨fun x => (by rw [x] at hr; cases hr), fun j hj => ?_⟩
    by_cases hji : j = i
    · subst hji; exact hy.opK hi hZ ⟨.inr hZ, H⟩
    · have h1 := H.2 j (ready_mono hj hji)
      obtain ⟨hjun, oj, hoj, hall⟩ := mem_ready.1 hj
      have hnot : ∀ e ∈ oj.after, Region.binds .any e = true → e.on ≠ i := fun e he hb heq => by
        have g1 := hall e he hb
        have g0 := (mem_ready.1 hr).1
        rw [heq] at g1
        rcases Nat.lt_or_ge i listed.size with h' | h'
        · simp [h'] at g0 g1; rw [g0] at g1; cases g1
        · simp [Array.getElem?_eq_none h'] at g1
      have hjz : j ≠ z := fun e => by
        subst e
        unfold TJ.Region.pinned at hpin
        rw [hoj] at hpin
        simp only [Bool.or_eq_true, beq_iff_eq] at hpin
        rcases hpin with x | x
        · exact hji x.symm
        · obtain ⟨q, hq, hb⟩ := Array.any_eq_true.1 x
          simp only [Bool.and_eq_true, beq_iff_eq] at hb
          exact hnot _ (Array.getElem_mem hq) hb.1 hb.2
      have h2 := OpK.put hoj (hfree j oj hoj hji hjun hnot) (fun cs b => hsel i oi cs b hi) (fun cs b => hsel j oj cs b hoj) hy h1
      have hfree' : ∀ k ok, ops[k]? = some ok → k ≠ i → (listed.setIfInBounds j true).getD k true = false →
          (∀ e ∈ ok.after, Region.binds .any e = true → e.on ≠ i) → oi.apart ops ok = true := fun k ok hk hki hun hno => by
        refine hfree k ok hk hki ?_ hno
        by_cases hjk : j = k
        · subst hjk; exact hjun
        · rw [getD_set_ne true hjk] at hun; exact hun
      refine OpK.mono (fun a' h' δ' h3 => ⟨h3.2.1, ih (listed.setIfInBounds j true) a' h' δ' hfree' (ready_mono hr (Ne.symm hji)) h3.1 (h3.2.1.resolve_left hjz) ?_⟩) h2
      rw [Array.setIfInBounds_comm _ _ hji]
      exact h3.2.2

/-! ### over known slots -/

/-- The region in whatever order from here on, over known slots. -/
def EA (P : Program) (main : Bool) (S : Sit Γ) (f : FuncId) (n : Nat) (ops : Array Oper) (Z : Hp → Prop) (z : Nat) (m : Nat) (listed : Array Bool) (k : List Item) (env : Env) (ds : List Deferred) (h : Hp) (δ : Ix Γ) (R : Post Γ) : Prop :=
  ∀ a, Kn n env ds a → AnyK P main S f k R ops Z z m listed a h δ

/-- A program under which every order that the edges allow may be drawn. -/
class Mixed (P : Program) : Prop where
  out : P.follows .mixedOrders = true

variable {env : Env} {ds : List Deferred} {h : Hp} {δ : Ix Γ}

theorem EK.regionAnyL [hm : Mixed P] {id : Nat} (Z : Hp → Prop) (z : Nat) (hw : EA P main S f n ops Z z ops.size (Array.replicate ops.size false) k env ds h δ R) : EK P main S f n (.code (.region id ops true) :: k) env ds h δ R := by
  intro a ka
  refine WK.regionDraw fun t => ?_
  have e : Region.schedule (P.follows .mixedOrders) ops t = Region.linearise.go .any ops ops.size t (Array.replicate ops.size false) [] := by
    simp only [Region.schedule, hm.out, Bool.true_or, if_true]
    rfl
  rw [e]
  exact AnyK.sound ops.size t _ a h δ (hw a ka)
theorem EK.regionAny [Mixed P] {id : Nat} (Z : Hp → Prop) (hw : EA P main S f n ops Z 1000000 ops.size (Array.replicate ops.size false) k env ds h δ R) : EK P main S f n (.code (.region id ops true) :: k) env ds h δ R := EK.regionAnyL Z 1000000 hw

/-- Take operation i first: it yields v on every heap that meets Z. -/
theorem EA.take (i : Nat) {d : Nat} {op : Op} {ty : TypeId} {pos : String} {af : Array Edge} {g : Option (Nat × Bool)} {m : Nat} {listed l' : Array Bool} {v : Value}
    (hi : ops[i]? = some ⟨some d, op, ty, pos, af, g⟩) (hs : (Region.noSelect ops && TJ.Region.pinned ops z i) = true) (hf : Region.free .any ops listed i = true) (hr : (Region.ready .any ops listed).contains i = true) (hl : listed.setIfInBounds i true = l')
    (hd : Nat.blt d n = true) (hw : wantE ops env g = some true)
    (hy : ∀ (ρ : Operand → Value) (h : Hp) (δ : Ix Γ) (Q : Next → Hp → Ix Γ → Prop) (X : Value → Hp → Ix Γ → Prop), (∀ x v, ev env x = some v → ρ x = v) → Z h → Q (.value v) h δ → SemW P S (execOp ρ ⟨some d, op, ty, pos, af, g⟩) h δ Q X) (hZ : Z h)
    (hn : EA P main S f n ops Z z m l' k ((d, v) :: env) ds h δ R) : EA P main S f n ops Z z (m + 1) listed k env ds h δ R := by
  subst hl
  intro a ka
  refine AnyK.first hi (Region.noSelect_spec (Bool.and_eq_true_iff.1 hs).1) (Bool.and_eq_true_iff.1 hs).2 m listed a h δ (Region.free_spec hi hf) (by simpa using hr) (.inl ⟨wantE_ok ka (o := ⟨some d, op, ty, pos, af, g⟩) hw, fun h δ Q X hZ hq => hy a.eval h δ Q X (fun x v hx => ka.eval hx) hZ hq⟩) hZ ?_
  exact hn _ (ka.put v hd)

theorem EA.takeNo (i : Nat) {d : Nat} {op : Op} {ty : TypeId} {pos : String} {af : Array Edge} {g : Option (Nat × Bool)} {m : Nat} {listed l' : Array Bool}
    (hi : ops[i]? = some ⟨some d, op, ty, pos, af, g⟩) (hs : (Region.noSelect ops && TJ.Region.pinned ops z i) = true) (hf : Region.free .any ops listed i = true) (hr : (Region.ready .any ops listed).contains i = true) (hl : listed.setIfInBounds i true = l')
    (hd : Nat.blt d n = true) (hw : wantE ops env g = some false) (hZ : Z h)
    (hn : EA P main S f n ops Z z m l' k ((d, undef) :: env) ds h δ R) : EA P main S f n ops Z z (m + 1) listed k env ds h δ R := by
  subst hl
  intro a ka
  refine AnyK.first hi (Region.noSelect_spec (Bool.and_eq_true_iff.1 hs).1) (Bool.and_eq_true_iff.1 hs).2 m listed a h δ (Region.free_spec hi hf) (by simpa using hr) (.inr ⟨wantE_ok ka (o := ⟨some d, op, ty, pos, af, g⟩) hw, rfl⟩) hZ ?_
  exact hn _ (ka.put undef hd)

/-- Operation i alone may come up: it is carried out as in a region in the text's order, and Z is shown anew. -/
theorem EA.only (i : Nat) {o : Oper} {m : Nat} {listed l' : Array Bool} (hi : ops[i]? = some o) (hr : Region.ready .any ops listed = [i]) (hl : listed.setIfInBounds i true = l')
    (hw : wantE ops env o.guard = some true)
    (hs : ∀ (a : Act), Kn n env ds a → SemW P S (execOp a.eval o) h δ (NextO P main S f R (fun a' h' δ' => (i = z ∨ Z h') ∧ AnyK P main S f k R ops Z z m l' a' h' δ') a o.dst) (fun v h' δ' => PanAll P main S f [{ v, recovered := false }] ds R h' δ')) :
    EA P main S f n ops Z z (m + 1) listed k env ds h δ R := by
  subst hl
  intro a ka
  refine ⟨fun x => (by rw [x] at hr; cases hr), fun j hj => ?_⟩
  rw [hr] at hj
  have : j = i := by simpa using hj
  subst this
  unfold OpK
  simp only [hi]
  rw [if_pos (wantE_ok ka hw), ka.defers]
  exact hs a ka

theorem EA.done {m : Nat} {listed : Array Bool} (hr : Region.ready .any ops listed = []) (hw : EK P main S f n k env ds h δ R) : EA P main S f n ops Z z m listed k env ds h δ R := by
  intro a ka
  cases m with
  | zero => exact ⟨hr, hw a ka⟩
  | succ m => exact ⟨fun _ => hw a ka, by rw [hr]; simp⟩

/-- A call that alone may come up. -/
theorem EA.callR (i : Nat) {d : Nat} {x : Operand} {args : Array Operand} {ats : Array TypeId} {ty : TypeId} {pos : String} {af : Array Edge} {g : Option (Nat × Bool)} {m : Nat} {listed l' : Array Bool} {c : FuncId} {cap ws : Array Value} {vs : List Value} [HasBody P c] {Q : Value → Hp → Ix Γ → Prop}
    (hi : ops[i]? = some ⟨some d, .call { callee := .value x, args, argTypes := ats }, ty, pos, af, g⟩) (hr : Region.ready .any ops listed = [i]) (hl : listed.setIfInBounds i true = l') (hd : Nat.blt d n = true)
    (hw : wantE ops env g = some true) (hx : ev env x = some (.func (.func c) #[] cap)) (ha : evL env args.toList = some vs) (hws : vs.toArray ++ cap = ws) (hc : CallW P main S c ws h δ (Ret Q))
    (hn : ∀ v h' δ', Q v h' δ' → Z h' ∧ EA P main S f n ops Z z m l' k ((d, v) :: env) ds h' δ' R) : EA P main S f n ops Z z (m + 1) listed k env ds h δ R := by
  subst hws
  refine EA.only i hi hr hl hw fun a ka => ?_
  refine semW_call rfl (ka.eval hx) (map_ofL (fun x v hx => ka.eval hx) ha) (hc.mono ?_)
  rintro (v | p) h' δ' hq
  · exact ⟨.inr (hn v h' δ' hq).1, (hn v h' δ' hq).2 _ (ka.put v hd)⟩
  · exact hq.elim

theorem EA.callD (i : Nat) {d : Nat} {x : Operand} {args : Array Operand} {ats : Array TypeId} {ty : TypeId} {pos : String} {af : Array Edge} {g : Option (Nat × Bool)} {m : Nat} {listed l' : Array Bool} {c : FuncId} {cap ws : Array Value} {vs : List Value} [HasBody P c] {v : Value} {h' : Hp} {δ' : Ix Γ}
    (hi : ops[i]? = some ⟨some d, .call { callee := .value x, args, argTypes := ats }, ty, pos, af, g⟩) (hr : Region.ready .any ops listed = [i]) (hl : listed.setIfInBounds i true = l') (hd : Nat.blt d n = true)
    (hw : wantE ops env g = some true) (hx : ev env x = some (.func (.func c) #[] cap)) (ha : evL env args.toList = some vs) (hws : vs.toArray ++ cap = ws) (hc : CallW P main S c ws h δ (Ret (Det v h' δ'))) (hZ : Z h')
    (hn : EA P main S f n ops Z z m l' k ((d, v) :: env) ds h' δ' R) : EA P main S f n ops Z z (m + 1) listed k env ds h δ R :=
  EA.callR i hi hr hl hd hw hx ha hws hc (by rintro _ _ _ ⟨rfl, rfl, rfl⟩; exact ⟨hZ, hn⟩)

/-- An operation that yields a value and alone may come up. -/
theorem EA.val (i : Nat) {d : Nat} {op : Op} {ty : TypeId} {pos : String} {af : Array Edge} {g : Option (Nat × Bool)} {m : Nat} {listed l' : Array Bool} {v : Value} {h' : Hp}
    (hi : ops[i]? = some ⟨some d, op, ty, pos, af, g⟩) (hr : Region.ready .any ops listed = [i]) (hl : listed.setIfInBounds i true = l') (hd : Nat.blt d n = true) (hw : wantE ops env g = some true)
    (hs : ∀ (ρ : Operand → Value) (Q : Next → Hp → Ix Γ → Prop) (X : Value → Hp → Ix Γ → Prop), (∀ x v, ev env x = some v → ρ x = v) → Q (.value v) h' δ → SemW P S (execOp ρ ⟨some d, op, ty, pos, af, g⟩) h δ Q X) (hZ : Z h')
    (hn : EA P main S f n ops Z z m l' k ((d, v) :: env) ds h' δ R) : EA P main S f n ops Z z (m + 1) listed k env ds h δ R := by
  refine EA.only i hi hr hl hw fun a ka => ?_
  exact hs a.eval _ _ (fun x v hx => ka.eval hx) ⟨.inr hZ, hn _ (ka.put v hd)⟩

theorem EA.unit (i : Nat) {op : Op} {ty : TypeId} {pos : String} {af : Array Edge} {g : Option (Nat × Bool)} {m : Nat} {listed l' : Array Bool} {h' : Hp}
    (hi : ops[i]? = some ⟨none, op, ty, pos, af, g⟩) (hr : Region.ready .any ops listed = [i]) (hl : listed.setIfInBounds i true = l') (hw : wantE ops env g = some true)
    (hs : ∀ (ρ : Operand → Value) (Q : Next → Hp → Ix Γ → Prop) (X : Value → Hp → Ix Γ → Prop), (∀ x v, ev env x = some v → ρ x = v) → Q .skip h' δ → SemW P S (execOp ρ ⟨none, op, ty, pos, af, g⟩) h δ Q X) (hZ : Z h')
    (hn : EA P main S f n ops Z z m l' k env ds h' δ R) : EA P main S f n ops Z z (m + 1) listed k env ds h δ R := by
  refine EA.only i hi hr hl hw fun a ka => ?_
  exact hs a.eval _ _ (fun x v hx => ka.eval hx) ⟨.inr hZ, hn _ ⟨ka.size, ka.defers, ka.knows⟩⟩

/-- The last operation: Z is not asked behind it. -/
theorem EA.unitL (i : Nat) {op : Op} {ty : TypeId} {pos : String} {af : Array Edge} {g : Option (Nat × Bool)} {m : Nat} {listed l' : Array Bool} {h' : Hp}
    (hi : ops[i]? = some ⟨none, op, ty, pos, af, g⟩) (hr : Region.ready .any ops listed = [i]) (hl : listed.setIfInBounds i true = l') (hw : wantE ops env g = some true) (hz : i = z)
    (hs : ∀ (ρ : Operand → Value) (Q : Next → Hp → Ix Γ → Prop) (X : Value → Hp → Ix Γ → Prop), (∀ x v, ev env x = some v → ρ x = v) → Q .skip h' δ → SemW P S (execOp ρ ⟨none, op, ty, pos, af, g⟩) h δ Q X)
    (hn : EA P main S f n ops Z z m l' k env ds h' δ R) : EA P main S f n ops Z z (m + 1) listed k env ds h δ R := by
  refine EA.only i hi hr hl hw fun a ka => ?_
  exact hs a.eval _ _ (fun x v hx => ka.eval hx) ⟨.inl hz, hn _ ⟨ka.size, ka.defers, ka.knows⟩⟩
end
end Go.TJ
