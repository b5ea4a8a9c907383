/- Steps of the walk and of the plain law (TjH to TjGA). Conditions: as each lemma says. -/
import Derived.Laws.BitsLemmas
import Derived.Conc.Token
import Derived.Conc.CrowdBase
import Derived.Conc.HoldsTime
import Derived.Conc.AtomicLaws2
import Derived.Conc.MarkLaws
import Derived.Conc.ClockLaws
import Derived.Test.YtndllibjlfpndaaCKA
set_option linter.unusedSectionVars false
set_option linter.unusedVariables false
set_option linter.unusedSimpArgs false
namespace Go.TJ
section
variable [Dm]
open Go Go.Conc
variable {Γ : Type}
theorem binOp_bits {op : BinOp} {t : TypeId} {kd : IntKind} {a b : Int} (h : op = .and \/ op = .or) : binOp op t (.int kd a) (.int kd b) = pure (.int kd (bits op kd a b)) := by
  rcases h with rfl | rfl <;> simp [binOp, Op.intBits, bits]
section
variable {P : Program} {main : Bool} {S : Sit Γ} {f : FuncId} {n : Nat} {k : List Item} {env : Env} {ds : List Deferred} {h : Hp} {δ : Ix Γ} {R : Post Γ}
variable {ops : Array Oper} {l : List Oper} {d : Nat} {ty : TypeId} {pos : String} {af : Array Edge} {g : Option (Nat × Bool)}
theorem ER.andI {t t2 : TypeId} {x y : Operand} {kd : IntKind} {a b r : Int} (hw : wantE ops env g = some true) (hd : Nat.blt d n = true) (hx : ev env x = some (.int kd a)) (hy : ev env y = some (.int kd b)) (hr : bits .and kd a b = r)
    (hn : ER P main S f n ops l k ((d, .int kd r) :: env) ds h δ R) : ER P main S f n ops (⟨some d, .binOp .and t x y t2, ty, pos, af, g⟩ :: l) k env ds h δ R :=
  ER.binI hw hd hx hy (by rw [binOp_bits (.inl rfl), hr]) hn
variable {Z : Hp -> Prop} {zz : Nat} {m : Nat} {listed l' : Array Bool}
theorem EA.valQ (i : Nat) {op : Op} {Q : Value -> Hp -> Ix Γ -> Prop}
    (hi : ops[i]? = some ⟨some d, op, ty, pos, af, g⟩) (hr : Region.ready .any ops listed = [i]) (hl : listed.setIfInBounds i true = l') (hd : Nat.blt d n = true) (hw : wantE ops env g = some true)
    (hs : ∀ ρ : Operand -> Value, (∀ x v, ev env x = some v -> ρ x = v) -> ∀ X, SemW P S (execOp ρ ⟨some d, op, ty, pos, af, g⟩) h δ (fun nx h' δ' => ∃ v, nx = .value v /\ Q v h' δ') X)
    (hn : ∀ v h' δ', Q v h' δ' -> Z h' /\ EA P main S f n ops Z zz m l' k ((d, v) :: env) ds h' δ' R) : EA P main S f n ops Z zz (m + 1) listed k env ds h δ R := by
  refine EA.only i hi hr hl hw fun a ka => ?_
  refine semW_mono _ _ _ (hs a.eval (fun x v hx => ka.eval hx) _) ?_ (fun _ _ _ x => x)
  rintro nx h' δ' ⟨v, rfl, hq⟩
  exact ⟨.inr (hn v h' δ' hq).1, (hn v h' δ' hq).2 _ (ka.put v hd)⟩
theorem EA.append1 (i : Nat) {t e sz by_ : Nat} {z : Value} [Inf P e sz by_ z] [Und P t (.slice e)] {x y : Operand} {s : Value} {q c' b' e' : Nat} {fz : Nat × Nat} {cells new : List Value}
    (hi : ops[i]? = some ⟨some d, .call { callee := .builtin .append, args := #[x, y], argTypes := #[t, t] }, ty, pos, af, g⟩) (hr : Region.ready .any ops listed = [i]) (hl : listed.setIfInBounds i true = l') (hd : Nat.blt d n = true) (hw : wantE ops env g = some true)
    (hx : ev env x = some s) (hy : ev env y = some (.slice (some ⟨b', 0, none⟩) 1 c'))
    (hs : SliceO h s e sz q cells) (hb' : h[b']? = some (.cells new.toArray e' fz)) (hnew : new.length = sz) (hone : ∀ v ∈ new, OneCell v) (hfit : (q + 1) * by_ <= 140737488355328) (hm : q < 1000000000000) (hz : z.cells.size = sz) (hS : ∀ b o, blk s = some b -> ¬ S.still δ.g ⟨b, o, none⟩)
    (hn : ∀ s' h', SliceO h' s' e sz (q + 1) (cells ++ new) -> Upd (fun b => blk s = some b) h h' -> (∀ b, blk s' = some b -> blk s = some b \/ b = h.size) -> Z h' /\ EA P main S f n ops Z zz m l' k ((d, s') :: env) ds h' δ R) (hLo : S.lone δ.g := by first | exact True.intro | assumption) (hDu : ¬ S.dull δ.g := by first | exact (fun x => x) | assumption) :
    EA P main S f n ops Z zz (m + 1) listed k env ds h δ R := by
  refine EA.valQ (Q := fun s' h' δ' => δ' = δ /\ SliceO h' s' e sz (q + 1) (cells ++ new) /\ Upd (fun b => blk s = some b) h h' /\ (∀ b, blk s' = some b -> blk s = some b \/ b = h.size)) i hi hr hl hd hw (fun ρ hρ X => sem_builtin (vs := #[s, .slice (some ⟨b', 0, none⟩) 1 c']) (by simp [hρ x _ hx, hρ y _ hy]) fun cs => ?_) ?_
  · show SemW P S (Builtin.append_ #[t, t] ty #[s, .slice (some ⟨b', 0, none⟩) 1 c'] >>= fun v => pure (Next.value v)) h δ _ _
    exact semW_bind _ _ _ _ _ _ (sem_append1 hs rfl hb' hnew hone hfit hm hz hS (fun s' h' h1 h2 h3 => ⟨s', rfl, rfl, h1, h2, h3⟩))
  · rintro s' h' δ' ⟨rfl, h1, h2, h3⟩
    exact hn s' h' h1 h2 h3
theorem EA.tLen1 (i : Nat) {x : Operand} {t e : TypeId} [Und P t (.slice e)] {a : Option Addr} {len cap : Nat} (hi : ops[i]? = some ⟨some d, .call { callee := .builtin .len, args := #[x], argTypes := #[t] }, ty, pos, af, g⟩) (hs : takeB ops listed zz i = true) (hl : listed.setIfInBounds i true = l')
    (hd : Nat.blt d n = true) (hw : wantE ops env g = some true) (hx : ev env x = some (.slice a len cap)) (hZ : Z h)
    (hn : EA P main S f n ops Z zz m l' k ((d, .int .i64 len) :: env) ds h δ R) : EA P main S f n ops Z zz (m + 1) listed k env ds h δ R :=
  EA.tLen (t := t) i hi hs hl hd hw rfl hx hZ hn
theorem EA.tPickT (i : Nat) {c x y : Operand} {v : Value} (hi : ops[i]? = some ⟨some d, .pick c x y, ty, pos, af, g⟩) (hs : takeB ops listed zz i = true) (hl : listed.setIfInBounds i true = l')
    (hd : Nat.blt d n = true) (hw : wantE ops env g = some true) (hc : ev env c = some (.bool true)) (hx : ev env x = some v) (hZ : Z h)
    (hn : EA P main S f n ops Z zz m l' k ((d, v) :: env) ds h δ R) : EA P main S f n ops Z zz (m + 1) listed k env ds h δ R :=
  EA.take i hi hs hl hd hw (fun _ _ _ _ _ hρ _ hq => sem_pick (b := true) (hρ _ _ hc) (hρ _ _ hx) hq) hZ hn
theorem EA.tPickF (i : Nat) {c x y : Operand} {v : Value} (hi : ops[i]? = some ⟨some d, .pick c x y, ty, pos, af, g⟩) (hs : takeB ops listed zz i = true) (hl : listed.setIfInBounds i true = l')
    (hd : Nat.blt d n = true) (hw : wantE ops env g = some true) (hc : ev env c = some (.bool false)) (hx : ev env y = some v) (hZ : Z h)
    (hn : EA P main S f n ops Z zz m l' k ((d, v) :: env) ds h δ R) : EA P main S f n ops Z zz (m + 1) listed k env ds h δ R :=
  EA.take i hi hs hl hd hw (fun _ _ _ _ _ hρ _ hq => sem_pick (b := false) (hρ _ _ hc) (hρ _ _ hx) hq) hZ hn
theorem EA.tCmpT (i : Nat) {op : BinOp} {t t2 : TypeId} {x y : Operand} {kd : IntKind} {a b : Int} (hi : ops[i]? = some ⟨some d, .binOp op t x y t2, ty, pos, af, g⟩) (hs : takeB ops listed zz i = true) (hl : listed.setIfInBounds i true = l')
    (hd : Nat.blt d n = true) (hw : wantE ops env g = some true) (hc : isCmp op = true) (hx : ev env x = some (.int kd a)) (hy : ev env y = some (.int kd b)) (hp : cmpP op a b) (hZ : Z h)
    (hn : EA P main S f n ops Z zz m l' k ((d, .bool true) :: env) ds h δ R) : EA P main S f n ops Z zz (m + 1) listed k env ds h δ R :=
  EA.tBinI i hi hs hl hd hw hx hy (binOp_cmpT hc hp) hZ hn
theorem EA.tCmpF (i : Nat) {op : BinOp} {t t2 : TypeId} {x y : Operand} {kd : IntKind} {a b : Int} (hi : ops[i]? = some ⟨some d, .binOp op t x y t2, ty, pos, af, g⟩) (hs : takeB ops listed zz i = true) (hl : listed.setIfInBounds i true = l')
    (hd : Nat.blt d n = true) (hw : wantE ops env g = some true) (hc : isCmp op = true) (hx : ev env x = some (.int kd a)) (hy : ev env y = some (.int kd b)) (hp : ¬ cmpP op a b) (hZ : Z h)
    (hn : EA P main S f n ops Z zz m l' k ((d, .bool false) :: env) ds h δ R) : EA P main S f n ops Z zz (m + 1) listed k env ds h δ R :=
  EA.tBinI i hi hs hl hd hw hx hy (binOp_cmpF hc hp) hZ hn
theorem EA.tMul (i : Nat) {t t2 : TypeId} {x y : Operand} {kd : IntKind} {a b r : Int} (hi : ops[i]? = some ⟨some d, .binOp .mul t x y t2, ty, pos, af, g⟩) (hs : takeB ops listed zz i = true) (hl : listed.setIfInBounds i true = l')
    (hd : Nat.blt d n = true) (hw : wantE ops env g = some true) (hx : ev env x = some (.int kd a)) (hy : ev env y = some (.int kd b)) (hrr : kd.wrap (a * b) = r) (hZ : Z h)
    (hn : EA P main S f n ops Z zz m l' k ((d, .int kd r) :: env) ds h δ R) : EA P main S f n ops Z zz (m + 1) listed k env ds h δ R :=
  EA.tBinI i hi hs hl hd hw hx hy (by rw [binOp_mul, hrr]) hZ hn
end
end
section
variable [Dm]
open Go Go.Conc
variable {Γ : Type}
structure Mem (K : Type) where
  ok : K -> Prop
  B : K -> Nat
  O : K -> Obj
section
variable {K : Type}
def Mem.emp : Mem K := ⟨fun _ => False, fun _ => 0, fun _ => .cells #[] 0 (0, 0)⟩
structure Rep (h : Hp) (M : Mem K) : Prop where
  has : ∀ k, M.ok k -> h[M.B k]? = some (M.O k)
  inj : ∀ k k', M.ok k -> M.ok k' -> M.B k = M.B k' -> k = k'
variable {h h' : Hp} {M : Mem K}
theorem Rep.emp : Rep h (Mem.emp (K := K)) := ⟨fun _ x => x.elim, fun _ _ x => x.elim⟩
theorem Rep.lt (r : Rep h M) {k : K} (hk : M.ok k) : M.B k < h.size := lt_of_get (r.has k hk)
theorem Rep.get (r : Rep h M) {k : K} (hk : M.ok k) {o : Obj} (ho : M.O k = o) : h[M.B k]? = some o := ho ▸ r.has k hk
theorem Rep.cell (r : Rep h M) {k : K} (hk : M.ok k) {c : Array Value} {e : TypeId} {f : Nat × Nat} (ho : M.O k = .cells c e f) {i : Nat} {v : Value} (hv : c[i]? = some v) : hcell h ⟨M.B k, i, none⟩ = some v :=
  hcell_of (r.get hk ho) hv
theorem Rep.upd (r : Rep h M) {T : Nat -> Prop} (u : Upd T h h') (hT : ∀ k, M.ok k -> ¬ T (M.B k)) : Rep h' M := ⟨fun k hk => u.get (r.has k hk) (hT k hk), r.inj⟩
theorem Rep.congr (r : Rep h M) {M' : Mem K} (hok : ∀ k, M'.ok k -> M.ok k) (hB : ∀ k, M'.ok k -> M'.B k = M.B k) (hO : ∀ k, M'.ok k -> M'.O k = M.O k) : Rep h M' :=
  ⟨fun k hk => by rw [hB k hk, hO k hk]; exact r.has k (hok k hk), fun i j hi hj e => r.inj i j (hok i hi) (hok j hj) (by rw [<- hB i hi, <- hB j hj]; exact e)⟩
def Mem.Own (M : Mem K) (b : Nat) : Prop := ∃ k, M.ok k /\ b = M.B k
def Mem.Sl (M : Mem K) (k : K) (s : Value) (e : TypeId) (sz n : Nat) (cells : List Value) : Prop :=
  cells.length = n * sz /\ ((s = .slice none 0 0 /\ n = 0 /\ ¬ M.ok k) \/ (M.ok k /\ ∃ cap rest, s = .slice (some ⟨M.B k, 0, none⟩) n cap /\ n <= cap /\ rest.length = (cap - n) * sz /\ M.O k = .cells (cells ++ rest).toArray e (0, 0)))
theorem Mem.Sl.nil {k : K} {e sz : Nat} (hk : ¬ M.ok k) : M.Sl k (.slice none 0 0) e sz 0 [] := ⟨by simp, .inl ⟨rfl, rfl, hk⟩⟩
theorem Mem.Sl.slice (r : Rep h M) {k : K} {s : Value} {e sz n : Nat} {cells : List Value} (x : M.Sl k s e sz n cells) : SliceO h s e sz n cells := by
  refine ⟨x.1, x.2.imp (fun y => ⟨y.1, y.2.1⟩) ?_⟩
  rintro ⟨hk, cap, rest, rfl, h1, h2, h3⟩
  exact ⟨_, cap, rest, rfl, h1, h2, r.get hk h3⟩
theorem Mem.Sl.blk {k : K} {s : Value} {e sz n : Nat} {cells : List Value} (x : M.Sl k s e sz n cells) {b : Nat} (hb : TJ.blk s = some b) : M.ok k /\ b = M.B k := by
  rcases x.2 with ⟨rfl, _, _⟩ | ⟨hk, cap, rest, rfl, _⟩
  · cases hb
  · cases hb; exact ⟨hk, rfl⟩
theorem Mem.Sl.val {k : K} {s : Value} {e sz n : Nat} {cells : List Value} (x : M.Sl k s e sz n cells) : ∃ a cap, s = .slice a n cap := by
  rcases x.2 with ⟨rfl, rfl, _⟩ | ⟨_, cap, _, rfl, _⟩
  · exact ⟨_, _, rfl⟩
  · exact ⟨_, _, rfl⟩
theorem Mem.Sl.cell (r : Rep h M) {k : K} {s : Value} {e sz n : Nat} {cells : List Value} (x : M.Sl k s e sz n cells) (hn : 0 < n) : ∃ cap, s = .slice (some ⟨M.B k, 0, none⟩) n cap /\ M.ok k /\ (∀ j v, cells[j]? = some v -> hcell h ⟨M.B k, j, none⟩ = some v) /\ ∀ o, hfroz h ⟨M.B k, o, none⟩ = false := by
  rcases x.2 with ⟨_, rfl, _⟩ | ⟨hk, cap, rest, rfl, h1, h2, h3⟩
  · omega
  · refine ⟨cap, rfl, hk, fun j v hv => r.cell hk h3 ?_, fun o => hfroz_of (r.get hk h3)⟩
    have hj : j < cells.length := by
      rcases Nat.lt_or_ge j cells.length with y | y
      · exact y
      · rw [List.getElem?_eq_none y] at hv; cases hv
    simp only [List.getElem?_toArray, List.getElem?_append_left hj, hv]
theorem Mem.Sl.congr {M' : Mem K} {k : K} {s : Value} {e sz n : Nat} {cells : List Value} (x : M.Sl k s e sz n cells) (hok : M'.ok k ↔ M.ok k) (hB : M'.B k = M.B k) (hO : M'.O k = M.O k) : M'.Sl k s e sz n cells := by
  unfold Mem.Sl at *
  rw [hok, hB, hO]; exact x
end
section
variable {K : Type} [DecidableEq K] {h h' : Hp} {M : Mem K}
def ut {α : Type} (f : K -> α) (k : K) (x : α) : K -> α := fun j => if j = k then x else f j
theorem ut_same {α : Type} (f : K -> α) (k : K) (x : α) : ut f k x k = x := by simp [ut]
theorem ut_ne {α : Type} (f : K -> α) {k j : K} (x : α) (h : j ≠ k) : ut f k x j = f j := by simp [ut, h]
def Mem.set (M : Mem K) (k : K) (o : Obj) : Mem K := ⟨M.ok, M.B, ut M.O k o⟩
def Mem.put (M : Mem K) (k : K) (b : Nat) (o : Obj) : Mem K := ⟨fun x => x = k \/ M.ok x, ut M.B k b, ut M.O k o⟩
theorem Rep.set (r : Rep h M) {k : K} (hk : M.ok k) (o : Obj) : Rep (h.setIfInBounds (M.B k) o) (M.set k o) := by
  refine ⟨fun j hj => ?_, r.inj⟩
  show (h.setIfInBounds (M.B k) o)[M.B j]? = some (ut M.O k o j)
  by_cases e : j = k
  · subst e; rw [ut_same]; exact get_set_same (r.has j hj)
  · rw [ut_ne _ _ e, get_set_ne _ (fun x => e (r.inj _ _ hj hk x.symm))]
    exact r.has j hj
theorem Rep.hset (r : Rep h M) {k : K} (hk : M.ok k) {c : Array Value} {e : TypeId} {f : Nat × Nat} (ho : M.O k = .cells c e f) (i : Nat) (v : Value) : Rep (hset h ⟨M.B k, i, none⟩ v) (M.set k (.cells (c.setIfInBounds i v) e f)) := by
  have e1 : TJ.hset h ⟨M.B k, i, none⟩ v = h.setIfInBounds (M.B k) (.cells (c.setIfInBounds i v) e f) := by
    apply Array.ext_getElem?
    intro j
    by_cases hj : M.B k = j
    · subst hj
      rw [get_set_same (r.has k hk)]
      exact hset_same h ⟨M.B k, i, none⟩ v (r.get hk ho) rfl
    · rw [get_set_ne _ hj, hset_ne _ _ _ hj]
  rw [e1]
  exact r.set hk _
theorem Rep.put (r : Rep h M) (k : K) (o : Obj) : Rep (h.push o) (M.put k h.size o) := by
  refine ⟨fun j hj => ?_, fun i j hi hj e => ?_⟩
  · show (h.push o)[ut M.B k h.size j]? = some (ut M.O k o j)
    by_cases e : j = k
    · subst e; rw [ut_same, ut_same]; exact get_push_new h o
    · rw [ut_ne _ _ e, ut_ne _ _ e]
      exact get_push _ (r.has j (hj.resolve_left e))
  · change ut M.B k h.size i = ut M.B k h.size j at e
    by_cases ei : i = k <;> by_cases ej : j = k
    · rw [ei, ej]
    · subst ei
      rw [ut_same, ut_ne _ _ ej] at e
      have := r.lt (hj.resolve_left ej)
      omega
    · subst ej
      rw [ut_same, ut_ne _ _ ei] at e
      have := r.lt (hi.resolve_left ei)
      omega
    · rw [ut_ne _ _ ei, ut_ne _ _ ej] at e
      exact r.inj i j (hi.resolve_left ei) (hj.resolve_left ej) e
theorem Mem.Sl.set {k j : K} {s : Value} {e sz n : Nat} {cells : List Value} (x : M.Sl k s e sz n cells) (hj : k ≠ j) (o : Obj) : (M.set j o).Sl k s e sz n cells := x.congr Iff.rfl rfl (ut_ne _ _ hj)
theorem Mem.Sl.put {k j : K} {s : Value} {e sz n : Nat} {cells : List Value} (x : M.Sl k s e sz n cells) (hj : k ≠ j) (b : Nat) (o : Obj) : (M.put j b o).Sl k s e sz n cells := x.congr ⟨fun y => y.resolve_left hj, .inr⟩ (ut_ne _ _ hj) (ut_ne _ _ hj)
theorem Rep.app (r : Rep h M) {k : K} {s s' : Value} {e sz n : Nat} {cells new : List Value} (x : M.Sl k s e sz n cells) (hs : SliceO h' s' e sz (n + 1) (cells ++ new)) (u : Upd (fun b => TJ.blk s = some b) h h') (hb : ∀ b, TJ.blk s' = some b -> TJ.blk s = some b \/ b = h.size) :
    ∃ b o, Rep h' (M.put k b o) /\ (M.put k b o).Sl k s' e sz (n + 1) (cells ++ new) /\ ((M.ok k /\ b = M.B k) \/ h.size <= b) /\ b < h'.size := by
  obtain ⟨hl, ⟨_, hn⟩ | ⟨b, cap, rest, rfl, h1, h2, h3⟩⟩ := hs
  · omega
  have hold : ∀ j, j ≠ k -> M.ok j -> M.B j ≠ b /\ h'[M.B j]? = some (M.O j) := fun j hj ho => by
    have hlt := r.lt ho
    have hnb : ¬ TJ.blk s = some (M.B j) := fun y => by
      obtain ⟨hk, e⟩ := x.blk y
      exact hj (r.inj _ _ ho hk e)
    refine ⟨fun e => ?_, u.get (r.has j ho) hnb⟩
    rcases hb b rfl with y | y
    · exact hnb (e ▸ y)
    · omega
  refine ⟨b, _, ⟨fun j hj => ?_, fun i j hi hj e => ?_⟩, ⟨hl, .inr ⟨.inl rfl, cap, rest, ?_, h1, h2, ut_same _ _ _⟩⟩, ?_, lt_of_get h3⟩
  · show h'[ut M.B k b j]? = some (ut M.O k _ j)
    by_cases e : j = k
    · subst e; rw [ut_same, ut_same]; exact h3
    · rw [ut_ne _ _ e, ut_ne _ _ e]
      exact (hold j e (hj.resolve_left e)).2
  · change ut M.B k b i = ut M.B k b j at e
    by_cases ei : i = k <;> by_cases ej : j = k
    · rw [ei, ej]
    · subst ei
      rw [ut_same, ut_ne _ _ ej] at e
      exact absurd e.symm (hold j ej (hj.resolve_left ej)).1
    · subst ej
      rw [ut_same, ut_ne _ _ ei] at e
      exact absurd e (hold i ei (hi.resolve_left ei)).1
    · rw [ut_ne _ _ ei, ut_ne _ _ ej] at e
      exact r.inj i j (hi.resolve_left ei) (hj.resolve_left ej) e
  · show Value.slice (some ⟨b, 0, none⟩) (n + 1) cap = Value.slice (some ⟨ut M.B k b k, 0, none⟩) (n + 1) cap
    rw [ut_same]
  · rcases hb b rfl with y | y
    · exact .inl (x.blk y)
    · exact .inr (by omega)
end
def Free (S : Sit Γ) (γ : Γ) (T : Nat -> Prop) : Prop := ∀ b o, T b -> ¬ S.still γ ⟨b, o, none⟩
end
section
variable [Dm]
open Go Go.Conc
open Go.ConcN (RelBy)
structure Claims where
  own : Nat -> Loc -> Prop
  rd : Nat -> Loc -> Prop
  at_ : Loc -> Prop
  bag : Addr -> Loc -> Prop
structure Claims.Ok (c : Claims) : Prop where
  oo : ∀ i j l, c.own i l -> c.own j l -> i = j
  orr : ∀ i j l, c.own i l -> c.rd j l -> i = j
  oa : ∀ i l, c.own i l -> ¬ c.at_ l
  ra : ∀ i l, c.rd i l -> ¬ c.at_ l
  bo : ∀ i a l, c.own i l -> ¬ c.bag a l
  br : ∀ i a l, c.rd i l -> ¬ c.bag a l
  ba : ∀ a l, c.bag a l -> ¬ c.at_ l
  bb : ∀ a a' l, c.bag a l -> c.bag a' l -> a = a'
def TouchOk (c : Claims) (i : Nat) (b : Touch) : Prop :=
  (b.kind = .said -> i = 0) /\ (c.own i b.loc \/ (b.write = false /\ c.rd i b.loc /\ b.kind ≠ .said) \/ (b.kind = .atomic /\ c.at_ b.loc) \/ (i = 0 /\ b.kind = .said /\ c.at_ b.loc))
def Untouched (t : Trace) (l : Loc) : Prop := ∀ x a, touchAt t x = some a -> a.loc ≠ l
def KnownAll (n : Nat) (t : Trace) (l : Loc) : Prop := ∀ i, i < n -> ∀ x a, touchAt t x = some a -> a.loc = l -> Knows t i x
structure Tf (ad : Addr) (wgL : Loc -> Prop) (n : Nat) (c : Claims) (rl : Nat -> Prop) (jn : Prop) (t : Trace) : Prop where
  clean : ∀ said, ¬ Race said t
  own : ∀ i, i < n -> ∀ x a, touchAt t x = some a -> c.own i a.loc -> Knows t i x
  rd : ∀ i, i < n -> ∀ x a, touchAt t x = some a -> a.write = true -> c.rd i a.loc -> Knows t i x
  at_ : ∀ i, i < n -> ∀ x a, touchAt t x = some a -> a.kind = .plain -> c.at_ a.loc -> Knows t i x
  said : ∀ x a, touchAt t x = some a -> a.kind = .said -> t.g? x = some 0
  rel : ∀ i, 0 < i -> i < n -> rl i -> ∃ r, RelBy ad t i r /\ ∀ x a, r < x -> t.g? x = some i -> touchAt t x = some a -> wgL a.loc /\ a.kind = .atomic
  norel : ∀ a, NoRelease a t
  gs : ∀ x g, t.g? x = some g -> g < n
  acq : jn -> ∃ q, t.act? q = some (.mark (.acquire ad)) /\ t.g? q = some 0 /\ t.heard q /\ ∀ i, 0 < i -> i < n -> ∃ r, RelBy ad t i r /\ r < q
  jr : jn -> ∀ i, 0 < i -> i < n -> rl i
  bag : ∀ a l, c.bag a l -> KnownAll n t l \/ ∃ p, LastWrite t a p /\ t.heard p /\ PermAt t l p
section
variable {ad : Addr} {wgL : Loc -> Prop} {n : Nat} {c c' : Claims} {rl rl' : Nat -> Prop} {jn : Prop} {t u : Trace}
theorem touch_bag (hc : c.Ok) {i : Nat} {b : Touch} (h : TouchOk c i b) {a : Addr} : ¬ c.bag a b.loc := fun hb => by
  rcases h.2 with h | ⟨_, h, _⟩ | ⟨_, h⟩ | ⟨_, _, h⟩
  · exact hc.bo _ _ _ h hb
  · exact hc.br _ _ _ h hb
  · exact hc.ba _ _ hb h
  · exact hc.ba _ _ hb h
theorem bag_app {a : Addr} {l : Loc} (h : KnownAll n t l \/ ∃ p, LastWrite t a p /\ t.heard p /\ PermAt t l p) (h1 : ∀ op ∈ u, ∀ b, op.act.touch? = some b -> b.loc ≠ l) (h2 : ∀ op ∈ u, ∀ s, op.act ≠ .access ⟨.cell a, true, s⟩) : KnownAll n (t ++ u) l \/ ∃ p, LastWrite (t ++ u) a p /\ (t ++ u).heard p /\ PermAt (t ++ u) l p := by
  rcases h with h | ⟨p, k1, k2, k3⟩
  · refine .inl fun i hi x b hx e => ?_
    obtain ⟨op, ho, hoa⟩ := touch_of hx
    rcases getElem?_append_cases ho with ⟨_, ho'⟩ | ⟨_, hou⟩
    · exact (h i hi x b (by rw [touchAt_of ho']; exact hoa) e).app u
    · exact absurd e (h1 op hou b hoa)
  · exact .inr ⟨p, k1.app h2, (heard_old (lt_of_act? k1.1)).2 k2, k3.app h1⟩
theorem touchAt_g {x : Nat} {a : Touch} (h : touchAt t x = some a) : ∃ op, t[x]? = some op /\ op.act.touch? = some a /\ t.g? x = some op.g := by
  obtain ⟨op, h1, h2⟩ := touch_of h
  exact ⟨op, h1, h2, g?_of h1⟩
theorem Tf.app (F : Tf ad wgL n c rl jn t) (hc : c.Ok) {i : Nat} (hi : i < n) (hu : ∀ op ∈ u, op.g = i) (hs : ∀ op ∈ u, ∀ b, op.act.touch? = some b -> TouchOk c i b) (hn : ∀ a, ∀ op ∈ u, op.act ≠ .mark (.release a))
    (hr : 0 < i -> rl i -> (∀ x, t.size <= x -> (t ++ u).g? x = some i -> ¬ (t ++ u).counts x) /\ ∀ op ∈ u, ∀ b, op.act.touch? = some b -> wgL b.loc /\ b.kind = .atomic) (hbw : ∀ a l, c.bag a l -> ∀ op ∈ u, ∀ s, op.act ≠ .access ⟨.cell a, true, s⟩) : Tf ad wgL n c rl jn (t ++ u) := by
  have hrel : ∀ j, 0 < j -> rl j -> ∀ r, RelBy ad t j r -> RelBy ad (t ++ u) j r := by
    intro j hj0 hjr r hR
    by_cases e : j = i
    · subst e; exact hR.app (hr hj0 hjr).1
    · exact hR.appOther hu (fun x => e x.symm)
  refine ⟨fun said => noRace_append (F.clean said) hu fun x a ha op hop b hb hcf => ?_, fun j hj x a ha ho => ?_, fun j hj x a ha hw ho => ?_, fun j hj x a ha hk ho => ?_, fun x a ha hk => ?_, fun j hj0 hj hrj => ?_, fun a => (F.norel a).app (hn a), fun x g hg => ?_, fun hjn => ?_, F.jr, fun a l hl => bag_app (F.bag a l hl) (fun op hop b hb e => touch_bag hc (hs op hop b hb) (e ▸ hl)) (hbw a l hl)⟩
  · obtain ⟨hsd, h⟩ := hs op hop b hb
    rcases h with h | ⟨hw, h, hk⟩ | ⟨hk, h⟩ | ⟨rfl, hk, h⟩
    · exact F.own i hi x a ha (hcf.1 ▸ h)
    · rcases hcf.2.2.1 with y | y
      · exact F.rd i hi x a ha y (hcf.1 ▸ h)
      · rw [hw] at y; cases y
    · rcases hcf.2.2.2 with y | y | ⟨_, _, y⟩
      · exact F.at_ i hi x a ha y (hcf.1 ▸ h)
      · rw [hk] at y; cases y
      · rw [hk] at y; cases y
    · rcases hcf.2.2.2 with y | y | ⟨_, y, _⟩
      · exact F.at_ 0 hi x a ha y (hcf.1 ▸ h)
      · rw [hk] at y; cases y
      · obtain ⟨op', h1, _, h3⟩ := touchAt_g ha
        have := F.said x a ha y
        rw [h3] at this
        rw [<- Option.some.inj this]
        exact knows_own h1
  · obtain ⟨op, hx, hxa⟩ := touch_of ha
    rcases getElem?_append_cases hx with ⟨_, hx'⟩ | ⟨_, hxu⟩
    · exact (F.own j hj x a (by rw [touchAt_of hx']; exact hxa) ho).app u
    · obtain ⟨_, h⟩ := hs op hxu a hxa
      have : j = i := by
        rcases h with h | ⟨_, h, _⟩ | ⟨_, h⟩ | ⟨_, _, h⟩
        · exact hc.oo _ _ _ ho h
        · exact hc.orr _ _ _ ho h
        · exact absurd h (hc.oa _ _ ho)
        · exact absurd h (hc.oa _ _ ho)
      subst this
      have := knows_own hx
      rwa [hu op hxu] at this
  · obtain ⟨op, hx, hxa⟩ := touch_of ha
    rcases getElem?_append_cases hx with ⟨_, hx'⟩ | ⟨_, hxu⟩
    · exact (F.rd j hj x a (by rw [touchAt_of hx']; exact hxa) hw ho).app u
    · obtain ⟨_, h⟩ := hs op hxu a hxa
      have : j = i := by
        rcases h with h | ⟨hw', h, _⟩ | ⟨_, h⟩ | ⟨_, _, h⟩
        · exact (hc.orr _ _ _ h ho).symm
        · rw [hw] at hw'; cases hw'
        · exact absurd h (hc.ra _ _ ho)
        · exact absurd h (hc.ra _ _ ho)
      subst this
      have := knows_own hx
      rwa [hu op hxu] at this
  · obtain ⟨op, hx, hxa⟩ := touch_of ha
    rcases getElem?_append_cases hx with ⟨_, hx'⟩ | ⟨_, hxu⟩
    · exact (F.at_ j hj x a (by rw [touchAt_of hx']; exact hxa) hk ho).app u
    · obtain ⟨_, h⟩ := hs op hxu a hxa
      rcases h with h | ⟨_, h, _⟩ | ⟨hk', h⟩ | ⟨_, hk', h⟩
      · exact absurd ho (hc.oa _ _ h)
      · exact absurd ho (hc.ra _ _ h)
      · rw [hk] at hk'; cases hk'
      · rw [hk] at hk'; cases hk'
  · obtain ⟨op, hx, hxa⟩ := touch_of ha
    rcases getElem?_append_cases hx with ⟨hlt, hx'⟩ | ⟨_, hxu⟩
    · rw [g?_old hlt]; exact F.said x a (by rw [touchAt_of hx']; exact hxa) hk
    · rw [g?_of hx, hu op hxu, (hs op hxu a hxa).1 hk]
  · obtain ⟨r, hR, h2⟩ := F.rel j hj0 hj hrj
    refine ⟨r, hrel j hj0 hrj r hR, fun x a hx hg ha => ?_⟩
    obtain ⟨op, ho, hoa⟩ := touch_of ha
    rcases getElem?_append_cases ho with ⟨hlt, ho'⟩ | ⟨_, hou⟩
    · exact h2 x a hx (by rwa [g?_old hlt] at hg) (by rw [touchAt_of ho']; exact hoa)
    · rw [g?_of ho, hu op hou] at hg
      obtain rfl := Option.some.inj hg
      exact (hr hj0 hrj).2 op hou a hoa
  · obtain ⟨op, ho, hog⟩ := Option.map_eq_some_iff.1 hg
    rcases getElem?_append_cases ho with ⟨_, ho'⟩ | ⟨_, hou⟩
    · exact F.gs x g (by rw [g?_of ho', hog])
    · rw [<- hog, hu op hou]; exact hi
  · obtain ⟨q, h1, h2, h3, h4⟩ := F.acq hjn
    have hq := lt_of_act? h1
    exact ⟨q, by rw [act?_old hq]; exact h1, by rw [g?_old hq]; exact h2, (heard_old hq).2 h3, fun j hj0 hj => let ⟨r, hR, hlt⟩ := h4 j hj0 hj; ⟨r, hrel j hj0 (F.jr hjn j hj0 hj) r hR, hlt⟩⟩
theorem Tf.weak (F : Tf ad wgL n c rl jn t) (ho : ∀ i, i < n -> ∀ l, c'.own i l -> c.own i l \/ Untouched t l) (hr : ∀ i, i < n -> ∀ l, c'.rd i l -> c.rd i l \/ c.own i l \/ Untouched t l) (ha : ∀ i, i < n -> ∀ l, c'.at_ l -> c.at_ l \/ c.own i l \/ Untouched t l) (hb : ∀ a l, c'.bag a l -> c.bag a l \/ KnownAll n t l) :
    Tf ad wgL n c' rl jn t :=
  ⟨F.clean, fun i hi x a hx h => (ho i hi _ h).elim (F.own i hi x a hx) fun z => absurd rfl (z x a hx),
    fun i hi x a hx hw h => (hr i hi _ h).elim (F.rd i hi x a hx hw) fun z => z.elim (F.own i hi x a hx) fun z => absurd rfl (z x a hx),
    fun i hi x a hx hk h => (ha i hi _ h).elim (F.at_ i hi x a hx hk) fun z => z.elim (F.own i hi x a hx) fun z => absurd rfl (z x a hx), F.said, F.rel, F.norel, F.gs, F.acq, F.jr, fun a l h => (hb a l h).elim (F.bag a l) .inl⟩
theorem Tf.relEq (F : Tf ad wgL n c rl jn t) (h : ∀ i, 0 < i -> i < n -> (rl' i ↔ rl i)) : Tf ad wgL n c rl' jn t :=
  ⟨F.clean, F.own, F.rd, F.at_, F.said, fun i h0 hi hr => F.rel i h0 hi ((h i h0 hi).1 hr), F.norel, F.gs, F.acq, fun hj i h0 hi => (h i h0 hi).2 (F.jr hj i h0 hi), F.bag⟩
theorem Tf.anew (F : Tf ad wgL 1 c rl jn t) {ad' : Addr} {wgL' : Loc -> Prop} (_hj : ¬ jn) : Tf ad' wgL' 1 c rl' False t :=
  ⟨F.clean, F.own, F.rd, F.at_, F.said, fun i h0 hi _ => by omega, F.norel, F.gs, fun z => z.elim, fun z => z.elim, F.bag⟩
theorem Tf.hire (F : Tf ad wgL n c rl jn t) (hn : 0 < n) (hd : Deaf t 0 = 0) (hj : ¬ jn) (hrel : ¬ rl n) (fh : FuncId) (ph : String) (fc : FuncId)
    (ho : ∀ i, i < n -> ∀ l, c'.own i l -> c.own i l) (hr : ∀ i, i < n -> ∀ l, c'.rd i l -> c.rd i l \/ c.own i l) (ha : ∀ l, c'.at_ l -> c.at_ l) (hon : ∀ l, c'.own n l -> c.own 0 l) (hrn : ∀ l, c'.rd n l -> c.own 0 l \/ c.rd 0 l) (hbg : ∀ a l, c'.bag a l -> c.bag a l) :
    Tf ad wgL (n + 1) c' rl jn (t ++ #[{ g := 0, fn := fh, pos := ph, act := .go n }, { g := n, fn := fc, pos := ph, act := .start }]) := by
  generalize hu : (#[{ g := 0, fn := fh, pos := ph, act := .go n }, { g := n, fn := fc, pos := ph, act := .start }] : Trace) = u
  have hm : ∀ op ∈ u, op = { g := 0, fn := fh, pos := ph, act := .go n } \/ op = { g := n, fn := fc, pos := ph, act := .start } := by
    intro op hop
    subst hu
    simpa using hop
  have hnt : ∀ op ∈ u, op.act.touch? = none := by
    intro op hop
    rcases hm op hop with rfl | rfl <;> rfl
  have hq : ∀ g, ∀ op ∈ u, ∀ d, deafStep g d op = d := by
    intro g op hop d
    rcases hm op hop with rfl | rfl <;> rfl
  have e0 : (t ++ u)[t.size]? = some { g := 0, fn := fh, pos := ph, act := .go n } := by subst hu; simp
  have e1 : (t ++ u)[t.size + 1]? = some { g := n, fn := fc, pos := ph, act := .start } := by subst hu; simp
  have hdn : Deaf t n = 0 := Go.ConcN.Deaf_absent fun i op hi e => by
    have := F.gs i n (by rw [g?_of hi, e])
    omega
  have edge : HappensBefore (t ++ u) t.size (t.size + 1) :=
    Relation.TransGen.single (.inr ⟨.spawn (act?_of e0) (act?_of e1) (g?_of e1), ⟨0, g?_of e0, by rw [deaf_old (Nat.le_refl _)]; exact hd⟩, ⟨n, g?_of e1, by rw [deaf_quiet (hq n) 1 (by subst hu; simp)]; exact hdn⟩⟩)
  have old : ∀ {x : Nat} {a : Touch}, touchAt (t ++ u) x = some a -> touchAt t x = some a /\ x < t.size := by
    intro x a hx
    obtain ⟨z, hz, hza⟩ := touch_of hx
    rcases getElem?_append_cases hz with ⟨hlt, hz'⟩ | ⟨_, hzu⟩
    · exact ⟨by rw [touchAt_of hz']; exact hza, hlt⟩
    · rw [hnt z hzu] at hza; cases hza
  have hk : ∀ x, Knows t 0 x -> Knows (t ++ u) n x := fun x hk => ⟨t.size + 1, _, e1, rfl, .inr ((hk.hb_new (Nat.le_refl _) e0 rfl).trans edge)⟩
  refine ⟨fun said => noRace_appendMute (F.clean said) hnt, fun i hi x a hx h => ?_, fun i hi x a hx hw h => ?_, fun i hi x a hx hp h => ?_, fun x a hx hs => ?_, fun i h0 hi hri => ?_, fun a => (F.norel a).app fun op hop => by rcases hm op hop with rfl | rfl <;> exact nofun, fun x g hg => ?_, fun hj' => absurd hj' hj, fun hj' => absurd hj' hj, fun a l hl => ?_⟩
  · obtain ⟨hx', _⟩ := old hx
    rcases Nat.lt_or_ge i n with hlt | hge
    · exact (F.own i hlt x a hx' (ho i hlt _ h)).app u
    · obtain rfl : i = n := by omega
      exact hk x (F.own 0 hn x a hx' (hon _ h))
  · obtain ⟨hx', _⟩ := old hx
    rcases Nat.lt_or_ge i n with hlt | hge
    · exact ((hr i hlt _ h).elim (F.rd i hlt x a hx' hw) (F.own i hlt x a hx')).app u
    · obtain rfl : i = n := by omega
      exact hk x ((hrn _ h).elim (F.own 0 hn x a hx') (F.rd 0 hn x a hx' hw))
  · obtain ⟨hx', _⟩ := old hx
    rcases Nat.lt_or_ge i n with hlt | hge
    · exact (F.at_ i hlt x a hx' hp (ha _ h)).app u
    · obtain rfl : i = n := by omega
      exact hk x (F.at_ 0 hn x a hx' hp (ha _ h))
  · obtain ⟨hx', hlt⟩ := old hx
    rw [g?_old hlt]; exact F.said x a hx' hs
  · have hlt : i < n := by
      rcases Nat.lt_or_ge i n with y | y
      · exact y
      · obtain rfl : i = n := by omega
        exact absurd hri hrel
    obtain ⟨r, hR, h2⟩ := F.rel i h0 hlt hri
    refine ⟨r, Go.ConcN.RelBy.app hR fun x hx hg hcnt => ?_, fun x a hx hg ha' => ?_⟩
    · obtain ⟨y, hy, _⟩ := hcnt
      have := (@old x y hy).2
      omega
    · obtain ⟨hx', hlt'⟩ := old ha'
      exact h2 x a hx (by rwa [g?_old hlt'] at hg) hx'
  · obtain ⟨op, ho', hog⟩ := Option.map_eq_some_iff.1 hg
    rcases getElem?_append_cases ho' with ⟨_, ho''⟩ | ⟨_, hou⟩
    · have := F.gs x g (by rw [g?_of ho'', hog])
      omega
    · rcases hm op hou with rfl | rfl
      · rw [<- hog]; exact Nat.lt_succ_of_lt hn
      · rw [<- hog]; exact Nat.lt_succ_self n
  · rcases F.bag a l (hbg a l hl) with h | h
    · refine .inl fun i hi x b hx e => ?_
      have hx' := (old hx).1
      rcases Nat.lt_or_ge i n with hlt | hge
      · exact (h i hlt x b hx' e).app u
      · obtain rfl : i = n := by omega
        exact hk x (h 0 hn x b hx' e)
    · exact bag_app (.inr h) (fun op hop b hb => by rw [hnt op hop] at hb; cases hb) (fun op hop s => by rcases hm op hop with rfl | rfl <;> exact nofun)
theorem Tf.release (F : Tf ad wgL n c rl jn t) {i : Nat} (h0 : 0 < i) (hi : i < n) (hd : Deaf t i = 0) (hj : ¬ jn) (fn : FuncId) (pos : String) :
    Tf ad wgL n c (fun j => rl j \/ j = i) jn (t ++ MemOp.ofEvents i fn pos #[Go.ConcR.mk (.releaseMerge ad)]) := by
  generalize hu : MemOp.ofEvents i fn pos #[Go.ConcR.mk (.releaseMerge ad)] = u
  have hm : ∀ op ∈ u, op = { g := i, fn, pos, act := .mark (.releaseMerge ad) } := by
    intro op hop
    subst hu
    obtain ⟨e, he, rfl⟩ := Go.Conc.mem_ofEvents hop
    simp at he
    subst he
    rfl
  have hug : ∀ op ∈ u, op.g = i := fun op hop => by rw [hm op hop]
  have hnt : ∀ op ∈ u, op.act.touch? = none := fun op hop => by rw [hm op hop]; rfl
  have old : ∀ {x : Nat} {a : Touch}, touchAt (t ++ u) x = some a -> touchAt t x = some a /\ x < t.size := by
    intro x a hx
    obtain ⟨z, hz, hza⟩ := touch_of hx
    rcases getElem?_append_cases hz with ⟨hlt, hz'⟩ | ⟨_, hzu⟩
    · exact ⟨by rw [touchAt_of hz']; exact hza, hlt⟩
    · rw [hnt z hzu] at hza; cases hza
  refine ⟨fun said => noRace_appendMute (F.clean said) hnt, fun j hj x a hx h => (F.own j hj x a (old hx).1 h).app u, fun j hj x a hx hw h => (F.rd j hj x a (old hx).1 hw h).app u, fun j hj x a hx hk h => (F.at_ j hj x a (old hx).1 hk h).app u,
    fun x a hx hk => (by rw [g?_old (old hx).2]; exact F.said x a (old hx).1 hk), fun j hj0 hj hr => ?_, fun a => (F.norel a).app fun op hop => by rw [hm op hop]; exact nofun, fun x g hg => ?_, fun hjn => absurd hjn hj, fun hjn => absurd hjn hj, fun a l hl => bag_app (F.bag a l hl) (fun op hop b hb => by rw [hnt op hop] at hb; cases hb) (fun op hop s => by rw [hm op hop]; exact nofun)⟩
  · by_cases e : j = i
    · subst e
      refine ⟨t.size, by subst hu; exact RelBy.new hd fn pos, fun x a hx hg ha => ?_⟩
      have := (old ha).2
      omega
    · obtain ⟨r, hR, h2⟩ := F.rel j hj0 hj (hr.resolve_right e)
      exact ⟨r, hR.appOther hug (fun x => e x.symm), fun x a hx hg ha => h2 x a hx (by rwa [g?_old (old ha).2] at hg) (old ha).1⟩
  · obtain ⟨op, ho', hog⟩ := Option.map_eq_some_iff.1 hg
    rcases getElem?_append_cases ho' with ⟨_, ho''⟩ | ⟨_, hou⟩
    · exact F.gs x g (by rw [g?_of ho'', hog])
    · rw [<- hog, hug op hou]; exact hi
theorem Tf.join (F : Tf ad wgL n c rl jn t) (hn : 0 < n) (hd : Deaf t 0 = 0) (hj : ∀ i, 0 < i -> i < n -> rl i) (fn : FuncId) (pos : String)
    (ho : ∀ i l, c'.own i l -> i = 0 /\ ¬ wgL l) (hr : ∀ i l, ¬ c'.rd i l) (ha : ∀ l, c'.at_ l -> c.at_ l) (hbg : ∀ a l, ¬ c'.bag a l) :
    Tf ad wgL n c' rl True (t ++ MemOp.ofEvents 0 fn pos #[Go.ConcR.mk (.acquire ad)]) := by
  generalize hu : MemOp.ofEvents 0 fn pos #[Go.ConcR.mk (.acquire ad)] = u
  have hu1 : u = #[{ g := 0, fn, pos, act := .mark (.acquire ad) }] := by subst hu; rw [ofEvents_eq]; simp [Go.ConcR.mk, MemAct.ofEvent]
  have hm : ∀ op ∈ u, op = { g := 0, fn, pos, act := .mark (.acquire ad) } := by intro op hop; rw [hu1] at hop; simpa using hop
  have hug : ∀ op ∈ u, op.g = 0 := fun op hop => by rw [hm op hop]
  have hnt : ∀ op ∈ u, op.act.touch? = none := fun op hop => by rw [hm op hop]; rfl
  have old : ∀ {x : Nat} {a : Touch}, touchAt (t ++ u) x = some a -> touchAt t x = some a /\ x < t.size := by
    intro x a hx
    obtain ⟨z, hz, hza⟩ := touch_of hx
    rcases getElem?_append_cases hz with ⟨hlt, hz'⟩ | ⟨_, hzu⟩
    · exact ⟨by rw [touchAt_of hz']; exact hza, hlt⟩
    · rw [hnt z hzu] at hza; cases hza
  have e0 : (t ++ u)[t.size]? = some { g := 0, fn, pos, act := .mark (.acquire ad) } := by rw [hu1]; simp
  have hh : (t ++ u).heard t.size := ⟨0, g?_of e0, by rw [deaf_old (Nat.le_refl _)]; exact hd⟩
  have hnr : ∀ a, NoRelease a (t ++ u) := fun a => (F.norel a).app fun op hop => by rw [hm op hop]; exact nofun
  have edge : ∀ i r, RelBy ad (t ++ u) i r -> r < t.size -> HappensBefore (t ++ u) r t.size := fun i r hR hlt =>
    .single (.inr ⟨.marked hlt (.inr hR.act) (act?_of e0) (fun k _ _ => hnr ad k), hR.heard, hh⟩)
  have hrel : ∀ i, 0 < i -> i < n -> ∃ r, RelBy ad (t ++ u) i r /\ r < t.size /\ ∀ x a, r < x -> t.g? x = some i -> touchAt t x = some a -> wgL a.loc /\ a.kind = .atomic := fun i h0 hi => by
    obtain ⟨r, hR, h2⟩ := F.rel i h0 hi (hj i h0 hi)
    exact ⟨r, hR.appOther hug (by omega), lt_of_act? hR.act, h2⟩
  refine ⟨fun said => noRace_appendMute (F.clean said) hnt, fun j hj' x a hx h => ?_, fun j hj' x a hx hw h => absurd h (hr _ _), fun j hj' x a hx hk h => (F.at_ j hj' x a (old hx).1 hk (ha _ h)).app u,
    fun x a hx hk => (by rw [g?_old (old hx).2]; exact F.said x a (old hx).1 hk), fun j hj0 hj' _ => ?_, hnr, fun x g hg => ?_, fun _ => ⟨t.size, act?_of e0, g?_of e0, hh, fun i h0 hi => let ⟨r, h1, h2, _⟩ := hrel i h0 hi; ⟨r, h1, h2⟩⟩, fun _ => hj, fun a l hl => absurd hl (hbg a l)⟩
  · obtain ⟨rfl, hw⟩ := ho j _ h
    obtain ⟨hx', hlt⟩ := old hx
    obtain ⟨op, h1, h2, h3⟩ := touchAt_g hx'
    have hgn := F.gs x _ h3
    rcases Nat.eq_zero_or_pos op.g with e | hpos
    · have := (knows_own h1).app u
      rwa [e] at this
    · obtain ⟨r, hR, hlt', hafter⟩ := hrel op.g hpos hgn
      have hle : x <= r := Nat.le_of_not_lt fun hgt => hw (hafter x a hgt h3 hx').1
      refine ⟨t.size, _, e0, rfl, .inr ?_⟩
      rcases Nat.lt_or_ge x r with hlt2 | hge
      · exact .trans (.single (.inl ⟨hlt2, op.g, by rw [g?_old hlt]; exact h3, hR.g⟩)) (edge _ r hR hlt')
      · obtain rfl : x = r := by omega
        exact edge _ x hR hlt'
  · obtain ⟨r, hR, hlt, h2⟩ := hrel j hj0 hj'
    exact ⟨r, hR, fun x a hx hg ha' => h2 x a hx (by rwa [g?_old (old ha').2] at hg) (old ha').1⟩
  · obtain ⟨op, ho', hog⟩ := Option.map_eq_some_iff.1 hg
    rcases getElem?_append_cases ho' with ⟨_, ho''⟩ | ⟨_, hou⟩
    · exact F.gs x g (by rw [g?_of ho'', hog])
    · rw [<- hog, hug op hou]; exact hn
def Claims.took (c : Claims) (i : Nat) (a : Addr) : Claims := ⟨fun j l => c.own j l \/ (j = i /\ c.bag a l), c.rd, c.at_, fun a' l => a' ≠ a /\ c.bag a' l⟩
def Claims.gave (c : Claims) (i : Nat) (a : Addr) (G : Loc -> Prop) : Claims := ⟨fun j l => c.own j l /\ ¬ (j = i /\ G l), c.rd, c.at_, fun a' l => c.bag a' l \/ (a' = a /\ G l)⟩
theorem Claims.Ok.took (h : c.Ok) (i : Nat) (a : Addr) : (c.took i a).Ok where
  oo j k l h1 h2 := by
    rcases h1 with h1 | ⟨e1, h1⟩ <;> rcases h2 with h2 | ⟨e2, h2⟩
    · exact h.oo _ _ _ h1 h2
    · exact absurd h2 (h.bo _ _ _ h1)
    · exact absurd h1 (h.bo _ _ _ h2)
    · exact e1.trans e2.symm
  orr j k l h1 h2 := by
    rcases h1 with h1 | ⟨_, h1⟩
    · exact h.orr _ _ _ h1 h2
    · exact absurd h1 (h.br _ _ _ h2)
  oa j l h1 h2 := by
    rcases h1 with h1 | ⟨_, h1⟩
    · exact h.oa _ _ h1 h2
    · exact h.ba _ _ h1 h2
  ra := h.ra
  bo j a' l h1 h2 := by
    rcases h1 with h1 | ⟨_, h1⟩
    · exact h.bo _ _ _ h1 h2.2
    · exact h2.1 (h.bb _ _ _ h2.2 h1)
  br j a' l h1 h2 := h.br _ _ _ h1 h2.2
  ba a' l h1 := h.ba _ _ h1.2
  bb a' a'' l h1 h2 := h.bb _ _ _ h1.2 h2.2
theorem Tf.take (F : Tf ad wgL n c rl jn t) (hc : c.Ok) {i : Nat} (hi : i < n) {a : Addr} {y : MemOp} (hg : y.g = i) (hy : y.act = .access ⟨.cell a, false, true⟩) (hd : Deaf t i = 0) (hat : c.at_ (.cell a)) (hrl : 0 < i -> ¬ rl i) : Tf ad wgL n (c.took i a) rl jn (t ++ #[y]) := by
  have htouch : ∀ b, y.act.touch? = some b -> b.loc = .cell a /\ b.kind = .atomic := fun b hb => by rw [hy] at hb; simp [MemAct.touch?] at hb; subst hb; exact ⟨rfl, rfl⟩
  have hm : ∀ op ∈ (#[y] : Trace), op = y := fun op hop => by simpa using hop
  have F1 := F.app (u := #[y]) hc hi (fun op hop => by rw [hm op hop]; exact hg) (fun op hop b hb => by
    rw [hm op hop] at hb
    obtain ⟨h1, h2⟩ := htouch b hb
    exact ⟨fun z => (by rw [h2] at z; cases z), .inr (.inr (.inl ⟨h2, by rw [h1]; exact hat⟩))⟩) (fun a' op hop => by rw [hm op hop, hy]; exact nofun) (fun h0 hr => absurd hr (hrl h0)) (fun a' l _ op hop s => by rw [hm op hop, hy]; intro z; cases z)
  have hlast : (t ++ #[y])[t.size]? = some y := by rw [Array.getElem?_append_right (Nat.le_refl _)]; simp
  have hh : (t ++ #[y]).heard t.size := ⟨i, by rw [g?_of hlast, hg], by rw [deaf_old (Nat.le_refl _)]; exact hd⟩
  have key : ∀ l, c.bag a l -> ∀ x b, touchAt (t ++ #[y]) x = some b -> b.loc = l -> Knows (t ++ #[y]) i x := fun l hl x b hx e => by
    have hold : touchAt t x = some b := by
      obtain ⟨op, ho, hoa⟩ := touch_of hx
      rcases getElem?_append_cases ho with ⟨_, ho'⟩ | ⟨_, hou⟩
      · rw [touchAt_of ho']; exact hoa
      · rw [hm op hou] at hoa
        have := (htouch b hoa).1
        rw [e] at this
        subst this
        exact absurd hat (hc.ba _ _ hl)
    rcases F.bag a l hl with h | ⟨p, k1, k2, k3⟩
    · exact (h i hi x b hold e).app _
    · have hp := lt_of_act? k1.1
      refine Knows.of_before ((k3 x b hold e).app _) ⟨t.size, y, hlast, hg, .inr (.single (.inr ⟨.atomic (a := a) hp (by rw [act?_old hp]; exact k1.1) (by rw [act?_of hlast, hy]) (fun k sync h1 h2 => by rw [act?_old h2]; exact k1.2 k sync h1), (heard_old hp).2 k2, hh⟩))⟩
  refine ⟨F1.clean, fun j hj x b hx ho => ?_, F1.rd, F1.at_, F1.said, F1.rel, F1.norel, F1.gs, F1.acq, F1.jr, fun a' l hl => F1.bag a' l hl.2⟩
  rcases ho with ho | ⟨rfl, ho⟩
  · exact F1.own j hj x b hx ho
  · exact key _ ho x b hx rfl
theorem Tf.give (F : Tf ad wgL n c rl jn t) (hc : c.Ok) {i : Nat} (hi : i < n) {a : Addr} {y : MemOp} (hg : y.g = i) (hy : y.act = .access ⟨.cell a, true, true⟩) (hd : Deaf t i = 0) (hat : c.at_ (.cell a)) (hrl : 0 < i -> ¬ rl i) (hemp : ∀ l, ¬ c.bag a l) {G : Loc -> Prop} (hG : ∀ l, G l -> c.own i l) : Tf ad wgL n (c.gave i a G) rl jn (t ++ #[y]) := by
  have htouch : ∀ b, y.act.touch? = some b -> b.loc = .cell a /\ b.kind = .atomic := fun b hb => by rw [hy] at hb; simp [MemAct.touch?] at hb; subst hb; exact ⟨rfl, rfl⟩
  have hm : ∀ op ∈ (#[y] : Trace), op = y := fun op hop => by simpa using hop
  have F1 := F.app (u := #[y]) hc hi (fun op hop => by rw [hm op hop]; exact hg) (fun op hop b hb => by
    rw [hm op hop] at hb
    obtain ⟨h1, h2⟩ := htouch b hb
    exact ⟨fun z => (by rw [h2] at z; cases z), .inr (.inr (.inl ⟨h2, by rw [h1]; exact hat⟩))⟩) (fun a' op hop => by rw [hm op hop, hy]; exact nofun) (fun h0 hr => absurd hr (hrl h0)) (fun a' l hl op hop s => by
    rw [hm op hop, hy]
    intro z
    injection z with z
    injection z with z
    injection z with z
    subst z
    exact hemp l hl)
  have hlast : (t ++ #[y])[t.size]? = some y := by rw [Array.getElem?_append_right (Nat.le_refl _)]; simp
  have hh : (t ++ #[y]).heard t.size := ⟨i, by rw [g?_of hlast, hg], by rw [deaf_old (Nat.le_refl _)]; exact hd⟩
  refine ⟨F1.clean, fun j hj x b hx ho => F1.own j hj x b hx ho.1, F1.rd, F1.at_, F1.said, F1.rel, F1.norel, F1.gs, F1.acq, F1.jr, fun a' l hl => ?_⟩
  rcases hl with hl | ⟨rfl, hl⟩
  · exact F1.bag a' l hl
  · have ho := hG l hl
    refine .inr ⟨t.size, LastWrite.new t _ hy, hh, Perm.release (g := i) (fun x b hx e => F.own i hi x b hx (e ▸ ho)) hg fun b hb e => ?_⟩
    have := (htouch b hb).1
    rw [e] at this
    subst this
    exact hc.oa _ _ ho hat
theorem Tf.over (F : Tf ad wgL n c rl jn t) (hj : jn) : t.HandedOver := by
  obtain ⟨q, h1, h2, h3, h4⟩ := F.acq hj
  exact Go.ConcN.handedOver_all (fun i g hg hne => h4 g (by omega) (F.gs i g hg)) (F.norel ad) h1 h2 h3
theorem Tf.overLone (F : Tf ad wgL n c rl jn t) (hn : n = 1) : t.HandedOver := fun i g hg hne _ => by
  have := F.gs i g hg
  omega
end
end
section
variable [Dm]
open Go Go.Conc
variable {Γ : Type}
section
variable {P : Program} {main : Bool} {S : Sit Γ} {f : FuncId} {n : Nat} {k : List Item} {env : Env} {ds : List Deferred} {h : Hp} {δ : Ix Γ} {R : Post Γ}
variable {ops : Array Oper} {l : List Oper} {d : Nat} {ty : TypeId} {pos : String} {af : Array Edge} {g : Option (Nat × Bool)}
variable {Z : Hp -> Prop} {z : Nat} {m : Nat} {listed l' : Array Bool}
def EAi (P : Program) (main : Bool) (S : Sit Γ) (f : FuncId) (n : Nat) (ops : Array Oper) (Z : Hp -> Prop) (z : Nat) (m : Nat) (listed : Array Bool) (k : List Item) (env : Env) (ds : List Deferred) (h : Hp) (δ : Ix Γ) (R : Post Γ) (i : Nat) : Prop :=
  ∀ a, Kn n env ds a -> OpK P main S f R ops i (fun a' h' δ' => (i = z \/ Z h') /\ AnyK P main S f k R ops Z z m (listed.setIfInBounds i true) a' h' δ') a h δ
theorem EA.alts {is : List Nat} (hr : Region.ready .any ops listed = is) (hne : is ≠ []) (hh : ∀ i ∈ is, EAi P main S f n ops Z z m listed k env ds h δ R i) : EA P main S f n ops Z z (m + 1) listed k env ds h δ R := by
  intro a ka
  refine ⟨fun x => absurd (hr.symm.trans x) hne, fun i hi => hh i (hr ▸ hi) a ka⟩
theorem EA.alt2 (i j : Nat) (hr : Region.ready .any ops listed = [i, j]) (h1 : EAi P main S f n ops Z z m listed k env ds h δ R i) (h2 : EAi P main S f n ops Z z m listed k env ds h δ R j) : EA P main S f n ops Z z (m + 1) listed k env ds h δ R :=
  EA.alts hr (by simp) (by simp only [List.mem_cons, List.not_mem_nil, or_false]; rintro x (rfl | rfl) <;> assumption)
theorem EAi.val {i : Nat} {op : Op} {v : Value} {h' : Hp} (hi : ops[i]? = some ⟨some d, op, ty, pos, af, g⟩) (hl : listed.setIfInBounds i true = l') (hd : Nat.blt d n = true) (hw : wantE ops env g = some true)
    (hs : ∀ (ρ : Operand -> Value) (Q : Next -> Hp -> Ix Γ -> Prop) (X : Value -> Hp -> Ix Γ -> Prop), (∀ x v, ev env x = some v -> ρ x = v) -> Q (.value v) h' δ -> SemW P S (execOp ρ ⟨some d, op, ty, pos, af, g⟩) h δ Q X) (hZ : Z h')
    (hn : EA P main S f n ops Z z m l' k ((d, v) :: env) ds h' δ R) : EAi P main S f n ops Z z m listed k env ds h δ R i := by
  subst hl
  intro a ka
  unfold OpK
  simp only [hi]
  rw [if_pos (wantE_ok ka (o := ⟨some d, op, ty, pos, af, g⟩) hw)]
  exact .inl (hs a.eval _ _ (fun x v hx => ka.eval hx) ⟨.inr hZ, hn _ (ka.put v hd)⟩)
theorem EAi.hands {i : Nat} {o : Oper} {e : Option Nat} (hi : ops[i]? = some o) (hl : listed.setIfInBounds i true = l') (hw : wantE ops env o.guard = some true) (hdst : o.dst = e) (hd : (∃ t, e = some t /\ Nat.blt t n = true) \/ e = none)
    (hs : ∀ (ρ : Operand -> Value), (∀ x v, ev env x = some v -> ρ x = v) -> ∃ Yv : Value -> Hp -> Ix Γ -> Prop, Yields P main S f (execOp ρ o) h δ Yv /\
      ∀ v h' δ', Yv v h' δ' -> (i = z \/ Z h') /\ EA P main S f n ops Z z m l' k (match e with | some t => (t, v) :: env | none => env) ds h' δ' R) : EAi P main S f n ops Z z m listed k env ds h δ R i := by
  subst hl
  intro a ka
  unfold OpK
  simp only [hi]
  rw [if_pos (wantE_ok ka hw)]
  obtain ⟨Yv, y1, y2⟩ := hs a.eval (fun x v hx => ka.eval hx)
  refine .inr ⟨Yv, fun v h' δ' y => ?_, y1⟩
  obtain ⟨z1, z2⟩ := y2 v h' δ' y
  refine ⟨z1, ?_⟩
  rw [hdst]
  rcases hd with ⟨t, rfl, hd⟩ | rfl
  · exact z2 _ (ka.put v hd)
  · exact z2 _ ⟨ka.size, ka.defers, ka.knows⟩
end
section
variable {P : Program} {main : Bool} {S : Sit Γ} {h : Hp} {δ : Ix Γ} {ty : TypeId} {pos : String} {af : Array Edge} {g : Option (Nat × Bool)}
theorem sem_neqIf {t t2 : TypeId} {x : Operand} {u : Value} {ms : Array (String × TypeId)} {b : Bool} {ρ : Operand -> Value} {dst : Option Nat} {Q : Next -> Hp -> Ix Γ -> Prop} {X : Value -> Hp -> Ix Γ -> Prop} [hu : Und P t (.interface ms)] (hx : ρ x = u) (hy : ρ (.const .nilIface) = .nilIface) (hb : (u = .nilIface /\ b = false) \/ (∃ ti v, u = .iface ti v /\ b = true)) (hq : Q (.value (.bool b)) h δ) :
    SemW P S (execOp ρ ⟨dst, .binOp .neq t x (.const .nilIface) t2, ty, pos, af, g⟩) h δ Q X := by
  refine semW_binOp ?_
  rw [hx, hy]
  have hg : eqGuard .neq t x (.const .nilIface) u .nilIface = pure () := by
    rcases hb with ⟨rfl, _⟩ | ⟨_, _, rfl, _⟩
    · unfold eqGuard
      cases x <;> rfl
    · unfold eqGuard; rfl
  rw [hg]
  have e : binOp .neq t u .nilIface = (Op.equal t u .nilIface >>= fun b => pure (.bool (!b))) := by
    rcases hb with ⟨rfl, _⟩ | ⟨_, _, rfl, _⟩ <;> rfl
  show SemW P S (binOp .neq t u .nilIface) h δ _ X
  rw [e]
  refine semW_bind _ _ _ _ _ _ ?_
  unfold Op.equal Op.maxDepth Op.equalIn
  refine semW_underlying hu.out ?_
  rcases hb with ⟨rfl, rfl⟩ | ⟨_, _, rfl, rfl⟩ <;> exact hq
end
theorem Runs.noS {P : Program} {main : Bool} {S : Sit Γ} {Stop : Goroutine -> Hp -> Ix Γ -> Prop} {g : Goroutine} {h : Hp} {δ : Ix Γ} (hr : Runs P main NoS Stop g h δ) : (∀ a, ¬ S.still δ.g a) -> S.lone δ.g -> ¬ S.dull δ.g -> Runs P main S Stop g h δ := by
  induction hr with
  | stop hs => intro _ _ _; exact .stop hs
  | @step g h δ Y _ hst ih =>
    intro hno hlo hdu
    refine .step (fun g' h' δ' => Y g' h' δ' /\ δ'.g = δ.g) (fun g' h' δ' hy => ih g' h' δ' hy.1 (by rw [hy.2]; exact hno) (by rw [hy.2]; exact hlo) (by rw [hy.2]; exact hdu)) ⟨hst.1, fun w hw => ?_, fun x => absurd x hdu⟩
    obtain ⟨g', w', es, h', a, b, c, e, y⟩ := hst.2.1 w ⟨hw.get, hw.size, fun _ => hw.same hlo⟩
    exact ⟨g', w', es, h', a, b, ⟨⟨c.sub.get, c.sub.size, fun _ => c.sub.same trivial⟩, c.ok.anti fun l hl => absurd hl (hno l), c.frame, c.pres, c.new, fun x => absurd hlo x, c.vok.anti fun l hl => absurd hl (hno l), fun b' _ _ _ hS _ => absurd (hS ⟨b', 0, none⟩ rfl) (hno _)⟩, fun x hx => ⟨EvOk.anti (e x hx).1 fun l hl => absurd hl (hno l), (e x hx).2⟩, y, rfl⟩
  | hands _ _ hy _ => exact hy.elim
theorem CallW.noS {P : Program} {main : Bool} {S : Sit Γ} {f : FuncId} {args : Array Value} {h : Hp} {δ : Ix Γ} {R : Post Γ} (hc : CallW P main NoS f args h δ R) (hno : ∀ a, ¬ S.still δ.g a) (hlo : S.lone δ.g) (hdu : ¬ S.dull δ.g) : CallW P main S f args h δ R :=
  fun kind hk cs => (hc kind hk cs).noS hno hlo hdu
structure Made (h0 h : Hp) (F : Nat -> Option (Nat × Obj)) : Prop where
  upd : Upd (fun _ => False) h0 h
  has : ∀ i b o, F i = some (b, o) -> h0.size <= b /\ h[b]? = some o
  inj : ∀ i j b o o', F i = some (b, o) -> F j = some (b, o') -> i = j
theorem Made.none (h0 : Hp) : Made h0 h0 (fun _ => .none) := ⟨Upd.refl _ _, fun _ _ _ e => (by cases e), fun _ _ _ _ _ e => (by cases e)⟩
theorem Made.push {h0 h : Hp} {F : Nat -> Option (Nat × Obj)} (m : Made h0 h F) (i : Nat) (o : Obj) : Made h0 (h.push o) (ut F i (some (h.size, o))) := by
  have old : ∀ j b o', j ≠ i -> ut F i (some (h.size, o)) j = some (b, o') -> F j = some (b, o') := fun j b o' hj e => by rwa [ut_ne _ _ hj] at e
  have lt : ∀ j b o', F j = some (b, o') -> b < h.size := fun j b o' e => lt_of_get (m.has j b o' e).2
  refine ⟨m.upd.trans (Upd.push h o), fun j b o' e => ?_, fun j q b o1 o2 e1 e2 => ?_⟩
  · by_cases hj : j = i
    · subst hj
      rw [ut_same] at e
      cases e
      exact ⟨m.upd.size, get_push_new h o⟩
    · have e' := old j b o' hj e
      exact ⟨(m.has j b o' e').1, get_push _ (m.has j b o' e').2⟩
  · by_cases hj : j = i <;> by_cases hq : q = i
    · rw [hj, hq]
    · subst hj
      rw [ut_same] at e1
      cases e1
      have := lt q _ _ (old q _ _ hq e2)
      omega
    · subst hq
      rw [ut_same] at e2
      cases e2
      have := lt j _ _ (old j _ _ hj e1)
      omega
    · exact m.inj j q b o1 o2 (old j b o1 hj e1) (old q b o2 hq e2)
theorem EA.sub {P : Program} {main : Bool} {S : Sit Γ} {f : FuncId} {n : Nat} {ops : Array Oper} {Z : Hp -> Prop} {z m : Nat} {listed : Array Bool} {k : List Item} {env e : Env} {ds : List Deferred} {h : Hp} {δ : Ix Γ} {R : Post Γ} (hs : subE e env)
    (hk : EA P main S f n ops Z z m listed k e ds h δ R) : EA P main S f n ops Z z m listed k env ds h δ R := fun a ka => hk a (ka.sub hs)
end
section
variable [Dm]
open Go Go.Conc
open Go.ConcM (OsLater)
structure Cf where
  shb : Nat -> Prop
  ro : Nat -> Prop
  at_ : Addr -> Prop
  wg : Nat
def Cf.ad (c : Cf) : Addr := ⟨c.wg, 0, none⟩
structure Fp (Γ : Type) where
  num : Γ -> Nat
  cf : Γ -> Cf
  R : Nat -> Γ -> Γ -> Prop
  Inv : Γ -> Hp -> Prop
  may : Nat -> Γ -> Addr -> Bool -> Prop
  fin : Γ -> Nat -> Option Hp
  done : Nat -> Γ -> Prop
  blk : Nat -> Γ -> Prop
  lone : Γ -> Prop
  jn : Γ -> Prop
  bag : Γ -> Addr -> Hp
  bmay : Γ -> Addr -> Addr -> Prop
def NoBag {Γ : Type} (X : Fp Γ) (γ : Γ) (a : Addr) : Prop := (∀ b, ¬ Pres (X.bag γ a) b) /\ ∀ l, ¬ X.bmay γ a l
structure Fp.Ok {Γ : Type} (X : Fp Γ) : Prop where
  refl : ∀ i γ, X.R i γ γ
  trans : ∀ i a b c, X.R i a b -> X.R i b c -> X.R i a c
  cfR : ∀ i a b, X.R i a b -> X.cf b = X.cf a
  doneR : ∀ a b i, X.R 0 a b -> X.done i a -> X.done i b
  numR : ∀ a b, X.R 0 a b -> X.num b = X.num a
  rosh : ∀ γ b, (X.cf γ).ro b -> ¬ (X.cf γ).shb b
  loneR : ∀ a b, X.R 0 a b -> (X.lone b ↔ X.lone a)
  finR : ∀ i a b, 0 < i -> X.R i a b -> X.fin b i = X.fin a i
  inv : ∀ γ H H', (∀ b, (X.cf γ).shb b -> H'[b]? = H[b]?) -> X.Inv γ H -> X.Inv γ H'
  mayx : ∀ i j γ a w, X.may i γ a true -> X.may j γ a w -> i = j
  mayat : ∀ i γ a w, X.may i γ a w -> ¬ (X.cf γ).at_ a
  maysh : ∀ i γ a w, X.may i γ a w -> (X.cf γ).shb a.block
  atsh : ∀ γ a, (X.cf γ).at_ a -> (X.cf γ).shb a.block
  fin : ∀ i γ, 0 < i -> X.done i γ -> (X.fin γ i).isSome = true
  jl : ∀ γ, X.jn γ -> X.lone γ
  blkd : ∀ i γ, 0 < i -> X.done i γ -> ¬ X.blk i γ
  fin0 : ∀ γ, X.fin γ 0 = none
  live : ∀ γ H, X.Inv γ H -> (∀ i, i < X.num γ -> X.blk i γ \/ (0 < i /\ X.done i γ)) -> False
  lone : ∀ γ i, X.lone γ -> 0 < i -> i < X.num γ -> X.done i γ
  bmx : ∀ γ a l i w, X.bmay γ a l -> ¬ X.may i γ l w
  bm2 : ∀ γ a a' l, X.bmay γ a l -> X.bmay γ a' l -> a = a'
  bmat : ∀ γ a l, X.bmay γ a l -> ¬ (X.cf γ).at_ l
  bmsh : ∀ γ a l, X.bmay γ a l -> (X.cf γ).shb l.block
  bat : ∀ γ a, ¬ NoBag X γ a -> (X.cf γ).at_ a
structure Sub (a h : Hp) : Prop where
  get : ∀ (b : Nat) (o : Obj), a[b]? = some o -> o ≠ dum -> h[b]? = some o
  size : a.size <= h.size
theorem Sub.pres {a h : Hp} (x : Sub a h) {b : Nat} (hb : Pres a b) : Pres h b := let ⟨o, h1, h2⟩ := hb; ⟨o, x.get b o h1 h2, h2⟩
theorem Sub.part {L : Prop} {a h H : Hp} (x : Sub a h) (y : Part L h H) : Part False a H := ⟨fun b o h1 h2 => y.get b o (x.get b o h1 h2) h2, Nat.le_trans x.size y.size, fun z => z.elim⟩
def padTo (h : Hp) (N : Nat) : Hp := h ++ Array.replicate (N - h.size) dum
theorem padTo_size {h : Hp} {N : Nat} (hN : h.size <= N) : (padTo h N).size = N := by simp [padTo]; omega
theorem padTo_get {h : Hp} {N b : Nat} {o : Obj} (ho : o ≠ dum) : (padTo h N)[b]? = some o ↔ h[b]? = some o := by
  unfold padTo
  rcases Nat.lt_or_ge b h.size with y | y
  · rw [Array.getElem?_append_left y]
  · rw [Array.getElem?_append_right y, Array.getElem?_eq_none y]
    refine ⟨fun e => ?_, fun e => by cases e⟩
    rw [Array.getElem?_replicate] at e
    split at e
    · exact absurd (Option.some.inj e).symm ho
    · cases e
theorem padTo_pres {h : Hp} {N b : Nat} : Pres (padTo h N) b ↔ Pres h b :=
  ⟨fun ⟨o, h1, h2⟩ => ⟨o, (padTo_get h2).1 h1, h2⟩, fun ⟨o, h1, h2⟩ => ⟨o, (padTo_get h2).2 h1, h2⟩⟩
theorem Part.pad {L : Prop} {h H : Hp} (x : Part L h H) : Part True (padTo h H.size) H :=
  ⟨fun b o h1 h2 => x.get b o ((padTo_get h2).1 h1) h2, by rw [padTo_size x.size]; exact Nat.le_refl _, fun _ => padTo_size x.size⟩
structure SameL (w w' : World) : Prop where
  tape : w'.tape = w.tape
  os : OsLater w.os w'.os
  output : w'.output = w.output
theorem OsLater.refl' (o : Os) : OsLater o o := ⟨0, rfl⟩
theorem Same.later {w w' : World} (x : Same w w') : SameL w w' := ⟨x.tape, by rw [x.os]; exact OsLater.refl' _, x.output⟩
theorem SameL.refl (w : World) : SameL w w := (Same.refl w).later
variable {Γ : Type}
def EvS (X : Fp Γ) (i : Nat) (γ : Γ) (e : Event) : Prop :=
  (∀ a, e.loc = .cell a -> (e.sync = true /\ (X.cf γ).at_ a /\ (e.write = true -> NoBag X γ a)) \/ (e.sync = false /\ (X.may i γ a e.write \/ X.may i γ a true))) /\ (∀ r, e.loc ≠ .obj r) /\ e.loc ≠ .output /\ e.loc ≠ .goroutines /\
    (∀ m, e.loc = .mark m -> e.sync = true /\ (∀ a, m ≠ .release a) /\ ∀ a, m = .read a \/ m = .write a -> i = 0 /\ (X.cf γ).at_ a)
def Late (wg d : Nat) (es : Array Event) : Prop :=
  ∀ (j : Nat) (e : Event), es[j]? = some e -> (MemAct.ofEvent e).touch? = none \/ (e.sync = true /\ (∃ a, e.loc = .cell a /\ a.block = wg) /\ 0 < deafBehind d (es.extract 0 j))
structure Mv (X : Fp Γ) (i : Nat) (γ γ' : Γ) : Prop where
  num : X.num γ' = X.num γ
  cf : X.cf γ' = X.cf γ
  R : ∀ j, j ≠ i -> j < X.num γ -> (0 < j -> ¬ X.done j γ) -> X.R j γ γ'
  fin : ∀ j, j ≠ i -> X.fin γ' j = X.fin γ j
  done : ∀ j, j ≠ i -> (X.done j γ' ↔ X.done j γ)
  may : ∀ j a w, X.may j γ' a w -> X.may j γ a w
  jn : X.jn γ' ↔ X.jn γ
  bag : X.bag γ' = X.bag γ
  bmay : ∀ a l, X.bmay γ' a l -> X.bmay γ a l
structure HandG (X : Fp Γ) (i : Nat) (γ γ' : Γ) (a : Addr) (rd : Bool) (h h' H : Hp) : Prop where
  num : X.num γ' = X.num γ
  cf : X.cf γ' = X.cf γ
  R : ∀ j, j ≠ i -> j < X.num γ -> (0 < j -> ¬ X.done j γ) -> X.R j γ γ'
  fin : ∀ j, X.fin γ' j = X.fin γ j
  done : ∀ j, j ≠ i -> (X.done j γ' ↔ X.done j γ)
  jn : X.jn γ' ↔ X.jn γ
  at_ : (X.cf γ).at_ a
  bago : ∀ a', a' ≠ a -> X.bag γ' a' = X.bag γ a'
  bmo : ∀ a' l, a' ≠ a -> X.bmay γ' a' l -> X.bmay γ a' l
  got : ∀ (b : Nat) (o : Obj), h'[b]? = some o -> o ≠ dum -> h[b]? = some o \/ (rd = true /\ (X.bag γ a)[b]? = some o)
  put : ∀ (b : Nat) (o : Obj), (X.bag γ' a)[b]? = some o -> o ≠ dum -> ¬ (X.cf γ).ro b /\ (h[b]? = some o \/ (rd = true /\ (X.bag γ a)[b]? = some o))
  dj : ∀ b, Pres h' b -> ¬ Pres (X.bag γ' a) b
  sz : h'.size <= H.size
  szb : (X.bag γ' a).size <= H.size
  may : ∀ j l w, X.may j γ' l w -> X.may j γ l w \/ (j = i /\ (X.may i γ l true \/ (rd = true /\ X.bmay γ a l)))
  bm : ∀ l, X.bmay γ' a l -> X.may i γ l true \/ (rd = true /\ X.bmay γ a l)
  emp : rd = false -> NoBag X γ a
def handE (a : Addr) (rd : Bool) : Array Event := if rd then #[⟨.cell a, false, true⟩, ⟨.cell a, true, true⟩] else #[⟨.cell a, true, true⟩]
def Going (g : Goroutine) : Prop := g.status = .running /\ g.offers = none
def MakeS (X : Fp Γ) : Sit Γ := ⟨fun γ a => (X.cf γ).ro a.block, fun _ => True, fun _ => False, fun _ _ _ _ => False⟩
def Make (P : Program) (main : Bool) (X : Fp Γ) (i : Nat) (g : Goroutine) (h : Hp) (δ : Ix Γ) (Y : Goroutine -> Hp -> Ix Γ -> Prop) : Prop :=
  (0 < i -> ¬ X.done i δ.g /\ X.fin δ.g i = none) /\ ∀ N, h.size <= N -> StepTo P main (MakeS X) Y g (padTo h N) δ
abbrev OppO (P : Program) (main : Bool) (X : Fp Γ) (i : Nat) (g : Goroutine) (h : Hp) (d : Nat) (Y : Goroutine -> Hp -> Ix Γ -> Prop) (γ₁ : Γ) (w : World) : Prop :=
    ∃ g' w' es γ₂, stepG P main g w = .go g' w' es /\ g'.status = .running /\ SameL w w' /\ (mayWake P g = true \/ ∀ j, X.blk j γ₁ -> X.blk j γ₂) /\ (∀ b, ¬ (X.cf γ₁).shb b -> w'.heap[b]? = w.heap[b]?) /\ w'.heap.size = w.heap.size /\
      X.Inv γ₂ w'.heap /\ Mv X i γ₁ γ₂ /\ X.fin γ₂ i = X.fin γ₁ i /\ (∀ e ∈ es, EvS X i γ₁ e) /\ (0 < i -> (X.fin γ₁ i).isSome = true -> Late (X.cf γ₁).wg d es) /\ (X.lone γ₂ ↔ X.lone γ₁) /\ Y g' h ⟨deafBehind d es, γ₂⟩
def Opp (P : Program) (main : Bool) (X : Fp Γ) (i : Nat) (g : Goroutine) (h : Hp) (δ : Ix Γ) (Y : Goroutine -> Hp -> Ix Γ -> Prop) : Prop :=
  Going g /\ (0 < i -> ¬ X.done i δ.g) /\ ∀ γ₁ (w : World), X.R i δ.g γ₁ -> X.Inv γ₁ w.heap -> Part False h w.heap ->
    (X.blk i γ₁ /\ stepG P main g w = .go { g with status := .blocked } w #[]) \/ OppO P main X i g h δ.d Y γ₁ w
def Rls (P : Program) (X : Fp Γ) (i : Nat) (g : Goroutine) (h : Hp) (δ : Ix Γ) (Y : Goroutine -> Hp -> Ix Γ -> Prop) : Prop :=
  Going g /\ 0 < i /\ ¬ X.done i δ.g /\ δ.d = 0 /\ ∀ γ₁ (w : World), X.R i δ.g γ₁ -> X.Inv γ₁ w.heap -> Part False h w.heap ->
    ∃ g' γ₂, stepG P false g w = .go g' w #[Go.ConcR.mk (.releaseMerge (X.cf γ₁).ad)] /\ g'.status = .running /\ (mayWake P g = true \/ ∀ j, X.blk j γ₁ -> X.blk j γ₂) /\ X.Inv γ₂ w.heap /\ Mv X i γ₁ γ₂ /\ X.fin γ₁ i = none /\ X.fin γ₂ i = some h /\ (X.lone γ₂ ↔ X.lone γ₁) /\ Y g' #[] ⟨0, γ₂⟩
def Hand (P : Program) (X : Fp Γ) (i : Nat) (g : Goroutine) (h : Hp) (δ : Ix Γ) (Y : Goroutine -> Hp -> Ix Γ -> Prop) : Prop :=
  Going g /\ 0 < i /\ ¬ X.done i δ.g /\ X.fin δ.g i = none /\ δ.d = 0 /\ ∀ γ₁ (w : World), X.R i δ.g γ₁ -> X.Inv γ₁ w.heap -> Part False h w.heap -> (∀ a, Part False (X.bag γ₁ a) w.heap) ->
    OppO P false X i g h 0 Y γ₁ w \/
    ∃ g' w' γ₂ a rd h', stepG P false g w = .go g' w' (handE a rd) /\ g'.status = .running /\ SameL w w' /\ (mayWake P g = true \/ ∀ j, X.blk j γ₁ -> X.blk j γ₂) /\ (∀ b, ¬ (X.cf γ₁).shb b -> w'.heap[b]? = w.heap[b]?) /\ w'.heap.size = w.heap.size /\
      X.Inv γ₂ w'.heap /\ HandG X i γ₁ γ₂ a rd h h' w.heap /\ (X.lone γ₂ ↔ X.lone γ₁) /\ Y g' h' ⟨0, γ₂⟩
def SitW (P : Program) (X : Fp Γ) (i : Nat) : Sit Γ where
  still γ a := (X.cf γ).ro a.block
  lone _ := False
  dull γ := X.done i γ
  yld g h δ Y := Make P false X i g h δ Y \/ Opp P false X i g h δ Y \/ Rls P X i g h δ Y \/ Hand P X i g h δ Y
def EndF (X : Fp Γ) (i : Nat) (g : Goroutine) (h : Hp) (δ : Ix Γ) : Prop := g.status = .finished /\ δ.d = 0 /\ X.done i δ.g /\ h = #[]
def Share (X : Fp Γ) (g : Goroutine) (h : Hp) (δ : Ix Γ) (Y : Goroutine -> Hp -> Ix Γ -> Prop) : Prop :=
  X.num δ.g = 1 /\ X.lone δ.g /\ ¬ X.jn δ.g /\ (∀ b, ¬ (X.cf δ.g).ro b) /\ ∃ h₁ γ₁, Sub h₁ h /\ (∀ b, Pres h₁ b -> ¬ (X.cf γ₁).shb b) /\ (∀ b, (X.cf γ₁).shb b -> Pres h b) /\ (∀ b, (X.cf γ₁).ro b -> ∃ c e f, h[b]? = some (.cells c e f) /\ Pres h b) /\
    X.num γ₁ = 1 /\ (∀ H, Part True h H -> X.Inv γ₁ H) /\ ¬ X.lone γ₁ /\ ¬ X.jn γ₁ /\ (∀ i, X.fin γ₁ i = none) /\ (∀ a, X.bag γ₁ a = #[]) /\ Y g h₁ ⟨δ.d, γ₁⟩
structure HireG (X : Fp Γ) (h : Hp) (γ₁ γ₂ : Γ) (hm hc H : Hp) : Prop where
  num : X.num γ₂ = X.num γ₁ + 1
  cf : X.cf γ₂ = X.cf γ₁
  R : ∀ j, 0 < j -> j < X.num γ₁ -> ¬ X.done j γ₁ -> X.R j γ₁ γ₂
  fin : ∀ j, X.fin γ₂ j = X.fin γ₁ j
  fin1 : X.fin γ₁ (X.num γ₁) = none
  done : ∀ j, 0 < j -> j < X.num γ₁ -> (X.done j γ₂ ↔ X.done j γ₁)
  blk : ∀ j, j < X.num γ₁ -> X.blk j γ₁ -> X.blk j γ₂
  may : ∀ j a w, j < X.num γ₁ -> X.may j γ₂ a w -> X.may j γ₁ a w
  may1 : ∀ a w, X.may (X.num γ₁) γ₂ a w -> X.may 0 γ₁ a w \/ X.may 0 γ₁ a true
  inv : X.Inv γ₂ H
  sm : Sub hm h
  sc : Sub hc h
  both : ∀ b, Pres hm b -> Pres hc b -> (X.cf γ₁).ro b
  l1 : ¬ X.lone γ₁
  l2 : ¬ X.lone γ₂
  j1 : ¬ X.jn γ₁
  j2 : ¬ X.jn γ₂
  bag : X.bag γ₂ = X.bag γ₁
  bmay : ∀ a l, X.bmay γ₂ a l -> X.bmay γ₁ a l
def Hire (P : Program) (X : Fp Γ) (g : Goroutine) (h : Hp) (δ : Ix Γ) (Y : Goroutine -> Hp -> Ix Γ -> Prop) : Prop :=
  Going g /\ δ.d = 0 /\ ∀ γ₁ (w : World), X.R 0 δ.g γ₁ -> X.Inv γ₁ w.heap -> Part False h w.heap ->
    ∃ g' child γ₂ hm hc, stepG P true g w = .spawn g' child w #[] /\ g'.status = .running /\ HireG X h γ₁ γ₂ hm hc w.heap /\
      Runs P false (SitW P X (X.num γ₁)) (EndF X (X.num γ₁)) child hc ⟨0, γ₂⟩ /\ Y g' hm ⟨0, γ₂⟩
def Join (P : Program) (X : Fp Γ) (g : Goroutine) (h : Hp) (δ : Ix Γ) (Y : Goroutine -> Hp -> Ix Γ -> Prop) : Prop :=
  Going g /\ δ.d = 0 /\ (∀ i, 0 < i -> i < X.num δ.g -> X.done i δ.g) /\ ∀ γ₁ (w : World), X.R 0 δ.g γ₁ -> X.Inv γ₁ w.heap -> Part False h w.heap -> (∀ i hf, X.fin γ₁ i = some hf -> Part False hf w.heap) -> (∀ a, Part False (X.bag γ₁ a) w.heap) ->
    ∃ g' γ₂, stepG P true g w = .go g' w #[Go.ConcR.mk (.acquire (X.cf γ₁).ad)] /\ g'.status = .running /\ (mayWake P g = true \/ ∀ j, X.blk j γ₁ -> X.blk j γ₂) /\ X.num γ₂ = X.num γ₁ /\ ¬ X.jn γ₁ /\ X.jn γ₂ /\ X.lone γ₂ /\ (X.cf γ₂).wg = (X.cf γ₁).wg /\ (X.cf γ₁).shb (X.cf γ₁).wg /\ (∀ b, (X.cf γ₂).shb b ↔ b = (X.cf γ₁).wg) /\ (∀ b, ¬ (X.cf γ₂).ro b) /\
      (∀ a, (X.cf γ₂).at_ a -> (X.cf γ₁).at_ a) /\ (∀ i a w, ¬ X.may i γ₂ a w) /\ (∀ a, X.bag γ₂ a = #[]) /\ (∀ a l, ¬ X.bmay γ₂ a l) /\ (∀ i, 0 < i -> i < X.num γ₁ -> X.fin γ₂ i = some #[]) /\ (∀ i, X.num γ₁ <= i -> X.fin γ₂ i = none) /\ X.Inv γ₂ w.heap /\ Y g' (w.heap.setIfInBounds (X.cf γ₁).wg dum) ⟨0, γ₂⟩
def SitM (P : Program) (X : Fp Γ) : Sit Γ where
  still γ a := (X.cf γ).ro a.block
  lone := X.lone
  dull _ := False
  yld g h δ Y := Make P true X 0 g h δ Y \/ Opp P true X 0 g h δ Y \/ Share X g h δ Y \/ Hire P X g h δ Y \/ Join P X g h δ Y
inductive Tree : Type 1
  | node (ι : Type) (f : ι -> Tree)
def Tree.lt (a b : Tree) : Prop := ∃ ι f x, b = .node ι f /\ a = f x
theorem Tree.wf : WellFounded Tree.lt := ⟨fun t => by
  induction t with
  | node ι f ih =>
    refine ⟨_, fun a ha => ?_⟩
    obtain ⟨ι', f', x, e, rfl⟩ := ha
    cases e
    exact ih x⟩
def RunsN (P : Program) (main : Bool) (S : Sit Γ) (Stop : Goroutine -> Hp -> Ix Γ -> Prop) : Tree -> Goroutine -> Hp -> Ix Γ -> Prop
  | .node _ f, g, h, δ => Stop g h δ \/ ∃ X : Goroutine -> Hp -> Ix Γ -> Prop, (∀ g' h' δ', X g' h' δ' -> ∃ x, RunsN P main S Stop (f x) g' h' δ') /\ (StepTo P main S X g h δ \/ S.yld g h δ X)
theorem Runs.tree {P : Program} {main : Bool} {S : Sit Γ} {Stop : Goroutine -> Hp -> Ix Γ -> Prop} {g : Goroutine} {h : Hp} {δ : Ix Γ} (hr : Runs P main S Stop g h δ) : ∃ t, RunsN P main S Stop t g h δ := by
  have key : ∀ (X : Goroutine -> Hp -> Ix Γ -> Prop), (∀ g h δ, X g h δ -> ∃ t, RunsN P main S Stop t g h δ) -> ∃ (ι : Type) (f : ι -> Tree), ∀ g' h' δ', X g' h' δ' -> ∃ x, RunsN P main S Stop (f x) g' h' δ' := fun X hX =>
    ⟨{s : Goroutine × Hp × Ix Γ // X s.1 s.2.1 s.2.2}, fun s => (hX _ _ _ s.2).choose, fun g' h' δ' hx => ⟨⟨(g', h', δ'), hx⟩, (hX g' h' δ' hx).choose_spec⟩⟩
  induction hr with
  | stop hs => exact ⟨.node Empty Empty.elim, .inl hs⟩
  | step X _ hst ih =>
    obtain ⟨ι, f, hf⟩ := key X ih
    exact ⟨.node ι f, .inr ⟨X, hf, .inl hst⟩⟩
  | hands X _ hy ih =>
    obtain ⟨ι, f, hf⟩ := key X ih
    exact ⟨.node ι f, .inr ⟨X, hf, .inr hy⟩⟩
def Down (n : Nat) (t s : Nat -> Tree) : Prop := ∃ i, i < n /\ Tree.lt (t i) (s i) /\ ∀ j, j ≠ i -> t j = s j
theorem Down.acc : ∀ (n : Nat) (t : Nat -> Tree), Acc (Down n) t
  | 0, t => ⟨t, fun s hs => by obtain ⟨i, hi, _⟩ := hs; omega⟩
  | n + 1, t => by
    have key : ∀ (x : Tree) (t : Nat -> Tree), t n = x -> Acc (Down (n + 1)) t := by
      intro x
      induction x using Tree.wf.induction with
      | _ x ihx =>
        intro t
        induction Down.acc n t with
        | intro t _ iht =>
          intro htx
          refine ⟨t, fun s hs => ?_⟩
          obtain ⟨i, hi, hlt, heq⟩ := hs
          by_cases e : i = n
          · subst e
            exact ihx (s i) (htx ▸ hlt) s rfl
          · exact iht s ⟨i, by omega, hlt, heq⟩ ((heq n (fun z => e z.symm)).trans htx)
    exact key _ t rfl
end
section
variable [Dm]
open Go Go.Conc
open Go.ConcM (OsLater)
open Go.ConcN (upd upd_ne upd_same)
variable {Γ : Type}
def LocB (l : Loc) (b : Nat) : Prop := (∃ a : Addr, l = .cell a /\ a.block = b) \/ l = .obj b
def Hold (X : Fp Γ) (γ : Γ) (hs : Nat -> Hp) (i b : Nat) : Prop := Pres (hs i) b \/ ∃ hf, X.fin γ i = some hf /\ Pres hf b
def claims (X : Fp Γ) (γ : Γ) (hs : Nat -> Hp) : Claims where
  own i l := (∃ b, LocB l b /\ Pres (hs i) b /\ ¬ (X.cf γ).ro b) \/ ∃ a, l = .cell a /\ X.may i γ a true
  rd i l := (∃ b, LocB l b /\ Pres (hs i) b /\ (X.cf γ).ro b) \/ ∃ a, l = .cell a /\ X.may i γ a false
  at_ l := ∃ a, l = .cell a /\ (X.cf γ).at_ a
  bag a l := (∃ b, LocB l b /\ Pres (X.bag γ a) b) \/ ∃ a', l = .cell a' /\ X.bmay γ a a'
theorem LocB.cell {a : Addr} {b : Nat} (h : LocB (.cell a) b) : a.block = b := by
  rcases h with ⟨a', e, h⟩ | e
  · cases e; exact h
  · cases e
theorem LocB.uniq {l : Loc} {b b' : Nat} (h : LocB l b) (h' : LocB l b') : b = b' := by
  rcases h with ⟨a, rfl, rfl⟩ | rfl
  · exact h'.cell
  · rcases h' with ⟨a, e, _⟩ | e
    · cases e
    · cases e; rfl
structure Bags (X : Fp Γ) (γ : Γ) (n : Nat) (H : Hp) (hs : Nat -> Hp) : Prop where
  part : ∀ a, Part False (X.bag γ a) H
  ap : ∀ a i b, i < n -> Pres (X.bag γ a) b -> ¬ Hold X γ hs i b
  two : ∀ a a' b, Pres (X.bag γ a) b -> Pres (X.bag γ a') b -> a = a'
  sh : ∀ a b, Pres (X.bag γ a) b -> ¬ (X.cf γ).shb b
  ro : ∀ a b, Pres (X.bag γ a) b -> ¬ (X.cf γ).ro b
structure Mi (X : Fp Γ) (γ : Γ) (n : Nat) (H : Hp) (T : Trace) (hs : Nat -> Hp) (γs : Nat -> Γ) : Prop where
  num : X.num γ = n
  pos : 0 < n
  inv : X.Inv γ H
  rel : ∀ i, i < n -> (0 < i -> ¬ X.done i γ) -> X.R i (γs i) γ
  dn : ∀ i, 0 < i -> i < n -> (X.done i γ ↔ X.done i (γs i))
  part : ∀ i, i < n -> Part (i = 0 /\ X.lone (γs 0)) (hs i) H
  fin : ∀ i hf, X.fin γ i = some hf -> Part False hf H
  apart : ∀ i j b, i < n -> j < n -> i ≠ j -> Hold X γ hs i b -> Hold X γ hs j b -> (X.cf γ).ro b
  sh : ∀ i b, i < n -> Hold X γ hs i b -> ¬ (X.cf γ).shb b
  back : ∀ i, 0 < i -> i < n -> (X.fin γ i).isSome = true -> hs i = #[]
  rocell : ∀ b, (X.cf γ).ro b -> ∃ c e f, H[b]? = some (.cells c e f)
  shlt : ∀ b, (X.cf γ).shb b -> b < H.size
  rosh : ∀ b, (X.cf γ).ro b -> ¬ (X.cf γ).shb b
  low : ∀ x a b, touchAt T x = some a -> LocB a.loc b -> b < H.size
  tf : Tf (X.cf γ).ad (fun l => LocB l (X.cf γ).wg) n (claims X γ hs) (fun i => (X.fin γ i).isSome = true) (X.jn γ) T
  lone : X.lone (γs 0) -> γ = γs 0
  jl : X.jn γ -> X.lone γ
  fout : ∀ i, n <= i -> X.fin γ i = none
  hout : ∀ i, n <= i -> hs i = #[]
  bg : Bags X γ n H hs
section
variable {X : Fp Γ} {γ : Γ} {n : Nat} {H : Hp} {T : Trace} {hs : Nat -> Hp} {γs : Nat -> Γ}
theorem claims_ok (hX : X.Ok) (apart : ∀ i j b, i ≠ j -> Pres (hs i) b -> Pres (hs j) b -> (X.cf γ).ro b) (sh : ∀ i b, Pres (hs i) b -> ¬ (X.cf γ).shb b)
    (bap : ∀ a i b, Pres (X.bag γ a) b -> ¬ Pres (hs i) b) (two : ∀ a a' b, Pres (X.bag γ a) b -> Pres (X.bag γ a') b -> a = a') (bsh : ∀ a b, Pres (X.bag γ a) b -> ¬ (X.cf γ).shb b) : (claims X γ hs).Ok := by
  refine ⟨fun i j l h1 h2 => ?_, fun i j l h1 h2 => ?_, fun i l h1 h2 => ?_, fun i l h1 h2 => ?_, fun i a l h1 h2 => ?_, fun i a l h1 h2 => ?_, fun a l h1 h2 => ?_, fun a a' l h1 h2 => ?_⟩
  · rcases h1 with ⟨b, hb, hp1, hr⟩ | ⟨a, rfl, ha⟩ <;> rcases h2 with ⟨b', hb', hp', hr'⟩ | ⟨a', e, ha'⟩
    · obtain rfl := hb.uniq hb'
      refine Classical.byContradiction fun hne => hr (apart i j b hne hp1 hp')
    · subst e
      have := hb.cell
      subst this
      exact absurd (hX.maysh _ _ _ _ ha') (sh i _ hp1)
    · have := hb'.cell
      subst this
      exact absurd (hX.maysh _ _ _ _ ha) (sh j _ hp')
    · cases e
      exact hX.mayx _ _ _ _ _ ha ha'
  · rcases h1 with ⟨b, hb, hp1, hr⟩ | ⟨a, rfl, ha⟩ <;> rcases h2 with ⟨b', hb', hp', hr'⟩ | ⟨a', e, ha'⟩
    · obtain rfl := hb.uniq hb'
      exact absurd hr' hr
    · subst e
      have := hb.cell
      subst this
      exact absurd (hX.maysh _ _ _ _ ha') (sh i _ hp1)
    · have := hb'.cell
      subst this
      exact absurd (hX.maysh _ _ _ _ ha) (sh j _ hp')
    · cases e
      exact hX.mayx _ _ _ _ _ ha ha'
  · obtain ⟨a, rfl, ha⟩ := h2
    rcases h1 with ⟨b, hb, hp1, hr⟩ | ⟨a', e, ha'⟩
    · have := hb.cell
      subst this
      exact sh i _ hp1 (hX.atsh _ _ ha)
    · cases e
      exact hX.mayat _ _ _ _ ha' ha
  · obtain ⟨a, rfl, ha⟩ := h2
    rcases h1 with ⟨b, hb, hp1, hr⟩ | ⟨a', e, ha'⟩
    · have := hb.cell
      subst this
      exact sh i _ hp1 (hX.atsh _ _ ha)
    · cases e
      exact hX.mayat _ _ _ _ ha' ha
  · rcases h2 with ⟨b, hb, hp⟩ | ⟨a', rfl, ha⟩
    · rcases h1 with ⟨b', hb', hp', _⟩ | ⟨a', rfl, ha'⟩
      · obtain rfl := hb.uniq hb'
        exact bap _ _ _ hp hp'
      · have := hb.cell
        subst this
        exact bsh _ _ hp (hX.maysh _ _ _ _ ha')
    · rcases h1 with ⟨b', hb', hp', _⟩ | ⟨a'', e, ha'⟩
      · have := hb'.cell
        subst this
        exact sh i _ hp' (hX.bmsh _ _ _ ha)
      · cases e
        exact hX.bmx _ _ _ _ _ ha ha'
  · rcases h2 with ⟨b, hb, hp⟩ | ⟨a', rfl, ha⟩
    · rcases h1 with ⟨b', hb', hp', _⟩ | ⟨a', rfl, ha'⟩
      · obtain rfl := hb.uniq hb'
        exact bap _ _ _ hp hp'
      · have := hb.cell
        subst this
        exact bsh _ _ hp (hX.maysh _ _ _ _ ha')
    · rcases h1 with ⟨b', hb', hp', _⟩ | ⟨a'', e, ha'⟩
      · have := hb'.cell
        subst this
        exact sh i _ hp' (hX.bmsh _ _ _ ha)
      · cases e
        exact hX.bmx _ _ _ _ _ ha ha'
  · obtain ⟨a', rfl, ha⟩ := h2
    rcases h1 with ⟨b, hb, hp⟩ | ⟨a'', e, ha'⟩
    · have := hb.cell
      subst this
      exact bsh _ _ hp (hX.atsh _ _ ha)
    · cases e
      exact hX.bmat _ _ _ ha' ha
  · rcases h1 with ⟨b, hb, hp⟩ | ⟨a1, rfl, ha⟩ <;> rcases h2 with ⟨b', hb', hp'⟩ | ⟨a2, e, ha'⟩
    · obtain rfl := hb.uniq hb'
      exact two _ _ _ hp hp'
    · subst e
      have := hb.cell
      subst this
      exact absurd (hX.bmsh _ _ _ ha') (bsh _ _ hp)
    · have := hb'.cell
      subst this
      exact absurd (hX.bmsh _ _ _ ha) (bsh _ _ hp')
    · cases e
      exact hX.bm2 _ _ _ _ ha ha'
theorem touch_ev {e : Event} {b : Touch} (h1 : ∀ a, e.loc ≠ .mark (.read a)) (h2 : ∀ a, e.loc ≠ .mark (.write a)) (hb : (MemAct.ofEvent e).touch? = some b) : b.kind ≠ .said /\ b.loc = e.loc /\ b.write = e.write /\ (e.sync = true -> b.kind = .atomic) /\ (e.sync = false -> b.kind = .plain) := by
  obtain ⟨loc, wr, sy⟩ := e
  cases loc with
  | mark m =>
    cases m <;> simp [MemAct.ofEvent, MemAct.touch?] at hb
    · exact absurd rfl (h1 _)
    · exact absurd rfl (h2 _)
  | obj r =>
    cases wr <;> cases sy <;> simp [MemAct.ofEvent, MemAct.touch?] at hb <;> subst hb <;> simp
  | _ =>
    simp [MemAct.ofEvent, MemAct.touch?] at hb
    subst hb
    cases sy <;> simp
theorem not_pres_empty (b : Nat) : ¬ Pres (#[] : Hp) b := fun ⟨o, h, _⟩ => by simp at h
theorem Mi.lt (M : Mi X γ n H T hs γs) {i b : Nat} (hp : Hold X γ hs i b) : i < n := by
  rcases Nat.lt_or_ge i n with h | h
  · exact h
  · rcases hp with hp | ⟨hf, he, _⟩
    · rw [M.hout i h] at hp; exact absurd hp (not_pres_empty b)
    · rw [M.fout i h] at he; cases he
theorem Mi.hlt (M : Mi X γ n H T hs γs) {i b : Nat} (hp : Hold X γ hs i b) : b < H.size := by
  rcases hp with hp | ⟨hf, he, hp⟩
  · have := hp.lt
    have := (M.part i (M.lt (.inl hp))).size
    omega
  · have := hp.lt
    have := (M.fin i hf he).size
    omega
theorem hold_ne {h' : Hp} {i j b : Nat} (hj : j ≠ i) : Hold X γ (upd hs i h') j b ↔ Hold X γ hs j b := by
  unfold Hold
  rw [upd_ne hs h' hj]
theorem Mi.ok (M : Mi X γ n H T hs γs) (hX : X.Ok) : (claims X γ hs).Ok :=
  claims_ok hX (fun a c b hac ha hc => M.apart a c b (M.lt (.inl ha)) (M.lt (.inl hc)) hac (.inl ha) (.inl hc)) (fun a b ha => M.sh a b (M.lt (.inl ha)) (.inl ha)) (fun a i b hp hq => M.bg.ap a i b (M.lt (.inl hq)) hp (.inl hq)) M.bg.two M.bg.sh
theorem bag_at (hX : X.Ok) {a : Addr} {l : Loc} (h : (claims X γ hs).bag a l) : (X.cf γ).at_ a := by
  refine hX.bat γ a fun ⟨h1, h2⟩ => ?_
  rcases h with ⟨b, _, hp⟩ | ⟨a', _, hp⟩
  · exact h1 b hp
  · exact h2 _ hp
theorem Mi.mute (M : Mi X γ n H T hs γs) (hX : X.Ok) {i : Nat} (hi : i < n) {es : Array Event} (fn : FuncId) (pos : String) (hes : ∀ e ∈ es, Event.mute e = true) : Mi X γ n H (T ++ MemOp.ofEvents i fn pos es) hs γs := by
  have hn : ∀ op ∈ MemOp.ofEvents i fn pos es, op.act.touch? = none := fun op hop => by
    obtain ⟨e, he, rfl⟩ := Go.Conc.mem_ofEvents hop
    exact touch_mute (hes e he)
  refine ⟨M.num, M.pos, M.inv, M.rel, M.dn, M.part, M.fin, M.apart, M.sh, M.back, M.rocell, M.shlt, M.rosh, fun x a b hx hl => ?_, ?_, M.lone, M.jl, M.fout, M.hout, M.bg⟩
  · obtain ⟨op, ho, hoa⟩ := touch_of hx
    rcases getElem?_append_cases ho with ⟨_, ho'⟩ | ⟨_, hou⟩
    · exact M.low x a b (by rw [touchAt_of ho']; exact hoa) hl
    · rw [hn op hou] at hoa; cases hoa
  · refine M.tf.app (M.ok hX) hi (fun op hop => by obtain ⟨e, _, rfl⟩ := Go.Conc.mem_ofEvents hop; rfl) (fun op hop b hb => by rw [hn op hop] at hb; cases hb) (fun ad op hop hop' => ?_) (fun _ _ => ⟨fun x hx hg hcnt => ?_, fun op hop b hb => by rw [hn op hop] at hb; cases hb⟩) fun a l _ op hop sy e => by
      have := hn op hop
      rw [e] at this
      simp [MemAct.touch?] at this
    · obtain ⟨e, he, rfl⟩ := Go.Conc.mem_ofEvents hop
      have := hes e he
      obtain ⟨loc, wr, sy⟩ := e
      cases loc with
      | mark m => cases m <;> simp [Event.mute, MemAct.ofEvent] at this hop'
      | _ => simp [Event.mute] at this
    · obtain ⟨y, hy, _⟩ := hcnt
      obtain ⟨op, ho, hoa⟩ := touch_of (t := T ++ MemOp.ofEvents i fn pos es) (i := x) hy
      rcases getElem?_append_cases ho with ⟨hlt, _⟩ | ⟨_, hou⟩
      · omega
      · rw [hn op hou] at hoa; cases hoa
theorem Mi.own (M : Mi X γ n H T hs γs) (hX : X.Ok) {i : Nat} (hi : i < n) (hnd : 0 < i -> ¬ X.done i γ) {L : Prop} {S : Addr -> Prop} {hv h' H' : Hp} {es : Array Event} (fn : FuncId) (pos : String)
    (hS : ∀ a : Addr, S a ↔ (X.cf γ).ro a.block) (hL : i = 0 /\ X.lone (γs 0) -> L) (hpv : ∀ b, Pres hv b ↔ Pres (hs i) b) (hc : Chg L S hv H h' H') (hes : ∀ e ∈ es, EvOk S e /\ EvIn (Pres h') e)
    (hfin : 0 < i -> (X.fin γ i).isSome = true -> h' = #[]) : Mi X γ n H' (T ++ MemOp.ofEvents i fn pos es) (upd hs i h') γs := by
  have hsz : H.size <= H'.size := hc.ok.size
  have hstay : ∀ b, (X.cf γ).ro b -> H'[b]? = H[b]? := fun b hb => by
    obtain ⟨c, e, f, hcl⟩ := M.rocell b hb
    rw [hcl]
    exact hc.stay b c e f (fun a ha => (hS a).2 (ha ▸ hb)) hcl
  have hkeep : ∀ j b, j ≠ i -> Hold X γ hs j b -> H'[b]? = H[b]? := fun j b hj hb => by
    by_cases hp : Pres (hs i) b
    · exact hstay b (M.apart j i b (M.lt hb) hi hj hb (.inl hp))
    · exact hc.frame b (fun z => hp ((hpv b).1 z)) (M.hlt hb)
  have hnew : ∀ b, Pres h' b -> Pres (hs i) b \/ H.size <= b := fun b hb => (hc.new b hb).imp (hpv b).1 id
  have hfi : ∀ hf b, X.fin γ i = some hf -> Pres h' b -> False := fun hf b e hb => by
    rcases Nat.eq_zero_or_pos i with z | z
    · subst z; rw [hX.fin0] at e; cases e
    · rw [hfin z (by rw [e]; rfl)] at hb; exact not_pres_empty b hb
  have hfi2 : ∀ hf b, X.fin γ i = some hf -> Pres (hs i) b -> False := fun hf b e hb => by
    rcases Nat.eq_zero_or_pos i with z | z
    · subst z; rw [hX.fin0] at e; cases e
    · rw [M.back i z hi (by rw [e]; rfl)] at hb; exact not_pres_empty b hb
  have hpart : ∀ {L' : Prop} {a : Hp} {j : Nat}, (∀ b, Pres a b -> H'[b]? = H[b]?) -> (L' -> H'.size = H.size) -> Part L' a H -> Part L' a H' := fun {L' a j} h1 h2 x =>
    ⟨fun b o hb ho => by rw [h1 b ⟨o, hb, ho⟩]; exact x.get b o hb ho, Nat.le_trans x.size hsz, fun hl => by rw [h2 hl]; exact x.same hl⟩
  have hhold : ∀ b, Hold X γ (upd hs i h') i b -> Hold X γ hs i b \/ H.size <= b := fun b hb => by
    rcases hb with hb | ⟨hf, he, hb⟩
    · rw [upd_same] at hb
      exact (hnew b hb).imp .inl id
    · exact .inl (.inr ⟨hf, he, hb⟩)
  have hap : ∀ a c b, a ≠ c -> Hold X γ (upd hs i h') a b -> Hold X γ (upd hs i h') c b -> (X.cf γ).ro b := fun a c b hac ha hc' => by
    by_cases ea : a = i
    · subst ea
      have hc2 := (hold_ne (fun z => hac z.symm)).1 hc'
      rcases hhold b ha with ha | ha
      · exact M.apart a c b hi (M.lt hc2) hac ha hc2
      · have := M.hlt hc2; omega
    · have ha2 := (hold_ne ea).1 ha
      by_cases ec : c = i
      · subst ec
        rcases hhold b hc' with hc2 | hc2
        · exact M.apart a c b (M.lt ha2) hi hac ha2 hc2
        · have := M.hlt ha2; omega
      · have hc2 := (hold_ne ec).1 hc'
        exact M.apart a c b (M.lt ha2) (M.lt hc2) hac ha2 hc2
  have hsh : ∀ a b, Hold X γ (upd hs i h') a b -> ¬ (X.cf γ).shb b := fun a b ha hb => by
    by_cases ea : a = i
    · subst ea
      rcases hhold b ha with ha | ha
      · exact M.sh a b hi ha hb
      · have := M.shlt b hb; omega
    · have ha2 := (hold_ne ea).1 ha
      exact M.sh a b (M.lt ha2) ha2 hb
  have hopg : ∀ op ∈ MemOp.ofEvents i fn pos es, op.g = i := fun op hop => by obtain ⟨e, _, rfl⟩ := Go.Conc.mem_ofEvents hop; rfl
  have hblt : ∀ a b, Pres (X.bag γ a) b -> b < H.size := fun a b hb => by
    have := hb.lt
    have := (M.bg.part a).size
    omega
  have hbg : Bags X γ n H' (upd hs i h') := ⟨fun a => hpart (j := 0) (fun b hb => hc.frame b (fun z => M.bg.ap a i b hi hb (.inl ((hpv b).1 z))) (hblt a b hb)) (fun z => z.elim) (M.bg.part a), fun a j b hj hb hh => by
    by_cases ea : j = i
    · subst ea
      rcases hhold b hh with hh | hh
      · exact M.bg.ap a j b hi hb hh
      · have := hblt a b hb; omega
    · exact M.bg.ap a j b hj hb ((hold_ne ea).1 hh), M.bg.two, M.bg.sh, M.bg.ro⟩
  refine ⟨M.num, M.pos, hX.inv γ H H' (fun b hb => hc.frame b (fun z => M.sh i b hi (.inl ((hpv b).1 z)) hb) (M.shlt b hb)) M.inv, M.rel, M.dn, fun j hj => ?_, fun j hf he => ?_, fun a c b _ _ => hap a c b, fun a b _ => hsh a b, fun j hj0 hj hs' => ?_,
    fun b hb => ?_, fun b hb => Nat.lt_of_lt_of_le (M.shlt b hb) hsz, M.rosh, fun x a b hx hl => ?_, ?_, M.lone, M.jl, M.fout, fun j hj => ?_, hbg⟩
  · by_cases e : j = i
    · subst e
      rw [upd_same]
      exact ⟨hc.sub.get, hc.sub.size, fun hl => hc.sub.same (hL hl)⟩
    · rw [upd_ne hs h' e]
      refine hpart (j := j) (fun b hb => hkeep j b e (.inl hb)) (fun ⟨e0, hl⟩ => ?_) (M.part j hj)
      subst e0
      have hi0 : 0 < i := by omega
      have := hX.lone γ i (by rw [M.lone hl]; exact hl) hi0 (by rw [M.num]; exact hi)
      exact absurd this (hnd hi0)
  · by_cases e : j = i
    · subst e
      refine hpart (j := j) (fun b hb => ?_) (fun z => z.elim) (M.fin j hf he)
      exact hc.frame b (fun z => hfi2 hf b he ((hpv b).1 z)) (M.hlt (.inr ⟨hf, he, hb⟩))
    · exact hpart (j := j) (fun b hb => hkeep j b e (.inr ⟨hf, he, hb⟩)) (fun z => z.elim) (M.fin j hf he)
  · by_cases e : j = i
    · subst e; rw [upd_same]; exact hfin hj0 hs'
    · rw [upd_ne hs h' e]; exact M.back j hj0 hj hs'
  · rw [hstay b hb]; exact M.rocell b hb
  · obtain ⟨op, ho, hoa⟩ := touch_of hx
    rcases getElem?_append_cases ho with ⟨_, ho'⟩ | ⟨_, hou⟩
    · exact Nat.lt_of_lt_of_le (M.low x a b (by rw [touchAt_of ho']; exact hoa) hl) hsz
    · obtain ⟨e, he, rfl⟩ := Go.Conc.mem_ofEvents hou
      obtain ⟨hev, hin⟩ := hes e he
      obtain ⟨_, h2, _⟩ := touch_ev hev.2.1 hev.2.2.1 hoa
      have hp : Pres h' b := by
        rw [h2] at hl
        rcases hl with ⟨ad, e1, rfl⟩ | e1
        · exact hin.1 ad e1
        · exact hin.2 b e1
      have := hp.lt
      have := hc.sub.size
      omega
  · have hw : Tf (X.cf γ).ad (fun l => LocB l (X.cf γ).wg) n (claims X γ (upd hs i h')) (fun i => (X.fin γ i).isSome = true) (X.jn γ) T := by
      have hun : ∀ l b, LocB l b -> H.size <= b -> Untouched T l := fun l b hl hb x a hx e => by
        have := M.low x a b hx (e ▸ hl)
        omega
      refine M.tf.weak (fun j hj l hl => ?_) (fun j hj l hl => ?_) (fun j hj l hl => .inl hl) (fun a l hl => .inl hl)
      · by_cases e : j = i
        · subst e
          rcases hl with ⟨b, hb, hp, hr⟩ | hl
          · rw [upd_same] at hp
            rcases hnew b hp with hp | hp
            · exact .inl (.inl ⟨b, hb, hp, hr⟩)
            · exact .inr (hun l b hb hp)
          · exact .inl (.inr hl)
        · rcases hl with ⟨b, hb, hp, hr⟩ | hl
          · rw [upd_ne hs h' e] at hp
            exact .inl (.inl ⟨b, hb, hp, hr⟩)
          · exact .inl (.inr hl)
      · by_cases e : j = i
        · subst e
          rcases hl with ⟨b, hb, hp, hr⟩ | hl
          · rw [upd_same] at hp
            rcases hnew b hp with hp | hp
            · exact .inl (.inl ⟨b, hb, hp, hr⟩)
            · exact .inr (.inr (hun l b hb hp))
          · exact .inl (.inr hl)
        · rcases hl with ⟨b, hb, hp, hr⟩ | hl
          · rw [upd_ne hs h' e] at hp
            exact .inl (.inl ⟨b, hb, hp, hr⟩)
          · exact .inl (.inr hl)
    refine hw.app (claims_ok hX (fun a c b hac ha hc' => hap a c b hac (.inl ha) (.inl hc')) (fun a b ha => hsh a b (.inl ha)) (fun a j b hp hq => ?_) M.bg.two M.bg.sh) hi hopg (fun op hop b hb => ?_) (fun ad op hop hop' => ?_) (fun hi0 hs' => ?_) fun a l hl op hop sy hop' => ?_
    · rcases Nat.lt_or_ge j n with hj | hj
      · exact hbg.ap a j b hj hp (.inl hq)
      · rw [upd_ne hs h' (by omega), M.hout j hj] at hq; exact not_pres_empty b hq
    · obtain ⟨e, he, rfl⟩ := Go.Conc.mem_ofEvents hop
      obtain ⟨hev, hin⟩ := hes e he
      obtain ⟨h1, h2, h3, _⟩ := touch_ev hev.2.1 hev.2.2.1 hb
      refine ⟨fun z => absurd z h1, ?_⟩
      have hloc : ∃ b', LocB b.loc b' /\ Pres h' b' /\ ((X.cf γ).ro b' -> b.write = false) := by
        rw [h2]
        cases hl : e.loc with
        | cell a =>
          refine ⟨a.block, .inl ⟨a, rfl, rfl⟩, hin.1 a hl, fun hr => ?_⟩
          cases hw' : b.write with
          | false => rfl
          | true => exact absurd ((hS a).2 hr) (hev.1 a hl (by rw [<- h3]; exact hw'))
        | obj r =>
          refine ⟨r, .inr rfl, hin.2 r hl, fun hr => ?_⟩
          cases hw' : b.write with
          | false => rfl
          | true => exact absurd ((hS ⟨r, 0, none⟩).2 hr) (hev.2.2.2.1 r hl (by rw [<- h3]; exact hw')).2
        | output => exact absurd hl hev.2.2.2.2.1
        | goroutines => exact absurd hl hev.2.2.2.2.2.1
        | mark m =>
          exfalso
          obtain ⟨loc, wr, sy⟩ := e
          cases hl
          cases m <;> simp [MemAct.ofEvent, MemAct.touch?] at hb
          · exact hev.2.1 _ rfl
          · exact hev.2.2.1 _ rfl
      obtain ⟨b', hb', hp', hr'⟩ := hloc
      by_cases hro : (X.cf γ).ro b'
      · exact .inr (.inl ⟨hr' hro, .inl ⟨b', hb', by rw [upd_same]; exact hp', hro⟩, h1⟩)
      · exact .inl (.inl ⟨b', hb', by rw [upd_same]; exact hp', hro⟩)
    · obtain ⟨e, he, rfl⟩ := Go.Conc.mem_ofEvents hop
      obtain ⟨hev, hin⟩ := hes e he
      obtain ⟨loc, wr, sy⟩ := e
      cases loc with
      | mark m =>
        have hr := hev.2.2.2.2.2.2.2 ad
        injection hop' with hop'
        exact hr (by rw [hop'])
      | obj r => cases wr <;> cases sy <;> cases hop'
      | _ => cases hop'
    · have hnone : ∀ op ∈ MemOp.ofEvents i fn pos es, op.act.touch? = none := fun op hop => by
        obtain ⟨e, he, rfl⟩ := Go.Conc.mem_ofEvents hop
        obtain ⟨hev, hin⟩ := hes e he
        rw [hfin hi0 hs'] at hin
        obtain ⟨loc, wr, sy⟩ := e
        cases loc with
        | cell a => exact absurd (hin.1 a rfl) (not_pres_empty _)
        | obj r => exact absurd (hin.2 r rfl) (not_pres_empty _)
        | output => exact absurd rfl hev.2.2.2.2.1
        | goroutines => exact absurd rfl hev.2.2.2.2.2.1
        | mark m =>
          cases m <;> first | rfl | exact absurd rfl (hev.2.1 _) | exact absurd rfl (hev.2.2.1 _)
      refine ⟨fun x hx hg hcnt => ?_, fun op hop b hb => by rw [hnone op hop] at hb; cases hb⟩
      obtain ⟨y, hy, _⟩ := hcnt
      obtain ⟨op, ho, hoa⟩ := touch_of (t := T ++ MemOp.ofEvents i fn pos es) (i := x) hy
      rcases getElem?_append_cases ho with ⟨hlt, _⟩ | ⟨_, hou⟩
      · omega
      · rw [hnone op hou] at hoa; cases hoa
    · obtain ⟨e, he, rfl⟩ := Go.Conc.mem_ofEvents hop
      obtain ⟨hev, hin⟩ := hes e he
      have hat := hX.atsh _ _ (bag_at hX hl)
      obtain ⟨loc, wr, sy'⟩ := e
      cases loc with
      | cell a' =>
        injection hop' with hop'
        injection hop' with e1
        injection e1 with e1
        subst e1
        exact hsh i _ (.inl (by rw [upd_same]; exact hin.1 a' rfl)) hat
      | mark m => cases m <;> cases hop'
      | obj r => cases wr <;> cases sy' <;> cases hop'
      | _ => cases hop'
  · have : j ≠ i := by omega
    rw [upd_ne hs h' this]; exact M.hout j hj
end
end
section
variable [Dm]
open Go Go.Conc
open Go.ConcM (OsLater)
open Go.ConcN (upd upd_ne upd_same)
variable {Γ : Type}
section
variable {X : Fp Γ} {γ γ₂ : Γ} {n : Nat} {H H' : Hp} {T : Trace} {hs : Nat -> Hp} {γs : Nat -> Γ}
theorem late_uncounted {i wg : Nat} {fn : FuncId} {pos : String} {es : Array Event} (h : Late wg (Deaf T i) es) : ∀ x, T.size <= x -> (T ++ MemOp.ofEvents i fn pos es).g? x = some i -> ¬ (T ++ MemOp.ofEvents i fn pos es).counts x := by
  intro x hx _ ⟨y, hy, _, hk⟩
  obtain ⟨op, ho, hoa⟩ := touch_of (t := T ++ MemOp.ofEvents i fn pos es) (i := x) hy
  have hj : (MemOp.ofEvents i fn pos es)[x - T.size]? = some op := by
    rw [Array.getElem?_append] at ho
    simpa [Nat.not_lt.2 hx] using ho
  rw [ofEvents_eq, Array.getElem?_map] at hj
  obtain ⟨e, he, rfl⟩ := Option.map_eq_some_iff.1 hj
  have hjs : x - T.size <= es.size := by
    rcases Nat.lt_or_ge (x - T.size) es.size with h' | h'
    · omega
    · rw [Array.getElem?_eq_none h'] at he; cases he
  rcases h _ e he with h0 | ⟨hsy, ⟨a, hl, _⟩, hd⟩
  · simp only at hoa; rw [h0] at hoa; cases hoa
  · have hne : ∀ m, e.loc ≠ .mark m := fun m => by rw [hl]; exact nofun
    have hka := (touch_ev (fun a => hne _) (fun a => hne _) hoa).2.2.2.1 hsy
    rcases hk with hk | ⟨g, hg, hdf⟩
    · exact hk hka
    · have hg1 : g = i := by simp [Trace.g?, ho] at hg; exact hg.symm
      subst hg1
      have := deaf_inside T g fn pos es (x - T.size) hjs
      rw [show T.size + (x - T.size) = x by omega, hdf] at this
      omega
theorem evS_touch {i : Nat} {e : Event} {b : Touch} (h : EvS X i γ e) (hb : (MemAct.ofEvent e).touch? = some b) :
    TouchOk (claims X γ hs) i b /\ ∃ a, b.loc = .cell a /\ ((X.cf γ).at_ a \/ ∃ w, X.may i γ a w) := by
  obtain ⟨h1, h2, h3, h4, h5⟩ := h
  obtain ⟨loc, wr, sy⟩ := e
  cases loc with
  | cell a =>
    obtain ⟨k1, k2, k3, k4, k5⟩ := touch_ev (fun _ => Loc.noConfusion) (fun _ => Loc.noConfusion) hb
    simp only at k2 k3 k4 k5
    rcases h1 a rfl with ⟨hs', ha, _⟩ | ⟨hs', hm⟩
    · exact ⟨⟨fun z => absurd z k1, .inr (.inr (.inl ⟨k4 hs', by rw [k2]; exact ⟨a, rfl, ha⟩⟩))⟩, a, k2, .inl ha⟩
    · refine ⟨⟨fun z => absurd z k1, ?_⟩, a, k2, .inr (hm.elim (fun z => ⟨_, z⟩) fun z => ⟨_, z⟩)⟩
      rcases hm with hm | hm
      · cases wr with
        | true => exact .inl (.inr ⟨a, k2, hm⟩)
        | false => exact .inr (.inl ⟨k3, .inr ⟨a, k2, hm⟩, k1⟩)
      · exact .inl (.inr ⟨a, k2, hm⟩)
  | obj r => exact absurd rfl (h2 r)
  | output => exact absurd rfl h3
  | goroutines => exact absurd rfl h4
  | mark m =>
    obtain ⟨_, _, hm⟩ := h5 m rfl
    cases m <;> simp [MemAct.ofEvent, MemAct.touch?] at hb
    · subst hb
      obtain ⟨h0, ha⟩ := hm _ (.inl rfl)
      exact ⟨⟨fun _ => h0, .inr (.inr (.inr ⟨h0, rfl, _, rfl, ha⟩))⟩, _, rfl, .inl ha⟩
    · subst hb
      obtain ⟨h0, ha⟩ := hm _ (.inr rfl)
      exact ⟨⟨fun _ => h0, .inr (.inr (.inr ⟨h0, rfl, _, rfl, ha⟩))⟩, _, rfl, .inl ha⟩
theorem noRel_ofS {i : Nat} {fn : FuncId} {pos : String} {es : Array Event} (hes : ∀ e ∈ es, EvS X i γ e) (ad : Addr) : ∀ op ∈ MemOp.ofEvents i fn pos es, op.act ≠ .mark (.release ad) := by
  intro op hop hop'
  obtain ⟨e, he, rfl⟩ := Go.Conc.mem_ofEvents hop
  obtain ⟨loc, wr, sy⟩ := e
  cases loc with
  | mark m =>
    injection hop' with hop'
    exact ((hes _ he).2.2.2.2 m rfl).2.1 ad hop'
  | obj r => cases wr <;> cases sy <;> cases hop'
  | _ => cases hop'
theorem partS (hsh : ∀ b, ¬ (X.cf γ).shb b -> H'[b]? = H[b]?) (hsz : H'.size = H.size) {L L' : Prop} {a : Hp} (hb : ∀ b, Pres a b -> ¬ (X.cf γ).shb b) (hL : L' -> L) (hp : Part L a H) : Part L' a H' :=
  ⟨fun b o h1 h2 => by rw [hsh b (hb b ⟨o, h1, h2⟩)]; exact hp.get b o h1 h2, by rw [hsz]; exact hp.size, fun hl => by rw [hsz]; exact hp.same (hL hl)⟩
theorem Mi.op (M : Mi X γ n H T hs γs) (hX : X.Ok) {i : Nat} (hi : i < n) (hnd : 0 < i -> ¬ X.done i γ) {es : Array Event} (fn : FuncId) (pos : String)
    (hsh : ∀ b, ¬ (X.cf γ).shb b -> H'[b]? = H[b]?) (hsz : H'.size = H.size) (hinv : X.Inv γ₂ H') (hmv : Mv X i γ γ₂) (hfin : X.fin γ₂ i = X.fin γ i) (hes : ∀ e ∈ es, EvS X i γ e) (hlate : 0 < i -> (X.fin γ i).isSome = true -> Late (X.cf γ).wg (Deaf T i) es)
    (hln : X.lone γ₂ ↔ X.lone γ) : Mi X γ₂ n H' (T ++ MemOp.ofEvents i fn pos es) hs (upd γs i γ₂) := by
  have hf : ∀ j, X.fin γ₂ j = X.fin γ j := fun j => by
    by_cases e : j = i
    · subst e; exact hfin
    · exact hmv.fin j e
  have hh : ∀ j b, Hold X γ₂ hs j b ↔ Hold X γ hs j b := fun j b => by unfold Hold; rw [hf]
  have hln0 : X.lone (upd γs i γ₂ 0) -> X.lone (γs 0) := fun hl => by
    by_cases e : 0 = i
    · subst e
      rw [upd_same] at hl
      exact (hX.loneR _ _ (M.rel 0 hi (fun z => absurd z (Nat.lt_irrefl _)))).1 (hln.1 hl)
    · rwa [upd_ne γs γ₂ e] at hl
  refine ⟨hmv.num.trans M.num, M.pos, hinv, fun j hj hd => ?_, fun j hj0 hj => ?_, fun j hj => partS hsh hsz (fun b hb => M.sh j b hj (.inl hb)) (fun ⟨h0, hl⟩ => ⟨h0, hln0 hl⟩) (M.part j hj), fun j hf' he => ?_, fun a c b ha hc hac h1 h2 => ?_, fun a b ha h1 => ?_, fun j hj0 hj he => ?_,
    fun b hb => ?_, fun b hb => ?_, ?_, fun x a b hx hl => ?_, ?_, fun hl => ?_, fun hl => ?_, fun j hj => (hf j).trans (M.fout j hj), M.hout, ?_⟩
  · by_cases e : j = i
    · subst e; rw [upd_same]; exact hX.refl _ _
    · rw [upd_ne γs γ₂ e]
      have hd' : 0 < j -> ¬ X.done j γ := fun h0 hd' => hd h0 ((hmv.done j e).2 hd')
      exact hX.trans _ _ _ _ (M.rel j hj hd') (hmv.R j e (by rw [M.num]; exact hj) hd')
  · by_cases e : j = i
    · subst e; rw [upd_same]
    · rw [upd_ne γs γ₂ e]; exact (hmv.done j e).trans (M.dn j hj0 hj)
  · rw [hf] at he
    have hlt : j < n := by
      rcases Nat.lt_or_ge j n with y | y
      · exact y
      · rw [M.fout j y] at he; cases he
    exact partS hsh hsz (fun b hb => M.sh j b hlt (.inr ⟨hf', he, hb⟩)) id (M.fin j hf' he)
  · rw [hmv.cf]; exact M.apart a c b ha hc hac ((hh a b).1 h1) ((hh c b).1 h2)
  · rw [hmv.cf]; exact M.sh a b ha ((hh a b).1 h1)
  · rw [hf] at he; exact M.back j hj0 hj he
  · rw [hmv.cf] at hb
    rw [hsh b (M.rosh b hb)]; exact M.rocell b hb
  · rw [hmv.cf] at hb
    rw [hsz]; exact M.shlt b hb
  · rw [hmv.cf]; exact M.rosh
  · obtain ⟨op, ho, hoa⟩ := touch_of hx
    rw [hsz]
    rcases getElem?_append_cases ho with ⟨_, ho'⟩ | ⟨_, hou⟩
    · exact M.low x a b (by rw [touchAt_of ho']; exact hoa) hl
    · obtain ⟨e, he, rfl⟩ := Go.Conc.mem_ofEvents hou
      obtain ⟨_, ad, hl', hx'⟩ := evS_touch (hs := hs) (hes e he) hoa
      rw [hl'] at hl
      have := hl.cell
      subst this
      exact M.shlt _ (hx'.elim (hX.atsh _ _) fun ⟨w, hw⟩ => hX.maysh _ _ _ _ hw)
  · have hopg : ∀ op ∈ MemOp.ofEvents i fn pos es, op.g = i := fun op hop => by obtain ⟨e, _, rfl⟩ := Go.Conc.mem_ofEvents hop; rfl
    have h1 := M.tf.app (M.ok hX) hi hopg (fun op hop b hb => by obtain ⟨e, he, rfl⟩ := Go.Conc.mem_ofEvents hop; exact (evS_touch (hs := hs) (hes e he) hb).1) (noRel_ofS hes) (fun hi0 hs' => ⟨late_uncounted (hlate hi0 hs'), fun op hop b hb => by
      obtain ⟨e, he, rfl⟩ := Go.Conc.mem_ofEvents hop
      obtain ⟨j, hj⟩ := Array.mem_iff_getElem?.1 he
      rcases hlate hi0 hs' j e hj with h0 | ⟨hsy, ⟨a, hl, hb'⟩, _⟩
      · rw [h0] at hb; cases hb
      · have hne : ∀ m, e.loc ≠ .mark m := fun m => by rw [hl]; exact nofun
        obtain ⟨_, k2, _, k4, _⟩ := touch_ev (fun a => hne _) (fun a => hne _) hb
        exact ⟨.inl ⟨a, by rw [k2, hl], hb'⟩, k4 hsy⟩⟩) fun a l hl op hop sy hop' => by
      obtain ⟨e, he, rfl⟩ := Go.Conc.mem_ofEvents hop
      have hE := hes e he
      obtain ⟨loc, wr, sy'⟩ := e
      cases loc with
      | cell a' =>
        injection hop' with hop'
        injection hop' with e1 e2 e3
        injection e1 with e1
        subst e1 e2 e3
        rcases hE.1 a' rfl with ⟨_, _, hn⟩ | ⟨_, hm⟩
        · obtain ⟨n1, n2⟩ := hn rfl
          rcases hl with ⟨b, _, hp⟩ | ⟨l', _, hp⟩
          · exact n1 b hp
          · exact n2 _ hp
        · exact hm.elim (fun z => hX.mayat _ _ _ _ z (bag_at hX hl)) fun z => hX.mayat _ _ _ _ z (bag_at hX hl)
      | mark m => cases m <;> cases hop'
      | obj r => cases wr <;> cases sy' <;> cases hop'
      | _ => cases hop'
    rw [hmv.cf]
    have h2 : Tf (X.cf γ).ad (fun l => LocB l (X.cf γ).wg) n (claims X γ₂ hs) (fun i => (X.fin γ i).isSome = true) (X.jn γ) (T ++ MemOp.ofEvents i fn pos es) := by
      refine h1.weak (fun j _ l hl => .inl ?_) (fun j _ l hl => .inl ?_) (fun j _ l hl => .inl ?_) fun a l hl => .inl ?_
      · rcases hl with ⟨b, k1, k2, k3⟩ | ⟨a, rfl, k⟩
        · exact .inl ⟨b, k1, k2, by rwa [hmv.cf] at k3⟩
        · exact .inr ⟨a, rfl, hmv.may _ _ _ k⟩
      · rcases hl with ⟨b, k1, k2, k3⟩ | ⟨a, rfl, k⟩
        · exact .inl ⟨b, k1, k2, by rwa [hmv.cf] at k3⟩
        · exact .inr ⟨a, rfl, hmv.may _ _ _ k⟩
      · obtain ⟨a, rfl, k⟩ := hl
        exact ⟨a, rfl, by rwa [hmv.cf] at k⟩
      · rcases hl with ⟨b, k1, k2⟩ | ⟨l', rfl, k⟩
        · exact .inl ⟨b, k1, by rwa [hmv.bag] at k2⟩
        · exact .inr ⟨l', rfl, hmv.bmay _ _ k⟩
    have h3 := h2.relEq (rl' := fun i => (X.fin γ₂ i).isSome = true) fun j _ _ => by rw [hf]
    exact (propext hmv.jn : X.jn γ₂ = X.jn γ) ▸ h3
  · by_cases e : 0 = i
    · subst e; rw [upd_same]
    · rw [upd_ne γs γ₂ e] at hl
      have hg := M.lone hl
      exact absurd (hX.lone γ i (by rw [hg]; exact hl) (by omega) (by rw [M.num]; exact hi)) (hnd (by omega))
  · exact hln.2 (M.jl (hmv.jn.1 hl))
  · exact ⟨fun a => by rw [hmv.bag]; exact partS hsh hsz (M.bg.sh a) id (M.bg.part a), fun a j b hj hb hh' => M.bg.ap a j b hj (by rwa [hmv.bag] at hb) ((hh j b).1 hh'), fun a a' b h1 h2 => M.bg.two a a' b (by rwa [hmv.bag] at h1) (by rwa [hmv.bag] at h2), fun a b hb => by rw [hmv.cf]; exact M.bg.sh a b (by rwa [hmv.bag] at hb), fun a b hb => by rw [hmv.cf]; exact M.bg.ro a b (by rwa [hmv.bag] at hb)⟩
theorem Mi.release (M : Mi X γ n H T hs γs) (hX : X.Ok) {i : Nat} (h0 : 0 < i) (hi : i < n) (hnd : ¬ X.done i γ) (hd : Deaf T i = 0) (fn : FuncId) (pos : String) {hv : Hp} (hhv : hv = hs i)
    (hinv : X.Inv γ₂ H) (hmv : Mv X i γ γ₂) (hf0 : X.fin γ i = none) (hfin : X.fin γ₂ i = some hv) (hln : X.lone γ₂ ↔ X.lone γ) :
    Mi X γ₂ n H (T ++ MemOp.ofEvents i fn pos #[Go.ConcR.mk (.releaseMerge (X.cf γ).ad)]) (upd hs i #[]) (upd γs i γ₂) := by
  subst hhv
  have hnj : ¬ X.jn γ := fun hj => hnd (hX.lone γ i (M.jl hj) h0 (by rw [M.num]; exact hi))
  have hh : ∀ j b, Hold X γ₂ (upd hs i #[]) j b ↔ Hold X γ hs j b := fun j b => by
    unfold Hold
    by_cases e : j = i
    · subst e
      rw [upd_same, hfin, hf0]
      constructor
      · rintro (k | ⟨hf, k1, k2⟩)
        · exact absurd k (not_pres_empty b)
        · cases k1; exact .inl k2
      · rintro (k | ⟨hf, k1, k2⟩)
        · exact .inr ⟨_, rfl, k⟩
        · cases k1
    · rw [upd_ne hs #[] e, hmv.fin j e]
  have hln0 : upd γs i γ₂ 0 = γs 0 := upd_ne γs γ₂ (by omega)
  have hopn : ∀ op ∈ MemOp.ofEvents i fn pos #[Go.ConcR.mk (.releaseMerge (X.cf γ).ad)], op.act.touch? = none := fun op hop => by
    obtain ⟨e, he, rfl⟩ := Go.Conc.mem_ofEvents hop
    simp at he
    subst he
    rfl
  refine ⟨hmv.num.trans M.num, M.pos, hinv, fun j hj hd' => ?_, fun j hj0 hj => ?_, fun j hj => ?_, fun j hf' he => ?_, fun a c b ha hc hac h1 h2 => ?_, fun a b ha h1 => ?_, fun j hj0 hj he => ?_,
    ?_, ?_, ?_, fun x a b hx hl => ?_, ?_, fun hl => ?_, fun hl => ?_, fun j hj => ?_, fun j hj => ?_, ?_⟩
  · by_cases e : j = i
    · subst e; rw [upd_same]; exact hX.refl _ _
    · rw [upd_ne γs γ₂ e]
      have hd'' : 0 < j -> ¬ X.done j γ := fun k0 k => hd' k0 ((hmv.done j e).2 k)
      exact hX.trans _ _ _ _ (M.rel j hj hd'') (hmv.R j e (by rw [M.num]; exact hj) hd'')
  · by_cases e : j = i
    · subst e; rw [upd_same]
    · rw [upd_ne γs γ₂ e]; exact (hmv.done j e).trans (M.dn j hj0 hj)
  · rw [hln0]
    by_cases e : j = i
    · subst e; rw [upd_same]
      exact ⟨fun b o k _ => by simp at k, Nat.zero_le _, fun ⟨z, _⟩ => by omega⟩
    · rw [upd_ne hs #[] e]; exact M.part j hj
  · by_cases e : j = i
    · subst e
      rw [hfin] at he
      cases he
      exact (M.part j hi).weak
    · rw [hmv.fin j e] at he; exact M.fin j hf' he
  · rw [hmv.cf]; exact M.apart a c b ha hc hac ((hh a b).1 h1) ((hh c b).1 h2)
  · rw [hmv.cf]; exact M.sh a b ha ((hh a b).1 h1)
  · by_cases e : j = i
    · subst e; rw [upd_same]
    · rw [upd_ne hs #[] e]
      rw [hmv.fin j e] at he
      exact M.back j hj0 hj he
  · rw [hmv.cf]; exact M.rocell
  · rw [hmv.cf]; exact M.shlt
  · rw [hmv.cf]; exact M.rosh
  · obtain ⟨op, ho, hoa⟩ := touch_of hx
    rcases getElem?_append_cases ho with ⟨_, ho'⟩ | ⟨_, hou⟩
    · exact M.low x a b (by rw [touchAt_of ho']; exact hoa) hl
    · rw [hopn op hou] at hoa; cases hoa
  · have h1 := M.tf.release h0 hi hd hnj fn pos
    rw [hmv.cf]
    have h2 : Tf (X.cf γ).ad (fun l => LocB l (X.cf γ).wg) n (claims X γ₂ (upd hs i #[])) (fun j => (X.fin γ j).isSome = true \/ j = i) (X.jn γ) (T ++ MemOp.ofEvents i fn pos #[Go.ConcR.mk (.releaseMerge (X.cf γ).ad)]) := by
      refine h1.weak (fun j _ l hl => .inl ?_) (fun j _ l hl => .inl ?_) (fun j _ l hl => .inl ?_) fun a l hl => .inl ?_
      · rcases hl with ⟨b, k1, k2, k3⟩ | ⟨a, rfl, k⟩
        · by_cases e : j = i
          · subst e; rw [upd_same] at k2; exact absurd k2 (not_pres_empty b)
          · rw [upd_ne hs #[] e] at k2
            exact .inl ⟨b, k1, k2, by rwa [hmv.cf] at k3⟩
        · exact .inr ⟨a, rfl, hmv.may _ _ _ k⟩
      · rcases hl with ⟨b, k1, k2, k3⟩ | ⟨a, rfl, k⟩
        · by_cases e : j = i
          · subst e; rw [upd_same] at k2; exact absurd k2 (not_pres_empty b)
          · rw [upd_ne hs #[] e] at k2
            exact .inl ⟨b, k1, k2, by rwa [hmv.cf] at k3⟩
        · exact .inr ⟨a, rfl, hmv.may _ _ _ k⟩
      · obtain ⟨a, rfl, k⟩ := hl
        exact ⟨a, rfl, by rwa [hmv.cf] at k⟩
      · rcases hl with ⟨b, k1, k2⟩ | ⟨l', rfl, k⟩
        · exact .inl ⟨b, k1, by rwa [hmv.bag] at k2⟩
        · exact .inr ⟨l', rfl, hmv.bmay _ _ k⟩
    have h3 := h2.relEq (rl' := fun i => (X.fin γ₂ i).isSome = true) fun j _ _ => by
      by_cases e : j = i
      · subst e; rw [hfin]; exact ⟨fun _ => .inr rfl, fun _ => rfl⟩
      · rw [hmv.fin j e]; exact ⟨.inl, fun z => z.resolve_right e⟩
    exact (propext hmv.jn : X.jn γ₂ = X.jn γ) ▸ h3
  · rw [hln0] at hl
    have hg := M.lone hl
    exact absurd (hX.lone γ i (by rw [hg]; exact hl) h0 (by rw [M.num]; exact hi)) hnd
  · exact hln.2 (M.jl (hmv.jn.1 hl))
  · rw [hmv.fin j (by omega)]; exact M.fout j hj
  · rw [upd_ne hs #[] (by omega)]; exact M.hout j hj
  · exact ⟨fun a => by rw [hmv.bag]; exact M.bg.part a, fun a j b hj hb hh' => M.bg.ap a j b hj (by rwa [hmv.bag] at hb) ((hh j b).1 hh'), fun a a' b h1 h2 => M.bg.two a a' b (by rwa [hmv.bag] at h1) (by rwa [hmv.bag] at h2), fun a b hb => by rw [hmv.cf]; exact M.bg.sh a b (by rwa [hmv.bag] at hb), fun a b hb => by rw [hmv.cf]; exact M.bg.ro a b (by rwa [hmv.bag] at hb)⟩
theorem Mi.hand (M : Mi X γ n H T hs γs) (hX : X.Ok) {i : Nat} (h0 : 0 < i) (hi : i < n) (hnd : ¬ X.done i γ) (hd : Deaf T i = 0) (hf0 : X.fin γ i = none) (fn : FuncId) (pos : String) {a : Addr} {rd : Bool} {h h' : Hp} (hh : h = hs i)
    (hsh : ∀ b, ¬ (X.cf γ).shb b -> H'[b]? = H[b]?) (hsz : H'.size = H.size) (hinv : X.Inv γ₂ H') (G : HandG X i γ γ₂ a rd h h' H) (hln : X.lone γ₂ ↔ X.lone γ) :
    Mi X γ₂ n H' (T ++ MemOp.ofEvents i fn pos (handE a rd)) (upd hs i h') (upd γs i γ₂) := by
  subst hh
  have hgot : ∀ b, Pres h' b -> Pres (hs i) b \/ (rd = true /\ Pres (X.bag γ a) b) := fun b ⟨o, k1, k2⟩ => (G.got b o k1 k2).imp (fun z => ⟨o, z, k2⟩) fun ⟨z, z'⟩ => ⟨z, o, z', k2⟩
  have hput : ∀ b, Pres (X.bag γ₂ a) b -> ¬ (X.cf γ).ro b /\ (Pres (hs i) b \/ (rd = true /\ Pres (X.bag γ a) b)) := fun b ⟨o, k1, k2⟩ => (G.put b o k1 k2).imp id fun z => z.imp (fun z => ⟨o, z, k2⟩) fun ⟨z, z'⟩ => ⟨z, o, z', k2⟩
  have hi' : ∀ b, Hold X γ₂ (upd hs i h') i b -> Pres h' b := fun b hb => by
    rcases hb with hb | ⟨hf, he, _⟩
    · rwa [upd_same] at hb
    · rw [G.fin, hf0] at he; cases he
  have hj' : ∀ j b, j ≠ i -> Hold X γ₂ (upd hs i h') j b -> Hold X γ hs j b := fun j b hj hb => by
    unfold Hold at hb ⊢
    rwa [upd_ne hs h' hj, G.fin] at hb
  have hsh2 : ∀ j b, Hold X γ₂ (upd hs i h') j b -> ¬ (X.cf γ).shb b := fun j b hb => by
    by_cases e : j = i
    · subst e
      rcases hgot b (hi' b hb) with k | ⟨_, k⟩
      · exact M.sh j b hi (.inl k)
      · exact M.bg.sh a b k
    · have := hj' j b e hb
      exact M.sh j b (M.lt this) this
  have hbsh : ∀ a' b, Pres (X.bag γ₂ a') b -> ¬ (X.cf γ).shb b := fun a' b hb => by
    by_cases e : a' = a
    · subst e
      rcases (hput b hb).2 with k | ⟨_, k⟩
      · exact M.sh i b hi (.inl k)
      · exact M.bg.sh a' b k
    · rw [G.bago a' e] at hb; exact M.bg.sh a' b hb
  have hln0 : upd γs i γ₂ 0 = γs 0 := upd_ne γs γ₂ (by omega)
  have hops : ∀ op ∈ MemOp.ofEvents i fn pos (handE a rd), op.act.touch? = some ⟨.cell a, false, .atomic⟩ \/ op.act.touch? = some ⟨.cell a, true, .atomic⟩ := fun op hop => by
    obtain ⟨e, he, rfl⟩ := Go.Conc.mem_ofEvents hop
    unfold handE at he
    cases rd <;> simp at he
    · subst he; exact .inr rfl
    · rcases he with rfl | rfl
      · exact .inl rfl
      · exact .inr rfl
  have hap : ∀ j k b, j ≠ k -> Hold X γ₂ (upd hs i h') j b -> Hold X γ₂ (upd hs i h') k b -> (X.cf γ).ro b := fun j k b hjk h1 h2 => by
    by_cases ej : j = i
    · subst ej
      have h2' := hj' k b (fun z => hjk z.symm) h2
      rcases hgot b (hi' b h1) with q | ⟨_, q⟩
      · exact M.apart j k b hi (M.lt h2') hjk (.inl q) h2'
      · exact absurd h2' (M.bg.ap a k b (M.lt h2') q)
    · have h1' := hj' j b ej h1
      by_cases ek : k = i
      · subst ek
        rcases hgot b (hi' b h2) with q | ⟨_, q⟩
        · exact M.apart j k b (M.lt h1') hi hjk h1' (.inl q)
        · exact absurd h1' (M.bg.ap a j b (M.lt h1') q)
      · have h2' := hj' k b ek h2
        exact M.apart j k b (M.lt h1') (M.lt h2') hjk h1' h2'
  have hbap : ∀ a' j b, Pres (X.bag γ₂ a') b -> ¬ Hold X γ₂ (upd hs i h') j b := fun a' j b hb hhd => by
    by_cases ej : j = i
    · subst ej
      have hp := hi' b hhd
      by_cases ea : a' = a
      · subst ea; exact G.dj b hp hb
      · rw [G.bago a' ea] at hb
        rcases hgot b hp with q | ⟨_, q⟩
        · exact M.bg.ap a' j b hi hb (.inl q)
        · exact ea (M.bg.two _ _ b hb q)
    · have hp := hj' j b ej hhd
      by_cases ea : a' = a
      · subst ea
        obtain ⟨k1, k2⟩ := hput b hb
        rcases k2 with q | ⟨_, q⟩
        · exact k1 (M.apart i j b hi (M.lt hp) (fun z => ej z.symm) (.inl q) hp)
        · exact M.bg.ap a' j b (M.lt hp) q hp
      · rw [G.bago a' ea] at hb
        exact M.bg.ap a' j b (M.lt hp) hb hp
  have htwo1 : ∀ a' b, a' ≠ a -> Pres (X.bag γ₂ a) b -> ¬ Pres (X.bag γ₂ a') b := fun a' b e h1 h2 => by
    rw [G.bago a' e] at h2
    rcases (hput b h1).2 with q | ⟨_, q⟩
    · exact M.bg.ap a' i b hi h2 (.inl q)
    · exact e (M.bg.two _ _ b h2 q)
  have htwo : ∀ a' a'' b, Pres (X.bag γ₂ a') b -> Pres (X.bag γ₂ a'') b -> a' = a'' := fun a' a'' b h1 h2 => by
    by_cases e1 : a' = a
    · subst e1
      by_cases e2 : a'' = a'
      · exact e2.symm
      · exact absurd h2 (htwo1 a'' b e2 h1)
    · by_cases e2 : a'' = a
      · subst e2; exact absurd h1 (htwo1 a' b e1 h2)
      · rw [G.bago a' e1] at h1
        rw [G.bago a'' e2] at h2
        exact M.bg.two _ _ b h1 h2
  have hpd : ∀ {b : Nat} {o : Obj}, ((hs i)[b]? = some o \/ (rd = true /\ (X.bag γ a)[b]? = some o)) -> o ≠ dum -> H[b]? = some o := fun {b o} h1 h2 => h1.elim (fun z => (M.part i hi).get b o z h2) fun ⟨_, z⟩ => (M.bg.part a).get b o z h2
  have hp' : Part False h' H := ⟨fun b o k1 k2 => hpd (G.got b o k1 k2) k2, G.sz, fun z => z.elim⟩
  have hpb : Part False (X.bag γ₂ a) H := ⟨fun b o k1 k2 => hpd (G.put b o k1 k2).2 k2, G.szb, fun z => z.elim⟩
  refine ⟨G.num.trans M.num, M.pos, hinv, fun j hj hd' => ?_, fun j hj0 hj => ?_, fun j hj => ?_, fun j hf' he => ?_, fun j k b _ _ hjk h1 h2 => by rw [G.cf]; exact hap j k b hjk h1 h2, fun j b _ hb => by rw [G.cf]; exact hsh2 j b hb, fun j hj0 hj he => ?_,
    fun b hb => ?_, fun b hb => ?_, by rw [G.cf]; exact M.rosh, fun x t b hx hl => ?_, ?_, fun hl => ?_, fun hl => hln.2 (M.jl (G.jn.1 hl)), fun j hj => (G.fin j).trans (M.fout j hj), fun j hj => by rw [upd_ne hs h' (by omega)]; exact M.hout j hj,
    ⟨fun a' => ?_, fun a' j b _ => hbap a' j b, htwo, fun a' b hb => by rw [G.cf]; exact hbsh a' b hb, fun a' b hb => ?_⟩⟩
  · by_cases e : j = i
    · subst e; rw [upd_same]; exact hX.refl _ _
    · rw [upd_ne γs γ₂ e]
      have hd'' : 0 < j -> ¬ X.done j γ := fun k0 k => hd' k0 ((G.done j e).2 k)
      exact hX.trans _ _ _ _ (M.rel j hj hd'') (G.R j e (by rw [M.num]; exact hj) hd'')
  · by_cases e : j = i
    · subst e; rw [upd_same]
    · rw [upd_ne γs γ₂ e]; exact (G.done j e).trans (M.dn j hj0 hj)
  · rw [hln0]
    by_cases e : j = i
    · subst e; rw [upd_same]
      exact partS hsh hsz (fun b hb => (hgot b hb).elim (fun z => M.sh j b hi (.inl z)) fun z => M.bg.sh a b z.2) (fun ⟨z, _⟩ => by omega) hp'
    · rw [upd_ne hs h' e]
      exact partS hsh hsz (fun b hb => M.sh j b hj (.inl hb)) id (M.part j hj)
  · rw [G.fin] at he
    have hlt : j < n := by
      rcases Nat.lt_or_ge j n with y | y
      · exact y
      · rw [M.fout j y] at he; cases he
    exact partS hsh hsz (fun b hb => M.sh j b hlt (.inr ⟨hf', he, hb⟩)) id (M.fin j hf' he)
  · rw [G.fin] at he
    have e : j ≠ i := fun z => by subst z; rw [hf0] at he; cases he
    rw [upd_ne hs h' e]; exact M.back j hj0 hj he
  · rw [G.cf] at hb
    rw [hsh b (M.rosh b hb)]; exact M.rocell b hb
  · rw [G.cf] at hb
    rw [hsz]; exact M.shlt b hb
  · obtain ⟨op, ho, hoa⟩ := touch_of hx
    rw [hsz]
    rcases getElem?_append_cases ho with ⟨_, ho'⟩ | ⟨_, hou⟩
    · exact M.low x t b (by rw [touchAt_of ho']; exact hoa) hl
    · have hla : t.loc = .cell a := by
        rcases hops op hou with k | k <;> (rw [hoa] at k; cases k; rfl)
      rw [hla] at hl
      have := hl.cell
      subst this
      exact M.shlt _ (hX.atsh _ _ G.at_)
  · have hok := M.ok hX
    have hrl : 0 < i -> ¬ (X.fin γ i).isSome = true := fun _ z => by rw [hf0] at z; cases z
    have hat : (claims X γ hs).at_ (.cell a) := ⟨a, rfl, G.at_⟩
    obtain ⟨c1, T1, y, hc1, F1, hT1, hg1, hy1, hd1, k1, k2, k3, k4, k5, k6⟩ : ∃ (c1 : Claims) (T1 : Trace) (y : MemOp), c1.Ok /\ Tf (X.cf γ).ad (fun l => LocB l (X.cf γ).wg) n c1 (fun i => (X.fin γ i).isSome = true) (X.jn γ) T1 /\ T ++ MemOp.ofEvents i fn pos (handE a rd) = T1 ++ #[y] /\ y.g = i /\ y.act = .access ⟨.cell a, true, true⟩ /\ Deaf T1 i = 0 /\
        (∀ j l, (claims X γ hs).own j l -> c1.own j l) /\ (rd = true -> ∀ l, (claims X γ hs).bag a l -> c1.own i l) /\ c1.rd = (claims X γ hs).rd /\ c1.at_ = (claims X γ hs).at_ /\ (∀ a' l, a' ≠ a -> (claims X γ hs).bag a' l -> c1.bag a' l) /\ ∀ l, ¬ c1.bag a l := by
      cases rd with
      | true =>
        have e0 : MemOp.ofEvents i fn pos #[⟨.cell a, false, true⟩] = #[{ g := i, fn, pos, act := .access ⟨.cell a, false, true⟩ }] := by rw [ofEvents_eq]; simp [MemAct.ofEvent]
        refine ⟨(claims X γ hs).took i a, T ++ MemOp.ofEvents i fn pos #[⟨.cell a, false, true⟩], { g := i, fn, pos, act := .access ⟨.cell a, true, true⟩ }, hok.took i a, ?_, ?_, rfl, rfl, ?_, fun j l z => .inl z, fun _ l z => .inr ⟨rfl, z⟩, rfl, rfl, fun a' l e z => ⟨e, z⟩, fun l z => z.1 rfl⟩
        · rw [e0]
          exact M.tf.take hok hi rfl rfl hd hat hrl
        · rw [e0, Array.append_assoc]
          congr 1
          rw [ofEvents_eq]; simp [MemAct.ofEvent, handE]
        · rw [Deaf_own, hd]; rfl
      | false =>
        obtain ⟨n1, n2⟩ := G.emp rfl
        exact ⟨claims X γ hs, T, { g := i, fn, pos, act := .access ⟨.cell a, true, true⟩ }, hok, M.tf, (by rw [ofEvents_eq]; simp [MemAct.ofEvent, handE]), rfl, rfl, hd, fun _ _ z => z, nofun, rfl, rfl, fun _ _ _ z => z, fun l z => z.elim (fun ⟨b, _, q⟩ => n1 b q) fun ⟨l', _, q⟩ => n2 _ q⟩
    have hsrc : ∀ {b : Nat} {l : Loc}, LocB l b -> ¬ (X.cf γ).ro b -> (Pres (hs i) b \/ (rd = true /\ Pres (X.bag γ a) b)) -> c1.own i l := fun {b l} q1 q2 q3 => q3.elim (fun z => k1 _ _ (.inl ⟨b, q1, z, q2⟩)) fun ⟨z, z'⟩ => k2 z _ (.inl ⟨b, q1, z'⟩)
    have hmsrc : ∀ {l : Addr}, (X.may i γ l true \/ (rd = true /\ X.bmay γ a l)) -> c1.own i (.cell l) := fun {l} q => q.elim (fun z => k1 _ _ (.inr ⟨l, rfl, z⟩)) fun ⟨z, z'⟩ => k2 z _ (.inr ⟨l, rfl, z'⟩)
    have F2 := F1.give (G := fun l => (claims X γ₂ (upd hs i h')).bag a l) hc1 hi hg1 hy1 hd1 (by rw [k4]; exact hat) hrl k6 fun l hl => by
      rcases hl with ⟨b, q1, q2⟩ | ⟨l', rfl, q⟩
      · obtain ⟨p1, p2⟩ := hput b q2
        exact hsrc q1 p1 p2
      · exact hmsrc (G.bm l' q)
    rw [<- hT1] at F2
    rw [G.cf]
    have hnG : ∀ l w, X.may i γ₂ l w -> ¬ (claims X γ₂ (upd hs i h')).bag a (.cell l) := fun l w hm hb => by
      rcases hb with ⟨b, q1, q2⟩ | ⟨l', e, q⟩
      · have := q1.cell
        subst this
        have := hX.maysh _ _ _ _ hm
        rw [G.cf] at this
        exact hbsh a _ q2 this
      · cases e
        exact hX.bmx _ _ _ _ _ q hm
    have F3 : Tf (X.cf γ).ad (fun l => LocB l (X.cf γ).wg) n (claims X γ₂ (upd hs i h')) (fun i => (X.fin γ i).isSome = true) (X.jn γ) (T ++ MemOp.ofEvents i fn pos (handE a rd)) := by
      refine F2.weak (fun j _ l hl => .inl ?_) (fun j _ l hl => ?_) (fun j _ l hl => .inl ?_) fun a' l hl => .inl ?_
      · rcases hl with ⟨b, q1, q2, q3⟩ | ⟨l', rfl, q⟩
        · rw [G.cf] at q3
          by_cases e : j = i
          · subst e
            rw [upd_same] at q2
            refine ⟨hsrc q1 q3 (hgot b q2), fun ⟨_, hb⟩ => ?_⟩
            rcases hb with ⟨b', p1, p2⟩ | ⟨l', e, q⟩
            · obtain rfl := q1.uniq p1
              exact G.dj b q2 p2
            · subst e
              have := q1.cell
              subst this
              have hs1 := hX.bmsh _ _ _ q
              rw [G.cf] at hs1
              exact hsh2 j _ (.inl (by rw [upd_same]; exact q2)) hs1
          · rw [upd_ne hs h' e] at q2
            exact ⟨k1 _ _ (.inl ⟨b, q1, q2, q3⟩), fun z => e z.1⟩
        · by_cases e : j = i
          · subst e
            refine ⟨?_, fun z => hnG l' _ q z.2⟩
            rcases G.may j l' true q with p | ⟨_, p⟩
            · exact hmsrc (.inl p)
            · exact hmsrc p
          · rcases G.may j l' true q with p | ⟨p, _⟩
            · exact ⟨k1 _ _ (.inr ⟨l', rfl, p⟩), fun z => e z.1⟩
            · exact absurd p e
      · show c1.rd j l \/ _ \/ _
        rw [k3]
        rcases hl with ⟨b, q1, q2, q3⟩ | ⟨l', rfl, q⟩
        · rw [G.cf] at q3
          by_cases e : j = i
          · subst e
            rw [upd_same] at q2
            rcases hgot b q2 with p | ⟨_, p⟩
            · exact .inl (.inl ⟨b, q1, p, q3⟩)
            · exact absurd q3 (M.bg.ro a b p)
          · rw [upd_ne hs h' e] at q2
            exact .inl (.inl ⟨b, q1, q2, q3⟩)
        · rcases G.may j l' false q with p | ⟨e, p⟩
          · exact .inl (.inr ⟨l', rfl, p⟩)
          · subst e
            exact .inr (.inl ⟨hmsrc p, fun z => hnG l' _ q z.2⟩)
      · show c1.at_ l
        rw [k4]
        obtain ⟨l', rfl, q⟩ := hl
        exact ⟨l', rfl, by rwa [G.cf] at q⟩
      · by_cases e : a' = a
        · subst e; exact .inr ⟨rfl, hl⟩
        · refine .inl (k5 a' l e ?_)
          rcases hl with ⟨b, q1, q2⟩ | ⟨l', rfl, q⟩
          · exact .inl ⟨b, q1, by rwa [G.bago a' e] at q2⟩
          · exact .inr ⟨l', rfl, G.bmo _ _ e q⟩
    have F4 := F3.relEq (rl' := fun i => (X.fin γ₂ i).isSome = true) fun j _ _ => by rw [G.fin]
    exact (propext G.jn : X.jn γ₂ = X.jn γ) ▸ F4
  · rw [hln0] at hl
    have hg := M.lone hl
    exact absurd (hX.lone γ i (by rw [hg]; exact hl) h0 (by rw [M.num]; exact hi)) hnd
  · by_cases e : a' = a
    · subst e
      exact partS hsh hsz (hbsh a') id hpb
    · rw [G.bago a' e]
      exact partS hsh hsz (M.bg.sh a') id (M.bg.part a')
  · rw [G.cf]
    by_cases e : a' = a
    · subst e; exact (hput b hb).1
    · rw [G.bago a' e] at hb; exact M.bg.ro a' b hb
theorem Mi.share (M : Mi X γ n H T hs γs) (hX : X.Ok) {γ₁ : Γ} {h h₁ : Hp} (hh : h = hs 0) (hn : n = 1) (hl : X.lone (γs 0)) (hj : ¬ X.jn γ) (hro : ∀ b, ¬ (X.cf γ).ro b) (hsub : Sub h₁ h) (h1 : ∀ b, Pres h₁ b -> ¬ (X.cf γ₁).shb b) (h2 : ∀ b, (X.cf γ₁).shb b -> Pres h b)
    (h3 : ∀ b, (X.cf γ₁).ro b -> ∃ c e f, h[b]? = some (.cells c e f) /\ Pres h b) (h4 : X.num γ₁ = 1) (h5 : ∀ H, Part True h H -> X.Inv γ₁ H) (h6 : ¬ X.lone γ₁) (h7 : ¬ X.jn γ₁) (h8 : ∀ i, X.fin γ₁ i = none) (h9 : ∀ a, X.bag γ₁ a = #[]) : Mi X γ₁ n H T (upd hs 0 h₁) (upd γs 0 γ₁) := by
  subst hh hn
  have P0 := M.part 0 (by omega)
  have Pt : Part True (hs 0) H := ⟨P0.get, P0.size, fun _ => P0.same ⟨rfl, hl⟩⟩
  refine ⟨h4, M.pos, h5 H Pt, fun i hi _ => ?_, fun i h0 hi => (by omega), fun i hi => ?_, fun i hf he => (by rw [h8] at he; cases he), fun i j b hi hj hij => (by omega), fun i b hi hb => ?_, fun i h0 hi => (by omega), fun b hb => ?_, fun b hb => ?_, hX.rosh γ₁, M.low, ?_, fun _ => by rw [upd_same], fun hj' => absurd hj' h7, fun i _ => h8 i, fun i hi => ?_, ⟨fun a => by rw [h9]; exact ⟨fun b o k _ => by simp at k, Nat.zero_le _, fun z => z.elim⟩, fun a i b _ hb => by rw [h9] at hb; exact absurd hb (not_pres_empty b), fun a a' b hb => by rw [h9] at hb; exact absurd hb (not_pres_empty b), fun a b hb => by rw [h9] at hb; exact absurd hb (not_pres_empty b), fun a b hb => by rw [h9] at hb; exact absurd hb (not_pres_empty b)⟩⟩
  · obtain rfl : i = 0 := by omega
    rw [upd_same]; exact hX.refl _ _
  · obtain rfl : i = 0 := by omega
    rw [upd_same, upd_same]
    have := hsub.part Pt
    exact ⟨this.get, this.size, fun ⟨_, z⟩ => absurd z h6⟩
  · obtain rfl : i = 0 := by omega
    rcases hb with hb | ⟨hf, he, _⟩
    · rw [upd_same] at hb; exact h1 b hb
    · rw [h8] at he; cases he
  · obtain ⟨c, e, f, hb1, hb2⟩ := h3 b hb
    obtain ⟨o, k1, k2⟩ := hb2
    have := Pt.get b o k1 k2
    rw [k1] at hb1
    cases hb1
    exact ⟨c, e, f, this⟩
  · have := (h2 b hb).lt
    have := Pt.size
    omega
  · have hown : ∀ l b, LocB l b -> Pres (hs 0) b -> (claims X γ hs).own 0 l := fun l b k1 k2 => .inl ⟨b, k1, k2, hro b⟩
    have hw : Tf (X.cf γ).ad (fun l => LocB l (X.cf γ).wg) 1 (claims X γ₁ (upd hs 0 h₁)) (fun i => (X.fin γ i).isSome = true) (X.jn γ) T := by
      refine M.tf.weak (fun i hi l k => .inl ?_) (fun i hi l k => .inr (.inl ?_)) (fun i hi l k => .inr (.inl ?_)) fun a l k => .inr fun i hi x t hx e => ?_
      · obtain rfl : i = 0 := by omega
        rcases k with ⟨b, k1, k2, _⟩ | ⟨a, rfl, k⟩
        · rw [upd_same] at k2; exact hown l b k1 (hsub.pres k2)
        · exact hown _ _ (.inl ⟨a, rfl, rfl⟩) (h2 _ (hX.maysh _ _ _ _ k))
      · obtain rfl : i = 0 := by omega
        rcases k with ⟨b, k1, k2, _⟩ | ⟨a, rfl, k⟩
        · rw [upd_same] at k2; exact hown l b k1 (hsub.pres k2)
        · exact hown _ _ (.inl ⟨a, rfl, rfl⟩) (h2 _ (hX.maysh _ _ _ _ k))
      · obtain rfl : i = 0 := by omega
        obtain ⟨a, rfl, k⟩ := k
        exact hown _ _ (.inl ⟨a, rfl, rfl⟩) (h2 _ (hX.atsh _ _ k))
      · obtain rfl : i = 0 := by omega
        refine M.tf.own 0 (by omega) x t hx (e ▸ ?_)
        rcases k with ⟨b, _, k2⟩ | ⟨l', rfl, k⟩
        · rw [h9] at k2; exact absurd k2 (not_pres_empty b)
        · exact hown _ _ (.inl ⟨l', rfl, rfl⟩) (h2 _ (hX.bmsh _ _ _ k))
    have := hw.anew (ad' := (X.cf γ₁).ad) (wgL' := fun l => LocB l (X.cf γ₁).wg) (rl' := fun i => (X.fin γ₁ i).isSome = true) hj
    exact (propext ⟨fun z => absurd z h7, fun z => z.elim⟩ : X.jn γ₁ = False) ▸ this
  · rw [upd_ne hs h₁ (by omega)]; exact M.hout i hi
theorem Mi.hire (M : Mi X γ n H T hs γs) (hX : X.Ok) {h hm hc : Hp} (hh : h = hs 0) (hd : Deaf T 0 = 0) (fh : FuncId) (ph : String) (fc : FuncId) (k1 : X.num γ₂ = X.num γ + 1) (k2 : X.cf γ₂ = X.cf γ) (k3 : ∀ j, 0 < j -> j < X.num γ -> ¬ X.done j γ -> X.R j γ γ₂) (k4 : ∀ j, X.fin γ₂ j = X.fin γ j) (k5 : X.fin γ (X.num γ) = none)
    (k6 : ∀ j, 0 < j -> j < X.num γ -> (X.done j γ₂ ↔ X.done j γ)) (k7 : ∀ j a w, j < X.num γ -> X.may j γ₂ a w -> X.may j γ a w) (k8 : ∀ a w, X.may (X.num γ) γ₂ a w -> X.may 0 γ a w \/ X.may 0 γ a true)
    (k9 : X.Inv γ₂ H) (s1 : Sub hm h) (s2 : Sub hc h) (s3 : ∀ b, Pres hm b -> Pres hc b -> (X.cf γ).ro b) (l2 : ¬ X.lone γ₂) (j1 : ¬ X.jn γ) (j2 : ¬ X.jn γ₂) (b1 : X.bag γ₂ = X.bag γ) (b2 : ∀ a l, X.bmay γ₂ a l -> X.bmay γ a l) :
    Mi X γ₂ (n + 1) H (T ++ #[{ g := 0, fn := fh, pos := ph, act := .go n }, { g := n, fn := fc, pos := ph, act := .start }]) (upd (upd hs 0 hm) n hc) (upd (upd γs 0 γ₂) n γ₂) := by
  subst hh
  have hnum := M.num
  subst hnum
  have hpos := M.pos
  generalize hN : X.num γ = n at *
  have hn0 : (0 : Nat) ≠ n := by omega
  have e0 : upd (upd hs 0 hm) n hc 0 = hm := by rw [upd_ne _ hc hn0, upd_same]
  have en : upd (upd hs 0 hm) n hc n = hc := upd_same _ _ _
  have ej : ∀ j, j ≠ 0 -> j ≠ n -> upd (upd hs 0 hm) n hc j = hs j := fun j h0 hn => by rw [upd_ne _ hc hn, upd_ne _ hm h0]
  have g0 : upd (upd γs 0 γ₂) n γ₂ 0 = γ₂ := by rw [upd_ne _ γ₂ hn0, upd_same]
  have gn : upd (upd γs 0 γ₂) n γ₂ n = γ₂ := upd_same _ _ _
  have gj : ∀ j, j ≠ 0 -> j ≠ n -> upd (upd γs 0 γ₂) n γ₂ j = γs j := fun j h0 hn => by rw [upd_ne _ γ₂ hn, upd_ne _ γ₂ h0]
  have P0 := M.part 0 hpos
  have hwas : ∀ j b, Hold X γ₂ (upd (upd hs 0 hm) n hc) j b -> (j = n /\ Pres hc b /\ Hold X γ hs 0 b) \/ (j = 0 /\ Pres hm b /\ Hold X γ hs 0 b) \/ (j ≠ 0 /\ j ≠ n /\ Hold X γ hs j b) := fun j b hb => by
    rcases hb with hb | ⟨hf, he, hb⟩
    · by_cases hj : j = n
      · rw [hj, en] at hb; exact .inl ⟨hj, hb, .inl (s2.pres hb)⟩
      · by_cases hj0 : j = 0
        · rw [hj0, e0] at hb; exact .inr (.inl ⟨hj0, hb, .inl (s1.pres hb)⟩)
        · rw [ej j hj0 hj] at hb; exact .inr (.inr ⟨hj0, hj, .inl hb⟩)
    · rw [k4] at he
      have hj : j ≠ n := fun z => by rw [z, k5] at he; cases he
      have hj0 : j ≠ 0 := fun z => by rw [z, hX.fin0] at he; cases he
      exact .inr (.inr ⟨hj0, hj, .inr ⟨hf, he, hb⟩⟩)
  have hnt : ∀ op ∈ (#[{ g := 0, fn := fh, pos := ph, act := .go n }, { g := n, fn := fc, pos := ph, act := .start }] : Trace), op.act.touch? = none := fun op hop => by
    simp only [List.mem_toArray, List.mem_cons, List.not_mem_nil, or_false] at hop
    rcases hop with rfl | rfl <;> rfl
  refine ⟨k1, by omega, k9, fun j hj hdj => ?_, fun j hj0 hj => ?_, fun j hj => ?_, fun j hf he => M.fin j hf (by rw [<- k4]; exact he), fun a c b ha hc' hac h1 h2 => ?_, fun a b ha h1 => ?_, fun j hj0 hj he => ?_,
    by rw [k2]; exact M.rocell, by rw [k2]; exact M.shlt, by rw [k2]; exact M.rosh, fun x a b hx hl => ?_, ?_, fun hl => ?_, fun hj => absurd hj j2, fun j hj => by rw [k4]; exact M.fout j (by omega), fun j hj => ?_, ⟨fun a => by rw [b1]; exact M.bg.part a, fun a j b hj hb hh => ?_, fun a a' b h1 h2 => M.bg.two a a' b (by rwa [b1] at h1) (by rwa [b1] at h2), fun a b hb => by rw [k2]; exact M.bg.sh a b (by rwa [b1] at hb), fun a b hb => by rw [k2]; exact M.bg.ro a b (by rwa [b1] at hb)⟩⟩
  · by_cases h0 : j = 0
    · rw [h0, g0]; exact hX.refl _ _
    · by_cases h1 : j = n
      · rw [h1, gn]; exact hX.refl _ _
      · rw [gj j h0 h1]
        have hd' : ¬ X.done j γ := fun z => hdj (by omega) ((k6 j (by omega) (by omega)).2 z)
        exact hX.trans _ _ _ _ (M.rel j (by omega) fun _ => hd') (k3 j (by omega) (by omega) hd')
  · by_cases h1 : j = n
    · rw [h1, gn]
    · rw [gj j (by omega) h1]
      exact (k6 j hj0 (by omega)).trans (M.dn j hj0 (by omega))
  · rw [g0]
    by_cases h0 : j = 0
    · rw [h0, e0]
      have := s1.part P0
      exact ⟨this.get, this.size, fun ⟨_, z⟩ => absurd z l2⟩
    · by_cases h1 : j = n
      · rw [h1, en]
        have := s2.part P0
        exact ⟨this.get, this.size, fun ⟨_, z⟩ => absurd z l2⟩
      · rw [ej j h0 h1]
        have := M.part j (by omega)
        exact ⟨this.get, this.size, fun ⟨z, _⟩ => absurd z h0⟩
  · rw [k2]
    rcases hwas a b h1 with ⟨ra, pa, oa⟩ | ⟨ra, pa, oa⟩ | ⟨na, na', oa⟩ <;> rcases hwas c b h2 with ⟨rc, pc, oc⟩ | ⟨rc, pc, oc⟩ | ⟨nc, nc', oc⟩
    · omega
    · exact s3 b pc pa
    · exact M.apart 0 c b hpos (M.lt oc) (fun z => nc z.symm) oa oc
    · exact s3 b pa pc
    · omega
    · exact M.apart 0 c b hpos (M.lt oc) (fun z => nc z.symm) oa oc
    · exact M.apart a 0 b (M.lt oa) hpos na oa oc
    · exact M.apart a 0 b (M.lt oa) hpos na oa oc
    · exact M.apart a c b (M.lt oa) (M.lt oc) hac oa oc
  · rw [k2]
    rcases hwas a b h1 with ⟨ra, pa, oa⟩ | ⟨ra, pa, oa⟩ | ⟨na, na', oa⟩
    · exact M.sh 0 b hpos oa
    · exact M.sh 0 b hpos oa
    · exact M.sh a b (M.lt oa) oa
  · rw [k4] at he
    have h1 : j ≠ n := fun z => by rw [z, k5] at he; cases he
    rw [ej j (by omega) h1]
    exact M.back j hj0 (by omega) he
  · obtain ⟨op, ho, hoa⟩ := touch_of hx
    rcases getElem?_append_cases ho with ⟨_, ho'⟩ | ⟨_, hou⟩
    · exact M.low x a b (by rw [touchAt_of ho']; exact hoa) hl
    · rw [hnt op hou] at hoa; cases hoa
  · rw [k2]
    have hj' : ∀ j, j < n -> ∀ l b, LocB l b -> Pres (upd (upd hs 0 hm) n hc j) b -> Pres (hs j) b := fun j hj l b _ hp => by
      by_cases h0 : j = 0
      · rw [h0, e0] at hp; rw [h0]; exact s1.pres hp
      · rwa [ej j h0 (by omega)] at hp
    have h1 := M.tf.hire (c' := claims X γ₂ (upd (upd hs 0 hm) n hc)) hpos hd j1 (by rw [k5]; simp) fh ph fc
      (fun j hj l hl => by
        rcases hl with ⟨b, q1, q2, q3⟩ | ⟨a, rfl, q⟩
        · exact .inl ⟨b, q1, hj' j hj l b q1 q2, by rwa [k2] at q3⟩
        · exact .inr ⟨a, rfl, k7 _ _ _ hj q⟩)
      (fun j hj l hl => .inl (by
        rcases hl with ⟨b, q1, q2, q3⟩ | ⟨a, rfl, q⟩
        · exact .inl ⟨b, q1, hj' j hj l b q1 q2, by rwa [k2] at q3⟩
        · exact .inr ⟨a, rfl, k7 _ _ _ hj q⟩))
      (fun l hl => by obtain ⟨a, rfl, q⟩ := hl; exact ⟨a, rfl, by rwa [k2] at q⟩)
      (fun l hl => by
        rcases hl with ⟨b, q1, q2, q3⟩ | ⟨a, rfl, q⟩
        · rw [en] at q2
          exact .inl ⟨b, q1, s2.pres q2, by rwa [k2] at q3⟩
        · exact .inr ⟨a, rfl, (k8 a true q).elim id id⟩)
      (fun l hl => by
        rcases hl with ⟨b, q1, q2, q3⟩ | ⟨a, rfl, q⟩
        · rw [en] at q2
          exact .inr (.inl ⟨b, q1, s2.pres q2, by rwa [k2] at q3⟩)
        · exact (k8 a false q).elim (fun z => .inr (.inr ⟨a, rfl, z⟩)) fun z => .inl (.inr ⟨a, rfl, z⟩))
      (fun a l hl => by
        rcases hl with ⟨b, q1, q2⟩ | ⟨l', rfl, q⟩
        · exact .inl ⟨b, q1, by rwa [b1] at q2⟩
        · exact .inr ⟨l', rfl, b2 _ _ q⟩)
    have h2 := h1.relEq (rl' := fun i => (X.fin γ₂ i).isSome = true) fun j _ _ => by rw [k4]
    exact (propext ⟨fun z => absurd z j2, fun z => absurd z j1⟩ : X.jn γ₂ = X.jn γ) ▸ h2
  · rw [g0] at hl; exact absurd hl l2
  · rw [ej j (by omega) (by omega)]; exact M.hout j (by omega)
  · rw [b1] at hb
    rcases hwas j b hh with ⟨_, _, oa⟩ | ⟨_, _, oa⟩ | ⟨_, _, oa⟩
    · exact M.bg.ap a 0 b hpos hb oa
    · exact M.bg.ap a 0 b hpos hb oa
    · exact M.bg.ap a j b (M.lt oa) hb oa
theorem Mi.join (M : Mi X γ n H T hs γs) (hX : X.Ok) (hd : Deaf T 0 = 0) (hdone : ∀ i, 0 < i -> i < n -> X.done i γ) (fn : FuncId) (pos : String) (k1 : X.num γ₂ = X.num γ) (k2 : X.jn γ₂) (k3 : X.lone γ₂) (k4 : (X.cf γ₂).wg = (X.cf γ).wg) (k5 : (X.cf γ).shb (X.cf γ).wg)
    (k6 : ∀ b, (X.cf γ₂).shb b ↔ b = (X.cf γ).wg) (k7 : ∀ b, ¬ (X.cf γ₂).ro b) (k8 : ∀ a, (X.cf γ₂).at_ a -> (X.cf γ).at_ a) (k9 : ∀ i a w, ¬ X.may i γ₂ a w) (k11 : ∀ a, X.bag γ₂ a = #[]) (k12 : ∀ a l, ¬ X.bmay γ₂ a l) (f1 : ∀ i, 0 < i -> i < n -> X.fin γ₂ i = some #[]) (f2 : ∀ i, n <= i -> X.fin γ₂ i = none) (k10 : X.Inv γ₂ H) :
    Mi X γ₂ n H (T ++ MemOp.ofEvents 0 fn pos #[Go.ConcR.mk (.acquire (X.cf γ).ad)]) (upd hs 0 (H.setIfInBounds (X.cf γ).wg dum)) (upd γs 0 γ₂) := by
  have hfin : ∀ i, 0 < i -> i < n -> (X.fin γ i).isSome = true := fun i h0 hi => hX.fin i γ h0 (hdone i h0 hi)
  have hemp : ∀ i, i ≠ 0 -> upd hs 0 (H.setIfInBounds (X.cf γ).wg dum) i = #[] := fun i h0 => by
    rw [upd_ne hs _ h0]
    rcases Nat.lt_or_ge i n with y | y
    · exact M.back i (by omega) y (hfin i (by omega) y)
    · exact M.hout i y
  have hwg := M.shlt _ k5
  have hset : ∀ b o, (H.setIfInBounds (X.cf γ).wg dum)[b]? = some o -> o ≠ dum -> b ≠ (X.cf γ).wg /\ H[b]? = some o := fun b o hb ho => by
    by_cases e : (X.cf γ).wg = b
    · subst e
      rw [Array.getElem?_setIfInBounds_self_of_lt hwg] at hb
      exact absurd (Option.some.inj hb).symm ho
    · rw [Array.getElem?_setIfInBounds_ne e] at hb
      exact ⟨fun z => e z.symm, hb⟩
  have hhold : ∀ i b, Hold X γ₂ (upd hs 0 (H.setIfInBounds (X.cf γ).wg dum)) i b -> i = 0 /\ b ≠ (X.cf γ).wg := fun i b hb => by
    rcases hb with ⟨o, hb, ho⟩ | ⟨hf, he, hb⟩
    · by_cases h0 : i = 0
      · rw [h0, upd_same] at hb; exact ⟨h0, (hset b o hb ho).1⟩
      · rw [hemp i h0] at hb; simp at hb
    · exfalso
      rcases Nat.eq_zero_or_pos i with h0 | h0
      · rw [h0, hX.fin0] at he; cases he
      · rcases Nat.lt_or_ge i n with y | y
        · rw [f1 i h0 y] at he; cases he; exact not_pres_empty b hb
        · rw [f2 i y] at he; cases he
  refine ⟨k1.trans M.num, M.pos, k10, fun j hj hdj => ?_, fun j hj0 hj => ?_, fun j hj => ?_, fun j hf he => ?_, fun a c b ha hc hac h1 h2 => ?_, fun a b ha h1 hb => ?_, fun j hj0 hj _ => hemp j (by omega), fun b hb => absurd hb (k7 b), fun b hb => ?_, fun b hb => absurd hb (k7 b), fun x a b hx hl => ?_, ?_, fun _ => by rw [upd_same], fun _ => k3, f2, fun j hj => hemp j (by have := M.pos; omega), ⟨fun a => by rw [k11]; exact ⟨fun b o k _ => by simp at k, Nat.zero_le _, fun z => z.elim⟩, fun a i b _ hb => by rw [k11] at hb; exact absurd hb (not_pres_empty b), fun a a' b hb => by rw [k11] at hb; exact absurd hb (not_pres_empty b), fun a b hb => by rw [k11] at hb; exact absurd hb (not_pres_empty b), fun a b hb => by rw [k11] at hb; exact absurd hb (not_pres_empty b)⟩⟩
  · by_cases h0 : j = 0
    · rw [h0, upd_same]; exact hX.refl _ _
    · exact absurd (hX.lone γ₂ j k3 (by omega) (by rw [k1, M.num]; exact hj)) (hdj (by omega))
  · rw [upd_ne γs γ₂ (by omega)]
    exact ⟨fun _ => (M.dn j hj0 hj).1 (hdone j hj0 hj), fun _ => hX.lone γ₂ j k3 hj0 (by rw [k1, M.num]; exact hj)⟩
  · by_cases h0 : j = 0
    · rw [h0, upd_same]
      exact ⟨fun b o hb ho => (hset b o hb ho).2, Nat.le_of_eq Array.size_setIfInBounds, fun _ => Array.size_setIfInBounds⟩
    · rw [hemp j h0]
      exact ⟨fun b o k _ => by simp at k, Nat.zero_le _, fun ⟨z, _⟩ => absurd z h0⟩
  · rcases Nat.eq_zero_or_pos j with h0 | h0
    · rw [h0, hX.fin0] at he; cases he
    · rcases Nat.lt_or_ge j n with y | y
      · rw [f1 j h0 y] at he; cases he
        exact ⟨fun b o k _ => by simp at k, Nat.zero_le _, fun z => z.elim⟩
      · rw [f2 j y] at he; cases he
  · have := (hhold a b h1).1
    have := (hhold c b h2).1
    omega
  · exact (hhold a b h1).2 ((k6 b).1 hb)
  · rw [(k6 b).1 hb]; exact hwg
  · obtain ⟨op, ho, hoa⟩ := touch_of hx
    rcases getElem?_append_cases ho with ⟨_, ho'⟩ | ⟨_, hou⟩
    · exact M.low x a b (by rw [touchAt_of ho']; exact hoa) hl
    · obtain ⟨e, he, rfl⟩ := Go.Conc.mem_ofEvents hou
      simp at he
      subst he
      cases hoa
  · have h1 := M.tf.join (c' := claims X γ₂ (upd hs 0 (H.setIfInBounds (X.cf γ).wg dum))) M.pos hd hfin fn pos
      (fun i l hl => by
        rcases hl with ⟨b, q1, q2, _⟩ | ⟨a, rfl, q⟩
        · obtain ⟨h0, hb⟩ := hhold i b (.inl q2)
          exact ⟨h0, fun z => hb (q1.uniq z)⟩
        · exact absurd q (k9 _ _ _))
      (fun i l hl => by
        rcases hl with ⟨b, q1, q2, q3⟩ | ⟨a, rfl, q⟩
        · exact k7 _ q3
        · exact k9 _ _ _ q)
      (fun l hl => by obtain ⟨a, rfl, q⟩ := hl; exact ⟨a, rfl, k8 a q⟩)
      (fun a l hl => by
        rcases hl with ⟨b, _, q⟩ | ⟨l', _, q⟩
        · rw [k11] at q; exact not_pres_empty b q
        · exact k12 _ _ q)
    have h2 := h1.relEq (rl' := fun i => (X.fin γ₂ i).isSome = true) fun j h0 hj => by rw [f1 j h0 hj]; exact ⟨fun _ => hfin j h0 hj, fun _ => rfl⟩
    have e1 : (X.cf γ₂).ad = (X.cf γ).ad := by unfold Cf.ad; rw [k4]
    rw [e1, k4]
    exact (propext ⟨fun _ => trivial, fun _ => k2⟩ : X.jn γ₂ = True) ▸ h2
end
end
section
variable [Dm]
open Go Go.Conc
open Go.ConcM (OsLater)
open Go.ConcN (upd upd_ne upd_same)
variable {Γ : Type}
theorem SameL.trans {a b c : World} (x : SameL a b) (y : SameL b c) : SameL a c := by
  obtain ⟨t1, ⟨d1, o1⟩, u1⟩ := x
  obtain ⟨t2, ⟨d2, o2⟩, u2⟩ := y
  exact ⟨t2.trans t1, ⟨d1 + d2, by rw [o2, o1]; simp [Nat.add_assoc]⟩, u2.trans u1⟩
theorem sameL_at (w : World) (d : Nat) : SameL w (w.at d) := (⟨rfl, rfl, rfl⟩ : Same w (w.at d)).later
def upT (f : Nat -> Tree) (i : Nat) (x : Tree) : Nat -> Tree := fun j => if j = i then x else f j
theorem upT_same (f : Nat -> Tree) (i : Nat) (x : Tree) : upT f i x i = x := if_pos rfl
theorem upT_ne (f : Nat -> Tree) {i j : Nat} (x : Tree) (h : j ≠ i) : upT f i x j = f j := if_neg h
def Rec (X : Fp Γ) (γ : Γ) (i : Nat) (g0 g : Goroutine) : Prop := g = g0 \/ (Going g0 /\ g = { g0 with status := .blocked } /\ X.blk i γ)
section
variable {P : Program} {X : Fp Γ} {γ γ' : Γ} {gs : Array Goroutine} {w w' : World} {T : Trace} {hs hs' : Nat -> Hp} {γs γs' : Nat -> Γ} {ts ts' : Nat -> Tree}
theorem Rec.woken {j : Nat} {g0 g a a' : Goroutine} (h : Rec X γ j g0 g) (hst : g0.status = .running \/ g0.status = .finished) (hk : (mayWake P a = true /\ a'.status = .running) \/ (X.blk j γ -> X.blk j γ')) : Rec X γ' j g0 (Go.Conc.woken P a a' w' g) := by
  rcases h with rfl | ⟨hg, rfl, hb⟩
  · exact .inl (woken_of_again (again_of_running hst w'))
  · by_cases hc : (mayWake P a && a'.status != .blocked && a'.status != .waiting) = true
    · refine .inl ?_
      unfold Go.Conc.woken
      rw [if_pos hc]
      obtain ⟨h1, h2⟩ := hg
      unfold Goroutine.again
      simp only [h2]
      cases g0
      simp_all
    · refine .inr ⟨hg, ?_, ?_⟩
      · unfold Go.Conc.woken
        rw [if_neg hc]
      · rcases hk with ⟨k1, k2⟩ | hk
        · exact absurd (by simp [k1, k2]) hc
        · exact hk hb
def SitsW (P : Program) (X : Fp Γ) (γ : Γ) (T : Trace) (hs : Nat -> Hp) (γs : Nat -> Γ) (ts : Nat -> Tree) (i : Nat) (g : Goroutine) : Prop :=
  ∃ g0, RunsN P false (SitW P X i) (EndF X i) (ts i) g0 (hs i) ⟨Deaf T i, γs i⟩ /\ Rec X γ i g0 g
structure Cfg (P : Program) (X : Fp Γ) (γ : Γ) (gs : Array Goroutine) (w : World) (T : Trace) (hs : Nat -> Hp) (γs : Nat -> Γ) (ts : Nat -> Tree) : Prop where
  mi : Mi X γ gs.size w.heap T hs γs
  wk : ∀ i g, 0 < i -> gs[i]? = some g -> SitsW P X γ T hs γs ts i g
def AtM (X : Fp Γ) (γ : Γ) (gs : Array Goroutine) (g0 : Goroutine) : Prop := ∃ g, gs[0]? = some g /\ Rec X γ 0 g0 g
theorem runsN_status {i : Nat} {t : Tree} {g : Goroutine} {h : Hp} {δ : Ix Γ} (hr : RunsN P false (SitW P X i) (EndF X i) t g h δ) : g.status = .running \/ (g.status = .finished /\ EndF X i g h δ) := by
  obtain ⟨ι, f⟩ := t
  rcases hr with hs | ⟨Y, _, hst | hy | hy | hy | hy⟩
  · exact .inr ⟨hs.1, hs⟩
  · exact .inl hst.1
  · exact .inl (hy.2 h.size (Nat.le_refl _)).1
  · exact .inl hy.1.1
  · exact .inl hy.1.1
  · exact .inl hy.1.1
theorem Cfg.go (C : Cfg P X γ gs w T hs γs ts) {i : Nat} {g g' : Goroutine} {es : Array Event} (sl : Option (Nat × Nat)) (hi : gs[i]? = some g) (hst : stepG P (i == 0) g w = .go g' w' es)
    (M' : Mi X γ' gs.size w'.heap (T ++ MemOp.ofEvents i g.frame.fn g.frame.place es) hs' γs') (hh : ∀ j, j ≠ i -> hs' j = hs j) (hg : ∀ j, j ≠ i -> γs' j = γs j) (ht : ∀ j, j ≠ i -> ts' j = ts j) (hk : (mayWake P g = true /\ g'.status = .running) \/ ∀ j, X.blk j γ -> X.blk j γ')
    (hself : 0 < i -> SitsW P X γ' (T ++ MemOp.ofEvents i g.frame.fn g.frame.place es) hs' γs' ts' i g') :
    ∃ gs', runT P (crowd gs w sl) i = (.next (crowd gs' w' sl), MemOp.ofEvents i g.frame.fn g.frame.place es) /\ gs'.size = gs.size /\ gs'[i]? = some g' /\ Cfg P X γ' gs' w' (T ++ MemOp.ofEvents i g.frame.fn g.frame.place es) hs' γs' ts' /\
      (∀ g0, g0.status = .running -> i ≠ 0 -> AtM X γ gs g0 -> AtM X γ' gs' g0) /\ (g'.status = .blocked -> gs' = gs.setIfInBounds i g') := by
  have hlt : i < gs.size := (Array.getElem?_eq_some_iff.1 hi).1
  have hops : ∀ op ∈ MemOp.ofEvents i g.frame.fn g.frame.place es, op.g = i := fun op hop => by obtain ⟨e, _, rfl⟩ := Go.Conc.mem_ofEvents hop; rfl
  have hself' : ((gs.map (Go.Conc.woken P g g' w')).setIfInBounds i g')[i]? = some g' := Array.getElem?_setIfInBounds_self_of_lt (by simpa using hlt)
  have hoth : ∀ j y, j ≠ i -> ((gs.map (Go.Conc.woken P g g' w')).setIfInBounds i g')[j]? = some y -> ∃ x, gs[j]? = some x /\ y = Go.Conc.woken P g g' w' x := by
    intro j y hj hy
    rw [Array.getElem?_setIfInBounds_ne (fun e => hj e.symm), Array.getElem?_map] at hy
    obtain ⟨x, h1, h2⟩ := Option.map_eq_some_iff.1 hy
    exact ⟨x, h1, h2.symm⟩
  have hk' : ∀ j, (mayWake P g = true /\ g'.status = .running) \/ (X.blk j γ -> X.blk j γ') := fun j => hk.imp id fun z => z j
  refine ⟨_, runT_crowd_go (sl := sl) hi hst, by simp, hself', ⟨by simpa using M', fun j y hj0 hy => ?_⟩, fun g0 hr h0 ⟨x, hx, hrec⟩ => ?_, fun hb => ?_⟩
  · by_cases e : j = i
    · subst e
      rw [hself'] at hy
      obtain rfl := Option.some.inj hy
      exact hself hj0
    · obtain ⟨x, hx, rfl⟩ := hoth j y e hy
      obtain ⟨g0, h1, h2⟩ := C.wk j x hj0 hx
      refine ⟨g0, ?_, h2.woken ((runsN_status h1).imp id (·.1)) (hk' j)⟩
      rw [ht j e, hh j e, hg j e, Deaf_other T (fun z => e z.symm) _ hops]
      exact h1
  · refine ⟨Go.Conc.woken P g g' w' x, ?_, hrec.woken (.inl hr) (hk' 0)⟩
    rw [Array.getElem?_setIfInBounds_ne h0, Array.getElem?_map, hx]
    rfl
  · congr 1
    apply Array.ext_getElem?
    intro j
    rw [Array.getElem?_map]
    cases gs[j]? with
    | none => rfl
    | some x =>
      show some (Go.Conc.woken P g g' w' x) = some x
      unfold Go.Conc.woken
      rw [if_neg (by simp [hb])]
def cnt (gs : Array Goroutine) : Nat := gs.toList.countP fun g => g.status == .running
theorem countP_set {p : Goroutine -> Bool} : ∀ (l : List Goroutine) (i : Nat) (g g' : Goroutine), l[i]? = some g -> p g = true -> p g' = false -> (l.set i g').countP p < l.countP p
  | [], i, g, g', h, _, _ => by simp at h
  | x :: l, 0, g, g', h, h1, h2 => by
    simp at h
    subst h
    simp [h1, h2]
  | x :: l, i + 1, g, g', h, h1, h2 => by
    have := countP_set l i g g' (by simpa using h) h1 h2
    simp only [List.set_cons_succ, List.countP_cons]
    omega
theorem cnt_set {gs : Array Goroutine} {i : Nat} {g g' : Goroutine} (hi : gs[i]? = some g) (h1 : g.status = .running) (h2 : g'.status ≠ .running) : cnt (gs.setIfInBounds i g') < cnt gs := by
  unfold cnt
  rw [Array.toList_setIfInBounds]
  exact countP_set _ _ g g' (by simpa using hi) (by simp [h1]) (by simpa using h2)
theorem tree_lt {ι : Type} {f : ι -> Tree} (x : ι) : Tree.lt (f x) (.node ι f) := ⟨ι, f, x, rfl, rfl⟩
theorem Cfg.work (hX : X.Ok) (C : Cfg P X γ gs w T hs γs ts) {i : Nat} {g g0 : Goroutine} (sl : Option (Nat × Nat)) (h0 : 0 < i) (hi : gs[i]? = some g) (hrun : g.status = .running) (hm : g0.status = .running) (hA : AtM X γ gs g0) :
    ∃ γ' gs' w' T' hs' γs' ts' ops, runT P (crowd gs w sl) i = (.next (crowd gs' w' sl), ops) /\ T' = T ++ ops /\ gs'.size = gs.size /\ Cfg P X γ' gs' w' T' hs' γs' ts' /\ AtM X γ' gs' g0 /\ hs' 0 = hs 0 /\ γs' 0 = γs 0 /\ Deaf T' 0 = Deaf T 0 /\ SameL w w' /\
      (Down gs.size ts' ts \/ (ts' = ts /\ cnt gs' < cnt gs)) := by
  have hlt : i < gs.size := (Array.getElem?_eq_some_iff.1 hi).1
  have hi0 : (i == 0) = false := by simp; omega
  have hne : (0 : Nat) ≠ i := by omega
  obtain ⟨g1, hN, hrec⟩ := C.wk i g h0 hi
  have hgg : g = g1 := by
    rcases hrec with h | ⟨_, h, _⟩
    · exact h
    · rw [h] at hrun; cases hrun
  subst hgg
  generalize hti : ts i = t at hN
  obtain ⟨ι, f⟩ := t
  have hD : ∀ {es : Array Event} {fn : FuncId} {pos : String}, Deaf (T ++ MemOp.ofEvents i fn pos es) 0 = Deaf T 0 := fun {es fn pos} => Deaf_other T (fun z => hne z.symm) _ fun op hop => by obtain ⟨e, _, rfl⟩ := Go.Conc.mem_ofEvents hop; rfl
  have down : ∀ x, Down gs.size (upT ts i (f x)) ts := fun x => ⟨i, hlt, by rw [upT_same, hti]; exact tree_lt x, fun j hj => upT_ne ts _ hj⟩
  have Rl := C.mi.rel i hlt
  rcases hN with hs' | ⟨Y, hY, hst | hy | hy | hy | hy⟩
  · rw [hs'.1] at hrun; cases hrun
  · by_cases hd : X.done i (γs i)
    · have hdγ := (C.mi.dn i h0 hlt).2 hd
      have hemp := C.mi.back i h0 hlt (hX.fin i γ h0 hdγ)
      obtain ⟨g', es, hmu, hstep, hx⟩ := hst.2.2 hd (fun z => z) hemp
      obtain ⟨x, hx⟩ := hY _ _ _ hx
      obtain ⟨gs', r1, r2, r3, r4, r5, _⟩ := C.go (γ' := γ) (hs' := hs) (γs' := γs) (ts' := upT ts i (f x)) sl hi (by rw [hi0]; exact hstep w) (C.mi.mute hX hlt g.frame.fn g.frame.place hmu) (fun _ _ => rfl) (fun _ _ => rfl) (fun j hj => upT_ne ts _ hj) (.inr fun _ z => z)
        (fun _ => ⟨g', by rw [upT_same, Deaf_own]; exact hx, .inl rfl⟩)
      exact ⟨γ, gs', w, _, hs, γs, _, _, r1, rfl, r2, r4, r5 g0 hm (by omega) hA, rfl, rfl, hD, SameL.refl w, .inl (down x)⟩
    · have hdγ : ¬ X.done i γ := fun z => hd ((C.mi.dn i h0 hlt).1 z)
      have hP := C.mi.part i hlt
      obtain ⟨g', w', es, h', hstep, hsame, hc, hev, hx⟩ := hst.2.1 w ⟨hP.get, hP.size, fun z => z.elim⟩
      obtain ⟨x, hx⟩ := hY _ _ _ hx
      have hcf := hX.cfR _ _ _ (Rl fun _ => hdγ)
      have M' := C.mi.own hX hlt (fun _ => hdγ) g.frame.fn g.frame.place (fun a => by rw [hcf]; exact Iff.rfl) (fun ⟨z, _⟩ => by omega) (fun b => Iff.rfl) hc hev (fun _ hf => by
        have := (hc.quiet (fun z => z)).2
        rw [C.mi.back i h0 hlt hf] at this
        exact Array.size_eq_zero_iff.1 this)
      obtain ⟨gs', r1, r2, r3, r4, r5, _⟩ := C.go (γ' := γ) (hs' := upd hs i h') (γs' := γs) (ts' := upT ts i (f x)) sl hi (by rw [hi0]; exact hstep) M' (fun j hj => upd_ne hs _ hj) (fun _ _ => rfl) (fun j hj => upT_ne ts _ hj) (.inr fun _ z => z)
        (fun _ => ⟨g', by rw [upT_same, upd_same, Deaf_own]; exact hx, .inl rfl⟩)
      exact ⟨γ, gs', w', _, _, γs, _, _, r1, rfl, r2, r4, r5 g0 hm (by omega) hA, upd_ne hs _ hne, rfl, hD, hsame.later, .inl (down x)⟩
  · obtain ⟨hd, hy⟩ := hy
    obtain ⟨hd, hf⟩ := hd h0
    have hdγ : ¬ X.done i γ := fun z => hd ((C.mi.dn i h0 hlt).1 z)
    have hP := C.mi.part i hlt
    obtain ⟨g', w', es, h', hstep, hsame, hc, hev, hx⟩ := (hy w.heap.size hP.size).2.1 w hP.pad
    obtain ⟨x, hx⟩ := hY _ _ _ hx
    have hR := Rl fun _ => hdγ
    have hcf := hX.cfR _ _ _ hR
    have M' := C.mi.own hX hlt (fun _ => hdγ) g.frame.fn g.frame.place (fun a => by rw [hcf]; exact Iff.rfl) (fun _ => trivial) (fun b => padTo_pres) hc hev (fun _ hf' => by
      rw [hX.finR i _ _ h0 hR] at hf'
      simp only at hf
      rw [hf] at hf'; cases hf')
    obtain ⟨gs', r1, r2, r3, r4, r5, _⟩ := C.go (γ' := γ) (hs' := upd hs i h') (γs' := γs) (ts' := upT ts i (f x)) sl hi (by rw [hi0]; exact hstep) M' (fun j hj => upd_ne hs _ hj) (fun _ _ => rfl) (fun j hj => upT_ne ts _ hj) (.inr fun _ z => z)
      (fun _ => ⟨g', by rw [upT_same, upd_same, Deaf_own]; exact hx, .inl rfl⟩)
    exact ⟨γ, gs', w', _, _, γs, _, _, r1, rfl, r2, r4, r5 g0 hm (by omega) hA, upd_ne hs _ hne, rfl, hD, hsame.later, .inl (down x)⟩
  · obtain ⟨hgo, hd, hy⟩ := hy
    have hd := hd h0
    have hdγ : ¬ X.done i γ := fun z => hd ((C.mi.dn i h0 hlt).1 z)
    rcases hy γ w (Rl fun _ => hdγ) C.mi.inv (C.mi.part i hlt).weak with ⟨hb, hstep⟩ | ⟨g', w', es, γ₂, hstep, hr', hsame, hk, hsh, hsz, hinv, hmv, hfin, hev, hlate, hln, hx⟩
    · have M' : Mi X γ gs.size w.heap (T ++ MemOp.ofEvents i g.frame.fn g.frame.place #[]) hs γs := by rw [ofEvents_none]; simpa using C.mi
      obtain ⟨gs', r1, r2, r3, r4, r5, r6⟩ := C.go (γ' := γ) (hs' := hs) (γs' := γs) (ts' := ts) sl hi (by rw [hi0]; exact hstep) M' (fun _ _ => rfl) (fun _ _ => rfl) (fun _ _ => rfl) (.inr fun _ z => z)
        (fun _ => ⟨g, by rw [hti, ofEvents_none, Array.append_empty]; exact Or.inr ⟨Y, hY, .inr (.inr (.inl ⟨hgo, fun _ => hd, hy⟩))⟩, .inr ⟨hgo, rfl, hb⟩⟩)
      exact ⟨γ, gs', w, _, hs, γs, ts, _, r1, rfl, r2, r4, r5 g0 hm (by omega) hA, rfl, rfl, hD, SameL.refl w, .inr ⟨rfl, by rw [r6 rfl]; exact cnt_set hi hrun nofun⟩⟩
    · obtain ⟨x, hx⟩ := hY _ _ _ hx
      have M' := C.mi.op hX hlt (fun _ => hdγ) g.frame.fn g.frame.place hsh hsz hinv hmv hfin hev hlate hln
      obtain ⟨gs', r1, r2, r3, r4, r5, _⟩ := C.go (γ' := γ₂) (hs' := hs) (γs' := upd γs i γ₂) (ts' := upT ts i (f x)) sl hi (by rw [hi0]; exact hstep) M' (fun _ _ => rfl) (fun j hj => upd_ne γs _ hj) (fun j hj => upT_ne ts _ hj) (hk.imp (fun z => ⟨z, hr'⟩) id)
        (fun _ => ⟨g', by rw [upT_same, upd_same, Deaf_own]; exact hx, .inl rfl⟩)
      exact ⟨γ₂, gs', w', _, hs, _, _, _, r1, rfl, r2, r4, r5 g0 hm (by omega) hA, rfl, upd_ne γs _ hne, hD, hsame, .inl (down x)⟩
  · obtain ⟨hgo, _, hd, hdd, hy⟩ := hy
    have hdγ : ¬ X.done i γ := fun z => hd ((C.mi.dn i h0 hlt).1 z)
    obtain ⟨g', γ₂, hstep, hr', hk, hinv, hmv, hf0, hfin, hln, hx⟩ := hy γ w (Rl fun _ => hdγ) C.mi.inv (C.mi.part i hlt).weak
    obtain ⟨x, hx⟩ := hY _ _ _ hx
    have M' := C.mi.release hX h0 hlt hdγ hdd g.frame.fn g.frame.place rfl hinv hmv hf0 hfin hln
    obtain ⟨gs', r1, r2, r3, r4, r5, _⟩ := C.go (γ' := γ₂) (hs' := upd hs i #[]) (γs' := upd γs i γ₂) (ts' := upT ts i (f x)) sl hi (by rw [hi0]; exact hstep) M' (fun j hj => upd_ne hs _ hj) (fun j hj => upd_ne γs _ hj) (fun j hj => upT_ne ts _ hj) (hk.imp (fun z => ⟨z, hr'⟩) id)
      (fun _ => ⟨g', by
        rw [upT_same, upd_same, upd_same, Deaf_own]
        have : deafBehind (Deaf T i) #[Go.ConcR.mk (.releaseMerge (X.cf γ).ad)] = Deaf T i := rfl
        rw [this, show Deaf T i = 0 from hdd]
        exact hx, .inl rfl⟩)
    exact ⟨γ₂, gs', w, _, _, _, _, _, r1, rfl, r2, r4, r5 g0 hm (by omega) hA, upd_ne hs _ hne, upd_ne γs _ hne, hD, SameL.refl w, .inl (down x)⟩
  · obtain ⟨hgo, _, hd, hf, hdd, hy⟩ := hy
    have hdγ : ¬ X.done i γ := fun z => hd ((C.mi.dn i h0 hlt).1 z)
    have hR := Rl fun _ => hdγ
    have hdd' : Deaf T i = 0 := hdd
    rcases hy γ w hR C.mi.inv (C.mi.part i hlt).weak C.mi.bg.part with ⟨g', w', es, γ₂, hstep, hr', hsame, hk, hsh, hsz, hinv, hmv, hfin, hev, hlate, hln, hx⟩ | ⟨g', w', γ₂, a, rd, h', hstep, hr', hsame, hk, hsh, hsz, hinv, hG, hln, hx⟩
    · obtain ⟨x, hx⟩ := hY _ _ _ hx
      have M' := C.mi.op hX hlt (fun _ => hdγ) g.frame.fn g.frame.place hsh hsz hinv hmv hfin hev (fun z z' => by rw [hdd']; exact hlate z z') hln
      obtain ⟨gs', r1, r2, r3, r4, r5, _⟩ := C.go (γ' := γ₂) (hs' := hs) (γs' := upd γs i γ₂) (ts' := upT ts i (f x)) sl hi (by rw [hi0]; exact hstep) M' (fun _ _ => rfl) (fun j hj => upd_ne γs _ hj) (fun j hj => upT_ne ts _ hj) (hk.imp (fun z => ⟨z, hr'⟩) id)
        (fun _ => ⟨g', by rw [upT_same, upd_same, Deaf_own, hdd']; exact hx, .inl rfl⟩)
      exact ⟨γ₂, gs', w', _, hs, _, _, _, r1, rfl, r2, r4, r5 g0 hm (by omega) hA, rfl, upd_ne γs _ hne, hD, hsame, .inl (down x)⟩
    · obtain ⟨x, hx⟩ := hY _ _ _ hx
      have hf' : X.fin γ i = none := by rw [hX.finR i _ _ h0 hR]; exact hf
      have M' := C.mi.hand hX h0 hlt hdγ hdd' hf' g.frame.fn g.frame.place rfl hsh hsz hinv hG hln
      obtain ⟨gs', r1, r2, r3, r4, r5, _⟩ := C.go (γ' := γ₂) (hs' := upd hs i h') (γs' := upd γs i γ₂) (ts' := upT ts i (f x)) sl hi (by rw [hi0]; exact hstep) M' (fun j hj => upd_ne hs _ hj) (fun j hj => upd_ne γs _ hj) (fun j hj => upT_ne ts _ hj) (hk.imp (fun z => ⟨z, hr'⟩) id)
        (fun _ => ⟨g', by
          rw [upT_same, upd_same, upd_same, Deaf_own]
          have : deafBehind (Deaf T i) (handE a rd) = Deaf T i := by cases rd <;> rfl
          rw [this, hdd']
          exact hx, .inl rfl⟩)
      exact ⟨γ₂, gs', w', _, _, _, _, _, r1, rfl, r2, r4, r5 g0 hm (by omega) hA, upd_ne hs _ hne, upd_ne γs _ hne, hD, hsame, .inl (down x)⟩
theorem Cfg.awake (C : Cfg P X γ gs w T hs γs ts) {g0 : Goroutine} (hm : g0.status = .running) (hA : AtM X γ gs g0) : ∀ g ∈ gs, Go.Conc.awake g := by
  intro g hg
  obtain ⟨i, hi⟩ := Array.mem_iff_getElem?.1 hg
  have key : ∀ g0 : Goroutine, (g0.status = .running \/ g0.status = .finished) -> Rec X γ i g0 g -> Go.Conc.awake g := fun g0 h1 h2 => by
    rcases h2 with rfl | ⟨_, rfl, _⟩
    · exact awake_of (h1.elim .inl fun z => .inr (.inr z))
    · exact awake_of (.inr (.inl rfl))
  rcases Nat.eq_zero_or_pos i with h0 | h0
  · subst h0
    obtain ⟨x, hx, hr⟩ := hA
    rw [hx] at hi
    obtain rfl := Option.some.inj hi
    exact key g0 (.inl hm) hr
  · obtain ⟨g1, h1, h2⟩ := C.wk i g h0 hi
    exact key g1 ((runsN_status h1).imp id (·.1)) h2
theorem Cfg.runner (hX : X.Ok) (C : Cfg P X γ gs w T hs γs ts) {g0 : Goroutine} (hm : g0.status = .running) (hA : AtM X γ gs g0) : ∃ (i : Nat) (g : Goroutine), gs[i]? = some g /\ g.status = .running := by
  refine Classical.byContradiction fun hno => hX.live γ w.heap C.mi.inv fun i hi => ?_
  rw [C.mi.num] at hi
  obtain ⟨g, hg⟩ : ∃ g, gs[i]? = some g := ⟨gs[i], Array.getElem?_eq_getElem hi⟩
  have hng : g.status ≠ .running := fun z => hno ⟨i, g, hg, z⟩
  rcases Nat.eq_zero_or_pos i with h0 | h0
  · subst h0
    obtain ⟨x, hx, hr⟩ := hA
    rw [hx] at hg
    obtain rfl := Option.some.inj hg
    rcases hr with rfl | ⟨_, _, hb⟩
    · exact absurd hm hng
    · exact .inl hb
  · obtain ⟨g1, h1, h2⟩ := C.wk i g h0 hg
    rcases h2 with rfl | ⟨_, _, hb⟩
    · rcases runsN_status h1 with z | ⟨_, z⟩
      · exact absurd z hng
      · exact .inr ⟨h0, (C.mi.dn i h0 hi).2 z.2.2.1⟩
    · exact .inl hb
structure Keeps (h : Hp) (γ0 : Γ) (d : Nat) (W : World) (n : Nat) (gs : Array Goroutine) (w : World) (T : Trace) (hs : Nat -> Hp) (γs : Nat -> Γ) : Prop where
  h : hs 0 = h
  γ : γs 0 = γ0
  d : Deaf T 0 = d
  w : SameL W w
  n : gs.size = n
theorem Cfg.at (C : Cfg P X γ gs w T hs γs ts) (d : Nat) : Cfg P X γ gs (w.at d) T hs γs ts := ⟨C.mi, C.wk⟩
theorem turns (hX : X.Ok) {g0 : Goroutine} (hm : g0.status = .running) {h : Hp} {γ0 : Γ} {d n : Nat} {W : World} {Done : Γ -> Array Goroutine -> World -> Trace -> (Nat -> Hp) -> (Nat -> Γ) -> (Nat -> Tree) -> Option (Nat × Nat) -> Prop}
    (hmain : ∀ γ gs w T hs γs ts sl, Cfg P X γ gs w T hs γs ts -> Keeps h γ0 d W n gs w T hs γs -> gs[0]? = some g0 -> (Going g0 /\ X.blk 0 γ /\ stepG P true g0 w = .go { g0 with status := .blocked } w #[]) \/ Done γ gs w T hs γs ts sl) :
    ∀ (ts : Nat -> Tree) (γ : Γ) (gs : Array Goroutine) (w : World) (T : Trace) (hs : Nat -> Hp) (γs : Nat -> Γ) (sl : Option (Nat × Nat)), Cfg P X γ gs w T hs γs ts -> Keeps h γ0 d W n gs w T hs γs -> AtM X γ gs g0 ->
      ∃ N m₁ T' γ' gs' w' hs' γs' ts' sl', runNT P N (crowd gs w sl) T = (.next m₁, T') /\ stepT P m₁ = runT P (crowd gs' w' sl') 0 /\ Cfg P X γ' gs' w' T' hs' γs' ts' /\ Keeps h γ0 d W n gs' w' T' hs' γs' /\ gs'[0]? = some g0 /\ (m₁.gs = gs' /\ m₁.rest.timers = #[]) /\ Done γ' gs' w' T' hs' γs' ts' sl' := by
  intro ts
  induction Down.acc n ts with
  | intro ts _ iht =>
    have key : ∀ (c : Nat) (γ : Γ) (gs : Array Goroutine) (w : World) (T : Trace) (hs : Nat -> Hp) (γs : Nat -> Γ) (sl : Option (Nat × Nat)), cnt gs = c -> Cfg P X γ gs w T hs γs ts -> Keeps h γ0 d W n gs w T hs γs -> AtM X γ gs g0 ->
        ∃ N m₁ T' γ' gs' w' hs' γs' ts' sl', runNT P N (crowd gs w sl) T = (.next m₁, T') /\ stepT P m₁ = runT P (crowd gs' w' sl') 0 /\ Cfg P X γ' gs' w' T' hs' γs' ts' /\ Keeps h γ0 d W n gs' w' T' hs' γs' /\ gs'[0]? = some g0 /\ (m₁.gs = gs' /\ m₁.rest.timers = #[]) /\ Done γ' gs' w' T' hs' γs' ts' sl' := by
      intro c
      induction c using Nat.strongRecOn with
      | _ c ihc =>
        intro γ gs w T hs γs sl hc C K hA
        obtain ⟨i, g, d', sl', hi, hg, hst⟩ := crowd_pick (P := P) (w := w) (sl := sl) (C.awake hm hA) (C.runner hX hm hA)
        have C' := C.at d'
        have K' : Keeps h γ0 d W n gs (w.at d') T hs γs := ⟨K.h, K.γ, K.d, K.w.trans (sameL_at w d'), K.n⟩
        rcases Nat.eq_zero_or_pos i with h0 | h0
        · subst h0
          have hgg : g = g0 := by
            obtain ⟨x, hx, hr⟩ := hA
            rw [hx] at hi
            obtain rfl := Option.some.inj hi
            rcases hr with h | ⟨_, h, _⟩
            · exact h
            · rw [h] at hg; cases hg
          subst hgg
          rcases hmain γ gs (w.at d') T hs γs ts sl' C' K' hi with ⟨hgo, hb, hstep⟩ | hdone
          · have M' : Mi X γ gs.size (w.at d').heap (T ++ MemOp.ofEvents 0 g.frame.fn g.frame.place #[]) hs γs := by rw [ofEvents_none]; simpa using C'.mi
            obtain ⟨gs', r1, r2, r3, r4, _, r6⟩ := C'.go (γ' := γ) (hs' := hs) (γs' := γs) (ts' := ts) sl' hi hstep M' (fun _ _ => rfl) (fun _ _ => rfl) (fun _ _ => rfl) (.inr fun _ z => z) (fun z => absurd z (Nat.lt_irrefl _))
            rw [ofEvents_none, Array.append_empty] at r4
            rw [ofEvents_none] at r1
            obtain ⟨N, m₁, T', γ', gs'', w', hs', γs', ts', sl'', e1, e2⟩ := ihc (cnt gs') (by rw [<- hc, r6 rfl]; exact cnt_set hi hg nofun) γ gs' (w.at d') T hs γs sl' rfl r4 ⟨K'.h, K'.γ, K'.d, K'.w, r2.trans K'.n⟩ ⟨_, r3, .inr ⟨hgo, rfl, hb⟩⟩
            refine ⟨N + 1, m₁, T', γ', gs'', w', hs', γs', ts', sl'', ?_, e2⟩
            simp only [runNT, hst.trans r1, Array.append_empty]
            exact e1
          · exact ⟨0, _, T, γ, gs, w.at d', hs, γs, ts, sl', rfl, hst, C', K', hi, ⟨rfl, rfl⟩, hdone⟩
        · obtain ⟨γ', gs', w', T', hs', γs', ts', ops, r1, r2, r3, r4, r5, r6, r7, r8, r9, r10⟩ := C'.work hX sl' h0 hi hg hm hA
          subst r2
          have K2 : Keeps h γ0 d W n gs' w' (T ++ ops) hs' γs' := ⟨r6.trans K'.h, r7.trans K'.γ, r8.trans K'.d, K'.w.trans r9, r3.trans K'.n⟩
          have := (by
            rcases r10 with hd | ⟨rfl, hlt⟩
            · exact iht ts' (by rw [<- K.n]; exact hd) γ' gs' w' (T ++ ops) hs' γs' sl' r4 K2 r5
            · exact ihc (cnt gs') (by rw [<- hc]; exact hlt) γ' gs' w' (T ++ ops) hs' γs' sl' rfl r4 K2 r5 :
            ∃ N m₁ T' γ'' gs'' w'' hs'' γs'' ts'' sl'', runNT P N (crowd gs' w' sl') (T ++ ops) = (.next m₁, T') /\ stepT P m₁ = runT P (crowd gs'' w'' sl'') 0 /\ Cfg P X γ'' gs'' w'' T' hs'' γs'' ts'' /\ Keeps h γ0 d W n gs'' w'' T' hs'' γs'' /\ gs''[0]? = some g0 /\ (m₁.gs = gs'' /\ m₁.rest.timers = #[]) /\ Done γ'' gs'' w'' T' hs'' γs'' ts'' sl'')
          obtain ⟨N, m₁, T', γ'', gs'', w'', hs'', γs'', ts'', sl'', e1, e2⟩ := this
          refine ⟨N + 1, m₁, T', γ'', gs'', w'', hs'', γs'', ts'', sl'', ?_, e2⟩
          simp only [runNT, hst.trans r1]
          exact e1
    intro γ gs w T hs γs sl C K hA
    exact key _ γ gs w T hs γs sl rfl C K hA
def Reach (P : Program) (X : Fp Γ) (Y : Goroutine -> Hp -> Ix Γ -> Prop) (W : World) (m : Machine) (T : Trace) : Prop :=
  ∃ γ gs w hs γs ts sl g, m = crowd gs w sl /\ Cfg P X γ gs w T hs γs ts /\ gs[0]? = some g /\ SameL W w /\ Y g (hs 0) ⟨Deaf T 0, γs 0⟩
theorem Cfg.main (hX : X.Ok) (C : Cfg P X γ gs w T hs γs ts) {g0 : Goroutine} (hg : gs[0]? = some g0) (hm : g0.status = .running) {Y : Goroutine -> Hp -> Ix Γ -> Prop} (sl : Option (Nat × Nat))
    (hmain : ∀ γ₁ gs₁ w₁ T₁ hs₁ γs₁ ts₁ sl₁, Cfg P X γ₁ gs₁ w₁ T₁ hs₁ γs₁ ts₁ -> Keeps (hs 0) (γs 0) (Deaf T 0) w gs.size gs₁ w₁ T₁ hs₁ γs₁ -> gs₁[0]? = some g0 ->
      (Going g0 /\ X.blk 0 γ₁ /\ stepG P true g0 w₁ = .go { g0 with status := .blocked } w₁ #[]) \/ ∃ m' ops, runT P (crowd gs₁ w₁ sl₁) 0 = (.next m', ops) /\ Reach P X Y w m' (T₁ ++ ops)) :
    ∃ N m' T', runNT P N (crowd gs w sl) T = (.next m', T') /\ Reach P X Y w m' T' := by
  obtain ⟨N, m₁, T', γ', gs', w', hs', γs', ts', sl', e1, e2, _, _, _, _, m', ops, e3, e4⟩ := turns hX hm (Done := fun _ gs₁ w₁ T₁ _ _ _ sl₁ => ∃ m' ops, runT P (crowd gs₁ w₁ sl₁) 0 = (.next m', ops) /\ Reach P X Y w m' (T₁ ++ ops)) hmain ts γ gs w T hs γs sl C ⟨rfl, rfl, rfl, SameL.refl w, rfl⟩ ⟨g0, hg, .inl rfl⟩
  exact ⟨N + 1, m', T' ++ ops, runNT_succ_of e1 (e2.trans e3), e4⟩
theorem companyF (hX : X.Ok) {Stop : Goroutine -> Hp -> Ix Γ -> Prop} {g : Goroutine} {hp : Hp} {δ : Ix Γ} (Hr : Runs P true (SitM P X) Stop g hp δ) :
    ∀ {γ : Γ} {gs : Array Goroutine} {w : World} {T : Trace} {hs : Nat -> Hp} {γs : Nat -> Γ} {ts : Nat -> Tree} {sl : Option (Nat × Nat)}, Cfg P X γ gs w T hs γs ts -> hs 0 = hp -> δ = ⟨Deaf T 0, γs 0⟩ -> gs[0]? = some g ->
      ∃ N m' T', runNT P N (crowd gs w sl) T = (.next m', T') /\ Reach P X Stop w m' T' := by
  have next : ∀ {Y : Goroutine → Hp → Ix Γ → Prop}, (∀ g h δ, Y g h δ → ∀ {γ : Γ} {gs : Array Goroutine} {w : World} {T : Trace} {hs : Nat → Hp} {γs : Nat → Γ} {ts : Nat → Tree} {sl : Option (Nat × Nat)}, Cfg P X γ gs w T hs γs ts → hs 0 = h → δ = ⟨Deaf T 0, γs 0⟩ → gs[0]? = some g →
        ∃ N m' T', runNT P N (crowd gs w sl) T = (.next m', T') /\ Reach P X Stop w m' T') ->
      ∀ {gs : Array Goroutine} {w : World} {T : Trace} {sl : Option (Nat × Nat)}, (∃ N m' T', runNT P N (crowd gs w sl) T = (.next m', T') /\ Reach P X Y w m' T') -> ∃ N m' T', runNT P N (crowd gs w sl) T = (.next m', T') /\ Reach P X Stop w m' T' := by
    intro Y ih gs w T sl hex
    obtain ⟨N, m', T', e1, γ', gs', w', hs', γs', ts', sl', g', rfl, C', hg', hw', hy⟩ := hex
    obtain ⟨N₂, m₂, T₂, e2, γ₂, gs₂, w₂, hs₂, γs₂, ts₂, sl₂, g₂, h1, h2, h3, h4, h5⟩ := ih _ _ _ hy (sl := sl') C' rfl rfl hg'
    exact ⟨N + N₂, m₂, T₂, runNT_then e1 e2, γ₂, gs₂, w₂, hs₂, γs₂, ts₂, sl₂, g₂, h1, h2, h3, hw'.trans h4, h5⟩
  have hD0 : ∀ {T : Trace} {fn : FuncId} {pos : String} {es : Array Event}, Deaf (T ++ MemOp.ofEvents 0 fn pos es) 0 = deafBehind (Deaf T 0) es := fun {T fn pos es} => Deaf_own _ _ _ _ _
  induction Hr with
  | stop hst =>
    intro γ gs w T hs γs ts sl C hh hδ hg
    subst hh hδ
    exact ⟨0, _, T, rfl, γ, gs, w, hs, γs, ts, sl, _, rfl, C, hg, SameL.refl w, hst⟩
  | @step g hp δ Y _ hst ih =>
    intro γ gs w T hs γs ts sl C hh hδ hg
    subst hh hδ
    refine next ih (C.main hX hg hst.1 sl fun γ₁ gs₁ w₁ T₁ hs₁ γs₁ ts₁ sl₁ C₁ K₁ hg₁ => .inr ?_)
    have hpos := C₁.mi.pos
    have hP := C₁.mi.part 0 hpos
    rw [K₁.h, K₁.γ] at hP
    obtain ⟨g', w', es, h', hstep, hsame, hc, hev, hx⟩ := hst.2.1 w₁ ⟨hP.get, hP.size, fun z => hP.same ⟨rfl, z⟩⟩
    have hcf := hX.cfR _ _ _ (C₁.mi.rel 0 hpos (fun z => absurd z (Nat.lt_irrefl _)))
    rw [K₁.γ] at hcf
    have M' := C₁.mi.own hX hpos (fun z => absurd z (Nat.lt_irrefl _)) g.frame.fn g.frame.place (fun a => by rw [hcf]; exact Iff.rfl) (fun ⟨_, z⟩ => by rw [K₁.γ] at z; exact z) (fun b => by rw [K₁.h]) hc hev (fun z => absurd z (Nat.lt_irrefl _))
    obtain ⟨gs', r1, r2, r3, r4, _, _⟩ := C₁.go (γ' := γ₁) (hs' := upd hs₁ 0 h') (γs' := γs₁) (ts' := ts₁) sl₁ hg₁ hstep M' (fun j hj => upd_ne hs₁ _ hj) (fun _ _ => rfl) (fun _ _ => rfl) (.inr fun _ z => z) (fun z => absurd z (Nat.lt_irrefl _))
    exact ⟨_, _, r1, γ₁, gs', w', _, γs₁, ts₁, sl₁, g', rfl, r4, r3, K₁.w.trans hsame.later, by rw [upd_same, hD0, K₁.d, K₁.γ]; exact hx⟩
  | @hands g hp δ Y _ hy ih =>
    intro γ gs w T hs γs ts sl C hh hδ hg
    subst hh hδ
    rcases hy with hy | hy | hy | hy | hy
    · have hrun := (hy.2 _ (Nat.le_refl _)).1
      refine next ih (C.main hX hg hrun sl fun γ₁ gs₁ w₁ T₁ hs₁ γs₁ ts₁ sl₁ C₁ K₁ hg₁ => .inr ?_)
      have hpos := C₁.mi.pos
      have hP := C₁.mi.part 0 hpos
      rw [K₁.h] at hP
      obtain ⟨g', w', es, h', hstep, hsame, hc, hev, hx⟩ := (hy.2 w₁.heap.size hP.size).2.1 w₁ hP.pad
      have hcf := hX.cfR _ _ _ (C₁.mi.rel 0 hpos (fun z => absurd z (Nat.lt_irrefl _)))
      rw [K₁.γ] at hcf
      have M' := C₁.mi.own hX hpos (fun z => absurd z (Nat.lt_irrefl _)) g.frame.fn g.frame.place (fun a => by rw [hcf]; exact Iff.rfl) (fun _ => trivial) (fun b => by rw [K₁.h]; exact padTo_pres) hc hev (fun z => absurd z (Nat.lt_irrefl _))
      obtain ⟨gs', r1, r2, r3, r4, _, _⟩ := C₁.go (γ' := γ₁) (hs' := upd hs₁ 0 h') (γs' := γs₁) (ts' := ts₁) sl₁ hg₁ hstep M' (fun j hj => upd_ne hs₁ _ hj) (fun _ _ => rfl) (fun _ _ => rfl) (.inr fun _ z => z) (fun z => absurd z (Nat.lt_irrefl _))
      exact ⟨_, _, r1, γ₁, gs', w', _, γs₁, ts₁, sl₁, g', rfl, r4, r3, K₁.w.trans hsame.later, by rw [upd_same, hD0, K₁.d, K₁.γ]; exact hx⟩
    · obtain ⟨hgo, _, hy⟩ := hy
      refine next ih (C.main hX hg hgo.1 sl fun γ₁ gs₁ w₁ T₁ hs₁ γs₁ ts₁ sl₁ C₁ K₁ hg₁ => ?_)
      have hpos := C₁.mi.pos
      have hP := C₁.mi.part 0 hpos
      have hR := C₁.mi.rel 0 hpos (fun z => absurd z (Nat.lt_irrefl _))
      rw [K₁.h] at hP
      rw [K₁.γ] at hR
      rcases hy γ₁ w₁ hR C₁.mi.inv hP.weak with ⟨hb, hstep⟩ | ⟨g', w', es, γ₂, hstep, hr', hsame, hk, hsh, hsz, hinv, hmv, hfin, hev, hlate, hln, hx⟩
      · exact .inl ⟨hgo, hb, hstep⟩
      · have M' := C₁.mi.op hX hpos (fun z => absurd z (Nat.lt_irrefl _)) g.frame.fn g.frame.place hsh hsz hinv hmv hfin hev (fun z => absurd z (Nat.lt_irrefl _)) hln
        obtain ⟨gs', r1, r2, r3, r4, _, _⟩ := C₁.go (γ' := γ₂) (hs' := hs₁) (γs' := upd γs₁ 0 γ₂) (ts' := ts₁) sl₁ hg₁ hstep M' (fun _ _ => rfl) (fun j hj => upd_ne γs₁ _ hj) (fun _ _ => rfl) (hk.imp (fun z => ⟨z, hr'⟩) id) (fun z => absurd z (Nat.lt_irrefl _))
        exact .inr ⟨_, _, r1, γ₂, gs', w', hs₁, _, ts₁, sl₁, g', rfl, r4, r3, K₁.w.trans hsame, by rw [upd_same, hD0, K₁.d, K₁.h]; exact hx⟩
    · obtain ⟨h1, h2, h3, h4, h₁, γ₁, k1, k2, k3, k4, k5, k6, k7, k8, k9, kb, hx⟩ := hy
      have hγ := C.mi.lone h2
      have hn : gs.size = 1 := by rw [<- C.mi.num, hγ]; exact h1
      have M' := C.mi.share hX rfl hn h2 (by rw [hγ]; exact h3) (by rw [hγ]; exact h4) k1 k2 k3 k4 k5 k6 k7 k8 k9 kb
      have C' : Cfg P X γ₁ gs w T (upd hs 0 h₁) (upd γs 0 γ₁) ts := ⟨M', fun i x h0 hi => by
        have := (Array.getElem?_eq_some_iff.1 hi).1
        omega⟩
      exact ih _ _ _ hx C' (upd_same _ _ _) (by rw [upd_same]) hg
    · obtain ⟨hgo, hd0, hy⟩ := hy
      refine next ih (C.main hX hg hgo.1 sl fun γ₁ gs₁ w₁ T₁ hs₁ γs₁ ts₁ sl₁ C₁ K₁ hg₁ => .inr ?_)
      have hpos := C₁.mi.pos
      have hP := C₁.mi.part 0 hpos
      have hR := C₁.mi.rel 0 hpos (fun z => absurd z (Nat.lt_irrefl _))
      rw [K₁.h] at hP
      rw [K₁.γ] at hR
      obtain ⟨g', child, γ₂, hm, hc, hstep, hr', ⟨k1, k2, k3, k4, k5, k6, kb, k7, k8, k9, s1, s2, s3, l1, l2, j1, j2, kb1, kb2⟩, hch, hx⟩ := hy γ₁ w₁ hR C₁.mi.inv hP.weak
      have hnum := C₁.mi.num
      have M' := C₁.mi.hire hX K₁.h.symm (K₁.d.trans hd0) g.frame.fn g.frame.place child.frame.fn k1 k2 k3 k4 k5 k6 k7 k8 k9 s1 s2 s3 l2 j1 j2 kb1 kb2
      obtain ⟨t, ht⟩ := hch.tree
      rw [hnum] at ht
      have hops : ((MemOp.ofEvents 0 g.frame.fn g.frame.place #[]).push { g := 0, fn := g.frame.fn, pos := g.frame.place, act := .go gs₁.size } |>.push { g := gs₁.size, fn := child.frame.fn, pos := g.frame.place, act := .start }) = (#[{ g := 0, fn := g.frame.fn, pos := g.frame.place, act := .go gs₁.size }, { g := gs₁.size, fn := child.frame.fn, pos := g.frame.place, act := .start }] : Trace) := by rw [ofEvents_none]; rfl
      have hrt := runT_crowd_spawn (sl := sl₁) hg₁ hstep
      rw [hops] at hrt
      have hDe : ∀ j, Deaf (T₁ ++ #[{ g := 0, fn := g.frame.fn, pos := g.frame.place, act := .go gs₁.size }, { g := gs₁.size, fn := child.frame.fn, pos := g.frame.place, act := .start }]) j = Deaf T₁ j := fun j => Deaf_quiet fun op hop d => by
        simp only [List.mem_toArray, List.mem_cons, List.not_mem_nil, or_false] at hop
        rcases hop with rfl | rfl <;> rfl
      have hne : gs₁.size ≠ 0 := by omega
      refine ⟨_, _, hrt, γ₂, _, w₁, upd (upd hs₁ 0 hm) gs₁.size hc, upd (upd γs₁ 0 γ₂) gs₁.size γ₂, upT ts₁ gs₁.size t, sl₁, g', rfl, ⟨?_, fun j y hj0 hy' => ?_⟩, ?_, K₁.w, ?_⟩
      · have : ((gs₁.setIfInBounds 0 g').push child).size = gs₁.size + 1 := by simp
        rw [this]; exact M'
      · by_cases e : j = gs₁.size
        · subst e
          have : y = child := by
            have e1 : ((gs₁.setIfInBounds 0 g').push child)[gs₁.size]? = some child := by
              have := Array.getElem?_push_size (xs := gs₁.setIfInBounds 0 g') (x := child)
              simpa using this
            rw [e1] at hy'
            exact (Option.some.inj hy').symm
          subst this
          refine ⟨y, ?_, .inl rfl⟩
          rw [upT_same, upd_same, upd_same, hDe, Go.ConcN.Deaf_absent fun i op hi e => by
            have := C₁.mi.tf.gs i gs₁.size (by rw [g?_of hi, e])
            omega]
          exact ht
        · have hlt : j < gs₁.size := by
            have := (Array.getElem?_eq_some_iff.1 hy').1
            simp at this
            omega
          rw [Array.getElem?_push_lt (by simpa using hlt), <- Array.getElem?_eq_getElem, Array.getElem?_setIfInBounds_ne (by omega)] at hy'
          obtain ⟨g1, q1, q2⟩ := C₁.wk j y hj0 hy'
          refine ⟨g1, ?_, q2.imp id fun ⟨a, b, c⟩ => ⟨a, b, kb j (by rw [hnum]; exact hlt) c⟩⟩
          rw [upT_ne ts₁ t e, upd_ne _ _ e, upd_ne _ _ e, upd_ne _ _ (by omega), upd_ne _ _ (by omega), hDe]
          exact q1
      · rw [Array.getElem?_push_lt (by simpa using hpos), <- Array.getElem?_eq_getElem]
        exact Array.getElem?_setIfInBounds_self_of_lt hpos
      · rw [upd_ne _ hc (Ne.symm hne), upd_ne _ γ₂ (Ne.symm hne), upd_same, upd_same, hDe, K₁.d, show Deaf T 0 = 0 from hd0]
        exact hx
    · obtain ⟨hgo, hd0, hall, hy⟩ := hy
      refine next ih (C.main hX hg hgo.1 sl fun γ₁ gs₁ w₁ T₁ hs₁ γs₁ ts₁ sl₁ C₁ K₁ hg₁ => .inr ?_)
      have hpos := C₁.mi.pos
      have hP := C₁.mi.part 0 hpos
      have hR := C₁.mi.rel 0 hpos (fun z => absurd z (Nat.lt_irrefl _))
      rw [K₁.h] at hP
      rw [K₁.γ] at hR
      obtain ⟨g', γ₂, hstep, hr', hk, k1, k0, k2, k3, k4, k5, k6, k7, k8, k9, kb1, kb2, f1, f2, k10, hx⟩ := hy γ₁ w₁ hR C₁.mi.inv hP.weak C₁.mi.fin C₁.mi.bg.part
      have hnum := C₁.mi.num
      rw [hnum] at f1 f2
      have M' := C₁.mi.join hX (K₁.d.trans hd0) (fun i h0 hi => hX.doneR _ _ i hR (hall i h0 (by rw [<- hX.numR _ _ hR, hnum]; exact hi))) g.frame.fn g.frame.place k1 k2 k3 k4 k5 k6 k7 k8 k9 kb1 kb2 f1 f2 k10
      obtain ⟨gs', r1, r2, r3, r4, _, _⟩ := C₁.go (γ' := γ₂) (hs' := upd hs₁ 0 (w₁.heap.setIfInBounds (X.cf γ₁).wg dum)) (γs' := upd γs₁ 0 γ₂) (ts' := ts₁) sl₁ hg₁ hstep M' (fun j hj => upd_ne hs₁ _ hj) (fun j hj => upd_ne γs₁ _ hj) (fun _ _ => rfl) (hk.imp (fun z => ⟨z, hr'⟩) id) (fun z => absurd z (Nat.lt_irrefl _))
      have hde : deafBehind (Deaf T₁ 0) #[Go.ConcR.mk (.acquire (X.cf γ₁).ad)] = Deaf T₁ 0 := rfl
      exact ⟨_, _, r1, γ₂, gs', w₁, _, _, ts₁, sl₁, g', rfl, r4, r3, K₁.w, by rw [upd_same, upd_same, hD0, hde, K₁.d, show Deaf T 0 = 0 from hd0]; exact hx⟩
end
end
section
variable [Dm]
open Go Go.Conc
open Go.ConcM (OsLater)
open Go.ConcN (upd upd_ne upd_same)
variable {Γ : Type}
theorem stepG_last {P : Program} {f : FuncId} {a : Act} {todo : List Item} {fn : Func} {v : Value} {w : World} {es : Array Event} (hd : a.defers = []) (hf : P.funcs[f]? = some fn) (hini : P.inits.idxOf? f = none)
    (hv : (results fn a.tmps).runT P w #[] = (.ok v w, es)) : stepG P true (G { (fb f .normal).at a todo with mode := .returning } []) w = .ended (.done v) w (seen P f es) := by
  simp only [G, stepG, unwind, Frame.at, hd, hf, fb, hv]
  simp [doReturn, GStep.after, hini]
theorem runN_of_runNT {P : Program} : ∀ (n : Nat) (m m' : Machine) (t t' : Trace), runNT P n m t = (.next m', t') -> runN P n m = .next m'
  | 0, m, m', t, t', h => by simp only [runNT, Prod.mk.injEq] at h; rw [runN]; exact h.1
  | n + 1, m, m', t, t', h => by
    simp only [runNT] at h
    cases e : stepT P m with
    | mk s ops =>
      rw [e] at h
      cases s with
      | next m₁ =>
        simp only at h
        have : step P m = .next m₁ := by rw [step, e]
        rw [runN, this]
        exact runN_of_runNT n m₁ m' _ t' h
      | _ => simp at h
theorem runNT_succ_end {P : Program} {N : Nat} {m m₁ : Machine} {t t₁ : Trace} {o : Outcome} {w : World} {ops : Array MemOp} (h : runNT P N m t = (.next m₁, t₁)) (hs : stepT P m₁ = (.ended o w, ops)) : runNT P (N + 1) m t = (.ended o w, t₁ ++ ops) := by
  rw [runNT_add, h]; simp only [runNT, hs]
theorem runsN_quits {P : Program} {X : Fp Γ} {i : Nat} (h0 : 0 < i) : ∀ (t : Tree) (g : Goroutine) (d : Nat) (γ : Γ), X.done i γ -> RunsN P false (SitW P X i) (EndF X i) t g #[] ⟨d, γ⟩ -> ∃ n, QuitsD P n d g := by
  intro t
  induction t with
  | node ι f ih =>
    intro g d γ hd hr
    rcases hr with hs | ⟨Y, hY, hst | hy | hy | hy | hy⟩
    · exact ⟨0, hs.1, hs.2.1⟩
    · obtain ⟨g', es, h1, h2, h3⟩ := hst.2.2 hd (fun z => z) rfl
      obtain ⟨x, hx⟩ := hY _ _ _ h3
      obtain ⟨n, hn⟩ := ih x g' (deafBehind d es) γ hd hx
      exact ⟨n + 1, .inr ⟨hst.1, g', es, h1, h2, hn⟩⟩
    · exact absurd hd (hy.1 h0).1
    · exact absurd hd (hy.2.1 h0)
    · exact absurd hd hy.2.2.1
    · exact absurd hd hy.2.2.1
theorem cfg_one {P : Program} {X : Fp Γ} {γ₀ : Γ} {W : World} {g : Goroutine} (hX : X.Ok) (hn : X.num γ₀ = 1) (hj : ¬ X.jn γ₀) (hinv : X.Inv γ₀ W.heap) (hcf : ∀ b, ¬ (X.cf γ₀).shb b /\ ¬ (X.cf γ₀).ro b) (hfin : ∀ i, X.fin γ₀ i = none) (hbg : ∀ a, X.bag γ₀ a = #[]) :
    Cfg P X γ₀ #[g] W #[] (fun i => if i = 0 then W.heap else #[]) (fun _ => γ₀) (fun _ => .node Empty Empty.elim) := by
  have hnt : ∀ x, touchAt (#[] : Trace) x = none := fun x => by simp [touchAt, Trace.act?]
  have hng : ∀ x, Trace.g? #[] x = none := fun x => by simp [Trace.g?]
  refine ⟨⟨hn, Nat.one_pos, hinv, fun _ _ _ => hX.refl _ _, fun _ _ _ => Iff.rfl, fun i hi => ?_, fun i hf he => (by rw [hfin] at he; cases he), fun i j b hi hj' hij => ?_, fun i b _ _ => (hcf b).1, fun i h0 hi => ?_, fun b hb => absurd hb (hcf b).2, fun b hb => absurd hb (hcf b).1, fun b hb => absurd hb (hcf b).2, fun x a b hx => ?_, ?_, fun _ => rfl, fun z => absurd z hj, fun i _ => hfin i, fun i hi => ?_, ⟨fun a => by rw [hbg]; exact ⟨fun b o k _ => by simp at k, Nat.zero_le _, fun z => z.elim⟩, fun a i b _ hb => by rw [hbg] at hb; exact absurd hb (not_pres_empty b), fun a a' b hb => by rw [hbg] at hb; exact absurd hb (not_pres_empty b), fun a b hb => by rw [hbg] at hb; exact absurd hb (not_pres_empty b), fun a b hb => by rw [hbg] at hb; exact absurd hb (not_pres_empty b)⟩⟩, fun i g' h0 hi => ?_⟩
  · have : i < 1 := hi
    obtain rfl : i = 0 := by omega
    exact ⟨fun b o h1 _ => h1, Nat.le_refl _, fun _ => rfl⟩
  · have h1 : i < 1 := hi
    have h2 : j < 1 := hj'
    omega
  · have h1 : i < 1 := hi
    omega
  · rw [hnt] at hx; cases hx
  · refine ⟨fun said => ?_, fun i _ x a hx => ?_, fun i _ x a hx => ?_, fun i _ x a hx => ?_, fun x a hx => ?_, fun i h0 hi => ?_, fun a k hk => ?_, fun x g' hg => ?_, fun z => absurd z hj, fun z => absurd z hj, fun a l _ => .inl fun i _ x b hx => by rw [hnt] at hx; cases hx⟩
    · rintro ⟨i, j, _, ⟨a, b, ha, _⟩, _⟩
      simp [Trace.act?] at ha
    · rw [hnt] at hx; cases hx
    · rw [hnt] at hx; cases hx
    · rw [hnt] at hx; cases hx
    · rw [hnt] at hx; cases hx
    · have h1 : i < 1 := hi
      omega
    · simp [Trace.act?] at hk
    · rw [hng] at hg; cases hg
  · have h1 : 1 <= i := hi
    exact if_neg (by omega)
  · have := (Array.getElem?_eq_some_iff.1 hi).1
    simp at this
    omega
end
section
variable [Dm]
open Go Go.Conc
open Go.ConcM (OsLater)
variable {Γ : Type}
def WakesO (P : Program) (ρ : Operand -> Value) (o : Oper) : Prop :=
  ∃ (x : Operand) (args : Array Operand) (ats : Array TypeId) (c : FuncId), o.op = .call { callee := .value x, args, argTypes := ats } /\ ρ x = .func (.func c) #[] #[] /\ (P.funcs[c]?).any (·.body.isSome) = false
structure Shd (X : Fp Γ) (i : Nat) (γ₁ γ₂ : Γ) (d : Nat) (w w' : World) (es : Array Event) : Prop where
  later : SameL w w'
  frame : ∀ b, ¬ (X.cf γ₁).shb b -> w'.heap[b]? = w.heap[b]?
  size : w'.heap.size = w.heap.size
  inv : X.Inv γ₂ w'.heap
  mv : Mv X i γ₁ γ₂
  fin : X.fin γ₂ i = X.fin γ₁ i
  ev : ∀ e ∈ es, EvS X i γ₁ e
  late : 0 < i -> (X.fin γ₁ i).isSome = true -> Late (X.cf γ₁).wg d es
  lone : X.lone γ₂ ↔ X.lone γ₁
section
variable {P : Program} {main : Bool} {S : Sit Γ} {f : FuncId} {n : Nat} {k : List Item} {env : Env} {ds : List Deferred} {h : Hp} {δ : Ix Γ} {R : Post Γ}
variable {ops : Array Oper} {l : List Oper}
theorem mayWake_of {b : Frame} {a : Act} {k : List Item} {cs : List Frame} {m : Nat} {r : List Nat} {o : Oper} (ho : ops[m]? = some o) (hk : WakesO P a.eval o) : mayWake P (G (b.at a (.inRegion ops (m :: r) :: k)) cs) = true := by
  obtain ⟨x, args, ats, c, h1, h2, h3⟩ := hk
  obtain ⟨dst, op, ty, pos, af, g⟩ := o
  simp only at h1
  subst h1
  have e : (b.at a (.inRegion ops (m :: r) :: k)).eval x = .func (.func c) #[] #[] := Eq.trans (by cases x <;> rfl) h2
  have hm : (G (b.at a (.inRegion ops (m :: r) :: k)) cs).frame.mode = .run := rfl
  have ht : (G (b.at a (.inRegion ops (m :: r) :: k)) cs).frame.todo = .inRegion ops (m :: r) :: k := rfl
  unfold mayWake
  rw [hm, ht]
  simp only [ho, Option.map_some]
  have e2 : (G (b.at a (.inRegion ops (m :: r) :: k)) cs).frame.eval x = .func (.func c) #[] #[] := e
  rw [e2]
  simpa using h3
theorem ER.opp {X : Fp Γ} {i : Nat} {o : Oper} {d : Nat} (hS : ∀ g h δ Y, Opp P main X i g h δ Y -> S.yld g h δ Y) (hdst : o.dst = some d) (hd : Nat.blt d n = true) (hw : wantE ops env o.guard = some true) (hnd : 0 < i -> ¬ X.done i δ.g)
    (hop : ∀ ρ : Operand -> Value, (∀ x v, ev env x = some v -> ρ x = v) -> ∀ γ₁ (w : World), X.R i δ.g γ₁ -> X.Inv γ₁ w.heap -> Part False h w.heap ->
      (X.blk i γ₁ /\ ∃ es, (execOp ρ o).runT P w #[] = (.halt .blocked w, es)) \/
      ∃ v w' es γ₂, (execOp ρ o).runT P w #[] = (.ok (.value v) w', es) /\ (WakesO P ρ o \/ ∀ j, X.blk j γ₁ -> X.blk j γ₂) /\ Shd X i γ₁ γ₂ δ.d w w' (seen P f es) /\ ER P main S f n ops l k ((d, v) :: env) ds h ⟨deafBehind δ.d (seen P f es), γ₂⟩ R) :
    ER P main S f n ops (o :: l) k env ds h δ R := by
  intro rest hr a ka
  obtain ⟨m, r, rfl, ho, hr'⟩ := ER.uncons hr
  intro kind hk cs
  have hk' : (kind == CallKind.early) = false := by simpa using hk
  have hfin : ∀ v, ((fb f kind).at a (.inRegion ops (m :: r) :: k)).finish v = (fb f kind).at (a.put o.dst v) (.inRegion ops r :: k) := fun v => by rw [Frame.finish_at, ho]; rfl
  have hkind : ((fb f kind).at a (.inRegion ops (m :: r) :: k)).kind = kind := rfl
  have hfn : ((fb f kind).at a (.inRegion ops (m :: r) :: k)).fn = f := rfl
  refine .hands (Runs P main S (Left P f kind cs R)) (fun _ _ _ x => x) (hS _ _ _ _ ⟨⟨rfl, rfl⟩, hnd, fun γ₁ w hR hI hP => ?_⟩)
  have hap : stepG P main (G ((fb f kind).at a (.inRegion ops (m :: r) :: k)) cs) w = stepG.apply P true ((fb f kind).at a (.inRegion ops (m :: r) :: k)) cs none (execOp a.eval o) w := stepG_oper ho (wantE_ok ka hw)
  rcases hop a.eval (fun x v hx => ka.eval hx) γ₁ w hR hI hP with ⟨hb, es, hrun⟩ | ⟨v, w', es, γ₂, hrun, hwk, hs, hn⟩
  · refine .inl ⟨hb, ?_⟩
    rw [hap]
    simp only [stepG.apply, hrun, if_true, hkind, hk', hfn, Bool.false_eq_true, if_false]
    simp [GStep.after, G, seen_none]
  · refine .inr ⟨G ((fb f kind).at (a.put o.dst v) (.inRegion ops r :: k)) cs, w', seen P f es, γ₂, ?_, rfl, hs.later, hwk.imp (fun z => mayWake_of ho z) id, hs.frame, hs.size, hs.inv, hs.mv, hs.fin, hs.ev, hs.late, hs.lone, ?_⟩
    · rw [hap, <- hfin]
      simp only [stepG.apply, hrun, if_true, hkind, hk', hfn, Bool.false_eq_true, if_false]
      simp [GStep.after, G]
    · have e : a.put o.dst v = a.put (some d) v := by rw [hdst]
      rw [e]
      exact hn r hr' _ (ka.put v hd) kind hk cs
theorem execOp_extT {c : FuncId} {e : Array Value -> Sem Value} [he : ExtFn P c e] {ρ : Operand -> Value} {dst : Option Nat} {x : Operand} {args : Array Operand} {ats : Array TypeId} {ty : TypeId} {pos : String} {af : Array Edge} {g : Option (Nat × Bool)} {vs : Array Value} {w w' : World} {v : Value} {evs : Array Event}
    (hx : ρ x = .func (.func c) #[] #[]) (ha : args.map ρ = vs) (hrun : (e vs).run P w = .ok v w') (hev : (e vs).events P w #[⟨.mark (.extern c), false, true⟩] = #[⟨.mark (.extern c), false, true⟩] ++ evs) :
    (execOp ρ ⟨dst, .call { callee := .value x, args, argTypes := ats }, ty, pos, af, g⟩).runT P w #[] = (.ok (.value v) w', #[⟨.mark (.extern c), false, true⟩] ++ evs) := by
  obtain ⟨fn, h1, h2, h3, h4, h5⟩ := he.out
  have e1 : execOp ρ ⟨dst, .call { callee := .value x, args, argTypes := ats }, ty, pos, af, g⟩ = callFunc c vs := by
    subst ha
    unfold execOp
    simp [resolve, Deferred.ofValue, invoke, hx]
  rw [e1, Sem.runT_eq, run_callFunc_extern h1 h2 h3 h4 h5, hrun, events_callFunc_extern h1 h2 h3 h4 h5]
  simp only [List.push_toArray, List.nil_append]
  rw [hev]
  rfl
theorem execOp_extB {c : FuncId} {e : Array Value -> Sem Value} [he : ExtFn P c e] {ρ : Operand -> Value} {dst : Option Nat} {x : Operand} {args : Array Operand} {ats : Array TypeId} {ty : TypeId} {pos : String} {af : Array Edge} {g : Option (Nat × Bool)} {vs : Array Value} {w : World}
    (hx : ρ x = .func (.func c) #[] #[]) (ha : args.map ρ = vs) (hrun : (e vs).run P w = .halt .blocked w) : ∃ es, (execOp ρ ⟨dst, .call { callee := .value x, args, argTypes := ats }, ty, pos, af, g⟩).runT P w #[] = (.halt .blocked w, es) := by
  obtain ⟨fn, h1, h2, h3, h4, h5⟩ := he.out
  have e1 : execOp ρ ⟨dst, .call { callee := .value x, args, argTypes := ats }, ty, pos, af, g⟩ = callFunc c vs := by
    subst ha
    unfold execOp
    simp [resolve, Deferred.ofValue, invoke, hx]
  exact ⟨_, by rw [e1, Sem.runT_eq, run_callFunc_extern h1 h2 h3 h4 h5, hrun]; rfl⟩
theorem ER.share {X : Fp Γ} {h₁ : Hp} {γ₁ : Γ} (hS : ∀ g h δ Y, Share X g h δ Y -> S.yld g h δ Y) (hs : ∀ Y : Goroutine -> Hp -> Ix Γ -> Prop, ∀ g, Y g h₁ ⟨δ.d, γ₁⟩ -> Share X g h δ Y) (hn : ER P main S f n ops l k env ds h₁ ⟨δ.d, γ₁⟩ R) : ER P main S f n ops l k env ds h δ R :=
  fun rest hr a ka kind hk cs => .hands (Runs P main S (Left P f kind cs R)) (fun _ _ _ x => x) (hS _ _ _ _ (hs _ _ (hn rest hr a ka kind hk cs)))
theorem EK.share {X : Fp Γ} {h₁ : Hp} {γ₁ : Γ} (hS : ∀ g h δ Y, Share X g h δ Y -> S.yld g h δ Y) (hs : ∀ Y : Goroutine -> Hp -> Ix Γ -> Prop, ∀ g, Y g h₁ ⟨δ.d, γ₁⟩ -> Share X g h δ Y) (hn : EK P main S f n k env ds h₁ ⟨δ.d, γ₁⟩ R) : EK P main S f n k env ds h δ R :=
  fun a ka kind hk cs => .hands (Runs P main S (Left P f kind cs R)) (fun _ _ _ x => x) (hS _ _ _ _ (hs _ _ (hn a ka kind hk cs)))
theorem ER.mk {X : Fp Γ} {i : Nat} {o : Oper} {d : Nat} (hS : ∀ g h δ Y, Make P main X i g h δ Y -> S.yld g h δ Y) (hdst : o.dst = some d) (hd : Nat.blt d n = true) (hw : wantE ops env o.guard = some true) (hnd : 0 < i -> ¬ X.done i δ.g /\ X.fin δ.g i = none)
    (hs : ∀ N, h.size <= N -> ∃ v h', (∀ ρ : Operand -> Value, (∀ x v, ev env x = some v -> ρ x = v) -> ∀ (Q : Next -> Hp -> Ix Γ -> Prop) (Xp : Value -> Hp -> Ix Γ -> Prop), Q (.value v) h' δ -> SemW P (MakeS X) (execOp ρ o) (padTo h N) δ Q Xp) /\ ER P main S f n ops l k ((d, v) :: env) ds h' δ R) :
    ER P main S f n ops (o :: l) k env ds h δ R := by
  intro rest hr a ka
  obtain ⟨m, r, rfl, ho, hr'⟩ := ER.uncons hr
  intro kind hk cs
  refine .hands (Runs P main S (Left P f kind cs R)) (fun _ _ _ x => x) (hS _ _ _ _ ⟨hnd, fun N hN => ⟨rfl, fun w hwh => ?_, fun hd => hd.elim⟩⟩)
  obtain ⟨v, h', hsem, hn⟩ := hs N hN
  obtain ⟨es, res, hrun, hev, hran⟩ := semW_sound _ _ δ (fun nx h'' δ'' => nx = .value v /\ h'' = h' /\ δ'' = δ) (fun _ _ _ => False) (hsem a.eval (fun x v hx => ka.eval hx) _ _ ⟨rfl, rfl, rfl⟩) w hwh #[]
  have hrun' : (execOp a.eval o).runT P w #[] = (res, es) := by simpa using hrun
  obtain ⟨hevs, hdeaf⟩ := evOk_seen (Γ := Γ) (P := P) (f := f) hev
  cases res with
  | ok nx w' =>
    obtain ⟨h'', hsame, hhp, hin, rfl, rfl, hδ⟩ := hran
    rw [<- hdeaf] at hδ
    obtain ⟨g', hg, hrn⟩ := op_next (main := main) (S := S) (R := R) (k := k) (f := f) ho (wantE_ok ka hw) hk cs (n := .value v) (h' := h'') (δ' := δ) (by
      show WK P main S f (.inRegion ops r :: k) (a.put o.dst v) h'' δ R
      rw [show a.put o.dst v = a.put (some d) v by rw [hdst]]
      exact hn r hr' _ (ka.put v hd))
    exact ⟨g', w', seen P f es, h'', hg w w' es hrun', hsame, hhp, fun e he => ⟨hevs e he, hin e (mem_seen he)⟩, by rw [hδ]; exact hrn⟩
  | halt x w' =>
    cases x <;> first | exact hran.elim | (obtain ⟨_, _, _, _, h5⟩ := hran; exact h5.elim)
theorem runT_load {w : World} {a : Addr} {m : Mode} {v : Value} (hc : w.cell? a = some v) : (load a m : Sem Value).runT P w #[] = (.ok v w, #[⟨.cell a, false, m == .atomic⟩]) := by
  show (Sem.load m a Sem.pure).runT P w #[] = _
  simp only [Sem.runT, hc]
  rfl
theorem runT_bindOk {α β : Type} {s : Sem α} {g : α -> Sem β} {w w' : World} {es es' : Array Event} {a : α} (h : s.runT P w es = (.ok a w', es')) : (s >>= g).runT P w es = (g a).runT P w' es' := by
  rw [Sem.runT_eq] at h
  simp only [Prod.mk.injEq] at h
  rw [Sem.runT_eq, Sem.runT_eq, Sem.run_bind, Sem.events_bind, h.1, h.2]
  rfl
theorem runT_underlying {t : TypeId} {d : TypeDesc} (hu : P.underlying t = some d) {w : World} {es : Array Event} : (underlying t : Sem TypeDesc).runT P w es = (.ok d w, es) := by
  change (Sem.bind (Sem.program Sem.pure) _).runT P w es = _
  simp only [Sem.bind, Sem.runT, hu]
  rfl
theorem runT_typeInfo {t : TypeId} {i : TypeInfo} (hu : P.info? t = some i) {w : World} {es : Array Event} : (typeInfo t : Sem TypeInfo).runT P w es = (.ok i w, es) := by
  change (Sem.bind (Sem.program Sem.pure) _).runT P w es = _
  simp only [Sem.bind, Sem.runT, hu]
  rfl
theorem runT_isAgg {t : TypeId} {d : TypeDesc} (hu : P.underlying t = some d) {w : World} {es : Array Event} : (isAgg t).runT P w es = (.ok (TypeDesc.aggB d) w, es) := by
  unfold isAgg
  rw [runT_bindOk (runT_underlying hu)]
  cases d <;> rfl
theorem runT_sizeOf {t : TypeId} {i : TypeInfo} (hu : P.info? t = some i) {w : World} {es : Array Event} : (sizeOf t).runT P w es = (.ok i.size w, es) := by
  unfold sizeOf
  first
    | (rw [runT_bindOk (runT_typeInfo hu)]; rfl)
    | (show (typeInfo t >>= fun i => pure i.size).runT P w es = _
       rw [runT_bindOk (runT_typeInfo hu)]; rfl)
theorem runT_loadVar1 {t : TypeId} [s : Scal P t] {a : Addr} {v : Value} {w : World} (hc : w.cell? a = some v) : (loadVar t a).runT P w #[] = (.ok v w, #[⟨.cell a, false, false⟩]) := by
  obtain ⟨d, hu, hd, _⟩ := s.out
  unfold loadVar
  rw [runT_bindOk (runT_isAgg hu), hd]
  exact runT_load (m := .plain) hc
theorem runT_storeVar1 {t : TypeId} [s : Scal P t] {b off : Nat} {u v : Value} {w : World} (hv : OneCell v) (hc : w.cell? ⟨b, off, none⟩ = some u) (hf : w.frozen? ⟨b, off, none⟩ = false) :
    (storeVar t ⟨b, off, none⟩ v).runT P w #[] = (.ok () (w.setCell ⟨b, off, none⟩ v), #[⟨.cell ⟨b, off, none⟩, true, false⟩]) := by
  obtain ⟨d, hu, hd, inf, hi, hsz⟩ := s.out
  have hcells : v.cells = #[v] := by
    unfold Value.cells
    split
    · exact absurd rfl (hv.1 _)
    · rfl
  unfold storeVar
  rw [runT_bindOk (runT_sizeOf hi), hcells, hsz]
  show (Sem.store .plain ((⟨b, off, none⟩ : Addr).add 0) v (Sem.pure ())).runT P w #[] = _
  have ea : ((⟨b, off, none⟩ : Addr).add 0) = ⟨b, off, none⟩ := rfl
  rw [ea]
  cases v <;> first | exact absurd rfl (hv.1 _) | exact absurd rfl (hv.2 _) | (simp only [Sem.runT, hc, hf, Bool.false_eq_true, if_false]; rfl)
theorem seen_cell {a : Addr} {wr sy : Bool} {d : Nat} : (∀ e ∈ seen P f #[⟨.cell a, wr, sy⟩], e = ⟨.cell a, wr, sy⟩) /\ deafBehind d (seen P f #[⟨.cell a, wr, sy⟩]) = d := by
  refine ⟨fun e he => by simpa using mem_seen he, ?_⟩
  have h1 := (evOk_seen (Γ := Unit) (P := P) (f := f) (S := fun _ => False) (es := #[⟨.cell a, wr, sy⟩]) fun e he => by simp at he; subst he; simp [EvOk]).2 ⟨d, ()⟩
  rw [deafI_cell] at h1
  exact congrArg Ix.d h1
theorem Mv.refl' {X : Fp Γ} (hX : X.Ok) (i : Nat) (γ : Γ) : Mv X i γ γ := ⟨rfl, rfl, fun j _ _ _ => hX.refl j γ, fun _ _ => rfl, fun _ _ => Iff.rfl, fun _ _ _ h => h, Iff.rfl, rfl, fun _ _ h => h⟩
section ext
variable {d : Nat} {ty : TypeId} {pos : String} {af : Array Edge} {g : Option (Nat × Bool)}
theorem ER.loadS {X : Fp Γ} (hX : X.Ok) {i : Nat} {t : TypeId} [Scal P t] {x : Operand} {a : Addr} (hS : ∀ g h δ Y, Opp P main X i g h δ Y -> S.yld g h δ Y) (hw : wantE ops env g = some true) (hd : Nat.blt d n = true) (hx : ev env x = some (.pointer (some a))) (hnd : 0 < i -> ¬ X.done i δ.g /\ X.fin δ.g i = none)
    (hop : ∀ γ₁ (w : World), X.R i δ.g γ₁ -> X.Inv γ₁ w.heap -> Part False h w.heap -> ∃ v, hcell w.heap a = some v /\ (X.may i γ₁ a false \/ X.may i γ₁ a true) /\ ER P main S f n ops l k ((d, v) :: env) ds h ⟨δ.d, γ₁⟩ R) :
    ER P main S f n ops (⟨some d, .load t x, ty, pos, af, g⟩ :: l) k env ds h δ R := by
  refine ER.opp hS rfl hd hw (fun h0 => (hnd h0).1) fun ρ hρ γ₁ w hR hI hP => .inr ?_
  obtain ⟨v, hc, hm, hn⟩ := hop γ₁ w hR hI hP
  refine ⟨v, w, #[⟨.cell a, false, false⟩], γ₁, ?_, .inr fun _ z => z, ?_, by rw [seen_cell.2]; exact hn⟩
  · show ((Instr.sureAddr (ρ x) >>= fun a => loadVar t a) >>= fun v => pure (Next.value v)).runT P w #[] = _
    rw [hρ x _ hx]
    show (loadVar t a >>= fun v => pure (Next.value v)).runT P w #[] = _
    rw [runT_bindOk (runT_loadVar1 hc)]
    rfl
  · refine ⟨SameL.refl w, fun _ _ => rfl, rfl, hI, Mv.refl' hX i γ₁, rfl, fun e he => ?_, fun h0 hf => ?_, Iff.rfl⟩
    · obtain rfl := (seen_cell (d := 0)).1 e he
      exact ⟨fun b hb => by cases hb; exact .inr ⟨rfl, hm⟩, fun r hr => (by cases hr), nofun, nofun, fun m hm' => by cases hm'⟩
    · rw [hX.finR i _ _ h0 hR, (hnd h0).2] at hf; cases hf
theorem seen_quiet {a : Addr} (hq : (P.funcs[f]?).any (·.norace) = true) : seen P f #[⟨.cell a, false, false⟩] = #[] := by
  rw [seen_def]
  simp [seenStep, hq]
theorem ER.storeS {X : Fp Γ} (hX : X.Ok) {i : Nat} {t : TypeId} [Scal P t] {x y : Operand} {b o : Nat} {v : Value} (hS : ∀ g h δ Y, Opp P main X i g h δ Y -> S.yld g h δ Y) (hw : wantE ops env g = some true) (hx : ev env x = some (.pointer (some ⟨b, o, none⟩))) (hy : ev env y = some v) (hv : OneCell v) (hnd : 0 < i -> ¬ X.done i δ.g /\ X.fin δ.g i = none)
    (hop : ∀ γ₁ (w : World), X.R i δ.g γ₁ -> X.Inv γ₁ w.heap -> Part False h w.heap -> ∃ u γ₂, hcell w.heap ⟨b, o, none⟩ = some u /\ hfroz w.heap ⟨b, o, none⟩ = false /\ X.may i γ₁ ⟨b, o, none⟩ true /\ X.Inv γ₂ (hset w.heap ⟨b, o, none⟩ v) /\ Mv X i γ₁ γ₂ /\ X.fin γ₂ i = X.fin γ₁ i /\ (X.lone γ₂ ↔ X.lone γ₁) /\ (∀ j, X.blk j γ₁ -> X.blk j γ₂) /\
      ER P main S f n ops l k env ds h ⟨δ.d, γ₂⟩ R) : ER P main S f n ops (⟨none, .store t x y, ty, pos, af, g⟩ :: l) k env ds h δ R := by
  intro rest hr a ka
  obtain ⟨m, r, rfl, ho, hr'⟩ := ER.uncons hr
  intro kind hk cs
  have hk' : (kind == CallKind.early) = false := by simpa using hk
  have hfin : ∀ v, ((fb f kind).at a (.inRegion ops (m :: r) :: k)).finish v = (fb f kind).at (a.put none v) (.inRegion ops r :: k) := fun v => by rw [Frame.finish_at, ho]; rfl
  have hkind : ((fb f kind).at a (.inRegion ops (m :: r) :: k)).kind = kind := rfl
  have hfn : ((fb f kind).at a (.inRegion ops (m :: r) :: k)).fn = f := rfl
  refine .hands (Runs P main S (Left P f kind cs R)) (fun _ _ _ x => x) (hS _ _ _ _ ⟨⟨rfl, rfl⟩, fun h0 => (hnd h0).1, fun γ₁ w hR hI hP => .inr ?_⟩)
  have hap : stepG P main (G ((fb f kind).at a (.inRegion ops (m :: r) :: k)) cs) w = stepG.apply P true ((fb f kind).at a (.inRegion ops (m :: r) :: k)) cs none (execOp a.eval ⟨none, .store t x y, ty, pos, af, g⟩) w := stepG_oper ho (wantE_ok ka hw)
  obtain ⟨u, γ₂, hc, hf, hm, hinv, hmv, hfi, hln, hbk, hn⟩ := hop γ₁ w hR hI hP
  have hrun : (execOp a.eval ⟨none, .store t x y, ty, pos, af, g⟩).runT P w #[] = (.ok .skip (w.setCell ⟨b, o, none⟩ v), #[⟨.cell ⟨b, o, none⟩, true, false⟩]) := by
    show ((Instr.sureAddr (a.eval x) >>= fun ad => storeVar t ad (a.eval y)) >>= fun _ => pure Next.skip).runT P w #[] = _
    rw [ka.eval hx, ka.eval hy]
    show (storeVar t ⟨b, o, none⟩ v >>= fun _ => pure Next.skip).runT P w #[] = _
    rw [runT_bindOk (runT_storeVar1 hv hc hf)]
    rfl
  refine ⟨G ((fb f kind).at (a.put none undef) (.inRegion ops r :: k)) cs, w.setCell ⟨b, o, none⟩ v, seen P f #[⟨.cell ⟨b, o, none⟩, true, false⟩], γ₂, ?_, rfl, (⟨rfl, rfl, rfl⟩ : Same w (w.setCell ⟨b, o, none⟩ v)).later, .inr hbk, fun b' hb' => ?_, hset_size _ _ _, hinv, hmv, hfi, ?_, fun h0 hf' => ?_, hln, ?_⟩
  · rw [hap, <- hfin]
    simp only [stepG.apply, hrun, if_true, hkind, hk', hfn, Bool.false_eq_true, if_false]
    simp [GStep.after, G]
  · exact hset_ne w.heap ⟨b, o, none⟩ v fun z => hb' (z ▸ hX.maysh _ _ _ _ hm)
  · intro e he
    obtain rfl := (seen_cell (d := 0)).1 e he
    exact ⟨fun b hb => by cases hb; exact .inr ⟨rfl, .inl hm⟩, fun r hr => (by cases hr), nofun, nofun, fun m hm' => by cases hm'⟩
  · rw [hX.finR i _ _ h0 hR, (hnd h0).2] at hf'; cases hf'
  · rw [seen_cell.2]
    exact hn r hr' _ ka kind hk cs
theorem ER.oppX {X : Fp Γ} {i : Nat} {c : FuncId} {e : Array Value -> Sem Value} [he : ExtFn P c e] {x : Operand} {args : Array Operand} {ats : Array TypeId} {vs : List Value} (hS : ∀ g h δ Y, Opp P main X i g h δ Y -> S.yld g h δ Y) (hw : wantE ops env g = some true) (hd : Nat.blt d n = true) (hx : ev env x = some (.func (.func c) #[] #[])) (ha : evL env args.toList = some vs) (hnd : 0 < i -> ¬ X.done i δ.g)
    (hop : ∀ γ₁ (w : World), X.R i δ.g γ₁ -> X.Inv γ₁ w.heap -> Part False h w.heap ->
      (X.blk i γ₁ /\ (e vs.toArray).run P w = .halt .blocked w) \/
      ∃ v w' evs γ₂, (e vs.toArray).run P w = .ok v w' /\ (e vs.toArray).events P w #[⟨.mark (.extern c), false, true⟩] = #[⟨.mark (.extern c), false, true⟩] ++ evs /\ Shd X i γ₁ γ₂ δ.d w w' (seen P f (#[⟨.mark (.extern c), false, true⟩] ++ evs)) /\
        ER P main S f n ops l k ((d, v) :: env) ds h ⟨deafBehind δ.d (seen P f (#[⟨.mark (.extern c), false, true⟩] ++ evs)), γ₂⟩ R) :
    ER P main S f n ops (⟨some d, .call { callee := .value x, args, argTypes := ats }, ty, pos, af, g⟩ :: l) k env ds h δ R := by
  refine ER.opp hS rfl hd hw hnd fun ρ hρ γ₁ w hR hI hP => ?_
  rcases hop γ₁ w hR hI hP with ⟨hb, hrun⟩ | ⟨v, w', evs, γ₂, hrun, hev, hs, hn⟩
  · exact .inl ⟨hb, execOp_extB (hρ x _ hx) (map_ofL hρ ha) hrun⟩
  · refine .inr ⟨v, w', _, γ₂, execOp_extT (hρ x _ hx) (map_ofL hρ ha) hrun hev, .inl ?_, hs, hn⟩
    obtain ⟨fn, h1, h2, h3, h4, h5⟩ := he.out
    refine ⟨x, args, ats, c, rfl, hρ x _ hx, ?_⟩
    rw [h1]
    simp only [Option.any_some]
    simpa using h3
theorem ER.oppY {X : Fp Γ} {i : Nat} {c : FuncId} {e : Array Value -> Sem Value} [he : ExtFn P c e] {x : Operand} {args : Array Operand} {ats : Array TypeId} {vs : List Value} (hS : ∀ g h δ Y, Opp P main X i g h δ Y -> S.yld g h δ Y) (hw : wantE ops env g = some true) (hd : Nat.blt d n = true) (hx : ev env x = some (.func (.func c) #[] #[])) (ha : evL env args.toList = some vs) (hnd : 0 < i -> ¬ X.done i δ.g)
    (hop : ∀ γ₁ (w : World), X.R i δ.g γ₁ -> X.Inv γ₁ w.heap -> Part False h w.heap ->
      (X.blk i γ₁ /\ (e vs.toArray).run P w = .halt .blocked w) \/
      ∃ v w' evs γ₂, (e vs.toArray).run P w = .ok v w' /\ (∀ es, (e vs.toArray).events P w es = es ++ evs) /\ (∀ x ∈ evs, x.sync = true /\ ∀ g, x.loc ≠ .mark (.extern g)) /\ Shd X i γ₁ γ₂ δ.d w w' evs /\ ER P main S f n ops l k ((d, v) :: env) ds h ⟨deafBehind δ.d evs, γ₂⟩ R) :
    ER P main S f n ops (⟨some d, .call { callee := .value x, args, argTypes := ats }, ty, pos, af, g⟩ :: l) k env ds h δ R := by
  refine ER.oppX hS hw hd hx ha hnd fun γ₁ w hR hI hP => (hop γ₁ w hR hI hP).imp id ?_
  rintro ⟨v, w', evs, γ₂, h1, h2, h3, h4, h5⟩
  exact ⟨v, w', evs, γ₂, h1, h2 _, by rw [seen_entry f c evs h3]; exact h4, by rw [seen_entry f c evs h3]; exact h5⟩
structure Gh (X : Fp Γ) (i : Nat) (γ₁ γ₂ : Γ) (H' : Hp) : Prop where
  inv : X.Inv γ₂ H'
  mv : Mv X i γ₁ γ₂
  fin : X.fin γ₂ i = X.fin γ₁ i
  lone : X.lone γ₂ ↔ X.lone γ₁
def AtOk (X : Fp Γ) (i : Nat) (γ₁ : Γ) (d : Nat) (a : Addr) : Prop := (X.cf γ₁).at_ a /\ (0 < i -> (X.fin γ₁ i).isSome = true -> a.block = (X.cf γ₁).wg /\ 0 < d)
def AtOkW (X : Fp Γ) (i : Nat) (γ₁ : Γ) (d : Nat) (a : Addr) : Prop := AtOk X i γ₁ d a /\ NoBag X γ₁ a
theorem evS_at {X : Fp Γ} {i : Nat} {γ : Γ} {a : Addr} {wr : Bool} (ha : (X.cf γ).at_ a) (hn : wr = true -> NoBag X γ a) : EvS X i γ ⟨.cell a, wr, true⟩ :=
  ⟨fun b hb => by cases hb; exact .inl ⟨rfl, ha, hn⟩, fun r hr => (by cases hr), nofun, nofun, fun m hm => by cases hm⟩
theorem shd_r {X : Fp Γ} {i : Nat} {γ₁ γ₂ : Γ} {dd : Nat} {w : World} {a : Addr} (ha : AtOk X i γ₁ dd a) (hg : Gh X i γ₁ γ₂ w.heap) : Shd X i γ₁ γ₂ dd w w #[⟨.cell a, false, true⟩] :=
  ⟨SameL.refl w, fun _ _ => rfl, rfl, hg.inv, hg.mv, hg.fin, fun e he => by simp at he; subst he; exact evS_at ha.1 nofun, fun h0 hf j e hj => .inr (by
    obtain ⟨hb, hd⟩ := ha.2 h0 hf
    rcases j with _ | j
    · simp at hj; subst hj
      exact ⟨rfl, ⟨a, rfl, hb⟩, by simpa [deafBehind] using hd⟩
    · simp at hj), hg.lone⟩
theorem shd_w {X : Fp Γ} (hX : X.Ok) {i : Nat} {γ₁ γ₂ : Γ} {dd : Nat} {w : World} {a : Addr} {v : Value} (ha : AtOkW X i γ₁ dd a) (hg : Gh X i γ₁ γ₂ (hset w.heap a v)) : Shd X i γ₁ γ₂ dd w (w.setCell a v) #[⟨.cell a, true, true⟩] :=
  ⟨(⟨rfl, rfl, rfl⟩ : Same w (w.setCell a v)).later, fun b hb => hset_ne w.heap a v fun z => hb (z ▸ hX.atsh _ _ ha.1.1), hset_size _ _ _, hg.inv, hg.mv, hg.fin, fun e he => by simp at he; subst he; exact evS_at ha.1.1 (fun _ => ha.2), fun h0 hf j e hj => .inr (by
    obtain ⟨hb, hd⟩ := ha.1.2 h0 hf
    rcases j with _ | j
    · simp at hj; subst hj
      exact ⟨rfl, ⟨a, rfl, hb⟩, by simpa [deafBehind] using hd⟩
    · simp at hj), hg.lone⟩
theorem shd_rw {X : Fp Γ} (hX : X.Ok) {i : Nat} {γ₁ γ₂ : Γ} {dd : Nat} {w : World} {a : Addr} {v : Value} (ha : AtOkW X i γ₁ dd a) (hg : Gh X i γ₁ γ₂ (hset w.heap a v)) : Shd X i γ₁ γ₂ dd w (w.setCell a v) #[⟨.cell a, false, true⟩, ⟨.cell a, true, true⟩] :=
  ⟨(⟨rfl, rfl, rfl⟩ : Same w (w.setCell a v)).later, fun b hb => hset_ne w.heap a v fun z => hb (z ▸ hX.atsh _ _ ha.1.1), hset_size _ _ _, hg.inv, hg.mv, hg.fin, fun e he => by simp at he; rcases he with rfl | rfl <;> exact evS_at ha.1.1 (fun _ => ha.2), fun h0 hf j e hj => .inr (by
    obtain ⟨hb, hd⟩ := ha.1.2 h0 hf
    rcases j with _ | _ | j
    · simp at hj; subst hj
      exact ⟨rfl, ⟨a, rfl, hb⟩, by simpa [deafBehind] using hd⟩
    · simp at hj; subst hj
      exact ⟨rfl, ⟨a, rfl, hb⟩, by simpa [deafBehind] using hd⟩
    · simp at hj), hg.lone⟩
section atom
variable {X : Fp Γ} {i : Nat} {c : FuncId} {x : Operand} {args : Array Operand} {ats : Array TypeId} {kd : IntKind} {a : Addr}
theorem ER.aloadS [ExtFn P c (Extern.Atomic.loadT (.int kd))] (hS : ∀ g h δ Y, Opp P main X i g h δ Y -> S.yld g h δ Y) (hw : wantE ops env g = some true) (hd : Nat.blt d n = true) (hx : ev env x = some (.func (.func c) #[] #[])) (ha : evL env args.toList = some [.pointer (some a)]) (hnd : 0 < i -> ¬ X.done i δ.g)
    (hop : ∀ γ₁ (w : World), X.R i δ.g γ₁ -> X.Inv γ₁ w.heap -> Part False h w.heap -> ∃ z γ₂, hcell w.heap a = some (.int kd z) /\ AtOk X i γ₁ δ.d a /\ Gh X i γ₁ γ₂ w.heap /\ ER P main S f n ops l k ((d, .int kd z) :: env) ds h ⟨δ.d, γ₂⟩ R) :
    ER P main S f n ops (⟨some d, .call { callee := .value x, args, argTypes := ats }, ty, pos, af, g⟩ :: l) k env ds h δ R := by
  refine ER.oppY hS hw hd hx ha hnd fun γ₁ w hR hI hP => .inr ?_
  obtain ⟨z, γ₂, hc, hat, hg, hn⟩ := hop γ₁ w hR hI hP
  have hc' : w.cell? a = some (.int kd z) := hc
  refine ⟨.int kd z, w, #[⟨.cell a, false, true⟩], γ₂, ?_, fun es => ?_, sync_r a, shd_r hat hg, by simpa [deafBehind] using hn⟩
  · show (Extern.Atomic.read (.int kd) a).run P w = _
    simp [Extern.Atomic.read, hc']
  · show (Extern.Atomic.read (.int kd) a).events P w es = _
    simp [Extern.Atomic.read, hc', events_load]
theorem ER.astoreS (hX : X.Ok) [ExtFn P c Extern.Atomic.storeT] {v : Value} (hv : OneCell v) (hS : ∀ g h δ Y, Opp P main X i g h δ Y -> S.yld g h δ Y) (hw : wantE ops env g = some true) (hd : Nat.blt d n = true) (hx : ev env x = some (.func (.func c) #[] #[])) (ha : evL env args.toList = some [.pointer (some a), v]) (hnd : 0 < i -> ¬ X.done i δ.g)
    (hop : ∀ γ₁ (w : World), X.R i δ.g γ₁ -> X.Inv γ₁ w.heap -> Part False h w.heap -> ∃ u γ₂, hcell w.heap a = some u /\ hfroz w.heap a = false /\ AtOkW X i γ₁ δ.d a /\ Gh X i γ₁ γ₂ (hset w.heap a v) /\ ER P main S f n ops l k ((d, .tuple #[]) :: env) ds h ⟨δ.d, γ₂⟩ R) :
    ER P main S f n ops (⟨some d, .call { callee := .value x, args, argTypes := ats }, ty, pos, af, g⟩ :: l) k env ds h δ R := by
  refine ER.oppY hS hw hd hx ha hnd fun γ₁ w hR hI hP => .inr ?_
  obtain ⟨u, γ₂, hc, hz, hat, hg, hn⟩ := hop γ₁ w hR hI hP
  have hc' : w.cell? a = some u := hc
  have hz' : w.frozen? a = false := hz
  have hr : ∀ es, (Extern.Atomic.storeT #[.pointer (some a), v]).runT P w es = (.ok (.tuple #[]) (w.setCell a v), es ++ #[⟨.cell a, true, true⟩]) := fun es => by
    show (Sem.store .atomic a v (Sem.pure (Value.tuple #[]))).runT P w es = _
    cases v <;> first | exact absurd rfl (hv.1 _) | exact absurd rfl (hv.2 _) | (simp only [Sem.runT, hc', hz', Bool.false_eq_true, if_false, Array.push_eq_append]; rfl)
  refine ⟨.tuple #[], w.setCell a v, #[⟨.cell a, true, true⟩], γ₂, ?_, fun es => ?_, fun y hy => ?_, shd_w hX hat hg, by simpa [deafBehind] using hn⟩
  · have := hr #[]
    rw [Sem.runT_eq] at this
    exact congrArg Prod.fst this
  · have := hr es
    rw [Sem.runT_eq] at this
    exact congrArg Prod.snd this
  · simp at hy
    subst hy
    exact ⟨rfl, fun g h => by cases h⟩
theorem ER.aaddS (hX : X.Ok) {y : Int} [ExtFn P c (Extern.Atomic.update (Op.intArith .add) kd true)] (hS : ∀ g h δ Y, Opp P main X i g h δ Y -> S.yld g h δ Y) (hw : wantE ops env g = some true) (hd : Nat.blt d n = true) (hx : ev env x = some (.func (.func c) #[] #[])) (ha : evL env args.toList = some [.pointer (some a), .int kd y]) (hnd : 0 < i -> ¬ X.done i δ.g)
    (hop : ∀ γ₁ (w : World), X.R i δ.g γ₁ -> X.Inv γ₁ w.heap -> Part False h w.heap -> ∃ z γ₂, hcell w.heap a = some (.int kd z) /\ hfroz w.heap a = false /\ AtOkW X i γ₁ δ.d a /\ Gh X i γ₁ γ₂ (hset w.heap a (.int kd (kd.wrap (z + y)))) /\ ER P main S f n ops l k ((d, .int kd (kd.wrap (z + y))) :: env) ds h ⟨δ.d, γ₂⟩ R) :
    ER P main S f n ops (⟨some d, .call { callee := .value x, args, argTypes := ats }, ty, pos, af, g⟩ :: l) k env ds h δ R := by
  refine ER.oppY hS hw hd hx ha hnd fun γ₁ w hR hI hP => .inr ?_
  obtain ⟨z, γ₂, hc, hz, hat, hg, hn⟩ := hop γ₁ w hR hI hP
  exact ⟨_, _, #[⟨.cell a, false, true⟩, ⟨.cell a, true, true⟩], γ₂, run_add_entry hc hz, fun es => by rw [events_add_entry hc hz es, Array.push_eq_append, Array.push_eq_append, Array.append_assoc]; rfl, sync_rw a, shd_rw hX hat hg, by simpa [deafBehind] using hn⟩
theorem ER.acasS (hX : X.Ok) {y nv : Int} [ExtFn P c (Extern.Atomic.casT (.int kd))] (hS : ∀ g h δ Y, Opp P main X i g h δ Y -> S.yld g h δ Y) (hw : wantE ops env g = some true) (hd : Nat.blt d n = true) (hx : ev env x = some (.func (.func c) #[] #[])) (ha : evL env args.toList = some [.pointer (some a), .int kd y, .int kd nv]) (hnd : 0 < i -> ¬ X.done i δ.g)
    (hop : ∀ γ₁ (w : World), X.R i δ.g γ₁ -> X.Inv γ₁ w.heap -> Part False h w.heap -> ∃ z, hcell w.heap a = some (.int kd z) /\ hfroz w.heap a = false /\ AtOkW X i γ₁ δ.d a /\
      ((z = y /\ ∃ γ₂, Gh X i γ₁ γ₂ (hset w.heap a (.int kd nv)) /\ ER P main S f n ops l k ((d, .bool true) :: env) ds h ⟨δ.d, γ₂⟩ R) \/ (z ≠ y /\ ∃ γ₂, Gh X i γ₁ γ₂ w.heap /\ ER P main S f n ops l k ((d, .bool false) :: env) ds h ⟨δ.d, γ₂⟩ R))) :
    ER P main S f n ops (⟨some d, .call { callee := .value x, args, argTypes := ats }, ty, pos, af, g⟩ :: l) k env ds h δ R := by
  refine ER.oppY hS hw hd hx ha hnd fun γ₁ w hR hI hP => .inr ?_
  obtain ⟨z, hc, hz, hat, ⟨rfl, γ₂, hg, hn⟩ | ⟨hne, γ₂, hg, hn⟩⟩ := hop γ₁ w hR hI hP
  · exact ⟨_, _, #[⟨.cell a, false, true⟩, ⟨.cell a, true, true⟩], γ₂, run_cas_hit_entry hc hz, fun es => by rw [show (Extern.Atomic.casT (.int kd) [Value.pointer (some a), .int kd z, .int kd nv].toArray).events P w es = _ from events_cas_hit_entry hc hz es, Array.push_eq_append, Array.push_eq_append, Array.append_assoc]; rfl, sync_rw a, shd_rw hX hat hg, by simpa [deafBehind] using hn⟩
  · exact ⟨_, _, #[⟨.cell a, false, true⟩], γ₂, run_cas_miss_entry hc hz hne, fun es => by rw [show (Extern.Atomic.casT (.int kd) [Value.pointer (some a), .int kd y, .int kd nv].toArray).events P w es = _ from events_cas_miss_entry hc hz hne es, Array.push_eq_append], sync_r a, shd_r hat.1 hg, by simpa [deafBehind] using hn⟩
theorem shd_sem {X : Fp Γ} (hX : X.Ok) {i : Nat} {γ₁ γ₂ : Γ} {dd : Nat} {w : World} {a : Addr} {v : Value} (ha : AtOkW X i γ₁ dd a) (hg : Gh X i γ₁ γ₂ (hset w.heap a v)) : Shd X i γ₁ γ₂ dd w (w.setCell a v) (semEvents a) := by
  have hmk : ∀ (m : Mark), (m = .disable \/ m = .enable) -> EvS X i γ₁ ⟨.mark m, false, true⟩ := fun m hm => ⟨fun b hb => (by cases hb), fun r hr => (by cases hr), nofun, nofun, fun m' hm' => by
    cases hm'
    exact ⟨rfl, fun b hb => (by subst hb; rcases hm with h | h <;> cases h), fun b hb => (by rcases hm with rfl | rfl <;> rcases hb with h | h <;> cases h)⟩⟩
  refine ⟨(⟨rfl, rfl, rfl⟩ : Same w (w.setCell a v)).later, fun b hb => hset_ne w.heap a v fun z => hb (z ▸ hX.atsh _ _ ha.1.1), hset_size _ _ _, hg.inv, hg.mv, hg.fin, fun e he => ?_, fun h0 hf j e hj => ?_, hg.lone⟩
  · simp [semEvents] at he
    rcases he with rfl | rfl | rfl | rfl
    · exact hmk _ (.inl rfl)
    · exact evS_at ha.1.1 (fun _ => ha.2)
    · exact evS_at ha.1.1 (fun _ => ha.2)
    · exact hmk _ (.inr rfl)
  · obtain ⟨hb, hd⟩ := ha.1.2 h0 hf
    rcases j with _ | _ | _ | _ | j
    · simp [semEvents] at hj; subst hj; exact .inl rfl
    · simp [semEvents] at hj; subst hj
      exact .inr ⟨rfl, ⟨a, rfl, hb⟩, by simp [deafBehind, semEvents]⟩
    · simp [semEvents] at hj; subst hj
      exact .inr ⟨rfl, ⟨a, rfl, hb⟩, by simp [deafBehind, semEvents]⟩
    · simp [semEvents] at hj; subst hj; exact .inl rfl
    · simp [semEvents] at hj
theorem deaf_sem {dd : Nat} {a : Addr} : deafBehind dd (semEvents a) = dd := by simp [deafBehind, semEvents]
theorem ER.semacqS (hX : X.Ok) {vs : List Value} [ExtFn P c Extern.Sync.semacquire] (hS : ∀ g h δ Y, Opp P main X i g h δ Y -> S.yld g h δ Y) (hw : wantE ops env g = some true) (hd : Nat.blt d n = true) (hx : ev env x = some (.func (.func c) #[] #[])) (ha : evL env args.toList = some (.pointer (some a) :: vs)) (hnd : 0 < i -> ¬ X.done i δ.g)
    (hop : ∀ γ₁ (w : World), X.R i δ.g γ₁ -> X.Inv γ₁ w.heap -> Part False h w.heap -> ∃ z : Int, hcell w.heap a = some (.int .u32 z) /\ hfroz w.heap a = false /\ AtOkW X i γ₁ δ.d a /\
      ((z = 0 /\ X.blk i γ₁) \/ (z ≠ 0 /\ ∃ γ₂, Gh X i γ₁ γ₂ (hset w.heap a (.int .u32 (z - 1))) /\ ER P main S f n ops l k ((d, .tuple #[]) :: env) ds h ⟨δ.d, γ₂⟩ R))) :
    ER P main S f n ops (⟨some d, .call { callee := .value x, args, argTypes := ats }, ty, pos, af, g⟩ :: l) k env ds h δ R := by
  refine ER.oppY hS hw hd hx ha hnd fun γ₁ w hR hI hP => ?_
  obtain ⟨z, hc, hz, hat, ⟨rfl, hb⟩ | ⟨hne, γ₂, hg, hn⟩⟩ := hop γ₁ w hR hI hP
  · have hc' : w.cell? a = some (.int .u32 0) := hc
    exact .inl ⟨hb, by simp [Extern.Sync.semacquire, Extern.Sync.count, hc']⟩
  · have hc' : w.cell? a = some (.int .u32 z) := hc
    have hz' : w.frozen? a = false := hz
    refine .inr ⟨.tuple #[], w.setCell a (.int .u32 (z - 1)), semEvents a, γ₂, ?_, fun es => ?_, semEvents_sync a, shd_sem hX hat hg, by rw [deaf_sem]; exact hn⟩
    · simp [Extern.Sync.semacquire, Extern.Sync.count, hc', hne, hz', Extern.Sync.none_, run_store P w a (.int .u32 (z - 1)) .atomic rfl, Result.andThen]
    · simp [Extern.Sync.semacquire, Extern.Sync.count, hc', hne, hz', semEvents, events_load, events_store P w _ a (.int .u32 (z - 1)) .atomic rfl, run_store P w a (.int .u32 (z - 1)) .atomic rfl, Result.evThen]
      apply Array.ext'; simp
theorem ER.semrelS (hX : X.Ok) {vs : List Value} [ExtFn P c Extern.Sync.semrelease] (hS : ∀ g h δ Y, Opp P main X i g h δ Y -> S.yld g h δ Y) (hw : wantE ops env g = some true) (hd : Nat.blt d n = true) (hx : ev env x = some (.func (.func c) #[] #[])) (ha : evL env args.toList = some (.pointer (some a) :: vs)) (hnd : 0 < i -> ¬ X.done i δ.g)
    (hop : ∀ γ₁ (w : World), X.R i δ.g γ₁ -> X.Inv γ₁ w.heap -> Part False h w.heap -> ∃ (z : Int) (γ₂ : Γ), hcell w.heap a = some (.int .u32 z) /\ hfroz w.heap a = false /\ AtOkW X i γ₁ δ.d a /\
      Gh X i γ₁ γ₂ (hset w.heap a (.int .u32 (IntKind.u32.wrap (z + 1)))) /\ ER P main S f n ops l k ((d, .tuple #[]) :: env) ds h ⟨δ.d, γ₂⟩ R) :
    ER P main S f n ops (⟨some d, .call { callee := .value x, args, argTypes := ats }, ty, pos, af, g⟩ :: l) k env ds h δ R := by
  refine ER.oppY hS hw hd hx ha hnd fun γ₁ w hR hI hP => .inr ?_
  obtain ⟨z, γ₂, hc, hz, hat, hg, hn⟩ := hop γ₁ w hR hI hP
  have hc' : w.cell? a = some (.int .u32 z) := hc
  have hz' : w.frozen? a = false := hz
  refine ⟨.tuple #[], w.setCell a (.int .u32 (IntKind.u32.wrap (z + 1))), semEvents a, γ₂, ?_, fun es => ?_, semEvents_sync a, shd_sem hX hat hg, by rw [deaf_sem]; exact hn⟩
  · simp [Extern.Sync.semrelease, Extern.Sync.count, hc', hz', Extern.Sync.none_, Op.intArith, run_store P w a (.int .u32 (IntKind.u32.wrap (z + 1))) .atomic rfl, Result.andThen]
  · simp [Extern.Sync.semrelease, Extern.Sync.count, hc', hz', semEvents, Op.intArith, events_load, events_store P w _ a (.int .u32 (IntKind.u32.wrap (z + 1))) .atomic rfl, run_store P w a (.int .u32 (IntKind.u32.wrap (z + 1))) .atomic rfl, Result.evThen]
    apply Array.ext'; simp
theorem ER.nanoS (hX : X.Ok) {vs : List Value} [ExtFn P c Extern.OsHooks.nano] (hq : (P.funcs[c]?).any (·.norace) = true) (hS : ∀ g h δ Y, Opp P main X i g h δ Y -> S.yld g h δ Y) (hw : wantE ops env g = some true) (hd : Nat.blt d n = true) (hx : ev env x = some (.func (.func c) #[] #[])) (ha : evL env args.toList = some vs) (hnd : 0 < i -> ¬ X.done i δ.g)
    (hop : ∀ γ₁ (z : Int), X.R i δ.g γ₁ -> ER P main S f n ops l k ((d, .int .i64 z) :: env) ds h ⟨δ.d, γ₁⟩ R) :
    ER P main S f n ops (⟨some d, .call { callee := .value x, args, argTypes := ats }, ty, pos, af, g⟩ :: l) k env ds h δ R := by
  refine ER.oppX hS hw hd hx ha hnd fun γ₁ w hR hI hP => .inr ?_
  have hs := seen_entry_out (P := P) f c hq
  refine ⟨.int .i64 ((w.os.mono + w.tick : Nat) : Int), w.later, #[⟨.output, true, false⟩], γ₁, rfl, rfl, ?_, ?_⟩
  · rw [hs]
    exact ⟨⟨rfl, ⟨_, rfl⟩, rfl⟩, fun _ _ => rfl, rfl, hI, Mv.refl' hX i γ₁, rfl, by simp, fun _ _ j e hj => by simp at hj, Iff.rfl⟩
  · rw [hs]
    exact hop γ₁ _ hR
theorem stepG_opv {kind : CallKind} (hk : kind ≠ .early) {cs : List Frame} {a : Act} {m : Nat} {r : List Nat} {o : Oper} {v : Value} {w w' : World} {es : Array Event} (ho : ops[m]? = some o) (hw : Region.wanted o (yielded ops a.tmps) = true) (hrun : (execOp a.eval o).runT P w #[] = (.ok (.value v) w', es)) :
    stepG P main (G ((fb f kind).at a (.inRegion ops (m :: r) :: k)) cs) w = .go (G ((fb f kind).at (a.put o.dst v) (.inRegion ops r :: k)) cs) w' (seen P f es) := by
  have hk' : (kind == CallKind.early) = false := by simpa using hk
  have hfin : ∀ v, ((fb f kind).at a (.inRegion ops (m :: r) :: k)).finish v = (fb f kind).at (a.put o.dst v) (.inRegion ops r :: k) := fun v => by rw [Frame.finish_at, ho]; rfl
  have hkind : ((fb f kind).at a (.inRegion ops (m :: r) :: k)).kind = kind := rfl
  have hfn : ((fb f kind).at a (.inRegion ops (m :: r) :: k)).fn = f := rfl
  rw [stepG_oper ho hw, <- hfin]
  simp only [stepG.apply, hrun, if_true, hkind, hk', hfn, Bool.false_eq_true, if_false]
  simp [GStep.after, G]
theorem mark_run {mk : Addr -> Mark} {ad : Addr} {w : World} : (Extern.Race.marked mk #[.pointer (some ad)]).run P w = .ok (.tuple #[]) w /\ ∀ es, (Extern.Race.marked mk #[.pointer (some ad)]).events P w es = es ++ #[⟨.mark (mk ad), false, true⟩] :=
  ⟨by simp [Extern.Race.marked, Extern.Race.at_, Extern.Race.none_], fun es => by simp [Extern.Race.marked, Extern.Race.at_]⟩
theorem mark_sync {mk : Addr -> Mark} {ad : Addr} (hm : ∀ g, mk ad ≠ .extern g) : ∀ x ∈ (#[⟨.mark (mk ad), false, true⟩] : Array Event), x.sync = true /\ ∀ g, x.loc ≠ .mark (.extern g) := by
  intro x hx
  simp at hx
  subst hx
  exact ⟨rfl, fun g h => hm g (Loc.mark.inj h)⟩
theorem wakes_ext {c : FuncId} {e : Array Value -> Sem Value} [he : ExtFn P c e] {x : Operand} {args : Array Operand} {ats : Array TypeId} {ρ : Operand -> Value} (hx : ρ x = .func (.func c) #[] #[]) : WakesO P ρ ⟨some d, .call { callee := .value x, args, argTypes := ats }, ty, pos, af, g⟩ := by
  obtain ⟨fn, h1, h2, h3, h4, h5⟩ := he.out
  refine ⟨x, args, ats, c, rfl, hx, ?_⟩
  rw [h1]
  simp only [Option.any_some]
  simpa using h3
theorem ER.rlsS {S : Sit Γ} {R : Post Γ} [he : ExtFn P c (Extern.Race.marked .releaseMerge)] (hS : ∀ g h δ Y, Rls P X i g h δ Y -> S.yld g h δ Y) (hw : wantE ops env g = some true) (hd : Nat.blt d n = true) (hx : ev env x = some (.func (.func c) #[] #[])) (ha : evL env args.toList = some [.pointer (some a)]) (h0 : 0 < i) (hnd : ¬ X.done i δ.g) (hdd : δ.d = 0)
    (hop : ∀ γ₁ (w : World), X.R i δ.g γ₁ -> X.Inv γ₁ w.heap -> Part False h w.heap -> (X.cf γ₁).ad = a /\ ∃ γ₂, X.Inv γ₂ w.heap /\ Mv X i γ₁ γ₂ /\ X.fin γ₁ i = none /\ X.fin γ₂ i = some h /\ (X.lone γ₂ ↔ X.lone γ₁) /\ ER P false S f n ops l k ((d, .tuple #[]) :: env) ds #[] ⟨0, γ₂⟩ R) :
    ER P false S f n ops (⟨some d, .call { callee := .value x, args, argTypes := ats }, ty, pos, af, g⟩ :: l) k env ds h δ R := by
  intro rest hr act ka
  obtain ⟨m, r, rfl, ho, hr'⟩ := ER.uncons hr
  intro kind hk cs
  refine .hands (Runs P false S (Left P f kind cs R)) (fun _ _ _ x => x) (hS _ _ _ _ ⟨⟨rfl, rfl⟩, h0, hnd, hdd, fun γ₁ w hR hI hP => ?_⟩)
  obtain ⟨rfl, γ₂, k1, k2, k3, k4, k5, hn⟩ := hop γ₁ w hR hI hP
  obtain ⟨q1, q2⟩ := mark_run (P := P) (mk := .releaseMerge) (ad := (X.cf γ₁).ad) (w := w)
  have hrun := execOp_extT (P := P) (c := c) (dst := some d) (ats := ats) (ty := ty) (pos := pos) (af := af) (g := g) (ka.eval hx) (map_ofL (fun x v hx => ka.eval hx) ha) q1 (q2 _)
  have hst := stepG_opv (main := false) (f := f) (k := k) hk (cs := cs) ho (wantE_ok ka hw) (r := r) hrun
  rw [seen_entry f c _ (mark_sync (by intro g h; cases h))] at hst
  exact ⟨_, γ₂, hst, rfl, .inl (mayWake_of ho (wakes_ext (ka.eval hx))), k1, k2, k3, k4, k5, hn r hr' _ (ka.put _ hd) kind hk cs⟩
theorem ER.joinS {S : Sit Γ} {R : Post Γ} [he : ExtFn P c (Extern.Race.marked .acquire)] (hS : ∀ g h δ Y, Join P X g h δ Y -> S.yld g h δ Y) (hw : wantE ops env g = some true) (hd : Nat.blt d n = true) (hx : ev env x = some (.func (.func c) #[] #[])) (ha : evL env args.toList = some [.pointer (some a)]) (hdd : δ.d = 0) (hall : ∀ i, 0 < i -> i < X.num δ.g -> X.done i δ.g)
    (hop : ∀ γ₁ (w : World), X.R 0 δ.g γ₁ -> X.Inv γ₁ w.heap -> Part False h w.heap -> (∀ i hf, X.fin γ₁ i = some hf -> Part False hf w.heap) -> (∀ a, Part False (X.bag γ₁ a) w.heap) -> (X.cf γ₁).ad = a /\
      ∃ γ₂, X.num γ₂ = X.num γ₁ /\ ¬ X.jn γ₁ /\ X.jn γ₂ /\ X.lone γ₂ /\ (X.cf γ₂).wg = (X.cf γ₁).wg /\ (X.cf γ₁).shb (X.cf γ₁).wg /\ (∀ b, (X.cf γ₂).shb b ↔ b = (X.cf γ₁).wg) /\ (∀ b, ¬ (X.cf γ₂).ro b) /\ (∀ a, (X.cf γ₂).at_ a -> (X.cf γ₁).at_ a) /\ (∀ i a w, ¬ X.may i γ₂ a w) /\ (∀ a, X.bag γ₂ a = #[]) /\ (∀ a l, ¬ X.bmay γ₂ a l) /\
        (∀ i, 0 < i -> i < X.num γ₁ -> X.fin γ₂ i = some #[]) /\ (∀ i, X.num γ₁ <= i -> X.fin γ₂ i = none) /\ X.Inv γ₂ w.heap /\ ER P true S f n ops l k ((d, .tuple #[]) :: env) ds (w.heap.setIfInBounds (X.cf γ₁).wg dum) ⟨0, γ₂⟩ R) :
    ER P true S f n ops (⟨some d, .call { callee := .value x, args, argTypes := ats }, ty, pos, af, g⟩ :: l) k env ds h δ R := by
  intro rest hr act ka
  obtain ⟨m, r, rfl, ho, hr'⟩ := ER.uncons hr
  intro kind hk cs
  refine .hands (Runs P true S (Left P f kind cs R)) (fun _ _ _ x => x) (hS _ _ _ _ ⟨⟨rfl, rfl⟩, hdd, hall, fun γ₁ w hR hI hP hF hB => ?_⟩)
  obtain ⟨rfl, γ₂, k1, k2, k3, k4, k5, k6, k7, k8, k9, k10, kb1, kb2, k11, k12, k13, hn⟩ := hop γ₁ w hR hI hP hF hB
  obtain ⟨q1, q2⟩ := mark_run (P := P) (mk := .acquire) (ad := (X.cf γ₁).ad) (w := w)
  have hrun := execOp_extT (P := P) (c := c) (dst := some d) (ats := ats) (ty := ty) (pos := pos) (af := af) (g := g) (ka.eval hx) (map_ofL (fun x v hx => ka.eval hx) ha) q1 (q2 _)
  have hst := stepG_opv (main := true) (f := f) (k := k) hk (cs := cs) ho (wantE_ok ka hw) (r := r) hrun
  rw [seen_entry f c _ (mark_sync (by intro g h; cases h))] at hst
  exact ⟨_, γ₂, hst, rfl, .inl (mayWake_of ho (wakes_ext (ka.eval hx))), k1, k2, k3, k4, k5, k6, k7, k8, k9, k10, kb1, kb2, k11, k12, k13, hn r hr' _ (ka.put _ hd) kind hk cs⟩
theorem ER.saidS (hX : X.Ok) {mk : Addr -> Mark} (hmk : (∀ a, mk a = .read a) \/ ∀ a, mk a = .write a) [ExtFn P c (Extern.Race.marked mk)] (hS : ∀ g h δ Y, Opp P main X 0 g h δ Y -> S.yld g h δ Y) (hw : wantE ops env g = some true) (hd : Nat.blt d n = true) (hx : ev env x = some (.func (.func c) #[] #[])) (ha : evL env args.toList = some [.pointer (some a)])
    (hop : ∀ γ₁ (w : World), X.R 0 δ.g γ₁ -> X.Inv γ₁ w.heap -> Part False h w.heap -> (X.cf γ₁).at_ a /\ ER P main S f n ops l k ((d, .tuple #[]) :: env) ds h ⟨δ.d, γ₁⟩ R) :
    ER P main S f n ops (⟨some d, .call { callee := .value x, args, argTypes := ats }, ty, pos, af, g⟩ :: l) k env ds h δ R := by
  refine ER.oppY hS hw hd hx ha (fun z => absurd z (Nat.lt_irrefl _)) fun γ₁ w hR hI hP => .inr ?_
  obtain ⟨hat, hn⟩ := hop γ₁ w hR hI hP
  obtain ⟨q1, q2⟩ := mark_run (P := P) (mk := mk) (ad := a) (w := w)
  have hm : mk a = .read a \/ mk a = .write a := hmk.imp (fun z => z a) fun z => z a
  refine ⟨.tuple #[], w, #[⟨.mark (mk a), false, true⟩], γ₁, q1, q2, mark_sync (by intro g h; rcases hm with e | e <;> rw [e] at h <;> cases h), ⟨SameL.refl w, fun _ _ => rfl, rfl, hI, Mv.refl' hX 0 γ₁, rfl, fun e he => ?_, fun z => absurd z (Nat.lt_irrefl _), Iff.rfl⟩, ?_⟩
  · simp at he
    subst he
    exact ⟨fun b hb => (by cases hb), fun r hr => (by cases hr), nofun, nofun, fun m hm' => by
      cases hm'
      exact ⟨rfl, fun b hb => (by rcases hm with e | e <;> rw [e] at hb <;> cases hb), fun b hb => ⟨rfl, by rcases hm with e | e <;> rw [e] at hb <;> rcases hb with z | z <;> cases z <;> exact hat⟩⟩⟩
  · have e : deafBehind δ.d #[⟨.mark (mk a), false, true⟩] = δ.d := by rcases hm with e | e <;> rw [e] <;> rfl
    rw [e]; exact hn
end atom
theorem ER.hireS {X : Fp Γ} {S : Sit Γ} {R : Post Γ} {x : Operand} {ats : Array TypeId} {b : FuncId} {cap : Array Value} (hS : ∀ g h δ Y, Hire P X g h δ Y -> S.yld g h δ Y) (hw : wantE ops env g = some true) (hx : ev env x = some (.func (.func b) #[] cap)) (hd : δ.d = 0)
    (hop : ∀ γ₁ (w : World), X.R 0 δ.g γ₁ -> X.Inv γ₁ w.heap -> Part False h w.heap -> ∃ γ₂ hm hc, HireG X h γ₁ γ₂ hm hc w.heap /\
      Runs P false (SitW P X (X.num γ₁)) (EndF X (X.num γ₁)) (born P { target := .fn (.func b) cap, args := #[] }) hc ⟨0, γ₂⟩ /\ ER P true S f n ops l k env ds hm ⟨0, γ₂⟩ R) :
    ER P true S f n ops (⟨none, .go { callee := .value x, args := #[], argTypes := ats }, ty, pos, af, g⟩ :: l) k env ds h δ R := by
  intro rest hr a ka
  obtain ⟨m, r, rfl, hop', hr'⟩ := ER.uncons hr
  intro kind hk cs
  have hrun : ∀ w : World, (execOp a.eval ⟨none, .go { callee := .value x, args := #[], argTypes := ats }, ty, pos, af, g⟩).runT P w #[] = (.ok (.spawn { target := .fn (.func b) cap, args := #[] }) w, #[]) := fun w => by
    show (Deferred.ofValue (a.eval x) (#[].map a.eval) >>= fun d => pure (Next.spawn d) : Sem Next).runT P w #[] = _
    rw [ka.eval hx]
    show (Sem.pure (Next.spawn { target := .fn (.func b) cap, args := #[] ++ (#[] : Array Operand).map a.eval })).runT P w #[] = _
    simp [Sem.runT]
  refine .hands (Runs P true S (Left P f kind cs R)) (fun _ _ _ x => x) (hS _ _ _ _ ⟨⟨rfl, rfl⟩, hd, fun γ₁ w hR hI hP => ?_⟩)
  obtain ⟨γ₂, hm, hc, hg, hch, hn⟩ := hop γ₁ w hR hI hP
  refine ⟨G ((fb f kind).at a (.inRegion ops r :: k)) cs, _, γ₂, hm, hc, ?_, rfl, hg, hch, hn r hr' a ka kind hk cs⟩
  have hr0 : (execOp a.eval ⟨none, .go { callee := .value x, args := #[], argTypes := ats }, ty, pos, af, g⟩).run P w = .ok (.spawn { target := .fn (.func b) cap, args := #[] }) w := by rw [<- Sem.runT_fst, hrun]
  have := stepG_spawn (P := P) (main := true) (b := fb f kind) (k := k) (cs := cs) (rest := r) (f := .func b) (c := cap) hop' (wantE_ok ka (o := ⟨none, .go { callee := .value x, args := #[], argTypes := ats }, ty, pos, af, g⟩) hw) hk hr0 rfl
  rw [this]
  have hl : listed P (fb f kind).fn a ⟨none, .go { callee := .value x, args := #[], argTypes := ats }, ty, pos, af, g⟩ w = #[] := by
    have he := congrArg Prod.snd (hrun w)
    rw [Sem.runT_eq] at he
    unfold listed
    rw [show (execOp a.eval ⟨none, .go { callee := .value x, args := #[], argTypes := ats }, ty, pos, af, g⟩).events P w #[] = #[] from he, seen_none]
  rw [hl]
  rfl
end ext
end
end
section
variable [Dm]
open Go Go.Conc
variable {Γ : Type}
def rootFr (P : Program) : Frame := { (default : Frame) with fn := P.funcs.size, mode := .panicking [goexitEntry] }
theorem stepG_born {P : Program} {main : Bool} {b : FuncId} {cap : Array Value} [hb : HasBody P b] (w : World) : stepG P main (born P { target := .fn (.func b) cap, args := #[] }) w = .go (G (Frame.enter P b cap .deferred) [rootFr P]) w := by
  obtain ⟨fn, c, h1, h2, h3⟩ := hb.out
  have hinv : (invoke (.fn (.func b) cap) #[]).runT P w #[] = (.ok (.enter b cap) w, #[]) := by
    have e : (invoke (.fn (.func b) cap) #[]).runT P w #[] = (callFunc b (#[] ++ cap)).runT P w #[] := rfl
    rw [e, callFunc_runT h1 h2 h3]; simp
  unfold born
  simp only [stepG, unwind, callDeferred]
  rw [hinv]
  simp [GStep.after, seen_def, rootFr, G]
  rfl
theorem hired_runs {P : Program} {X : Fp Γ} {i : Nat} {b : FuncId} {fn : Func} {cap : Array Value} {h : Hp} {δ : Ix Γ} [HasBody P b] [hf : IsFn P b fn] (hr : fn.results = #[])
    (hc : CallW P false (SitW P X i) b cap h δ fun
      | .ret _, h', δ' => h' = #[] /\ X.done i δ'.g /\ δ'.d = 0
      | .pan _, _, _ => False) : Runs P false (SitW P X i) (EndF X i) (born P { target := .fn (.func b) cap, args := #[] }) h δ := by
  refine .ctl rfl (fun w => stepG_born w) ((hc .deferred (by simp) ⟨[rootFr P], fun fr h => by unfold tryRecover; rw [h]; simp [rootFr, goexitEntry]⟩).bind ?_)
  rintro g h' δ' ⟨a, todo, mode, fn', rfl, hd, hf', ⟨rfl, v, _, rfl, hdone, hd0⟩ | ⟨ch, _, hR⟩⟩
  · refine .ctl (g' := G (rootFr P) []) rfl (fun w => ?_) ?_
    · have hres := results_none hr a.tmps P w
      have hev := events_results_none (P := P) (w := w) hr a.tmps #[]
      have hrun : (results fn a.tmps).runT P w #[] = (.ok (.tuple #[]) w, #[]) := by rw [Sem.runT_eq, hres, hev]
      simp only [G, stepG, unwind, Frame.at, hd, hf.out, fb, hrun]
      simp [doReturn, GStep.after, seen_def, rootFr, goexitEntry]
    · refine .ctl (g' := { G (rootFr P) [] with status := .finished }) rfl (fun w => ?_) (.stop ⟨rfl, hd0, hdone, rfl⟩)
      have e1 : (default : Frame).defers = [] := rfl
      have e2 : (default : Frame).kind = .normal := rfl
      simp [G, stepG, unwind, rootFr, goexitEntry, Frame.catches, e1, e2]
      rfl
  · exact hR.elim
end
section
variable [Dm]
def nsum : Nat -> (Nat -> Nat) -> Nat
  | 0, _ => 0
  | n + 1, f => nsum n f + f n
theorem nsum_congr : ∀ (n : Nat) (f g : Nat -> Nat), (∀ j, j < n -> f j = g j) -> nsum n f = nsum n g
  | 0, _, _, _ => rfl
  | n + 1, f, g, h => by rw [nsum, nsum, nsum_congr n f g fun j hj => h j (by omega), h n (by omega)]
theorem nsum_upd : ∀ (n : Nat) (f g : Nat -> Nat) (i : Nat), i < n -> (∀ j, j < n -> j ≠ i -> f j = g j) -> nsum n f + g i = nsum n g + f i
  | 0, _, _, _, h, _ => by omega
  | n + 1, f, g, i, h, hj => by
    rw [nsum, nsum]
    by_cases e : i = n
    · subst e
      rw [nsum_congr i f g fun j h1 => hj j (by omega) (by omega)]
      omega
    · have := nsum_upd n f g i (by omega) fun j h1 h2 => hj j (by omega) h2
      have := hj n (by omega) (fun z => e z.symm)
      omega
theorem nsum_pos : ∀ (n : Nat) (f : Nat -> Nat) (i : Nat), i < n -> f i <= nsum n f
  | 0, _, _, h => by omega
  | n + 1, f, i, h => by
    rw [nsum]
    by_cases e : i = n
    · subst e; omega
    · have := nsum_pos n f i (by omega)
      omega
theorem nsum_zero : ∀ (n : Nat) (f : Nat -> Nat), (∀ j, j < n -> f j = 0) -> nsum n f = 0
  | 0, _, _ => rfl
  | n + 1, f, h => by rw [nsum, nsum_zero n f fun j hj => h j (by omega), h n (by omega)]
theorem nsum_le : ∀ (n : Nat) (f : Nat -> Nat), (∀ j, j < n -> f j <= 1) -> nsum n f <= n
  | 0, _, _ => Nat.le_refl _
  | n + 1, f, h => by
    have := nsum_le n f fun j hj => h j (by omega)
    have := h n (by omega)
    rw [nsum]; omega
def lsum : List Nat -> (Nat -> Nat) -> Nat
  | [], _ => 0
  | b :: l, f => f b + lsum l f
theorem lsum_congr : ∀ (l : List Nat) (f g : Nat -> Nat), (∀ b, b ∈ l -> f b = g b) -> lsum l f = lsum l g
  | [], _, _, _ => rfl
  | b :: l, f, g, h => by rw [lsum, lsum, h b (by simp), lsum_congr l f g fun c hc => h c (by simp [hc])]
theorem lsum_upd : ∀ (l : List Nat) (f g : Nat -> Nat) (b : Nat), l.Nodup -> b ∈ l -> (∀ c, c ≠ b -> f c = g c) -> lsum l f + g b = lsum l g + f b
  | [], _, _, _, _, h, _ => by simp at h
  | c :: l, f, g, b, hn, h, hj => by
    rw [lsum, lsum]
    rw [List.nodup_cons] at hn
    by_cases e : b = c
    · subst e
      rw [lsum_congr l f g fun c hc => hj c (fun z => hn.1 (z ▸ hc))]
      omega
    · have := lsum_upd l f g b hn.2 (by simpa [e] using h) hj
      have := hj c (fun z => e z.symm)
      omega
structure Pc where
  b : Nat
  c : Nat
  q : Nat
structure Mu where
  b : Nat
  k : Nat
  s : Nat
  n : Nat
  z : Nat
def Mu.word (m : Mu) : Int := ((m.b + 2 * m.k + 4 * m.s + 8 * m.n : Nat) : Int)
def Mu.free : Mu := ⟨0, 0, 0, 0, 0⟩
def wt (c : Nat) : Nat :=
  if c = 1 then 13 else if c = 2 then 12 else if c = 3 then 10 else if c = 4 then 13 else if c = 5 then 12 else if c = 6 then 7 else if c = 7 then 6 else if c = 8 then 5 else if c = 9 then 5 else 0
inductive Tr : Mu -> Nat -> Nat -> Mu -> Nat -> Nat -> Prop
  | take0 {m : Mu} {q : Nat} : m.b = 0 -> m.s = 0 -> Tr m 1 q { m with b := 1 } 6 0
  | take1 {m : Mu} {q : Nat} : m.b = 0 -> m.s = 0 -> m.k = 1 -> Tr m 2 q { m with b := 1, k := 0 } 6 0
  | queue0 {m : Mu} {q : Nat} : m.b = 1 \/ m.s = 1 -> Tr m 1 q { m with n := m.n + 1 } 3 0
  | queue1 {m : Mu} {q s' : Nat} : m.b = 1 -> m.k = 1 -> m.s = 0 -> s' <= 1 -> Tr m 2 q { m with k := 0, s := s', n := m.n + 1 } 3 0
  | spin {m : Mu} {q : Nat} : m.b = 1 -> m.k = 0 -> m.s = 0 -> Tr m 1 q { m with k := 1 } 2 0
  | grant {m : Mu} {q : Nat} : 0 < m.z -> Tr m 3 q { m with z := m.z - 1 } 4 0
  | woken {m : Mu} {q : Nat} : m.s = 0 -> Tr m 4 q m 2 0
  | handed {m : Mu} {q : Nat} : m.s = 1 -> Tr m 4 q m 5 m.n
  | takeS {m : Mu} {q s' : Nat} : (s' = 0 \/ (s' = 1 /\ q ≠ 1)) -> Tr m 5 q { m with b := 1, s := s', n := m.n - 1 } 6 0
  | leave {m : Mu} {q : Nat} : m.s = 0 -> (m.n = 0 \/ m.k = 1) -> Tr m 6 q { m with b := 0 } 0 0
  | leaveU {m : Mu} {q : Nat} : m.s = 0 -> m.n ≠ 0 -> m.k = 0 -> Tr m 6 q { m with b := 0 } 7 0
  | leaveS {m : Mu} {q : Nat} : m.s = 1 -> Tr m 6 q { m with b := 0 } 9 0
  | wake {m : Mu} {q : Nat} : m.b = 0 -> m.k = 0 -> m.s = 0 -> m.n ≠ 0 -> Tr m 7 q { m with n := m.n - 1, k := 1 } 8 0
  | off {m : Mu} {q : Nat} : m.n = 0 \/ m.b = 1 \/ m.k = 1 \/ m.s = 1 -> Tr m 7 q m 0 0
  | rel {m : Mu} {q : Nat} : Tr m 8 q { m with z := m.z + 1 } 0 0
  | relS {m : Mu} {q : Nat} : Tr m 9 q { m with z := m.z + 1 } 0 0
structure MI (m : Mu) (c : Nat -> Nat) : Prop where
  b1 : m.b <= 1
  k1 : m.k <= 1
  s1 : m.s <= 1
  hold : c 6 = m.b
  n0 : m.s = 0 -> c 9 = 0 /\ c 5 = 0 /\ c 3 = m.n + c 8 + m.z /\ c 2 + c 8 + c 4 + m.z = m.k
  n1 : m.s = 1 -> m.k = 0 /\ c 2 = 0 /\ c 8 = 0 /\ c 3 + c 4 + c 5 = m.n /\ 1 <= m.n /\ (m.b = 1 -> c 9 = 0 /\ m.z = 0 /\ c 4 = 0 /\ c 5 = 0) /\ (m.b = 0 -> c 9 + m.z + c 4 + c 5 = 1)
  care : m.b = 0 -> m.k = 0 -> m.s = 0 -> 0 < m.n -> 0 < c 7
theorem MI.free {c : Nat -> Nat} (h : ∀ x, c x = 0) : MI Mu.free c :=
  ⟨Nat.zero_le _, Nat.zero_le _, Nat.zero_le _, h 6, fun _ => by simp [h, Mu.free], fun x => by simp [Mu.free] at x, fun _ _ _ x => by simp [Mu.free] at x⟩
theorem Tr.keep {m m' : Mu} {c q c' q' : Nat} {t t' : Nat -> Nat} (h : Tr m c q m' c' q') (hI : MI m t) (ht : ∀ x, t' x + (if c = x then 1 else 0) = t x + (if c' = x then 1 else 0)) (hq : c = 5 -> 1 <= q /\ q <= m.n) : MI m' t' := by
  obtain ⟨i1, i2, i3, i4, i5, i6, i7⟩ := hI
  have h2 := ht 2
  have h3 := ht 3
  have h4 := ht 4
  have h5 := ht 5
  have h6 := ht 6
  have h7 := ht 7
  have h8 := ht 8
  have h9 := ht 9
  have hs : m.s = 0 \/ m.s = 1 := by omega
  rcases hs with hs | hs
  · obtain ⟨j1, j2, j3, j4⟩ := i5 hs
    clear i5 i6
    cases h <;> simp at h2 h3 h4 h5 h6 h7 h8 h9 hq <;> first | omega | (constructor <;> (try dsimp only) <;> omega)
  · obtain ⟨j1, j2, j3, j4, j5, j6, j7⟩ := i6 hs
    clear i5 i6
    cases h <;> simp at h2 h3 h4 h5 h6 h7 h8 h9 hq <;> first | omega | (constructor <;> (try dsimp only) <;> omega)
theorem Tr.pot {m m' : Mu} {c q c' q' : Nat} (h : Tr m c q m' c' q') : wt c' + 4 * m'.z <= wt c + 4 * m.z /\ (m' = m \/ wt c' + 4 * m'.z < wt c + 4 * m.z) := by
  cases h <;> simp [wt] <;> omega
theorem Tr.seen {m m' : Mu} {c q c' q' : Nat} {t : Nat -> Nat} (h : Tr m c q m' c' q') (hI : MI m t) : c' = 5 -> 1 <= q' /\ q' <= m'.n := by
  have := hI.n1
  cases h <;> simp
  omega
theorem Tr.seenO {m m' : Mu} {c q c' q' : Nat} {t : Nat -> Nat} (h : Tr m c q m' c' q') (hI : MI m t) (hc : 0 < t c) (h5 : (if c = 5 then 1 else 0) < t 5) : m.n <= m'.n := by
  obtain ⟨i1, i2, i3, i4, i5, i6, i7⟩ := hI
  have hs : m.s = 0 \/ m.s = 1 := by omega
  have hb : m.b = 0 \/ m.b = 1 := by omega
  cases h <;> simp at hc h5 ⊢ <;> omega
end
end Go.TJ
