/- Own theory, part 4: what each kind of operation means on a heap. The conditions are facts on the program's types, and on the cells that are touched. -/
import Derived.Test.YtkppboglffdmnaaTjCore3
namespace Go.TJ
open Go Go.Conc
variable {Γ : Type}

/-- Type t has this size (cells), so many bytes, this zero. -/
class Inf (P : Program) (t : TypeId) (sz : outParam Nat) (by_ : outParam Nat) (z : outParam Value) : Prop where
  out : (P.info? t).map (fun i => (i.size, i.bytes, i.zero)) = some (sz, by_, some z)

theorem Inf.get {P : Program} {t sz by_ : Nat} {z : Value} (i : Inf P t sz by_ z) : ∃ inf, P.info? t = some inf ∧ inf.size = sz ∧ inf.bytes = by_ ∧ inf.zero = some z := by
  have := i.out
  cases h : P.info? t with
  | none => rw [h] at this; cases this
  | some inf => rw [h] at this; simp at this; exact ⟨inf, rfl, this⟩

class FieldOff (P : Program) (s fld : Nat) (off : outParam Nat) : Prop where
  out : ∃ fields fd inf, P.underlying s = some (.struct fields) ∧ fields[fld]? = some fd ∧ fd.offset = off ∧ P.info? fd.type = some inf ∧ inf.size ≠ 0

theorem FieldOff.mk' {P : Program} {s fld off sz by_ ft : Nat} {z : Value} {fields : Array Field} {fd : Field} (hu : P.underlying s = some (.struct fields)) (hf : fields[fld]? = some fd) (ho : fd.offset = off) (ht : fd.type = ft) (i : Inf P ft sz by_ z) (hs : sz ≠ 0) : FieldOff P s fld off := by
  obtain ⟨inf, h1, h2, _⟩ := i.get
  exact ⟨fields, fd, inf, hu, hf, ho, ht ▸ h1, h2 ▸ hs⟩

def TypeDesc.aggB : TypeDesc → Bool
  | .struct _ | .array _ _ => true
  | _ => false

/-- A type of one cell. -/
class Scal (P : Program) (t : TypeId) : Prop where
  out : ∃ d, P.underlying t = some d ∧ TypeDesc.aggB d = false ∧ ∃ inf, P.info? t = some inf ∧ inf.size = 1

theorem Scal.mk' {P : Program} {t by_ : Nat} {z : Value} {d : TypeDesc} (hu : P.underlying t = some d) (hd : TypeDesc.aggB d = false) (i : Inf P t 1 by_ z) : Scal P t := by
  obtain ⟨inf, h1, h2, _⟩ := i.get
  exact ⟨d, hu, hd, inf, h1, h2⟩

/-- A struct or an array of so many cells. -/
class Aggr (P : Program) (t : TypeId) (n : outParam Nat) : Prop where
  out : ∃ d, P.underlying t = some d ∧ TypeDesc.aggB d = true ∧ ∃ inf, P.info? t = some inf ∧ inf.size = n

theorem Aggr.mk' {P : Program} {t n by_ : Nat} {z : Value} {d : TypeDesc} (hu : P.underlying t = some d) (hd : TypeDesc.aggB d = true) (i : Inf P t n by_ z) : Aggr P t n := by
  obtain ⟨inf, h1, h2, _⟩ := i.get
  exact ⟨d, hu, hd, inf, h1, h2⟩

/-- What type t is. -/
class Und (P : Program) (t : TypeId) (d : outParam TypeDesc) : Prop where
  out : P.underlying t = some d

/-- Function f of the program. -/
class IsFn (P : Program) (f : FuncId) (fn : outParam Func) : Prop where
  out : P.funcs[f]? = some fn

/-- A function without a body, and what the model has in its place. -/
class ExtFn (P : Program) (f : FuncId) (e : outParam (Array Value → Sem Value)) : Prop where
  out : ∃ fn, P.funcs[f]? = some fn ∧ (fn.name == "runtime.NumGoroutine") = false ∧ fn.body.isNone = true ∧ Extern.findNext fn = none ∧ Extern.find fn = some e

section
variable {P : Program} {S : Sit Γ} {h : Hp} {δ : Ix Γ} {X : Value → Hp → Ix Γ → Prop}

theorem semW_pure {β : Type} {b : β} {Q : β → Hp → Ix Γ → Prop} (hs : Q b h δ) : SemW P S (pure b) h δ Q X := hs
theorem semW_pureBind {α β : Type} {a : α} {g : α → Sem β} {Q : β → Hp → Ix Γ → Prop} (hs : SemW P S (g a) h δ Q X) : SemW P S (pure a >>= g) h δ Q X := hs
theorem semW_loadBind {β : Type} {a : Addr} {m : Mode} {v : Value} {g : Value → Sem β} {Q : β → Hp → Ix Γ → Prop} (hc : hcell h a = some v) (hs : SemW P S (g v) h δ Q X) : SemW P S (load a m >>= g) h δ Q X := ⟨v, hc, hs⟩

theorem semW_underlying {β : Type} {t : TypeId} {d : TypeDesc} (hu : P.underlying t = some d) {g : TypeDesc → Sem β} {Q : β → Hp → Ix Γ → Prop} (hs : SemW P S (g d) h δ Q X) : SemW P S (underlying t >>= g) h δ Q X := by
  change SemW P S (Sem.bind (Sem.bind (Sem.program Sem.pure) _) g) h δ Q X
  simp only [Sem.bind, SemW, hu]
  exact hs

theorem semW_typeInfo {β : Type} {t : TypeId} {i : TypeInfo} (hu : P.info? t = some i) {g : TypeInfo → Sem β} {Q : β → Hp → Ix Γ → Prop} (hs : SemW P S (g i) h δ Q X) : SemW P S (typeInfo t >>= g) h δ Q X := by
  change SemW P S (Sem.bind (Sem.bind (Sem.program Sem.pure) _) g) h δ Q X
  simp only [Sem.bind, SemW, hu]
  exact hs

theorem semW_sizeOf {β : Type} {t : TypeId} {i : TypeInfo} (hu : P.info? t = some i) {g : Nat → Sem β} {Q : β → Hp → Ix Γ → Prop} (hs : SemW P S (g i.size) h δ Q X) : SemW P S (sizeOf t >>= g) h δ Q X := by
  refine semW_bind _ _ _ _ _ _ (semW_bind _ _ _ _ _ _ ?_)
  change SemW P S (Sem.bind (Sem.program Sem.pure) _) h δ _ X
  simp only [Sem.bind, SemW, hu]
  exact hs

theorem semW_zeroValue {β : Type} {t : TypeId} {i : TypeInfo} {z : Value} (hu : P.info? t = some i) (hz : i.zero = some z) {g : Value → Sem β} {Q : β → Hp → Ix Γ → Prop} (hs : SemW P S (g z) h δ Q X) : SemW P S (zeroValue t >>= g) h δ Q X := by
  refine semW_bind _ _ _ _ _ _ (semW_bind _ _ _ _ _ _ ?_)
  change SemW P S (Sem.bind (Sem.program Sem.pure) _) h δ _ X
  simp only [Sem.bind, SemW, hu]
  refine semW_pureBind (g := fun inf : TypeInfo => (match inf.zero with | some v => pure v | none => unsupported (.resourceLimit "a value of more than 2^22 cells") : Sem Value)) ?_
  simp only [hz]
  exact hs

theorem semW_isAgg {β : Type} {t : TypeId} {d : TypeDesc} (hu : P.underlying t = some d) {g : Bool → Sem β} {Q : β → Hp → Ix Γ → Prop} (hs : SemW P S (g (TypeDesc.aggB d)) h δ Q X) : SemW P S (isAgg t >>= g) h δ Q X := by
  refine semW_bind _ _ _ _ _ _ ?_
  unfold isAgg
  refine semW_underlying hu ?_
  cases d <;> exact hs

/-- No aggregate in one cell. -/
def OneCell (v : Value) : Prop := (∀ c, v ≠ .agg c) ∧ (∀ c, v ≠ .tuple c)

/-- The cells from a on. -/
def hrow (h : Hp) (b off : Nat) (vs : List Value) : Prop := ∀ (i : Nat) (v : Value), vs[i]? = some v → hcell h ⟨b, off + i, none⟩ = some v

theorem add_eq (b off n : Nat) : (⟨b, off, none⟩ : Addr).add n = ⟨b, off + n, none⟩ := by
  unfold Addr.add; split
  · simp_all
  · rfl

theorem semW_loadCellsFrom {b off : Nat} {Q : Array Value → Hp → Ix Γ → Prop} : ∀ (vs : List Value) (i : Nat) (acc : Array Value), (∀ (j : Nat) (v : Value), vs[j]? = some v → hcell h ⟨b, off + i + j, none⟩ = some v) →
    Q (acc ++ vs.toArray) h δ → SemW P S (loadCellsFrom ⟨b, off, none⟩ i vs.length acc) h δ Q X := by
  intro vs
  induction vs with
  | nil => intro i acc _ hq; show Q acc h δ; simpa using hq
  | cons v vs ih =>
    intro i acc hr hq
    simp only [List.length_cons, loadCellsFrom]
    refine ⟨v, ?_, ?_⟩
    · rw [add_eq]; exact hr 0 v rfl
    · refine ih (i + 1) (acc.push v) (fun j x hx => ?_) ?_
      · have := hr (j + 1) x hx
        rw [show off + (i + 1) + j = off + i + (j + 1) by omega]; exact this
      · rw [show acc.push v ++ vs.toArray = acc ++ (v :: vs).toArray by simp]; exact hq

theorem semW_loadVar1 {t : TypeId} [s : Scal P t] {a : Addr} {v : Value} {Q : Value → Hp → Ix Γ → Prop} (hc : hcell h a = some v) (hq : Q v h δ) : SemW P S (loadVar t a) h δ Q X := by
  obtain ⟨d, hu, hd, _⟩ := s.out
  unfold loadVar
  refine semW_isAgg hu ?_
  rw [hd]
  exact ⟨v, hc, hq⟩

theorem semW_loadVarN {t n : TypeId} [s : Aggr P t n] {b off : Nat} {vs : List Value} {Q : Value → Hp → Ix Γ → Prop} (hn : vs.length = n) (hc : hrow h b off vs) (hq : Q (.agg vs.toArray) h δ) : SemW P S (loadVar t ⟨b, off, none⟩) h δ Q X := by
  obtain ⟨d, hu, hd, inf, hi, hsz⟩ := s.out
  unfold loadVar
  refine semW_isAgg hu ?_
  rw [hd]
  simp only [if_true]
  refine semW_sizeOf hi ?_
  refine semW_bind _ _ _ _ _ _ ?_
  rw [hsz, ← hn]
  refine semW_loadCellsFrom vs 0 #[] (fun j v hv => by simpa using hc j v hv) ?_
  show Q (.agg (#[] ++ vs.toArray)) h δ
  simpa using hq

/-- The cells from a on, written one behind the other. -/
def hsetRow (h : Hp) (b off : Nat) : List Value → Hp
  | [] => h
  | v :: vs => hsetRow (hset h ⟨b, off, none⟩ v) b (off + 1) vs

theorem semW_storeCells {b off : Nat} {Q : Unit → Hp → Ix Γ → Prop} : ∀ (vs : List Value) (i : Nat) (h : Hp), (∀ v ∈ vs, OneCell v) → (∀ j, j < vs.length → (∃ o, hcell h ⟨b, off + i + j, none⟩ = some o) ∧ hfroz h ⟨b, off + i + j, none⟩ = false ∧ ¬ S.still δ.g ⟨b, off + i + j, none⟩) →
    Q () (hsetRow h b (off + i) vs) δ → SemW P S (storeCells ⟨b, off, none⟩ vs i) h δ Q X := by
  intro vs
  induction vs with
  | nil => intro i h _ _ hq; exact hq
  | cons v vs ih =>
    intro i h h1 hc hq
    unfold storeCells
    obtain ⟨h3, h4, h5⟩ := hc 0 (by simp)
    rw [Nat.add_zero] at h3 h4 h5
    refine ⟨(h1 v (by simp)).1, (h1 v (by simp)).2, by rw [add_eq]; exact h3, by rw [add_eq]; exact h4, by rw [add_eq]; exact h5, ?_⟩
    rw [add_eq]
    refine ih (i + 1) _ (fun x hx => h1 x (List.mem_cons_of_mem _ hx)) (fun j hj => ?_) hq
    obtain ⟨⟨o, g3⟩, g4, g5⟩ := hc (j + 1) (by simp; omega)
    rw [show off + i + (j + 1) = off + (i + 1) + j by omega] at g3 g4 g5
    refine ⟨⟨o, ?_⟩, ?_, g5⟩
    · rw [hset_cell_ne _ _ _ _ (by simp; omega) h3]; exact g3
    · obtain ⟨c, e, f, hb, _, _⟩ := hcell_some g3
      unfold hfroz at g4 ⊢
      dsimp only at hb g4 ⊢
      rw [hb] at g4
      rw [hset_get]
      simp only [hb]
      simpa using g4

theorem semW_storeVar1 {t : TypeId} [s : Scal P t] {b off : Nat} {v : Value} {Q : Unit → Hp → Ix Γ → Prop} (hv : OneCell v) (hc : ∃ o, hcell h ⟨b, off, none⟩ = some o) (hf : hfroz h ⟨b, off, none⟩ = false) (hS : ¬ S.still δ.g ⟨b, off, none⟩)
    (hq : Q () (hset h ⟨b, off, none⟩ v) δ) : SemW P S (storeVar t ⟨b, off, none⟩ v) h δ Q X := by
  obtain ⟨d, hu, hd, inf, hi, hsz⟩ := s.out
  have hcells : v.cells = #[v] := by
    unfold Value.cells
    split
    · exact absurd rfl (hv.1 _)
    · rfl
  unfold storeVar
  refine semW_sizeOf hi ?_
  rw [hcells, hsz]
  exact semW_storeCells [v] 0 h (by simpa using hv) (fun j hj => by
    have : j = 0 := by simp at hj; omega
    subst this; exact ⟨hc, hf, hS⟩) hq

theorem semW_storeVarN {t n : TypeId} [s : Aggr P t n] {b off : Nat} {vs : List Value} {Q : Unit → Hp → Ix Γ → Prop} (hn : vs.length = n) (hv : ∀ v ∈ vs, OneCell v) (hc : ∀ j, j < n → (∃ o, hcell h ⟨b, off + j, none⟩ = some o) ∧ hfroz h ⟨b, off + j, none⟩ = false ∧ ¬ S.still δ.g ⟨b, off + j, none⟩)
    (hq : Q () (hsetRow h b off vs) δ) : SemW P S (storeVar t ⟨b, off, none⟩ (.agg vs.toArray)) h δ Q X := by
  obtain ⟨d, hu, hd, inf, hi, hsz⟩ := s.out
  unfold storeVar
  refine semW_sizeOf hi ?_
  have : (Value.agg vs.toArray).cells.size = inf.size := by simp [Value.cells, hsz, hn]
  simp only [this, ne_eq, not_true_eq_false, if_false]
  exact semW_storeCells vs 0 h hv (fun j hj => by simpa using hc j (hn ▸ hj)) hq
end
end Go.TJ
