/- Own theory, part 14: what lies in memory, by names: a name stands for a block; what each block holds. Conditions: as the lemmas say. -/
import Derived.Test.YtkppboglffdmnaaTjH
namespace Go.TJ
open Go Go.Conc
variable {Γ : Type}

/-- Names, their blocks, what these hold. -/
structure Mem (K : Type) where
  ok : K → Prop
  B : K → Nat
  O : K → Obj

section
variable {K : Type}

def Mem.emp : Mem K := ⟨fun _ => False, fun _ => 0, fun _ => .cells #[] 0 (0, 0)⟩
structure Rep (h : Hp) (M : Mem K) : Prop where
  has : ∀ k, M.ok k → h[M.B k]? = some (M.O k)
  inj : ∀ k k', M.ok k → M.ok k' → M.B k = M.B k' → k = k'
variable {h h' : Hp} {M : Mem K}
theorem Rep.emp : Rep h (Mem.emp (K := K)) := ⟨fun _ x => x.elim, fun _ _ x => x.elim⟩
theorem Rep.lt (r : Rep h M) {k : K} (hk : M.ok k) : M.B k < h.size := lt_of_get (r.has k hk)
theorem Rep.get (r : Rep h M) {k : K} (hk : M.ok k) {o : Obj} (ho : M.O k = o) : h[M.B k]? = some o := ho ▸ r.has k hk
theorem Rep.cell (r : Rep h M) {k : K} (hk : M.ok k) {c : Array Value} {e : TypeId} {f : Nat × Nat} (ho : M.O k = .cells c e f) {i : Nat} {v : Value} (hv : c[i]? = some v) : hcell h ⟨M.B k, i, none⟩ = some v :=
  hcell_of (r.get hk ho) hv
theorem Rep.upd (r : Rep h M) {T : Nat → Prop} (u : Upd T h h') (hT : ∀ k, M.ok k → ¬ T (M.B k)) : Rep h' M := ⟨fun k hk => u.get (r.has k hk) (hT k hk), r.inj⟩
theorem Rep.upd0 (r : Rep h M) (u : Upd (fun _ => False) h h') : Rep h' M := r.upd u (fun _ _ x => x)
theorem Rep.congr (r : Rep h M) {M' : Mem K} (hok : ∀ k, M'.ok k → M.ok k) (hB : ∀ k, M'.ok k → M'.B k = M.B k) (hO : ∀ k, M'.ok k → M'.O k = M.O k) : Rep h M' :=
  ⟨fun k hk => by rw [hB k hk, hO k hk]; exact r.has k (hok k hk), fun i j hi hj e => r.inj i j (hok i hi) (hok j hj) (by rw [← hB i hi, ← hB j hj]; exact e)⟩
def Mem.Own (M : Mem K) (b : Nat) : Prop := ∃ k, M.ok k ∧ b = M.B k
def Mem.Sl (M : Mem K) (k : K) (s : Value) (e : TypeId) (sz n : Nat) (cells : List Value) : Prop :=
  cells.length = n * sz ∧ ((s = .slice none 0 0 ∧ n = 0 ∧ ¬ M.ok k) ∨ (M.ok k ∧ ∃ cap rest, s = .slice (some ⟨M.B k, 0, none⟩) n cap ∧ n ≤ cap ∧ rest.length = (cap - n) * sz ∧ M.O k = .cells (cells ++ rest).toArray e (0, 0)))
theorem Mem.Sl.nil {k : K} {e sz : Nat} (hk : ¬ M.ok k) : M.Sl k (.slice none 0 0) e sz 0 [] := ⟨by simp, .inl ⟨rfl, rfl, hk⟩⟩
theorem Mem.Sl.slice (r : Rep h M) {k : K} {s : Value} {e sz n : Nat} {cells : List Value} (x : M.Sl k s e sz n cells) : SliceO h s e sz n cells := by
  refine ⟨x.1, x.2.imp (fun y => ⟨y.1, y.2.1⟩) ?_⟩
  rintro ⟨hk, cap, rest, rfl, h1, h2, h3⟩
  exact ⟨_, cap, rest, rfl, h1, h2, r.get hk h3⟩
theorem Mem.Sl.blk {k : K} {s : Value} {e sz n : Nat} {cells : List Value} (x : M.Sl k s e sz n cells) {b : Nat} (hb : TJ.blk s = some b) : M.ok k ∧ b = M.B k := by
  rcases x.2 with ⟨rfl, _, _⟩ | ⟨hk, cap, rest, rfl, _⟩
  · cases hb
  · cases hb; exact ⟨hk, rfl⟩
theorem Mem.Sl.val {k : K} {s : Value} {e sz n : Nat} {cells : List Value} (x : M.Sl k s e sz n cells) : ∃ a cap, s = .slice a n cap := by
  rcases x.2 with ⟨rfl, rfl, _⟩ | ⟨_, cap, _, rfl, _⟩
  · exact ⟨_, _, rfl⟩
  · exact ⟨_, _, rfl⟩
theorem Mem.Sl.cell (r : Rep h M) {k : K} {s : Value} {e sz n : Nat} {cells : List Value} (x : M.Sl k s e sz n cells) (hn : 0 < n) : ∃ cap, s = .slice (some ⟨M.B k, 0, none⟩) n cap ∧ M.ok k ∧ (∀ j v, cells[j]? = some v → hcell h ⟨M.B k, j, none⟩ = some v) ∧ ∀ o, hfroz h ⟨M.B k, o, none⟩ = false := by
  rcases x.2 with ⟨_, rfl, _⟩ | ⟨hk, cap, rest, rfl, h1, h2, h3⟩
  · omega
  · refine ⟨cap, rfl, hk, fun j v hv => r.cell hk h3 ?_, fun o => hfroz_of (r.get hk h3)⟩
    have hj : j < cells.length := by
      rcases Nat.lt_or_ge j cells.length with y | y
      · exact y
      · rw [List.getElem?_eq_none y] at hv; cases hv
    simp only [List.getElem?_toArray, List.getElem?_append_left hj, hv]
theorem Mem.Sl.congr {M' : Mem K} {k : K} {s : Value} {e sz n : Nat} {cells : List Value} (x : M.Sl k s e sz n cells) (hok : M'.ok k ↔ M.ok k) (hB : M'.B k = M.B k) (hO : M'.O k = M.O k) : M'.Sl k s e sz n cells := by
  unfold Mem.Sl at *
  rw [hok, hB, hO]; exact x
end

section
variable {K : Type} [DecidableEq K] {h h' : Hp} {M : Mem K}

/-- f with k put to x. -/
def ut {α : Type} (f : K → α) (k : K) (x : α) : K → α := fun j => if j = k then x else f j
theorem ut_same {α : Type} (f : K → α) (k : K) (x : α) : ut f k x k = x := by simp [ut]
theorem ut_ne {α : Type} (f : K → α) {k j : K} (x : α) (h : j ≠ k) : ut f k x j = f j := by simp [ut, h]
theorem ut_ut {α : Type} (f : K → α) (k : K) (x y : α) : ut (ut f k x) k y = ut f k y := by
  funext j; unfold ut; split <;> rfl
theorem ut_self {α : Type} (f : K → α) (k : K) : ut f k (f k) = f := by
  funext j; unfold ut; split
  · rename_i e; rw [e]
  · rfl

def Mem.set (M : Mem K) (k : K) (o : Obj) : Mem K := ⟨M.ok, M.B, ut M.O k o⟩
/-- A name gets a block (again). -/
def Mem.put (M : Mem K) (k : K) (b : Nat) (o : Obj) : Mem K := ⟨fun x => x = k ∨ M.ok x, ut M.B k b, ut M.O k o⟩
theorem Rep.set (r : Rep h M) {k : K} (hk : M.ok k) (o : Obj) : Rep (h.setIfInBounds (M.B k) o) (M.set k o) := by
  refine ⟨fun j hj => ?_, r.inj⟩
  show (h.setIfInBounds (M.B k) o)[M.B j]? = some (ut M.O k o j)
  by_cases e : j = k
  · subst e; rw [ut_same]; exact get_set_same (r.has j hj)
  · rw [ut_ne _ _ e, get_set_ne _ (fun x => e (r.inj _ _ hj hk x.symm))]
    exact r.has j hj
/-- A cell of one of its blocks is written. -/
theorem Rep.hset (r : Rep h M) {k : K} (hk : M.ok k) {c : Array Value} {e : TypeId} {f : Nat × Nat} (ho : M.O k = .cells c e f) (i : Nat) (v : Value) : Rep (hset h ⟨M.B k, i, none⟩ v) (M.set k (.cells (c.setIfInBounds i v) e f)) := by
  have e1 : TJ.hset h ⟨M.B k, i, none⟩ v = h.setIfInBounds (M.B k) (.cells (c.setIfInBounds i v) e f) := by
    apply Array.ext_getElem?
    intro j
    by_cases hj : M.B k = j
    · subst hj
      rw [get_set_same (r.has k hk)]
      exact hset_same h ⟨M.B k, i, none⟩ v (r.get hk ho) rfl
    · rw [get_set_ne _ hj, hset_ne _ _ _ hj]
  rw [e1]
  exact r.set hk _
theorem Rep.put (r : Rep h M) (k : K) (o : Obj) : Rep (h.push o) (M.put k h.size o) := by
  refine ⟨fun j hj => ?_, fun i j hi hj e => ?_⟩
  · show (h.push o)[ut M.B k h.size j]? = some (ut M.O k o j)
    by_cases e : j = k
    · subst e; rw [ut_same, ut_same]; exact get_push_new h o
    · rw [ut_ne _ _ e, ut_ne _ _ e]
      exact get_push _ (r.has j (hj.resolve_left e))
  · change ut M.B k h.size i = ut M.B k h.size j at e
    by_cases ei : i = k <;> by_cases ej : j = k
    · rw [ei, ej]
    · subst ei
      rw [ut_same, ut_ne _ _ ej] at e
      have := r.lt (hj.resolve_left ej)
      omega
    · subst ej
      rw [ut_same, ut_ne _ _ ei] at e
      have := r.lt (hi.resolve_left ei)
      omega
    · rw [ut_ne _ _ ei, ut_ne _ _ ej] at e
      exact r.inj i j (hi.resolve_left ei) (hj.resolve_left ej) e
/-! ### slices that own their block -/

theorem Mem.Sl.set {k j : K} {s : Value} {e sz n : Nat} {cells : List Value} (x : M.Sl k s e sz n cells) (hj : k ≠ j) (o : Obj) : (M.set j o).Sl k s e sz n cells := x.congr Iff.rfl rfl (ut_ne _ _ hj)
theorem Mem.Sl.put {k j : K} {s : Value} {e sz n : Nat} {cells : List Value} (x : M.Sl k s e sz n cells) (hj : k ≠ j) (b : Nat) (o : Obj) : (M.put j b o).Sl k s e sz n cells := x.congr ⟨fun y => y.resolve_left hj, .inr⟩ (ut_ne _ _ hj) (ut_ne _ _ hj)

/-- What append leaves: the slice's name may have got another block. -/
theorem Rep.app (r : Rep h M) {k : K} {s s' : Value} {e sz n : Nat} {cells new : List Value} (x : M.Sl k s e sz n cells) (hs : SliceO h' s' e sz (n + 1) (cells ++ new)) (u : Upd (fun b => TJ.blk s = some b) h h') (hb : ∀ b, TJ.blk s' = some b → TJ.blk s = some b ∨ b = h.size) :
    ∃ b o, Rep h' (M.put k b o) ∧ (M.put k b o).Sl k s' e sz (n + 1) (cells ++ new) ∧ ((M.ok k ∧ b = M.B k) ∨ h.size ≤ b) ∧ b < h'.size := by
  obtain ⟨hl, ⟨_, hn⟩ | ⟨b, cap, rest, rfl, h1, h2, h3⟩⟩ := hs
  · omega
  have hold : ∀ j, j ≠ k → M.ok j → M.B j ≠ b ∧ h'[M.B j]? = some (M.O j) := fun j hj ho => by
    have hlt := r.lt ho
    have hnb : ¬ TJ.blk s = some (M.B j) := fun y => by
      obtain ⟨hk, e⟩ := x.blk y
      exact hj (r.inj _ _ ho hk e)
    refine ⟨fun e => ?_, u.get (r.has j ho) hnb⟩
    rcases hb b rfl with y | y
    · exact hnb (e ▸ y)
    · omega
  refine ⟨b, _, ⟨fun j hj => ?_, fun i j hi hj e => ?_⟩, ⟨hl, .inr ⟨.inl rfl, cap, rest, ?_, h1, h2, ut_same _ _ _⟩⟩, ?_, lt_of_get h3⟩
  · show h'[ut M.B k b j]? = some (ut M.O k _ j)
    by_cases e : j = k
    · subst e; rw [ut_same, ut_same]; exact h3
    · rw [ut_ne _ _ e, ut_ne _ _ e]
      exact (hold j e (hj.resolve_left e)).2
  · change ut M.B k b i = ut M.B k b j at e
    by_cases ei : i = k <;> by_cases ej : j = k
    · rw [ei, ej]
    · subst ei
      rw [ut_same, ut_ne _ _ ej] at e
      exact absurd e.symm (hold j ej (hj.resolve_left ej)).1
    · subst ej
      rw [ut_same, ut_ne _ _ ei] at e
      exact absurd e (hold i ei (hi.resolve_left ei)).1
    · rw [ut_ne _ _ ei, ut_ne _ _ ej] at e
      exact r.inj i j (hi.resolve_left ei) (hj.resolve_left ej) e
  · show Value.slice (some ⟨b, 0, none⟩) (n + 1) cap = Value.slice (some ⟨ut M.B k b k, 0, none⟩) (n + 1) cap
    rw [ut_same]
  · rcases hb b rfl with y | y
    · exact .inl (x.blk y)
    · exact .inr (by omega)
end

/-- Two memories, apart. -/
def Dis {K K' : Type} (M : Mem K) (N : Mem K') : Prop := ∀ k k', M.ok k → N.ok k' → M.B k ≠ N.B k'

/-- Nothing of these blocks is still; nor is anything new. -/
def Free (S : Sit Γ) (γ : Γ) (T : Nat → Prop) : Prop := ∀ b o, T b → ¬ S.still γ ⟨b, o, none⟩
end Go.TJ
