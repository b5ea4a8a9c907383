/- Own theory, part 9: what a piece of work leaves alone; a few words on heaps. No condition. -/
import Derived.Test.YtkppboglffdmnaaTjS
namespace Go.TJ
open Go Go.Conc
variable {Γ : Type}

/-- Blocks below the old size are as they were, but those of T. -/
structure Upd (T : Nat → Prop) (h h' : Hp) : Prop where
  size : h.size ≤ h'.size
  same : ∀ b, b < h.size → ¬ T b → h'[b]? = h[b]?

theorem Upd.refl (T : Nat → Prop) (h : Hp) : Upd T h h := ⟨Nat.le_refl _, fun _ _ _ => rfl⟩
theorem Upd.trans {T : Nat → Prop} {a b c : Hp} (x : Upd T a b) (y : Upd T b c) : Upd T a c :=
  ⟨Nat.le_trans x.size y.size, fun i hi hT => (y.same i (Nat.lt_of_lt_of_le hi x.size) hT).trans (x.same i hi hT)⟩
theorem Upd.mono {T T' : Nat → Prop} {a b : Hp} (x : Upd T a b) (h : ∀ i, i < a.size → T i → T' i) : Upd T' a b :=
  ⟨x.size, fun i hi hT => x.same i hi fun t => hT (h i hi t)⟩
theorem Upd.push {T : Nat → Prop} (h : Hp) (o : Obj) : Upd T h (h.push o) := ⟨by simp, fun b hb _ => by rw [Array.getElem?_push_lt hb, Array.getElem?_eq_getElem hb]⟩
theorem Upd.set {T : Nat → Prop} (h : Hp) (b : Nat) (o : Obj) (hT : T b) : Upd T h (h.setIfInBounds b o) :=
  ⟨by simp, fun i _ hi => Array.getElem?_setIfInBounds_ne (fun e : b = i => hi (e ▸ hT))⟩
theorem Upd.hset {T : Nat → Prop} (h : Hp) (a : Addr) (v : Value) (hT : T a.block) : Upd T h (hset h a v) :=
  ⟨by rw [hset_size]; exact Nat.le_refl _, fun i _ hi => hset_ne h a v (fun e : a.block = i => hi (e ▸ hT))⟩
theorem Upd.get {T : Nat → Prop} {h h' : Hp} (x : Upd T h h') {b : Nat} {o : Obj} (hb : h[b]? = some o) (hT : ¬ T b) : h'[b]? = some o := by
  have : b < h.size := by
    rcases Nat.lt_or_ge b h.size with y | y
    · exact y
    · simp [Array.getElem?_eq_none y] at hb
  rw [x.same b this hT, hb]
theorem Upd.hcell {T : Nat → Prop} {h h' : Hp} (x : Upd T h h') {a : Addr} {v : Value} (hc : hcell h a = some v) (hT : ¬ T a.block) : hcell h' a = some v := by
  obtain ⟨c, e, f, hb, hs, hv⟩ := hcell_some hc
  unfold TJ.hcell
  rw [x.get hb hT]
  simp [hs, hv]

theorem lt_of_get {h : Hp} {b : Nat} {o : Obj} (hb : h[b]? = some o) : b < h.size := by
  rcases Nat.lt_or_ge b h.size with y | y
  · exact y
  · simp [Array.getElem?_eq_none y] at hb
theorem get_set_same {h : Hp} {b : Nat} {o o' : Obj} (hb : h[b]? = some o) : (h.setIfInBounds b o')[b]? = some o' :=
  Array.getElem?_setIfInBounds_self_of_lt (lt_of_get hb)
theorem get_set_ne {h : Hp} {b i : Nat} (o' : Obj) (hne : b ≠ i) : (h.setIfInBounds b o')[i]? = h[i]? := Array.getElem?_setIfInBounds_ne hne
theorem get_push_new (h : Hp) (o : Obj) : (h.push o)[h.size]? = some o := by simp
theorem hcell_set_ne {h : Hp} {b : Nat} (o' : Obj) {a : Addr} (hne : b ≠ a.block) : hcell (h.setIfInBounds b o') a = hcell h a := by
  unfold hcell; rw [get_set_ne o' hne]
theorem hcell_push {h : Hp} {o : Obj} {a : Addr} {v : Value} (hc : hcell h a = some v) : hcell (h.push o) a = some v := (Upd.push (T := fun _ => False) h o).hcell hc (fun x => x)
theorem set_set {h : Hp} {b : Nat} (o o' : Obj) : (h.setIfInBounds b o).setIfInBounds b o' = h.setIfInBounds b o' := by
  simp

theorem push_set (h : Hp) (o o' : Obj) : (h.push o).setIfInBounds h.size o' = h.push o' := by
  apply Array.ext_getElem?
  intro i
  by_cases e : h.size = i
  · subst e; simp
  · rw [get_set_ne _ e]
    rcases Nat.lt_or_ge i h.size with y | y
    · rw [Array.getElem?_push_lt y, Array.getElem?_push_lt y]
    · rw [Array.getElem?_eq_none (by simp; omega), Array.getElem?_eq_none (by simp; omega)]

/-- Alone: nothing is still, it hands itself over to nobody. -/
abbrev NoS : Sit Γ := ⟨fun _ _ => False, fun _ _ _ _ => False⟩

/-- f with i put to x. -/
def up {α : Type} (f : Nat → α) (i : Nat) (x : α) : Nat → α := fun j => if j = i then x else f j
theorem up_same {α : Type} (f : Nat → α) (i : Nat) (x : α) : up f i x i = x := by simp [up]
theorem up_ne {α : Type} (f : Nat → α) {i j : Nat} (x : α) (h : j ≠ i) : up f i x j = f j := by simp [up, h]

theorem hsetRow2 {h : Hp} {b : Nat} {u v x y : Value} {e : TypeId} {f : Nat × Nat} (hb : h[b]? = some (.cells #[u, v] e f)) : hsetRow h b 0 [x, y] = h.setIfInBounds b (.cells #[x, y] e f) := by
  apply Array.ext_getElem?
  intro i
  simp only [hsetRow]
  rw [hset_get, hset_get]
  by_cases hi : b = i
  · subst hi
    rw [if_pos rfl, if_pos rfl, hb, get_set_same hb]
    rfl
  · simp only [if_neg hi]
    rw [get_set_ne _ hi]

/-- A variable of one cell. -/
abbrev oneO (v : Value) (e : TypeId) : Obj := .cells #[v] e (0, 0)
theorem hset_one {h : Hp} {b : Nat} {u v : Value} {e : TypeId} {f : Nat × Nat} (hb : h[b]? = some (.cells #[u] e f)) : hset h ⟨b, 0, none⟩ v = h.setIfInBounds b (.cells #[v] e f) := by
  apply Array.ext_getElem?
  intro i
  rw [hset_get]
  by_cases hi : b = i
  · subst hi
    rw [if_pos rfl, hb, get_set_same hb]
    rfl
  · rw [if_neg hi, get_set_ne _ hi]

theorem Upd.over {T : Nat → Prop} {h0 h h' : Hp} (x : Upd (fun _ => False) h0 h) (y : Upd T h h') (hT : ∀ b, T b → h0.size ≤ b) : Upd (fun _ => False) h0 h' :=
  ⟨Nat.le_trans x.size y.size, fun i hi _ => (y.same i (Nat.lt_of_lt_of_le hi x.size) fun t => by have := hT _ t; omega).trans (x.same i hi fun z => z)⟩
end Go.TJ
