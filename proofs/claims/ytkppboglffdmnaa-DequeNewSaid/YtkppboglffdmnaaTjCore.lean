/- Own theory, part 1: the heap-level meaning of one operation ('SemW') and of a goroutine's own steps ('Runs'), whatever the tape answers. No condition. -/
import Derived.Conc.Own
import Derived.Conc.Deaf
namespace Go.TJ
open Go Go.Conc

abbrev Hp := Array Obj

def hcell (h : Hp) (a : Addr) : Option Value :=
  match h[a.block]? with
  | some (.cells c _ _) => if a.spot.isSome then none else c[a.off]?
  | _ => none

def hfroz (h : Hp) (a : Addr) : Bool :=
  match h[a.block]? with
  | some (.cells _ _ (lo, hi)) => lo ≤ a.off && a.off < hi
  | _ => false

def hset (h : Hp) (a : Addr) (v : Value) : Hp := h.modify a.block fun
  | .cells c elem frozen => .cells (if a.spot.isSome then c else c.setIfInBounds a.off v) elem frozen
  | o => o

def hshape (h : Hp) (r : Nat) : Option (TypeId × Nat) :=
  match h[r]? with
  | some (.cells c elem _) => some (elem, c.size)
  | _ => none

theorem cell?_eq (w : World) (a : Addr) : w.cell? a = hcell w.heap a := rfl
theorem frozen?_eq (w : World) (a : Addr) : w.frozen? a = hfroz w.heap a := rfl
theorem shape?_eq (w : World) (r : Nat) : w.shape? r = hshape w.heap r := rfl
theorem setCell_heap (w : World) (a : Addr) (v : Value) : (w.setCell a v).heap = hset w.heap a v := rfl

/-- The index of what a goroutine does: how many of its 'disable's stand open; a ghost. -/
structure Ix (Γ : Type) where
  d : Nat
  g : Γ

/-- The situation that a goroutine is in: cells that it must not write; where it hands itself over to others, and how it may come back. -/
structure Sit (Γ : Type) where
  still : Γ → Addr → Prop
  yld : Goroutine → Hp → Ix Γ → (Goroutine → Hp → Ix Γ → Prop) → Prop

/-- What one mark does to the count of open 'disable's. -/
def markN (m : Mark) (d : Nat) : Nat :=
  match m with
  | .disable => d + 1
  | .enable => d - 1
  | _ => d
def markd {Γ : Type} (m : Mark) (δ : Ix Γ) : Ix Γ := ⟨markN m δ.d, δ.g⟩
/-- The index behind a step that lists these accesses. -/
def deafI {Γ : Type} (δ : Ix Γ) (es : Array Event) : Ix Γ := ⟨deafBehind δ.d es, δ.g⟩

/-- Nothing of it is frozen. -/
def Thawed (o : Obj) : Prop := ∀ c e f, o = .cells c e f → f = (0, 0)

/-- The meaning of a piece of the model's own small programs on a heap: whatever the tape answers, it ends well, and what it hands on satisfies Q; a panic of Go's satisfies X. 'S': cells that must not be written. -/
def SemW {Γ : Type} (P : Program) (S : Sit Γ) {α : Type} : Sem α → Hp → Ix Γ → (α → Hp → Ix Γ → Prop) → (Value → Hp → Ix Γ → Prop) → Prop
  | .pure a, h, δ, Q, _ => Q a h δ
  | .load _ a k, h, δ, Q, X => ∃ v, hcell h a = some v ∧ SemW P S (k v) h δ Q X
  | .store _ a v k, h, δ, Q, X => (∀ c, v ≠ .agg c) ∧ (∀ c, v ≠ .tuple c) ∧ (∃ o, hcell h a = some o) ∧ hfroz h a = false ∧ ¬ S.still δ.g a ∧ SemW P S k (hset h a v) δ Q X
  | .new o k, h, δ, Q, X => Thawed o ∧ SemW P S (k h.size) (h.push o) δ Q X
  | .shape r k, h, δ, Q, X => SemW P S (k (hshape h r)) h δ Q X
  | .freeze _ _ _, _, _, _, _ => False
  | .frozen a k, h, δ, Q, X => SemW P S (k (hfroz h a)) h δ Q X
  | .getObj r k, h, δ, Q, X => ∃ o, h[r]? = some o ∧ (∀ c e f, o ≠ .cells c e f) ∧ SemW P S (k o) h δ Q X
  | .setObj r o k, h, δ, Q, X => o.isChan = false ∧ (∀ c e f, o ≠ .cells c e f) ∧ (∃ o', h[r]? = some o' ∧ (∀ c e f, o' ≠ .cells c e f) ∧ o'.isChan = false) ∧ SemW P S k (h.setIfInBounds r o) δ Q X
  | .choose q k, h, δ, Q, X => ∀ n, ((q.forced = true ∧ n = 0) ∨ (q.forced = false ∧ ∃ t, n = q.cut t)) → SemW P S (k n) h δ Q X
  | .sys _ _, _, _, _, _ => False
  | .program k, h, δ, Q, X => SemW P S (k P) h δ Q X
  | .mark m k, h, δ, Q, X => (∀ a, m ≠ .read a) ∧ (∀ a, m ≠ .write a) ∧ SemW P S k h (markd m δ) Q X
  | .halt (.panic v), h, δ, _, X => X v h δ
  | .halt _, _, _, _, _ => False

/-- What a step of the goroutine's own may list. -/
def EvOk (S : Addr → Prop) (e : Event) : Prop :=
  (∀ a, e.loc = .cell a → e.write = true → ¬ S a) ∧ (∀ a, e.loc ≠ .mark (.read a)) ∧ (∀ a, e.loc ≠ .mark (.write a)) ∧ (∀ r, e.loc = .obj r → e.write = true → e.sync = false) ∧ e.loc ≠ .output ∧ e.loc ≠ .goroutines ∧ (∀ m, e.loc = .mark m → e.sync = true)

/-- What a step of the goroutine's own may do to the heap. -/
structure HpOk (S : Addr → Prop) (h h' : Hp) : Prop where
  still : ∀ (a : Addr) (v : Value), S a → hcell h a = some v → hcell h' a = some v
  chan : ∀ (r : Nat) (o : Obj), h[r]? = some o → o.isChan = true → h'[r]? = some o
  size : h.size ≤ h'.size
  froz : ∀ a : Addr, hfroz h' a = hfroz h a

theorem HpOk.refl (S : Addr → Prop) (h : Hp) : HpOk S h h := ⟨fun _ _ _ x => x, fun _ _ x _ => x, Nat.le_refl _, fun _ => rfl⟩
theorem HpOk.trans {S : Addr → Prop} {a b c : Hp} (x : HpOk S a b) (y : HpOk S b c) : HpOk S a c :=
  ⟨fun l v hl hv => y.still l v hl (x.still l v hl hv), fun r o h1 h2 => y.chan r o (x.chan r o h1 h2) h2, Nat.le_trans x.size y.size, fun a => (y.froz a).trans (x.froz a)⟩

structure Same (w w' : World) : Prop where
  tape : w'.tape = w.tape
  os : w'.os = w.os
  output : w'.output = w.output

theorem Same.refl (w : World) : Same w w := ⟨rfl, rfl, rfl⟩
theorem Same.trans {a b c : World} (x : Same a b) (y : Same b c) : Same a c := ⟨y.tape.trans x.tape, y.os.trans x.os, y.output.trans x.output⟩

theorem hset_size (h : Hp) (a : Addr) (v : Value) : (hset h a v).size = h.size := by simp [hset]

theorem hset_get (h : Hp) (a : Addr) (v : Value) (r : Nat) : (hset h a v)[r]? = if a.block = r then (h[r]?).map (fun
    | .cells c elem frozen => .cells (if a.spot.isSome then c else c.setIfInBounds a.off v) elem frozen
    | o => o) else h[r]? := by
  simp only [hset, Array.getElem?_modify]

theorem hset_ne (h : Hp) (a : Addr) (v : Value) {r : Nat} (hr : a.block ≠ r) : (hset h a v)[r]? = h[r]? := by
  rw [hset_get, if_neg hr]

theorem hset_same (h : Hp) (a : Addr) (v : Value) {c : Array Value} {e : TypeId} {f : Nat × Nat} (hb : h[a.block]? = some (.cells c e f)) (hs : a.spot = none) :
    (hset h a v)[a.block]? = some (.cells (c.setIfInBounds a.off v) e f) := by
  rw [hset_get, if_pos rfl, hb]; simp [hs]

theorem hcell_some {h : Hp} {a : Addr} {v : Value} (hc : hcell h a = some v) : ∃ c e f, h[a.block]? = some (.cells c e f) ∧ a.spot = none ∧ c[a.off]? = some v := by
  unfold hcell at hc
  split at hc
  · rename_i c e f hb
    split at hc
    · cases hc
    · rename_i hs
      exact ⟨c, e, f, hb, by simpa using hs, hc⟩
  · cases hc

theorem hcell_of {h : Hp} {b off : Nat} {v : Value} {c : Array Value} {e : TypeId} {f : Nat × Nat} (hb : h[b]? = some (.cells c e f)) (hv : c[off]? = some v) : hcell h ⟨b, off, none⟩ = some v := by
  simp [hcell, hb, hv]

theorem hfroz_of {h : Hp} {b off : Nat} {c : Array Value} {e : TypeId} (hb : h[b]? = some (.cells c e (0, 0))) : hfroz h ⟨b, off, none⟩ = false := by
  simp [hfroz, hb]

theorem hset_cell_ne (h : Hp) (a b : Addr) (v : Value) (hne : a ≠ b) (ho : ∃ o, hcell h a = some o) : hcell (hset h a v) b = hcell h b := by
  obtain ⟨o, ho⟩ := ho
  obtain ⟨c, e, f, hb, hs, hv⟩ := hcell_some ho
  by_cases hbl : a.block = b.block
  · unfold hcell
    rw [← hbl, hset_same h a v hb hs, hb]
    dsimp only
    split
    · rfl
    · rename_i hbs
      have hoff : a.off ≠ b.off := by
        intro e
        apply hne
        cases a; cases b
        simp_all
      exact Array.getElem?_setIfInBounds_ne hoff
  · unfold hcell
    rw [hset_ne h a v hbl]

theorem hfroz_hset (h : Hp) (a b : Addr) (v : Value) : hfroz (hset h a v) b = hfroz h b := by
  unfold hfroz
  rw [hset_get]
  by_cases e : a.block = b.block
  · rw [if_pos e]
    cases h[b.block]? with
    | none => rfl
    | some o => cases o <;> rfl
  · rw [if_neg e]

theorem HpOk.hset {S : Addr → Prop} {h : Hp} {a : Addr} {v : Value} (hc : ∃ o, hcell h a = some o) (hS : ¬ S a) : HpOk S h (hset h a v) := by
  refine ⟨fun b x hb hx => (hset_cell_ne h a b v (fun e => hS (e ▸ hb)) hc).trans hx, fun r o hr ho => ?_, by rw [hset_size]; exact Nat.le_refl _, fun q => hfroz_hset h a q v⟩
  obtain ⟨x, hx⟩ := hc
  obtain ⟨c, e, f, hb, hs, hv⟩ := hcell_some hx
  by_cases hbl : a.block = r
  · subst hbl
    rw [hb] at hr
    cases hr
    cases ho
  · rw [hset_ne h a v hbl, hr]

theorem get_push {h : Hp} {r : Nat} {x : Obj} (o : Obj) (hr : h[r]? = some x) : (h.push o)[r]? = some x := by
  have : r < h.size := by
    rcases Nat.lt_or_ge r h.size with y | y
    · exact y
    · simp [Array.getElem?_eq_none y] at hr
  rw [Array.getElem?_push_lt this, ← Array.getElem?_eq_getElem this, hr]

theorem thawed {c : Array Value} {e : TypeId} : Thawed (.cells c e (0, 0)) := by
  intro _ _ _ h; cases h; rfl
theorem hfroz_push {h : Hp} {o : Obj} (ho : Thawed o) (a : Addr) : hfroz (h.push o) a = hfroz h a := by
  unfold hfroz
  rcases Nat.lt_trichotomy a.block h.size with x | x | x
  · rw [Array.getElem?_push_lt x, Array.getElem?_eq_getElem x]
  · rw [x]
    simp only [Array.getElem?_push_size, Array.getElem?_eq_none (Nat.le_refl _)]
    cases o with
    | cells c e f => have := ho c e f rfl; subst this; simp
    | _ => rfl
  · rw [Array.getElem?_eq_none (by simp; omega), Array.getElem?_eq_none (by omega)]
theorem HpOk.push {S : Addr → Prop} {h : Hp} (o : Obj) (ho : Thawed o) : HpOk S h (h.push o) := by
  refine ⟨fun a v _ hv => ?_, fun r x hr hx => get_push o hr, by simp, hfroz_push ho⟩
  obtain ⟨c, e, f, hb, hs, hc⟩ := hcell_some hv
  unfold hcell
  rw [get_push o hb]
  simp [hs, hc]

theorem HpOk.setObj {S : Addr → Prop} {h : Hp} {r : Nat} {o o' : Obj} (hr : h[r]? = some o') (hc : ∀ c e f, o' ≠ .cells c e f) (hn : o'.isChan = false) (hk : ∀ c e f, o ≠ .cells c e f) : HpOk S h (h.setIfInBounds r o) := by
  have hlt : r < h.size := by
    rcases Nat.lt_or_ge r h.size with x | x
    · exact x
    · simp [Array.getElem?_eq_none x] at hr
  refine ⟨fun a v _ hv => hv ▸ ?_, fun q x hq hx => ?_, by simp, fun a => ?_⟩
  rotate_left
  rotate_left
  · unfold hfroz
    by_cases e : r = a.block
    · subst e
      rw [Array.getElem?_setIfInBounds_self_of_lt hlt, hr]
      cases o <;> cases o' <;> first | rfl | exact absurd rfl (hc _ _ _) | exact absurd rfl (hk _ _ _)
    · rw [Array.getElem?_setIfInBounds_ne e]
  · unfold hcell
    by_cases e : r = a.block
    · subst e
      rw [Array.getElem?_setIfInBounds_self_of_lt hlt, hr]
      cases o <;> cases o' <;> first | rfl | exact absurd rfl (hc _ _ _) | exact absurd rfl (hk _ _ _)
    · rw [Array.getElem?_setIfInBounds_ne e]
  · by_cases e : r = q
    · subst e
      rw [hr] at hq
      cases hq
      rw [hn] at hx
      cases hx
    · rw [Array.getElem?_setIfInBounds_ne e, hq]

theorem semW_bind {Γ : Type} {P : Program} {S : Sit Γ} {α β : Type} (s : Sem α) (f : α → Sem β) : ∀ (h : Hp) (δ : Ix Γ) (Q : β → Hp → Ix Γ → Prop) (X : Value → Hp → Ix Γ → Prop),
    SemW P S s h δ (fun a h' δ' => SemW P S (f a) h' δ' Q X) X → SemW P S (s.bind f) h δ Q X := by
  induction s with
  | pure a => intro h δ Q X hs; exact hs
  | load m a k ih => intro h δ Q X ⟨v, hv, hs⟩; exact ⟨v, hv, ih v _ _ _ _ hs⟩
  | store m a v k ih => intro h δ Q X ⟨h1, h2, h3, h4, h5, hs⟩; exact ⟨h1, h2, h3, h4, h5, ih _ _ _ _ hs⟩
  | new o k ih => intro h δ Q X hs; exact ⟨hs.1, ih _ _ _ _ _ hs.2⟩
  | shape r k ih => intro h δ Q X hs; exact ih _ _ _ _ _ hs
  | freeze a n k ih => intro h δ Q X hs; exact hs.elim
  | frozen a k ih => intro h δ Q X hs; exact ih _ _ _ _ _ hs
  | getObj r k ih => intro h δ Q X ⟨o, h1, h2, hs⟩; exact ⟨o, h1, h2, ih _ _ _ _ _ hs⟩
  | setObj r o k ih => intro h δ Q X ⟨h1, h2, h3, hs⟩; exact ⟨h1, h2, h3, ih _ _ _ _ hs⟩
  | choose q k ih => intro h δ Q X hs n hn; exact ih _ _ _ _ _ (hs n hn)
  | sys c k ih => intro h δ Q X hs; exact hs.elim
  | program k ih => intro h δ Q X hs; exact ih _ _ _ _ _ hs
  | mark m k ih => intro h δ Q X ⟨h1, h2, hs⟩; exact ⟨h1, h2, ih _ _ _ _ hs⟩
  | halt x =>
    intro h δ Q X hs
    cases x <;> first | exact hs | exact hs.elim

theorem semW_mono {Γ : Type} {P : Program} {S : Sit Γ} {α : Type} (s : Sem α) : ∀ (h : Hp) (δ : Ix Γ) {Q Q' : α → Hp → Ix Γ → Prop} {X X' : Value → Hp → Ix Γ → Prop},
    SemW P S s h δ Q X → (∀ a h δ, Q a h δ → Q' a h δ) → (∀ v h δ, X v h δ → X' v h δ) → SemW P S s h δ Q' X' := by
  induction s with
  | pure a => intro h δ Q Q' X X' hs hq _; exact hq _ _ _ hs
  | load m a k ih => intro h δ Q Q' X X' ⟨v, hv, hs⟩ hq hx; exact ⟨v, hv, ih v _ _ hs hq hx⟩
  | store m a v k ih => intro h δ Q Q' X X' ⟨h1, h2, h3, h4, h5, hs⟩ hq hx; exact ⟨h1, h2, h3, h4, h5, ih _ _ hs hq hx⟩
  | new o k ih => intro h δ Q Q' X X' hs hq hx; exact ⟨hs.1, ih _ _ _ hs.2 hq hx⟩
  | shape r k ih => intro h δ Q Q' X X' hs hq hx; exact ih _ _ _ hs hq hx
  | freeze a n k ih => intro h δ Q Q' X X' hs; exact hs.elim
  | frozen a k ih => intro h δ Q Q' X X' hs hq hx; exact ih _ _ _ hs hq hx
  | getObj r k ih => intro h δ Q Q' X X' ⟨o, h1, h2, hs⟩ hq hx; exact ⟨o, h1, h2, ih _ _ _ hs hq hx⟩
  | setObj r o k ih => intro h δ Q Q' X X' ⟨h1, h2, h3, hs⟩ hq hx; exact ⟨h1, h2, h3, ih _ _ hs hq hx⟩
  | choose q k ih => intro h δ Q Q' X X' hs hq hx n hn; exact ih _ _ _ (hs n hn) hq hx
  | sys c k ih => intro h δ Q Q' X X' hs; exact hs.elim
  | program k ih => intro h δ Q Q' X X' hs hq hx; exact ih _ _ _ hs hq hx
  | mark m k ih => intro h δ Q Q' X X' ⟨h1, h2, hs⟩ hq hx; exact ⟨h1, h2, ih _ _ hs hq hx⟩
  | halt x =>
    intro h δ Q Q' X X' hs hq hx
    cases x <;> first | exact hs.elim | exact hx _ _ _ hs

theorem deafBehind_nil' (δ : Nat) : deafBehind δ #[] = δ := by simp [deafBehind]
theorem deafI_nil {Γ : Type} (δ : Ix Γ) : deafI δ #[] = δ := by simp [deafI, deafBehind_nil']

theorem deafBehind_app (δ : Nat) (a b : Array Event) : deafBehind δ (a ++ b) = deafBehind (deafBehind δ a) b := by
  simp [deafBehind]
theorem deafI_app {Γ : Type} (δ : Ix Γ) (a b : Array Event) : deafI δ (a ++ b) = deafI (deafI δ a) b := by
  simp [deafI, deafBehind_app]

theorem deafI_cell {Γ : Type} (δ : Ix Γ) (a : Addr) (wr sy : Bool) : deafI δ #[⟨.cell a, wr, sy⟩] = δ := by simp [deafI, deafBehind]
theorem deafI_obj {Γ : Type} (δ : Ix Γ) (r : Nat) (wr sy : Bool) : deafI δ #[⟨.obj r, wr, sy⟩] = δ := by simp [deafI, deafBehind]
theorem deafI_mark {Γ : Type} (δ : Ix Γ) (m : Mark) : deafI δ #[⟨.mark m, false, true⟩] = markd m δ := by cases m <;> simp [deafI, deafBehind, markd, markN]

/-- What is known of a run that goes well. -/
def Ran {Γ : Type} (S : Sit Γ) {α : Type} (Q : α → Hp → Ix Γ → Prop) (X : Value → Hp → Ix Γ → Prop) (h : Hp) (δ : Ix Γ) (w : World) (es : Array Event) : Result α → Prop
  | .ok a w' => Same w w' ∧ HpOk (S.still δ.g) h w'.heap ∧ Q a w'.heap (deafI δ es)
  | .halt (.panic v) w' => Same w w' ∧ HpOk (S.still δ.g) h w'.heap ∧ X v w'.heap (deafI δ es)
  | _ => False

theorem Ran.later {Γ : Type} {S : Sit Γ} {α : Type} {Q : α → Hp → Ix Γ → Prop} {X : Value → Hp → Ix Γ → Prop} {h h1 : Hp} {δ : Ix Γ} {w w1 : World} {es1 es : Array Event} {r : Result α}
    (hs : Same w w1) (hh : HpOk (S.still δ.g) h h1) (hr : Ran S Q X h1 (deafI δ es1) w1 es r) : Ran S Q X h δ w (es1 ++ es) r := by
  unfold Ran at *
  split
  · obtain ⟨a, b, c⟩ := hr
    exact ⟨hs.trans a, hh.trans b, by rw [deafI_app]; exact c⟩
  · obtain ⟨a, b, c⟩ := hr
    exact ⟨hs.trans a, hh.trans b, by rw [deafI_app]; exact c⟩
  · split at hr <;> simp_all

theorem semW_sound {Γ : Type} {P : Program} {S : Sit Γ} {α : Type} (s : Sem α) : ∀ (h : Hp) (δ : Ix Γ) (Q : α → Hp → Ix Γ → Prop) (X : Value → Hp → Ix Γ → Prop), SemW P S s h δ Q X →
    ∀ (w : World), w.heap = h → ∀ es0, ∃ es r, s.runT P w es0 = (r, es0 ++ es) ∧ (∀ e ∈ es, EvOk (S.still δ.g) e) ∧ Ran S Q X h δ w es r := by
  induction s with
  | pure a =>
    intro h δ Q X hs w hw es0
    subst hw
    exact ⟨#[], .ok a w, by simp [Sem.runT], by simp, Same.refl _, HpOk.refl _ _, by rw [deafI_nil]; exact hs⟩
  | load m a k ih =>
    intro h δ Q X ⟨v, hv, hs⟩ w hw es0
    subst hw
    have hc : w.cell? a = some v := hv
    obtain ⟨es, r, h1, h2, h3⟩ := ih v _ δ Q X hs w rfl (es0.push ⟨.cell a, false, m == .atomic⟩)
    refine ⟨#[⟨.cell a, false, m == .atomic⟩] ++ es, r, by simp only [Sem.runT, hc]; rw [h1, Array.push_eq_append, Array.append_assoc], fun e he => ?_, ?_⟩
    · rcases Array.mem_append.1 he with he | he
      · simp at he; subst he; simp [EvOk]
      · exact h2 e he
    · exact Ran.later (Same.refl _) (HpOk.refl _ _) (by rw [deafI_cell]; exact h3)
  | store m a v k ih =>
    intro h δ Q X ⟨h1, h2, h3, h4, h5, hs⟩ w hw es0
    subst hw
    obtain ⟨o, ho⟩ := h3
    have hc : w.cell? a = some o := ho
    have hf : w.frozen? a = false := h4
    obtain ⟨es, r, g1, g2, g3⟩ := ih _ δ Q X hs (w.setCell a v) rfl (es0.push ⟨.cell a, true, m == .atomic⟩)
    refine ⟨#[⟨.cell a, true, m == .atomic⟩] ++ es, r, ?_, fun e he => ?_, ?_⟩
    · have : (Sem.store m a v k).runT P w es0 = k.runT P (w.setCell a v) (es0.push ⟨.cell a, true, m == .atomic⟩) := by
        cases v <;> first | exact absurd rfl (h1 _) | exact absurd rfl (h2 _) | simp only [Sem.runT, hc, hf, Bool.false_eq_true, if_false]
      rw [this, g1, Array.push_eq_append, Array.append_assoc]
    · rcases Array.mem_append.1 he with he | he
      · simp at he; subst he; simp [EvOk, h5]
      · exact g2 e he
    · exact Ran.later (w1 := w.setCell a v) ⟨rfl, rfl, rfl⟩ (HpOk.hset ⟨o, ho⟩ h5) (by rw [deafI_cell]; exact g3)
  | new o k ih =>
    intro h δ Q X hs w hw es0
    subst hw
    obtain ⟨es, r, g1, g2, g3⟩ := ih w.heap.size _ δ Q X hs.2 { w with heap := w.heap.push o } rfl es0
    refine ⟨es, r, by simp only [Sem.runT]; exact g1, g2, ?_⟩
    have := Ran.later (es1 := #[]) (δ := δ) (⟨rfl, rfl, rfl⟩ : Same w { w with heap := w.heap.push o }) (HpOk.push (S := S.still δ.g) o hs.1) (by rw [deafI_nil]; exact g3)
    simpa using this
  | shape r k ih =>
    intro h δ Q X hs w hw es0
    subst hw
    obtain ⟨es, r', g1, g2, g3⟩ := ih (w.shape? r) _ δ Q X hs w rfl es0
    exact ⟨es, r', by simp only [Sem.runT]; exact g1, g2, g3⟩
  | freeze a n k ih => intro h δ Q X hs; exact hs.elim
  | frozen a k ih =>
    intro h δ Q X hs w hw es0
    subst hw
    obtain ⟨es, r', g1, g2, g3⟩ := ih (w.frozen? a) _ δ Q X hs w rfl es0
    exact ⟨es, r', by simp only [Sem.runT]; exact g1, g2, g3⟩
  | getObj r k ih =>
    intro h δ Q X ⟨o, h1, h2, hs⟩ w hw es0
    subst hw
    obtain ⟨es, r', g1, g2, g3⟩ := ih o _ δ Q X hs w rfl (es0.push ⟨.obj r, false, o.isChan⟩)
    refine ⟨#[⟨.obj r, false, o.isChan⟩] ++ es, r', ?_, fun e he => ?_, ?_⟩
    · have : (Sem.getObj r k).runT P w es0 = (k o).runT P w (es0.push ⟨.obj r, false, o.isChan⟩) := by
        cases o <;> first | exact absurd rfl (h2 _ _ _) | simp only [Sem.runT, h1]
      rw [this, g1, Array.push_eq_append, Array.append_assoc]
    · rcases Array.mem_append.1 he with he | he
      · simp at he; subst he; simp [EvOk]
      · exact g2 e he
    · exact Ran.later (Same.refl _) (HpOk.refl _ _) (by rw [deafI_obj]; exact g3)
  | setObj r o k ih =>
    intro h δ Q X ⟨h1, hk, ⟨o', h2, h3, h4⟩, hs⟩ w hw es0
    subst hw
    obtain ⟨es, r', g1, g2, g3⟩ := ih _ δ Q X hs { w with heap := w.heap.setIfInBounds r o } rfl (es0.push ⟨.obj r, true, o.isChan⟩)
    refine ⟨#[⟨.obj r, true, o.isChan⟩] ++ es, r', ?_, fun e he => ?_, ?_⟩
    · have : (Sem.setObj r o k).runT P w es0 = k.runT P { w with heap := w.heap.setIfInBounds r o } (es0.push ⟨.obj r, true, o.isChan⟩) := by
        cases o' <;> first | exact absurd rfl (h3 _ _ _) | simp only [Sem.runT, h2]
      rw [this, g1, Array.push_eq_append, Array.append_assoc]
    · rcases Array.mem_append.1 he with he | he
      · simp at he; subst he; simp [EvOk, h1]
      · exact g2 e he
    · exact Ran.later (w1 := { w with heap := w.heap.setIfInBounds r o }) ⟨rfl, rfl, rfl⟩ (HpOk.setObj h2 h3 h4 hk) (by rw [deafI_obj]; exact g3)
  | choose q k ih =>
    intro h δ Q X hs w hw es0
    subst hw
    by_cases hf : q.forced = true
    · obtain ⟨es, r, g1, g2, g3⟩ := ih 0 _ δ Q X (hs 0 (.inl ⟨hf, rfl⟩)) w rfl es0
      exact ⟨es, r, by simp only [Sem.runT, hf, if_true]; exact g1, g2, g3⟩
    · have hf' : q.forced = false := by simpa using hf
      obtain ⟨es, r, g1, g2, g3⟩ := ih (q.cut (w.tape w.drawn q)) _ δ Q X (hs _ (.inr ⟨hf', _, rfl⟩)) { w with drawn := w.drawn + 1 } rfl es0
      refine ⟨es, r, by simp only [Sem.runT, hf', Bool.false_eq_true, if_false]; exact g1, g2, ?_⟩
      have := Ran.later (es1 := #[]) (δ := δ) (⟨rfl, rfl, rfl⟩ : Same w { w with drawn := w.drawn + 1 }) (HpOk.refl (S.still δ.g) w.heap) (by rw [deafI_nil]; exact g3)
      simpa using this
  | sys c k ih => intro h δ Q X hs; exact hs.elim
  | program k ih =>
    intro h δ Q X hs w hw es0
    subst hw
    obtain ⟨es, r', g1, g2, g3⟩ := ih P _ δ Q X hs w rfl es0
    exact ⟨es, r', by simp only [Sem.runT]; exact g1, g2, g3⟩
  | mark m k ih =>
    intro h δ Q X ⟨h1, h2, hs⟩ w hw es0
    subst hw
    obtain ⟨es, r', g1, g2, g3⟩ := ih _ (markd m δ) Q X hs w rfl (es0.push ⟨.mark m, false, true⟩)
    refine ⟨#[⟨.mark m, false, true⟩] ++ es, r', by simp only [Sem.runT]; rw [g1, Array.push_eq_append, Array.append_assoc], fun e he => ?_, ?_⟩
    · rcases Array.mem_append.1 he with he | he
      · simp at he; subst he
        exact ⟨by simp, fun a => by simpa using h1 a, fun a => by simpa using h2 a, by simp, by simp, by simp, by simp⟩
      · exact g2 e he
    · exact Ran.later (Same.refl _) (HpOk.refl _ _) (by rw [deafI_mark]; exact g3)
  | halt x =>
    intro h δ Q X hs w hw es0
    subst hw
    refine ⟨#[], .halt x w, by simp [Sem.runT], by simp, ?_⟩
    cases x <;> first | exact hs.elim | exact ⟨Same.refl _, HpOk.refl _ _, by rw [deafI_nil]; exact hs⟩

theorem hset_hset (h : Hp) (a : Addr) (v w : Value) : hset (hset h a v) a w = hset h a w := by
  apply Array.ext_getElem?
  intro i
  rw [hset_get, hset_get, hset_get]
  by_cases e : a.block = i
  · simp only [if_pos e]
    cases h[i]? with
    | none => rfl
    | some o =>
      cases o <;> simp
      split <;> simp
  · simp only [if_neg e]

theorem hset_self {h : Hp} {a : Addr} {v : Value} (hc : hcell h a = some v) : hset h a v = h := by
  obtain ⟨c, e, f, hb, hs, hv⟩ := hcell_some hc
  apply Array.ext_getElem?
  intro i
  rw [hset_get]
  by_cases e : a.block = i
  · subst e
    rw [if_pos rfl, hb]
    simp only [hs, Option.map_some, Option.isSome_none, Bool.false_eq_true, if_false]
    congr 2
    apply Array.ext_getElem?
    intro j
    by_cases e : a.off = j
    · subst e
      have : a.off < c.size := by
        rcases Nat.lt_or_ge a.off c.size with y | y
        · exact y
        · simp [Array.getElem?_eq_none y] at hv
      rw [Array.getElem?_setIfInBounds_self_of_lt this, hv]
    · rw [Array.getElem?_setIfInBounds_ne e]
  · rw [if_neg e]

theorem hcell_hset_same {h : Hp} {a : Addr} {u v : Value} (hc : hcell h a = some u) : hcell (hset h a v) a = some v := by
  obtain ⟨c, e, f, hb, hs, hv⟩ := hcell_some hc
  have hlt : a.off < c.size := by
    rcases Nat.lt_or_ge a.off c.size with y | y
    · exact y
    · simp [Array.getElem?_eq_none y] at hv
  unfold hcell
  rw [hset_same h a v hb hs]
  simp [hs, hlt]
end Go.TJ
