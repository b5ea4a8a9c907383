/- Steps of the walk and of the plain law (TjCore to TjA). Conditions: as each lemma says. -/
import Derived.Conc.Own
import Derived.Conc.Deaf
import Derived.Tactics
import Derived.Conc.CompanyCalls
import Derived.OrdersHeld
import Derived.Test.YtndllibjlfpndaaProg
import Derived.KernelRfl
import Derived.Laws.Append
set_option linter.unusedSectionVars false
set_option linter.unusedVariables false
set_option linter.unusedSimpArgs false
namespace Go.TJ
section
open Go Go.Conc
abbrev Hp := Array Obj
def hcell (h : Hp) (a : Addr) : Option Value :=
  match h[a.block]? with
  | some (.cells c _ _) => if a.spot.isSome then none else c[a.off]?
  | _ => none
def hfroz (h : Hp) (a : Addr) : Bool :=
  match h[a.block]? with
  | some (.cells _ _ (lo, hi)) => lo <= a.off && a.off < hi
  | _ => false
def hset (h : Hp) (a : Addr) (v : Value) : Hp := h.modify a.block fun
  | .cells c elem frozen => .cells (if a.spot.isSome then c else c.setIfInBounds a.off v) elem frozen
  | o => o
def hshape (h : Hp) (r : Nat) : Option (TypeId × Nat) :=
  match h[r]? with
  | some (.cells c elem _) => some (elem, c.size)
  | _ => none
theorem frozen?_eq (w : World) (a : Addr) : w.frozen? a = hfroz w.heap a := rfl
theorem shape?_eq (w : World) (r : Nat) : w.shape? r = hshape w.heap r := rfl
class Dm where
  n : TypeId
variable [Dm]
def dum : Obj := .cells #[] Dm.n (0, 0)
def Pres (h : Hp) (b : Nat) : Prop := ∃ o, h[b]? = some o /\ o ≠ dum
structure Part (L : Prop) (h H : Hp) : Prop where
  get : ∀ (b : Nat) (o : Obj), h[b]? = some o -> o ≠ dum -> H[b]? = some o
  size : h.size <= H.size
  same : L -> h.size = H.size
theorem Part.weak {L : Prop} {h H : Hp} (x : Part L h H) : Part False h H := ⟨x.get, x.size, fun z => z.elim⟩
theorem pres_of {h : Hp} {b : Nat} {o : Obj} (hb : h[b]? = some o) (ho : o ≠ dum) : Pres h b := ⟨o, hb, ho⟩
theorem ne_dum {c : Array Value} {e : TypeId} {f : Nat × Nat} {i : Nat} {v : Value} (hv : c[i]? = some v) : Obj.cells c e f ≠ dum := by
  intro x
  unfold dum at x
  injection x with x _ _
  subst x
  simp at hv
theorem Pres.lt {h : Hp} {b : Nat} (x : Pres h b) : b < h.size := by
  obtain ⟨o, hb, -⟩ := x
  exact (Array.getElem?_eq_some_iff.1 hb).1
structure Ix (Γ : Type) where
  d : Nat
  g : Γ
structure Sit (Γ : Type) where
  still : Γ -> Addr -> Prop
  lone : Γ -> Prop
  dull : Γ -> Prop
  yld : Goroutine -> Hp -> Ix Γ -> (Goroutine -> Hp -> Ix Γ -> Prop) -> Prop
def markN (m : Mark) (d : Nat) : Nat :=
  match m with
  | .disable => d + 1
  | .enable => d - 1
  | _ => d
def markd {Γ : Type} (m : Mark) (δ : Ix Γ) : Ix Γ := ⟨markN m δ.d, δ.g⟩
def deafI {Γ : Type} (δ : Ix Γ) (es : Array Event) : Ix Γ := ⟨deafBehind δ.d es, δ.g⟩
def Thawed (o : Obj) : Prop := ∀ c e f, o = .cells c e f -> f = (0, 0)
def SemW {Γ : Type} (P : Program) (S : Sit Γ) {α : Type} : Sem α -> Hp -> Ix Γ -> (α -> Hp -> Ix Γ -> Prop) -> (Value -> Hp -> Ix Γ -> Prop) -> Prop
  | .pure a, h, δ, Q, _ => Q a h δ
  | .load _ a k, h, δ, Q, X => ∃ v, hcell h a = some v /\ SemW P S (k v) h δ Q X
  | .store _ a v k, h, δ, Q, X => (∀ c, v ≠ .agg c) /\ (∀ c, v ≠ .tuple c) /\ (∃ o, hcell h a = some o) /\ hfroz h a = false /\ ¬ S.still δ.g a /\ SemW P S k (hset h a v) δ Q X
  | .new o k, h, δ, Q, X => (S.lone δ.g /\ Thawed o) /\ SemW P S (k h.size) (h.push o) δ Q X
  | .shape r k, h, δ, Q, X => Pres h r /\ SemW P S (k (hshape h r)) h δ Q X
  | .freeze _ _ _, _, _, _, _ => False
  | .frozen a k, h, δ, Q, X => Pres h a.block /\ SemW P S (k (hfroz h a)) h δ Q X
  | .getObj r k, h, δ, Q, X => ∃ o, h[r]? = some o /\ (∀ c e f, o ≠ .cells c e f) /\ SemW P S (k o) h δ Q X
  | .setObj r o k, h, δ, Q, X => (o.isChan = false /\ ¬ S.still δ.g ⟨r, 0, none⟩) /\ (∀ c e f, o ≠ .cells c e f) /\ (∃ o', h[r]? = some o' /\ (∀ c e f, o' ≠ .cells c e f) /\ o'.isChan = false) /\ SemW P S k (h.setIfInBounds r o) δ Q X
  | .choose q k, h, δ, Q, X => ¬ S.dull δ.g /\ ∀ n, ((q.forced = true /\ n = 0) \/ (q.forced = false /\ ∃ t, n = q.cut t)) -> SemW P S (k n) h δ Q X
  | .sys _ _, _, _, _, _ => False
  | .program k, h, δ, Q, X => SemW P S (k P) h δ Q X
  | .mark m k, h, δ, Q, X => ((∀ a, m ≠ .read a) /\ (∀ a, m ≠ .write a) /\ (∀ a, m ≠ .release a) /\ (S.dull δ.g -> m = .disable \/ m = .enable \/ ∃ f, m = .extern f)) /\ SemW P S k h (markd m δ) Q X
  | .halt (.panic v), h, δ, _, X => X v h δ
  | .halt _, _, _, _, _ => False
def EvOk (S : Addr -> Prop) (e : Event) : Prop :=
  (∀ a, e.loc = .cell a -> e.write = true -> ¬ S a) /\ (∀ a, e.loc ≠ .mark (.read a)) /\ (∀ a, e.loc ≠ .mark (.write a)) /\ (∀ r, e.loc = .obj r -> e.write = true -> e.sync = false /\ ¬ S ⟨r, 0, none⟩) /\ e.loc ≠ .output /\ e.loc ≠ .goroutines /\ (∀ m, e.loc = .mark m -> e.sync = true) /\ ∀ a, e.loc ≠ .mark (.release a)
structure HpOk (S : Addr -> Prop) (h h' : Hp) : Prop where
  still : ∀ (a : Addr) (v : Value), S a -> hcell h a = some v -> hcell h' a = some v
  chan : ∀ (r : Nat) (o : Obj), h[r]? = some o -> o.isChan = true -> h'[r]? = some o
  size : h.size <= h'.size
  froz : ∀ a : Addr, hfroz h' a = hfroz h a
theorem HpOk.refl (S : Addr -> Prop) (h : Hp) : HpOk S h h := ⟨fun _ _ _ x => x, fun _ _ x _ => x, Nat.le_refl _, fun _ => rfl⟩
theorem HpOk.trans {S : Addr -> Prop} {a b c : Hp} (x : HpOk S a b) (y : HpOk S b c) : HpOk S a c :=
  ⟨fun l v hl hv => y.still l v hl (x.still l v hl hv), fun r o h1 h2 => y.chan r o (x.chan r o h1 h2) h2, Nat.le_trans x.size y.size, fun a => (y.froz a).trans (x.froz a)⟩
theorem HpOk.anti {S S' : Addr -> Prop} {h h' : Hp} (x : HpOk S h h') (hs : ∀ l, S' l -> S l) : HpOk S' h h' := ⟨fun a v hl hv => x.still a v (hs a hl) hv, x.chan, x.size, x.froz⟩
theorem EvOk.anti {S S' : Addr -> Prop} {e : Event} (x : EvOk S e) (hs : ∀ l, S' l -> S l) : EvOk S' e := ⟨fun a ha hw hl => x.1 a ha hw (hs a hl), x.2.1, x.2.2.1, fun r hr hw => ⟨(x.2.2.2.1 r hr hw).1, fun hl => (x.2.2.2.1 r hr hw).2 (hs _ hl)⟩, x.2.2.2.2⟩
structure Same (w w' : World) : Prop where
  tape : w'.tape = w.tape
  os : w'.os = w.os
  output : w'.output = w.output
theorem Same.refl (w : World) : Same w w := ⟨rfl, rfl, rfl⟩
theorem Same.trans {a b c : World} (x : Same a b) (y : Same b c) : Same a c := ⟨y.tape.trans x.tape, y.os.trans x.os, y.output.trans x.output⟩
theorem hset_size (h : Hp) (a : Addr) (v : Value) : (hset h a v).size = h.size := by simp [hset]
theorem hset_get (h : Hp) (a : Addr) (v : Value) (r : Nat) : (hset h a v)[r]? = if a.block = r then (h[r]?).map (fun
    | .cells c elem frozen => .cells (if a.spot.isSome then c else c.setIfInBounds a.off v) elem frozen
    | o => o) else h[r]? := by
  simp only [hset, Array.getElem?_modify]
theorem hset_ne (h : Hp) (a : Addr) (v : Value) {r : Nat} (hr : a.block ≠ r) : (hset h a v)[r]? = h[r]? := by
  rw [hset_get, if_neg hr]
theorem hset_same (h : Hp) (a : Addr) (v : Value) {c : Array Value} {e : TypeId} {f : Nat × Nat} (hb : h[a.block]? = some (.cells c e f)) (hs : a.spot = none) :
    (hset h a v)[a.block]? = some (.cells (c.setIfInBounds a.off v) e f) := by
  rw [hset_get, if_pos rfl, hb]; simp [hs]
theorem hcell_some {h : Hp} {a : Addr} {v : Value} (hc : hcell h a = some v) : ∃ c e f, h[a.block]? = some (.cells c e f) /\ a.spot = none /\ c[a.off]? = some v := by
  unfold hcell at hc
  split at hc
  · rename_i c e f hb
    split at hc
    · cases hc
    · rename_i hs
      exact ⟨c, e, f, hb, by simpa using hs, hc⟩
  · cases hc
theorem hcell_of {h : Hp} {b off : Nat} {v : Value} {c : Array Value} {e : TypeId} {f : Nat × Nat} (hb : h[b]? = some (.cells c e f)) (hv : c[off]? = some v) : hcell h ⟨b, off, none⟩ = some v := by
  simp [hcell, hb, hv]
theorem hfroz_of {h : Hp} {b off : Nat} {c : Array Value} {e : TypeId} (hb : h[b]? = some (.cells c e (0, 0))) : hfroz h ⟨b, off, none⟩ = false := by
  simp [hfroz, hb]
theorem hset_cell_ne (h : Hp) (a b : Addr) (v : Value) (hne : a ≠ b) (ho : ∃ o, hcell h a = some o) : hcell (hset h a v) b = hcell h b := by
  obtain ⟨o, ho⟩ := ho
  obtain ⟨c, e, f, hb, hs, hv⟩ := hcell_some ho
  by_cases hbl : a.block = b.block
  · unfold hcell
    rw [<- hbl, hset_same h a v hb hs, hb]
    dsimp only
    split
    · rfl
    · rename_i hbs
      have hoff : a.off ≠ b.off := by
        intro e
        apply hne
        cases a; cases b
        simp_all
      exact Array.getElem?_setIfInBounds_ne hoff
  · unfold hcell
    rw [hset_ne h a v hbl]
theorem hfroz_hset (h : Hp) (a b : Addr) (v : Value) : hfroz (hset h a v) b = hfroz h b := by
  unfold hfroz
  rw [hset_get]
  by_cases e : a.block = b.block
  · rw [if_pos e]
    cases h[b.block]? with
    | none => rfl
    | some o => cases o <;> rfl
  · rw [if_neg e]
theorem HpOk.hset {S : Addr -> Prop} {h : Hp} {a : Addr} {v : Value} (hc : ∃ o, hcell h a = some o) (hS : ¬ S a) : HpOk S h (hset h a v) := by
  refine ⟨fun b x hb hx => (hset_cell_ne h a b v (fun e => hS (e ▸ hb)) hc).trans hx, fun r o hr ho => ?_, by rw [hset_size]; exact Nat.le_refl _, fun q => hfroz_hset h a q v⟩
  obtain ⟨x, hx⟩ := hc
  obtain ⟨c, e, f, hb, hs, hv⟩ := hcell_some hx
  by_cases hbl : a.block = r
  · subst hbl
    rw [hb] at hr
    cases hr
    cases ho
  · rw [hset_ne h a v hbl, hr]
theorem get_push {h : Hp} {r : Nat} {x : Obj} (o : Obj) (hr : h[r]? = some x) : (h.push o)[r]? = some x := by
  have : r < h.size := by
    rcases Nat.lt_or_ge r h.size with y | y
    · exact y
    · simp [Array.getElem?_eq_none y] at hr
  rw [Array.getElem?_push_lt this, <- Array.getElem?_eq_getElem this, hr]
theorem thawed {c : Array Value} {e : TypeId} : Thawed (.cells c e (0, 0)) := by
  intro _ _ _ h; cases h; rfl
theorem hfroz_push {h : Hp} {o : Obj} (ho : Thawed o) (a : Addr) : hfroz (h.push o) a = hfroz h a := by
  unfold hfroz
  rcases Nat.lt_trichotomy a.block h.size with x | x | x
  · rw [Array.getElem?_push_lt x, Array.getElem?_eq_getElem x]
  · rw [x]
    simp only [Array.getElem?_push_size, Array.getElem?_eq_none (Nat.le_refl _)]
    cases o with
    | cells c e f => have := ho c e f rfl; subst this; simp
    | _ => rfl
  · rw [Array.getElem?_eq_none (by simp; omega), Array.getElem?_eq_none (by omega)]
theorem HpOk.push {S : Addr -> Prop} {h : Hp} (o : Obj) (ho : Thawed o) : HpOk S h (h.push o) := by
  refine ⟨fun a v _ hv => ?_, fun r x hr hx => get_push o hr, by simp, hfroz_push ho⟩
  obtain ⟨c, e, f, hb, hs, hc⟩ := hcell_some hv
  unfold hcell
  rw [get_push o hb]
  simp [hs, hc]
theorem HpOk.setObj {S : Addr -> Prop} {h : Hp} {r : Nat} {o o' : Obj} (hr : h[r]? = some o') (hc : ∀ c e f, o' ≠ .cells c e f) (hn : o'.isChan = false) (hk : ∀ c e f, o ≠ .cells c e f) : HpOk S h (h.setIfInBounds r o) := by
  have hlt : r < h.size := by
    rcases Nat.lt_or_ge r h.size with x | x
    · exact x
    · simp [Array.getElem?_eq_none x] at hr
  refine ⟨fun a v _ hv => hv ▸ ?_, fun q x hq hx => ?_, by simp, fun a => ?_⟩
  rotate_left
  rotate_left
  · unfold hfroz
    by_cases e : r = a.block
    · subst e
      rw [Array.getElem?_setIfInBounds_self_of_lt hlt, hr]
      cases o <;> cases o' <;> first | rfl | exact absurd rfl (hc _ _ _) | exact absurd rfl (hk _ _ _)
    · rw [Array.getElem?_setIfInBounds_ne e]
  · unfold hcell
    by_cases e : r = a.block
    · subst e
      rw [Array.getElem?_setIfInBounds_self_of_lt hlt, hr]
      cases o <;> cases o' <;> first | rfl | exact absurd rfl (hc _ _ _) | exact absurd rfl (hk _ _ _)
    · rw [Array.getElem?_setIfInBounds_ne e]
  · by_cases e : r = q
    · subst e
      rw [hr] at hq
      cases hq
      rw [hn] at hx
      cases hx
    · rw [Array.getElem?_setIfInBounds_ne e, hq]
theorem semW_bind {Γ : Type} {P : Program} {S : Sit Γ} {α β : Type} (s : Sem α) (f : α -> Sem β) : ∀ (h : Hp) (δ : Ix Γ) (Q : β -> Hp -> Ix Γ -> Prop) (X : Value -> Hp -> Ix Γ -> Prop),
    SemW P S s h δ (fun a h' δ' => SemW P S (f a) h' δ' Q X) X -> SemW P S (s.bind f) h δ Q X := by
  induction s with
  | pure a => intro h δ Q X hs; exact hs
  | load m a k ih => intro h δ Q X ⟨v, hv, hs⟩; exact ⟨v, hv, ih v _ _ _ _ hs⟩
  | store m a v k ih => intro h δ Q X ⟨h1, h2, h3, h4, h5, hs⟩; exact ⟨h1, h2, h3, h4, h5, ih _ _ _ _ hs⟩
  | new o k ih => intro h δ Q X hs; exact ⟨hs.1, ih _ _ _ _ _ hs.2⟩
  | shape r k ih => intro h δ Q X hs; exact ⟨hs.1, ih _ _ _ _ _ hs.2⟩
  | freeze a n k ih => intro h δ Q X hs; exact hs.elim
  | frozen a k ih => intro h δ Q X hs; exact ⟨hs.1, ih _ _ _ _ _ hs.2⟩
  | getObj r k ih => intro h δ Q X ⟨o, h1, h2, hs⟩; exact ⟨o, h1, h2, ih _ _ _ _ _ hs⟩
  | setObj r o k ih => intro h δ Q X ⟨h1, h2, h3, hs⟩; exact ⟨h1, h2, h3, ih _ _ _ _ hs⟩
  | choose q k ih => intro h δ Q X hs; exact ⟨hs.1, fun n hn => ih _ _ _ _ _ (hs.2 n hn)⟩
  | sys c k ih => intro h δ Q X hs; exact hs.elim
  | program k ih => intro h δ Q X hs; exact ih _ _ _ _ _ hs
  | mark m k ih => intro h δ Q X ⟨h1, hs⟩; exact ⟨h1, ih _ _ _ _ hs⟩
  | halt x =>
    intro h δ Q X hs
    cases x <;> first | exact hs | exact hs.elim
theorem semW_mono {Γ : Type} {P : Program} {S : Sit Γ} {α : Type} (s : Sem α) : ∀ (h : Hp) (δ : Ix Γ) {Q Q' : α -> Hp -> Ix Γ -> Prop} {X X' : Value -> Hp -> Ix Γ -> Prop},
    SemW P S s h δ Q X -> (∀ a h δ, Q a h δ -> Q' a h δ) -> (∀ v h δ, X v h δ -> X' v h δ) -> SemW P S s h δ Q' X' := by
  induction s with
  | pure a => intro h δ Q Q' X X' hs hq _; exact hq _ _ _ hs
  | load m a k ih => intro h δ Q Q' X X' ⟨v, hv, hs⟩ hq hx; exact ⟨v, hv, ih v _ _ hs hq hx⟩
  | store m a v k ih => intro h δ Q Q' X X' ⟨h1, h2, h3, h4, h5, hs⟩ hq hx; exact ⟨h1, h2, h3, h4, h5, ih _ _ hs hq hx⟩
  | new o k ih => intro h δ Q Q' X X' hs hq hx; exact ⟨hs.1, ih _ _ _ hs.2 hq hx⟩
  | shape r k ih => intro h δ Q Q' X X' hs hq hx; exact ⟨hs.1, ih _ _ _ hs.2 hq hx⟩
  | freeze a n k ih => intro h δ Q Q' X X' hs; exact hs.elim
  | frozen a k ih => intro h δ Q Q' X X' hs hq hx; exact ⟨hs.1, ih _ _ _ hs.2 hq hx⟩
  | getObj r k ih => intro h δ Q Q' X X' ⟨o, h1, h2, hs⟩ hq hx; exact ⟨o, h1, h2, ih _ _ _ hs hq hx⟩
  | setObj r o k ih => intro h δ Q Q' X X' ⟨h1, h2, h3, hs⟩ hq hx; exact ⟨h1, h2, h3, ih _ _ hs hq hx⟩
  | choose q k ih => intro h δ Q Q' X X' hs hq hx; exact ⟨hs.1, fun n hn => ih _ _ _ (hs.2 n hn) hq hx⟩
  | sys c k ih => intro h δ Q Q' X X' hs; exact hs.elim
  | program k ih => intro h δ Q Q' X X' hs hq hx; exact ih _ _ _ hs hq hx
  | mark m k ih => intro h δ Q Q' X X' ⟨h1, hs⟩ hq hx; exact ⟨h1, ih _ _ hs hq hx⟩
  | halt x =>
    intro h δ Q Q' X X' hs hq hx
    cases x <;> first | exact hs.elim | exact hx _ _ _ hs
theorem deafBehind_nil' (δ : Nat) : deafBehind δ #[] = δ := by simp [deafBehind]
theorem deafI_nil {Γ : Type} (δ : Ix Γ) : deafI δ #[] = δ := by simp [deafI, deafBehind_nil']
theorem deafBehind_app (δ : Nat) (a b : Array Event) : deafBehind δ (a ++ b) = deafBehind (deafBehind δ a) b := by
  simp [deafBehind]
theorem deafI_app {Γ : Type} (δ : Ix Γ) (a b : Array Event) : deafI δ (a ++ b) = deafI (deafI δ a) b := by
  simp [deafI, deafBehind_app]
theorem deafI_cell {Γ : Type} (δ : Ix Γ) (a : Addr) (wr sy : Bool) : deafI δ #[⟨.cell a, wr, sy⟩] = δ := by simp [deafI, deafBehind]
theorem deafI_obj {Γ : Type} (δ : Ix Γ) (r : Nat) (wr sy : Bool) : deafI δ #[⟨.obj r, wr, sy⟩] = δ := by simp [deafI, deafBehind]
theorem deafI_mark {Γ : Type} (δ : Ix Γ) (m : Mark) : deafI δ #[⟨.mark m, false, true⟩] = markd m δ := by cases m <;> simp [deafI, deafBehind, markd, markN]
def EvIn (Pr : Nat -> Prop) (e : Event) : Prop := (∀ a, e.loc = .cell a -> Pr a.block) /\ ∀ r, e.loc = .obj r -> Pr r
theorem EvIn.mono {Pr Pr' : Nat -> Prop} {e : Event} (x : EvIn Pr e) (h : ∀ b, Pr b -> Pr' b) : EvIn Pr' e := ⟨fun a ha => h _ (x.1 a ha), fun r hr => h _ (x.2 r hr)⟩
structure Chg (L : Prop) (S : Addr -> Prop) (h H h' H' : Hp) : Prop where
  sub : Part L h' H'
  ok : HpOk S H H'
  frame : ∀ b, ¬ Pres h b -> b < H.size -> H'[b]? = H[b]?
  pres : ∀ b, Pres h b -> Pres h' b
  new : ∀ b, Pres h' b -> Pres h b \/ H.size <= b
  quiet : ¬ L -> H'.size = H.size /\ h'.size = h.size
  vok : HpOk S h h'
  stay : ∀ (b : Nat) c e f, (∀ a : Addr, a.block = b -> S a) -> H[b]? = some (.cells c e f) -> H'[b]? = some (.cells c e f)
theorem Chg.refl {L : Prop} {S : Addr -> Prop} {h H : Hp} (x : Part L h H) : Chg L S h H h H := ⟨x, HpOk.refl _ _, fun _ _ _ => rfl, fun _ y => y, fun _ y => .inl y, fun _ => ⟨rfl, rfl⟩, HpOk.refl _ _, fun _ _ _ _ _ z => z⟩
theorem Chg.trans {L : Prop} {S : Addr -> Prop} {h H h1 H1 h2 H2 : Hp} (x : Chg L S h H h1 H1) (y : Chg L S h1 H1 h2 H2) : Chg L S h H h2 H2 := by
  refine ⟨y.sub, x.ok.trans y.ok, fun b hb hl => ?_, fun b hb => y.pres b (x.pres b hb), fun b hb => ?_, fun hL => ⟨(y.quiet hL).1.trans (x.quiet hL).1, (y.quiet hL).2.trans (x.quiet hL).2⟩, x.vok.trans y.vok, fun b c e f hS hb => y.stay b c e f hS (x.stay b c e f hS hb)⟩
  · have h1 : ¬ Pres h1 b := fun z => (x.new b z).elim hb fun w => by omega
    exact (y.frame b h1 (Nat.lt_of_lt_of_le hl x.ok.size)).trans (x.frame b hb hl)
  · rcases y.new b hb with z | z
    · exact x.new b z
    · exact .inr (Nat.le_trans x.ok.size z)
theorem Part.hcell {L : Prop} {h H : Hp} (x : Part L h H) {a : Addr} {v : Value} (hc : hcell h a = some v) : TJ.hcell H a = some v /\ Pres h a.block := by
  obtain ⟨c, e, f, hb, hs, hv⟩ := hcell_some hc
  refine ⟨?_, _, hb, ne_dum hv⟩
  unfold TJ.hcell
  rw [x.get _ _ hb (ne_dum hv)]
  simp [hs, hv]
theorem Part.hfroz {L : Prop} {h H : Hp} (x : Part L h H) {a : Addr} (hp : Pres h a.block) : TJ.hfroz H a = TJ.hfroz h a := by
  obtain ⟨o, hb, ho⟩ := hp
  unfold TJ.hfroz
  rw [x.get _ _ hb ho, hb]
theorem Part.hshape {L : Prop} {h H : Hp} (x : Part L h H) {r : Nat} (hp : Pres h r) : TJ.hshape H r = TJ.hshape h r := by
  obtain ⟨o, hb, ho⟩ := hp
  unfold TJ.hshape
  rw [x.get _ _ hb ho, hb]
theorem Chg.hset {L : Prop} {S : Addr -> Prop} {h H : Hp} (x : Part L h H) {a : Addr} {v : Value} (hc : ∃ o, hcell h a = some o) (hS : ¬ S a) : Chg L S h H (TJ.hset h a v) (TJ.hset H a v) := by
  obtain ⟨u, hu⟩ := hc
  obtain ⟨hU, hp⟩ := x.hcell hu
  obtain ⟨c, e, f, hb, hs, hv⟩ := hcell_some hu
  have hB := x.get _ _ hb (ne_dum hv)
  have hlt : a.off < c.size := by
    rcases Nat.lt_or_ge a.off c.size with y | y
    · exact y
    · simp [Array.getElem?_eq_none y] at hv
  have hnd : Obj.cells (c.setIfInBounds a.off v) e f ≠ dum := ne_dum (i := a.off) (v := v) (by simp [hlt])
  have e1 := hset_same h a v hb hs
  have e2 := hset_same H a v hB hs
  have pe : ∀ b, Pres (TJ.hset h a v) b ↔ Pres h b := fun b => by
    by_cases hab : a.block = b
    · subst hab
      exact ⟨fun _ => hp, fun _ => ⟨_, e1, hnd⟩⟩
    · unfold Pres
      rw [hset_ne h a v hab]
  refine ⟨⟨fun b o hbo ho => ?_, by rw [hset_size, hset_size]; exact x.size, fun hL => by rw [hset_size, hset_size]; exact x.same hL⟩, HpOk.hset ⟨u, hU⟩ hS, fun b hb' _ => hset_ne H a v fun z => hb' (z ▸ hp), fun b hb' => (pe b).2 hb', fun b hb' => .inl ((pe b).1 hb'), fun _ => ⟨hset_size _ _ _, hset_size _ _ _⟩, HpOk.hset ⟨u, hu⟩ hS, fun b c e f hSb hb' => by rw [hset_ne H a v fun z => hS (hSb a z)]; exact hb'⟩
  by_cases hab : a.block = b
  · subst hab
    rw [e1] at hbo
    rw [e2]; exact hbo
  · rw [hset_ne h a v hab] at hbo
    rw [hset_ne H a v hab]; exact x.get b o hbo ho
theorem Chg.push {L : Prop} {S : Addr -> Prop} {h H : Hp} (x : Part L h H) (hL : L) {o : Obj} (ho : Thawed o) : Chg L S h H (h.push o) (H.push o) := by
  have hsz := x.same hL
  refine ⟨⟨fun b p hb hp => ?_, by simp [hsz], fun _ => by simp [hsz]⟩, HpOk.push o ho, fun b _ hb => by rw [Array.getElem?_push_lt hb, Array.getElem?_eq_getElem hb], fun b ⟨p, hb, hp⟩ => ⟨p, get_push o hb, hp⟩, fun b ⟨p, hb, hp⟩ => ?_, fun hn => absurd hL hn, HpOk.push o ho, fun b c e f _ hb => get_push o hb⟩
  · rcases Nat.lt_trichotomy b h.size with y | y | y
    · rw [Array.getElem?_push_lt y, <- Array.getElem?_eq_getElem y] at hb
      exact get_push o (x.get b p hb hp)
    · subst y
      simp only [Array.getElem?_push_size] at hb
      rw [hsz]
      simp only [Array.getElem?_push_size]; exact hb
    · rw [Array.getElem?_eq_none (by simp; omega)] at hb
      cases hb
  · rcases Nat.lt_or_ge b h.size with y | y
    · rw [Array.getElem?_push_lt y, <- Array.getElem?_eq_getElem y] at hb
      exact .inl ⟨p, hb, hp⟩
    · exact .inr (by omega)
theorem Chg.setObj {L : Prop} {S : Addr -> Prop} {h H : Hp} (x : Part L h H) {r : Nat} {o o' : Obj} (hr : h[r]? = some o') (hc : ∀ c e f, o' ≠ .cells c e f) (hn : o'.isChan = false) (hk : ∀ c e f, o ≠ .cells c e f) : Chg L S h H (h.setIfInBounds r o) (H.setIfInBounds r o) := by
  have hd : o' ≠ dum := hc _ _ _
  have hR := x.get _ _ hr hd
  have hlt : r < h.size := (Array.getElem?_eq_some_iff.1 hr).1
  have hlT : r < H.size := (Array.getElem?_eq_some_iff.1 hR).1
  have pe : ∀ b, Pres (h.setIfInBounds r o) b ↔ Pres h b := fun b => by
    by_cases hab : r = b
    · subst hab
      exact ⟨fun _ => ⟨_, hr, hd⟩, fun _ => ⟨o, Array.getElem?_setIfInBounds_self_of_lt hlt, hk _ _ _⟩⟩
    · unfold Pres
      rw [Array.getElem?_setIfInBounds_ne hab]
  refine ⟨⟨fun b p hb hp => ?_, by simp; exact x.size, fun hL => by simp; exact x.same hL⟩, HpOk.setObj hR hc hn hk, fun b hb _ => Array.getElem?_setIfInBounds_ne fun (z : r = b) => hb (by subst z; exact ⟨_, hr, hd⟩), fun b hb => (pe b).2 hb, fun b hb => .inl ((pe b).1 hb), fun _ => ⟨by simp, by simp⟩, HpOk.setObj hr hc hn hk, fun b c e f _ hb => by rw [Array.getElem?_setIfInBounds_ne fun z => hc c e f (by rw [z, hb] at hR; exact (Option.some.inj hR).symm)]; exact hb⟩
  by_cases hab : r = b
  · subst hab
    rw [Array.getElem?_setIfInBounds_self_of_lt hlt] at hb
    rw [Array.getElem?_setIfInBounds_self_of_lt hlT]; exact hb
  · rw [Array.getElem?_setIfInBounds_ne hab] at hb
    rw [Array.getElem?_setIfInBounds_ne hab]; exact x.get b p hb hp
def Ran {Γ : Type} (S : Sit Γ) {α : Type} (Q : α -> Hp -> Ix Γ -> Prop) (X : Value -> Hp -> Ix Γ -> Prop) (h : Hp) (δ : Ix Γ) (w : World) (es : Array Event) : Result α -> Prop
  | .ok a w' => ∃ h', Same w w' /\ Chg (S.lone δ.g) (S.still δ.g) h w.heap h' w'.heap /\ (∀ e ∈ es, EvIn (Pres h') e) /\ Q a h' (deafI δ es)
  | .halt (.panic v) w' => ∃ h', Same w w' /\ Chg (S.lone δ.g) (S.still δ.g) h w.heap h' w'.heap /\ (∀ e ∈ es, EvIn (Pres h') e) /\ X v h' (deafI δ es)
  | _ => False
theorem evIn_app {Pr : Nat -> Prop} {a b : Array Event} (h1 : ∀ e ∈ a, EvIn Pr e) (h2 : ∀ e ∈ b, EvIn Pr e) : ∀ e ∈ a ++ b, EvIn Pr e := fun e he => (Array.mem_append.1 he).elim (h1 e) (h2 e)
theorem Ran.later {Γ : Type} {S : Sit Γ} {α : Type} {Q : α -> Hp -> Ix Γ -> Prop} {X : Value -> Hp -> Ix Γ -> Prop} {h h1 : Hp} {δ : Ix Γ} {w w1 : World} {es1 es : Array Event} {r : Result α}
    (hs : Same w w1) (hh : Chg (S.lone δ.g) (S.still δ.g) h w.heap h1 w1.heap) (hi : ∀ e ∈ es1, EvIn (Pres h1) e) (hr : Ran S Q X h1 (deafI δ es1) w1 es r) : Ran S Q X h δ w (es1 ++ es) r := by
  unfold Ran at *
  split
  · obtain ⟨h', a, b, d, c⟩ := hr
    exact ⟨h', hs.trans a, hh.trans b, evIn_app (fun e he => (hi e he).mono b.pres) d, by rw [deafI_app]; exact c⟩
  · obtain ⟨h', a, b, d, c⟩ := hr
    exact ⟨h', hs.trans a, hh.trans b, evIn_app (fun e he => (hi e he).mono b.pres) d, by rw [deafI_app]; exact c⟩
  · split at hr <;> simp_all
theorem evIn_cell {Pr : Nat -> Prop} {a : Addr} {wr sy : Bool} (h : Pr a.block) : ∀ e ∈ (#[⟨.cell a, wr, sy⟩] : Array Event), EvIn Pr e := by
  intro e he
  simp at he
  subst he
  refine ⟨fun b hb => ?_, fun r hr => by cases hr⟩
  simp at hb
  subst hb
  exact h
theorem evIn_obj {Pr : Nat -> Prop} {r : Nat} {wr sy : Bool} (h : Pr r) : ∀ e ∈ (#[⟨.obj r, wr, sy⟩] : Array Event), EvIn Pr e := by
  intro e he
  simp at he
  subst he
  refine ⟨fun b hb => (by cases hb), fun q hq => ?_⟩
  simp at hq
  subst hq
  exact h
theorem evIn_mark {Pr : Nat -> Prop} {m : Mark} : ∀ e ∈ (#[⟨.mark m, false, true⟩] : Array Event), EvIn Pr e := by
  intro e he
  simp at he
  subst he
  exact ⟨fun b hb => (by cases hb), fun q hq => (by cases hq)⟩
theorem semW_sound {Γ : Type} {P : Program} {S : Sit Γ} {α : Type} (s : Sem α) : ∀ (h : Hp) (δ : Ix Γ) (Q : α -> Hp -> Ix Γ -> Prop) (X : Value -> Hp -> Ix Γ -> Prop), SemW P S s h δ Q X ->
    ∀ (w : World), Part (S.lone δ.g) h w.heap -> ∀ es0, ∃ es r, s.runT P w es0 = (r, es0 ++ es) /\ (∀ e ∈ es, EvOk (S.still δ.g) e) /\ Ran S Q X h δ w es r := by
  induction s with
  | pure a =>
    intro h δ Q X hs w hw es0
    exact ⟨#[], .ok a w, by simp [Sem.runT], by simp, h, Same.refl _, Chg.refl hw, by simp, by rw [deafI_nil]; exact hs⟩
  | load m a k ih =>
    intro h δ Q X ⟨v, hv, hs⟩ w hw es0
    obtain ⟨hc', hp⟩ := hw.hcell hv
    have hc : w.cell? a = some v := hc'
    obtain ⟨es, r, h1, h2, h3⟩ := ih v _ δ Q X hs w hw (es0.push ⟨.cell a, false, m == .atomic⟩)
    refine ⟨#[⟨.cell a, false, m == .atomic⟩] ++ es, r, by simp only [Sem.runT, hc]; rw [h1, Array.push_eq_append, Array.append_assoc], fun e he => ?_, ?_⟩
    · rcases Array.mem_append.1 he with he | he
      · simp at he; subst he; simp [EvOk]
      · exact h2 e he
    · exact Ran.later (Same.refl _) (Chg.refl hw) (evIn_cell hp) (by rw [deafI_cell]; exact h3)
  | store m a v k ih =>
    intro h δ Q X ⟨h1, h2, h3, h4, h5, hs⟩ w hw es0
    obtain ⟨o, ho⟩ := h3
    obtain ⟨ho', hp⟩ := hw.hcell ho
    have hc : w.cell? a = some o := ho'
    have hf : w.frozen? a = false := (hw.hfroz hp).trans h4
    have hg := Chg.hset (S := S.still δ.g) (v := v) hw ⟨o, ho⟩ h5
    obtain ⟨es, r, g1, g2, g3⟩ := ih _ δ Q X hs (w.setCell a v) hg.sub (es0.push ⟨.cell a, true, m == .atomic⟩)
    refine ⟨#[⟨.cell a, true, m == .atomic⟩] ++ es, r, ?_, fun e he => ?_, ?_⟩
    · have : (Sem.store m a v k).runT P w es0 = k.runT P (w.setCell a v) (es0.push ⟨.cell a, true, m == .atomic⟩) := by
        cases v <;> first | exact absurd rfl (h1 _) | exact absurd rfl (h2 _) | simp only [Sem.runT, hc, hf, Bool.false_eq_true, if_false]
      rw [this, g1, Array.push_eq_append, Array.append_assoc]
    · rcases Array.mem_append.1 he with he | he
      · simp at he; subst he; simp [EvOk, h5]
      · exact g2 e he
    · exact Ran.later (w1 := w.setCell a v) ⟨rfl, rfl, rfl⟩ hg (evIn_cell (hg.pres _ hp)) (by rw [deafI_cell]; exact g3)
  | new o k ih =>
    intro h δ Q X hs w hw es0
    have hg := Chg.push (S := S.still δ.g) hw hs.1.1 hs.1.2
    have hsz := hw.same hs.1.1
    obtain ⟨es, r, g1, g2, g3⟩ := ih h.size _ δ Q X hs.2 { w with heap := w.heap.push o } hg.sub es0
    refine ⟨es, r, by simp only [Sem.runT]; rw [<- hsz]; exact g1, g2, ?_⟩
    have := Ran.later (es1 := #[]) (δ := δ) (⟨rfl, rfl, rfl⟩ : Same w { w with heap := w.heap.push o }) hg (by simp) (by rw [deafI_nil]; exact g3)
    simpa using this
  | shape r k ih =>
    intro h δ Q X hs w hw es0
    obtain ⟨es, r', g1, g2, g3⟩ := ih (hshape h r) _ δ Q X hs.2 w hw es0
    exact ⟨es, r', by simp only [Sem.runT]; rw [shape?_eq, hw.hshape hs.1]; exact g1, g2, g3⟩
  | freeze a n k ih => intro h δ Q X hs; exact hs.elim
  | frozen a k ih =>
    intro h δ Q X hs w hw es0
    obtain ⟨es, r', g1, g2, g3⟩ := ih (hfroz h a) _ δ Q X hs.2 w hw es0
    exact ⟨es, r', by simp only [Sem.runT]; rw [frozen?_eq, hw.hfroz hs.1]; exact g1, g2, g3⟩
  | getObj r k ih =>
    intro h δ Q X ⟨o, h1, h2, hs⟩ w hw es0
    have h1' := hw.get _ _ h1 (h2 _ _ _)
    obtain ⟨es, r', g1, g2, g3⟩ := ih o _ δ Q X hs w hw (es0.push ⟨.obj r, false, o.isChan⟩)
    refine ⟨#[⟨.obj r, false, o.isChan⟩] ++ es, r', ?_, fun e he => ?_, ?_⟩
    · have : (Sem.getObj r k).runT P w es0 = (k o).runT P w (es0.push ⟨.obj r, false, o.isChan⟩) := by
        cases o <;> first | exact absurd rfl (h2 _ _ _) | simp only [Sem.runT, h1']
      rw [this, g1, Array.push_eq_append, Array.append_assoc]
    · rcases Array.mem_append.1 he with he | he
      · simp at he; subst he; simp [EvOk]
      · exact g2 e he
    · exact Ran.later (Same.refl _) (Chg.refl hw) (evIn_obj ⟨o, h1, h2 _ _ _⟩) (by rw [deafI_obj]; exact g3)
  | setObj r o k ih =>
    intro h δ Q X ⟨⟨h1, hst⟩, hk, ⟨o', h2, h3, h4⟩, hs⟩ w hw es0
    have h2' := hw.get _ _ h2 (h3 _ _ _)
    have hg := Chg.setObj (S := S.still δ.g) hw h2 h3 h4 hk
    obtain ⟨es, r', g1, g2, g3⟩ := ih _ δ Q X hs { w with heap := w.heap.setIfInBounds r o } hg.sub (es0.push ⟨.obj r, true, o.isChan⟩)
    refine ⟨#[⟨.obj r, true, o.isChan⟩] ++ es, r', ?_, fun e he => ?_, ?_⟩
    · have : (Sem.setObj r o k).runT P w es0 = k.runT P { w with heap := w.heap.setIfInBounds r o } (es0.push ⟨.obj r, true, o.isChan⟩) := by
        cases o' <;> first | exact absurd rfl (h3 _ _ _) | simp only [Sem.runT, h2']
      rw [this, g1, Array.push_eq_append, Array.append_assoc]
    · rcases Array.mem_append.1 he with he | he
      · simp at he; subst he; simp [EvOk, h1, hst]
      · exact g2 e he
    · exact Ran.later (w1 := { w with heap := w.heap.setIfInBounds r o }) ⟨rfl, rfl, rfl⟩ hg (evIn_obj (hg.pres _ ⟨o', h2, h3 _ _ _⟩)) (by rw [deafI_obj]; exact g3)
  | choose q k ih =>
    intro h δ Q X ⟨_, hs⟩ w hw es0
    by_cases hf : q.forced = true
    · obtain ⟨es, r, g1, g2, g3⟩ := ih 0 _ δ Q X (hs 0 (.inl ⟨hf, rfl⟩)) w hw es0
      exact ⟨es, r, by simp only [Sem.runT, hf, if_true]; exact g1, g2, g3⟩
    · have hf' : q.forced = false := by simpa using hf
      obtain ⟨es, r, g1, g2, g3⟩ := ih (q.cut (w.tape w.drawn q)) _ δ Q X (hs _ (.inr ⟨hf', _, rfl⟩)) { w with drawn := w.drawn + 1 } hw es0
      refine ⟨es, r, by simp only [Sem.runT, hf', Bool.false_eq_true, if_false]; exact g1, g2, ?_⟩
      have := Ran.later (es1 := #[]) (δ := δ) (⟨rfl, rfl, rfl⟩ : Same w { w with drawn := w.drawn + 1 }) (Chg.refl hw) (by simp) (by rw [deafI_nil]; exact g3)
      simpa using this
  | sys c k ih => intro h δ Q X hs; exact hs.elim
  | program k ih =>
    intro h δ Q X hs w hw es0
    obtain ⟨es, r', g1, g2, g3⟩ := ih P _ δ Q X hs w hw es0
    exact ⟨es, r', by simp only [Sem.runT]; exact g1, g2, g3⟩
  | mark m k ih =>
    intro h δ Q X ⟨⟨h1, h2, h3, _⟩, hs⟩ w hw es0
    obtain ⟨es, r', g1, g2, g3⟩ := ih _ (markd m δ) Q X hs w hw (es0.push ⟨.mark m, false, true⟩)
    refine ⟨#[⟨.mark m, false, true⟩] ++ es, r', by simp only [Sem.runT]; rw [g1, Array.push_eq_append, Array.append_assoc], fun e he => ?_, ?_⟩
    · rcases Array.mem_append.1 he with he | he
      · simp at he; subst he
        exact ⟨by simp, fun a => by simpa using h1 a, fun a => by simpa using h2 a, by simp, by simp, by simp, by simp, fun a => by simpa using h3 a⟩
      · exact g2 e he
    · exact Ran.later (Same.refl _) (Chg.refl hw) evIn_mark (by rw [deafI_mark]; exact g3)
  | halt x =>
    intro h δ Q X hs w hw es0
    refine ⟨#[], .halt x w, by simp [Sem.runT], by simp, ?_⟩
    cases x <;> first | exact hs.elim | exact ⟨h, Same.refl _, Chg.refl hw, by simp, by rw [deafI_nil]; exact hs⟩
def EvDull (e : Event) : Prop := e = ⟨.mark .disable, false, true⟩ \/ e = ⟨.mark .enable, false, true⟩ \/ ∃ f, e = ⟨.mark (.extern f), false, true⟩
def Fixed {Γ : Type} {α : Type} (P : Program) (Q : α -> Hp -> Ix Γ -> Prop) (X : Value -> Hp -> Ix Γ -> Prop) (h : Hp) (δ : Ix Γ) (s : Sem α) : Prop :=
  ∃ es, (∀ e ∈ es, EvDull e) /\ ((∃ a, (∀ w es0, s.runT P w es0 = (.ok a w, es0 ++ es)) /\ Q a h (deafI δ es)) \/ ∃ v, (∀ w es0, s.runT P w es0 = (.halt (.panic v) w, es0 ++ es)) /\ X v h (deafI δ es))
theorem semW_dull {Γ : Type} {P : Program} {S : Sit Γ} {α : Type} (s : Sem α) : ∀ (h : Hp) (δ : Ix Γ) (Q : α -> Hp -> Ix Γ -> Prop) (X : Value -> Hp -> Ix Γ -> Prop), SemW P S s h δ Q X -> S.dull δ.g -> ¬ S.lone δ.g -> (∀ b, ¬ Pres h b) -> Fixed P Q X h δ s := by
  induction s with
  | pure a => intro h δ Q X hs _ _ _; exact ⟨#[], by simp, .inl ⟨a, fun w es0 => by simp [Sem.runT], by rw [deafI_nil]; exact hs⟩⟩
  | load m a k ih =>
    intro h δ Q X ⟨v, hv, hs⟩ _ _ hp
    obtain ⟨c, e, f, hb, -, hc⟩ := hcell_some hv
    exact absurd (pres_of hb (ne_dum hc)) (hp _)
  | store m a v k ih =>
    intro h δ Q X ⟨h1, h2, ⟨o, h3⟩, _⟩ _ _ hp
    obtain ⟨c, e, f, hb, -, hc⟩ := hcell_some h3
    exact absurd (pres_of hb (ne_dum hc)) (hp _)
  | new o k ih => intro h δ Q X hs _ hl _; exact absurd hs.1.1 hl
  | shape r k ih => intro h δ Q X hs _ _ hp; exact absurd hs.1 (hp _)
  | freeze a n k ih => intro h δ Q X hs; exact hs.elim
  | frozen a k ih => intro h δ Q X hs _ _ hp; exact absurd hs.1 (hp _)
  | getObj r k ih =>
    intro h δ Q X ⟨o, h1, h2, hs⟩ _ _ hp
    exact absurd ⟨o, h1, h2 _ _ _⟩ (hp r)
  | setObj r o k ih =>
    intro h δ Q X ⟨h1, hk, ⟨o', h2, h3, h4⟩, hs⟩ _ _ hp
    exact absurd ⟨o', h2, h3 _ _ _⟩ (hp r)
  | choose q k ih => intro h δ Q X hs hd _ _; exact absurd hd hs.1
  | sys c k ih => intro h δ Q X hs; exact hs.elim
  | program k ih =>
    intro h δ Q X hs hd hl hp
    obtain ⟨es, h1, h2⟩ := ih P h δ Q X hs hd hl hp
    exact ⟨es, h1, h2.imp (fun ⟨a, h3, h4⟩ => ⟨a, fun w es0 => by simp only [Sem.runT]; exact h3 w es0, h4⟩) (fun ⟨a, h3, h4⟩ => ⟨a, fun w es0 => by simp only [Sem.runT]; exact h3 w es0, h4⟩)⟩
  | mark m k ih =>
    intro h δ Q X ⟨⟨_, _, _, hm⟩, hs⟩ hd hl hp
    obtain ⟨es, h1, h2⟩ := ih h (markd m δ) Q X hs hd hl hp
    have e0 : ∀ w es0, (k.runT P w (es0.push ⟨.mark m, false, true⟩)) = (Sem.mark m k).runT P w es0 := fun _ _ => rfl
    refine ⟨#[⟨.mark m, false, true⟩] ++ es, fun e he => ?_, h2.imp (fun ⟨a, h3, h4⟩ => ⟨a, fun w es0 => ?_, ?_⟩) (fun ⟨a, h3, h4⟩ => ⟨a, fun w es0 => ?_, ?_⟩)⟩
    · rcases Array.mem_append.1 he with he | he
      · simp at he; subst he
        rcases hm hd with rfl | rfl | ⟨f, rfl⟩
        · exact .inl rfl
        · exact .inr (.inl rfl)
        · exact .inr (.inr ⟨f, rfl⟩)
      · exact h1 e he
    · rw [<- e0, h3, Array.push_eq_append, Array.append_assoc]
    · rw [deafI_app, deafI_mark]; exact h4
    · rw [<- e0, h3, Array.push_eq_append, Array.append_assoc]
    · rw [deafI_app, deafI_mark]; exact h4
  | halt x =>
    intro h δ Q X hs _ _ _
    cases x with
    | panic v => exact ⟨#[], by simp, .inr ⟨v, fun w es0 => by simp [Sem.runT], by rw [deafI_nil]; exact hs⟩⟩
    | _ => exact hs.elim
theorem hset_hset (h : Hp) (a : Addr) (v w : Value) : hset (hset h a v) a w = hset h a w := by
  apply Array.ext_getElem?
  intro i
  rw [hset_get, hset_get, hset_get]
  by_cases e : a.block = i
  · simp only [if_pos e]
    cases h[i]? with
    | none => rfl
    | some o =>
      cases o <;> simp
      split <;> simp
  · simp only [if_neg e]
theorem hset_self {h : Hp} {a : Addr} {v : Value} (hc : hcell h a = some v) : hset h a v = h := by
  obtain ⟨c, e, f, hb, hs, hv⟩ := hcell_some hc
  apply Array.ext_getElem?
  intro i
  rw [hset_get]
  by_cases e : a.block = i
  · subst e
    rw [if_pos rfl, hb]
    simp only [hs, Option.map_some, Option.isSome_none, Bool.false_eq_true, if_false]
    congr 2
    apply Array.ext_getElem?
    intro j
    by_cases e : a.off = j
    · subst e
      have : a.off < c.size := by
        rcases Nat.lt_or_ge a.off c.size with y | y
        · exact y
        · simp [Array.getElem?_eq_none y] at hv
      rw [Array.getElem?_setIfInBounds_self_of_lt this, hv]
    · rw [Array.getElem?_setIfInBounds_ne e]
  · rw [if_neg e]
theorem hcell_hset_same {h : Hp} {a : Addr} {u v : Value} (hc : hcell h a = some u) : hcell (hset h a v) a = some v := by
  obtain ⟨c, e, f, hb, hs, hv⟩ := hcell_some hc
  have hlt : a.off < c.size := by
    rcases Nat.lt_or_ge a.off c.size with y | y
    · exact y
    · simp [Array.getElem?_eq_none y] at hv
  unfold hcell
  rw [hset_same h a v hb hs]
  simp [hs, hlt]
end
section
variable [Dm]
open Go Go.Conc
variable {Γ : Type}
def StepTo (P : Program) (main : Bool) (S : Sit Γ) (X : Goroutine -> Hp -> Ix Γ -> Prop) (g : Goroutine) (h : Hp) (δ : Ix Γ) : Prop :=
  g.status = .running /\ (∀ w : World, Part (S.lone δ.g) h w.heap -> ∃ g' w' es h', stepG P main g w = .go g' w' es /\ Same w w' /\ Chg (S.lone δ.g) (S.still δ.g) h w.heap h' w'.heap /\ (∀ e ∈ es, EvOk (S.still δ.g) e /\ EvIn (Pres h') e) /\ X g' h' (deafI δ es)) /\
    (S.dull δ.g -> ¬ S.lone δ.g -> h = #[] -> ∃ g' es, (∀ e ∈ es, Event.mute e = true) /\ (∀ w, stepG P main g w = .go g' w es) /\ X g' h (deafI δ es))
inductive Runs (P : Program) (main : Bool) (S : Sit Γ) (Stop : Goroutine -> Hp -> Ix Γ -> Prop) : Goroutine -> Hp -> Ix Γ -> Prop
  | stop {g : Goroutine} {h : Hp} {δ : Ix Γ} : Stop g h δ -> Runs P main S Stop g h δ
  | step {g : Goroutine} {h : Hp} {δ : Ix Γ} (X : Goroutine -> Hp -> Ix Γ -> Prop) : (∀ g h δ, X g h δ -> Runs P main S Stop g h δ) -> StepTo P main S X g h δ -> Runs P main S Stop g h δ
  | hands {g : Goroutine} {h : Hp} {δ : Ix Γ} (X : Goroutine -> Hp -> Ix Γ -> Prop) : (∀ g h δ, X g h δ -> Runs P main S Stop g h δ) -> S.yld g h δ X -> Runs P main S Stop g h δ
section
variable {P : Program} {main : Bool} {S : Sit Γ}
theorem StepTo.mono {X Y : Goroutine -> Hp -> Ix Γ -> Prop} {g : Goroutine} {h : Hp} {δ : Ix Γ} (hs : StepTo P main S X g h δ) (hxy : ∀ g h δ, X g h δ -> Y g h δ) : StepTo P main S Y g h δ :=
  ⟨hs.1, fun w hw => let ⟨g', w', es, h', a, b, c, d, e⟩ := hs.2.1 w hw; ⟨g', w', es, h', a, b, c, d, hxy _ _ _ e⟩, fun h1 h2 h3 => let ⟨g', es, a, b, c⟩ := hs.2.2 h1 h2 h3; ⟨g', es, a, b, hxy _ _ _ c⟩⟩
theorem Runs.bind {A B : Goroutine -> Hp -> Ix Γ -> Prop} {g : Goroutine} {h : Hp} {δ : Ix Γ} (hr : Runs P main S A g h δ) (hab : ∀ g h δ, A g h δ -> Runs P main S B g h δ) : Runs P main S B g h δ := by
  induction hr with
  | stop hs => exact hab _ _ _ hs
  | step X _ hst ih => exact .step X (fun g h δ hx => ih g h δ hx) hst
  | hands X _ hy ih => exact .hands X (fun g h δ hx => ih g h δ hx) hy
theorem Runs.mono {A B : Goroutine -> Hp -> Ix Γ -> Prop} {g : Goroutine} {h : Hp} {δ : Ix Γ} (hr : Runs P main S A g h δ) (hab : ∀ g h δ, A g h δ -> B g h δ) : Runs P main S B g h δ :=
  hr.bind fun _ _ _ x => .stop (hab _ _ _ x)
theorem Runs.of_step {A : Goroutine -> Hp -> Ix Γ -> Prop} {g : Goroutine} {h : Hp} {δ : Ix Γ} (hst : StepTo P main S (Runs P main S A) g h δ) : Runs P main S A g h δ :=
  .step _ (fun _ _ _ x => x) hst
theorem Runs.ctl {A : Goroutine -> Hp -> Ix Γ -> Prop} {g g' : Goroutine} {h : Hp} {δ : Ix Γ} (hg : g.status = .running) (hst : ∀ w, stepG P main g w = .go g' w) (hr : Runs P main S A g' h δ) : Runs P main S A g h δ :=
  .of_step ⟨hg, fun w hw => ⟨g', w, #[], h, hst w, Same.refl _, Chg.refl hw, by simp, by rw [deafI_nil]; exact hr⟩, fun _ _ _ => ⟨g', #[], by simp, hst, by rw [deafI_nil]; exact hr⟩⟩
end
inductive Fin where
  | ret (v : Value)
  | pan (chain : List PanicEntry)
abbrev Post (Γ : Type) := Fin -> Hp -> Ix Γ -> Prop
def fb (f : FuncId) (kind : CallKind) : Frame := { (default : Frame) with fn := f, kind := kind }
def Reads (P : Program) (fn : Func) (tmps : Array Value) (h : Hp) (v : Value) : Prop :=
  ∀ w : World, Part False h w.heap -> ∃ es, (results fn tmps).runT P w #[] = (.ok v w, es) /\ ∀ e ∈ es, ∃ a, e = ⟨.cell a, false, false⟩ /\ Pres h a.block
def Left (P : Program) (f : FuncId) (kind : CallKind) (cs : List Frame) (R : Post Γ) (g : Goroutine) (h : Hp) (δ : Ix Γ) : Prop :=
  ∃ a todo mode fn, g = G { (fb f kind).at a todo with mode := mode } cs /\ a.defers = [] /\ P.funcs[f]? = some fn /\
    ((mode = .returning /\ ∃ v, Reads P fn a.tmps h v /\ R (.ret v) h δ) \/ (∃ chain, mode = .panicking chain /\ R (.pan chain) h δ))
theorem Left.mono {P : Program} {f : FuncId} {kind : CallKind} {cs : List Frame} {R R' : Post Γ} (hR : ∀ x h δ, R x h δ -> R' x h δ) {g : Goroutine} {h : Hp} {δ : Ix Γ} (hl : Left P f kind cs R g h δ) : Left P f kind cs R' g h δ := by
  obtain ⟨a, todo, mode, fn, h1, h2, h3, h4⟩ := hl
  refine ⟨a, todo, mode, fn, h1, h2, h3, h4.imp ?_ ?_⟩
  · rintro ⟨h5, v, h6, h7⟩; exact ⟨h5, v, h6, hR _ _ _ h7⟩
  · rintro ⟨c, h5, h6⟩; exact ⟨c, h5, hR _ _ _ h6⟩
def Calm (kind : CallKind) (cs : List Frame) : Prop := ∀ fr : Frame, fr.kind = kind -> tryRecover fr cs = none
structure Callers (kind : CallKind) where
  l : List Frame
  calm : Calm kind l
instance {kind : CallKind} : CoeOut (Callers kind) (List Frame) := ⟨Callers.l⟩
theorem calm_normal (cs : List Frame) : Calm .normal cs := fun fr h => by unfold tryRecover; rw [h]
theorem calm_deferred {c : Frame} {cs : List Frame} (hc : c.mode = .returning) : Calm .deferred (c :: cs) := fun fr h => by unfold tryRecover; rw [h]; simp [hc]
def CallW (P : Program) (main : Bool) (S : Sit Γ) (f : FuncId) (args : Array Value) (h : Hp) (δ : Ix Γ) (R : Post Γ) : Prop :=
  ∀ kind, kind ≠ .early -> ∀ cs : Callers kind, Runs P main S (Left P f kind cs R) (G (Frame.enter P f args kind) cs) h δ
def WK (P : Program) (main : Bool) (S : Sit Γ) (f : FuncId) (todo : List Item) (a : Act) (h : Hp) (δ : Ix Γ) (R : Post Γ) : Prop :=
  ∀ kind, kind ≠ .early -> ∀ cs : Callers kind, Runs P main S (Left P f kind cs R) (G ((fb f kind).at a todo) cs) h δ
def WU (P : Program) (main : Bool) (S : Sit Γ) (f : FuncId) (mode : FrameMode) (a : Act) (h : Hp) (δ : Ix Γ) (R : Post Γ) : Prop :=
  ∀ kind, kind ≠ .early -> ∀ (cs : Callers kind) todo, Runs P main S (Left P f kind cs R) (G { (fb f kind).at a todo with mode := mode } cs) h δ
section
variable {P : Program} {main : Bool} {S : Sit Γ} {f : FuncId} {a : Act} {h : Hp} {δ : Ix Γ} {R : Post Γ} {k : List Item}
theorem CallW.mono {args : Array Value} {R' : Post Γ} (hc : CallW P main S f args h δ R) (hR : ∀ x h δ, R x h δ -> R' x h δ) : CallW P main S f args h δ R' :=
  fun kind hk cs => (hc kind hk cs).mono fun _ _ _ x => x.mono hR
theorem WK.mono {R' : Post Γ} (hc : WK P main S f k a h δ R) (hR : ∀ x h δ, R x h δ -> R' x h δ) : WK P main S f k a h δ R' :=
  fun kind hk cs => (hc kind hk cs).mono fun _ _ _ x => x.mono hR
theorem WU.mono {mode : FrameMode} {R' : Post Γ} (hc : WU P main S f mode a h δ R) (hR : ∀ x h δ, R x h δ -> R' x h δ) : WU P main S f mode a h δ R' :=
  fun kind hk cs todo => (hc kind hk cs todo).mono fun _ _ _ x => x.mono hR
theorem CallW.enter {args : Array Value} {fn : Func} {c : Code} (hf : P.funcs[f]? = some fn) (hb : fn.body = some c)
    (hw : WK P main S f [.code c] { tmps := args ++ Array.replicate (fn.ntmps - args.size) undef, defers := [] } h δ R) : CallW P main S f args h δ R := by
  intro kind hk cs
  have e : Frame.enter P f args kind = (fb f kind).at { tmps := args ++ Array.replicate (fn.ntmps - args.size) undef, defers := [] } [.code c] := by
    simp [Frame.enter, Frame.at, hf, hb, fb]
  rw [e]
  exact hw kind hk cs
theorem WK.skip (hw : WK P main S f k a h δ R) : WK P main S f (.code .skip :: k) a h δ R :=
  fun kind hk cs => .ctl rfl (fun _ => stepG_skip) (hw kind hk cs)
theorem WK.inBlock {id : Nat} (hw : WK P main S f k a h δ R) : WK P main S f (.inBlock id :: k) a h δ R :=
  fun kind hk cs => .ctl rfl (fun _ => stepG_inBlock) (hw kind hk cs)
theorem WK.seq {x y : Code} (hw : WK P main S f (.code x :: .code y :: k) a h δ R) : WK P main S f (.code (.seq x y) :: k) a h δ R :=
  fun kind hk cs => .ctl rfl (fun _ => stepG_seq) (hw kind hk cs)
theorem WK.block {id : Nat} {c : Code} (hw : WK P main S f (.code c :: .inBlock id :: k) a h δ R) : WK P main S f (.code (.block id c) :: k) a h δ R :=
  fun kind hk cs => .ctl rfl (fun _ => stepG_block) (hw kind hk cs)
theorem WK.loop {c : Code} (hw : WK P main S f (.code c :: .inLoop c :: k) a h δ R) : WK P main S f (.code (.loop c) :: k) a h δ R :=
  fun kind hk cs => .ctl rfl (fun _ => stepG_loop) (hw kind hk cs)
theorem WK.inLoop {c : Code} (hw : WK P main S f (.code c :: .inLoop c :: k) a h δ R) : WK P main S f (.inLoop c :: k) a h δ R :=
  fun kind hk cs => .ctl rfl (fun _ => stepG_inLoop) (hw kind hk cs)
theorem WK.exit {id : Nat} {k' : List Item} (he : exitTo id k = some k') (hw : WK P main S f k' a h δ R) : WK P main S f (.code (.exit id) :: k) a h δ R :=
  fun kind hk cs => .ctl rfl (fun _ => stepG_exit he) (hw kind hk cs)
theorem WK.cond {c : Operand} {x y : Code} {t : Bool} (hc : a.eval c = .bool t) (hw : WK P main S f (.code (if t then x else y) :: k) a h δ R) : WK P main S f (.code (.cond c x y) :: k) a h δ R :=
  fun kind hk cs => .ctl rfl (fun _ => stepG_cond hc) (hw kind hk cs)
theorem WK.region {id : Nat} {ops : Array Oper} (hw : WK P main S f (.inRegion ops (List.range ops.size) :: k) a h δ R) : WK P main S f (.code (.region id ops false) :: k) a h δ R :=
  fun kind hk cs => .ctl rfl (fun _ => stepG_region) (hw kind hk cs)
theorem WK.regionEnd {ops : Array Oper} (hw : WK P main S f k a h δ R) : WK P main S f (.inRegion ops [] :: k) a h δ R :=
  fun kind hk cs => .ctl rfl (fun _ => stepG_region_end) (hw kind hk cs)
theorem WK.done (hw : WU P main S f .returning a h δ R) : WK P main S f [] a h δ R :=
  fun kind hk cs => .ctl rfl (fun _ => stepG_end) (hw kind hk cs [])
theorem WK.ret (hw : WU P main S f .returning a h δ R) : WK P main S f (.code .ret :: k) a h δ R :=
  fun kind hk cs => .ctl rfl (fun w => by simp [G, stepG, stepG.exec, Frame.at]) (hw kind hk cs (.code .ret :: k))
theorem WK.regionDraw {id : Nat} {ops : Array Oper} (hw : ∀ t, WK P main S f (.inRegion ops (Region.schedule (P.follows .mixedOrders) ops t) :: k) a h δ R) (hDu : ¬ S.dull δ.g) : WK P main S f (.code (.region id ops true) :: k) a h δ R :=
  fun kind hk cs => .of_step ⟨rfl, fun w hw' => by
    refine ⟨G ((fb f kind).at a (.inRegion ops (Region.schedule (P.follows .mixedOrders) ops (w.tape w.drawn (.order f id))) :: k)) cs, { w with drawn := w.drawn + 1 }, #[], h, ?_, ⟨rfl, rfl, rfl⟩, Chg.refl hw', by simp, ?_⟩
    · simp [G, stepG, stepG.exec, Frame.at, choose, Sem.run, Question.forced, Question.cut, fb]
    · rw [deafI_nil]
      exact hw _ kind hk cs, fun h1 => absurd h1 hDu⟩
theorem WU.ret0 {fn : Func} {v : Value} (hd : a.defers = []) (hf : P.funcs[f]? = some fn) (hv : Reads P fn a.tmps h v) (hR : R (.ret v) h δ) : WU P main S f .returning a h δ R :=
  fun _ _ _ todo => .stop ⟨a, todo, .returning, fn, rfl, hd, hf, .inl ⟨rfl, v, hv, hR⟩⟩
theorem reads_of {fn : Func} {tmps : Array Value} {v : Value} (hr : ∀ w, (results fn tmps).run P w = .ok v w) (he : ∀ w, (results fn tmps).events P w #[] = #[]) : Reads P fn tmps h v :=
  fun w _ => ⟨#[], by rw [Sem.runT_eq, hr, he], by simp⟩
theorem reads_none {fn : Func} {tmps : Array Value} (hr : fn.results = #[]) : Reads P fn tmps h (.tuple #[]) :=
  reads_of (fun w => results_none hr _ P w) (fun _ => events_results_none hr _ _)
theorem reads_tmp {fn : Func} {tmps : Array Value} {t : Tmp} {v : Value} (hr : fn.results = #[.tmp t]) (hv : tmps.getD t undef = v) : Reads P fn tmps h v :=
  hv ▸ reads_of (fun w => results_tmp hr _ P w) (fun _ => events_results_tmp hr _ _)
theorem reads_tmp2 {fn : Func} {tmps : Array Value} {t u : Tmp} {v x : Value} (hr : fn.results = #[.tmp t, .tmp u]) (hv : tmps.getD t undef = v) (hx : tmps.getD u undef = x) : Reads P fn tmps h (.tuple #[v, x]) :=
  hv ▸ hx ▸ reads_of (fun w => results_tmp2 hr _ P w) (fun _ => events_results_tmp2 hr _ _)
end
theorem deafBehind_reads {Pr : Nat -> Prop} {es : Array Event} (he : ∀ e ∈ es, ∃ a, e = (⟨.cell a, false, false⟩ : Event) /\ Pr a.block) (δ : Nat) : deafBehind δ es = δ := by
  obtain ⟨l⟩ := es
  induction l with
  | nil => rfl
  | cons e l ih =>
    have h1 := ih fun x hx => he x (by simp at hx ⊢; exact .inr hx)
    obtain ⟨a, rfl, -⟩ := he e (by simp)
    simpa [deafBehind] using h1
theorem seen_reads {P : Program} {f : FuncId} {S : Addr -> Prop} {Pr : Nat -> Prop} {es : Array Event} (he : ∀ e ∈ es, ∃ a, e = (⟨.cell a, false, false⟩ : Event) /\ Pr a.block) : (∀ e ∈ seen P f es, EvOk S e /\ EvIn Pr e) /\ ∀ δ : Ix Γ, deafI δ (seen P f es) = δ :=
  ⟨fun e h => by
    obtain ⟨a, rfl, hp⟩ := he e (mem_seen h)
    exact ⟨by simp [EvOk], evIn_cell (wr := false) (sy := false) hp _ (by simp)⟩, fun δ => by simp only [deafI, deafBehind_reads (fun e h => he e (mem_seen h)) δ.d]⟩
theorem seenStep_deaf (quiet : FuncId -> Bool) (q : Bool) (kept : Array Event) (e : Event) (he : ∀ m, e.loc = .mark m -> e.sync = true) (δ : Nat) :
    deafBehind δ (seenStep quiet (q, kept) e).2 = deafBehind (deafBehind δ kept) #[e] := by
  unfold seenStep
  dsimp only
  split
  · rename_i hf
    simp [deafBehind, hf]
  · dsimp only
    split
    · rename_i hq
      have hsync : e.sync = false := by simp at hq; exact hq.2
      cases hloc : e.loc with
      | mark m => exact absurd (he m hloc) (by simp [hsync])
      | _ => simp [deafBehind, hloc]
    · rw [Array.push_eq_append, deafBehind_app]
theorem seen_deaf (quiet : FuncId -> Bool) (δ : Nat) : ∀ (l : List Event) (q : Bool) (kept : Array Event), (∀ e ∈ l, ∀ m, e.loc = .mark m -> e.sync = true) ->
    deafBehind δ (l.foldl (seenStep quiet) (q, kept)).2 = deafBehind (deafBehind δ kept) l.toArray := by
  intro l
  induction l with
  | nil => intro q kept _; simp [deafBehind]
  | cons e l ih =>
    intro q kept hl
    have e1 : (e :: l).toArray = #[e] ++ l.toArray := by simp
    rw [List.foldl_cons, e1, deafBehind_app, <- seenStep_deaf quiet q kept e (hl e (List.mem_cons_self ..)) δ]
    exact ih (seenStep quiet (q, kept) e).1 (seenStep quiet (q, kept) e).2 fun x hx => hl x (List.mem_cons_of_mem _ hx)
theorem part_nil {L : Prop} (hL : ¬ L) (H : Hp) : Part L #[] H := ⟨fun b o hb => by simp at hb, by simp, fun x => absurd x hL⟩
theorem pres_nil {b : Nat} : ¬ Pres #[] b := fun ⟨o, hb, _⟩ => by simp at hb
theorem Reads.nil {P : Program} {fn : Func} {tmps : Array Value} {v : Value} (hr : Reads P fn tmps #[] v) (w : World) : (results fn tmps).runT P w #[] = (.ok v w, #[]) := by
  obtain ⟨es, h1, h2⟩ := hr w (part_nil (fun x => x) _)
  have : es = #[] := by
    apply Array.eq_empty_of_size_eq_zero
    apply Classical.byContradiction
    intro hn
    obtain ⟨e, he⟩ : ∃ e, e ∈ es := ⟨es[0], by simp⟩
    obtain ⟨a, _, hp⟩ := h2 e he
    exact pres_nil hp
  rw [this] at h1
  exact h1
theorem seenStep_dull (quiet : FuncId -> Bool) (e : Event) (q : Bool) (kept : Array Event) (he : EvDull e) (hk : ∀ x ∈ kept, Event.mute x = true) : ∀ x ∈ (seenStep quiet (q, kept) e).2, Event.mute x = true := by
  rcases he with rfl | rfl | ⟨f, rfl⟩
  · intro x hx
    simp [seenStep] at hx
    rcases hx with hx | rfl
    · exact hk x hx
    · rfl
  · intro x hx
    simp [seenStep] at hx
    rcases hx with hx | rfl
    · exact hk x hx
    · rfl
  · intro x hx
    simp [seenStep] at hx
    exact hk x hx
theorem seen_dull {P : Program} {f : FuncId} {es : Array Event} (he : ∀ e ∈ es, EvDull e) : ∀ e ∈ seen P f es, Event.mute e = true := by
  rw [seen_def]
  have key : ∀ (l : List Event) (q : Bool) (kept : Array Event), (∀ e ∈ l, EvDull e) -> (∀ x ∈ kept, Event.mute x = true) -> ∀ x ∈ (l.foldl (seenStep fun f => (P.funcs[f]?).any (·.norace)) (q, kept)).2, Event.mute x = true := by
    intro l
    induction l with
    | nil => exact fun _ _ _ h => h
    | cons a l ih =>
      intro q kept hl hk
      rw [List.foldl_cons]
      exact ih (seenStep _ (q, kept) a).1 (seenStep _ (q, kept) a).2 (fun e he => hl e (List.mem_cons_of_mem _ he)) (seenStep_dull _ a q kept (hl a (List.mem_cons_self ..)) hk)
  exact key es.toList _ #[] (fun e h => he e (Array.mem_toList_iff.1 h)) (by simp)
theorem deafBehind_seen {P : Program} {f : FuncId} (es : Array Event) (hs : ∀ e ∈ es, ∀ m, e.loc = .mark m -> e.sync = true) (δ : Nat) : deafBehind δ (seen P f es) = deafBehind δ es := by
  rw [seen_def, seen_deaf _ δ es.toList _ #[] (by simpa using hs), deafBehind_nil']
theorem deafI_seen {P : Program} {f : FuncId} (es : Array Event) (hs : ∀ e ∈ es, ∀ m, e.loc = .mark m -> e.sync = true) (δ : Ix Γ) : deafI δ (seen P f es) = deafI δ es := by
  simp only [deafI, deafBehind_seen es hs]
end
section
variable [Dm]
open Go Go.Conc
variable {Γ : Type}
section
variable {P : Program} {main : Bool} {S : Sit Γ} {f : FuncId} {a : Act} {h : Hp} {δ : Ix Γ} {R : Post Γ} {k : List Item}
theorem Runs.returns {g : FuncId} {ops : Array Oper} {i : Nat} {rest : List Nat} {o : Oper} {kind : CallKind} {cs : Callers kind} (ho : ops[i]? = some o) (hk : kind ≠ .early)
    {Rg : Post Γ} (hret : ∀ v h δ, Rg (.ret v) h δ -> WK P main S f (.inRegion ops rest :: k) (a.put o.dst v) h δ R) (hpan : ∀ c h δ, Rg (.pan c) h δ -> WU P main S f (.panicking c) a h δ R) :
    ∀ x h δ, Left P g .normal ((fb f kind).at a (.inRegion ops (i :: rest) :: k) :: cs) Rg x h δ -> Runs P main S (Left P f kind cs R) x h δ := by
  rintro x h δ ⟨a', todo, mode, fn, rfl, hd, hf, ⟨rfl, v, hv, hR⟩ | ⟨c, rfl, hR⟩⟩
  · refine .of_step ⟨rfl, fun w hw => ?_, fun _ _ h2 => ?_⟩
    obtain ⟨es, hrun, hes⟩ := hv w hw.weak
    refine ⟨G ((fb f kind).at (a.put o.dst v) (.inRegion ops rest :: k)) cs, w, seen P g es, h, ?_, Same.refl _, Chg.refl hw, (seen_reads (Γ := Γ) hes).1, ?_⟩
    · have hfin : ((fb f kind).at a (.inRegion ops (i :: rest) :: k)).finish v = (fb f kind).at (a.put o.dst v) (.inRegion ops rest :: k) := by rw [Frame.finish_at, ho]; rfl
      rw [<- hfin]
      simp only [G, stepG, unwind, Frame.at, hd, hf, fb, hrun]
      simp [doReturn, GStep.after]
    · rw [(seen_reads (Γ := Γ) (S := S.still δ.g) hes).2]
      exact hret v h δ hR kind hk cs
    · subst h2
      refine ⟨G ((fb f kind).at (a.put o.dst v) (.inRegion ops rest :: k)) cs, #[], by simp, fun w => ?_, by rw [deafI_nil]; exact hret v _ δ hR kind hk cs⟩
      have hfin : ((fb f kind).at a (.inRegion ops (i :: rest) :: k)).finish v = (fb f kind).at (a.put o.dst v) (.inRegion ops rest :: k) := by rw [Frame.finish_at, ho]; rfl
      rw [<- hfin]
      simp only [G, stepG, unwind, Frame.at, hd, hf, fb, hv.nil w]
      simp [doReturn, GStep.after, seen_def]
  · refine .ctl (g' := G { (fb f kind).at a (.inRegion ops (i :: rest) :: k) with mode := .panicking c } cs) rfl (fun w => ?_) (hpan c h δ hR kind hk cs _)
    simp [G, stepG, unwind, Frame.at, hd, hf, fb, Frame.catches, Frame.raise]
def NextK (P : Program) (main : Bool) (S : Sit Γ) (f : FuncId) (ops : Array Oper) (rest : List Nat) (k : List Item) (a : Act) (dst : Option Tmp) (R : Post Γ) : Next -> Hp -> Ix Γ -> Prop
  | .value v, h, δ => WK P main S f (.inRegion ops rest :: k) (a.put dst v) h δ R
  | .skip, h, δ => WK P main S f (.inRegion ops rest :: k) (a.put dst undef) h δ R
  | .recover, h, δ => WK P main S f (.inRegion ops rest :: k) (a.put dst .nilIface) h δ R
  | .defer d, h, δ => WK P main S f (.inRegion ops rest :: k) ({ a with defers := d :: a.defers }.put dst undef) h δ R
  | .enter g args, h, δ => CallW P main S g args h δ fun
      | .ret v, h', δ' => WK P main S f (.inRegion ops rest :: k) (a.put dst v) h' δ' R
      | .pan c, h', δ' => WU P main S f (.panicking c) a h' δ' R
  | _, _, _ => False
theorem evOk_seen {S : Addr -> Prop} {es : Array Event} (he : ∀ e ∈ es, EvOk S e) : (∀ e ∈ seen P f es, EvOk S e) /\ ∀ δ : Ix Γ, deafI δ (seen P f es) = deafI δ es :=
  ⟨fun e h => he e (mem_seen h), fun δ => deafI_seen es (fun e h => (he e h).2.2.2.2.2.2.1) δ⟩
theorem op_next {ops : Array Oper} {i : Nat} {rest : List Nat} {o : Oper} (ho : ops[i]? = some o) (hw : Region.wanted o (yielded ops a.tmps) = true) {kind : CallKind} (hk : kind ≠ .early) (cs : Callers kind) {n : Next} {h' : Hp} {δ' : Ix Γ} (hq : NextK P main S f ops rest k a o.dst R n h' δ') :
    ∃ g', (∀ w w' es, (execOp a.eval o).runT P w #[] = (.ok n w', es) -> stepG P main (G ((fb f kind).at a (.inRegion ops (i :: rest) :: k)) cs) w = .go g' w' (seen P f es)) /\ Runs P main S (Left P f kind cs R) g' h' δ' := by
  have hk' : (kind == CallKind.early) = false := by simpa using hk
  have hfin : ∀ v, ((fb f kind).at a (.inRegion ops (i :: rest) :: k)).finish v = (fb f kind).at (a.put o.dst v) (.inRegion ops rest :: k) := fun v => by rw [Frame.finish_at, ho]; rfl
  have hap : ∀ w, stepG P main (G ((fb f kind).at a (.inRegion ops (i :: rest) :: k)) cs) w = stepG.apply P true ((fb f kind).at a (.inRegion ops (i :: rest) :: k)) cs none (execOp a.eval o) w := fun w => stepG_oper ho hw
  have hkind : ((fb f kind).at a (.inRegion ops (i :: rest) :: k)).kind = kind := rfl
  have hfn : ((fb f kind).at a (.inRegion ops (i :: rest) :: k)).fn = f := rfl
  have htodo : ((fb f kind).at a (.inRegion ops (i :: rest) :: k)).todo = .inRegion ops (i :: rest) :: k := rfl
  cases n with
  | value v =>
    refine ⟨G ((fb f kind).at (a.put o.dst v) (.inRegion ops rest :: k)) cs, fun w w' es hrun' => ?_, hq kind hk cs⟩
    rw [hap, <- hfin]
    simp only [stepG.apply, hrun', if_true, hkind, hk', hfn, Bool.false_eq_true, if_false]
    simp [GStep.after, G]
  | skip =>
    refine ⟨G ((fb f kind).at (a.put o.dst undef) (.inRegion ops rest :: k)) cs, fun w w' es hrun' => ?_, hq kind hk cs⟩
    rw [hap, <- hfin]
    simp only [stepG.apply, hrun', if_true, hkind, hk', hfn, Bool.false_eq_true, if_false]
    simp [GStep.after, G]
  | defer d =>
    refine ⟨G ((fb f kind).at ({ a with defers := d :: a.defers }.put o.dst undef) (.inRegion ops rest :: k)) cs, fun w w' es hrun' => ?_, hq kind hk cs⟩
    have hfin2 : ({ (fb f kind).at a (.inRegion ops (i :: rest) :: k) with defers := d :: a.defers } : Frame).finish undef = (fb f kind).at ({ a with defers := d :: a.defers }.put o.dst undef) (.inRegion ops rest :: k) := by
      have := Frame.finish_at (fb f kind) { a with defers := d :: a.defers } ops i rest k undef
      rw [ho] at this; exact this
    rw [hap, <- hfin2]
    simp only [stepG.apply, hrun', if_true, hkind, hk', hfn, Bool.false_eq_true, if_false]
    simp [GStep.after, G, Frame.at]
  | enter g args =>
    refine ⟨G (Frame.enter P g args .normal) ((fb f kind).at a (.inRegion ops (i :: rest) :: k) :: cs), fun w w' es hrun' => ?_, ?_⟩
    · rw [hap]
      simp only [stepG.apply, hrun', if_true, hkind, hk', hfn, htodo, Bool.false_eq_true, if_false]
      simp [GStep.after, G]
    · exact (hq .normal (by simp) ⟨_, calm_normal _⟩).bind (Runs.returns ho hk (fun v h δ x => x) (fun c h δ x => x))
  | recover =>
    refine ⟨G ((fb f kind).at (a.put o.dst .nilIface) (.inRegion ops rest :: k)) cs, fun w w' es hrun' => ?_, hq kind hk cs⟩
    rw [hap, <- hfin]
    have hc := cs.calm ((fb f kind).at a (.inRegion ops (i :: rest) :: k)) rfl
    simp only [stepG.apply, hrun', if_true, hkind, hk', hfn, Bool.false_eq_true, if_false]
    have hro : ((fb f kind).at a (.inRegion ops (i :: rest) :: k)).roundOf = none := rfl
    simp [GStep.after, G, hro, hc]
  | _ => exact hq.elim
theorem op_pan {ops : Array Oper} {i : Nat} {rest : List Nat} {o : Oper} (ho : ops[i]? = some o) (hw : Region.wanted o (yielded ops a.tmps) = true) {kind : CallKind} (hk : kind ≠ .early) (cs : Callers kind) {v : Value} {h' : Hp} {δ' : Ix Γ} (hq : WU P main S f (.panicking [{ v, recovered := false }]) a h' δ' R) :
    ∃ g', (∀ w w' es, (execOp a.eval o).runT P w #[] = (.halt (.panic v) w', es) -> stepG P main (G ((fb f kind).at a (.inRegion ops (i :: rest) :: k)) cs) w = .go g' w' (seen P f es)) /\ Runs P main S (Left P f kind cs R) g' h' δ' := by
  have hk' : (kind == CallKind.early) = false := by simpa using hk
  have hap : ∀ w, stepG P main (G ((fb f kind).at a (.inRegion ops (i :: rest) :: k)) cs) w = stepG.apply P true ((fb f kind).at a (.inRegion ops (i :: rest) :: k)) cs none (execOp a.eval o) w := fun w => stepG_oper ho hw
  have hkind : ((fb f kind).at a (.inRegion ops (i :: rest) :: k)).kind = kind := rfl
  have hfn : ((fb f kind).at a (.inRegion ops (i :: rest) :: k)).fn = f := rfl
  refine ⟨G { (fb f kind).at a (.inRegion ops (i :: rest) :: k) with mode := .panicking [{ v, recovered := false }] } cs, fun w w' es hrun' => ?_, hq kind hk cs _⟩
  rw [hap]
  simp only [stepG.apply, hrun', if_true, hkind, hk', hfn, Bool.false_eq_true, if_false]
  simp [GStep.after, G, Frame.raise, Frame.at, fb]
theorem WK.op {ops : Array Oper} {i : Nat} {rest : List Nat} {o : Oper} (ho : ops[i]? = some o) (hw : Region.wanted o (yielded ops a.tmps) = true)
    (hs : SemW P S (execOp a.eval o) h δ (NextK P main S f ops rest k a o.dst R) (fun v h' δ' => WU P main S f (.panicking [{ v, recovered := false }]) a h' δ' R)) :
    WK P main S f (.inRegion ops (i :: rest) :: k) a h δ R := by
  intro kind hk cs
  refine .of_step ⟨rfl, fun w hwh => ?_, fun h1 h2 h3 => ?_⟩
  · obtain ⟨es, r, hrun, hev, hran⟩ := semW_sound _ h δ _ _ hs w hwh #[]
    have hrun' : (execOp a.eval o).runT P w #[] = (r, es) := by simpa using hrun
    obtain ⟨hevs, hdeaf⟩ := evOk_seen (Γ := Γ) (P := P) (f := f) hev
    cases r with
    | ok n w' =>
      obtain ⟨h', hsame, hhp, hin, hq⟩ := hran
      rw [<- hdeaf] at hq
      obtain ⟨g', hg, hr⟩ := op_next ho hw hk cs hq
      exact ⟨g', w', seen P f es, h', hg w w' es hrun', hsame, hhp, fun e he => ⟨hevs e he, hin e (mem_seen he)⟩, hr⟩
    | halt x w' =>
      cases x with
      | panic v =>
        obtain ⟨h', hsame, hhp, hin, hq⟩ := hran
        rw [<- hdeaf] at hq
        obtain ⟨g', hg, hr⟩ := op_pan ho hw hk cs hq
        exact ⟨g', w', seen P f es, h', hg w w' es hrun', hsame, hhp, fun e he => ⟨hevs e he, hin e (mem_seen he)⟩, hr⟩
      | _ => exact hran.elim
  · subst h3
    obtain ⟨es, he, hF⟩ := semW_dull _ #[] δ _ _ hs h1 h2 (fun _ => pres_nil)
    have hd : deafI δ (seen P f es) = deafI δ es := deafI_seen es (fun e hm m hl => by
      rcases he e hm with rfl | rfl | ⟨g, rfl⟩ <;> rfl) δ
    rcases hF with ⟨n, hn, hq⟩ | ⟨v, hn, hq⟩
    · rw [<- hd] at hq
      obtain ⟨g', hg, hr⟩ := op_next ho hw hk cs hq
      exact ⟨g', seen P f es, seen_dull he, fun w => hg w w es (by rw [hn]; simp), hr⟩
    · rw [<- hd] at hq
      obtain ⟨g', hg, hr⟩ := op_pan ho hw hk cs hq
      exact ⟨g', seen P f es, seen_dull he, fun w => hg w w es (by rw [hn]; simp), hr⟩
theorem WK.unwanted {ops : Array Oper} {i : Nat} {rest : List Nat} {o : Oper} (ho : ops[i]? = some o) (hw : Region.wanted o (yielded ops a.tmps) = false)
    (hn : WK P main S f (.inRegion ops rest :: k) (a.put o.dst undef) h δ R) : WK P main S f (.inRegion ops (i :: rest) :: k) a h δ R := by
  intro kind hk cs
  refine .ctl rfl (fun w => ?_) (hn kind hk cs)
  have hfin : ((fb f kind).at a (.inRegion ops (i :: rest) :: k)).finish undef = (fb f kind).at (a.put o.dst undef) (.inRegion ops rest :: k) := by rw [Frame.finish_at, ho]; rfl
  rw [<- hfin]
  simp [G, stepG, stepG.exec, Frame.at, ho, hw]
theorem callFunc_runT {g : FuncId} {fn : Func} {c : Code} (hf : P.funcs[g]? = some fn) (hb : fn.body = some c) (hn : fn.name ≠ "runtime.NumGoroutine") (args : Array Value) (w : World) :
    (callFunc g args).runT P w #[] = (.ok (.enter g args) w, #[]) := by
  have hn' : (fn.name == "runtime.NumGoroutine") = false := by simpa using hn
  unfold callFunc
  change Sem.runT P (Sem.bind (Sem.program Sem.pure) _) w #[] = _
  simp only [Sem.bind, Sem.runT, hf, hb, hn', Option.isNone, Bool.false_eq_true, if_false]
  rfl
theorem callFunc_semW {g : FuncId} {fn : Func} {c : Code} (hf : P.funcs[g]? = some fn) (hb : fn.body = some c) (hn : fn.name ≠ "runtime.NumGoroutine") {args : Array Value} {Q : Next -> Hp -> Ix Γ -> Prop} {X : Value -> Hp -> Ix Γ -> Prop}
    (hq : Q (.enter g args) h δ) : SemW P S (callFunc g args) h δ Q X := by
  have hn' : (fn.name == "runtime.NumGoroutine") = false := by simpa using hn
  unfold callFunc
  change SemW P S (Sem.bind (Sem.program Sem.pure) _) h δ Q X
  simp only [Sem.bind, SemW, hf, hb, hn', Option.isNone, Bool.false_eq_true, if_false]
  exact hq
theorem WU.deferRet {g : FuncId} {cap args : Array Value} {ds : List Deferred} {fn : Func} {c : Code} (hf : P.funcs[g]? = some fn) (hb : fn.body = some c) (hn : fn.name ≠ "runtime.NumGoroutine")
    (hc : CallW P main S g (args ++ cap) h δ fun
      | .ret _, h', δ' => WU P main S f .returning { a with defers := ds } h' δ' R
      | .pan _, _, _ => False) (hd : a.defers = { target := .fn (.func g) cap, args := args } :: ds) : WU P main S f .returning a h δ R := by
  intro kind hk cs todo
  have hinv : ∀ w, (invoke (.fn (.func g) cap) args).runT P w #[] = (.ok (.enter g (args ++ cap)) w, #[]) := by
    intro w
    have e : (invoke (.fn (.func g) cap) args).runT P w #[] = (callFunc g (args ++ cap)).runT P w #[] := rfl
    rw [e]
    exact callFunc_runT hf hb hn (args ++ cap) w
  refine .ctl (g' := G (Frame.enter P g (args ++ cap) .deferred) ({ (fb f kind).at { a with defers := ds } todo with mode := .returning } :: cs)) rfl (fun w => ?_) ?_
  · simp only [G, stepG, unwind, Frame.at, hd, callDeferred, fb]
    rw [hinv]
    simp [GStep.after, seen_def]
  · refine (hc .deferred (by simp) ⟨_, calm_deferred rfl⟩).bind ?_
    rintro x h δ ⟨a', todo', mode, fn', rfl, hd', hf', ⟨rfl, v, hv, hR⟩ | ⟨c, rfl, hR⟩⟩
    · refine .of_step ⟨rfl, fun w hw => ?_, fun _ _ h2 => ?_⟩
      obtain ⟨es, hrun, hes⟩ := hv w hw.weak
      refine ⟨G { (fb f kind).at { a with defers := ds } todo with mode := .returning } cs, w, seen P g es, h, ?_, Same.refl _, Chg.refl hw, (seen_reads (Γ := Γ) hes).1, ?_⟩
      · simp only [G, stepG, unwind, Frame.at, hd', hf', fb, hrun]
        simp [doReturn, GStep.after]
      · rw [(seen_reads (Γ := Γ) (S := S.still δ.g) hes).2]
        exact hR kind hk cs todo
      · subst h2
        refine ⟨G { (fb f kind).at { a with defers := ds } todo with mode := .returning } cs, #[], by simp, fun w => ?_, by rw [deafI_nil]; exact hR kind hk cs todo⟩
        simp only [G, stepG, unwind, Frame.at, hd', hf', fb, hv.nil w]
        simp [doReturn, GStep.after, seen_def]
    · exact hR.elim
end
end
section
variable [Dm]
open Go Go.Conc
variable {Γ : Type}
class Inf (P : Program) (t : TypeId) (sz : outParam Nat) (by_ : outParam Nat) (z : outParam Value) : Prop where
  out : (P.info? t).map (fun i => (i.size, i.bytes, i.zero)) = some (sz, by_, some z)
theorem Inf.get {P : Program} {t sz by_ : Nat} {z : Value} (i : Inf P t sz by_ z) : ∃ inf, P.info? t = some inf /\ inf.size = sz /\ inf.bytes = by_ /\ inf.zero = some z := by
  have := i.out
  cases h : P.info? t with
  | none => rw [h] at this; cases this
  | some inf => rw [h] at this; simp at this; exact ⟨inf, rfl, this⟩
class FieldOff (P : Program) (s fld : Nat) (off : outParam Nat) : Prop where
  out : ∃ fields fd inf, P.underlying s = some (.struct fields) /\ fields[fld]? = some fd /\ fd.offset = off /\ P.info? fd.type = some inf /\ inf.size ≠ 0
theorem FieldOff.mk' {P : Program} {s fld off sz by_ ft : Nat} {z : Value} {fields : Array Field} {fd : Field} (hu : P.underlying s = some (.struct fields)) (hf : fields[fld]? = some fd) (ho : fd.offset = off) (ht : fd.type = ft) (i : Inf P ft sz by_ z) (hs : sz ≠ 0) : FieldOff P s fld off := by
  obtain ⟨inf, h1, h2, _⟩ := i.get
  exact ⟨fields, fd, inf, hu, hf, ho, ht ▸ h1, h2 ▸ hs⟩
def TypeDesc.aggB : TypeDesc -> Bool
  | .struct _ | .array _ _ => true
  | _ => false
class Scal (P : Program) (t : TypeId) : Prop where
  out : ∃ d, P.underlying t = some d /\ TypeDesc.aggB d = false /\ ∃ inf, P.info? t = some inf /\ inf.size = 1
theorem Scal.mk' {P : Program} {t by_ : Nat} {z : Value} {d : TypeDesc} (hu : P.underlying t = some d) (hd : TypeDesc.aggB d = false) (i : Inf P t 1 by_ z) : Scal P t := by
  obtain ⟨inf, h1, h2, _⟩ := i.get
  exact ⟨d, hu, hd, inf, h1, h2⟩
class Aggr (P : Program) (t : TypeId) (n : outParam Nat) : Prop where
  out : ∃ d, P.underlying t = some d /\ TypeDesc.aggB d = true /\ ∃ inf, P.info? t = some inf /\ inf.size = n
theorem Aggr.mk' {P : Program} {t n by_ : Nat} {z : Value} {d : TypeDesc} (hu : P.underlying t = some d) (hd : TypeDesc.aggB d = true) (i : Inf P t n by_ z) : Aggr P t n := by
  obtain ⟨inf, h1, h2, _⟩ := i.get
  exact ⟨d, hu, hd, inf, h1, h2⟩
class Und (P : Program) (t : TypeId) (d : outParam TypeDesc) : Prop where
  out : P.underlying t = some d
class IsFn (P : Program) (f : FuncId) (fn : outParam Func) : Prop where
  out : P.funcs[f]? = some fn
class ExtFn (P : Program) (f : FuncId) (e : outParam (Array Value -> Sem Value)) : Prop where
  out : ∃ fn, P.funcs[f]? = some fn /\ (fn.name == "runtime.NumGoroutine") = false /\ fn.body.isNone = true /\ Extern.findNext fn = none /\ Extern.find fn = some e
section
variable {P : Program} {S : Sit Γ} {h : Hp} {δ : Ix Γ} {X : Value -> Hp -> Ix Γ -> Prop}
theorem semW_pure {β : Type} {b : β} {Q : β -> Hp -> Ix Γ -> Prop} (hs : Q b h δ) : SemW P S (pure b) h δ Q X := hs
theorem semW_pureBind {α β : Type} {a : α} {g : α -> Sem β} {Q : β -> Hp -> Ix Γ -> Prop} (hs : SemW P S (g a) h δ Q X) : SemW P S (pure a >>= g) h δ Q X := hs
theorem semW_underlying {β : Type} {t : TypeId} {d : TypeDesc} (hu : P.underlying t = some d) {g : TypeDesc -> Sem β} {Q : β -> Hp -> Ix Γ -> Prop} (hs : SemW P S (g d) h δ Q X) : SemW P S (underlying t >>= g) h δ Q X := by
  change SemW P S (Sem.bind (Sem.bind (Sem.program Sem.pure) _) g) h δ Q X
  simp only [Sem.bind, SemW, hu]
  exact hs
theorem semW_typeInfo {β : Type} {t : TypeId} {i : TypeInfo} (hu : P.info? t = some i) {g : TypeInfo -> Sem β} {Q : β -> Hp -> Ix Γ -> Prop} (hs : SemW P S (g i) h δ Q X) : SemW P S (typeInfo t >>= g) h δ Q X := by
  change SemW P S (Sem.bind (Sem.bind (Sem.program Sem.pure) _) g) h δ Q X
  simp only [Sem.bind, SemW, hu]
  exact hs
theorem semW_sizeOf {β : Type} {t : TypeId} {i : TypeInfo} (hu : P.info? t = some i) {g : Nat -> Sem β} {Q : β -> Hp -> Ix Γ -> Prop} (hs : SemW P S (g i.size) h δ Q X) : SemW P S (sizeOf t >>= g) h δ Q X := by
  refine semW_bind _ _ _ _ _ _ (semW_bind _ _ _ _ _ _ ?_)
  change SemW P S (Sem.bind (Sem.program Sem.pure) _) h δ _ X
  simp only [Sem.bind, SemW, hu]
  exact hs
theorem semW_zeroValue {β : Type} {t : TypeId} {i : TypeInfo} {z : Value} (hu : P.info? t = some i) (hz : i.zero = some z) {g : Value -> Sem β} {Q : β -> Hp -> Ix Γ -> Prop} (hs : SemW P S (g z) h δ Q X) : SemW P S (zeroValue t >>= g) h δ Q X := by
  refine semW_bind _ _ _ _ _ _ (semW_bind _ _ _ _ _ _ ?_)
  change SemW P S (Sem.bind (Sem.program Sem.pure) _) h δ _ X
  simp only [Sem.bind, SemW, hu]
  refine semW_pureBind (g := fun inf : TypeInfo => (match inf.zero with | some v => pure v | none => unsupported (.resourceLimit "a value of more than 2^22 cells") : Sem Value)) ?_
  simp only [hz]
  exact hs
theorem semW_isAgg {β : Type} {t : TypeId} {d : TypeDesc} (hu : P.underlying t = some d) {g : Bool -> Sem β} {Q : β -> Hp -> Ix Γ -> Prop} (hs : SemW P S (g (TypeDesc.aggB d)) h δ Q X) : SemW P S (isAgg t >>= g) h δ Q X := by
  refine semW_bind _ _ _ _ _ _ ?_
  unfold isAgg
  refine semW_underlying hu ?_
  cases d <;> exact hs
def OneCell (v : Value) : Prop := (∀ c, v ≠ .agg c) /\ (∀ c, v ≠ .tuple c)
def hrow (h : Hp) (b off : Nat) (vs : List Value) : Prop := ∀ (i : Nat) (v : Value), vs[i]? = some v -> hcell h ⟨b, off + i, none⟩ = some v
theorem add_eq (b off n : Nat) : (⟨b, off, none⟩ : Addr).add n = ⟨b, off + n, none⟩ := by
  unfold Addr.add; split
  · simp_all
  · rfl
theorem semW_loadCellsFrom {b off : Nat} {Q : Array Value -> Hp -> Ix Γ -> Prop} : ∀ (vs : List Value) (i : Nat) (acc : Array Value), (∀ (j : Nat) (v : Value), vs[j]? = some v -> hcell h ⟨b, off + i + j, none⟩ = some v) ->
    Q (acc ++ vs.toArray) h δ -> SemW P S (loadCellsFrom ⟨b, off, none⟩ i vs.length acc) h δ Q X := by
  intro vs
  induction vs with
  | nil => intro i acc _ hq; show Q acc h δ; simpa using hq
  | cons v vs ih =>
    intro i acc hr hq
    simp only [List.length_cons, loadCellsFrom]
    refine ⟨v, ?_, ?_⟩
    · rw [add_eq]; exact hr 0 v rfl
    · refine ih (i + 1) (acc.push v) (fun j x hx => ?_) ?_
      · have := hr (j + 1) x hx
        rw [show off + (i + 1) + j = off + i + (j + 1) by omega]; exact this
      · rw [show acc.push v ++ vs.toArray = acc ++ (v :: vs).toArray by simp]; exact hq
theorem semW_loadVar1 {t : TypeId} [s : Scal P t] {a : Addr} {v : Value} {Q : Value -> Hp -> Ix Γ -> Prop} (hc : hcell h a = some v) (hq : Q v h δ) : SemW P S (loadVar t a) h δ Q X := by
  obtain ⟨d, hu, hd, _⟩ := s.out
  unfold loadVar
  refine semW_isAgg hu ?_
  rw [hd]
  exact ⟨v, hc, hq⟩
theorem semW_loadVarN {t n : TypeId} [s : Aggr P t n] {b off : Nat} {vs : List Value} {Q : Value -> Hp -> Ix Γ -> Prop} (hn : vs.length = n) (hc : hrow h b off vs) (hq : Q (.agg vs.toArray) h δ) : SemW P S (loadVar t ⟨b, off, none⟩) h δ Q X := by
  obtain ⟨d, hu, hd, inf, hi, hsz⟩ := s.out
  unfold loadVar
  refine semW_isAgg hu ?_
  rw [hd]
  simp only [if_true]
  refine semW_sizeOf hi ?_
  refine semW_bind _ _ _ _ _ _ ?_
  rw [hsz, <- hn]
  refine semW_loadCellsFrom vs 0 #[] (fun j v hv => by simpa using hc j v hv) ?_
  show Q (.agg (#[] ++ vs.toArray)) h δ
  simpa using hq
def hsetRow (h : Hp) (b off : Nat) : List Value -> Hp
  | [] => h
  | v :: vs => hsetRow (hset h ⟨b, off, none⟩ v) b (off + 1) vs
theorem semW_storeCells {b off : Nat} {Q : Unit -> Hp -> Ix Γ -> Prop} : ∀ (vs : List Value) (i : Nat) (h : Hp), (∀ v ∈ vs, OneCell v) -> (∀ j, j < vs.length -> (∃ o, hcell h ⟨b, off + i + j, none⟩ = some o) /\ hfroz h ⟨b, off + i + j, none⟩ = false /\ ¬ S.still δ.g ⟨b, off + i + j, none⟩) ->
    Q () (hsetRow h b (off + i) vs) δ -> SemW P S (storeCells ⟨b, off, none⟩ vs i) h δ Q X := by
  intro vs
  induction vs with
  | nil => intro i h _ _ hq; exact hq
  | cons v vs ih =>
    intro i h h1 hc hq
    unfold storeCells
    obtain ⟨h3, h4, h5⟩ := hc 0 (by simp)
    rw [Nat.add_zero] at h3 h4 h5
    refine ⟨(h1 v (by simp)).1, (h1 v (by simp)).2, by rw [add_eq]; exact h3, by rw [add_eq]; exact h4, by rw [add_eq]; exact h5, ?_⟩
    rw [add_eq]
    refine ih (i + 1) _ (fun x hx => h1 x (List.mem_cons_of_mem _ hx)) (fun j hj => ?_) hq
    obtain ⟨⟨o, g3⟩, g4, g5⟩ := hc (j + 1) (by simp; omega)
    rw [show off + i + (j + 1) = off + (i + 1) + j by omega] at g3 g4 g5
    refine ⟨⟨o, ?_⟩, ?_, g5⟩
    · rw [hset_cell_ne _ _ _ _ (by simp; omega) h3]; exact g3
    · obtain ⟨c, e, f, hb, _, _⟩ := hcell_some g3
      unfold hfroz at g4 ⊢
      dsimp only at hb g4 ⊢
      rw [hb] at g4
      rw [hset_get]
      simp only [hb]
      simpa using g4
theorem semW_storeVar1 {t : TypeId} [s : Scal P t] {b off : Nat} {v : Value} {Q : Unit -> Hp -> Ix Γ -> Prop} (hv : OneCell v) (hc : ∃ o, hcell h ⟨b, off, none⟩ = some o) (hf : hfroz h ⟨b, off, none⟩ = false) (hS : ¬ S.still δ.g ⟨b, off, none⟩)
    (hq : Q () (hset h ⟨b, off, none⟩ v) δ) : SemW P S (storeVar t ⟨b, off, none⟩ v) h δ Q X := by
  obtain ⟨d, hu, hd, inf, hi, hsz⟩ := s.out
  have hcells : v.cells = #[v] := by
    unfold Value.cells
    split
    · exact absurd rfl (hv.1 _)
    · rfl
  unfold storeVar
  refine semW_sizeOf hi ?_
  rw [hcells, hsz]
  exact semW_storeCells [v] 0 h (by simpa using hv) (fun j hj => by
    have : j = 0 := by simp at hj; omega
    subst this; exact ⟨hc, hf, hS⟩) hq
theorem semW_storeVarN {t n : TypeId} [s : Aggr P t n] {b off : Nat} {vs : List Value} {Q : Unit -> Hp -> Ix Γ -> Prop} (hn : vs.length = n) (hv : ∀ v ∈ vs, OneCell v) (hc : ∀ j, j < n -> (∃ o, hcell h ⟨b, off + j, none⟩ = some o) /\ hfroz h ⟨b, off + j, none⟩ = false /\ ¬ S.still δ.g ⟨b, off + j, none⟩)
    (hq : Q () (hsetRow h b off vs) δ) : SemW P S (storeVar t ⟨b, off, none⟩ (.agg vs.toArray)) h δ Q X := by
  obtain ⟨d, hu, hd, inf, hi, hsz⟩ := s.out
  unfold storeVar
  refine semW_sizeOf hi ?_
  have : (Value.agg vs.toArray).cells.size = inf.size := by simp [Value.cells, hsz, hn]
  simp only [this, ne_eq, not_true_eq_false, if_false]
  exact semW_storeCells vs 0 h hv (fun j hj => by simpa using hc j (hn ▸ hj)) hq
end
end
section
variable [Dm]
open Go Go.Conc
variable {Γ : Type}
abbrev Env := List (Nat × Value)
def look : Env -> Nat -> Option Value
  | [], _ => none
  | (i, v) :: l, j => match Nat.beq i j with
    | true => some v
    | false => look l j
def ev (env : Env) : Operand -> Option Value
  | .tmp t => look env t
  | .const v => some v
  | .global g => some (.pointer (some ⟨g, 0, none⟩))
  | .func f => some (.func (.func f) #[] #[])
structure Kn (n : Nat) (env : Env) (ds : List Deferred) (a : Act) : Prop where
  size : a.tmps.size = n
  defers : a.defers = ds
  knows : ∀ i v, look env i = some v -> a.tmps[i]? = some v
theorem Kn.eval {n : Nat} {env : Env} {ds : List Deferred} {a : Act} (k : Kn n env ds a) {x : Operand} {v : Value} (h : ev env x = some v) : a.eval x = v := by
  cases x with
  | tmp t => simp only [Act.eval, Array.getD_eq_getD_getElem?, k.knows t v h]; rfl
  | const c => exact Option.some.inj h
  | global g => exact Option.some.inj h
  | func f => exact Option.some.inj h
theorem look_cons (i : Nat) (v : Value) (l : Env) (j : Nat) : look ((i, v) :: l) j = if i = j then some v else look l j := by
  simp only [look]
  split
  · rename_i h; rw [if_pos (Nat.eq_of_beq_eq_true h)]
  · rename_i h; rw [if_neg (fun e => by subst e; simp at h)]
theorem Kn.put {n : Nat} {env : Env} {ds : List Deferred} {a : Act} (k : Kn n env ds a) {d : Nat} (v : Value) (hd : Nat.blt d n = true) : Kn n ((d, v) :: env) ds (a.put (some d) v) := by
  have hd' : d < n := by simpa [Nat.blt_eq] using hd
  refine ⟨by simp [Act.put, k.size], k.defers, fun i x hx => ?_⟩
  rw [look_cons] at hx
  simp only [Act.put]
  by_cases e : d = i
  · subst e
    rw [if_pos rfl] at hx
    rw [Array.getElem?_setIfInBounds_self_of_lt (by rw [k.size]; exact hd'), hx]
  · rw [if_neg e] at hx
    rw [Array.getElem?_setIfInBounds_ne e]
    exact k.knows i x hx
def subE : Env -> Env -> Prop
  | [], _ => True
  | (i, v) :: l, env => look env i = some v /\ subE l env
theorem subE_look {e env : Env} (h : subE e env) {i : Nat} {v : Value} (hl : look e i = some v) : look env i = some v := by
  induction e with
  | nil => cases hl
  | cons p l ih =>
    obtain ⟨j, x⟩ := p
    rw [look_cons] at hl
    obtain ⟨h1, h2⟩ := h
    split at hl
    · rename_i e; subst e; cases hl; exact h1
    · exact ih h2 hl
theorem Kn.sub {n : Nat} {env e : Env} {ds : List Deferred} {a : Act} (k : Kn n env ds a) (h : subE e env) : Kn n e ds a :=
  ⟨k.size, k.defers, fun i v hl => k.knows i v (subE_look h hl)⟩
def keep (env : Env) (is : List Nat) : Env := is.filterMap fun i => (look env i).map fun v => (i, v)
theorem subE_keep (env : Env) (is : List Nat) : subE (keep env is) env := by
  induction is with
  | nil => trivial
  | cons i l ih =>
    unfold keep at *
    rw [List.filterMap_cons]
    cases h : look env i with
    | none => exact ih
    | some v => exact ⟨h, ih⟩
def wantE (ops : Array Oper) (env : Env) : Option (Nat × Bool) -> Option Bool
  | none => some true
  | some (j, b) =>
    match (ops[j]?).bind (·.dst) with
    | some t => match look env t with
      | some (.bool x) => some (x == b)
      | some (.tuple _) => some false
      | _ => none
    | none => none
theorem wantE_ok {ops : Array Oper} {n : Nat} {env : Env} {ds : List Deferred} {a : Act} (k : Kn n env ds a) {o : Oper} {b : Bool} (h : wantE ops env o.guard = some b) : Region.wanted o (yielded ops a.tmps) = b := by
  unfold Region.wanted
  cases hg : o.guard with
  | none => rw [hg] at h; simp [wantE] at h; simp [h]
  | some p =>
    obtain ⟨j, x⟩ := p
    rw [hg] at h
    simp only [wantE] at h
    split at h
    · rename_i t ht
      split at h
      · rename_i y hy
        have e : yielded ops a.tmps j = some y := by
          unfold yielded
          rw [ht]
          simp only [Option.bind_some, k.knows t _ hy]
        dsimp only
        rw [e]
        have : (y == x) = b := Option.some.inj h
        simpa using this
      · rename_i y hy
        have e : yielded ops a.tmps j = none := by
          unfold yielded
          rw [ht]
          simp only [Option.bind_some, k.knows t _ hy]
        dsimp only
        rw [e]
        have : false = b := Option.some.inj h
        simpa using this
      · cases h
    · cases h
section
variable (P : Program) (main : Bool) (S : Sit Γ) (f : FuncId) (n : Nat)
def EK (todo : List Item) (env : Env) (ds : List Deferred) (h : Hp) (δ : Ix Γ) (R : Post Γ) : Prop := ∀ a, Kn n env ds a -> WK P main S f todo a h δ R
def EU (mode : FrameMode) (env : Env) (ds : List Deferred) (h : Hp) (δ : Ix Γ) (R : Post Γ) : Prop := ∀ a, Kn n env ds a -> WU P main S f mode a h δ R
def ER (ops : Array Oper) (l : List Oper) (k : List Item) (env : Env) (ds : List Deferred) (h : Hp) (δ : Ix Γ) (R : Post Γ) : Prop :=
  ∀ rest : List Nat, rest.map (fun i => ops[i]?) = l.map some -> EK P main S f n (.inRegion ops rest :: k) env ds h δ R
end
section
variable {P : Program} {main : Bool} {S : Sit Γ} {f : FuncId} {n : Nat} {k : List Item} {env : Env} {ds : List Deferred} {h : Hp} {δ : Ix Γ} {R : Post Γ}
theorem EK.sub {todo : List Item} {e : Env} (hs : subE e env) (hk : EK P main S f n todo e ds h δ R) : EK P main S f n todo env ds h δ R := fun a ka => hk a (ka.sub hs)
theorem EK.keeps {todo : List Item} (is : List Nat) (hk : EK P main S f n todo (keep env is) ds h δ R) : EK P main S f n todo env ds h δ R := EK.sub (subE_keep env is) hk
theorem EK.skip (hw : EK P main S f n k env ds h δ R) : EK P main S f n (.code .skip :: k) env ds h δ R := fun a ka => WK.skip (hw a ka)
theorem EK.inBlock {id : Nat} (hw : EK P main S f n k env ds h δ R) : EK P main S f n (.inBlock id :: k) env ds h δ R := fun a ka => WK.inBlock (hw a ka)
theorem EK.seq {x y : Code} (hw : EK P main S f n (.code x :: .code y :: k) env ds h δ R) : EK P main S f n (.code (.seq x y) :: k) env ds h δ R := fun a ka => WK.seq (hw a ka)
theorem EK.block {id : Nat} {c : Code} (hw : EK P main S f n (.code c :: .inBlock id :: k) env ds h δ R) : EK P main S f n (.code (.block id c) :: k) env ds h δ R := fun a ka => WK.block (hw a ka)
theorem EK.loop {c : Code} (hw : EK P main S f n (.code c :: .inLoop c :: k) env ds h δ R) : EK P main S f n (.code (.loop c) :: k) env ds h δ R := fun a ka => WK.loop (hw a ka)
theorem EK.inLoop {c : Code} (hw : EK P main S f n (.code c :: .inLoop c :: k) env ds h δ R) : EK P main S f n (.inLoop c :: k) env ds h δ R := fun a ka => WK.inLoop (hw a ka)
theorem EK.exit {id : Nat} {k' : List Item} (he : exitTo id k = some k') (hw : EK P main S f n k' env ds h δ R) : EK P main S f n (.code (.exit id) :: k) env ds h δ R := fun a ka => WK.exit he (hw a ka)
theorem EK.condT {c : Operand} {x y : Code} (hc : ev env c = some (.bool true)) (hw : EK P main S f n (.code x :: k) env ds h δ R) : EK P main S f n (.code (.cond c x y) :: k) env ds h δ R := fun a ka => WK.cond (ka.eval hc) (hw a ka)
theorem EK.condF {c : Operand} {x y : Code} (hc : ev env c = some (.bool false)) (hw : EK P main S f n (.code y :: k) env ds h δ R) : EK P main S f n (.code (.cond c x y) :: k) env ds h δ R := fun a ka => WK.cond (ka.eval hc) (hw a ka)
theorem EK.done (hw : EU P main S f n .returning env ds h δ R) : EK P main S f n [] env ds h δ R := fun a ka => WK.done (hw a ka)
theorem EK.ret (hw : EU P main S f n .returning env ds h δ R) : EK P main S f n (.code .ret :: k) env ds h δ R := fun a ka => WK.ret (hw a ka)
theorem EK.region {id : Nat} {ops : Array Oper} (hw : ER P main S f n ops ops.toList k env ds h δ R) : EK P main S f n (.code (.region id ops false) :: k) env ds h δ R := by
  intro a ka
  refine WK.region (hw _ ?_ a ka)
  apply List.ext_getElem?
  intro i
  simp only [List.getElem?_map, Array.getElem?_toList]
  by_cases hi : i < ops.size
  · simp [hi]
  · have h1 : (List.range ops.size)[i]? = none := by simp; omega
    have h2 : ops[i]? = none := by simp; omega
    rw [h1, h2]; rfl
theorem ER.done {ops : Array Oper} (hw : EK P main S f n k env ds h δ R) : ER P main S f n ops [] k env ds h δ R := by
  intro rest hr a ka
  have : rest = [] := by simpa using hr
  subst this
  exact WK.regionEnd (hw a ka)
theorem ER.uncons {ops : Array Oper} {o : Oper} {l : List Oper} {rest : List Nat} (hr : rest.map (fun i => ops[i]?) = (o :: l).map some) : ∃ i r, rest = i :: r /\ ops[i]? = some o /\ r.map (fun i => ops[i]?) = l.map some := by
  cases rest with
  | nil => cases hr
  | cons i r => simp at hr; exact ⟨i, r, rfl, hr.1, by simpa using hr.2⟩
theorem ER.no {ops : Array Oper} {l : List Oper} {d : Nat} {op : Op} {ty : TypeId} {pos : String} {af : Array Edge} {g : Option (Nat × Bool)} (hw : wantE ops env g = some false) (hd : Nat.blt d n = true)
    (hn : ER P main S f n ops l k ((d, undef) :: env) ds h δ R) : ER P main S f n ops (⟨some d, op, ty, pos, af, g⟩ :: l) k env ds h δ R := by
  intro rest hr a ka
  obtain ⟨i, r, rfl, ho, hr'⟩ := ER.uncons hr
  exact WK.unwanted ho (wantE_ok ka (o := ⟨some d, op, ty, pos, af, g⟩) hw) (hn r hr' _ (ka.put undef hd))
theorem ER.noU {ops : Array Oper} {l : List Oper} {op : Op} {ty : TypeId} {pos : String} {af : Array Edge} {g : Option (Nat × Bool)} (hw : wantE ops env g = some false)
    (hn : ER P main S f n ops l k env ds h δ R) : ER P main S f n ops (⟨none, op, ty, pos, af, g⟩ :: l) k env ds h δ R := by
  intro rest hr a ka
  obtain ⟨i, r, rfl, ho, hr'⟩ := ER.uncons hr
  exact WK.unwanted ho (wantE_ok ka (o := ⟨none, op, ty, pos, af, g⟩) hw) (hn r hr' _ ka)
theorem ER.val {ops : Array Oper} {l : List Oper} {d : Nat} {op : Op} {ty : TypeId} {pos : String} {af : Array Edge} {g : Option (Nat × Bool)} {Q : Value -> Hp -> Ix Γ -> Prop} (hw : wantE ops env g = some true) (hd : Nat.blt d n = true)
    (hs : ∀ ρ : Operand -> Value, (∀ x v, ev env x = some v -> ρ x = v) -> SemW P S (execOp ρ ⟨some d, op, ty, pos, af, g⟩) h δ (fun nx h' δ' => ∃ v, nx = .value v /\ Q v h' δ') (fun v h' δ' => EU P main S f n (.panicking [{ v, recovered := false }]) env ds h' δ' R))
    (hn : ∀ v h' δ', Q v h' δ' -> ER P main S f n ops l k ((d, v) :: env) ds h' δ' R) : ER P main S f n ops (⟨some d, op, ty, pos, af, g⟩ :: l) k env ds h δ R := by
  intro rest hr a ka
  obtain ⟨i, r, rfl, ho, hr'⟩ := ER.uncons hr
  refine WK.op ho (wantE_ok ka (o := ⟨some d, op, ty, pos, af, g⟩) hw) (semW_mono _ _ _ (hs a.eval (fun x v hx => ka.eval hx)) ?_ (fun v h δ hx => hx a ka))
  rintro nx h' δ' ⟨v, rfl, hq⟩
  exact hn v h' δ' hq r hr' _ (ka.put v hd)
theorem ER.unit {ops : Array Oper} {l : List Oper} {op : Op} {ty : TypeId} {pos : String} {af : Array Edge} {g : Option (Nat × Bool)} {Q : Hp -> Ix Γ -> Prop} (hw : wantE ops env g = some true)
    (hs : ∀ ρ : Operand -> Value, (∀ x v, ev env x = some v -> ρ x = v) -> SemW P S (execOp ρ ⟨none, op, ty, pos, af, g⟩) h δ (fun nx h' δ' => (nx = .skip \/ ∃ v, nx = .value v) /\ Q h' δ') (fun v h' δ' => EU P main S f n (.panicking [{ v, recovered := false }]) env ds h' δ' R))
    (hn : ∀ h' δ', Q h' δ' -> ER P main S f n ops l k env ds h' δ' R) : ER P main S f n ops (⟨none, op, ty, pos, af, g⟩ :: l) k env ds h δ R := by
  intro rest hr a ka
  obtain ⟨i, r, rfl, ho, hr'⟩ := ER.uncons hr
  refine WK.op ho (wantE_ok ka (o := ⟨none, op, ty, pos, af, g⟩) hw) (semW_mono _ _ _ (hs a.eval (fun x v hx => ka.eval hx)) ?_ (fun v h δ hx => hx a ka))
  rintro nx h' δ' ⟨rfl | ⟨v, rfl⟩, hq⟩
  · exact hn h' δ' hq r hr' _ ka
  · exact hn h' δ' hq r hr' _ ka
theorem ER.callGen {ops : Array Oper} {l : List Oper} {d : Nat} {op : Op} {ty : TypeId} {pos : String} {af : Array Edge} {g : Option (Nat × Bool)} {c : FuncId} {args : Array Value} (hw : wantE ops env g = some true) (hd : Nat.blt d n = true)
    (hs : ∀ (ρ : Operand -> Value) (Q : Next -> Hp -> Ix Γ -> Prop) (X : Value -> Hp -> Ix Γ -> Prop), (∀ x v, ev env x = some v -> ρ x = v) -> Q (.enter c args) h δ -> SemW P S (execOp ρ ⟨some d, op, ty, pos, af, g⟩) h δ Q X)
    (hn : CallW P main S c args h δ fun
      | .ret v, h', δ' => ER P main S f n ops l k ((d, v) :: env) ds h' δ' R
      | .pan p, h', δ' => EU P main S f n (.panicking p) env ds h' δ' R) : ER P main S f n ops (⟨some d, op, ty, pos, af, g⟩ :: l) k env ds h δ R := by
  intro rest hr a ka
  obtain ⟨i, r, rfl, ho, hr'⟩ := ER.uncons hr
  refine WK.op ho (wantE_ok ka (o := ⟨some d, op, ty, pos, af, g⟩) hw) (hs a.eval _ _ (fun x v hx => ka.eval hx) (hn.mono ?_))
  rintro (v | p) h' δ' hq
  · exact hq r hr' _ (ka.put v hd)
  · exact hq a ka
theorem ER.deferGen {ops : Array Oper} {l : List Oper} {op : Op} {ty : TypeId} {pos : String} {af : Array Edge} {g : Option (Nat × Bool)} {d : Deferred} (hw : wantE ops env g = some true)
    (hs : ∀ (ρ : Operand -> Value) (Q : Next -> Hp -> Ix Γ -> Prop) (X : Value -> Hp -> Ix Γ -> Prop), (∀ x v, ev env x = some v -> ρ x = v) -> Q (.defer d) h δ -> SemW P S (execOp ρ ⟨none, op, ty, pos, af, g⟩) h δ Q X)
    (hn : ER P main S f n ops l k env (d :: ds) h δ R) : ER P main S f n ops (⟨none, op, ty, pos, af, g⟩ :: l) k env ds h δ R := by
  intro rest hr a ka
  obtain ⟨i, r, rfl, ho, hr'⟩ := ER.uncons hr
  refine WK.op ho (wantE_ok ka (o := ⟨none, op, ty, pos, af, g⟩) hw) (hs a.eval _ _ (fun x v hx => ka.eval hx) ?_)
  exact hn r hr' _ ⟨ka.size, by simp [Act.put, ka.defers], ka.knows⟩
end
end
section
variable [Dm]
open Go Go.Conc
variable {Γ : Type}
theorem sem_bind_pure {α : Type} (s : Sem α) : (s >>= fun v => pure v) = s := by
  show Sem.bind s Sem.pure = s
  induction s with
  | pure a => rfl
  | load m a k ih => simp only [Sem.bind]; congr; funext x; exact ih x
  | store m a v k ih => simp only [Sem.bind]; congr
  | new o k ih => simp only [Sem.bind]; congr; funext x; exact ih x
  | shape r k ih => simp only [Sem.bind]; congr; funext x; exact ih x
  | freeze a n k ih => simp only [Sem.bind]; congr
  | frozen a k ih => simp only [Sem.bind]; congr; funext x; exact ih x
  | getObj r k ih => simp only [Sem.bind]; congr; funext x; exact ih x
  | setObj r o k ih => simp only [Sem.bind]; congr
  | choose q k ih => simp only [Sem.bind]; congr; funext x; exact ih x
  | sys c k ih => simp only [Sem.bind]; congr; funext x; exact ih x
  | program k ih => simp only [Sem.bind]; congr; funext x; exact ih x
  | mark m k ih => simp only [Sem.bind]; congr
  | halt x => rfl
theorem map_of {env : Env} {ρ : Operand -> Value} {args : Array Operand} {vs : Array Value} (hρ : ∀ x v, ev env x = some v -> ρ x = v) (ha : args.toList.map (ev env) = vs.toList.map some) : args.map ρ = vs := by
  obtain ⟨a⟩ := args
  obtain ⟨v⟩ := vs
  simp only [List.map_toArray, Array.mk.injEq]
  simp only at ha
  induction a generalizing v with
  | nil => cases v <;> simp_all
  | cons x a ih =>
    cases v with
    | nil => simp at ha
    | cons y v =>
      simp only [List.map_cons, List.cons.injEq] at ha ⊢
      exact ⟨hρ x y ha.1, ih v ha.2⟩
def evL (env : Env) : List Operand -> Option (List Value)
  | [] => some []
  | x :: l => match ev env x, evL env l with
    | some v, some vs => some (v :: vs)
    | _, _ => none
theorem map_ofL {env : Env} {ρ : Operand -> Value} {args : Array Operand} {vs : List Value} (hρ : ∀ x v, ev env x = some v -> ρ x = v) (ha : evL env args.toList = some vs) : args.map ρ = vs.toArray := by
  refine map_of hρ ?_
  obtain ⟨a⟩ := args
  simp only at ha ⊢
  induction a generalizing vs with
  | nil => simp only [evL, Option.some.injEq] at ha; subst ha; rfl
  | cons x a ih =>
    simp only [evL] at ha
    split at ha
    · rename_i v ws h1 h2
      cases ha
      simp only [List.map_cons, h1]
      rw [ih h2]
    · cases ha
section
variable {P : Program} {main : Bool} {S : Sit Γ} {f : FuncId} {n : Nat} {k : List Item} {env : Env} {ds : List Deferred} {h : Hp} {δ : Ix Γ} {R : Post Γ}
variable {ops : Array Oper} {l : List Oper} {d : Nat} {ty : TypeId} {pos : String} {af : Array Edge} {g : Option (Nat × Bool)}
theorem ER.to {op : Op} {v : Value} {h' : Hp} (hw : wantE ops env g = some true) (hd : Nat.blt d n = true)
    (hs : ∀ (ρ : Operand -> Value) (Q : Next -> Hp -> Ix Γ -> Prop) (X : Value -> Hp -> Ix Γ -> Prop), (∀ x v, ev env x = some v -> ρ x = v) -> Q (.value v) h' δ -> SemW P S (execOp ρ ⟨some d, op, ty, pos, af, g⟩) h δ Q X)
    (hn : ER P main S f n ops l k ((d, v) :: env) ds h' δ R) : ER P main S f n ops (⟨some d, op, ty, pos, af, g⟩ :: l) k env ds h δ R :=
  ER.val (Q := fun v' h'' δ' => v' = v /\ h'' = h' /\ δ' = δ) hw hd (fun ρ hρ => hs ρ _ _ hρ ⟨v, rfl, rfl, rfl, rfl⟩) (by rintro _ _ _ ⟨rfl, rfl, rfl⟩; exact hn)
theorem ER.toU {op : Op} {h' : Hp} (hw : wantE ops env g = some true)
    (hs : ∀ (ρ : Operand -> Value) (Q : Next -> Hp -> Ix Γ -> Prop) (X : Value -> Hp -> Ix Γ -> Prop), (∀ x v, ev env x = some v -> ρ x = v) -> Q .skip h' δ -> SemW P S (execOp ρ ⟨none, op, ty, pos, af, g⟩) h δ Q X)
    (hn : ER P main S f n ops l k env ds h' δ R) : ER P main S f n ops (⟨none, op, ty, pos, af, g⟩ :: l) k env ds h δ R :=
  ER.unit (Q := fun h'' δ' => h'' = h' /\ δ' = δ) hw (fun ρ hρ => hs ρ _ _ hρ ⟨.inl rfl, rfl, rfl⟩) (by rintro _ _ ⟨rfl, rfl⟩; exact hn)
theorem ER.move {x : Operand} {v : Value} (hw : wantE ops env g = some true) (hd : Nat.blt d n = true) (hx : ev env x = some v)
    (hn : ER P main S f n ops l k ((d, v) :: env) ds h δ R) : ER P main S f n ops (⟨some d, .move x, ty, pos, af, g⟩ :: l) k env ds h δ R :=
  ER.to hw hd (fun ρ Q X hρ hq => by show Q (.value (ρ x)) h δ; rw [hρ x v hx]; exact hq) hn
theorem ER.assign {x : Operand} {v : Value} (hw : wantE ops env g = some true) (hd : Nat.blt d n = true) (hx : ev env x = some v)
    (hn : ER P main S f n ops l k ((d, v) :: env) ds h δ R) : ER P main S f n ops (⟨some d, .assign x, ty, pos, af, g⟩ :: l) k env ds h δ R :=
  ER.to hw hd (fun ρ Q X hρ hq => by show Q (.value (ρ x)) h δ; rw [hρ x v hx]; exact hq) hn
theorem ER.pickT {c x y : Operand} {v : Value} (hw : wantE ops env g = some true) (hd : Nat.blt d n = true) (hc : ev env c = some (.bool true)) (hx : ev env x = some v)
    (hn : ER P main S f n ops l k ((d, v) :: env) ds h δ R) : ER P main S f n ops (⟨some d, .pick c x y, ty, pos, af, g⟩ :: l) k env ds h δ R :=
  ER.to hw hd (fun ρ Q X hρ hq => by
    show SemW P S (asBool (ρ c) >>= fun b => pure (.value (if b then ρ x else ρ y))) h δ Q X
    rw [hρ c _ hc]
    show Q (.value (ρ x)) h δ
    rw [hρ x v hx]; exact hq) hn
theorem ER.pickF {c x y : Operand} {v : Value} (hw : wantE ops env g = some true) (hd : Nat.blt d n = true) (hc : ev env c = some (.bool false)) (hx : ev env y = some v)
    (hn : ER P main S f n ops l k ((d, v) :: env) ds h δ R) : ER P main S f n ops (⟨some d, .pick c x y, ty, pos, af, g⟩ :: l) k env ds h δ R :=
  ER.to hw hd (fun ρ Q X hρ hq => by
    show SemW P S (asBool (ρ c) >>= fun b => pure (.value (if b then ρ x else ρ y))) h δ Q X
    rw [hρ c _ hc]
    show Q (.value (ρ y)) h δ
    rw [hρ y v hx]; exact hq) hn
theorem ER.nilCheck {x : Operand} {a : Addr} (hw : wantE ops env g = some true) (hd : Nat.blt d n = true) (hx : ev env x = some (.pointer (some a)))
    (hn : ER P main S f n ops l k ((d, .pointer (some a)) :: env) ds h δ R) : ER P main S f n ops (⟨some d, .nilCheck x, ty, pos, af, g⟩ :: l) k env ds h δ R :=
  ER.to hw hd (fun ρ Q X hρ hq => by
    unfold execOp
    simp only [hρ x _ hx]
    exact hq) hn
theorem semW_fieldAt {s fld off : Nat} [fo : FieldOff P s fld off] {b o : Nat} {Q : Value -> Hp -> Ix Γ -> Prop} {X : Value -> Hp -> Ix Γ -> Prop} (hq : Q (.pointer (some ⟨b, o + off, none⟩)) h δ) :
    SemW P S (Instr.fieldAt s (.pointer (some ⟨b, o, none⟩)) fld) h δ Q X := by
  obtain ⟨fields, fd, inf, hu, hf, ho, hi, hs⟩ := fo.out
  unfold Instr.fieldAt
  refine semW_underlying hu ?_
  simp only [hf]
  refine semW_pureBind ?_
  refine semW_bind _ _ _ _ _ _ ?_
  unfold fieldPlace
  refine semW_sizeOf hi ?_
  rw [if_neg hs, add_eq, ho]
  exact hq
theorem ER.fieldAddr {s fld off : Nat} [fo : FieldOff P s fld off] {x : Operand} {b o : Nat} (hw : wantE ops env g = some true) (hd : Nat.blt d n = true) (hx : ev env x = some (.pointer (some ⟨b, o, none⟩)))
    (hn : ER P main S f n ops l k ((d, .pointer (some ⟨b, o + off, none⟩)) :: env) ds h δ R) : ER P main S f n ops (⟨some d, .fieldAddr s x fld, ty, pos, af, g⟩ :: l) k env ds h δ R :=
  ER.to hw hd (fun ρ Q X hρ hq => by
    show SemW P S (Instr.fieldAt s (ρ x) fld >>= fun v => pure (.value v)) h δ Q X
    rw [hρ x _ hx]
    exact semW_bind _ _ _ _ _ _ (semW_fieldAt hq)) hn
theorem ER.load1 {t : TypeId} [Scal P t] {x : Operand} {a : Addr} {v : Value} (hw : wantE ops env g = some true) (hd : Nat.blt d n = true) (hx : ev env x = some (.pointer (some a))) (hc : hcell h a = some v)
    (hn : ER P main S f n ops l k ((d, v) :: env) ds h δ R) : ER P main S f n ops (⟨some d, .load t x, ty, pos, af, g⟩ :: l) k env ds h δ R :=
  ER.to hw hd (fun ρ Q X hρ hq => by
    show SemW P S ((Instr.sureAddr (ρ x) >>= fun a => loadVar t a) >>= fun v => pure (.value v)) h δ Q X
    rw [hρ x _ hx]
    exact semW_bind _ _ _ _ _ _ (semW_pureBind (semW_loadVar1 hc hq))) hn
theorem ER.loadN {t m : Nat} [Aggr P t m] {x : Operand} {b o : Nat} {vs : List Value} (hw : wantE ops env g = some true) (hd : Nat.blt d n = true) (hx : ev env x = some (.pointer (some ⟨b, o, none⟩))) (hm : vs.length = m) (hc : hrow h b o vs)
    (hn : ER P main S f n ops l k ((d, .agg vs.toArray) :: env) ds h δ R) : ER P main S f n ops (⟨some d, .load t x, ty, pos, af, g⟩ :: l) k env ds h δ R :=
  ER.to hw hd (fun ρ Q X hρ hq => by
    show SemW P S ((Instr.sureAddr (ρ x) >>= fun a => loadVar t a) >>= fun v => pure (.value v)) h δ Q X
    rw [hρ x _ hx]
    exact semW_bind _ _ _ _ _ _ (semW_pureBind (semW_loadVarN hm hc hq))) hn
theorem ER.store1 {t : TypeId} [Scal P t] {x y : Operand} {b o : Nat} {v : Value} (hw : wantE ops env g = some true) (hx : ev env x = some (.pointer (some ⟨b, o, none⟩))) (hy : ev env y = some v) (hv : OneCell v)
    (hc : ∃ u, hcell h ⟨b, o, none⟩ = some u) (hf : hfroz h ⟨b, o, none⟩ = false) (hS : ¬ S.still δ.g ⟨b, o, none⟩)
    (hn : ER P main S f n ops l k env ds (hset h ⟨b, o, none⟩ v) δ R) : ER P main S f n ops (⟨none, .store t x y, ty, pos, af, g⟩ :: l) k env ds h δ R :=
  ER.toU hw (fun ρ Q X hρ hq => by
    show SemW P S ((Instr.sureAddr (ρ x) >>= fun a => storeVar t a (ρ y)) >>= fun _ => pure .skip) h δ Q X
    rw [hρ x _ hx, hρ y _ hy]
    exact semW_bind _ _ _ _ _ _ (semW_pureBind (semW_storeVar1 hv hc hf hS hq))) hn
theorem ER.storeN {t m : Nat} [Aggr P t m] {x y : Operand} {b o : Nat} {vs : List Value} (hw : wantE ops env g = some true) (hx : ev env x = some (.pointer (some ⟨b, o, none⟩))) (hy : ev env y = some (.agg vs.toArray)) (hm : vs.length = m) (hv : ∀ v ∈ vs, OneCell v)
    (hc : ∀ j, j < m -> (∃ u, hcell h ⟨b, o + j, none⟩ = some u) /\ hfroz h ⟨b, o + j, none⟩ = false /\ ¬ S.still δ.g ⟨b, o + j, none⟩)
    (hn : ER P main S f n ops l k env ds (hsetRow h b o vs) δ R) : ER P main S f n ops (⟨none, .store t x y, ty, pos, af, g⟩ :: l) k env ds h δ R :=
  ER.toU hw (fun ρ Q X hρ hq => by
    show SemW P S ((Instr.sureAddr (ρ x) >>= fun a => storeVar t a (ρ y)) >>= fun _ => pure .skip) h δ Q X
    rw [hρ x _ hx, hρ y _ hy]
    exact semW_bind _ _ _ _ _ _ (semW_pureBind (semW_storeVarN hm hv hc hq))) hn
theorem ER.alloc {t sz by_ : Nat} {z : Value} [i : Inf P t sz by_ z] (hw : wantE ops env g = some true) (hd : Nat.blt d n = true)
    (hn : ER P main S f n ops l k ((d, .pointer (some ⟨h.size, 0, none⟩)) :: env) ds (h.push (.cells z.cells t)) δ R) (hl : S.lone δ.g := by first | exact True.intro | assumption) : ER P main S f n ops (⟨some d, .alloc t, ty, pos, af, g⟩ :: l) k env ds h δ R :=
  ER.to hw hd (fun ρ Q X hρ hq => by
    show SemW P S (Instr.alloc t true (.tuple #[]) >>= fun v => pure (.value v)) h δ Q X
    refine semW_bind _ _ _ _ _ _ ?_
    unfold Instr.alloc
    obtain ⟨inf, h1, h2, h3, h4⟩ := i.get
    exact semW_zeroValue h1 h4 ⟨⟨hl, thawed⟩, hq⟩) hn
theorem ER.box {t : TypeId} {x : Operand} {v : Value} (hw : wantE ops env g = some true) (hd : Nat.blt d n = true) (hx : ev env x = some v)
    (hn : ER P main S f n ops l k ((d, .pointer (some ⟨h.size, 0, none⟩)) :: env) ds (h.push (.cells v.cells t)) δ R) (hl : S.lone δ.g := by first | exact True.intro | assumption) : ER P main S f n ops (⟨some d, .box t x, ty, pos, af, g⟩ :: l) k env ds h δ R :=
  ER.to hw hd (fun ρ Q X hρ hq => by
    show SemW P S (Instr.box t (ρ x) >>= fun v => pure (.value v)) h δ Q X
    rw [hρ x _ hx]
    exact ⟨⟨hl, thawed⟩, hq⟩) hn
theorem ER.boxA {t : TypeId} {x : Operand} {cs : Array Value} (hw : wantE ops env g = some true) (hd : Nat.blt d n = true) (hx : ev env x = some (.agg cs))
    (hn : ER P main S f n ops l k ((d, .pointer (some ⟨h.size, 0, none⟩)) :: env) ds (h.push (.cells cs t)) δ R) (hl : S.lone δ.g := by first | exact True.intro | assumption) : ER P main S f n ops (⟨some d, .box t x, ty, pos, af, g⟩ :: l) k env ds h δ R :=
  ER.box hw hd hx hn hl
class Builds (P : Program) (t : TypeId) (parts : Array (Nat × Value)) (v : outParam Value) : Prop where
  out : ∀ (S : Sit Γ) (h : Hp) (δ : Ix Γ) (Q : Value -> Hp -> Ix Γ -> Prop) (X : Value -> Hp -> Ix Γ -> Prop), Q v h δ -> SemW P S (Instr.build t parts) h δ Q X
theorem ER.build {t : TypeId} {ps : Array (Nat × Operand)} {parts : Array (Nat × Value)} {v : Value} (hw : wantE ops env g = some true) (hd : Nat.blt d n = true)
    (hp : ∀ ρ : Operand -> Value, (∀ x v, ev env x = some v -> ρ x = v) -> ps.map (fun (i, x) => (i, ρ x)) = parts) (hb : ∀ (Q : Value -> Hp -> Ix Γ -> Prop) (X : Value -> Hp -> Ix Γ -> Prop), Q v h δ -> SemW P S (Instr.build t parts) h δ Q X)
    (hn : ER P main S f n ops l k ((d, v) :: env) ds h δ R) : ER P main S f n ops (⟨some d, .build t ps, ty, pos, af, g⟩ :: l) k env ds h δ R :=
  ER.to hw hd (fun ρ Q X hρ hq => by
    show SemW P S (Instr.build t (ps.map fun (i, x) => (i, ρ x)) >>= fun v => pure (.value v)) h δ Q X
    rw [hp ρ hρ]
    exact semW_bind _ _ _ _ _ _ (hb _ _ hq)) hn
theorem ER.extract {x : Operand} {i : Nat} {vs : Array Value} {v : Value} (hw : wantE ops env g = some true) (hd : Nat.blt d n = true) (hx : ev env x = some (.tuple vs)) (hv : vs[i]? = some v)
    (hn : ER P main S f n ops l k ((d, v) :: env) ds h δ R) : ER P main S f n ops (⟨some d, .extract x i, ty, pos, af, g⟩ :: l) k env ds h δ R :=
  ER.to hw hd (fun ρ Q X hρ hq => by
    show SemW P S (Instr.extract (ρ x) i >>= fun v => pure (.value v)) h δ Q X
    rw [hρ x _ hx]
    unfold Instr.extract
    simp only [hv]
    exact hq) hn
theorem ER.notB {x : Operand} {b : Bool} {t : TypeId} (hw : wantE ops env g = some true) (hd : Nat.blt d n = true) (hx : ev env x = some (.bool b))
    (hn : ER P main S f n ops l k ((d, .bool (!b)) :: env) ds h δ R) : ER P main S f n ops (⟨some d, .unOp .not t x, ty, pos, af, g⟩ :: l) k env ds h δ R :=
  ER.to hw hd (fun ρ Q X hρ hq => by
    show SemW P S (Op.unary .not (ρ x) >>= fun v => pure (.value v)) h δ Q X
    rw [hρ x _ hx]
    exact hq) hn
theorem ER.makeFunc {fn : Fn} {first cap : Array Operand} {fv cv : Array Value} (hw : wantE ops env g = some true) (hd : Nat.blt d n = true)
    (hf : ∀ ρ : Operand -> Value, (∀ x v, ev env x = some v -> ρ x = v) -> first.map ρ = fv /\ cap.map ρ = cv)
    (hn : ER P main S f n ops l k ((d, .func fn fv cv) :: env) ds h δ R) : ER P main S f n ops (⟨some d, .makeFunc fn first cap, ty, pos, af, g⟩ :: l) k env ds h δ R :=
  ER.to hw hd (fun ρ Q X hρ hq => by
    show Q (.value (.func fn (first.map ρ) (cap.map ρ))) h δ
    rw [(hf ρ hρ).1, (hf ρ hρ).2]; exact hq) hn
theorem semW_binOp {op : BinOp} {t t2 : TypeId} {x y : Operand} {ρ : Operand -> Value} {dst : Option Nat} {Q : Next -> Hp -> Ix Γ -> Prop} {X : Value -> Hp -> Ix Γ -> Prop}
    (hs : SemW P S (eqGuard op t x y (ρ x) (ρ y)) h δ (fun _ h' δ' => SemW P S (binOp op t (ρ x) (ρ y)) h' δ' (fun v h'' δ'' => Q (.value v) h'' δ'') X) X) : SemW P S (execOp ρ ⟨dst, .binOp op t x y t2, ty, pos, af, g⟩) h δ Q X := by
  show SemW P S ((eqGuard op t x y (ρ x) (ρ y) >>= fun _ => binOp op t (ρ x) (ρ y)) >>= fun v => pure (.value v)) h δ Q X
  exact semW_bind _ _ _ _ _ _ (semW_bind _ _ _ _ _ _ hs)
theorem eqGuard_int {op : BinOp} {t : TypeId} {x y : Operand} {kx ky : IntKind} {a b : Int} : eqGuard op t x y (.int kx a) (.int ky b) = pure () := by
  unfold eqGuard
  cases op <;> rfl
theorem ER.binI {op : BinOp} {t t2 : TypeId} {x y : Operand} {kd : IntKind} {a b : Int} {v : Value} (hw : wantE ops env g = some true) (hd : Nat.blt d n = true) (hx : ev env x = some (.int kd a)) (hy : ev env y = some (.int kd b))
    (hv : binOp op t (.int kd a) (.int kd b) = pure v)
    (hn : ER P main S f n ops l k ((d, v) :: env) ds h δ R) : ER P main S f n ops (⟨some d, .binOp op t x y t2, ty, pos, af, g⟩ :: l) k env ds h δ R :=
  ER.to hw hd (fun ρ Q X hρ hq => semW_binOp (by
    rw [hρ x _ hx, hρ y _ hy, eqGuard_int, hv]
    exact hq)) hn
theorem binOp_add {t : TypeId} {kd : IntKind} {a b : Int} : binOp .add t (.int kd a) (.int kd b) = pure (.int kd (kd.wrap (a + b))) := by simp [binOp, Op.intArith]
theorem binOp_sub {t : TypeId} {kd : IntKind} {a b : Int} : binOp .sub t (.int kd a) (.int kd b) = pure (.int kd (kd.wrap (a - b))) := by simp [binOp, Op.intArith]
theorem binOp_mul {t : TypeId} {kd : IntKind} {a b : Int} : binOp .mul t (.int kd a) (.int kd b) = pure (.int kd (kd.wrap (a * b))) := by simp [binOp, Op.intArith]
theorem binOp_rem {t : TypeId} {kd : IntKind} {a b : Int} (hb : b ≠ 0) : binOp .rem t (.int kd a) (.int kd b) = pure (.int kd (a.tmod b)) := by simp [binOp, Op.intDiv, hb]
theorem binOp_eql {t : TypeId} {kd : IntKind} {a b : Int} : binOp .eql t (.int kd a) (.int kd b) = pure (.bool (a == b)) := by simp [binOp, Op.intCmp]
theorem binOp_neq {t : TypeId} {kd : IntKind} {a b : Int} : binOp .neq t (.int kd a) (.int kd b) = pure (.bool (a != b)) := by simp [binOp, Op.intCmp]
theorem binOp_lss {t : TypeId} {kd : IntKind} {a b : Int} : binOp .lss t (.int kd a) (.int kd b) = pure (.bool (decide (a < b))) := by simp [binOp, Op.intCmp]
theorem binOp_leq {t : TypeId} {kd : IntKind} {a b : Int} : binOp .leq t (.int kd a) (.int kd b) = pure (.bool (decide (a <= b))) := by simp [binOp, Op.intCmp]
theorem binOp_gtr {t : TypeId} {kd : IntKind} {a b : Int} : binOp .gtr t (.int kd a) (.int kd b) = pure (.bool (decide (b < a))) := by simp [binOp, Op.intCmp]
theorem binOp_geq {t : TypeId} {kd : IntKind} {a b : Int} : binOp .geq t (.int kd a) (.int kd b) = pure (.bool (decide (b <= a))) := by simp [binOp, Op.intCmp]
section arith
variable {t t2 : TypeId} {x y : Operand} {kd : IntKind} {a b r : Int}
theorem ER.add (hw : wantE ops env g = some true) (hd : Nat.blt d n = true) (hx : ev env x = some (.int kd a)) (hy : ev env y = some (.int kd b)) (hr : kd.wrap (a + b) = r)
    (hn : ER P main S f n ops l k ((d, .int kd r) :: env) ds h δ R) : ER P main S f n ops (⟨some d, .binOp .add t x y t2, ty, pos, af, g⟩ :: l) k env ds h δ R := ER.binI hw hd hx hy (by rw [binOp_add, hr]) hn
theorem ER.sub' (hw : wantE ops env g = some true) (hd : Nat.blt d n = true) (hx : ev env x = some (.int kd a)) (hy : ev env y = some (.int kd b)) (hr : kd.wrap (a - b) = r)
    (hn : ER P main S f n ops l k ((d, .int kd r) :: env) ds h δ R) : ER P main S f n ops (⟨some d, .binOp .sub t x y t2, ty, pos, af, g⟩ :: l) k env ds h δ R := ER.binI hw hd hx hy (by rw [binOp_sub, hr]) hn
theorem ER.mul (hw : wantE ops env g = some true) (hd : Nat.blt d n = true) (hx : ev env x = some (.int kd a)) (hy : ev env y = some (.int kd b)) (hr : kd.wrap (a * b) = r)
    (hn : ER P main S f n ops l k ((d, .int kd r) :: env) ds h δ R) : ER P main S f n ops (⟨some d, .binOp .mul t x y t2, ty, pos, af, g⟩ :: l) k env ds h δ R := ER.binI hw hd hx hy (by rw [binOp_mul, hr]) hn
theorem ER.rem (hw : wantE ops env g = some true) (hd : Nat.blt d n = true) (hx : ev env x = some (.int kd a)) (hy : ev env y = some (.int kd b)) (hb : b ≠ 0) (hr : a.tmod b = r)
    (hn : ER P main S f n ops l k ((d, .int kd r) :: env) ds h δ R) : ER P main S f n ops (⟨some d, .binOp .rem t x y t2, ty, pos, af, g⟩ :: l) k env ds h δ R := ER.binI hw hd hx hy (by rw [binOp_rem hb, hr]) hn
def cmpP : BinOp -> Int -> Int -> Prop
  | .eql, a, b => a = b
  | .neq, a, b => a ≠ b
  | .lss, a, b => a < b
  | .leq, a, b => a <= b
  | .gtr, a, b => b < a
  | .geq, a, b => b <= a
  | _, _, _ => False
def isCmp : BinOp -> Bool
  | .eql | .neq | .lss | .leq | .gtr | .geq => true
  | _ => false
theorem binOp_cmpT {op : BinOp} (hc : isCmp op = true) (hp : cmpP op a b) : binOp op t (.int kd a) (.int kd b) = pure (.bool true) := by
  cases op <;> first | cases hc | skip
  · rw [binOp_eql, show (a == b) = true from beq_iff_eq.2 hp]
  · rw [binOp_neq, show (a != b) = true from bne_iff_ne.2 hp]
  · rw [binOp_lss, decide_eq_true (show a < b from hp)]
  · rw [binOp_leq, decide_eq_true (show a <= b from hp)]
  · rw [binOp_gtr, decide_eq_true (show b < a from hp)]
  · rw [binOp_geq, decide_eq_true (show b <= a from hp)]
theorem binOp_cmpF {op : BinOp} (hc : isCmp op = true) (hp : ¬ cmpP op a b) : binOp op t (.int kd a) (.int kd b) = pure (.bool false) := by
  cases op <;> first | cases hc | skip
  · rw [binOp_eql, show (a == b) = false from beq_eq_false_iff_ne.2 hp]
  · rw [binOp_neq, show (a != b) = false from by
      have : a = b := Classical.not_not.1 hp
      simp [this]]
  · rw [binOp_lss, decide_eq_false (show ¬ a < b from hp)]
  · rw [binOp_leq, decide_eq_false (show ¬ a <= b from hp)]
  · rw [binOp_gtr, decide_eq_false (show ¬ b < a from hp)]
  · rw [binOp_geq, decide_eq_false (show ¬ b <= a from hp)]
theorem ER.cmpT {op : BinOp} (hc : isCmp op = true) (hw : wantE ops env g = some true) (hd : Nat.blt d n = true) (hx : ev env x = some (.int kd a)) (hy : ev env y = some (.int kd b)) (hp : cmpP op a b)
    (hn : ER P main S f n ops l k ((d, .bool true) :: env) ds h δ R) : ER P main S f n ops (⟨some d, .binOp op t x y t2, ty, pos, af, g⟩ :: l) k env ds h δ R := ER.binI hw hd hx hy (binOp_cmpT hc hp) hn
theorem ER.cmpF {op : BinOp} (hc : isCmp op = true) (hw : wantE ops env g = some true) (hd : Nat.blt d n = true) (hx : ev env x = some (.int kd a)) (hy : ev env y = some (.int kd b)) (hp : ¬ cmpP op a b)
    (hn : ER P main S f n ops l k ((d, .bool false) :: env) ds h δ R) : ER P main S f n ops (⟨some d, .binOp op t x y t2, ty, pos, af, g⟩ :: l) k env ds h δ R := ER.binI hw hd hx hy (binOp_cmpF hc hp) hn
theorem ER.cmpS {op : BinOp} (hc : isCmp op = true) (hw : wantE ops env g = some true) (hd : Nat.blt d n = true) (hx : ev env x = some (.int kd a)) (hy : ev env y = some (.int kd b))
    (h1 : cmpP op a b -> ER P main S f n ops l k ((d, .bool true) :: env) ds h δ R) (h2 : ¬ cmpP op a b -> ER P main S f n ops l k ((d, .bool false) :: env) ds h δ R) : ER P main S f n ops (⟨some d, .binOp op t x y t2, ty, pos, af, g⟩ :: l) k env ds h δ R := by
  by_cases hp : cmpP op a b
  · exact ER.cmpT hc hw hd hx hy hp (h1 hp)
  · exact ER.cmpF hc hw hd hx hy hp (h2 hp)
end arith
theorem ER.binV {op : BinOp} {t t2 : TypeId} {x y : Operand} {u w v : Value} (hw : wantE ops env g = some true) (hd : Nat.blt d n = true) (hx : ev env x = some u) (hy : ev env y = some w)
    (hg : eqGuard op t x y u w = pure ()) (hv : ∀ (Q : Value -> Hp -> Ix Γ -> Prop) (X : Value -> Hp -> Ix Γ -> Prop), Q v h δ -> SemW P S (binOp op t u w) h δ Q X)
    (hn : ER P main S f n ops l k ((d, v) :: env) ds h δ R) : ER P main S f n ops (⟨some d, .binOp op t x y t2, ty, pos, af, g⟩ :: l) k env ds h δ R :=
  ER.to hw hd (fun ρ Q X hρ hq => semW_binOp (by
    rw [hρ x _ hx, hρ y _ hy, hg]
    exact hv _ _ hq)) hn
def eqRes : TypeDesc -> Value -> Value -> Option Bool
  | .pointer _, .pointer none, .pointer a => some a.isNone
  | .pointer _, .pointer (some _), .pointer none => some false
  | .func _ _ _, .nilFunc, .nilFunc => some true
  | .func _ _ _, .func _ _ _, .nilFunc => some false
  | .chan _ _, .chan c, .chan d => some (c == d)
  | .bool, .bool a, .bool b => some (a == b)
  | .slice _, .slice none _ _, .slice b _ _ => some b.isNone
  | .slice _, .slice (some _) _ _, .slice none _ _ => some false
  | _, _, _ => none
theorem semW_equal {t : TypeId} {dd : TypeDesc} {u w : Value} (hu : P.underlying t = some dd) {Q : Bool -> Hp -> Ix Γ -> Prop} {X : Value -> Hp -> Ix Γ -> Prop} {r : Bool} (hr : eqRes dd u w = some r) (hq : Q r h δ) :
    SemW P S (Op.equal t u w) h δ Q X := by
  unfold Op.equal Op.maxDepth Op.equalIn
  refine semW_underlying hu ?_
  unfold eqRes at hr
  split at hr <;> first | cases hr | skip
  all_goals exact hq
theorem ER.eqV {t t2 : TypeId} {x y : Operand} {u w : Value} {dd : TypeDesc} {r : Bool} [hu : Und P t dd] (hw : wantE ops env g = some true) (hd : Nat.blt d n = true) (hx : ev env x = some u) (hy : ev env y = some w) (hr : eqRes dd u w = some r)
    (hn : ER P main S f n ops l k ((d, .bool r) :: env) ds h δ R) : ER P main S f n ops (⟨some d, .binOp .eql t x y t2, ty, pos, af, g⟩ :: l) k env ds h δ R := by
  refine ER.binV hw hd hx hy ?_ (fun Q X hq => ?_) hn
  · unfold eqRes at hr
    unfold eqGuard
    split at hr <;> first | rfl | (cases hr; done)
  · have e : binOp .eql t u w = (Op.equal t u w >>= fun b => pure (.bool b)) := by
      unfold eqRes at hr
      split at hr <;> first | rfl | (cases hr; done)
    rw [e]
    exact semW_bind _ _ _ _ _ _ (semW_equal hu.out hr hq)
theorem ER.neqV {t t2 : TypeId} {x y : Operand} {u w : Value} {dd : TypeDesc} {r : Bool} [hu : Und P t dd] (hw : wantE ops env g = some true) (hd : Nat.blt d n = true) (hx : ev env x = some u) (hy : ev env y = some w) (hr : eqRes dd u w = some r)
    (hn : ER P main S f n ops l k ((d, .bool (!r)) :: env) ds h δ R) : ER P main S f n ops (⟨some d, .binOp .neq t x y t2, ty, pos, af, g⟩ :: l) k env ds h δ R := by
  refine ER.binV hw hd hx hy ?_ (fun Q X hq => ?_) hn
  · unfold eqRes at hr
    unfold eqGuard
    split at hr <;> first | rfl | (cases hr; done)
  · have e : binOp .neq t u w = (Op.equal t u w >>= fun b => pure (.bool (!b))) := by
      unfold eqRes at hr
      split at hr <;> first | rfl | (cases hr; done)
    rw [e]
    exact semW_bind _ _ _ _ _ _ (semW_equal hu.out hr hq)
class HasBody (P : Program) (c : FuncId) : Prop where
  out : ∃ fn code, P.funcs[c]? = some fn /\ fn.body = some code /\ fn.name ≠ "runtime.NumGoroutine"
theorem semW_call {op : Op} {dst : Option Nat} {x : Operand} {args : Array Operand} {ats : Array TypeId} {c : FuncId} {cap vs : Array Value} [hb : HasBody P c] {ρ : Operand -> Value} {Q : Next -> Hp -> Ix Γ -> Prop} {X : Value -> Hp -> Ix Γ -> Prop}
    (hop : op = .call { callee := .value x, args, argTypes := ats }) (hx : ρ x = .func (.func c) #[] cap) (ha : args.map ρ = vs) (hq : Q (.enter c (vs ++ cap)) h δ) : SemW P S (execOp ρ ⟨dst, op, ty, pos, af, g⟩) h δ Q X := by
  subst hop
  show SemW P S (Deferred.ofValue (ρ x) (args.map ρ) >>= fun d => invoke d.target d.args) h δ Q X
  rw [hx, ha]
  obtain ⟨fn, code, h1, h2, h3⟩ := hb.out
  have e : (#[] : Array Value) ++ vs = vs := by simp
  show SemW P S (callFunc c ((#[] ++ vs) ++ cap)) h δ Q X
  rw [e]
  exact callFunc_semW h1 h2 h3 hq
theorem ER.call {x : Operand} {args : Array Operand} {ats : Array TypeId} {c : FuncId} {cap : Array Value} {vs : List Value} [HasBody P c] (hw : wantE ops env g = some true) (hd : Nat.blt d n = true) (hx : ev env x = some (.func (.func c) #[] cap))
    (ha : evL env args.toList = some vs)
    (hn : CallW P main S c (vs.toArray ++ cap) h δ fun
      | .ret v, h', δ' => ER P main S f n ops l k ((d, v) :: env) ds h' δ' R
      | .pan p, h', δ' => EU P main S f n (.panicking p) env ds h' δ' R) : ER P main S f n ops (⟨some d, .call { callee := .value x, args, argTypes := ats }, ty, pos, af, g⟩ :: l) k env ds h δ R :=
  ER.callGen hw hd (fun _ _ _ hρ hq => semW_call rfl (hρ x _ hx) (map_ofL hρ ha) hq) hn
theorem ER.defer {x : Operand} {args : Array Operand} {ats : Array TypeId} {c : FuncId} {cap : Array Value} {vs : List Value} (hw : wantE ops env g = some true) (hx : ev env x = some (.func (.func c) #[] cap))
    (ha : evL env args.toList = some vs)
    (hn : ER P main S f n ops l k env ({ target := .fn (.func c) cap, args := vs.toArray } :: ds) h δ R) : ER P main S f n ops (⟨none, .defer { callee := .value x, args, argTypes := ats }, ty, pos, af, g⟩ :: l) k env ds h δ R :=
  ER.deferGen hw (fun ρ Q X hρ hq => by
    show SemW P S (Deferred.ofValue (ρ x) (args.map ρ) >>= fun d => pure (.defer d)) h δ Q X
    rw [hρ x _ hx, map_ofL hρ ha]
    have e : (#[] : Array Value) ++ vs.toArray = vs.toArray := by simp
    show Q (.defer { target := .fn (.func c) cap, args := #[] ++ vs.toArray }) h δ
    rw [e]; exact hq) hn
def argE : Nat -> List Value -> Env
  | _, [] => []
  | i, v :: l => (i, v) :: argE (i + 1) l
theorem argE_look : ∀ (vs : List Value) (j i : Nat) (v : Value), look (argE j vs) i = some v -> j <= i /\ vs[i - j]? = some v
  | [], _, _, _, h => by cases h
  | x :: l, j, i, v, h => by
    rw [argE, look_cons] at h
    split at h
    · rename_i e; subst e; cases h; simp
    · rename_i e
      obtain ⟨h1, h2⟩ := argE_look l (j + 1) i v h
      refine ⟨by omega, ?_⟩
      rw [show i - j = (i - (j + 1)) + 1 by omega]
      simpa using h2
theorem CallW.start {fn : Func} {c : Code} {args : Array Value} [hf : IsFn P f fn] (hb : fn.body = some c) (hn : args.size + (fn.ntmps - args.size) = n)
    (hk : EK P main S f n [.code c] (argE 0 args.toList) [] h δ R) : CallW P main S f args h δ R := by
  refine CallW.enter hf.out hb (hk _ ⟨by simp [hn], rfl, fun i v hl => ?_⟩)
  obtain ⟨_, h2⟩ := argE_look _ _ _ _ hl
  have h3 : args[i]? = some v := by simpa using h2
  have hi : i < args.size := by
    rcases Nat.lt_or_ge i args.size with x | x
    · exact x
    · simp [Array.getElem?_eq_none x] at h3
  rw [Array.getElem?_append_left hi, h3]
theorem getD_of_look {a : Act} (ka : Kn n env ds a) {t : Nat} {v : Value} (hv : look env t = some v) : a.tmps.getD t undef = v := by
  rw [Array.getD_eq_getD_getElem?, ka.knows t v hv]; rfl
theorem EU.ret0 {fn : Func} [hf : IsFn P f fn] (hr : fn.results = #[]) (hR : R (.ret (.tuple #[])) h δ) : EU P main S f n .returning env [] h δ R :=
  fun _ ka => WU.ret0 ka.defers hf.out (reads_none hr) hR
theorem EU.ret1 {fn : Func} {t : Tmp} {v : Value} [hf : IsFn P f fn] (hr : fn.results = #[.tmp t]) (hv : look env t = some v) (hR : R (.ret v) h δ) : EU P main S f n .returning env [] h δ R :=
  fun _ ka => WU.ret0 ka.defers hf.out (reads_tmp hr (getD_of_look ka hv)) hR
theorem EU.ret2 {fn : Func} {t u : Tmp} {v x : Value} [hf : IsFn P f fn] (hr : fn.results = #[.tmp t, .tmp u]) (hv : look env t = some v) (hx : look env u = some x) (hR : R (.ret (.tuple #[v, x])) h δ) : EU P main S f n .returning env [] h δ R :=
  fun _ ka => WU.ret0 ka.defers hf.out (reads_tmp2 hr (getD_of_look ka hv) (getD_of_look ka hx)) hR
theorem EU.deferRet {c : FuncId} {cap args : Array Value} [hb : HasBody P c]
    (hc : CallW P main S c (args ++ cap) h δ fun
      | .ret _, h', δ' => EU P main S f n .returning env ds h' δ' R
      | .pan _, _, _ => False) : EU P main S f n .returning env ({ target := .fn (.func c) cap, args := args } :: ds) h δ R := by
  intro a ka
  obtain ⟨fn, code, h1, h2, h3⟩ := hb.out
  refine WU.deferRet h1 h2 h3 (hc.mono ?_) ka.defers
  rintro (v | p) h' δ' hq
  · exact hq _ ⟨ka.size, rfl, ka.knows⟩
  · exact hq
theorem semW_ext {op : Op} {dst : Option Nat} {x : Operand} {args : Array Operand} {ats : Array TypeId} {c : FuncId} {vs : Array Value} {e : Array Value -> Sem Value} [he : ExtFn P c e] {ρ : Operand -> Value} {Q : Next -> Hp -> Ix Γ -> Prop} {X : Value -> Hp -> Ix Γ -> Prop}
    (hop : op = .call { callee := .value x, args, argTypes := ats }) (hx : ρ x = .func (.func c) #[] #[]) (ha : args.map ρ = vs) (hq : SemW P S (e vs) h δ (fun v h' δ' => Q (.value v) h' δ') X) : SemW P S (execOp ρ ⟨dst, op, ty, pos, af, g⟩) h δ Q X := by
  subst hop
  show SemW P S (Deferred.ofValue (ρ x) (args.map ρ) >>= fun d => invoke d.target d.args) h δ Q X
  rw [hx, ha]
  obtain ⟨fn, h1, h2, h3, h4, h5⟩ := he.out
  have e1 : (#[] : Array Value) ++ vs ++ #[] = vs := by simp
  show SemW P S (callFunc c ((#[] ++ vs) ++ #[])) h δ Q X
  rw [e1]
  unfold callFunc
  change SemW P S (Sem.bind (Sem.program Sem.pure) _) h δ Q X
  simp only [Sem.bind, SemW, h1, h2, h3, h4, h5, Bool.false_eq_true, if_false, if_true]
  refine ⟨⟨by simp, by simp, by simp, fun _ => .inr (.inr ⟨_, rfl⟩)⟩, ?_⟩
  show SemW P S (Sem.bind (e vs) fun v => pure (.value v)) h δ Q X
  exact semW_bind _ _ _ _ _ _ hq
theorem ER.ext {x : Operand} {args : Array Operand} {ats : Array TypeId} {c : FuncId} {vs : List Value} {e : Array Value -> Sem Value} {v : Value} {h' : Hp} {δ' : Ix Γ} [ExtFn P c e] (hw : wantE ops env g = some true) (hd : Nat.blt d n = true) (hx : ev env x = some (.func (.func c) #[] #[]))
    (ha : evL env args.toList = some vs) (hs : ∀ (Q : Value -> Hp -> Ix Γ -> Prop) (X : Value -> Hp -> Ix Γ -> Prop), Q v h' δ' -> SemW P S (e vs.toArray) h δ Q X)
    (hn : ER P main S f n ops l k ((d, v) :: env) ds h' δ' R) : ER P main S f n ops (⟨some d, .call { callee := .value x, args, argTypes := ats }, ty, pos, af, g⟩ :: l) k env ds h δ R :=
  ER.val (Q := fun v1 h1 δ1 => v1 = v /\ h1 = h' /\ δ1 = δ') hw hd (fun ρ hρ => semW_ext (c := c) rfl (hρ x _ hx) (map_ofL hρ ha) (hs _ _ ⟨v, rfl, rfl, rfl, rfl⟩)) (by rintro _ _ _ ⟨rfl, rfl, rfl⟩; exact hn)
section atomics
variable {a : Addr} {kd : IntKind} {Q : Value -> Hp -> Ix Γ -> Prop} {X : Value -> Hp -> Ix Γ -> Prop}
theorem semW_read {β : Type} {x : Int} (hc : hcell h a = some (.int kd x)) {g : Value -> Sem β} {Q : β -> Hp -> Ix Γ -> Prop} (hs : SemW P S (g (.int kd x)) h δ Q X) : SemW P S (Extern.Atomic.read (.int kd) a >>= g) h δ Q X := by
  refine semW_bind _ _ _ _ _ _ ⟨_, hc, ?_⟩
  show SemW P S (if kd = kd then pure (Value.int kd x) else _) h δ _ X
  rw [if_pos rfl]
  exact hs
theorem semW_aload {x : Int} (hc : hcell h a = some (.int kd x)) (hq : Q (.int kd x) h δ) : SemW P S (Extern.Atomic.loadT (.int kd) #[.pointer (some a)]) h δ Q X := by
  have e : Extern.Atomic.loadT (.int kd) #[.pointer (some a)] = (Extern.Atomic.read (.int kd) a >>= fun v => pure v) := by
    show Extern.Atomic.read (.int kd) a = _
    exact (sem_bind_pure _).symm
  rw [e]
  exact semW_read hc hq
theorem semW_astore {u v : Value} (hv : OneCell v) (hc : hcell h a = some u) (hz : hfroz h a = false) (hS : ¬ S.still δ.g a) (hq : Q (.tuple #[]) (hset h a v) δ) : SemW P S (Extern.Atomic.storeT #[.pointer (some a), v]) h δ Q X :=
  ⟨hv.1, hv.2, ⟨u, hc⟩, hz, hS, hq⟩
theorem semW_touchesFrozen {β : Type} {v : Value} (hc : hcell h a = some v) (hz : hfroz h a = false) {g : Bool -> Sem β} {Q : β -> Hp -> Ix Γ -> Prop} (hs : SemW P S (g false) h δ Q X) : SemW P S (Extern.Atomic.touchesFrozen a >>= g) h δ Q X := by
  obtain ⟨c, e, f, hb, hs', hv⟩ := hcell_some hc
  have h1 : hshape h a.block = some (e, c.size) := by simp [hshape, hb]
  refine semW_bind _ _ _ _ _ _ ?_
  change SemW P S (Sem.bind (Sem.bind (Sem.shape a.block Sem.pure) _) _) h δ _ X
  simp only [Sem.bind, SemW, h1, Option.isSome]
  refine ⟨pres_of hb (ne_dum hv), ?_⟩
  show SemW P S (Sem.frozen a Sem.pure) h δ _ X
  simp only [SemW, hz]
  exact ⟨pres_of hb (ne_dum hv), hs⟩
theorem semW_acas {x y : Int} {k2 : IntKind} {nv : Value} (hnv : OneCell nv) (hc : hcell h a = some (.int kd x)) (hz : hfroz h a = false) (hS : ¬ S.still δ.g a)
    (hq : if x = y then Q (.bool true) (hset h a nv) δ else Q (.bool false) h δ) : SemW P S (Extern.Atomic.casT (.int kd) #[.pointer (some a), .int k2 y, nv]) h δ Q X := by
  show SemW P S (asAddr (.pointer (some a)) >>= _) h δ Q X
  refine semW_pureBind ?_
  refine semW_touchesFrozen hc hz ?_
  show SemW P S (Extern.Atomic.read (.int kd) a >>= _) h δ Q X
  refine semW_read hc ?_
  by_cases e : x = y
  · rw [if_pos e] at hq
    subst e
    show SemW P S (if (x == x) = true then (store a nv .atomic >>= fun _ => pure (.bool (x == x))) else pure (.bool (x == x))) h δ Q X
    simp only [beq_self_eq_true, if_true]
    exact ⟨hnv.1, hnv.2, ⟨_, hc⟩, hz, hS, hq⟩
  · rw [if_neg e] at hq
    show SemW P S (if (x == y) = true then (store a nv .atomic >>= fun _ => pure (.bool (x == y))) else pure (.bool (x == y))) h δ Q X
    have : (x == y) = false := beq_eq_false_iff_ne.2 e
    simp only [this, Bool.false_eq_true, if_false]
    exact hq
theorem semW_aadd {x y r : Int} {k2 : IntKind} (hc : hcell h a = some (.int kd x)) (hz : hfroz h a = false) (hS : ¬ S.still δ.g a) (hr : kd.wrap (x + y) = r) (hq : Q (.int kd r) (hset h a (.int kd r)) δ) :
    SemW P S (Extern.Atomic.update (Op.intArith .add) kd true #[.pointer (some a), .int k2 y]) h δ Q X := by
  subst hr
  show SemW P S (Extern.Atomic.read (.int kd) a >>= _) h δ Q X
  refine semW_read hc ?_
  exact ⟨by simp, by simp, ⟨_, hc⟩, hz, hS, hq⟩
theorem semW_mark0 {m : Mark} (h1 : ∀ a, m ≠ .read a) (h2 : ∀ a, m ≠ .write a) {vs : Array Value} (hq : Q (.tuple #[]) h (markd m δ)) (h3 : ∀ a, m ≠ .release a := by first | exact nofun | assumption) (hDu : S.dull δ.g -> m = .disable \/ m = .enable \/ ∃ f, m = .extern f := by first | exact fun x => x.elim | exact fun _ => .inl rfl | exact fun _ => .inr (.inl rfl) | assumption) : SemW P S ((fun _ => do mark m; pure Extern.Race.none_ : Array Value -> Sem Value) vs) h δ Q X :=
  ⟨⟨h1, h2, h3, hDu⟩, hq⟩
theorem semW_marked {m : Addr -> Mark} (h1 : ∀ x a, m x ≠ .read a) (h2 : ∀ x a, m x ≠ .write a) (hq : Q (.tuple #[]) h (markd (m a) δ)) (h3 : ∀ x a, m x ≠ .release a := by first | exact nofun | assumption) (hDu : ¬ S.dull δ.g := by first | exact (fun x => x) | assumption) : SemW P S (Extern.Race.marked m #[.pointer (some a)]) h δ Q X :=
  ⟨⟨h1 a, h2 a, h3 a, fun x => absurd x hDu⟩, hq⟩
end atomics
theorem ER.toUnsafe {src dst t sz by_ : Nat} {z : Value} [hs : Und P src (.pointer t)] [hdt : Und P dst .unsafePointer] [i : Inf P t sz by_ z] {x : Operand} {a : Addr} {v : Value} (hw : wantE ops env g = some true) (hd : Nat.blt d n = true) (hx : ev env x = some (.pointer (some a))) (hsz : sz ≠ 0) (hc : hcell h a = some v)
    (hn : ER P main S f n ops l k ((d, .pointer (some a)) :: env) ds h δ R) : ER P main S f n ops (⟨some d, .convert src dst x, ty, pos, af, g⟩ :: l) k env ds h δ R :=
  ER.to hw hd (fun ρ Q X hρ hq => by
    show SemW P S (convert src dst (ρ x) >>= fun v => pure (.value v)) h δ Q X
    rw [hρ x _ hx]
    refine semW_bind _ _ _ _ _ _ ?_
    unfold convert
    refine semW_underlying hs.out (semW_underlying hdt.out ?_)
    show SemW P S (Conv.unsafePointer src dst (.pointer (some a))) h δ _ X
    unfold Conv.unsafePointer
    refine semW_underlying hs.out (semW_underlying hdt.out ?_)
    obtain ⟨c, e, f, hb, hs', hv⟩ := hcell_some hc
    have h1 : hshape h a.block = some (e, c.size) := by simp [hshape, hb]
    obtain ⟨inf, g1, g2, g3, g4⟩ := i.get
    have hlt : a.off < c.size := by
      rcases Nat.lt_or_ge a.off c.size with y | y
      · exact y
      · simp [Array.getElem?_eq_none y] at hv
    show SemW P S (Conv.seenAt a >>= _) h δ _ X
    refine semW_bind _ _ _ _ _ _ ?_
    unfold Conv.seenAt
    change SemW P S (Sem.bind (Sem.bind (Sem.shape a.block Sem.pure) _) _) h δ _ X
    simp only [Sem.bind, SemW, h1, Option.isSome]
    refine ⟨pres_of hb (ne_dum hv), ?_⟩
    show SemW P S (cellsIn a.block >>= _) h δ _ X
    refine semW_bind _ _ _ _ _ _ ?_
    unfold cellsIn
    change SemW P S (Sem.bind (Sem.shape a.block Sem.pure) _) h δ _ X
    simp only [Sem.bind, SemW, h1]
    refine ⟨pres_of hb (ne_dum hv), ?_⟩
    refine semW_sizeOf g1 ?_
    have h2 : ¬ (inf.size = 0) := by rw [g2]; exact hsz
    have h3 : ¬ (a.off ≥ c.size) := by omega
    simp only [h2, h3, decide_false, Bool.false_and, Bool.or_self, Bool.false_eq_true, if_false]
    exact hq) hn
def Ret (Q : Value -> Hp -> Ix Γ -> Prop) : Post Γ
  | .ret v, h, δ => Q v h δ
  | .pan _, _, _ => False
theorem ER.callR {x : Operand} {args : Array Operand} {ats : Array TypeId} {c : FuncId} {cap ws : Array Value} {vs : List Value} [HasBody P c] {Q : Value -> Hp -> Ix Γ -> Prop} (hw : wantE ops env g = some true) (hd : Nat.blt d n = true) (hx : ev env x = some (.func (.func c) #[] cap))
    (ha : evL env args.toList = some vs) (hws : vs.toArray ++ cap = ws) (hc : CallW P main S c ws h δ (Ret Q))
    (hn : ∀ v h' δ', Q v h' δ' -> ER P main S f n ops l k ((d, v) :: env) ds h' δ' R) : ER P main S f n ops (⟨some d, .call { callee := .value x, args, argTypes := ats }, ty, pos, af, g⟩ :: l) k env ds h δ R := by
  subst hws
  refine ER.call hw hd hx ha (hc.mono ?_)
  rintro (v | p) h' δ' hq
  · exact hn _ _ _ hq
  · exact hq.elim
theorem EU.deferR {c : FuncId} {cap args ws : Array Value} [HasBody P c] {Q : Value -> Hp -> Ix Γ -> Prop} (hws : args ++ cap = ws) (hc : CallW P main S c ws h δ (Ret Q))
    (hn : ∀ v h' δ', Q v h' δ' -> EU P main S f n .returning env ds h' δ' R) : EU P main S f n .returning env ({ target := .fn (.func c) cap, args := args } :: ds) h δ R := by
  subst hws
  refine EU.deferRet (hc.mono ?_)
  rintro (v | p) h' δ' hq
  · exact hn _ _ _ hq
  · exact hq
def Det (v : Value) (h' : Hp) (δ' : Ix Γ) : Value -> Hp -> Ix Γ -> Prop := fun v1 h1 δ1 => v1 = v /\ h1 = h' /\ δ1 = δ'
theorem ER.callD {x : Operand} {args : Array Operand} {ats : Array TypeId} {c : FuncId} {cap ws : Array Value} {vs : List Value} [HasBody P c] {v : Value} {h' : Hp} {δ' : Ix Γ} (hw : wantE ops env g = some true) (hd : Nat.blt d n = true) (hx : ev env x = some (.func (.func c) #[] cap))
    (ha : evL env args.toList = some vs) (hws : vs.toArray ++ cap = ws) (hc : CallW P main S c ws h δ (Ret (Det v h' δ')))
    (hn : ER P main S f n ops l k ((d, v) :: env) ds h' δ' R) : ER P main S f n ops (⟨some d, .call { callee := .value x, args, argTypes := ats }, ty, pos, af, g⟩ :: l) k env ds h δ R :=
  ER.callR hw hd hx ha hws hc (by rintro _ _ _ ⟨rfl, rfl, rfl⟩; exact hn)
theorem EU.deferD {c : FuncId} {cap args ws : Array Value} [HasBody P c] {v : Value} {h' : Hp} {δ' : Ix Γ} (hws : args ++ cap = ws) (hc : CallW P main S c ws h δ (Ret (Det v h' δ')))
    (hn : EU P main S f n .returning env ds h' δ' R) : EU P main S f n .returning env ({ target := .fn (.func c) cap, args := args } :: ds) h δ R :=
  EU.deferR hws hc (by rintro _ _ _ ⟨rfl, rfl, rfl⟩; exact hn)
theorem det {v : Value} {h' : Hp} {δ' : Ix Γ} : Ret (Det v h' δ') (.ret v) h' δ' := ⟨rfl, rfl, rfl⟩
theorem EK.loopInv {σ : Type} (E : σ -> Env) (I : σ -> Hp -> Ix Γ -> Prop) (μ : σ -> Nat) {body : Code} (s0 : σ) (hE : subE (E s0) env) (hI : I s0 h δ)
    (hround : ∀ s h δ, I s h δ -> (∀ s' h' δ', μ s' < μ s -> I s' h' δ' -> EK P main S f n (.inLoop body :: k) (E s') ds h' δ' R) -> EK P main S f n (.code body :: .inLoop body :: k) (E s) ds h δ R) :
    EK P main S f n (.code (.loop body) :: k) env ds h δ R := by
  have key : ∀ m s h δ, μ s < m -> I s h δ -> EK P main S f n (.code body :: .inLoop body :: k) (E s) ds h δ R := by
    intro m
    induction m with
    | zero => intro s h δ hm; omega
    | succ m ih =>
      intro s h δ hm hI
      exact hround s h δ hI fun s' h' δ' hlt hI' => EK.inLoop (ih s' h' δ' (by omega) hI')
  exact EK.sub hE (EK.loop (key (μ s0 + 1) s0 h δ (by omega) hI))
theorem i64_in {x : Int} (h1 : -9223372036854775808 <= x) (h2 : x <= 9223372036854775807) : IntKind.i64.wrap x = x := by
  simp only [IntKind.wrap, IntKind.signed, IntKind.bits]
  simp
  omega
theorem i32_in {x : Int} (h1 : -2147483648 <= x) (h2 : x <= 2147483647) : IntKind.i32.wrap x = x := by
  simp only [IntKind.wrap, IntKind.signed, IntKind.bits]
  simp
  omega
end
end
section
variable [Dm]
open Go Go.Conc
variable {Γ : Type}
section
variable {P : Program} {main : Bool} {S : Sit Γ} {f : FuncId} {n : Nat} {k : List Item} {R : Post Γ} {ops : Array Oper} {Z : Hp -> Prop} {z : Nat}
def PanAll (P : Program) (main : Bool) (S : Sit Γ) (f : FuncId) (c : List PanicEntry) (ds : List Deferred) (R : Post Γ) (h : Hp) (δ : Ix Γ) : Prop :=
  ∀ a : Act, a.defers = ds -> WU P main S f (.panicking c) a h δ R
def NextO (P : Program) (main : Bool) (S : Sit Γ) (f : FuncId) (R : Post Γ) (K : Act -> Hp -> Ix Γ -> Prop) (a : Act) (dst : Option Tmp) : Next -> Hp -> Ix Γ -> Prop
  | .value v, h, δ => K (a.put dst v) h δ
  | .skip, h, δ => K (a.put dst undef) h δ
  | .recover, h, δ => K (a.put dst .nilIface) h δ
  | .enter g args, h, δ => CallW P main S g args h δ fun
      | .ret v, h', δ' => K (a.put dst v) h' δ'
      | .pan c, h', δ' => PanAll P main S f c a.defers R h' δ'
  | _, _, _ => False
structure Ctx (P : Program) (main : Bool) (f : FuncId) (s : Sem Next) (g : Goroutine) (fin : Value -> Goroutine) : Prop where
  going : g.status = .running /\ g.offers = none
  ok : ∀ w v w' es, s.runT P w #[] = (.ok (.value v) w', es) -> stepG P main g w = .go (fin v) w' (seen P f es)
  skip : ∀ w w' es, s.runT P w #[] = (.ok .skip w', es) -> stepG P main g w = .go (fin undef) w' (seen P f es)
  run : ∀ v, (fin v).status = .running
def Yields (P : Program) (main : Bool) (S : Sit Γ) (f : FuncId) (s : Sem Next) (h : Hp) (δ : Ix Γ) (Yv : Value -> Hp -> Ix Γ -> Prop) : Prop :=
  ∀ g fin, Ctx P main f s g fin -> S.yld g h δ fun g' h' δ' => ∃ v, g' = fin v /\ Yv v h' δ'
def HandsO (P : Program) (main : Bool) (S : Sit Γ) (f : FuncId) (K : Act -> Hp -> Ix Γ -> Prop) (a : Act) (dst : Option Tmp) (s : Sem Next) (h : Hp) (δ : Ix Γ) : Prop :=
  ∃ Yv : Value -> Hp -> Ix Γ -> Prop, (∀ v h' δ', Yv v h' δ' -> K (a.put dst v) h' δ') /\ Yields P main S f s h δ Yv
def OpK (P : Program) (main : Bool) (S : Sit Γ) (f : FuncId) (R : Post Γ) (ops : Array Oper) (i : Nat) (K : Act -> Hp -> Ix Γ -> Prop) (a : Act) (h : Hp) (δ : Ix Γ) : Prop :=
  match ops[i]? with
  | none => False
  | some o => if Region.wanted o (yielded ops a.tmps) = true then
      SemW P S (execOp a.eval o) h δ (NextO P main S f R K a o.dst) (fun v h' δ' => PanAll P main S f [{ v, recovered := false }] a.defers R h' δ') \/ HandsO P main S f K a o.dst (execOp a.eval o) h δ
    else K (a.put o.dst undef) h δ
theorem OpK.mono {i : Nat} {K K' : Act -> Hp -> Ix Γ -> Prop} {a : Act} {h : Hp} {δ : Ix Γ} (hk : ∀ a h δ, K a h δ -> K' a h δ) (hh : OpK P main S f R ops i K a h δ) : OpK P main S f R ops i K' a h δ := by
  unfold OpK at *
  split
  · rename_i hn; simp only [hn] at hh
  · rename_i o ho
    simp only [ho] at hh
    split
    · rename_i hw
      simp only [hw, if_true] at hh
      rcases hh with hh | ⟨Yv, h1, h2⟩
      rotate_left
      · exact .inr ⟨Yv, fun v h δ y => hk _ _ _ (h1 v h δ y), h2⟩
      refine .inl (semW_mono _ _ _ hh (fun nx h δ hx => ?_) (fun _ _ _ x => x))
      cases nx <;> first | exact hk _ _ _ hx | exact hx.elim | skip
      refine CallW.mono hx ?_
      rintro (v | c) h' δ' y
      · exact hk _ _ _ y
      · exact y
    · rename_i hw
      simp only [hw] at hh
      exact hk _ _ _ hh
def AnyK (P : Program) (main : Bool) (S : Sit Γ) (f : FuncId) (k : List Item) (R : Post Γ) (ops : Array Oper) (Z : Hp -> Prop) (z : Nat) : Nat -> Array Bool -> Act -> Hp -> Ix Γ -> Prop
  | 0, listed, a, h, δ => Region.ready .any ops listed = [] /\ WK P main S f k a h δ R
  | m + 1, listed, a, h, δ => (Region.ready .any ops listed = [] -> WK P main S f k a h δ R) /\
      ∀ i ∈ Region.ready .any ops listed, OpK P main S f R ops i (fun a' h' δ' => (i = z \/ Z h') /\ AnyK P main S f k R ops Z z m (listed.setIfInBounds i true) a' h' δ') a h δ
theorem OpK.sound {i : Nat} {rest : List Nat} {a : Act} {h : Hp} {δ : Ix Γ} (hh : OpK P main S f R ops i (fun a' h' δ' => WK P main S f (.inRegion ops rest :: k) a' h' δ' R) a h δ) : WK P main S f (.inRegion ops (i :: rest) :: k) a h δ R := by
  unfold OpK at hh
  split at hh
  · exact hh.elim
  · rename_i o ho
    split at hh
    · rename_i hw
      rcases hh with hh | ⟨Yv, h1, h2⟩
      rotate_left
      · intro kind hk cs
        have hk' : (kind == CallKind.early) = false := by simpa using hk
        have hfin : ∀ v, ((fb f kind).at a (.inRegion ops (i :: rest) :: k)).finish v = (fb f kind).at (a.put o.dst v) (.inRegion ops rest :: k) := fun v => by rw [Frame.finish_at, ho]; rfl
        have hkind : ((fb f kind).at a (.inRegion ops (i :: rest) :: k)).kind = kind := rfl
        have hfn : ((fb f kind).at a (.inRegion ops (i :: rest) :: k)).fn = f := rfl
        refine .hands _ ?_ (h2 _ (fun v => G ((fb f kind).at (a.put o.dst v) (.inRegion ops rest :: k)) cs) ⟨⟨rfl, rfl⟩, fun w v w' es hrun => ?_, fun w w' es hrun => ?_, fun _ => rfl⟩)
        · rintro g h δ ⟨v, rfl, y⟩
          exact h1 v h δ y kind hk cs
        · rw [stepG_oper ho hw, <- hfin]
          simp only [stepG.apply, hrun, if_true, hkind, hk', hfn, Bool.false_eq_true, if_false]
          simp [GStep.after, G]
        · rw [stepG_oper ho hw, <- hfin]
          simp only [stepG.apply, hrun, if_true, hkind, hk', hfn, Bool.false_eq_true, if_false]
          simp [GStep.after, G]
      refine WK.op ho hw (semW_mono _ _ _ hh (fun nx h δ hx => ?_) (fun v h δ hx => hx a rfl))
      cases nx <;> first | exact hx | exact hx.elim | skip
      refine CallW.mono hx ?_
      rintro (v | c) h' δ' y
      · exact y
      · exact y a rfl
    · rename_i hw
      exact WK.unwanted ho (by simpa using hw) hh
theorem AnyK.sound : ∀ (m t : Nat) (listed : Array Bool) (a : Act) (h : Hp) (δ : Ix Γ), AnyK P main S f k R ops Z z m listed a h δ ->
    WK P main S f (.inRegion ops (Region.linearise.go .any ops m t listed []) :: k) a h δ R := by
  intro m
  induction m with
  | zero => intro t listed a h δ hh; simpa [Region.linearise.go] using WK.regionEnd hh.2
  | succ m ih =>
    intro t listed a h δ hh
    obtain ⟨h0, h1⟩ := hh
    simp only [Region.linearise.go]
    change WK P main S f (.inRegion ops (match (Region.ready .any ops listed)[t % (Region.ready .any ops listed).length]? with
      | some i => Region.linearise.go .any ops m (t / (Region.ready .any ops listed).length) (listed.setIfInBounds i true) [i]
      | none => [].reverse) :: k) a h δ R
    cases hi : (Region.ready .any ops listed)[t % (Region.ready .any ops listed).length]? with
    | none =>
      have hnil : Region.ready .any ops listed = [] := by
        cases hr : Region.ready .any ops listed with
        | nil => rfl
        | cons x xs =>
          rw [hr] at hi
          have hlt : t % (x :: xs).length < (x :: xs).length := Nat.mod_lt _ (by simp)
          simp at hi
          simp at hlt
          omega
      simpa using WK.regionEnd (h0 hnil)
    | some i =>
      simp only []
      rw [linearise_go_acc, List.reverse_singleton, List.singleton_append]
      exact OpK.sound (OpK.mono (fun a h δ x => ih _ _ a h δ x.2) (h1 i (List.mem_of_getElem? hi)))
def YldZ (P : Program) (S : Sit Γ) (ops : Array Oper) (Z : Hp -> Prop) (o : Oper) (v : Value) (a : Act) : Prop :=
  (Region.wanted o (yielded ops a.tmps) = true /\ ∀ h δ (Q : Next -> Hp -> Ix Γ -> Prop) (X : Value -> Hp -> Ix Γ -> Prop), Z h -> Q (.value v) h δ -> SemW P S (execOp a.eval o) h δ Q X) \/
  (Region.wanted o (yielded ops a.tmps) = false /\ v = undef)
theorem YldZ.opK {i : Nat} {o : Oper} {v : Value} {a : Act} (hi : ops[i]? = some o) (hy : YldZ P S ops Z o v a) {K : Act -> Hp -> Ix Γ -> Prop} {h : Hp} {δ : Ix Γ} (hZ : Z h) (hk : K (a.put o.dst v) h δ) : OpK P main S f R ops i K a h δ := by
  unfold OpK
  simp only [hi]
  rcases hy with ⟨hw, hv⟩ | ⟨hw, rfl⟩
  · rw [if_pos hw]
    exact .inl (hv h δ _ _ hZ hk)
  · rw [if_neg (by simp [hw])]
    exact hk
theorem YldZ.same {o : Oper} {v : Value} {a a' : Act} (hy : YldZ P S ops Z o v a) (he : execOp a'.eval o = execOp a.eval o)
    (hw : Region.wanted o (yielded ops a'.tmps) = Region.wanted o (yielded ops a.tmps)) : YldZ P S ops Z o v a' := by
  unfold YldZ at *
  rw [he, hw]
  exact hy
theorem put_defers (a : Act) (d : Option Tmp) (v : Value) : (a.put d v).defers = a.defers := by cases d <;> rfl
theorem OpK.put {j : Nat} {oi oj : Oper} {v : Value} (hj : ops[j]? = some oj) (hap : oi.apart ops oj = true) (hsi : ∀ cs b, oi.op ≠ .select cs b) (hsj : ∀ cs b, oj.op ≠ .select cs b)
    {K : Act -> Hp -> Ix Γ -> Prop} {a : Act} {h : Hp} {δ : Ix Γ} (hy : YldZ P S ops Z oi v a) (hh : OpK P main S f R ops j K (a.put oi.dst v) h δ) :
    OpK P main S f R ops j (fun a' h' δ' => YldZ P S ops Z oi v a' /\ K (a'.put oi.dst v) h' δ') a h δ := by
  obtain ⟨h1, h2, h3⟩ := Oper.apart_spec hap
  have keep : ∀ (a : Act), YldZ P S ops Z oi v a -> ∀ u, YldZ P S ops Z oi v (a.put oj.dst u) := fun a hy u =>
    hy.same (execOp_put oi hsi a oj.dst u h3) (wanted_put oi a oj.dst u h3)
  unfold OpK at *
  simp only [hj] at *
  rw [wanted_put oj a oi.dst v h1] at hh
  split
  · rename_i hw
    simp only [hw, if_true] at hh
    rw [execOp_put oj hsj a oi.dst v h1] at hh
    rcases hh with hh | ⟨Yv, y1, y2⟩
    rotate_left
    · exact .inr ⟨Yv, fun u h' δ' y => ⟨keep a hy u, by rw [<- Act.put_comm a v u h2]; exact y1 u h' δ' y⟩, y2⟩
    refine .inl (semW_mono _ _ _ hh (fun nx h δ hx => ?_) (fun x h δ hx => by rw [put_defers] at hx; exact hx))
    cases nx <;> simp only [NextO] at hx ⊢
    case value u => exact ⟨keep a hy u, by rw [<- Act.put_comm a v u h2]; exact hx⟩
    case skip => exact ⟨keep a hy _, by rw [<- Act.put_comm a v undef h2]; exact hx⟩
    case recover => exact ⟨keep a hy _, by rw [<- Act.put_comm a v .nilIface h2]; exact hx⟩
    case enter g args =>
      refine CallW.mono hx ?_
      rintro (u | c) h' δ' y
      · exact ⟨keep a hy u, by rw [<- Act.put_comm a v u h2]; exact y⟩
      · dsimp only at y ⊢
        rw [put_defers] at y
        exact y
  · rename_i hw
    simp only [hw] at hh
    exact ⟨keep a hy _, by rw [<- Act.put_comm a v undef h2]; exact hh⟩
def Region.pinned (ops : Array Oper) (z i : Nat) : Bool := match ops[z]? with
  | none => true
  | some o => (i == z) || o.after.any fun e => Region.binds .any e && e.on == i
theorem AnyK.first {i : Nat} {oi : Oper} {v : Value} (hi : ops[i]? = some oi) (hsel : ∀ (j : Nat) (o : Oper) cs b, ops[j]? = some o -> o.op ≠ .select cs b) (hpin : TJ.Region.pinned ops z i = true) :
    ∀ (m : Nat) (listed : Array Bool) (a : Act) (h : Hp) (δ : Ix Γ),
      (∀ j oj, ops[j]? = some oj -> j ≠ i -> listed.getD j true = false -> (∀ e ∈ oj.after, Region.binds .any e = true -> e.on ≠ i) -> oi.apart ops oj = true) ->
      i ∈ Region.ready .any ops listed -> YldZ P S ops Z oi v a -> Z h ->
      AnyK P main S f k R ops Z z m (listed.setIfInBounds i true) (a.put oi.dst v) h δ -> AnyK P main S f k R ops Z z (m + 1) listed a h δ := by
  intro m
  induction m with
  | zero =>
    intro listed a h δ _ hr hy hZ H
    refine ⟨fun x => (by rw [x] at hr; cases hr), fun j hj => ?_⟩
    by_cases hji : j = i
    · subst hji; exact hy.opK hi hZ ⟨.inr hZ, H⟩
    · have := ready_mono hj hji
      rw [H.1] at this
      cases this
  | succ m ih =>
    intro listed a h δ hfree hr hy hZ H
    refine ⟨fun x => (by rw [x] at hr; cases hr), fun j hj => ?_⟩
    by_cases hji : j = i
    · subst hji; exact hy.opK hi hZ ⟨.inr hZ, H⟩
    · have h1 := H.2 j (ready_mono hj hji)
      obtain ⟨hjun, oj, hoj, hall⟩ := mem_ready.1 hj
      have hnot : ∀ e ∈ oj.after, Region.binds .any e = true -> e.on ≠ i := fun e he hb heq => by
        have g1 := hall e he hb
        have g0 := (mem_ready.1 hr).1
        rw [heq] at g1
        rcases Nat.lt_or_ge i listed.size with h' | h'
        · simp [h'] at g0 g1; rw [g0] at g1; cases g1
        · simp [Array.getElem?_eq_none h'] at g1
      have hjz : j ≠ z := fun e => by
        subst e
        unfold TJ.Region.pinned at hpin
        rw [hoj] at hpin
        simp only [Bool.or_eq_true, beq_iff_eq] at hpin
        rcases hpin with x | x
        · exact hji x.symm
        · obtain ⟨q, hq, hb⟩ := Array.any_eq_true.1 x
          simp only [Bool.and_eq_true, beq_iff_eq] at hb
          exact hnot _ (Array.getElem_mem hq) hb.1 hb.2
      have h2 := OpK.put hoj (hfree j oj hoj hji hjun hnot) (fun cs b => hsel i oi cs b hi) (fun cs b => hsel j oj cs b hoj) hy h1
      have hfree' : ∀ k ok, ops[k]? = some ok -> k ≠ i -> (listed.setIfInBounds j true).getD k true = false ->
          (∀ e ∈ ok.after, Region.binds .any e = true -> e.on ≠ i) -> oi.apart ops ok = true := fun k ok hk hki hun hno => by
        refine hfree k ok hk hki ?_ hno
        by_cases hjk : j = k
        · subst hjk; exact hjun
        · rw [getD_set_ne true hjk] at hun; exact hun
      refine OpK.mono (fun a' h' δ' h3 => ⟨h3.2.1, ih (listed.setIfInBounds j true) a' h' δ' hfree' (ready_mono hr (Ne.symm hji)) h3.1 (h3.2.1.resolve_left hjz) ?_⟩) h2
      rw [Array.setIfInBounds_comm _ _ hji]
      exact h3.2.2
def EA (P : Program) (main : Bool) (S : Sit Γ) (f : FuncId) (n : Nat) (ops : Array Oper) (Z : Hp -> Prop) (z : Nat) (m : Nat) (listed : Array Bool) (k : List Item) (env : Env) (ds : List Deferred) (h : Hp) (δ : Ix Γ) (R : Post Γ) : Prop :=
  ∀ a, Kn n env ds a -> AnyK P main S f k R ops Z z m listed a h δ
class Mixed (P : Program) : Prop where
  out : P.follows .mixedOrders = true
variable {env : Env} {ds : List Deferred} {h : Hp} {δ : Ix Γ}
theorem EK.regionAnyL [hm : Mixed P] {id : Nat} (Z : Hp -> Prop) (z : Nat) (hw : EA P main S f n ops Z z ops.size (Array.replicate ops.size false) k env ds h δ R) (hDu : ¬ S.dull δ.g := by first | exact (fun x => x) | assumption) : EK P main S f n (.code (.region id ops true) :: k) env ds h δ R := by
  intro a ka
  refine WK.regionDraw (fun t => ?_) hDu
  have e : Region.schedule (P.follows .mixedOrders) ops t = Region.linearise.go .any ops ops.size t (Array.replicate ops.size false) [] := by
    simp only [Region.schedule, hm.out, Bool.true_or, if_true]
    rfl
  rw [e]
  exact AnyK.sound ops.size t _ a h δ (hw a ka)
theorem EK.regionAny [Mixed P] {id : Nat} (Z : Hp -> Prop) (hw : EA P main S f n ops Z 1000000 ops.size (Array.replicate ops.size false) k env ds h δ R) (hDu : ¬ S.dull δ.g := by first | exact (fun x => x) | assumption) : EK P main S f n (.code (.region id ops true) :: k) env ds h δ R := EK.regionAnyL Z 1000000 hw hDu
def takeB (ops : Array Oper) (listed : Array Bool) (z i : Nat) : Bool := (Region.noSelect ops && TJ.Region.pinned ops z i) && (Region.free .any ops listed i && (Region.ready .any ops listed).contains i)
theorem takeB_ok {ops : Array Oper} {listed : Array Bool} {z i : Nat} (h : takeB ops listed z i = true) : (Region.noSelect ops && TJ.Region.pinned ops z i) = true /\ Region.free .any ops listed i = true /\ (Region.ready .any ops listed).contains i = true :=
  ⟨(Bool.and_eq_true_iff.1 h).1, Bool.and_eq_true_iff.1 (Bool.and_eq_true_iff.1 h).2⟩
theorem EA.take (i : Nat) {d : Nat} {op : Op} {ty : TypeId} {pos : String} {af : Array Edge} {g : Option (Nat × Bool)} {m : Nat} {listed l' : Array Bool} {v : Value}
    (hi : ops[i]? = some ⟨some d, op, ty, pos, af, g⟩) (hs : takeB ops listed z i = true) (hl : listed.setIfInBounds i true = l')
    (hd : Nat.blt d n = true) (hw : wantE ops env g = some true)
    (hy : ∀ (ρ : Operand -> Value) (h : Hp) (δ : Ix Γ) (Q : Next -> Hp -> Ix Γ -> Prop) (X : Value -> Hp -> Ix Γ -> Prop), (∀ x v, ev env x = some v -> ρ x = v) -> Z h -> Q (.value v) h δ -> SemW P S (execOp ρ ⟨some d, op, ty, pos, af, g⟩) h δ Q X) (hZ : Z h)
    (hn : EA P main S f n ops Z z m l' k ((d, v) :: env) ds h δ R) : EA P main S f n ops Z z (m + 1) listed k env ds h δ R := by
  obtain ⟨hs, hf, hr⟩ := takeB_ok hs
  subst hl
  intro a ka
  refine AnyK.first hi (Region.noSelect_spec (Bool.and_eq_true_iff.1 hs).1) (Bool.and_eq_true_iff.1 hs).2 m listed a h δ (Region.free_spec hi hf) (by simpa using hr) (.inl ⟨wantE_ok ka (o := ⟨some d, op, ty, pos, af, g⟩) hw, fun h δ Q X hZ hq => hy a.eval h δ Q X (fun x v hx => ka.eval hx) hZ hq⟩) hZ ?_
  exact hn _ (ka.put v hd)
theorem EA.takeNo (i : Nat) {d : Nat} {op : Op} {ty : TypeId} {pos : String} {af : Array Edge} {g : Option (Nat × Bool)} {m : Nat} {listed l' : Array Bool}
    (hi : ops[i]? = some ⟨some d, op, ty, pos, af, g⟩) (hs : takeB ops listed z i = true) (hl : listed.setIfInBounds i true = l')
    (hd : Nat.blt d n = true) (hw : wantE ops env g = some false) (hZ : Z h)
    (hn : EA P main S f n ops Z z m l' k ((d, undef) :: env) ds h δ R) : EA P main S f n ops Z z (m + 1) listed k env ds h δ R := by
  obtain ⟨hs, hf, hr⟩ := takeB_ok hs
  subst hl
  intro a ka
  refine AnyK.first hi (Region.noSelect_spec (Bool.and_eq_true_iff.1 hs).1) (Bool.and_eq_true_iff.1 hs).2 m listed a h δ (Region.free_spec hi hf) (by simpa using hr) (.inr ⟨wantE_ok ka (o := ⟨some d, op, ty, pos, af, g⟩) hw, rfl⟩) hZ ?_
  exact hn _ (ka.put undef hd)
theorem EA.only (i : Nat) {o : Oper} {m : Nat} {listed l' : Array Bool} (hi : ops[i]? = some o) (hr : Region.ready .any ops listed = [i]) (hl : listed.setIfInBounds i true = l')
    (hw : wantE ops env o.guard = some true)
    (hs : ∀ (a : Act), Kn n env ds a -> SemW P S (execOp a.eval o) h δ (NextO P main S f R (fun a' h' δ' => (i = z \/ Z h') /\ AnyK P main S f k R ops Z z m l' a' h' δ') a o.dst) (fun v h' δ' => PanAll P main S f [{ v, recovered := false }] ds R h' δ')) :
    EA P main S f n ops Z z (m + 1) listed k env ds h δ R := by
  subst hl
  intro a ka
  refine ⟨fun x => (by rw [x] at hr; cases hr), fun j hj => ?_⟩
  rw [hr] at hj
  have : j = i := by simpa using hj
  subst this
  unfold OpK
  simp only [hi]
  rw [if_pos (wantE_ok ka hw), ka.defers]
  exact .inl (hs a ka)
theorem EA.onlyH (i : Nat) {o : Oper} {m : Nat} {listed l' : Array Bool} {d : Option Nat} (hi : ops[i]? = some o) (hr : Region.ready .any ops listed = [i]) (hl : listed.setIfInBounds i true = l') (hw : wantE ops env o.guard = some true) (hdst : o.dst = d) (hd : (∃ t, d = some t /\ Nat.blt t n = true) \/ d = none)
    (hs : ∀ (ρ : Operand -> Value), (∀ x v, ev env x = some v -> ρ x = v) -> ∃ Yv : Value -> Hp -> Ix Γ -> Prop, Yields P main S f (execOp ρ o) h δ Yv /\
      ∀ v h' δ', Yv v h' δ' -> (i = z \/ Z h') /\ EA P main S f n ops Z z m l' k (match d with | some t => (t, v) :: env | none => env) ds h' δ' R) :
    EA P main S f n ops Z z (m + 1) listed k env ds h δ R := by
  subst hl
  intro a ka
  refine ⟨fun x => (by rw [x] at hr; cases hr), fun j hj => ?_⟩
  rw [hr] at hj
  have : j = i := by simpa using hj
  subst this
  unfold OpK
  simp only [hi]
  rw [if_pos (wantE_ok ka hw)]
  obtain ⟨Yv, y1, y2⟩ := hs a.eval (fun x v hx => ka.eval hx)
  refine .inr ⟨Yv, fun v h' δ' y => ?_, y1⟩
  obtain ⟨z1, z2⟩ := y2 v h' δ' y
  refine ⟨z1, ?_⟩
  rw [hdst]
  rcases hd with ⟨t, rfl, hd⟩ | rfl
  · exact z2 _ (ka.put v hd)
  · exact z2 _ ⟨ka.size, ka.defers, ka.knows⟩
theorem EA.done {m : Nat} {listed : Array Bool} (hr : Region.ready .any ops listed = []) (hw : EK P main S f n k env ds h δ R) : EA P main S f n ops Z z m listed k env ds h δ R := by
  intro a ka
  cases m with
  | zero => exact ⟨hr, hw a ka⟩
  | succ m => exact ⟨fun _ => hw a ka, by rw [hr]; simp⟩
theorem EA.callR (i : Nat) {d : Nat} {x : Operand} {args : Array Operand} {ats : Array TypeId} {ty : TypeId} {pos : String} {af : Array Edge} {g : Option (Nat × Bool)} {m : Nat} {listed l' : Array Bool} {c : FuncId} {cap ws : Array Value} {vs : List Value} [HasBody P c] {Q : Value -> Hp -> Ix Γ -> Prop}
    (hi : ops[i]? = some ⟨some d, .call { callee := .value x, args, argTypes := ats }, ty, pos, af, g⟩) (hr : Region.ready .any ops listed = [i]) (hl : listed.setIfInBounds i true = l') (hd : Nat.blt d n = true)
    (hw : wantE ops env g = some true) (hx : ev env x = some (.func (.func c) #[] cap)) (ha : evL env args.toList = some vs) (hws : vs.toArray ++ cap = ws) (hc : CallW P main S c ws h δ (Ret Q))
    (hn : ∀ v h' δ', Q v h' δ' -> Z h' /\ EA P main S f n ops Z z m l' k ((d, v) :: env) ds h' δ' R) : EA P main S f n ops Z z (m + 1) listed k env ds h δ R := by
  subst hws
  refine EA.only i hi hr hl hw fun a ka => ?_
  refine semW_call rfl (ka.eval hx) (map_ofL (fun x v hx => ka.eval hx) ha) (hc.mono ?_)
  rintro (v | p) h' δ' hq
  · exact ⟨.inr (hn v h' δ' hq).1, (hn v h' δ' hq).2 _ (ka.put v hd)⟩
  · exact hq.elim
theorem EA.callD (i : Nat) {d : Nat} {x : Operand} {args : Array Operand} {ats : Array TypeId} {ty : TypeId} {pos : String} {af : Array Edge} {g : Option (Nat × Bool)} {m : Nat} {listed l' : Array Bool} {c : FuncId} {cap ws : Array Value} {vs : List Value} [HasBody P c] {v : Value} {h' : Hp} {δ' : Ix Γ}
    (hi : ops[i]? = some ⟨some d, .call { callee := .value x, args, argTypes := ats }, ty, pos, af, g⟩) (hr : Region.ready .any ops listed = [i]) (hl : listed.setIfInBounds i true = l') (hd : Nat.blt d n = true)
    (hw : wantE ops env g = some true) (hx : ev env x = some (.func (.func c) #[] cap)) (ha : evL env args.toList = some vs) (hws : vs.toArray ++ cap = ws) (hc : CallW P main S c ws h δ (Ret (Det v h' δ'))) (hZ : Z h')
    (hn : EA P main S f n ops Z z m l' k ((d, v) :: env) ds h' δ' R) : EA P main S f n ops Z z (m + 1) listed k env ds h δ R :=
  EA.callR i hi hr hl hd hw hx ha hws hc (by rintro _ _ _ ⟨rfl, rfl, rfl⟩; exact ⟨hZ, hn⟩)
theorem EA.val (i : Nat) {d : Nat} {op : Op} {ty : TypeId} {pos : String} {af : Array Edge} {g : Option (Nat × Bool)} {m : Nat} {listed l' : Array Bool} {v : Value} {h' : Hp}
    (hi : ops[i]? = some ⟨some d, op, ty, pos, af, g⟩) (hr : Region.ready .any ops listed = [i]) (hl : listed.setIfInBounds i true = l') (hd : Nat.blt d n = true) (hw : wantE ops env g = some true)
    (hs : ∀ (ρ : Operand -> Value) (Q : Next -> Hp -> Ix Γ -> Prop) (X : Value -> Hp -> Ix Γ -> Prop), (∀ x v, ev env x = some v -> ρ x = v) -> Q (.value v) h' δ -> SemW P S (execOp ρ ⟨some d, op, ty, pos, af, g⟩) h δ Q X) (hZ : Z h')
    (hn : EA P main S f n ops Z z m l' k ((d, v) :: env) ds h' δ R) : EA P main S f n ops Z z (m + 1) listed k env ds h δ R := by
  refine EA.only i hi hr hl hw fun a ka => ?_
  exact hs a.eval _ _ (fun x v hx => ka.eval hx) ⟨.inr hZ, hn _ (ka.put v hd)⟩
theorem EA.unit (i : Nat) {op : Op} {ty : TypeId} {pos : String} {af : Array Edge} {g : Option (Nat × Bool)} {m : Nat} {listed l' : Array Bool} {h' : Hp}
    (hi : ops[i]? = some ⟨none, op, ty, pos, af, g⟩) (hr : Region.ready .any ops listed = [i]) (hl : listed.setIfInBounds i true = l') (hw : wantE ops env g = some true)
    (hs : ∀ (ρ : Operand -> Value) (Q : Next -> Hp -> Ix Γ -> Prop) (X : Value -> Hp -> Ix Γ -> Prop), (∀ x v, ev env x = some v -> ρ x = v) -> Q .skip h' δ -> SemW P S (execOp ρ ⟨none, op, ty, pos, af, g⟩) h δ Q X) (hZ : Z h')
    (hn : EA P main S f n ops Z z m l' k env ds h' δ R) : EA P main S f n ops Z z (m + 1) listed k env ds h δ R := by
  refine EA.only i hi hr hl hw fun a ka => ?_
  exact hs a.eval _ _ (fun x v hx => ka.eval hx) ⟨.inr hZ, hn _ ⟨ka.size, ka.defers, ka.knows⟩⟩
end
end
section
variable [Dm]
open Go Go.Conc
variable {Γ : Type}
section
variable {P : Program} {S : Sit Γ} {h : Hp} {δ : Ix Γ} {ρ : Operand -> Value} {dst : Option Nat} {ty : TypeId} {pos : String} {af : Array Edge} {g : Option (Nat × Bool)} {Q : Next -> Hp -> Ix Γ -> Prop} {X : Value -> Hp -> Ix Γ -> Prop}
theorem sem_move {x : Operand} {v : Value} (hx : ρ x = v) (hq : Q (.value v) h δ) : SemW P S (execOp ρ ⟨dst, .move x, ty, pos, af, g⟩) h δ Q X := by
  show Q (.value (ρ x)) h δ; rw [hx]; exact hq
theorem sem_assign {x : Operand} {v : Value} (hx : ρ x = v) (hq : Q (.value v) h δ) : SemW P S (execOp ρ ⟨dst, .assign x, ty, pos, af, g⟩) h δ Q X := by
  show Q (.value (ρ x)) h δ; rw [hx]; exact hq
theorem sem_nilCheck {x : Operand} {a : Addr} (hx : ρ x = .pointer (some a)) (hq : Q (.value (.pointer (some a))) h δ) : SemW P S (execOp ρ ⟨dst, .nilCheck x, ty, pos, af, g⟩) h δ Q X := by
  unfold execOp; simp only [hx]; exact hq
theorem sem_fieldAddr {s fld off : Nat} [FieldOff P s fld off] {x : Operand} {b o : Nat} (hx : ρ x = .pointer (some ⟨b, o, none⟩)) (hq : Q (.value (.pointer (some ⟨b, o + off, none⟩))) h δ) : SemW P S (execOp ρ ⟨dst, .fieldAddr s x fld, ty, pos, af, g⟩) h δ Q X := by
  show SemW P S (Instr.fieldAt s (ρ x) fld >>= fun v => pure (.value v)) h δ Q X
  rw [hx]
  exact semW_bind _ _ _ _ _ _ (semW_fieldAt hq)
theorem sem_load1 {t : TypeId} [Scal P t] {x : Operand} {a : Addr} {v : Value} (hx : ρ x = .pointer (some a)) (hc : hcell h a = some v) (hq : Q (.value v) h δ) : SemW P S (execOp ρ ⟨dst, .load t x, ty, pos, af, g⟩) h δ Q X := by
  show SemW P S ((Instr.sureAddr (ρ x) >>= fun a => loadVar t a) >>= fun v => pure (.value v)) h δ Q X
  rw [hx]
  exact semW_bind _ _ _ _ _ _ (semW_pureBind (semW_loadVar1 hc hq))
theorem sem_store1 {t : TypeId} [Scal P t] {x y : Operand} {b o : Nat} {v : Value} (hx : ρ x = .pointer (some ⟨b, o, none⟩)) (hy : ρ y = v) (hv : OneCell v)
    (hc : ∃ u, hcell h ⟨b, o, none⟩ = some u) (hf : hfroz h ⟨b, o, none⟩ = false) (hS : ¬ S.still δ.g ⟨b, o, none⟩) (hq : Q .skip (hset h ⟨b, o, none⟩ v) δ) : SemW P S (execOp ρ ⟨dst, .store t x y, ty, pos, af, g⟩) h δ Q X := by
  show SemW P S ((Instr.sureAddr (ρ x) >>= fun a => storeVar t a (ρ y)) >>= fun _ => pure .skip) h δ Q X
  rw [hx, hy]
  exact semW_bind _ _ _ _ _ _ (semW_pureBind (semW_storeVar1 hv hc hf hS hq))
theorem sem_notB {x : Operand} {b : Bool} {t : TypeId} (hx : ρ x = .bool b) (hq : Q (.value (.bool (!b))) h δ) : SemW P S (execOp ρ ⟨dst, .unOp .not t x, ty, pos, af, g⟩) h δ Q X := by
  show SemW P S (Op.unary .not (ρ x) >>= fun v => pure (.value v)) h δ Q X
  rw [hx]
  exact hq
theorem sem_binI {op : BinOp} {t t2 : TypeId} {x y : Operand} {kd : IntKind} {a b : Int} {v : Value} (hx : ρ x = .int kd a) (hy : ρ y = .int kd b) (hv : binOp op t (.int kd a) (.int kd b) = pure v) (hq : Q (.value v) h δ) :
    SemW P S (execOp ρ ⟨dst, .binOp op t x y t2, ty, pos, af, g⟩) h δ Q X := semW_binOp (by
    rw [hx, hy, eqGuard_int, hv]
    exact hq)
theorem sem_add {t t2 : TypeId} {x y : Operand} {kd : IntKind} {a b r : Int} (hx : ρ x = .int kd a) (hy : ρ y = .int kd b) (hr : kd.wrap (a + b) = r) (hq : Q (.value (.int kd r)) h δ) :
    SemW P S (execOp ρ ⟨dst, .binOp .add t x y t2, ty, pos, af, g⟩) h δ Q X := sem_binI hx hy (by rw [binOp_add, hr]) hq
theorem sem_sub {t t2 : TypeId} {x y : Operand} {kd : IntKind} {a b r : Int} (hx : ρ x = .int kd a) (hy : ρ y = .int kd b) (hr : kd.wrap (a - b) = r) (hq : Q (.value (.int kd r)) h δ) :
    SemW P S (execOp ρ ⟨dst, .binOp .sub t x y t2, ty, pos, af, g⟩) h δ Q X := sem_binI hx hy (by rw [binOp_sub, hr]) hq
theorem sem_pick {c x y : Operand} {b : Bool} {v : Value} (hc : ρ c = .bool b) (hx : (if b then ρ x else ρ y) = v) (hq : Q (.value v) h δ) : SemW P S (execOp ρ ⟨dst, .pick c x y, ty, pos, af, g⟩) h δ Q X := by
  show SemW P S (asBool (ρ c) >>= fun b => pure (.value (if b then ρ x else ρ y))) h δ Q X
  rw [hc]
  show Q (.value (if b then ρ x else ρ y)) h δ
  rw [hx]; exact hq
theorem Addr.add_z (b o n : Nat) : (⟨b, o, none⟩ : Addr).add n = ⟨b, o + n, none⟩ := add_eq b o n
theorem semW_indexArr {t len e sz by_ : Nat} {z : Value} [u : Und P t (.array len e)] [i : Inf P e sz by_ z] {b o : Nat} {kd : IntKind} {ix : Int} (h0 : 0 <= ix) (h1 : ix < len) {Q : Value -> Hp -> Ix Γ -> Prop} {X : Value -> Hp -> Ix Γ -> Prop}
    (hq : Q (.pointer (some ⟨b, o + ix.toNat * sz, none⟩)) h δ) : SemW P S (Instr.indexAt t (.pointer (some ⟨b, o, none⟩)) (.int kd ix)) h δ Q X := by
  unfold Instr.indexAt
  refine semW_pureBind ?_
  refine semW_underlying u.out ?_
  show SemW P S (underlying t >>= _) h δ Q X
  refine semW_underlying u.out ?_
  obtain ⟨inf, g1, g2, g3, g4⟩ := i.get
  show SemW P S (if 0 <= ix /\ ix < len then _ else _) h δ Q X
  rw [if_pos ⟨h0, h1⟩]
  refine semW_sizeOf g1 ?_
  rw [g2, Addr.add_z]
  exact hq
theorem semW_indexSl {t e sz by_ len cap : Nat} {z : Value} [u : Und P t (.slice e)] [i : Inf P e sz by_ z] {b o : Nat} {kd : IntKind} {ix : Int} (h0 : 0 <= ix) (h1 : ix < len) {Q : Value -> Hp -> Ix Γ -> Prop} {X : Value -> Hp -> Ix Γ -> Prop}
    (hq : Q (.pointer (some ⟨b, o + ix.toNat * sz, none⟩)) h δ) : SemW P S (Instr.indexAt t (.slice (some ⟨b, o, none⟩) len cap) (.int kd ix)) h δ Q X := by
  unfold Instr.indexAt
  refine semW_pureBind ?_
  refine semW_underlying u.out ?_
  show SemW P S (underlying t >>= _) h δ Q X
  refine semW_underlying u.out ?_
  obtain ⟨inf, g1, g2, g3, g4⟩ := i.get
  show SemW P S (if 0 <= ix /\ ix < len then _ else _) h δ Q X
  rw [if_pos ⟨h0, h1⟩]
  refine semW_sizeOf g1 ?_
  rw [g2, Addr.add_z]
  exact hq
theorem sem_indexArr {t len e sz by_ : Nat} {z : Value} [Und P t (.array len e)] [Inf P e sz by_ z] {x y : Operand} {b o : Nat} {kd : IntKind} {ix : Int} (hx : ρ x = .pointer (some ⟨b, o, none⟩)) (hy : ρ y = .int kd ix) (h0 : 0 <= ix) (h1 : ix < len)
    (hq : Q (.value (.pointer (some ⟨b, o + ix.toNat * sz, none⟩))) h δ) : SemW P S (execOp ρ ⟨dst, .indexAddr t x y, ty, pos, af, g⟩) h δ Q X := by
  show SemW P S (Instr.indexAt t (ρ x) (ρ y) >>= fun v => pure (.value v)) h δ Q X
  rw [hx, hy]
  exact semW_bind _ _ _ _ _ _ (semW_indexArr h0 h1 hq)
theorem sem_indexSl {t e sz by_ len cap : Nat} {z : Value} [Und P t (.slice e)] [Inf P e sz by_ z] {x y : Operand} {b o : Nat} {kd : IntKind} {ix : Int} (hx : ρ x = .slice (some ⟨b, o, none⟩) len cap) (hy : ρ y = .int kd ix) (h0 : 0 <= ix) (h1 : ix < len)
    (hq : Q (.value (.pointer (some ⟨b, o + ix.toNat * sz, none⟩))) h δ) : SemW P S (execOp ρ ⟨dst, .indexAddr t x y, ty, pos, af, g⟩) h δ Q X := by
  show SemW P S (Instr.indexAt t (ρ x) (ρ y) >>= fun v => pure (.value v)) h δ Q X
  rw [hx, hy]
  exact semW_bind _ _ _ _ _ _ (semW_indexSl h0 h1 hq)
theorem sem_builtin {b : Builtin} {args : Array Operand} {ats : Array TypeId} {vs : Array Value} (ha : args.map ρ = vs) (hq : ∀ cs, SemW P S (builtin b ats ty cs vs) h δ Q X) :
    SemW P S (execOp ρ ⟨dst, .call { callee := .builtin b, args, argTypes := ats }, ty, pos, af, g⟩) h δ Q X := by
  show SemW P S (resolve ρ { callee := .builtin b, args, argTypes := ats } ty >>= fun d => invoke d.target d.args) h δ Q X
  unfold resolve
  dsimp only
  rw [ha]
  exact hq _
theorem sem_lenSl {x : Operand} {t e : TypeId} {ats : Array TypeId} [u : Und P t (.slice e)] {a : Option Addr} {len cap : Nat} (hat : ats[0]? = some t) (hx : ρ x = .slice a len cap) (hq : Q (.value (.int .i64 len)) h δ) :
    SemW P S (execOp ρ ⟨dst, .call { callee := .builtin .len, args := #[x], argTypes := ats }, ty, pos, af, g⟩) h δ Q X := by
  refine sem_builtin (vs := #[.slice a len cap]) (by simp [hx]) fun cs => ?_
  show SemW P S (Builtin.len_ ats ty #[.slice a len cap] >>= fun v => pure (.value v)) h δ Q X
  refine semW_bind _ _ _ _ _ _ ?_
  unfold Builtin.len_
  simp only [hat]
  show SemW P S (underlying t >>= _) h δ _ X
  exact semW_underlying u.out hq
theorem sem_min {x y : Operand} {ats : Array TypeId} {kd : IntKind} {a b r : Int} (hx : ρ x = .int kd a) (hy : ρ y = .int kd b) (hr : (if b < a then b else a) = r) (hq : Q (.value (.int kd r)) h δ) :
    SemW P S (execOp ρ ⟨dst, .call { callee := .builtin .min, args := #[x, y], argTypes := ats }, ty, pos, af, g⟩) h δ Q X := by
  subst hr
  exact sem_builtin (vs := #[.int kd a, .int kd b]) (by simp [hx, hy]) fun cs => hq
theorem sem_max {x y : Operand} {ats : Array TypeId} {kd : IntKind} {a b r : Int} (hx : ρ x = .int kd a) (hy : ρ y = .int kd b) (hr : (if b > a then b else a) = r) (hq : Q (.value (.int kd r)) h δ) :
    SemW P S (execOp ρ ⟨dst, .call { callee := .builtin .max, args := #[x, y], argTypes := ats }, ty, pos, af, g⟩) h δ Q X := by
  subst hr
  exact sem_builtin (vs := #[.int kd a, .int kd b]) (by simp [hx, hy]) fun cs => hq
end
section
variable {P : Program} {main : Bool} {S : Sit Γ} {f : FuncId} {n : Nat} {k : List Item} {env : Env} {ds : List Deferred} {h : Hp} {δ : Ix Γ} {R : Post Γ}
variable {ops : Array Oper} {l : List Oper} {d : Nat} {ty : TypeId} {pos : String} {af : Array Edge} {g : Option (Nat × Bool)}
theorem ER.indexArr {t len e sz by_ : Nat} {z : Value} [Und P t (.array len e)] [Inf P e sz by_ z] {x y : Operand} {b o : Nat} {kd : IntKind} {ix : Int} (hw : wantE ops env g = some true) (hd : Nat.blt d n = true) (hx : ev env x = some (.pointer (some ⟨b, o, none⟩))) (hy : ev env y = some (.int kd ix)) (h0 : 0 <= ix) (h1 : ix < len)
    (hn : ER P main S f n ops l k ((d, .pointer (some ⟨b, o + ix.toNat * sz, none⟩)) :: env) ds h δ R) : ER P main S f n ops (⟨some d, .indexAddr t x y, ty, pos, af, g⟩ :: l) k env ds h δ R :=
  ER.to hw hd (fun _ _ _ hρ hq => sem_indexArr (hρ _ _ hx) (hρ _ _ hy) h0 h1 hq) hn
theorem ER.indexSl {t e sz by_ len cap : Nat} {z : Value} [Und P t (.slice e)] [Inf P e sz by_ z] {x y : Operand} {b o : Nat} {kd : IntKind} {ix : Int} (hw : wantE ops env g = some true) (hd : Nat.blt d n = true) (hx : ev env x = some (.slice (some ⟨b, o, none⟩) len cap)) (hy : ev env y = some (.int kd ix)) (h0 : 0 <= ix) (h1 : ix < len)
    (hn : ER P main S f n ops l k ((d, .pointer (some ⟨b, o + ix.toNat * sz, none⟩)) :: env) ds h δ R) : ER P main S f n ops (⟨some d, .indexAddr t x y, ty, pos, af, g⟩ :: l) k env ds h δ R :=
  ER.to hw hd (fun _ _ _ hρ hq => sem_indexSl (hρ _ _ hx) (hρ _ _ hy) h0 h1 hq) hn
theorem ER.lenSl {x : Operand} {t e : TypeId} {ats : Array TypeId} [Und P t (.slice e)] {a : Option Addr} {len cap : Nat} (hw : wantE ops env g = some true) (hd : Nat.blt d n = true) (hat : ats[0]? = some t) (hx : ev env x = some (.slice a len cap))
    (hn : ER P main S f n ops l k ((d, .int .i64 len) :: env) ds h δ R) : ER P main S f n ops (⟨some d, .call { callee := .builtin .len, args := #[x], argTypes := ats }, ty, pos, af, g⟩ :: l) k env ds h δ R :=
  ER.to hw hd (fun _ _ _ hρ hq => sem_lenSl hat (hρ _ _ hx) hq) hn
theorem ER.min {x y : Operand} {ats : Array TypeId} {kd : IntKind} {a b r : Int} (hw : wantE ops env g = some true) (hd : Nat.blt d n = true) (hx : ev env x = some (.int kd a)) (hy : ev env y = some (.int kd b)) (hr : (if b < a then b else a) = r)
    (hn : ER P main S f n ops l k ((d, .int kd r) :: env) ds h δ R) : ER P main S f n ops (⟨some d, .call { callee := .builtin .min, args := #[x, y], argTypes := ats }, ty, pos, af, g⟩ :: l) k env ds h δ R :=
  ER.to hw hd (fun _ _ _ hρ hq => sem_min (hρ _ _ hx) (hρ _ _ hy) hr hq) hn
theorem ER.max {x y : Operand} {ats : Array TypeId} {kd : IntKind} {a b r : Int} (hw : wantE ops env g = some true) (hd : Nat.blt d n = true) (hx : ev env x = some (.int kd a)) (hy : ev env y = some (.int kd b)) (hr : (if b > a then b else a) = r)
    (hn : ER P main S f n ops l k ((d, .int kd r) :: env) ds h δ R) : ER P main S f n ops (⟨some d, .call { callee := .builtin .max, args := #[x, y], argTypes := ats }, ty, pos, af, g⟩ :: l) k env ds h δ R :=
  ER.to hw hd (fun _ _ _ hρ hq => sem_max (hρ _ _ hx) (hρ _ _ hy) hr hq) hn
theorem runT_loadCellsFrom {b off : Nat} {w : World} : ∀ (vs : List Value) (i : Nat) (acc : Array Value) (es : Array Event), (∀ (j : Nat) (v : Value), vs[j]? = some v -> hcell w.heap ⟨b, off + i + j, none⟩ = some v) ->
    ∃ es', (loadCellsFrom ⟨b, off, none⟩ i vs.length acc).runT P w es = (.ok (acc ++ vs.toArray) w, es ++ es') /\ ∀ e ∈ es', ∃ a, e = (⟨.cell a, false, false⟩ : Event) /\ a.block = b /\ vs ≠ [] := by
  intro vs
  induction vs with
  | nil => intro i acc es _; exact ⟨#[], by simp [loadCellsFrom], by simp⟩
  | cons v vs ih =>
    intro i acc es hr
    have h0 : w.cell? ⟨b, off + i, none⟩ = some v := hr 0 v rfl
    obtain ⟨es', h1, h2⟩ := ih (i + 1) (acc.push v) (es.push ⟨.cell ⟨b, off + i, none⟩, false, false⟩) (fun j x hx => by
      have := hr (j + 1) x hx
      rw [show off + (i + 1) + j = off + i + (j + 1) by omega]; exact this)
    refine ⟨#[⟨.cell ⟨b, off + i, none⟩, false, false⟩] ++ es', ?_, fun e he => ?_⟩
    · simp only [List.length_cons, loadCellsFrom]
      change Sem.runT P (Sem.load .plain ((⟨b, off, none⟩ : Addr).add i) fun v => loadCellsFrom ⟨b, off, none⟩ (i + 1) vs.length (acc.push v)) w es = _
      rw [Addr.add_z]
      simp only [Sem.runT, h0]
      have e1 : ((Mode.plain == Mode.atomic) : Bool) = false := rfl
      rw [e1, h1, (Array.push_eq_append : es.push _ = _), Array.append_assoc]
      simp
    · rcases Array.mem_append.1 he with x | x
      · simp at x; exact ⟨_, x, rfl, nofun⟩
      · obtain ⟨a, h3, h4, -⟩ := h2 e x
        exact ⟨a, h3, h4, nofun⟩
theorem runT_bind {α β : Type} (s : Sem α) (f : α -> Sem β) : ∀ (w w' : World) (es es' : Array Event) (a : α), s.runT P w es = (.ok a w', es') -> (Sem.bind s f).runT P w es = (f a).runT P w' es' := by
  intro w w' es es' a hs
  have h1 := congrArg Prod.fst hs
  have h2 := congrArg Prod.snd hs
  simp only [Sem.runT_eq] at h1 h2 ⊢
  have e1 : (Sem.bind s f) = (s >>= f) := rfl
  rw [e1]
  simp [h1, h2, Result.andThen, Result.evThen]
theorem runT_loadVarN {t m : Nat} [s : Aggr P t m] {b off : Nat} {vs : List Value} {w : World} (hm : vs.length = m) (hr : hrow w.heap b off vs) (es : Array Event) :
    ∃ es', (loadVar t ⟨b, off, none⟩).runT P w es = (.ok (.agg vs.toArray) w, es ++ es') /\ ∀ e ∈ es', ∃ a, e = (⟨.cell a, false, false⟩ : Event) /\ a.block = b /\ vs ≠ [] := by
  obtain ⟨d, hu, hd, inf, hi, hsz⟩ := s.out
  obtain ⟨es', h1, h2⟩ := runT_loadCellsFrom (P := P) (w := w) (b := b) (off := off) vs 0 #[] es (fun j v hv => by simpa using hr j v hv)
  refine ⟨es', ?_, h2⟩
  have hA : Sem.runT P (isAgg t) w es = (.ok true w, es) := by
    unfold isAgg underlying
    change Sem.runT P (Sem.bind (Sem.bind (Sem.program Sem.pure) _) _) w es = _
    simp only [Sem.bind, Sem.runT, hu]
    cases d <;> first | rfl | cases hd
  have hZ : Sem.runT P (sizeOf t) w es = (.ok m w, es) := by
    unfold sizeOf typeInfo
    change Sem.runT P (Sem.bind (Sem.bind (Sem.program Sem.pure) _) _) w es = _
    simp only [Sem.bind, Sem.runT, hi]
    subst hsz
    rfl
  unfold loadVar
  change Sem.runT P (Sem.bind (isAgg t) _) w es = _
  rw [runT_bind _ _ _ _ _ _ _ hA]
  simp only [if_true]
  change Sem.runT P (Sem.bind (sizeOf t) _) w es = _
  rw [runT_bind _ _ _ _ _ _ _ hZ]
  change Sem.runT P (Sem.bind (loadCells ⟨b, off, none⟩ m) fun c => Sem.pure (Value.agg c)) w es = _
  unfold loadCells
  rw [<- hm, runT_bind _ _ _ _ _ _ _ h1]
  simp [Sem.runT]
theorem reads_cell_tmp {fn : Func} {tmps : Array Value} {t : Tmp} {cT m : Nat} {u : Tmp} [Aggr P cT m] {b off : Nat} {vs : List Value} {x : Value} (hr : fn.results = #[.cell t cT, .tmp u]) (ht : tmps.getD t undef = .pointer (some ⟨b, off, none⟩)) (hm : vs.length = m) (hc : hrow h b off vs)
    (hx : tmps.getD u undef = x) : Reads P fn tmps h (.tuple #[.agg vs.toArray, x]) := by
  intro w hw
  obtain ⟨es', h1, h2⟩ := runT_loadVarN (P := P) (t := cT) (w := w) hm (fun j v hv => (hw.hcell (hc j v hv)).1) #[]
  refine ⟨es', ?_, fun e he => ?_⟩
  rotate_left
  · obtain ⟨a, h3, h4, h5⟩ := h2 e he
    refine ⟨a, h3, ?_⟩
    rw [h4]
    obtain ⟨v, vs', rfl⟩ := List.exists_cons_of_ne_nil h5
    exact (hw.hcell (hc 0 v rfl)).2
  have e1 : Sem.run P (loadVar cT ⟨b, off, none⟩) w = .ok (.agg vs.toArray) w := by simpa using congrArg Prod.fst h1
  have e2 : Sem.events P (loadVar cT ⟨b, off, none⟩) w #[] = es' := by simpa using congrArg Prod.snd h1
  have ha : asAddr (.pointer (some ⟨b, off, none⟩)) = pure ⟨b, off, none⟩ := rfl
  have ht' : tmps[t]?.getD undef = .pointer (some ⟨b, off, none⟩) := by rw [<- ht, Array.getD_eq_getD_getElem?]
  have hx' : tmps[u]?.getD undef = x := by rw [<- hx, Array.getD_eq_getD_getElem?]
  simp [results, hr, ht', hx', ha, e1, e2, Result.andThen]
theorem EU.retCell {fn : Func} {t u : Tmp} {cT m : Nat} [Aggr P cT m] {b off : Nat} {vs : List Value} {x : Value} [hf : IsFn P f fn] (hr : fn.results = #[.cell t cT, .tmp u]) (ht : look env t = some (.pointer (some ⟨b, off, none⟩))) (hm : vs.length = m) (hc : hrow h b off vs)
    (hx : look env u = some x) (hR : R (.ret (.tuple #[.agg vs.toArray, x])) h δ) : EU P main S f n .returning env [] h δ R :=
  fun _ ka => WU.ret0 ka.defers hf.out (reads_cell_tmp hr (getD_of_look ka ht) hm hc (getD_of_look ka hx)) hR
end
section
variable {P : Program} {main : Bool} {S : Sit Γ} {f : FuncId} {n : Nat} {k : List Item} {env : Env} {ds : List Deferred} {h : Hp} {δ : Ix Γ} {R : Post Γ}
variable {ops : Array Oper} {d : Nat} {ty : TypeId} {pos : String} {af : Array Edge} {g : Option (Nat × Bool)} {Z : Hp -> Prop} {zz : Nat} {m : Nat} {listed l' : Array Bool}
theorem EA.tMove (i : Nat) {x : Operand} {v : Value} (hi : ops[i]? = some ⟨some d, .move x, ty, pos, af, g⟩) (hs : takeB ops listed zz i = true) (hl : listed.setIfInBounds i true = l')
    (hd : Nat.blt d n = true) (hw : wantE ops env g = some true) (hx : ev env x = some v) (hZ : Z h)
    (hn : EA P main S f n ops Z zz m l' k ((d, v) :: env) ds h δ R) : EA P main S f n ops Z zz (m + 1) listed k env ds h δ R :=
  EA.take i hi hs hl hd hw (fun _ _ _ _ _ hρ _ hq => sem_move (hρ _ _ hx) hq) hZ hn
theorem EA.tAssign (i : Nat) {x : Operand} {v : Value} (hi : ops[i]? = some ⟨some d, .assign x, ty, pos, af, g⟩) (hs : takeB ops listed zz i = true) (hl : listed.setIfInBounds i true = l')
    (hd : Nat.blt d n = true) (hw : wantE ops env g = some true) (hx : ev env x = some v) (hZ : Z h)
    (hn : EA P main S f n ops Z zz m l' k ((d, v) :: env) ds h δ R) : EA P main S f n ops Z zz (m + 1) listed k env ds h δ R :=
  EA.take i hi hs hl hd hw (fun _ _ _ _ _ hρ _ hq => sem_assign (hρ _ _ hx) hq) hZ hn
theorem EA.tNil (i : Nat) {x : Operand} {a : Addr} (hi : ops[i]? = some ⟨some d, .nilCheck x, ty, pos, af, g⟩) (hs : takeB ops listed zz i = true) (hl : listed.setIfInBounds i true = l')
    (hd : Nat.blt d n = true) (hw : wantE ops env g = some true) (hx : ev env x = some (.pointer (some a))) (hZ : Z h)
    (hn : EA P main S f n ops Z zz m l' k ((d, .pointer (some a)) :: env) ds h δ R) : EA P main S f n ops Z zz (m + 1) listed k env ds h δ R :=
  EA.take i hi hs hl hd hw (fun _ _ _ _ _ hρ _ hq => sem_nilCheck (hρ _ _ hx) hq) hZ hn
theorem EA.tField (i : Nat) {s fld off : Nat} [FieldOff P s fld off] {x : Operand} {b o : Nat} (hi : ops[i]? = some ⟨some d, .fieldAddr s x fld, ty, pos, af, g⟩) (hs : takeB ops listed zz i = true) (hl : listed.setIfInBounds i true = l')
    (hd : Nat.blt d n = true) (hw : wantE ops env g = some true) (hx : ev env x = some (.pointer (some ⟨b, o, none⟩))) (hZ : Z h)
    (hn : EA P main S f n ops Z zz m l' k ((d, .pointer (some ⟨b, o + off, none⟩)) :: env) ds h δ R) : EA P main S f n ops Z zz (m + 1) listed k env ds h δ R :=
  EA.take i hi hs hl hd hw (fun _ _ _ _ _ hρ _ hq => sem_fieldAddr (hρ _ _ hx) hq) hZ hn
theorem EA.tNot (i : Nat) {x : Operand} {b : Bool} {t : TypeId} (hi : ops[i]? = some ⟨some d, .unOp .not t x, ty, pos, af, g⟩) (hs : takeB ops listed zz i = true) (hl : listed.setIfInBounds i true = l')
    (hd : Nat.blt d n = true) (hw : wantE ops env g = some true) (hx : ev env x = some (.bool b)) (hZ : Z h)
    (hn : EA P main S f n ops Z zz m l' k ((d, .bool (!b)) :: env) ds h δ R) : EA P main S f n ops Z zz (m + 1) listed k env ds h δ R :=
  EA.take i hi hs hl hd hw (fun _ _ _ _ _ hρ _ hq => sem_notB (hρ _ _ hx) hq) hZ hn
theorem EA.tLoad (i : Nat) {t : TypeId} [Scal P t] {x : Operand} {a : Addr} {v : Value} (hi : ops[i]? = some ⟨some d, .load t x, ty, pos, af, g⟩) (hs : takeB ops listed zz i = true) (hl : listed.setIfInBounds i true = l')
    (hd : Nat.blt d n = true) (hw : wantE ops env g = some true) (hx : ev env x = some (.pointer (some a))) (hc : ∀ h, Z h -> hcell h a = some v) (hZ : Z h)
    (hn : EA P main S f n ops Z zz m l' k ((d, v) :: env) ds h δ R) : EA P main S f n ops Z zz (m + 1) listed k env ds h δ R :=
  EA.take i hi hs hl hd hw (fun _ _ _ _ _ hρ hz hq => sem_load1 (hρ _ _ hx) (hc _ hz) hq) hZ hn
theorem EA.tAdd (i : Nat) {t t2 : TypeId} {x y : Operand} {kd : IntKind} {a b r : Int} (hi : ops[i]? = some ⟨some d, .binOp .add t x y t2, ty, pos, af, g⟩) (hs : takeB ops listed zz i = true) (hl : listed.setIfInBounds i true = l')
    (hd : Nat.blt d n = true) (hw : wantE ops env g = some true) (hx : ev env x = some (.int kd a)) (hy : ev env y = some (.int kd b)) (hrr : kd.wrap (a + b) = r) (hZ : Z h)
    (hn : EA P main S f n ops Z zz m l' k ((d, .int kd r) :: env) ds h δ R) : EA P main S f n ops Z zz (m + 1) listed k env ds h δ R :=
  EA.take i hi hs hl hd hw (fun _ _ _ _ _ hρ _ hq => sem_add (hρ _ _ hx) (hρ _ _ hy) hrr hq) hZ hn
theorem EA.tSub (i : Nat) {t t2 : TypeId} {x y : Operand} {kd : IntKind} {a b r : Int} (hi : ops[i]? = some ⟨some d, .binOp .sub t x y t2, ty, pos, af, g⟩) (hs : takeB ops listed zz i = true) (hl : listed.setIfInBounds i true = l')
    (hd : Nat.blt d n = true) (hw : wantE ops env g = some true) (hx : ev env x = some (.int kd a)) (hy : ev env y = some (.int kd b)) (hrr : kd.wrap (a - b) = r) (hZ : Z h)
    (hn : EA P main S f n ops Z zz m l' k ((d, .int kd r) :: env) ds h δ R) : EA P main S f n ops Z zz (m + 1) listed k env ds h δ R :=
  EA.take i hi hs hl hd hw (fun _ _ _ _ _ hρ _ hq => sem_sub (hρ _ _ hx) (hρ _ _ hy) hrr hq) hZ hn
theorem EA.tBinI (i : Nat) {op : BinOp} {t t2 : TypeId} {x y : Operand} {kd : IntKind} {a b : Int} {v : Value} (hi : ops[i]? = some ⟨some d, .binOp op t x y t2, ty, pos, af, g⟩) (hs : takeB ops listed zz i = true) (hl : listed.setIfInBounds i true = l')
    (hd : Nat.blt d n = true) (hw : wantE ops env g = some true) (hx : ev env x = some (.int kd a)) (hy : ev env y = some (.int kd b)) (hv : binOp op t (.int kd a) (.int kd b) = pure v) (hZ : Z h)
    (hn : EA P main S f n ops Z zz m l' k ((d, v) :: env) ds h δ R) : EA P main S f n ops Z zz (m + 1) listed k env ds h δ R :=
  EA.take i hi hs hl hd hw (fun _ _ _ _ _ hρ _ hq => sem_binI (hρ _ _ hx) (hρ _ _ hy) hv hq) hZ hn
theorem EA.tIdxA (i : Nat) {t len e sz by_ : Nat} {z : Value} [Und P t (.array len e)] [Inf P e sz by_ z] {x y : Operand} {b o : Nat} {kd : IntKind} {ix : Int} (hi : ops[i]? = some ⟨some d, .indexAddr t x y, ty, pos, af, g⟩) (hs : takeB ops listed zz i = true) (hl : listed.setIfInBounds i true = l')
    (hd : Nat.blt d n = true) (hw : wantE ops env g = some true) (hx : ev env x = some (.pointer (some ⟨b, o, none⟩))) (hy : ev env y = some (.int kd ix)) (h0 : 0 <= ix) (h1 : ix < len) (hZ : Z h)
    (hn : EA P main S f n ops Z zz m l' k ((d, .pointer (some ⟨b, o + ix.toNat * sz, none⟩)) :: env) ds h δ R) : EA P main S f n ops Z zz (m + 1) listed k env ds h δ R :=
  EA.take i hi hs hl hd hw (fun _ _ _ _ _ hρ _ hq => sem_indexArr (hρ _ _ hx) (hρ _ _ hy) h0 h1 hq) hZ hn
theorem EA.tIdxS (i : Nat) {t e sz by_ len cap : Nat} {z : Value} [Und P t (.slice e)] [Inf P e sz by_ z] {x y : Operand} {b o : Nat} {kd : IntKind} {ix : Int} (hi : ops[i]? = some ⟨some d, .indexAddr t x y, ty, pos, af, g⟩) (hs : takeB ops listed zz i = true) (hl : listed.setIfInBounds i true = l')
    (hd : Nat.blt d n = true) (hw : wantE ops env g = some true) (hx : ev env x = some (.slice (some ⟨b, o, none⟩) len cap)) (hy : ev env y = some (.int kd ix)) (h0 : 0 <= ix) (h1 : ix < len) (hZ : Z h)
    (hn : EA P main S f n ops Z zz m l' k ((d, .pointer (some ⟨b, o + ix.toNat * sz, none⟩)) :: env) ds h δ R) : EA P main S f n ops Z zz (m + 1) listed k env ds h δ R :=
  EA.take i hi hs hl hd hw (fun _ _ _ _ _ hρ _ hq => sem_indexSl (hρ _ _ hx) (hρ _ _ hy) h0 h1 hq) hZ hn
theorem EA.tLen (i : Nat) {x : Operand} {t e : TypeId} {ats : Array TypeId} [Und P t (.slice e)] {a : Option Addr} {len cap : Nat} (hi : ops[i]? = some ⟨some d, .call { callee := .builtin .len, args := #[x], argTypes := ats }, ty, pos, af, g⟩) (hs : takeB ops listed zz i = true) (hl : listed.setIfInBounds i true = l')
    (hd : Nat.blt d n = true) (hw : wantE ops env g = some true) (hat : ats[0]? = some t) (hx : ev env x = some (.slice a len cap)) (hZ : Z h)
    (hn : EA P main S f n ops Z zz m l' k ((d, .int .i64 len) :: env) ds h δ R) : EA P main S f n ops Z zz (m + 1) listed k env ds h δ R :=
  EA.take i hi hs hl hd hw (fun _ _ _ _ _ hρ _ hq => sem_lenSl hat (hρ _ _ hx) hq) hZ hn
end
end
section
variable [Dm]
open Go Go.Conc
variable {Γ : Type}
structure Upd (T : Nat -> Prop) (h h' : Hp) : Prop where
  size : h.size <= h'.size
  same : ∀ b, b < h.size -> ¬ T b -> h'[b]? = h[b]?
theorem Upd.refl (T : Nat -> Prop) (h : Hp) : Upd T h h := ⟨Nat.le_refl _, fun _ _ _ => rfl⟩
theorem Upd.trans {T : Nat -> Prop} {a b c : Hp} (x : Upd T a b) (y : Upd T b c) : Upd T a c :=
  ⟨Nat.le_trans x.size y.size, fun i hi hT => (y.same i (Nat.lt_of_lt_of_le hi x.size) hT).trans (x.same i hi hT)⟩
theorem Upd.mono {T T' : Nat -> Prop} {a b : Hp} (x : Upd T a b) (h : ∀ i, i < a.size -> T i -> T' i) : Upd T' a b :=
  ⟨x.size, fun i hi hT => x.same i hi fun t => hT (h i hi t)⟩
theorem Upd.push {T : Nat -> Prop} (h : Hp) (o : Obj) : Upd T h (h.push o) := ⟨by simp, fun b hb _ => by rw [Array.getElem?_push_lt hb, Array.getElem?_eq_getElem hb]⟩
theorem Upd.set {T : Nat -> Prop} (h : Hp) (b : Nat) (o : Obj) (hT : T b) : Upd T h (h.setIfInBounds b o) :=
  ⟨by simp, fun i _ hi => Array.getElem?_setIfInBounds_ne (fun e : b = i => hi (e ▸ hT))⟩
theorem Upd.hset {T : Nat -> Prop} (h : Hp) (a : Addr) (v : Value) (hT : T a.block) : Upd T h (hset h a v) :=
  ⟨by rw [hset_size]; exact Nat.le_refl _, fun i _ hi => hset_ne h a v (fun e : a.block = i => hi (e ▸ hT))⟩
theorem Upd.get {T : Nat -> Prop} {h h' : Hp} (x : Upd T h h') {b : Nat} {o : Obj} (hb : h[b]? = some o) (hT : ¬ T b) : h'[b]? = some o := by
  have : b < h.size := by
    rcases Nat.lt_or_ge b h.size with y | y
    · exact y
    · simp [Array.getElem?_eq_none y] at hb
  rw [x.same b this hT, hb]
theorem Upd.hcell {T : Nat -> Prop} {h h' : Hp} (x : Upd T h h') {a : Addr} {v : Value} (hc : hcell h a = some v) (hT : ¬ T a.block) : hcell h' a = some v := by
  obtain ⟨c, e, f, hb, hs, hv⟩ := hcell_some hc
  unfold TJ.hcell
  rw [x.get hb hT]
  simp [hs, hv]
theorem lt_of_get {h : Hp} {b : Nat} {o : Obj} (hb : h[b]? = some o) : b < h.size := by
  rcases Nat.lt_or_ge b h.size with y | y
  · exact y
  · simp [Array.getElem?_eq_none y] at hb
theorem get_set_same {h : Hp} {b : Nat} {o o' : Obj} (hb : h[b]? = some o) : (h.setIfInBounds b o')[b]? = some o' :=
  Array.getElem?_setIfInBounds_self_of_lt (lt_of_get hb)
theorem get_set_ne {h : Hp} {b i : Nat} (o' : Obj) (hne : b ≠ i) : (h.setIfInBounds b o')[i]? = h[i]? := Array.getElem?_setIfInBounds_ne hne
theorem get_push_new (h : Hp) (o : Obj) : (h.push o)[h.size]? = some o := by simp
theorem hcell_set_ne {h : Hp} {b : Nat} (o' : Obj) {a : Addr} (hne : b ≠ a.block) : hcell (h.setIfInBounds b o') a = hcell h a := by
  unfold hcell; rw [get_set_ne o' hne]
theorem hcell_push {h : Hp} {o : Obj} {a : Addr} {v : Value} (hc : hcell h a = some v) : hcell (h.push o) a = some v := (Upd.push (T := fun _ => False) h o).hcell hc (fun x => x)
theorem set_set {h : Hp} {b : Nat} (o o' : Obj) : (h.setIfInBounds b o).setIfInBounds b o' = h.setIfInBounds b o' := by
  simp
theorem push_set (h : Hp) (o o' : Obj) : (h.push o).setIfInBounds h.size o' = h.push o' := by
  apply Array.ext_getElem?
  intro i
  by_cases e : h.size = i
  · subst e; simp
  · rw [get_set_ne _ e]
    rcases Nat.lt_or_ge i h.size with y | y
    · rw [Array.getElem?_push_lt y, Array.getElem?_push_lt y]
    · rw [Array.getElem?_eq_none (by simp; omega), Array.getElem?_eq_none (by simp; omega)]
abbrev NoS : Sit Γ := ⟨fun _ _ => False, fun _ => True, fun _ => False, fun _ _ _ _ => False⟩
def up {α : Type} (f : Nat -> α) (i : Nat) (x : α) : Nat -> α := fun j => if j = i then x else f j
theorem up_same {α : Type} (f : Nat -> α) (i : Nat) (x : α) : up f i x i = x := by simp [up]
theorem up_ne {α : Type} (f : Nat -> α) {i j : Nat} (x : α) (h : j ≠ i) : up f i x j = f j := by simp [up, h]
theorem hsetRow2 {h : Hp} {b : Nat} {u v x y : Value} {e : TypeId} {f : Nat × Nat} (hb : h[b]? = some (.cells #[u, v] e f)) : hsetRow h b 0 [x, y] = h.setIfInBounds b (.cells #[x, y] e f) := by
  apply Array.ext_getElem?
  intro i
  simp only [hsetRow]
  rw [hset_get, hset_get]
  by_cases hi : b = i
  · subst hi
    rw [if_pos rfl, if_pos rfl, hb, get_set_same hb]
    rfl
  · simp only [if_neg hi]
    rw [get_set_ne _ hi]
abbrev oneO (v : Value) (e : TypeId) : Obj := .cells #[v] e (0, 0)
theorem hset_one {h : Hp} {b : Nat} {u v : Value} {e : TypeId} {f : Nat × Nat} (hb : h[b]? = some (.cells #[u] e f)) : hset h ⟨b, 0, none⟩ v = h.setIfInBounds b (.cells #[v] e f) := by
  apply Array.ext_getElem?
  intro i
  rw [hset_get]
  by_cases hi : b = i
  · subst hi
    rw [if_pos rfl, hb, get_set_same hb]
    rfl
  · rw [if_neg hi, get_set_ne _ hi]
theorem Upd.over {T : Nat -> Prop} {h0 h h' : Hp} (x : Upd (fun _ => False) h0 h) (y : Upd T h h') (hT : ∀ b, T b -> h0.size <= b) : Upd (fun _ => False) h0 h' :=
  ⟨Nat.le_trans x.size y.size, fun i hi _ => (y.same i (Nat.lt_of_lt_of_le hi x.size) fun t => by have := hT _ t; omega).trans (x.same i hi fun z => z)⟩
end
section
variable [Dm]
open Go Go.Conc
variable {Γ : Type}
def placesOk (P : Program) : List Field -> List (Nat × Nat) -> Prop
  | [], [] => True
  | f :: fs, (o, s) :: ps => f.offset = o /\ (∃ inf, P.info? f.type = some inf /\ inf.size = s) /\ placesOk P fs ps
  | _, _ => False
class Places (P : Program) (t : TypeId) (pl : outParam (List (Nat × Nat))) : Prop where
  out : ∃ fields : List Field, P.underlying t = some (.struct fields.toArray) /\ placesOk P fields pl
theorem infSize {P : Program} {t sz by_ : Nat} {z : Value} [i : Inf P t sz by_ z] : ∃ inf, P.info? t = some inf /\ inf.size = sz := by
  obtain ⟨inf, h1, h2, _⟩ := i.get; exact ⟨inf, h1, h2⟩
section
variable {P : Program} {main : Bool} {S : Sit Γ} {f : FuncId} {n : Nat} {k : List Item} {env : Env} {ds : List Deferred} {h : Hp} {δ : Ix Γ} {R : Post Γ}
variable {ops : Array Oper} {l : List Oper} {d : Nat} {ty : TypeId} {pos : String} {af : Array Edge} {g : Option (Nat × Bool)}
theorem semW_places : ∀ (fs : List Field) (pl : List (Nat × Nat)), placesOk P fs pl -> ∀ {Q : List (Nat × Nat) -> Hp -> Ix Γ -> Prop} {X : Value -> Hp -> Ix Γ -> Prop}, Q pl h δ -> SemW P S (fs.mapM fun f => (do pure (f.offset, <- sizeOf f.type) : Sem (Nat × Nat))) h δ Q X
  | [], [], _, Q, X, hq => by simpa [List.mapM_nil] using (show SemW P S (pure []) h δ Q X from hq)
  | f :: fs, (o, s) :: ps, ⟨h1, ⟨inf, h2, h3⟩, h4⟩, Q, X, hq => by
    rw [List.mapM_cons]
    refine semW_bind _ _ _ _ _ _ ?_
    refine semW_sizeOf h2 ?_
    show SemW P S (fs.mapM _ >>= _) h δ _ X
    refine semW_bind _ _ _ _ _ _ ?_
    refine semW_places fs ps h4 ?_
    show Q ((f.offset, inf.size) :: ps) h δ
    rw [h1, h3]; exact hq
  | [], _ :: _, x, _, _, _ => x.elim
  | _ :: _, [], x, _, _, _ => x.elim
theorem semW_build {t sz by_ : Nat} {z : Value} {pl : List (Nat × Nat)} [i : Inf P t sz by_ z] [p : Places P t pl] {parts : Array (Nat × Value)} {cells : Array Value} {Q : Value -> Hp -> Ix Γ -> Prop} {X : Value -> Hp -> Ix Γ -> Prop}
    (hf : Instr.fill (fun i => pl.toArray[i]?) z.cells parts.toList = some cells) (hq : Q (.agg cells) h δ) : SemW P S (Instr.build t parts) h δ Q X := by
  obtain ⟨fields, hu, hp⟩ := p.out
  obtain ⟨inf, g1, g2, g3, g4⟩ := i.get
  unfold Instr.build
  refine semW_zeroValue g1 g4 ?_
  refine semW_underlying hu ?_
  show SemW P S (fields.toArray.mapM _ >>= _) h δ Q X
  refine semW_bind _ _ _ _ _ _ ?_
  rw [List.mapM_toArray]
  show SemW P S (Sem.bind (fields.mapM _) fun a => Sem.pure a.toArray) h δ _ X
  refine semW_bind _ _ _ _ _ _ ?_
  refine semW_places fields pl hp ?_
  show SemW P S (match Instr.fill (fun i => pl.toArray[i]?) z.cells parts.toList with | some cells => pure (.agg cells) | _ => stuck "build: no such field, or a part of the wrong size") h δ Q X
  rw [hf]
  exact hq
def evP (env : Env) : List (Nat × Operand) -> Option (List (Nat × Value))
  | [] => some []
  | (i, x) :: l => match ev env x, evP env l with
    | some v, some vs => some ((i, v) :: vs)
    | _, _ => none
theorem evP_ok {ρ : Operand -> Value} (hρ : ∀ x v, ev env x = some v -> ρ x = v) : ∀ (ps : List (Nat × Operand)) (vs : List (Nat × Value)), evP env ps = some vs -> ps.map (fun p => (p.1, ρ p.2)) = vs
  | [], vs, h => by simp only [evP, Option.some.injEq] at h; subst h; rfl
  | (i, x) :: l, vs, h => by
    simp only [evP] at h
    split at h
    · rename_i v ws h1 h2
      cases h
      simp only [List.map_cons, hρ _ _ h1, evP_ok hρ l ws h2]
    · cases h
theorem ER.buildS {t sz by_ : Nat} {z : Value} {pl : List (Nat × Nat)} [Inf P t sz by_ z] [Places P t pl] {ps : Array (Nat × Operand)} {parts : List (Nat × Value)} {cells : Array Value} (hw : wantE ops env g = some true) (hd : Nat.blt d n = true)
    (hp : evP env ps.toList = some parts) (hf : Instr.fill (fun i => pl.toArray[i]?) z.cells parts = some cells)
    (hn : ER P main S f n ops l k ((d, .agg cells) :: env) ds h δ R) : ER P main S f n ops (⟨some d, .build t ps, ty, pos, af, g⟩ :: l) k env ds h δ R := by
  refine ER.build (parts := parts.toArray) hw hd (fun ρ hρ => ?_) (fun Q X hq => semW_build hf hq) hn
  obtain ⟨ps⟩ := ps
  simp only [List.map_toArray]
  have := evP_ok hρ ps parts hp
  rw [<- this]
theorem EK.back {todo : List Item} {e : Env} (hk : EK P main S f n todo e ds h δ R) (hs : subE e env) : EK P main S f n todo env ds h δ R := EK.sub hs hk
theorem ER.allocA {t sz by_ : Nat} {cs : Array Value} [Inf P t sz by_ (.agg cs)] (hw : wantE ops env g = some true) (hd : Nat.blt d n = true)
    (hn : ER P main S f n ops l k ((d, .pointer (some ⟨h.size, 0, none⟩)) :: env) ds (h.push (.cells cs t)) δ R) (hLo : S.lone δ.g := by first | exact True.intro | assumption) : ER P main S f n ops (⟨some d, .alloc t, ty, pos, af, g⟩ :: l) k env ds h δ R :=
  ER.alloc (z := .agg cs) hw hd hn hLo
theorem ER.storeT2 {t : Nat} [Aggr P t 2] {x y : Operand} {b e : Nat} {u v v1 v2 : Value} {cs : Array Value} (hb : h[b]? = some (.cells #[u, v] e (0, 0))) (hw : wantE ops env g = some true) (hx : ev env x = some (.pointer (some ⟨b, 0, none⟩))) (hy : ev env y = some (.agg cs)) (hcs : cs = #[v1, v2]) (h1 : OneCell v1) (h2 : OneCell v2) (hS : ∀ o, ¬ S.still δ.g ⟨b, o, none⟩)
    (hn : ER P main S f n ops l k env ds (h.setIfInBounds b (.cells #[v1, v2] e (0, 0))) δ R) : ER P main S f n ops (⟨none, .store t x y, ty, pos, af, g⟩ :: l) k env ds h δ R := by
  subst hcs
  refine ER.storeN (vs := [v1, v2]) hw hx hy rfl (by simp [h1, h2]) (fun j hj => ⟨?_, hfroz_of hb, hS _⟩) ?_
  · rcases j with _ | _ | j
    · exact ⟨_, hcell_of hb rfl⟩
    · exact ⟨_, hcell_of hb rfl⟩
    · exact absurd hj (by simp)
  · rw [hsetRow2 hb]; exact hn
theorem hrow2 {b e : Nat} {fz : Nat × Nat} {v1 v2 : Value} (hb : h[b]? = some (.cells #[v1, v2] e fz)) : hrow h b 0 [v1, v2] := fun i v hv => by
  rcases i with _ | _ | i
  · cases hv; exact hcell_of hb rfl
  · cases hv; exact hcell_of hb rfl
  · simp at hv
theorem EU.retCell2 {fn : Func} {t u : Tmp} {cT b e : Nat} [Aggr P cT 2] {fz : Nat × Nat} {v1 v2 x : Value} [IsFn P f fn] (hb : h[b]? = some (.cells #[v1, v2] e fz)) (hr : fn.results = #[.cell t cT, .tmp u]) (ht : look env t = some (.pointer (some ⟨b, 0, none⟩)))
    (hx : look env u = some x) (hR : R (.ret (.tuple #[.agg #[v1, v2], x])) h δ) : EU P main S f n .returning env [] h δ R :=
  EU.retCell (vs := [v1, v2]) hr ht rfl (hrow2 hb) hx hR
theorem ER.store1O {t : Nat} [Scal P t] {x y : Operand} {b e : Nat} {u v : Value} (hb : h[b]? = some (.cells #[u] e (0, 0))) (hw : wantE ops env g = some true) (hx : ev env x = some (.pointer (some ⟨b, 0, none⟩))) (hy : ev env y = some v) (hv : OneCell v) (hS : ¬ S.still δ.g ⟨b, 0, none⟩)
    (hn : ER P main S f n ops l k env ds (h.setIfInBounds b (oneO v e)) δ R) : ER P main S f n ops (⟨none, .store t x y, ty, pos, af, g⟩ :: l) k env ds h δ R :=
  ER.store1 hw hx hy hv ⟨_, hcell_of hb rfl⟩ (hfroz_of hb) hS (by rw [hset_one hb]; exact hn)
theorem ER.storeNew {t : Nat} [Scal P t] {x y : Operand} {e : Nat} {z u v : Value} {h0 : Hp} (hw : wantE ops env g = some true) (hx : ev env x = some (.pointer (some ⟨h0.size, 0, none⟩))) (hy : ev env y = some v) (hz : z.cells = #[u]) (hv : OneCell v) (hS : ¬ S.still δ.g ⟨h0.size, 0, none⟩)
    (hn : ER P main S f n ops l k env ds (h0.push (oneO v e)) δ R) : ER P main S f n ops (⟨none, .store t x y, ty, pos, af, g⟩ :: l) k env ds (h0.push (.cells z.cells e)) δ R := by
  have hb : (h0.push (.cells z.cells e))[h0.size]? = some (.cells #[u] e (0, 0)) := by rw [get_push_new, hz]
  exact ER.store1O hb hw hx hy hv hS (by rw [push_set]; exact hn)
theorem ER.storeNew2 {t : Nat} [Aggr P t 2] {x y : Operand} {e : Nat} {u1 u2 v1 v2 : Value} {cs : Array Value} {h0 : Hp} (hw : wantE ops env g = some true) (hx : ev env x = some (.pointer (some ⟨h0.size, 0, none⟩))) (hy : ev env y = some (.agg cs)) (hcs : cs = #[v1, v2]) (h1 : OneCell v1) (h2 : OneCell v2) (hS : ∀ o, ¬ S.still δ.g ⟨h0.size, o, none⟩)
    (hn : ER P main S f n ops l k env ds (h0.push (.cells #[v1, v2] e)) δ R) : ER P main S f n ops (⟨none, .store t x y, ty, pos, af, g⟩ :: l) k env ds (h0.push (.cells #[u1, u2] e)) δ R :=
  ER.storeT2 (get_push_new _ _) hw hx hy hcs h1 h2 hS (by rw [push_set]; exact hn)
theorem ER.makeF {fn : Fn} {first cap : Array Operand} {fl cl : List Value} {fv cv : Array Value} (hw : wantE ops env g = some true) (hd : Nat.blt d n = true) (hf : evL env first.toList = some fl) (hc : evL env cap.toList = some cl) (hfv : fl.toArray = fv) (hcv : cl.toArray = cv)
    (hn : ER P main S f n ops l k ((d, .func fn fv cv) :: env) ds h δ R) : ER P main S f n ops (⟨some d, .makeFunc fn first cap, ty, pos, af, g⟩ :: l) k env ds h δ R :=
  ER.makeFunc hw hd (fun _ hρ => ⟨(map_ofL hρ hf).trans hfv, (map_ofL hρ hc).trans hcv⟩) hn
end
end
section
variable [Dm]
open Go Go.Conc
variable {Γ : Type}
class EqI2 (P : Program) (t : TypeId) (k1 k2 : outParam IntKind) : Prop where
  out : P.stoodInHeld t = false /\ P.eqGuardType P.depth t = false /\ ∃ f1 f2 : Field, P.underlying t = some (.struct #[f1, f2]) /\ f1.name ≠ "_" /\ f2.name ≠ "_" /\ f1.offset = 0 /\ f2.offset = 1 /\ P.underlying f1.type = some (.int k1) /\ P.underlying f2.type = some (.int k2)
section
variable {P : Program} {main : Bool} {S : Sit Γ} {f : FuncId} {n : Nat} {k : List Item} {env : Env} {ds : List Deferred} {h : Hp} {δ : Ix Γ} {R : Post Γ}
variable {ops : Array Oper} {l : List Oper} {d : Nat} {ty : TypeId} {pos : String} {af : Array Edge} {g : Option (Nat × Bool)}
theorem semW_partI {t : TypeId} {kd : IntKind} {cs : Array Value} {o : Nat} {v : Value} (hu : P.underlying t = some (.int kd)) (hv : cs[o]? = some v) {Q : Value -> Hp -> Ix Γ -> Prop} {X : Value -> Hp -> Ix Γ -> Prop} (hq : Q v h δ) : SemW P S (part t cs o) h δ Q X := by
  unfold part isAgg
  refine semW_bind _ _ _ _ _ _ ?_
  refine semW_underlying hu ?_
  simp only [hv]
  exact hq
theorem semW_eqInt {dd : Nat} {t : TypeId} {kd : IntKind} {a b : Int} (hu : P.underlying t = some (.int kd)) {Q : Bool -> Hp -> Ix Γ -> Prop} {X : Value -> Hp -> Ix Γ -> Prop} (hq : Q (a == b) h δ) : SemW P S (Op.equalIn (dd + 1) t (.int kd a) (.int kd b)) h δ Q X := by
  unfold Op.equalIn
  refine semW_underlying hu ?_
  simp only
  rw [if_pos trivial]
  exact hq
theorem semW_eqI2 {t : TypeId} {k1 k2 : IntKind} [e : EqI2 P t k1 k2] {a1 a2 b1 b2 : Int} {Q : Bool -> Hp -> Ix Γ -> Prop} {X : Value -> Hp -> Ix Γ -> Prop} (hq : Q (a1 == b1 && a2 == b2) h δ) :
    SemW P S (Op.equal t (.agg #[.int k1 a1, .int k2 a2]) (.agg #[.int k1 b1, .int k2 b2])) h δ Q X := by
  obtain ⟨hs, -, f1, f2, hu, hn1, hn2, ho1, ho2, hu1, hu2⟩ := e.out
  unfold Op.equal Op.maxDepth Op.equalIn
  refine semW_underlying hu ?_
  simp only
  change SemW P S (Sem.bind (Sem.program Sem.pure) _) h δ Q X
  simp only [Sem.bind, SemW, hs]
  rw [if_neg (by simp)]
  rw [<- Array.forIn_toList]
  simp only [List.forIn_cons, List.forIn_nil, hn1, hn2, ho1, ho2, ne_eq, not_false_eq_true, if_true]
  refine semW_bind _ _ _ _ _ _ (semW_bind _ _ _ _ _ _ (semW_bind _ _ _ _ _ _ (semW_partI hu1 rfl (semW_bind _ _ _ _ _ _ (semW_partI hu1 rfl (semW_bind _ _ _ _ _ _ (semW_eqInt (dd := 9998) hu1 ?_)))))))
  by_cases h1 : a1 = b1
  · rw [beq_iff_eq.mpr h1] at hq ⊢
    simp only [Bool.not_true, Bool.false_eq_true, if_false]
    refine semW_pure (Q := _) ?_
    simp only
    refine semW_bind _ _ _ _ _ _ (semW_bind _ _ _ _ _ _ (semW_partI hu2 rfl (semW_bind _ _ _ _ _ _ (semW_partI hu2 rfl (semW_bind _ _ _ _ _ _ (semW_eqInt (dd := 9998) hu2 ?_))))))
    by_cases h2 : a2 = b2
    · rw [beq_iff_eq.mpr h2] at hq ⊢
      exact hq
    · rw [beq_eq_false_iff_ne.mpr h2] at hq ⊢
      exact hq
  · rw [beq_eq_false_iff_ne.mpr h1] at hq ⊢
    exact hq
theorem eqGuard_agg {op : BinOp} {t : TypeId} {k1 k2 : IntKind} [e : EqI2 P t k1 k2] {x y : Operand} {a b : Array Value} {Q : Unit -> Hp -> Ix Γ -> Prop} {X : Value -> Hp -> Ix Γ -> Prop} (hq : Q () h δ) : SemW P S (eqGuard op t x y (.agg a) (.agg b)) h δ Q X := by
  obtain ⟨-, hg, -⟩ := e.out
  unfold eqGuard
  have key : SemW P S (do if !(← program).eqGuardType (← program).depth t then return
                          if <- Op.eqGuardIn Op.maxDepth t (.agg a) (.agg b) then unsupported (.noEntry "binop/eql: two nil values of an interface type with methods, in a part of a struct or an array")) h δ Q X := by
    change SemW P S (Sem.bind (Sem.program Sem.pure) fun p => Sem.bind (Sem.program Sem.pure) fun q => if (!p.eqGuardType q.depth t) = true then _ else _) h δ Q X
    simp only [Sem.bind, SemW, hg]
    exact hq
  cases op <;> first | exact hq | exact key
theorem ER.eqA {t t2 : TypeId} {k1 k2 : IntKind} [EqI2 P t k1 k2] {x y : Operand} {a1 a2 b1 b2 : Int} {r : Bool} (hw : wantE ops env g = some true) (hd : Nat.blt d n = true) (hx : ev env x = some (.agg #[.int k1 a1, .int k2 a2])) (hy : ev env y = some (.agg #[.int k1 b1, .int k2 b2])) (hr : (a1 == b1 && a2 == b2) = r)
    (hn : ER P main S f n ops l k ((d, .bool r) :: env) ds h δ R) : ER P main S f n ops (⟨some d, .binOp .eql t x y t2, ty, pos, af, g⟩ :: l) k env ds h δ R :=
  ER.to hw hd (fun ρ Q X hρ hq => semW_binOp (by
    rw [hρ x _ hx, hρ y _ hy]
    exact eqGuard_agg (by
      show SemW P S (Op.equal t _ _ >>= fun b => pure (Value.bool b)) h δ _ X
      exact semW_bind _ _ _ _ _ _ (semW_eqI2 (by rw [hr]; exact hq))))) hn
theorem ER.neqA {t t2 : TypeId} {k1 k2 : IntKind} [EqI2 P t k1 k2] {x y : Operand} {a1 a2 b1 b2 : Int} {r : Bool} (hw : wantE ops env g = some true) (hd : Nat.blt d n = true) (hx : ev env x = some (.agg #[.int k1 a1, .int k2 a2])) (hy : ev env y = some (.agg #[.int k1 b1, .int k2 b2])) (hr : (!(a1 == b1 && a2 == b2)) = r)
    (hn : ER P main S f n ops l k ((d, .bool r) :: env) ds h δ R) : ER P main S f n ops (⟨some d, .binOp .neq t x y t2, ty, pos, af, g⟩ :: l) k env ds h δ R :=
  ER.to hw hd (fun ρ Q X hρ hq => semW_binOp (by
    rw [hρ x _ hx, hρ y _ hy]
    exact eqGuard_agg (by
      show SemW P S (Op.equal t _ _ >>= fun b => pure (Value.bool (!b))) h δ _ X
      exact semW_bind _ _ _ _ _ _ (semW_eqI2 (by rw [<- hr] at hq; exact hq))))) hn
end
end
end Go.TJ
namespace Go.Proofs.Ytndllibjlfpndaa
section
open Go Go.TJ Go.Proofs
variable [Dm]
instance : Inf Try.prog 2 1 8 (.int .i64 0) := ⟨by kernel_rfl⟩
instance : Scal Try.prog 2 := Scal.mk' Try.underlying2 rfl inferInstance
instance : Inf Try.prog 3 1 8 (.int .i64 0) := ⟨by kernel_rfl⟩
instance : Und Try.prog 3 (.int .i64) := ⟨Try.underlying3⟩
instance : Scal Try.prog 3 := Scal.mk' Try.underlying3 rfl inferInstance
instance : Inf Try.prog 4 1 1 (.bool false) := ⟨by kernel_rfl⟩
instance : Scal Try.prog 4 := Scal.mk' Try.underlying4 rfl inferInstance
instance : Inf Try.prog 21 1 4 (.int .i32 0) := ⟨by kernel_rfl⟩
instance : Und Try.prog 21 (.int .i32) := ⟨Try.underlying21⟩
instance : Scal Try.prog 21 := Scal.mk' Try.underlying21 rfl inferInstance
instance : Inf Try.prog 23 1 8 (.pointer none) := ⟨by kernel_rfl⟩
instance : Und Try.prog 23 (.pointer 54) := ⟨Try.underlying23⟩
instance : Scal Try.prog 23 := Scal.mk' Try.underlying23 rfl inferInstance
instance : Inf Try.prog 29 1 8 (.agg #[.int .i64 0]) := ⟨by kernel_rfl⟩
instance : FieldOff Try.prog 29 2 0 := FieldOff.mk' (ft := 2) Try.underlying29 rfl rfl rfl inferInstance (by decide)
instance : Und Try.prog 30 (.slice 39) := ⟨Try.underlying30⟩
instance : Und Try.prog 31 (.pointer 106) := ⟨Try.underlying31⟩
instance : Inf Try.prog 33 2 16 (.agg #[.int .i64 0, .int .i64 0]) := ⟨by kernel_rfl⟩
instance : Aggr Try.prog 33 2 := Aggr.mk' Try.underlying33 rfl inferInstance
instance : Places Try.prog 33 [(0, 1), (1, 1)] := ⟨_, Try.underlying33, ⟨rfl, infSize (t := 3), rfl, infSize (t := 2), trivial⟩⟩
instance : EqI2 Try.prog 33 .i64 .i64 := ⟨by kernel_rfl, by kernel_rfl, _, _, Try.underlying33, by decide, by decide, rfl, rfl, Try.underlying3, Try.underlying2⟩
instance : FieldOff Try.prog 33 0 0 := FieldOff.mk' (ft := 3) Try.underlying33 rfl rfl rfl inferInstance (by decide)
instance : FieldOff Try.prog 33 1 1 := FieldOff.mk' (ft := 2) Try.underlying33 rfl rfl rfl inferInstance (by decide)
instance : Inf Try.prog 39 1 8 (.nilFunc) := ⟨by kernel_rfl⟩
instance : Und Try.prog 39 (.func #[31] #[] false) := ⟨Try.underlying39⟩
instance : Scal Try.prog 39 := Scal.mk' Try.underlying39 rfl inferInstance
instance : Und Try.prog 43 (.slice 3) := ⟨Try.underlying43⟩
instance : Inf Try.prog 48 1 8 (.pointer none) := ⟨by kernel_rfl⟩
instance : Und Try.prog 48 (.pointer 79) := ⟨Try.underlying48⟩
instance : Scal Try.prog 48 := Scal.mk' Try.underlying48 rfl inferInstance
instance : Inf Try.prog 51 3 24 (.agg #[.pointer none, .pointer none, .nilFunc]) := ⟨by kernel_rfl⟩
instance : FieldOff Try.prog 51 0 0 := FieldOff.mk' (ft := 48) Try.underlying51 rfl rfl rfl inferInstance (by decide)
instance : FieldOff Try.prog 51 1 1 := FieldOff.mk' (ft := 48) Try.underlying51 rfl rfl rfl inferInstance (by decide)
instance : FieldOff Try.prog 51 2 2 := FieldOff.mk' (ft := 39) Try.underlying51 rfl rfl rfl inferInstance (by decide)
instance : Inf Try.prog 52 48 384 (.agg #[.pointer none, .pointer none, .nilFunc, .pointer none, .pointer none, .nilFunc, .pointer none, .pointer none, .nilFunc, .pointer none, .pointer none, .nilFunc, .pointer none, .pointer none, .nilFunc, .pointer none, .pointer none, .nilFunc, .pointer none, .pointer none, .nilFunc, .pointer none, .pointer none, .nilFunc, .pointer none, .pointer none, .nilFunc, .pointer none, .pointer none, .nilFunc, .pointer none, .pointer none, .nilFunc, .pointer none, .pointer none, .nilFunc, .pointer none, .pointer none, .nilFunc, .pointer none, .pointer none, .nilFunc, .pointer none, .pointer none, .nilFunc, .pointer none, .pointer none, .nilFunc]) := ⟨by kernel_rfl⟩
instance : Und Try.prog 52 (.array 16 51) := ⟨Try.underlying52⟩
instance : Inf Try.prog 54 50 400 (.agg #[.pointer none, .pointer none, .pointer none, .pointer none, .nilFunc, .pointer none, .pointer none, .nilFunc, .pointer none, .pointer none, .nilFunc, .pointer none, .pointer none, .nilFunc, .pointer none, .pointer none, .nilFunc, .pointer none, .pointer none, .nilFunc, .pointer none, .pointer none, .nilFunc, .pointer none, .pointer none, .nilFunc, .pointer none, .pointer none, .nilFunc, .pointer none, .pointer none, .nilFunc, .pointer none, .pointer none, .nilFunc, .pointer none, .pointer none, .nilFunc, .pointer none, .pointer none, .nilFunc, .pointer none, .pointer none, .nilFunc, .pointer none, .pointer none, .nilFunc, .pointer none, .pointer none, .nilFunc]) := ⟨by kernel_rfl⟩
instance : Places Try.prog 54 [(0, 1), (1, 1), (2, 48)] := ⟨_, Try.underlying54, ⟨rfl, infSize (t := 48), rfl, infSize (t := 48), rfl, infSize (t := 52), trivial⟩⟩
instance : FieldOff Try.prog 54 0 0 := FieldOff.mk' (ft := 48) Try.underlying54 rfl rfl rfl inferInstance (by decide)
instance : FieldOff Try.prog 54 1 1 := FieldOff.mk' (ft := 48) Try.underlying54 rfl rfl rfl inferInstance (by decide)
instance : FieldOff Try.prog 54 2 2 := FieldOff.mk' (ft := 52) Try.underlying54 rfl rfl rfl inferInstance (by decide)
instance : Inf Try.prog 63 1 24 (.slice none 0 0) := ⟨by kernel_rfl⟩
instance : Und Try.prog 63 (.slice 4) := ⟨Try.underlying63⟩
instance : Scal Try.prog 63 := Scal.mk' Try.underlying63 rfl inferInstance
instance : Inf Try.prog 65 1 8 (.int .u64 0) := ⟨by kernel_rfl⟩
instance : Und Try.prog 65 (.int .u64) := ⟨Try.underlying65⟩
instance : Inf Try.prog 67 1 8 (.agg #[.int .u64 0]) := ⟨by kernel_rfl⟩
instance : FieldOff Try.prog 67 2 0 := FieldOff.mk' (ft := 65) Try.underlying67 rfl rfl rfl inferInstance (by decide)
instance : Inf Try.prog 68 1 4 (.int .u32 0) := ⟨by kernel_rfl⟩
instance : Und Try.prog 68 (.int .u32) := ⟨Try.underlying68⟩
instance : Inf Try.prog 70 2 16 (.agg #[.int .u64 0, .int .u32 0]) := ⟨by kernel_rfl⟩
instance : FieldOff Try.prog 70 1 0 := FieldOff.mk' (ft := 67) Try.underlying70 rfl rfl rfl inferInstance (by decide)
instance : FieldOff Try.prog 70 2 1 := FieldOff.mk' (ft := 68) Try.underlying70 rfl rfl rfl inferInstance (by decide)
instance : Inf Try.prog 74 2 8 (.agg #[.int .i32 0, .int .u32 0]) := ⟨by kernel_rfl⟩
instance : FieldOff Try.prog 74 0 0 := FieldOff.mk' (ft := 21) Try.underlying74 rfl rfl rfl inferInstance (by decide)
instance : FieldOff Try.prog 74 1 1 := FieldOff.mk' (ft := 68) Try.underlying74 rfl rfl rfl inferInstance (by decide)
instance : Inf Try.prog 76 2 8 (.agg #[.int .i32 0, .int .u32 0]) := ⟨by kernel_rfl⟩
instance : FieldOff Try.prog 76 1 0 := FieldOff.mk' (ft := 74) Try.underlying76 rfl rfl rfl inferInstance (by decide)
instance : Inf Try.prog 77 1 8 (.chan none) := ⟨by kernel_rfl⟩
instance : Und Try.prog 77 (.chan .both 25) := ⟨Try.underlying77⟩
instance : Scal Try.prog 77 := Scal.mk' Try.underlying77 rfl inferInstance
instance : Inf Try.prog 79 5 32 (.agg #[.int .i64 0, .bool false, .int .i32 0, .int .u32 0, .chan none]) := ⟨by kernel_rfl⟩
instance : Places Try.prog 79 [(0, 1), (1, 1), (2, 2), (4, 1)] := ⟨_, Try.underlying79, ⟨rfl, infSize (t := 29), rfl, infSize (t := 4), rfl, infSize (t := 76), rfl, infSize (t := 77), trivial⟩⟩
instance : FieldOff Try.prog 79 0 0 := FieldOff.mk' (ft := 29) Try.underlying79 rfl rfl rfl inferInstance (by decide)
instance : FieldOff Try.prog 79 1 1 := FieldOff.mk' (ft := 4) Try.underlying79 rfl rfl rfl inferInstance (by decide)
instance : FieldOff Try.prog 79 2 2 := FieldOff.mk' (ft := 76) Try.underlying79 rfl rfl rfl inferInstance (by decide)
instance : FieldOff Try.prog 79 3 4 := FieldOff.mk' (ft := 77) Try.underlying79 rfl rfl rfl inferInstance (by decide)
instance : Und Try.prog 85 (.pointer 70) := ⟨Try.underlying85⟩
instance : Und Try.prog 87 (.unsafePointer) := ⟨Try.underlying87⟩
instance : Und Try.prog 93 (.pointer 68) := ⟨Try.underlying93⟩
instance : Und Try.prog 123 (.pointer 74) := ⟨Try.underlying123⟩
instance : IsFn Try.prog 3 Try.f3 := ⟨Try.func3⟩
instance : IsFn Try.prog 4 Try.f4 := ⟨Try.func4⟩
instance : HasBody Try.prog 4 := ⟨_, _, Try.func4, rfl, of_decide_eq_true (by kernel_rfl)⟩
instance : IsFn Try.prog 5 Try.f5 := ⟨Try.func5⟩
instance : HasBody Try.prog 5 := ⟨_, _, Try.func5, rfl, of_decide_eq_true (by kernel_rfl)⟩
instance : IsFn Try.prog 6 Try.f6 := ⟨Try.func6⟩
instance : HasBody Try.prog 6 := ⟨_, _, Try.func6, rfl, of_decide_eq_true (by kernel_rfl)⟩
instance : IsFn Try.prog 7 Try.f7 := ⟨Try.func7⟩
instance : HasBody Try.prog 7 := ⟨_, _, Try.func7, rfl, of_decide_eq_true (by kernel_rfl)⟩
instance : IsFn Try.prog 8 Try.f8 := ⟨Try.func8⟩
instance : HasBody Try.prog 8 := ⟨_, _, Try.func8, rfl, of_decide_eq_true (by kernel_rfl)⟩
instance : IsFn Try.prog 9 Try.f9 := ⟨Try.func9⟩
instance : HasBody Try.prog 9 := ⟨_, _, Try.func9, rfl, of_decide_eq_true (by kernel_rfl)⟩
instance : IsFn Try.prog 10 Try.f10 := ⟨Try.func10⟩
instance : HasBody Try.prog 10 := ⟨_, _, Try.func10, rfl, of_decide_eq_true (by kernel_rfl)⟩
instance : IsFn Try.prog 11 Try.f11 := ⟨Try.func11⟩
instance : HasBody Try.prog 11 := ⟨_, _, Try.func11, rfl, of_decide_eq_true (by kernel_rfl)⟩
instance : IsFn Try.prog 12 Try.f12 := ⟨Try.func12⟩
instance : HasBody Try.prog 12 := ⟨_, _, Try.func12, rfl, of_decide_eq_true (by kernel_rfl)⟩
instance : IsFn Try.prog 13 Try.f13 := ⟨Try.func13⟩
instance : HasBody Try.prog 13 := ⟨_, _, Try.func13, rfl, of_decide_eq_true (by kernel_rfl)⟩
instance : IsFn Try.prog 14 Try.f14 := ⟨Try.func14⟩
instance : HasBody Try.prog 14 := ⟨_, _, Try.func14, rfl, of_decide_eq_true (by kernel_rfl)⟩
instance : IsFn Try.prog 15 Try.f15 := ⟨Try.func15⟩
instance : HasBody Try.prog 15 := ⟨_, _, Try.func15, rfl, of_decide_eq_true (by kernel_rfl)⟩
instance : IsFn Try.prog 16 Try.f16 := ⟨Try.func16⟩
instance : HasBody Try.prog 16 := ⟨_, _, Try.func16, rfl, of_decide_eq_true (by kernel_rfl)⟩
instance : IsFn Try.prog 17 Try.f17 := ⟨Try.func17⟩
instance : HasBody Try.prog 17 := ⟨_, _, Try.func17, rfl, of_decide_eq_true (by kernel_rfl)⟩
instance : IsFn Try.prog 18 Try.f18 := ⟨Try.func18⟩
instance : HasBody Try.prog 18 := ⟨_, _, Try.func18, rfl, of_decide_eq_true (by kernel_rfl)⟩
instance : IsFn Try.prog 19 Try.f19 := ⟨Try.func19⟩
instance : HasBody Try.prog 19 := ⟨_, _, Try.func19, rfl, of_decide_eq_true (by kernel_rfl)⟩
instance : IsFn Try.prog 20 Try.f20 := ⟨Try.func20⟩
instance : HasBody Try.prog 20 := ⟨_, _, Try.func20, rfl, of_decide_eq_true (by kernel_rfl)⟩
instance : IsFn Try.prog 21 Try.f21 := ⟨Try.func21⟩
instance : HasBody Try.prog 21 := ⟨_, _, Try.func21, rfl, of_decide_eq_true (by kernel_rfl)⟩
instance : ExtFn Try.prog 22 (Extern.Atomic.update (Op.intArith .add) .i64 true) := ⟨_, Try.func22, by kernel_rfl, by kernel_rfl, by kernel_rfl, by kernel_rfl⟩
instance : IsFn Try.prog 23 Try.f23 := ⟨Try.func23⟩
instance : HasBody Try.prog 23 := ⟨_, _, Try.func23, rfl, of_decide_eq_true (by kernel_rfl)⟩
instance : IsFn Try.prog 24 Try.f24 := ⟨Try.func24⟩
instance : HasBody Try.prog 24 := ⟨_, _, Try.func24, rfl, of_decide_eq_true (by kernel_rfl)⟩
instance : IsFn Try.prog 25 Try.f25 := ⟨Try.func25⟩
instance : HasBody Try.prog 25 := ⟨_, _, Try.func25, rfl, of_decide_eq_true (by kernel_rfl)⟩
instance : IsFn Try.prog 26 Try.f26 := ⟨Try.func26⟩
instance : HasBody Try.prog 26 := ⟨_, _, Try.func26, rfl, of_decide_eq_true (by kernel_rfl)⟩
instance : IsFn Try.prog 27 Try.f27 := ⟨Try.func27⟩
instance : HasBody Try.prog 27 := ⟨_, _, Try.func27, rfl, of_decide_eq_true (by kernel_rfl)⟩
instance : IsFn Try.prog 28 Try.f28 := ⟨Try.func28⟩
instance : HasBody Try.prog 28 := ⟨_, _, Try.func28, rfl, of_decide_eq_true (by kernel_rfl)⟩
instance : ExtFn Try.prog 29 (Extern.Atomic.loadT (.int .i64)) := ⟨_, Try.func29, by kernel_rfl, by kernel_rfl, by kernel_rfl, by kernel_rfl⟩
instance : IsFn Try.prog 30 Try.f30 := ⟨Try.func30⟩
instance : HasBody Try.prog 30 := ⟨_, _, Try.func30, rfl, of_decide_eq_true (by kernel_rfl)⟩
instance : IsFn Try.prog 31 Try.f31 := ⟨Try.func31⟩
instance : HasBody Try.prog 31 := ⟨_, _, Try.func31, rfl, of_decide_eq_true (by kernel_rfl)⟩
instance : IsFn Try.prog 32 Try.f32 := ⟨Try.func32⟩
instance : HasBody Try.prog 32 := ⟨_, _, Try.func32, rfl, of_decide_eq_true (by kernel_rfl)⟩
instance : IsFn Try.prog 33 Try.f33 := ⟨Try.func33⟩
instance : HasBody Try.prog 33 := ⟨_, _, Try.func33, rfl, of_decide_eq_true (by kernel_rfl)⟩
instance : IsFn Try.prog 35 Try.f35 := ⟨Try.func35⟩
instance : HasBody Try.prog 35 := ⟨_, _, Try.func35, rfl, of_decide_eq_true (by kernel_rfl)⟩
instance : IsFn Try.prog 36 Try.f36 := ⟨Try.func36⟩
instance : HasBody Try.prog 36 := ⟨_, _, Try.func36, rfl, of_decide_eq_true (by kernel_rfl)⟩
instance : ExtFn Try.prog 37 (Extern.Race.marked .releaseMerge) := ⟨_, Try.func37, by kernel_rfl, by kernel_rfl, by kernel_rfl, by kernel_rfl⟩
instance : ExtFn Try.prog 38 (fun _ => do mark .disable; pure Extern.Race.none_) := ⟨_, Try.func38, by kernel_rfl, by kernel_rfl, by kernel_rfl, by kernel_rfl⟩
instance : ExtFn Try.prog 39 (fun _ => do mark .enable; pure Extern.Race.none_) := ⟨_, Try.func39, by kernel_rfl, by kernel_rfl, by kernel_rfl, by kernel_rfl⟩
instance : IsFn Try.prog 44 Try.f44 := ⟨Try.func44⟩
instance : HasBody Try.prog 44 := ⟨_, _, Try.func44, rfl, of_decide_eq_true (by kernel_rfl)⟩
instance : IsFn Try.prog 46 Try.f46 := ⟨Try.func46⟩
instance : HasBody Try.prog 46 := ⟨_, _, Try.func46, rfl, of_decide_eq_true (by kernel_rfl)⟩
instance : IsFn Try.prog 47 Try.f47 := ⟨Try.func47⟩
instance : HasBody Try.prog 47 := ⟨_, _, Try.func47, rfl, of_decide_eq_true (by kernel_rfl)⟩
instance : ExtFn Try.prog 50 (Extern.Race.marked .acquire) := ⟨_, Try.func50, by kernel_rfl, by kernel_rfl, by kernel_rfl, by kernel_rfl⟩
instance : IsFn Try.prog 52 Try.f52 := ⟨Try.func52⟩
instance : HasBody Try.prog 52 := ⟨_, _, Try.func52, rfl, of_decide_eq_true (by kernel_rfl)⟩
instance : ExtFn Try.prog 55 (Extern.Atomic.storeT) := ⟨_, Try.func55, by kernel_rfl, by kernel_rfl, by kernel_rfl, by kernel_rfl⟩
instance : ExtFn Try.prog 57 (Extern.Atomic.casT (.int .i64)) := ⟨_, Try.func57, by kernel_rfl, by kernel_rfl, by kernel_rfl, by kernel_rfl⟩
instance : IsFn Try.prog 58 Try.f58 := ⟨Try.func58⟩
instance : HasBody Try.prog 58 := ⟨_, _, Try.func58, rfl, of_decide_eq_true (by kernel_rfl)⟩
instance : IsFn Try.prog 59 Try.f59 := ⟨Try.func59⟩
instance : HasBody Try.prog 59 := ⟨_, _, Try.func59, rfl, of_decide_eq_true (by kernel_rfl)⟩
instance : IsFn Try.prog 65 Try.f65 := ⟨Try.func65⟩
instance : HasBody Try.prog 65 := ⟨_, _, Try.func65, rfl, of_decide_eq_true (by kernel_rfl)⟩
instance : IsFn Try.prog 66 Try.f66 := ⟨Try.func66⟩
instance : HasBody Try.prog 66 := ⟨_, _, Try.func66, rfl, of_decide_eq_true (by kernel_rfl)⟩
instance : ExtFn Try.prog 67 (Extern.Atomic.casT (.int .i32)) := ⟨_, Try.func67, by kernel_rfl, by kernel_rfl, by kernel_rfl, by kernel_rfl⟩
instance : IsFn Try.prog 68 Try.f68 := ⟨Try.func68⟩
instance : HasBody Try.prog 68 := ⟨_, _, Try.func68, rfl, of_decide_eq_true (by kernel_rfl)⟩
instance : ExtFn Try.prog 69 (Extern.Atomic.update (Op.intArith .add) .i32 true) := ⟨_, Try.func69, by kernel_rfl, by kernel_rfl, by kernel_rfl, by kernel_rfl⟩
instance : IsFn Try.prog 70 Try.f70 := ⟨Try.func70⟩
instance : HasBody Try.prog 70 := ⟨_, _, Try.func70, rfl, of_decide_eq_true (by kernel_rfl)⟩
end
end Go.Proofs.Ytndllibjlfpndaa
namespace Go.TJ
section
variable [Dm]
open Go Go.Conc
variable {Γ : Type}
def blk : Value -> Option Nat
  | .slice (some a) _ _ => some a.block
  | _ => none
def SliceO (h : Hp) (s : Value) (e : TypeId) (sz n : Nat) (cells : List Value) : Prop :=
  cells.length = n * sz /\ ((s = .slice none 0 0 /\ n = 0) \/ ∃ b cap rest, s = .slice (some ⟨b, 0, none⟩) n cap /\ n <= cap /\ rest.length = (cap - n) * sz /\ h[b]? = some (.cells (cells ++ rest).toArray e (0, 0)))
theorem SliceO.nil {h : Hp} {e sz : Nat} : SliceO h (.slice none 0 0) e sz 0 [] := ⟨by simp, .inl ⟨rfl, rfl⟩⟩
theorem SliceO.upd {h h' : Hp} {s : Value} {e sz n : Nat} {cells : List Value} (x : SliceO h s e sz n cells) {T : Nat -> Prop} (u : Upd T h h') (hT : ∀ b, blk s = some b -> ¬ T b) : SliceO h' s e sz n cells := by
  refine ⟨x.1, x.2.imp id ?_⟩
  rintro ⟨b, cap, rest, rfl, h1, h2, h3⟩
  exact ⟨b, cap, rest, rfl, h1, h2, u.get h3 (hT b rfl)⟩
theorem SliceO.lt {h : Hp} {s : Value} {e sz n : Nat} {cells : List Value} (x : SliceO h s e sz n cells) {b : Nat} (hb : blk s = some b) : b < h.size := by
  obtain ⟨_, ⟨rfl, rfl⟩ | ⟨b', cap, rest, rfl, h1, h2, h3⟩⟩ := x
  · cases hb
  · cases hb; exact lt_of_get h3
theorem SliceO.val {h : Hp} {s : Value} {e sz n : Nat} {cells : List Value} (x : SliceO h s e sz n cells) : ∃ a cap, s = .slice a n cap := by
  obtain ⟨_, ⟨rfl, rfl⟩ | ⟨b', cap, rest, rfl, h1, h2, h3⟩⟩ := x
  · exact ⟨_, _, rfl⟩
  · exact ⟨_, _, rfl⟩
theorem hsetRow_block {b e : Nat} {f : Nat × Nat} : ∀ (vs : List Value) (off : Nat) (h : Hp) (c : List Value), h[b]? = some (.cells c.toArray e f) -> off + vs.length <= c.length ->
    hsetRow h b off vs = h.setIfInBounds b (.cells (c.take off ++ vs ++ c.drop (off + vs.length)).toArray e f)
  | [], off, h, c, hb, hl => by
    unfold hsetRow
    apply Array.ext_getElem?
    intro i
    by_cases hi : b = i
    · subst hi; rw [get_set_same hb, hb]; simp
    · rw [get_set_ne _ hi]
  | v :: vs, off, h, c, hb, hl => by
    have hl' : off < c.length := by simp at hl; omega
    have hb' : (hset h ⟨b, off, none⟩ v)[b]? = some (.cells (c.set off v).toArray e f) := by
      rw [hset_get, if_pos rfl, hb]; simp
    unfold hsetRow
    rw [hsetRow_block vs (off + 1) _ _ hb' (by simp at hl ⊢; omega)]
    have e1 : hset h ⟨b, off, none⟩ v = h.setIfInBounds b (.cells (c.set off v).toArray e f) := by
      apply Array.ext_getElem?
      intro i
      by_cases hi : b = i
      · subst hi; rw [get_set_same hb, hb']
      · rw [get_set_ne _ hi, hset_ne _ _ _ hi]
    rw [e1, set_set]
    congr 2
    have h1 : (c.set off v).take (off + 1) = c.take off ++ [v] := by
      rw [List.take_set, List.take_succ_eq_append_getElem hl', List.set_append_right _ _ (by simp; omega)]
      simp [Nat.min_eq_left (Nat.le_of_lt hl')]
    have h2 : (c.set off v).drop (off + 1 + vs.length) = c.drop (off + (v :: vs).length) := by
      rw [List.drop_set_of_lt (by omega)]; simp; congr 1; omega
    rw [h1, h2]
    simp
section
variable {P : Program} {main : Bool} {S : Sit Γ} {f : FuncId} {n : Nat} {k : List Item} {env : Env} {ds : List Deferred} {h : Hp} {δ : Ix Γ} {R : Post Γ}
variable {ops : Array Oper} {l : List Oper} {d : Nat} {ty : TypeId} {pos : String} {af : Array Edge} {g : Option (Nat × Bool)}
theorem semW_loadCells {b : Nat} {vs : List Value} {Q : Array Value -> Hp -> Ix Γ -> Prop} {X : Value -> Hp -> Ix Γ -> Prop} (hc : hrow h b 0 vs) (hq : Q vs.toArray h δ) : SemW P S (loadCells ⟨b, 0, none⟩ vs.length) h δ Q X :=
  semW_loadCellsFrom vs 0 #[] (fun j v hv => by simpa using hc j v hv) (by simpa using hq)
theorem hrow_block {b e : Nat} {fz : Nat × Nat} {vs rest : List Value} (hb : h[b]? = some (.cells (vs ++ rest).toArray e fz)) : hrow h b 0 vs := fun i v hv => by
  have hi : i < vs.length := by
    rcases Nat.lt_or_ge i vs.length with x | x
    · exact x
    · rw [List.getElem?_eq_none x] at hv; cases hv
  refine hcell_of hb ?_
  simp only [Nat.zero_add, List.getElem?_toArray, List.getElem?_append_left hi, hv]
theorem sem_append1 {t e sz by_ : Nat} {z : Value} [hinf : Inf P e sz by_ z] [hu : Und P t (.slice e)] {s x : Value} {m c' b' e' : Nat} {fz : Nat × Nat} {cells new : List Value} {Q : Value -> Hp -> Ix Γ -> Prop} {X : Value -> Hp -> Ix Γ -> Prop}
    (hs : SliceO h s e sz m cells) (hx : x = .slice (some ⟨b', 0, none⟩) 1 c') (hb' : h[b']? = some (.cells new.toArray e' fz)) (hnew : new.length = sz) (hone : ∀ v ∈ new, OneCell v) (hfit : (m + 1) * by_ <= 140737488355328) (hm : m < 1000000000000) (hz : z.cells.size = sz) (hS : ∀ b o, blk s = some b -> ¬ S.still δ.g ⟨b, o, none⟩)
    (hq : ∀ s' h', SliceO h' s' e sz (m + 1) (cells ++ new) -> Upd (fun b => blk s = some b) h h' -> (∀ b, blk s' = some b -> blk s = some b \/ b = h.size) -> Q s' h' δ) (hLo : S.lone δ.g := by first | exact True.intro | assumption) (hDu : ¬ S.dull δ.g := by first | exact (fun x => x) | assumption) :
    SemW P S (Builtin.append_ #[t, t] ty #[s, x]) h δ Q X := by
  subst hx
  obtain ⟨inf, hi1, hi2, hi3, hi4⟩ := hinf.get
  obtain ⟨a, cap, rfl⟩ := hs.val
  have hfirst : ∀ {Q' : Array Value -> Hp -> Ix Γ -> Prop}, Q' new.toArray h δ -> SemW P S (Builtin.firstCells sz 1 (.slice (some ⟨b', 0, none⟩) 1 c')) h δ Q' X := fun {Q'} hq' => by
    show SemW P S (loadCells ⟨b', 0, none⟩ (1 * sz)) h δ Q' X
    rw [Nat.one_mul, <- hnew]
    exact semW_loadCells (hrow_block (rest := []) (by simpa using hb')) hq'
  have hout := hu.out
  unfold Builtin.append_
  show SemW P S (underlying t >>= _) h δ Q X
  refine semW_underlying hout ?_
  show SemW P S (sizeOf e >>= _) h δ Q X
  refine semW_sizeOf hi1 ?_
  rw [hi2]
  show SemW P S (underlying t >>= _) h δ Q X
  refine semW_underlying hout ?_
  refine semW_pureBind ?_
  show SemW P S (pure 1 >>= _) h δ Q X
  refine semW_pureBind ?_
  simp only []
  by_cases hle : m + 1 <= cap
  · rw [if_pos hle]
    show SemW P S (Builtin.firstCells sz 1 (.slice (some ⟨b', 0, none⟩) 1 c') >>= _) h δ Q X
    refine semW_bind _ _ _ _ _ _ (hfirst ?_)
    obtain ⟨hl, ⟨he, rfl⟩ | ⟨b, cap', rest, he, h1, h2, h3⟩⟩ := hs
    · cases he; omega
    cases he
    show SemW P S (storeCells ((⟨b, 0, none⟩ : Addr).add (m * sz)) new >>= _) h δ Q X
    rw [add_eq]
    have hroom : m * sz + new.length <= (cells ++ rest).length := by
      rw [List.length_append, hl, h2, hnew, <- Nat.succ_mul, <- Nat.add_mul]
      exact Nat.mul_le_mul_right _ (by omega)
    refine semW_bind _ _ _ _ _ _ (semW_storeCells new 0 h hone (fun j hj => ⟨?_, hfroz_of h3, hS b _ rfl⟩) ?_)
    · refine ⟨(cells ++ rest)[m * sz + j]'(by omega), hcell_of h3 ?_⟩
      simp only [List.getElem?_toArray]
      rw [show 0 + m * sz + 0 + j = m * sz + j by omega, List.getElem?_eq_getElem (by omega)]
    · rw [hsetRow_block new _ h _ h3 (by omega)]
      have e1 : (cells ++ rest).take (0 + m * sz + 0) = cells := by rw [show 0 + m * sz + 0 = cells.length by omega, List.take_left']; rfl
      have e2 : (cells ++ rest).drop (0 + m * sz + 0 + new.length) = rest.drop sz := by
        rw [show 0 + m * sz + 0 + new.length = cells.length + sz by omega, List.drop_append]
        simp
      rw [e1, e2]
      refine semW_pure (Q := _) ?_
      refine hq _ _ ⟨by rw [List.length_append, hl, hnew, Nat.succ_mul], .inr ⟨b, cap, rest.drop sz, rfl, hle, ?_, get_set_same h3⟩⟩ (Upd.set _ _ _ rfl) (fun b' hb' => .inl hb')
      rw [List.length_drop, h2, show cap - m = (cap - (m + 1)) + 1 by omega, Nat.succ_mul]; omega
  · rw [if_neg hle]
    have hmax : IntKind.i64.max = 9223372036854775807 := by decide
    refine semW_typeInfo hi1 ?_
    rw [if_neg (by rw [hmax]; omega)]
    refine semW_typeInfo hi1 ?_
    have hcap : cap <= m := by omega
    rw [if_neg (by rw [hi3]; have := growslice_fits (need := m + 1) (old := cap) (bytes := by_) (by omega) hfit; omega)]
    refine semW_bind _ _ _ _ _ _ ?_
    refine ⟨hDu, ?_⟩
    intro newCap hcut
    have hge : m + 1 <= newCap := by
      rcases hcut with ⟨h1, h2⟩ | ⟨h1, t', h2⟩
      · cases h1
      · rw [h2]; exact Nat.le_add_right _ _
    refine semW_pure (Q := _) ?_
    refine semW_typeInfo hi1 ?_
    have hroom : ∀ {Q' : Unit -> Hp -> Ix Γ -> Prop}, Q' () h δ -> SemW P S (askRoom (newCap * inf.bytes)) h δ Q' X := fun {Q'} hq' => by
      unfold askRoom
      split
      · exact ⟨⟨nofun, nofun, nofun, fun x => (hDu x).elim⟩, hq'⟩
      · exact hq'
    refine semW_bind _ _ _ _ _ _ (hroom ?_)
    have hold : ∀ {Q' : Array Value -> Hp -> Ix Γ -> Prop}, Q' cells.toArray h δ -> SemW P S (Builtin.firstCells sz m (.slice a m cap)) h δ Q' X := fun {Q'} hq' => by
      obtain ⟨hl, ⟨he, rfl⟩ | ⟨b, cap', rest, he, h1, h2, h3⟩⟩ := hs
      · cases he
        have : cells = [] := by simpa using hl
        subst this
        exact hq'
      · cases he
        show SemW P S (loadCells ⟨b, 0, none⟩ (m * sz)) h δ Q' X
        rw [<- hl]
        exact semW_loadCells (hrow_block h3) hq'
    show SemW P S (Builtin.firstCells sz m (.slice a m cap) >>= _) h δ Q X
    refine semW_bind _ _ _ _ _ _ (hold ?_)
    show SemW P S (Builtin.firstCells sz 1 (.slice (some ⟨b', 0, none⟩) 1 c') >>= _) h δ Q X
    refine semW_bind _ _ _ _ _ _ (hfirst ?_)
    refine semW_zeroValue hi1 hi4 ?_
    refine ⟨⟨hLo, thawed⟩, ?_⟩
    refine semW_pure (Q := _) ?_
    have hzc : (Builtin.zeroCells z.cells (newCap - (m + 1))).toList.length = (newCap - (m + 1)) * sz := by simp [Builtin.zeroCells, hz]
    refine hq _ _ ⟨by rw [List.length_append, hs.1, hnew, Nat.succ_mul], .inr ⟨h.size, newCap, (Builtin.zeroCells z.cells (newCap - (m + 1))).toList, rfl, hge, hzc, ?_⟩⟩ (Upd.push _ _) (fun b hb => .inr (by cases hb; rfl))
    rw [get_push_new]
    congr 2
    simp
theorem ER.append1 {t e sz by_ : Nat} {z : Value} [Inf P e sz by_ z] [Und P t (.slice e)] {x y : Operand} {s : Value} {m c' b' e' : Nat} {fz : Nat × Nat} {cells new : List Value}
    (hw : wantE ops env g = some true) (hd : Nat.blt d n = true) (hx : ev env x = some s) (hy : ev env y = some (.slice (some ⟨b', 0, none⟩) 1 c'))
    (hs : SliceO h s e sz m cells) (hb' : h[b']? = some (.cells new.toArray e' fz)) (hnew : new.length = sz) (hone : ∀ v ∈ new, OneCell v) (hfit : (m + 1) * by_ <= 140737488355328) (hm : m < 1000000000000) (hz : z.cells.size = sz) (hS : ∀ b o, blk s = some b -> ¬ S.still δ.g ⟨b, o, none⟩)
    (hn : ∀ s' h', SliceO h' s' e sz (m + 1) (cells ++ new) -> Upd (fun b => blk s = some b) h h' -> (∀ b, blk s' = some b -> blk s = some b \/ b = h.size) -> ER P main S f n ops l k ((d, s') :: env) ds h' δ R) (hLo : S.lone δ.g := by first | exact True.intro | assumption) (hDu : ¬ S.dull δ.g := by first | exact (fun x => x) | assumption) :
    ER P main S f n ops (⟨some d, .call { callee := .builtin .append, args := #[x, y], argTypes := #[t, t] }, ty, pos, af, g⟩ :: l) k env ds h δ R := by
  refine ER.val (Q := fun s' h' δ' => δ' = δ /\ SliceO h' s' e sz (m + 1) (cells ++ new) /\ Upd (fun b => blk s = some b) h h' /\ (∀ b, blk s' = some b -> blk s = some b \/ b = h.size)) hw hd (fun ρ hρ => sem_builtin (vs := #[s, .slice (some ⟨b', 0, none⟩) 1 c']) (by simp [hρ x _ hx, hρ y _ hy]) fun cs => ?_) ?_
  · show SemW P S (Builtin.append_ #[t, t] ty #[s, .slice (some ⟨b', 0, none⟩) 1 c'] >>= fun v => pure (Next.value v)) h δ _ _
    exact semW_bind _ _ _ _ _ _ (sem_append1 hs rfl hb' hnew hone hfit hm hz hS (fun s' h' h1 h2 h3 => ⟨s', rfl, rfl, h1, h2, h3⟩))
  · rintro s' h' δ' ⟨rfl, h1, h2, h3⟩
    exact hn s' h' h1 h2 h3
theorem ER.sliceN {t e sz by_ len : Nat} {z : Value} {ps : Array (Nat × Operand)} {parts : List (Nat × Value)} {cells : Array Value} [hinf : Inf P e sz by_ z] [hu : Und P t (.slice e)] (hw : wantE ops env g = some true) (hd : Nat.blt d n = true) (hp : evP env ps.toList = some parts) (hsz : 0 < len * sz) (hsz2 : len * sz <= 1000000)
    (hf : Instr.fill (fun i => some (i * sz, sz)) ((Array.range (len * sz)).map (z.cells[· % z.cells.size]!)) parts = some cells)
    (hn : ER P main S f n ops l k ((d, .slice (some ⟨h.size, 0, none⟩) len len) :: env) ds (h.push (.cells cells e)) δ R) (hLo : S.lone δ.g := by first | exact True.intro | assumption) : ER P main S f n ops (⟨some d, .buildSlice t len ps, ty, pos, af, g⟩ :: l) k env ds h δ R := by
  refine ER.to hw hd (fun ρ Q X hρ hq => ?_) hn
  have e1 : (ps.map fun (i, x) => (i, ρ x)) = parts.toArray := by
    obtain ⟨ps⟩ := ps
    simp only [List.map_toArray]
    rw [<- evP_ok hρ ps parts hp]
  unfold execOp
  dsimp only
  rw [e1]
  refine semW_bind _ _ _ _ _ _ ?_
  obtain ⟨inf, hi1, hi2, hi3, hi4⟩ := hinf.get
  unfold Instr.buildSlice
  refine semW_underlying hu.out ?_
  refine semW_sizeOf hi1 ?_
  rw [hi2, if_neg (by omega), if_neg (by omega)]
  refine semW_zeroValue hi1 hi4 ?_
  refine semW_pureBind ?_
  have hf' : Instr.fill (fun i => some (i * sz, sz)) ((Array.range (len * sz)).map (z.cells[· % z.cells.size]!)) parts.toArray.toList = some cells := hf
  dsimp only
  rw [hf']
  exact ⟨⟨hLo, thawed⟩, hq⟩
theorem zeros1 {a : Array Value} {sz : Nat} (h : a.size = sz) : (Array.range (1 * sz)).map (a[· % a.size]!) = a := by
  subst h
  apply Array.ext
  · simp
  · intro i h1 h2
    simp [Nat.mod_eq_of_lt h2, h2]
theorem ER.slice1 {t e sz by_ : Nat} {z : Value} {ps : Array (Nat × Operand)} {parts : List (Nat × Value)} {cells : Array Value} [Inf P e sz by_ z] [Und P t (.slice e)] (hw : wantE ops env g = some true) (hd : Nat.blt d n = true) (hp : evP env ps.toList = some parts) (hsz : 0 < sz) (hsz2 : sz <= 1000000) (hz : z.cells.size = sz)
    (hf : Instr.fill (fun i => some (i * sz, sz)) z.cells parts = some cells)
    (hn : ER P main S f n ops l k ((d, .slice (some ⟨h.size, 0, none⟩) 1 1) :: env) ds (h.push (.cells cells e)) δ R) (hLo : S.lone δ.g := by first | exact True.intro | assumption) : ER P main S f n ops (⟨some d, .buildSlice t 1 ps, ty, pos, af, g⟩ :: l) k env ds h δ R :=
  ER.sliceN hw hd hp (by omega) (by omega) (by rw [zeros1 hz]; exact hf) hn
theorem ER.makeSlice {t e by_ m : Nat} {z : Value} {x y : Operand} [hinf : Inf P e 1 by_ z] [hu : Und P t (.slice e)] (hw : wantE ops env g = some true) (hd : Nat.blt d n = true) (hx : ev env x = some (.int .i64 m)) (hy : ev env y = some (.int .i64 m))
    (hfit : by_ * m <= 140737488355328) (hm : m < 1000000000000) (hz : z.cells = #[z])
    (hn : ∀ s h', SliceO h' s e 1 m (List.replicate m z) -> h' = h.push (.cells (List.replicate m z).toArray e) -> blk s = some h.size -> ER P main S f n ops l k ((d, s) :: env) ds h' δ R) (hLo : S.lone δ.g := by first | exact True.intro | assumption) (hDu : ¬ S.dull δ.g := by first | exact (fun x => x) | assumption) : ER P main S f n ops (⟨some d, .makeSlice t x y, ty, pos, af, g⟩ :: l) k env ds h δ R := by
  refine ER.to (v := .slice (some ⟨h.size, 0, none⟩) m m) (h' := h.push (.cells (List.replicate m z).toArray e)) hw hd (fun ρ Q X hρ hq => ?_) (hn _ _ ⟨by simp, .inr ⟨h.size, m, [], rfl, Nat.le_refl _, by simp, by rw [get_push_new]; simp⟩⟩ rfl rfl)
  show SemW P S (Instr.makeSlice t (ρ x) (ρ y) >>= fun v => pure (.value v)) h δ Q X
  rw [hρ x _ hx, hρ y _ hy]
  refine semW_bind _ _ _ _ _ _ ?_
  obtain ⟨inf, hi1, hi2, hi3, hi4⟩ := hinf.get
  have hwr : IntKind.i64.wrap ((m : Int)) = m := i64_in (by omega) (by omega)
  unfold Instr.makeSlice
  show SemW P S (underlying t >>= _) h δ _ X
  refine semW_underlying hu.out ?_
  refine semW_pureBind ?_
  refine semW_pureBind ?_
  refine semW_typeInfo hi1 ?_
  simp only [hwr, hi3]
  have hc : ¬ ((by_ : Int) * m > 2 ^ 48) := by
    have := Int.ofNat_le.mpr hfit
    rw [Int.natCast_mul] at this
    have e : (2 : Int) ^ 48 = 281474976710656 := by decide
    rw [e]
    omega
  rw [if_neg (by rw [decide_eq_false (by omega : ¬ ((m : Int) < 0)), decide_eq_false hc, decide_eq_false (by omega : ¬ ((m : Int) > m))]; decide)]
  have hroom : ∀ {Q' : Unit -> Hp -> Ix Γ -> Prop}, Q' () h δ -> SemW P S (askRoom (((m : Int)).toNat * by_)) h δ Q' X := fun {Q'} hq' => by
    unfold askRoom
    split
    · exact ⟨⟨nofun, nofun, nofun, fun x => (hDu x).elim⟩, hq'⟩
    · exact hq'
  refine semW_bind _ _ _ _ _ _ (hroom ?_)
  refine semW_sizeOf hi1 ?_
  rw [hi2]
  have hrow : ∀ zs : Array Value, (m = 0 \/ zs = #[z]) -> Array.map (fun x => zs[x % zs.size]!) (Array.range (((m : Int)).toNat * 1)) = (List.replicate m z).toArray := fun zs hzs => by
    rcases hzs with rfl | rfl
    · simp
    · apply Array.ext'
      simp
      apply List.ext_getElem
      · simp
      · intro i h1 h2; simp [Nat.mod_one]
  split
  · refine semW_pureBind ?_
    rename_i h0
    refine ⟨⟨hLo, thawed⟩, ?_⟩
    rw [hrow _ (.inl (by omega))]
    exact hq
  · refine semW_zeroValue hi1 hi4 ?_
    refine semW_pureBind ?_
    refine ⟨⟨hLo, thawed⟩, ?_⟩
    rw [hrow _ (.inr hz)]
    exact hq
end
section
variable {P : Program} {main : Bool} {S : Sit Γ} {f : FuncId} {n : Nat} {k : List Item} {env : Env} {ds : List Deferred} {h : Hp} {δ : Ix Γ} {R : Post Γ}
variable {ops : Array Oper} {l : List Oper} {d : Nat} {ty : TypeId} {pos : String} {af : Array Edge} {g : Option (Nat × Bool)}
theorem ER.len1 {x : Operand} {t e : TypeId} [Und P t (.slice e)] {a : Option Addr} {len cap : Nat} (hw : wantE ops env g = some true) (hd : Nat.blt d n = true) (hx : ev env x = some (.slice a len cap))
    (hn : ER P main S f n ops l k ((d, .int .i64 len) :: env) ds h δ R) : ER P main S f n ops (⟨some d, .call { callee := .builtin .len, args := #[x], argTypes := #[t] }, ty, pos, af, g⟩ :: l) k env ds h δ R :=
  ER.lenSl (t := t) hw hd rfl hx hn
theorem EK.merge {σ : Type} (E : σ -> Env) (I : σ -> Hp -> Ix Γ -> Prop) {Y C : Code} (h1 : (∀ s h' δ', I s h' δ' -> EK P main S f n (.code C :: k) (E s) ds h' δ' R) -> EK P main S f n (.code Y :: .code C :: k) env ds h δ R)
    (h2 : ∀ s h' δ', I s h' δ' -> EK P main S f n (.code C :: k) (E s) ds h' δ' R) : EK P main S f n (.code Y :: .code C :: k) env ds h δ R := h1 h2
def cmpB (op : BinOp) (a b : Int) : Bool := match op with
  | .eql => decide (a = b)
  | .neq => decide (a ≠ b)
  | .lss => decide (a < b)
  | .leq => decide (a <= b)
  | .gtr => decide (a > b)
  | .geq => decide (a ≥ b)
  | _ => false
theorem ER.cmpB {op : BinOp} {t t2 : TypeId} {x y : Operand} {kd : IntKind} {a b : Int} {r : Bool} (hc : isCmp op = true) (hw : wantE ops env g = some true) (hd : Nat.blt d n = true) (hx : ev env x = some (.int kd a)) (hy : ev env y = some (.int kd b)) (hr : TJ.cmpB op a b = r)
    (hn : ER P main S f n ops l k ((d, .bool r) :: env) ds h δ R) : ER P main S f n ops (⟨some d, .binOp op t x y t2, ty, pos, af, g⟩ :: l) k env ds h δ R := by
  refine ER.cmpS hc hw hd hx hy (fun hp => ?_) (fun hp => ?_)
  · have : r = true := by subst hr; cases op <;> first | exact decide_eq_true hp | cases hc
    rw [<- this]; exact hn
  · have : r = false := by subst hr; cases op <;> first | exact decide_eq_false hp | cases hc
    rw [<- this]; exact hn
end
theorem SliceO.cell {h : Hp} {s : Value} {e sz m : Nat} {cells : List Value} (x : SliceO h s e sz m cells) (hm : 0 < m) : ∃ b cap, s = .slice (some ⟨b, 0, none⟩) m cap /\ (∀ j v, cells[j]? = some v -> hcell h ⟨b, j, none⟩ = some v) /\ ∀ o, hfroz h ⟨b, o, none⟩ = false := by
  obtain ⟨hl, ⟨rfl, rfl⟩ | ⟨b, cap, rest, rfl, h1, h2, h3⟩⟩ := x
  · omega
  · refine ⟨b, cap, rfl, fun j v hv => by simpa using hrow_block h3 j v hv, fun o => hfroz_of h3⟩
theorem SliceO.set {h : Hp} {b cap e sz m : Nat} {cells : List Value} (x : SliceO h (.slice (some ⟨b, 0, none⟩) m cap) e sz m cells) {j : Nat} (hj : j < cells.length) (v : Value) : SliceO (hset h ⟨b, j, none⟩ v) (.slice (some ⟨b, 0, none⟩) m cap) e sz m (cells.set j v) := by
  obtain ⟨hl, ⟨he, rfl⟩ | ⟨b', cap', rest, he, h1, h2, h3⟩⟩ := x
  · cases he
  · cases he
    refine ⟨by simpa using hl, .inr ⟨b, cap, rest, rfl, h1, h2, ?_⟩⟩
    rw [hset_get, if_pos rfl, h3]
    simp [hj]
end
end Go.TJ
