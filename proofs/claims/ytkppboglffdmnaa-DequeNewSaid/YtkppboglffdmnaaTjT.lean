/- Own theory, part 15: the trace while one goroutine holds the token, the others loose, each with places of its own that stand still. No condition. -/
import Derived.Test.YtkppboglffdmnaaTjM
import Derived.Conc.Token
namespace Go.TJ
open Go Go.Conc

/-- Goroutine h holds; Lo: who is loose; St: what stands still for whom. -/
structure Tr (h : Nat) (Lo : Nat → Prop) (St : Nat → Loc → Prop) (t : Trace) : Prop where
  clean : ∀ said, ¬ Race said t
  known : ∀ i a, touchAt t i = some a → a.loc.isMemory = true → Knows t h i ∨ (a.write = false ∧ ∃ g, t.g? i = some g ∧ Lo g ∧ St g a.loc)
  wrote : ∀ i a, touchAt t i = some a → a.write = true → ∀ g, Lo g → St g a.loc → Knows t g i
  hears : ∀ g, Lo g → Deaf t g = 0

section
variable {h : Nat} {Lo Lo' : Nat → Prop} {St St' : Nat → Loc → Prop} {t u : Trace}

/-- Less is loose, or stands still in other words. -/
theorem Tr.congr (H : Tr h Lo St t) (h1 : ∀ g, Lo' g ↔ Lo g) (h2 : ∀ g, Lo g → ∀ l, St' g l ↔ St g l) : Tr h Lo' St' t :=
  ⟨H.clean, fun i a ha hm => (H.known i a ha hm).imp id fun ⟨x, g, y, z, w⟩ => ⟨x, g, y, (h1 g).2 z, (h2 g z _).2 w⟩, fun i a ha hw g hg hS => H.wrote i a ha hw g ((h1 g).1 hg) ((h2 g ((h1 g).1 hg) _).1 hS), fun g hg => H.hears g ((h1 g).1 hg)⟩

theorem Tr.old (H : Tr h Lo St t) {i : Nat} {a : Touch} {x : MemOp} (hx : t[i]? = some x) (hxa : x.act.touch? = some a) (hm : a.loc.isMemory = true) :
    Knows (t ++ u) h i ∨ (a.write = false ∧ ∃ g, (t ++ u).g? i = some g ∧ Lo g ∧ St g a.loc) :=
  (H.known i a (by rw [touchAt_of hx]; exact hxa) hm).imp (Knows.app u) fun ⟨p, g, q, r⟩ => ⟨p, g, by rw [g?_old (lt_size_of_getElem? hx)]; exact q, r⟩

/-- The holder's own operations: none writes what stands still. -/
theorem Tr.own (H : Tr h Lo St t) (hl : ¬ Lo h) (hu : ∀ op ∈ u, op.g = h) (hs : ∀ op ∈ u, ∀ b, op.act.touch? = some b → ∀ g, Lo g → St g b.loc → b.write = false) : Tr h Lo St (t ++ u) := by
  refine ⟨fun said => noRace_append (H.clean said) hu fun i a ha op hop b hb hc => ?_, fun i a ha hm => ?_, fun i a ha hw g hg hS => ?_, fun g hg => ?_⟩
  · rcases H.known i a ha hc.2.1 with hk | ⟨hw, g, _, hg, hS⟩
    · exact hk
    · have hb0 := hs op hop b hb g hg (hc.1 ▸ hS)
      rcases hc.2.2.1 with x | x
      · rw [hw] at x; cases x
      · rw [hb0] at x; cases x
  · obtain ⟨x, hx, hxa⟩ := touch_of ha
    rcases getElem?_append_cases hx with ⟨_, hx'⟩ | ⟨_, hxu⟩
    · exact H.old hx' hxa hm
    · have := knows_own hx
      rw [hu x hxu] at this
      exact .inl this
  · obtain ⟨x, hx, hxa⟩ := touch_of ha
    rcases getElem?_append_cases hx with ⟨_, hx'⟩ | ⟨_, hxu⟩
    · exact (H.wrote i a (by rw [touchAt_of hx']; exact hxa) hw g hg hS).app u
    · rw [hs x hxu a hxa g hg hS] at hw; cases hw
  · exact (Deaf_other t (fun e => hl (by rw [e]; exact hg)) u hu).trans (H.hears g hg)

/-- Operations that touch nothing, and leave whoever is loose as deaf as it was. -/
theorem Tr.mute (H : Tr h Lo St t) (hn : ∀ op ∈ u, op.act.touch? = none) (hd : ∀ g, Lo g → Deaf (t ++ u) g = Deaf t g) : Tr h Lo St (t ++ u) := by
  refine ⟨fun said => noRace_appendMute (H.clean said) hn, fun i a ha hm => ?_, fun i a ha hw g hg hS => ?_, fun g hg => (hd g hg).trans (H.hears g hg)⟩
  · obtain ⟨x, hx, hxa⟩ := touch_of ha
    rcases getElem?_append_cases hx with ⟨_, hx'⟩ | ⟨_, hxu⟩
    · exact H.old hx' hxa hm
    · rw [hn x hxu] at hxa; cases hxa
  · obtain ⟨x, hx, hxa⟩ := touch_of ha
    rcases getElem?_append_cases hx with ⟨_, hx'⟩ | ⟨_, hxu⟩
    · exact (H.wrote i a (by rw [touchAt_of hx']; exact hxa) hw g hg hS).app u
    · rw [hn x hxu] at hxa; cases hxa

/-- One that is loose reads what stands still for it. -/
theorem Tr.read (H : Tr h Lo St t) {g : Nat} (hg : Lo g) (hu : ∀ op ∈ u, op.g = g) (hr : ∀ op ∈ u, ∀ b, op.act.touch? = some b → b.write = false ∧ St g b.loc) (hd : Deaf (t ++ u) g = Deaf t g) : Tr h Lo St (t ++ u) := by
  refine ⟨fun said => noRace_append (H.clean said) hu fun i a ha op hop b hb hc => ?_, fun i a ha hm => ?_, fun i a ha hw g' hg' hS => ?_, fun g' hg' => ?_⟩
  · obtain ⟨hb0, hbS⟩ := hr op hop b hb
    rcases hc.2.2.1 with x | x
    · exact H.wrote i a ha x g hg (hc.1 ▸ hbS)
    · rw [hb0] at x; cases x
  · obtain ⟨x, hx, hxa⟩ := touch_of ha
    rcases getElem?_append_cases hx with ⟨_, hx'⟩ | ⟨_, hxu⟩
    · exact H.old hx' hxa hm
    · exact .inr ⟨(hr x hxu a hxa).1, g, by rw [g?_of hx, hu x hxu], hg, (hr x hxu a hxa).2⟩
  · obtain ⟨x, hx, hxa⟩ := touch_of ha
    rcases getElem?_append_cases hx with ⟨_, hx'⟩ | ⟨_, hxu⟩
    · exact (H.wrote i a (by rw [touchAt_of hx']; exact hxa) hw g' hg' hS).app u
    · rw [(hr x hxu a hxa).1] at hw; cases hw
  · by_cases e : g' = g
    · subst e; exact hd.trans (H.hears g' hg')
    · exact (Deaf_other t (fun x => e x.symm) u hu).trans (H.hears g' hg')

/-- St with goroutine g's places laid anew. -/
def stUp (St : Nat → Loc → Prop) (g : Nat) (s : Loc → Prop) : Nat → Loc → Prop := fun g' l => (g' = g ∧ s l) ∨ (g' ≠ g ∧ St g' l)
theorem stUp_same {St : Nat → Loc → Prop} {g : Nat} {s : Loc → Prop} {l : Loc} : stUp St g s g l ↔ s l := ⟨fun x => x.elim (·.2) fun y => absurd rfl y.1, fun x => .inl ⟨rfl, x⟩⟩
theorem stUp_ne {St : Nat → Loc → Prop} {g g' : Nat} {s : Loc → Prop} {l : Loc} (h : g' ≠ g) : stUp St g s g' l ↔ St g' l := ⟨fun x => x.elim (fun y => absurd y.1 h) (·.2), fun x => .inr ⟨h, x⟩⟩

/-- THE TOKEN PASSES from h to j: h goes on to sit (sit), with places s of its own that stand still, or leaves. -/
theorem Tr.give (H : Tr h Lo St t) {j : Nat} (hl : ¬ Lo h) (hj : Lo j) (hd : Deaf t h = 0) (sit : Prop) (s : Loc → Prop) (hs : ∀ l, s l → l.isMemory = true) (fh : FuncId) (ph : String) (fj : FuncId) (pj : String) (c k cap : Nat) :
    Tr j (fun g => (Lo g ∧ g ≠ j) ∨ (g = h ∧ sit)) (stUp St h s) (t ++ met h j fh ph fj pj c k cap) := by
  have hn := met_mute h j fh ph fj pj c k cap
  have hq := met_quiet h j fh ph fj pj c k cap
  have hne : ∀ g, Lo g → g ≠ h := fun g hg e => hl (e ▸ hg)
  have e0 : (t ++ met h j fh ph fj pj c k cap)[t.size]? = some { g := h, fn := fh, pos := ph, act := .send c k } := by simp [met]
  have e3 : (t ++ met h j fh ph fj pj c k cap)[t.size + 3]? = some { g := j, fn := fj, pos := pj, act := .recvDone c k } := by simp [met]
  have edge : HappensBefore (t ++ met h j fh ph fj pj c k cap) t.size (t.size + 3) :=
    Relation.TransGen.single (.inr ⟨.handOver (act?_of e0) (act?_of e3), ⟨h, g?_of e0, by rw [deaf_old (Nat.le_refl _)]; exact hd⟩, ⟨j, g?_of e3, by rw [deaf_quiet (hq j) 3 (by simp [met])]; exact H.hears j hj⟩⟩)
  refine ⟨fun said => noRace_appendMute (H.clean said) hn, fun i a ha hm => ?_, fun i a ha hw g hg hS => ?_, fun g hg => (Deaf_quiet (hq g)).trans (hg.elim (fun x => H.hears g x.1) fun x => x.1 ▸ hd)⟩
  · obtain ⟨x, hx, hxa⟩ := touch_of ha
    rcases getElem?_append_cases hx with ⟨hi, hx'⟩ | ⟨_, hxu⟩
    · rcases H.known i a (by rw [touchAt_of hx']; exact hxa) hm with hk | ⟨p, g, q, hg, hS⟩
      · exact .inl ⟨t.size + 3, _, e3, rfl, .inr ((hk.hb_new (Nat.le_refl _) e0 rfl).trans edge)⟩
      · by_cases e : g = j
        · subst e
          have := knows_own hx
          rw [show x.g = g from by have := g?_of hx'; rw [q] at this; exact (Option.some.inj this).symm] at this
          exact .inl this
        · exact .inr ⟨p, g, by rw [g?_old hi]; exact q, .inl ⟨hg, e⟩, (stUp_ne (hne g hg)).2 hS⟩
    · rw [hn x hxu] at hxa; cases hxa
  · obtain ⟨x, hx, hxa⟩ := touch_of ha
    rcases getElem?_append_cases hx with ⟨_, hx'⟩ | ⟨_, hxu⟩
    · rcases hg with ⟨hg, _⟩ | ⟨rfl, _⟩
      · exact (H.wrote i a (by rw [touchAt_of hx']; exact hxa) hw g hg ((stUp_ne (hne g hg)).1 hS)).app _
      · rcases H.known i a (by rw [touchAt_of hx']; exact hxa) (hs _ (stUp_same.1 hS)) with hk | ⟨p, _⟩
        · exact hk.app _
        · rw [p] at hw; cases hw
    · rw [hn x hxu] at hxa; cases hxa

/-- A go STATEMENT of the holder's: the child c is loose, with places s that stand still. -/
theorem Tr.hire (H : Tr h Lo St t) {c : Nat} (hc : ∀ g, Lo g → g ≠ c) (hd : Deaf t h = 0) (hc0 : Deaf t c = 0) (s : Loc → Prop) (hs : ∀ l, s l → l.isMemory = true) (fh : FuncId) (ph : String) (fc : FuncId) :
    Tr h (fun g => Lo g ∨ g = c) (stUp St c s) (t ++ #[{ g := h, fn := fh, pos := ph, act := .go c }, { g := c, fn := fc, pos := ph, act := .start }]) := by
  generalize hu : (#[{ g := h, fn := fh, pos := ph, act := .go c }, { g := c, fn := fc, pos := ph, act := .start }] : Trace) = u
  have hn : ∀ op ∈ u, op.act.touch? = none := by
    intro op hop
    subst hu
    simp only [List.mem_toArray, List.mem_cons, List.not_mem_nil, or_false] at hop
    rcases hop with rfl | rfl <;> rfl
  have hq : ∀ g, ∀ op ∈ u, ∀ d, deafStep g d op = d := by
    intro g op hop d
    subst hu
    simp only [List.mem_toArray, List.mem_cons, List.not_mem_nil, or_false] at hop
    rcases hop with rfl | rfl <;> rfl
  have e0 : (t ++ u)[t.size]? = some { g := h, fn := fh, pos := ph, act := .go c } := by subst hu; simp
  have e1 : (t ++ u)[t.size + 1]? = some { g := c, fn := fc, pos := ph, act := .start } := by subst hu; simp
  have edge : HappensBefore (t ++ u) t.size (t.size + 1) :=
    Relation.TransGen.single (.inr ⟨.spawn (act?_of e0) (act?_of e1) (g?_of e1), ⟨h, g?_of e0, by rw [deaf_old (Nat.le_refl _)]; exact hd⟩, ⟨c, g?_of e1, by rw [deaf_quiet (hq c) 1 (by subst hu; simp)]; exact hc0⟩⟩)
  refine ⟨fun said => noRace_appendMute (H.clean said) hn, fun i a ha hm => ?_, fun i a ha hw g hg hS => ?_, fun g hg => (Deaf_quiet (hq g)).trans (hg.elim (H.hears g) fun e => e ▸ hc0)⟩
  · obtain ⟨x, hx, hxa⟩ := touch_of ha
    rcases getElem?_append_cases hx with ⟨_, hx'⟩ | ⟨_, hxu⟩
    · exact (H.old hx' hxa hm).imp id fun ⟨p, g, q, hg, hS⟩ => ⟨p, g, q, .inl hg, (stUp_ne (hc g hg)).2 hS⟩
    · rw [hn x hxu] at hxa; cases hxa
  · obtain ⟨x, hx, hxa⟩ := touch_of ha
    rcases getElem?_append_cases hx with ⟨_, hx'⟩ | ⟨_, hxu⟩
    · by_cases e : g = c
      · subst e
        rcases H.known i a (by rw [touchAt_of hx']; exact hxa) (hs _ (stUp_same.1 hS)) with hk | ⟨p, _⟩
        · exact ⟨t.size + 1, _, e1, rfl, .inr ((hk.hb_new (Nat.le_refl _) e0 rfl).trans edge)⟩
        · rw [p] at hw; cases hw
      · exact (H.wrote i a (by rw [touchAt_of hx']; exact hxa) hw g (hg.resolve_right e) ((stUp_ne e).1 hS)).app u
    · rw [hn x hxu] at hxa; cases hxa
end
end Go.TJ
