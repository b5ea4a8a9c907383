/- Own theory, part 16: many goroutines, of whom one holds the token; each of the others leaves, or waits at a channel of its own (or is on its way there, reading places that stand still). The frame; what a bystander does; what the holder does. No condition. -/
import Derived.Test.YtkppboglffdmnaaTjT
namespace Go.TJ
open Go Go.Conc
open Go.ConcN (sumTo upd sumTo_upd upd_ne upd_same)

/-- What one waits for: its channel; what it reads on its way there; how it stands behind the receive. -/
structure Wait where
  c : Nat
  z : Value
  ok : Bool
  cells : Addr → Option Value
  B : Nat
  home : Goroutine → Prop

def Wait.K (W : Wait) (w : World) : Prop := ∀ a v, W.cells a = some v → hcell w.heap a = some v
def Wait.St (W : Wait) (l : Loc) : Prop := ∃ a, l = .cell a ∧ (W.cells a).isSome = true
def Wait.seat (W : Wait) : Seat := Seat.one W.c W.z W.ok W.home
abbrev Wait.At (P : Program) (W : Wait) (main : Bool) (g g₂ : Goroutine) : Prop := AtIn P main W.K W.St W.B W.seat g g₂

/-- One that does not hold. -/
def IdleW (P : Program) (T : Trace) (i n : Nat) (g : Goroutine) : Option Wait → Prop
  | none => 0 < i ∧ QuitsD P n (Deaf T i) g
  | some W => Sits P (i == 0) W.K W.St W.B W.seat n g

def stOf (I : Nat → Option Wait) (i : Nat) (l : Loc) : Prop := ∃ W, I i = some W ∧ W.St l
def loOf (h : Nat) (I : Nat → Option Wait) (i : Nat) : Prop := i ≠ h ∧ (I i).isSome = true

structure Fr (P : Program) (h : Nat) (I : Nat → Option Wait) (T : Trace) (gs : Array Goroutine) (w : World) (q : Nat → Nat) : Prop where
  idle : ∀ i g, i ≠ h → gs[i]? = some g → IdleW P T i (q i) g (I i)
  keep : ∀ i W, i ≠ h → I i = some W → W.K w
  chan : ∀ i W, i ≠ h → I i = some W → ∃ k, w.heap[W.c]? = some (.chan 0 #[] false k k false)
  inj : ∀ i j W V, i ≠ h → j ≠ h → I i = some W → I j = some V → W.c = V.c → i = j
  tr : Tr h (loOf h I) (stOf I) T
  room : ∀ i, i ≠ h → (I i).isSome = true → i < gs.size
  above : ∀ j, gs.size ≤ j → Deaf T j = 0

section
variable {P : Program} {h : Nat} {I : Nat → Option Wait} {T : Trace} {gs : Array Goroutine} {w : World} {q : Nat → Nat}

theorem seat_has {W : Wait} {c : Nat} : W.seat.has c ↔ c = W.c := Seat.one_has
theorem seat_wf (W : Wait) : W.seat.Wf := Seat.one_wf _ _ _ _
theorem seat_mem {W : Wait} {cc : CommCase} (hc : cc ∈ W.seat.cases) : cc = rcase W.c W.z := by
  simpa [Wait.seat, Seat.one] using hc

theorem Fr.awake (F : Fr P h I T gs w q) {a : Goroutine} (ha : gs[h]? = some a) (hs : a.status = .running ∨ a.status = .blocked) : ∀ g ∈ gs, awake g := by
  intro g hg
  obtain ⟨i, hi⟩ := Array.mem_iff_getElem?.1 hg
  by_cases e : i = h
  · subst e
    rw [ha] at hi
    obtain rfl := Option.some.inj hi
    exact awake_of (hs.imp id .inl)
  · have hid := F.idle i g e hi
    cases eW : I i with
    | none => rw [eW] at hid; exact awake_of (hid.2.status.elim .inl fun x => .inr (.inr x))
    | some W => rw [eW] at hid; exact awake_of ((Sits.status (F.keep i W e eW) hid).elim (fun x => .inl x.1) fun x => .inr (.inl x.1))

/-- Nobody else is roused by what one does. -/
theorem Fr.fixed (F : Fr P h I T gs w q) {i : Nat} {g : Goroutine} (hi : i ≠ h) (hg : gs[i]? = some g) : g.again w = g := by
  have hid := F.idle i g hi hg
  cases eW : I i with
  | none => rw [eW] at hid; exact again_of_running hid.2.status w
  | some W =>
    rw [eW] at hid
    refine Sits.again (F.keep i W hi eW) hid (seat_wf W) fun c hc => ?_
    obtain ⟨k, hk⟩ := F.chan i W hi eW
    exact ⟨_, _, _, _, _, by rw [seat_has.1 hc]; exact hk⟩

theorem Fr.noSend (F : Fr P h I T gs w q) {i : Nat} {g : Goroutine} (hi : i ≠ h) (hg : gs[i]? = some g) (c : Nat) : offersAt g c true = [] := by
  have hid := F.idle i g hi hg
  cases eW : I i with
  | none => rw [eW] at hid; exact offersAt_of_not_blocked (fun hb => by rcases hid.2.status with z | z <;> rw [z] at hb <;> cases hb) c true
  | some W =>
    rw [eW] at hid
    rcases hid with ⟨k, w₀, hq, hg'⟩ | ⟨_, _, g₂, rfl, _⟩
    · have hr := (Sits.status (F.keep i W hi eW) (.inl ⟨k, w₀, hq, hg'⟩)).elim (·.1) (fun z => by omega)
      exact offersAt_of_not_blocked (by rw [hr]; simp) c true
    · exact offersAt_parked_sends (fun cc hcc => by rw [seat_mem hcc]; rfl) _

theorem Fr.noRecv (F : Fr P h I T gs w q) {i : Nat} {g : Goroutine} (hi : i ≠ h) (hg : gs[i]? = some g) {c : Nat} (hc : ∀ W, I i = some W → W.c ≠ c) : offersAt g c false = [] := by
  have hid := F.idle i g hi hg
  cases eW : I i with
  | none => rw [eW] at hid; exact offersAt_of_not_blocked (fun hb => by rcases hid.2.status with z | z <;> rw [z] at hb <;> cases hb) c false
  | some W =>
    rw [eW] at hid
    rcases hid with ⟨k, w₀, hq, hg'⟩ | ⟨_, _, g₂, rfl, _⟩
    · have hr := (Sits.status (F.keep i W hi eW) (.inl ⟨k, w₀, hq, hg'⟩)).elim (·.1) (fun z => by omega)
      exact offersAt_of_not_blocked (by rw [hr]; simp) c false
    · refine offersAt_parked_off (fun cc hcc e => ?_) _
      rw [seat_mem hcc] at e
      simp only [rcase, Value.chan.injEq, Option.some.injEq] at e
      exact hc W eW e

/-- The world is another in the count of draws alone. -/
theorem Fr.at (F : Fr P h I T gs w q) (d : Nat) : Fr P h I T gs (w.at d) q := ⟨F.idle, F.keep, F.chan, F.inj, F.tr, F.room, F.above⟩

/-- One bystander's record is laid anew. -/
theorem Fr.put (F : Fr P h I T gs w q) {i n' : Nat} {g' : Goroutine} {ops : Array MemOp} {gs' : Array Goroutine} (hlt : i < gs.size) (hsz : gs'.size = gs.size) (hother : ∀ x, x ≠ i → gs'[x]? = gs[x]?) (hself : gs'[i]? = some g')
    (hops : ∀ op ∈ ops, op.g = i) (hidle : IdleW P (T ++ ops) i n' g' (I i)) (htr : Tr h (loOf h I) (stOf I) (T ++ ops)) : Fr P h I (T ++ ops) gs' w (upd q i n') := by
  refine ⟨fun x y hx hy => ?_, F.keep, F.chan, F.inj, htr, hsz ▸ F.room, fun j hj => ?_⟩
  · by_cases e : x = i
    · subst e
      rw [hself] at hy
      obtain rfl := Option.some.inj hy
      rw [upd_same]; exact hidle
    · rw [hother x e] at hy
      rw [upd_ne q n' e]
      have hid := F.idle x y hx hy
      cases eW : I x with
      | none => rw [eW] at hid; exact ⟨hid.1, by rw [Deaf_other T (fun z => e z.symm) ops hops]; exact hid.2⟩
      | some W => rw [eW] at hid; exact hid
  · rw [Deaf_other T (g' := i) (by omega) ops hops]
    exact F.above j (by omega)

/-- A BYSTANDER's STEP. -/
theorem Fr.by_step (F : Fr P h I T gs w q) {i : Nat} {g gh : Goroutine} {sl : Option (Nat × Nat)} (hi : gs[i]? = some g) (hih : i ≠ h) (hrun : g.status = .running) (hgh : gs[h]? = some gh) (hA : gh.again w = gh)
    (hO : ∀ W g₂, I i = some W → W.At P (i == 0) g g₂ → offersAt gh W.c true = []) :
    ∃ (gs' : Array Goroutine) (ops : Array MemOp) (q' : Nat → Nat), runT P (crowd gs w sl) i = (.next (crowd gs' w sl), ops) ∧ gs'.size = gs.size ∧ gs'[h]? = some gh ∧ (∀ x, x ≠ i → q' x = q x) ∧ (∀ W, I i = some W → q' i = 0 → ∃ g₂, W.At P (i == 0) g g₂) ∧
      Fr P h I (T ++ ops) gs' w q' ∧ sumTo gs.size q' < sumTo gs.size q ∧ Deaf (T ++ ops) h = Deaf T h := by
  have hlt : i < gs.size := (Array.getElem?_eq_some_iff.1 hi).1
  have hfix : ∀ (a a' : Goroutine) (x : Nat) (y : Goroutine), gs[x]? = some y → woken P a a' w y = y := fun a a' x y hy => woken_of_again (by
    by_cases hx : x = h
    · subst hx; rw [hgh] at hy; obtain rfl := Option.some.inj hy; exact hA
    · exact F.fixed hx hy)
  have harr : ∀ (a' g' : Goroutine) (x : Nat), x ≠ i → ((gs.map (woken P g a' w)).setIfInBounds i g')[x]? = gs[x]? := by
    intro a' g' x hx
    rw [Array.getElem?_setIfInBounds_ne (fun e => hx e.symm), Array.getElem?_map]
    cases e : gs[x]? with
    | none => rfl
    | some y => simp [hfix g a' x y e]
  have hself : ∀ (a' g' : Goroutine), ((gs.map (woken P g a' w)).setIfInBounds i g')[i]? = some g' := fun a' g' => Array.getElem?_setIfInBounds_self_of_lt (by simpa using hlt)
  have hsum : ∀ k, q i = k + 1 → ∀ m, m ≤ k → sumTo gs.size (upd q i m) < sumTo gs.size q := by
    intro k hqi m hm
    have h2 : sumTo gs.size (upd q i m) + (k + 1) = sumTo gs.size q + m := by
      have := sumTo_upd q m id hlt
      simpa [hqi] using this
    omega
  have hid := F.idle i g hih hi
  cases e : I i with
  | none =>
    rw [e] at hid
    obtain ⟨hpos, hq⟩ := hid
    have hi0 : (i == 0) = false := by simp; omega
    cases hqi : q i with
    | zero => rw [hqi] at hq; rw [hq.1] at hrun; cases hrun
    | succ k =>
      rw [hqi] at hq
      rcases hq with ⟨hf, _⟩ | ⟨_, g', es, hm, hstp, hq'⟩
      · rw [hf] at hrun; cases hrun
      have hops : ∀ op ∈ MemOp.ofEvents i g.frame.fn g.frame.place es, op.g = i := fun op hop => by obtain ⟨e, _, rfl⟩ := Go.Conc.mem_ofEvents hop; rfl
      refine ⟨_, _, upd q i k, runT_crowd_go (sl := sl) hi (by rw [hi0]; exact hstp w), by simp, (harr _ _ h (Ne.symm hih)).trans hgh, fun x hx => upd_ne q k hx, fun s hs _ => (by cases hs), ?_, hsum k hqi k (Nat.le_refl _), Deaf_other T hih _ hops⟩
      refine F.put hlt (by simp) (harr _ _) (hself _ _) hops (by rw [e]; exact ⟨hpos, by rw [Deaf_own]; exact hq'⟩) ?_
      refine F.tr.mute (fun op hop => by obtain ⟨e, he, rfl⟩ := Go.Conc.mem_ofEvents hop; exact touch_mute (hm e he)) fun x hx => ?_
      have hxi : i ≠ x := fun ex => by subst ex; have := hx.2; rw [e] at this; cases this
      exact Deaf_other T hxi _ hops
  | some W =>
    rw [e] at hid
    have hK := F.keep i W hih e
    have hLo : loOf h I i := ⟨hih, by rw [e]; rfl⟩
    obtain ⟨k, w₀, hqi, hg⟩ : ∃ k w₀, q i = k + 1 ∧ Goes P (i == 0) (RK W.K) (DS W.St W.B) (fun g _ => ∃ g₂, W.At P (i == 0) g g₂) k g w₀ := by
      rcases hid with h | ⟨_, _, g₂, rfl, _⟩
      · exact h
      · cases hrun
    have hcase : (∃ g₂, W.At P (i == 0) g g₂) ∨ ∃ k' g' es, k = k' + 1 ∧ stepG P (i == 0) g w = .go g' w es ∧ (∀ e ∈ es, EvC W.St W.B e) ∧ Goes P (i == 0) (RK W.K) (DS W.St W.B) (fun g _ => ∃ g₂, W.At P (i == 0) g g₂) k' g' w := by
      cases k with
      | zero => exact .inl (hg w hK)
      | succ k' =>
        rcases hg with hstop | ⟨_, hstep⟩
        · exact .inl (hstop w hK)
        · have hs := hstep w hK
          cases hgo : stepG P (i == 0) g w with
          | go g' w' es =>
            rw [hgo, goes_go] at hs
            obtain ⟨⟨rfl, hes⟩, hG'⟩ := hs
            exact .inr ⟨k', g', es, rfl, rfl, hes, hG'⟩
          | _ => rw [hgo] at hs; exact hs.elim
    have hread : ∀ {fn : FuncId} {pos : String} {es : Array Event}, (∀ e ∈ es, EvC W.St W.B e) → Tr h (loOf h I) (stOf I) (T ++ MemOp.ofEvents i fn pos es) ∧ ∀ op ∈ MemOp.ofEvents i fn pos es, op.g = i := by
      intro fn pos es hes
      obtain ⟨hops, hr, _, hd⟩ := evC_ops (i := i) (fn := fn) (pos := pos) hes
      exact ⟨F.tr.read hLo hops (fun op hop b hb => ⟨(hr op hop b hb).1, W, e, (hr op hop b hb).2⟩) (hd T), hops⟩
    rcases hcase with ⟨g₂, hat⟩ | ⟨k', g', es, rfl, hgo, hes, hG'⟩
    · obtain ⟨_, _, _, _, _, es, hes, hstp⟩ := id hat
      obtain ⟨htr, hops⟩ := hread (fn := g.frame.fn) (pos := g.frame.place) hes
      have hw : ∀ cc ∈ W.seat.cases, NoWays w (gs.setIfInBounds i ph) cc := by
        intro cc hcc
        rw [seat_mem hcc]
        obtain ⟨kk, hc⟩ := F.chan i W hih e
        refine ways_recv_none hc (partners_nil fun x y hy => ?_)
        rcases getElem?_stand gs i x y hy with ⟨_, rfl⟩ | ⟨hx, hy'⟩
        · exact offersAt_ph _ _
        · by_cases hS : x = h
          · subst hS; rw [hgh] at hy'; obtain rfl := Option.some.inj hy'; exact hO W g₂ e hat
          · exact F.noSend hS hy' _
      refine ⟨_, _, upd q i 0, crowd_waits (sl := sl) hi (hstp w hK) hw, by simp, by rw [Array.getElem?_setIfInBounds_ne hih]; exact hgh, fun x hx => upd_ne q 0 hx, fun W' hW' _ => (by obtain rfl := Option.some.inj hW'; exact ⟨g₂, hat⟩), ?_, hsum k hqi 0 (Nat.zero_le _), Deaf_other T hih _ hops⟩
      exact F.put hlt (by simp) (fun x hx => Array.getElem?_setIfInBounds_ne (fun z => hx z.symm)) (Array.getElem?_setIfInBounds_self_of_lt hlt) hops (by rw [e]; exact .inr ⟨rfl, g, g₂, rfl, hat⟩) htr
    · obtain ⟨htr, hops⟩ := hread (fn := g.frame.fn) (pos := g.frame.place) hes
      refine ⟨_, _, upd q i (k' + 1), runT_crowd_go (sl := sl) hi hgo, by simp, (harr _ _ h (Ne.symm hih)).trans hgh, fun x hx => upd_ne q _ hx, fun s' _ h0 => (by rw [upd_same] at h0; omega), ?_, hsum _ hqi _ (Nat.le_refl _), Deaf_other T hih _ hops⟩
      exact F.put hlt (by simp) (harr _ _) (hself _ _) hops (by rw [e]; exact .inl ⟨k', w, rfl, hG'⟩) htr

/-- The holder, running, is picked in the end. -/
theorem Fr.picked (F : Fr P h I T gs w q) {a : Goroutine} {sl : Option (Nat × Nat)} (ha : gs[h]? = some a) (hrun : a.status = .running) :
    ∃ (N : Nat) (gs' : Array Goroutine) (d d' : Nat) (sl' sl'' : Option (Nat × Nat)) (T' : Trace) (q' : Nat → Nat), runNT P N (crowd gs w sl) T = (.next (crowd gs' (w.at d) sl'), T') ∧
      stepT P (crowd gs' (w.at d) sl') = runT P (crowd gs' (w.at d') sl'') h ∧ gs'.size = gs.size ∧ gs'[h]? = some a ∧ Fr P h I T' gs' (w.at d') q' ∧ Deaf T' h = Deaf T h := by
  obtain ⟨N, m', T', hr, gs', d, d', sl', sl'', q', rfl, hst, hsz, ha', F', hd⟩ := runs_until (P := P)
    (Inv := fun μ m t => ∃ gs₁ d sl₁ q₁, m = crowd gs₁ (w.at d) sl₁ ∧ gs₁.size = gs.size ∧ gs₁[h]? = some a ∧ Fr P h I t gs₁ (w.at d) q₁ ∧ Deaf t h = Deaf T h ∧ μ = sumTo gs₁.size q₁)
    (Done := fun m t => ∃ gs₁ d d' sl₁ sl₂ q₁, m = crowd gs₁ (w.at d) sl₁ ∧ stepT P (crowd gs₁ (w.at d) sl₁) = runT P (crowd gs₁ (w.at d') sl₂) h ∧ gs₁.size = gs.size ∧ gs₁[h]? = some a ∧ Fr P h I t gs₁ (w.at d') q₁ ∧ Deaf t h = Deaf T h)
    (fun μ m t ⟨gs₁, d, sl₁, q₁, hm, hsz, ha₁, F₁, hd, hμ⟩ => by
      subst hm
      obtain ⟨i, g, d', sl', hi, hg, hst⟩ := crowd_pick (P := P) (w := w.at d) (sl := sl₁) (F₁.awake ha₁ (.inl hrun)) ⟨h, a, ha₁, hrun⟩
      have Fd : Fr P h I t gs₁ (w.at d') q₁ := F₁.at d'
      by_cases e : i = h
      · subst e
        exact .inl ⟨gs₁, d, d', sl₁, sl', q₁, rfl, hst, hsz, ha₁, Fd, hd⟩
      · obtain ⟨gs', ops, q', hrt, hsz', hh, _, _, F', hlt, hd'⟩ := Fd.by_step (sl := sl') hi e hg ha₁ (again_of_running (.inl hrun) _) (fun _ _ _ _ => offersAt_of_not_blocked (by rw [hrun]; simp) _ _)
        exact .inr ⟨_, _, sumTo gs'.size q', by rw [hst]; exact hrt, by rw [hsz']; omega, gs', d', sl', q', rfl, hsz'.trans hsz, hh, F', hd'.trans hd, rfl⟩)
    _ _ T ⟨gs, w.drawn, sl, q, rfl, rfl, ha, F, rfl, rfl⟩
  exact ⟨N, gs', d, d', sl', sl'', T', q', hr, hst, hsz, ha', F', hd⟩
end
end Go.TJ
