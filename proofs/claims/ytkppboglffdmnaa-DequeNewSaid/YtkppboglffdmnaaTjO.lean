/- Own theory, part 18: the rules of a company in which goroutine 0 starts others and hands them the token, and they hand it back ('Proto'); what each does, in 'Runs', carried to the machine. No condition. -/
import Derived.Test.YtkppboglffdmnaaTjN
namespace Go.TJ
open Go Go.Conc
open Go.ConcN (sumTo upd sumTo_upd upd_ne upd_same)
variable {Γ : Type}

/-- What is agreed on: by a ghost's value: how many there are; at which channel who waits; what stands still for whom; what others may do to it; what holds where one is handed the token. -/
structure Proto (Γ : Type) where
  num : Γ → Nat
  ch : Γ → Nat → Option Nat
  cells : Γ → Nat → Addr → Option Value
  R : Nat → Γ → Γ → Prop
  Pass : Nat → Γ → Hp → Prop

structure Proto.Ok (X : Proto Γ) : Prop where
  trans : ∀ i a b c, X.R i a b → X.R i b c → X.R i a c
  pass : ∀ i γ h c k, X.ch γ i = some c → X.Pass i γ h → h[c]? = some (.chan 0 #[] false k k false) → X.Pass i γ (h.setIfInBounds c (.chan 0 #[] false (k + 1) (k + 1) false))

/-- What is handed over. -/
abbrev tok : Value := .agg #[]

def Proto.still (X : Proto Γ) (i : Nat) (γ : Γ) (a : Addr) : Prop := ∃ j, j ≠ i ∧ j < X.num γ ∧ (X.ch γ j).isSome = true ∧ (X.cells γ j a).isSome = true

/-- It stands at a send on channel c. -/
def AtSend (P : Program) (main : Bool) (c : Nat) (g a₂ : Goroutine) (h : Hp) : Prop :=
  g.status = .running ∧ ∃ z', ∀ w : World, w.heap = h → stepG P main g w = .comm a₂ #[scase c tok z'] true .send w #[]

/-- It waits, or will, at its channel; where it is served there, home holds. -/
def SitsAt (P : Program) (X : Proto Γ) (i : Nat) (γ : Γ) (h : Hp) (g : Goroutine) (Y : Goroutine → Hp → Ix Γ → Prop) : Prop :=
  ∃ c, X.ch γ i = some c ∧ (∀ a v, X.cells γ i a = some v → hcell h a = some v) ∧ (∃ k, h[c]? = some (.chan 0 #[] false k k false)) ∧ (∀ x, x ≠ i → x < X.num γ → X.ch γ x ≠ some c) ∧
    ∃ z ok B n, ∀ W : Wait, W = ⟨c, z, ok, X.cells γ i, B, fun g₂ => ∀ γ₂ h₂, X.R i γ γ₂ → X.Pass i γ₂ h₂ → Y (Go.Conc.served g₂ (recvd ok tok true)) h₂ ⟨0, γ₂⟩⟩ → Sits P (i == 0) W.K W.St W.B W.seat n g

/-- The others are as they were. -/
def Others (X : Proto Γ) (i : Nat) (γ γ₁ : Γ) : Prop := ∀ x, x ≠ i → x < X.num γ → X.ch γ₁ x = X.ch γ x ∧ X.cells γ₁ x = X.cells γ x ∧ X.R x γ γ₁

/-- i hands the token to j; behind it, After. -/
def Hands (P : Program) (X : Proto Γ) (i j : Nat) (After : Γ → Goroutine → Prop) (g : Goroutine) (h : Hp) (δ : Ix Γ) : Prop :=
  δ.d = 0 ∧ ∃ γ₁ c a₂, j ≠ i ∧ j < X.num δ.g ∧ X.ch δ.g j = some c ∧ AtSend P (i == 0) c g a₂ h ∧ X.num γ₁ = X.num δ.g ∧ Others X i δ.g γ₁ ∧ X.Pass j γ₁ h ∧ After γ₁ (Go.Conc.served a₂ undef)

/-- The situation of one that was started. -/
def SitT (P : Program) (X : Proto Γ) (i : Nat) : Sit Γ where
  still := X.still i
  yld g h δ Y := Hands P X i 0 (fun γ₁ a => SitsAt P X i γ₁ h a Y) g h δ

/-- Its end: it hands the token to goroutine 0, and leaves. -/
def EndT (P : Program) (X : Proto Γ) (i : Nat) (g : Goroutine) (h : Hp) (δ : Ix Γ) : Prop :=
  Hands P X i 0 (fun γ₁ a => X.ch γ₁ i = none ∧ ∃ n, QuitsD P n 0 a) g h δ

/-- Goroutine 0 starts another one. -/
def Hires (P : Program) (X : Proto Γ) (Y : Goroutine → Hp → Ix Γ → Prop) (g : Goroutine) (h : Hp) (δ : Ix Γ) : Prop :=
  δ.d = 0 ∧ g.status = .running ∧ ∃ γ₁ a' child, (∀ w : World, w.heap = h → stepG P true g w = .spawn a' child w #[]) ∧ X.num γ₁ = X.num δ.g + 1 ∧ Others X 0 δ.g γ₁ ∧
    SitsAt P X (X.num δ.g) γ₁ h child (Runs P false (SitT P X (X.num δ.g)) (EndT P X (X.num δ.g))) ∧ Y a' h ⟨0, γ₁⟩

/-- The situation of goroutine 0. -/
def SitM (P : Program) (X : Proto Γ) : Sit Γ where
  still := X.still 0
  yld g h δ Y := (∃ j, Hands P X 0 j (fun γ₁ a => SitsAt P X 0 γ₁ h a Y) g h δ) ∨ Hires P X Y g h δ

/-- The machine's frame is as the ghost says. -/
structure Lk (P : Program) (X : Proto Γ) (h : Nat) (γ : Γ) (I : Nat → Option Wait) (n : Nat) : Prop where
  num : X.num γ = n
  ch : ∀ i, i ≠ h → i < n → X.ch γ i = (I i).map (·.c)
  cells : ∀ i W, i ≠ h → I i = some W → W.cells = X.cells γ i
  home : ∀ i W, i ≠ h → i ≠ 0 → I i = some W → ∀ g₂, W.home g₂ → ∀ γ₂ h₂, X.R i γ γ₂ → X.Pass i γ₂ h₂ → Runs P false (SitT P X i) (EndT P X i) (Go.Conc.served g₂ (recvd W.ok tok true)) h₂ ⟨0, γ₂⟩

section
variable {P : Program} {X : Proto Γ} {h : Nat} {I : Nat → Option Wait} {T : Trace} {gs : Array Goroutine} {w : World} {q : Nat → Nat} {γ : Γ}

theorem HpOk.anti {S S' : Addr → Prop} {a b : Hp} (x : HpOk S a b) (hs : ∀ l, S' l → S l) : HpOk S' a b := ⟨fun l v hl => x.still l v (hs l hl), x.chan, x.size, x.froz⟩
theorem EvOk.anti {S S' : Addr → Prop} {e : Event} (x : EvOk S e) (hs : ∀ l, S' l → S l) : EvOk S' e := ⟨fun l h1 h2 h3 => x.1 l h1 h2 (hs l h3), x.2⟩

theorem Lk.still (L : Lk P X h γ I gs.size) (F : Fr P h I T gs w q) {a : Addr} (ha : stillOf h I a) : X.still h γ a := by
  obtain ⟨i, W, hi, e, hs⟩ := ha
  have hlt : i < gs.size := F.room i hi (by rw [e]; rfl)
  exact ⟨i, hi, by rw [L.num]; exact hlt, by rw [L.ch i hi hlt, e]; rfl, by rw [← L.cells i W hi e]; exact hs⟩

/-- Behind a step of the others', what is linked. -/
theorem Lk.hand (hX : X.Ok) {γ₁ : Γ} {i j n : Nat} (L : Lk P X i γ I n) (hn : X.num γ₁ = X.num γ) (ho : Others X i γ γ₁) {W? : Option Wait} (room : ∀ x, x ≠ i → (I x).isSome = true → x < n)
    (hs : match W? with
      | none => X.ch γ₁ i = none
      | some W => X.ch γ₁ i = some W.c ∧ W.cells = X.cells γ₁ i ∧ (i ≠ 0 → ∀ g₂, W.home g₂ → ∀ γ₂ h₂, X.R i γ₁ γ₂ → X.Pass i γ₂ h₂ → Runs P false (SitT P X i) (EndT P X i) (Go.Conc.served g₂ (recvd W.ok tok true)) h₂ ⟨0, γ₂⟩)) :
    Lk P X j γ₁ (upd I i W?) n := by
  have hI : ∀ x, x ≠ i → upd I i W? x = I x := fun x hx => upd_ne I _ hx
  refine ⟨hn.trans L.num, fun x hx hlt => ?_, fun x W hx e => ?_, fun x W hx h0 e => ?_⟩
  · by_cases ex : x = i
    · subst ex
      rw [upd_same]
      cases W? with
      | none => exact hs
      | some W => exact hs.1
    · rw [hI x ex, (ho x ex (by rw [L.num]; exact hlt)).1]
      exact L.ch x ex hlt
  · by_cases ex : x = i
    · subst ex
      rw [upd_same] at e
      subst e
      exact hs.2.1
    · rw [hI x ex] at e
      have hlt := room x ex (by rw [e]; rfl)
      rw [(ho x ex (by rw [L.num]; exact hlt)).2.1]
      exact L.cells x W ex e
  · by_cases ex : x = i
    · subst ex
      rw [upd_same] at e
      subst e
      exact hs.2.2 h0
    · rw [hI x ex] at e
      have hlt := room x ex (by rw [e]; rfl)
      intro g₂ hg γ₂ h₂ hr hp
      exact L.home x W ex h0 e g₂ hg γ₂ h₂ (hX.trans _ _ _ _ (ho x ex (by rw [L.num]; exact hlt)).2.2 hr) hp

theorem same_at (w : World) (d : Nat) : Same w (w.at d) := ⟨rfl, rfl, rfl⟩
theorem same_chan (w : World) (c cap : Nat) (buf : Array Value) (cl : Bool) (s r : Nat) (tm : Bool) : Same w (w.setChan c cap buf cl s r tm) := ⟨rfl, rfl, rfl⟩

/-- A handing over, in the machine. -/
theorem hands_run (hX : X.Ok) {i j : Nat} {g : Goroutine} {δ : Ix Γ} {After : Γ → Goroutine → Prop} (Q : Γ → Option Wait → Prop) {sl : Option (Nat × Nat)} (F : Fr P i I T gs w q) (L : Lk P X i δ.g I gs.size) (hg : gs[i]? = some g) (hd : Deaf T i = δ.d) (H : Hands P X i j After g w.heap δ)
    (hW : ∀ γ₁ a, X.num γ₁ = X.num δ.g → After γ₁ a → ∃ W? : Option Wait, Q γ₁ W? ∧ (match W? with
      | none => 0 < i ∧ ∃ n, QuitsD P n 0 a
      | some W => (∀ a v, W.cells a = some v → hcell w.heap a = some v) ∧ (∃ k, w.heap[W.c]? = some (.chan 0 #[] false k k false)) ∧ (∀ x, x ≠ i → x < X.num γ₁ → X.ch γ₁ x ≠ some W.c) ∧ ∃ n, Sits P (i == 0) W.K W.St W.B W.seat n a) ∧
      (match W? with
      | none => X.ch γ₁ i = none
      | some W => X.ch γ₁ i = some W.c ∧ W.cells = X.cells γ₁ i ∧ (i ≠ 0 → ∀ g₂, W.home g₂ → ∀ γ₂ h₂, X.R i γ₁ γ₂ → X.Pass i γ₂ h₂ → Runs P false (SitT P X i) (EndT P X i) (Go.Conc.served g₂ (recvd W.ok tok true)) h₂ ⟨0, γ₂⟩))) :
    ∃ V, I j = some V ∧ ∃ (N : Nat) (gs' : Array Goroutine) (g₂ : Goroutine) (w' : World) (sl' : Option (Nat × Nat)) (T' : Trace) (q' : Nat → Nat) (γ₁ : Γ) (W? : Option Wait),
      runNT P N (crowd gs w sl) T = (.next (crowd gs' w' sl'), T') ∧ gs'.size = gs.size ∧ gs'[j]? = some (Go.Conc.served g₂ (recvd V.ok tok true)) ∧ V.home g₂ ∧ Fr P j (upd I i W?) T' gs' w' q' ∧ Lk P X j γ₁ (upd I i W?) gs'.size ∧ Deaf T' j = 0 ∧ Same w w' ∧
      X.Pass j γ₁ w'.heap ∧ Q γ₁ W? ∧ Others X i δ.g γ₁ ∧ j ≠ i ∧ j < gs.size := by
  obtain ⟨hd0, γ₁, c, a₂, hji, hjn, hcj, ⟨hrun, z', hst⟩, hnum, hoth, hpass, haft⟩ := H
  rw [L.num] at hjn
  have e := L.ch j hji hjn
  rw [hcj] at e
  obtain ⟨V, eV, rfl⟩ : ∃ V, I j = some V ∧ V.c = c := by
    cases h : I j with
    | none => rw [h] at e; cases e
    | some V => rw [h] at e; exact ⟨V, rfl, (Option.some.inj e).symm⟩
  obtain ⟨W?, hQ, h1, h2⟩ := hW γ₁ _ hnum haft
  have hA : AfterW P i I w.heap (Go.Conc.served a₂ undef) W? := by
    cases W? with
    | none => exact h1
    | some W =>
      refine ⟨h1.1, h1.2.1, fun x V' hx eV' => ?_, h1.2.2.2⟩
      have hlt := F.room x hx (by rw [eV']; rfl)
      have h3 := h1.2.2.1 x hx (by rw [hnum, L.num]; exact hlt)
      rw [(hoth x hx (by rw [L.num]; exact hlt)).1, L.ch x hx hlt, eV'] at h3
      exact fun ec => h3 (by simp [ec])
  obtain ⟨N, gs', g₂, d, k, sl', T', q', hr, hsz, hJ, hhome, hc, hF, hdj⟩ := F.give (sl := sl) hji hjn eV (hd.trans hd0) hg hrun (fun d => hst _ rfl) W? hA
  exact ⟨V, eV, N, gs', g₂, _, sl', T', q', γ₁, W?, hr, hsz, hJ, hhome, hF, by rw [hsz]; exact L.hand hX hnum hoth F.room h2, hdj, (same_at w d).trans (same_chan _ _ _ _ _ _ _ _), hX.pass _ _ _ _ _ ((hoth j hji (by rw [L.num]; exact hjn)).1.trans hcj) hpass hc, hQ, hoth, hji, hjn⟩

/-- A goroutine's own step, in the machine. -/
theorem step_run {main : Bool} {i : Nat} (hm : main = (i == 0)) {g : Goroutine} {δ : Ix Γ} {S : Sit Γ} (hS : S.still = X.still i) {Y : Goroutine → Hp → Ix Γ → Prop} {sl : Option (Nat × Nat)} (F : Fr P i I T gs w q) (L : Lk P X i δ.g I gs.size) (hg : gs[i]? = some g) (hd : Deaf T i = δ.d)
    (H : StepTo P main S Y g w.heap δ) :
    ∃ (N : Nat) (gs' : Array Goroutine) (g' : Goroutine) (w' : World) (sl' : Option (Nat × Nat)) (T' : Trace) (q' : Nat → Nat) (δ' : Ix Γ), runNT P N (crowd gs w sl) T = (.next (crowd gs' w' sl'), T') ∧ gs'.size = gs.size ∧ gs'[i]? = some g' ∧ Fr P i I T' gs' w' q' ∧ δ'.g = δ.g ∧
      Deaf T' i = δ'.d ∧ Same w w' ∧ Y g' w'.heap δ' := by
  subst hm
  obtain ⟨hrun, hst⟩ := H
  obtain ⟨N, gs₁, d, d', sl₁, sl₂, T₁, q₁, hr, hstp, hsz, ha₁, F₁, hd₁⟩ := F.picked (sl := sl) hg hrun
  obtain ⟨g', w', es, h1, h2, h3, h4, h5⟩ := hst (w.at d') rfl
  have hsub : ∀ l, stillOf i I l → S.still δ.g l := fun l hl => by rw [hS]; exact L.still F hl
  obtain ⟨gs', ops, hrt, hsz', hg', F', hd'⟩ := F₁.own (sl := sl₂) ha₁ h1 (h3.anti hsub) (fun e he => (h4 e he).anti hsub)
  exact ⟨N + 1, gs', g', w', sl₂, _, q₁, deafI δ es, runNT_succ_of hr (hstp.trans hrt), hsz'.trans hsz, hg', F', rfl, by rw [hd', hd₁, hd]; rfl, (same_at w d').trans h2, h5⟩

/-- THE PHASE OF ONE THAT WAS STARTED: till goroutine 0 is handed the token. -/
theorem phase (hX : X.Ok) {i : Nat} (hi : i ≠ 0) {g : Goroutine} {hp : Hp} {δ : Ix Γ} (H : Runs P false (SitT P X i) (EndT P X i) g hp δ) :
    ∀ {I : Nat → Option Wait} {T : Trace} {gs : Array Goroutine} {w : World} {q : Nat → Nat} {sl : Option (Nat × Nat)}, w.heap = hp → Fr P i I T gs w q → Lk P X i δ.g I gs.size → gs[i]? = some g → Deaf T i = δ.d →
    ∃ V, I 0 = some V ∧ ∃ (N : Nat) (gs' : Array Goroutine) (g₂ : Goroutine) (w' : World) (sl' : Option (Nat × Nat)) (T' : Trace) (q' : Nat → Nat) (γ₁ : Γ) (I' : Nat → Option Wait),
      runNT P N (crowd gs w sl) T = (.next (crowd gs' w' sl'), T') ∧ gs'.size = gs.size ∧ gs'[0]? = some (Go.Conc.served g₂ (recvd V.ok tok true)) ∧ V.home g₂ ∧ Fr P 0 I' T' gs' w' q' ∧ Lk P X 0 γ₁ I' gs'.size ∧ Deaf T' 0 = 0 ∧ Same w w' ∧ X.Pass 0 γ₁ w'.heap ∧ X.R 0 δ.g γ₁ := by
  have hmain : false = (i == 0) := by simpa using hi
  induction H with
  | stop hs =>
    intro I T gs w q sl hw F L hg hd
    subst hw
    have h0 : 0 < gs.size := Nat.lt_of_le_of_lt (Nat.zero_le _) (Array.getElem?_eq_some_iff.1 hg).1
    obtain ⟨V, eV, N, gs', g₂, w', sl', T', q', γ₁, W?, h1, h2, h3, h4, h5, h6, h7, h8, h9, h10, h11, h12, h13⟩ := hands_run hX (fun _ _ => True) (sl := sl) F L hg hd hs fun γ₁ a _ hx => ⟨none, trivial, ⟨Nat.pos_of_ne_zero hi, hx.2⟩, hx.1⟩
    exact ⟨V, eV, N, gs', g₂, w', sl', T', q', γ₁, _, h1, h2, h3, h4, h5, h6, h7, h8, h9, (h11 0 (Ne.symm hi) (by rw [L.num]; exact h0)).2.2⟩
  | step Y _ hst ih =>
    intro I T gs w q sl hw F L hg hd
    subst hw
    obtain ⟨N, gs', g', w', sl', T', q', δ', h1, h2, h3, h4, h5, h6, h7, h8⟩ := step_run hmain rfl (sl := sl) F L hg hd hst
    obtain ⟨V, eV, N₂, gs₂, g₂, w₂, sl₂, T₂, q₂, γ₁, I', k1, k2, k3, k4, k5, k6, k7, k8, k9, k10⟩ := ih _ _ _ h8 (sl := sl') rfl h4 (by rw [h5, h2]; exact L) h3 h6
    exact ⟨V, eV, N + N₂, gs₂, g₂, w₂, sl₂, T₂, q₂, γ₁, I', runNT_then h1 k1, k2.trans h2, k3, k4, k5, k6, k7, h7.trans k8, k9, h5 ▸ k10⟩
  | hands Y hY hy _ =>
    intro I T gs w q sl hw F L hg hd
    subst hw
    have h0 : 0 < gs.size := Nat.lt_of_le_of_lt (Nat.zero_le _) (Array.getElem?_eq_some_iff.1 hg).1
    obtain ⟨V, eV, N, gs', g₂, w', sl', T', q', γ₁, W?, h1, h2, h3, h4, h5, h6, h7, h8, h9, h10, h11, h12, h13⟩ := hands_run hX (fun _ _ => True) (sl := sl) F L hg hd (show Hands P X i 0 (fun γ₁ a => SitsAt P X i γ₁ w.heap a Y) _ _ _ from hy) fun γ₁ a _ ⟨c, e1, e2, e3, e4, z, ok, B, n, e5⟩ =>
      ⟨some _, trivial, ⟨e2, e3, e4, n, e5 _ rfl⟩, e1, rfl, fun _ g₂ hh γ₂ h₂ hr hp => hY _ _ _ (hh γ₂ h₂ hr hp)⟩
    exact ⟨V, eV, N, gs', g₂, w', sl', T', q', γ₁, _, h1, h2, h3, h4, h5, h6, h7, h8, h9, (h11 0 (Ne.symm hi) (by rw [L.num]; exact h0)).2.2⟩

/-- GOROUTINE 0's RUN, with all that it starts and hands the token to. -/
theorem company (hX : X.Ok) {Stop : Goroutine → Hp → Ix Γ → Prop} {g : Goroutine} {hp : Hp} {δ : Ix Γ} (H : Runs P true (SitM P X) Stop g hp δ) :
    ∀ {I : Nat → Option Wait} {T : Trace} {gs : Array Goroutine} {w : World} {q : Nat → Nat} {sl : Option (Nat × Nat)}, w.heap = hp → Fr P 0 I T gs w q → Lk P X 0 δ.g I gs.size → gs[0]? = some g → Deaf T 0 = δ.d →
    ∃ (N : Nat) (gs' : Array Goroutine) (g' : Goroutine) (w' : World) (sl' : Option (Nat × Nat)) (T' : Trace) (q' : Nat → Nat) (δ' : Ix Γ) (I' : Nat → Option Wait),
      runNT P N (crowd gs w sl) T = (.next (crowd gs' w' sl'), T') ∧ gs'[0]? = some g' ∧ Fr P 0 I' T' gs' w' q' ∧ Lk P X 0 δ'.g I' gs'.size ∧ Deaf T' 0 = δ'.d ∧ Same w w' ∧ Stop g' w'.heap δ' := by
  induction H with
  | stop hs =>
    intro I T gs w q sl hw F L hg hd
    subst hw
    exact ⟨0, gs, _, w, sl, T, q, _, I, rfl, hg, F, L, hd, Same.refl _, hs⟩
  | step Y _ hst ih =>
    intro I T gs w q sl hw F L hg hd
    subst hw
    obtain ⟨N, gs', g', w', sl', T', q', δ', h1, h2, h3, h4, h5, h6, h7, h8⟩ := step_run (by rfl) rfl (sl := sl) F L hg hd hst
    obtain ⟨N₂, gs₂, g₂, w₂, sl₂, T₂, q₂, δ₂, I', k1, k3, k5, k6, k7, k8, k9⟩ := ih _ _ _ h8 (sl := sl') rfl h4 (by rw [h5, h2]; exact L) h3 h6
    exact ⟨N + N₂, gs₂, g₂, w₂, sl₂, T₂, q₂, δ₂, I', runNT_then h1 k1, k3, k5, k6, k7, h7.trans k8, k9⟩
  | @hands g hp δ Y hY hy ih =>
    intro I T gs w q sl hw F L hg hd
    subst hw
    rcases hy with ⟨j, hy⟩ | ⟨hd0, hrun, γ₁, a', child, hst, hnum, hoth, ⟨c, e1, e2, e3, e4, z, ok, B, n, e5⟩, hx⟩
    · obtain ⟨V, eV, N, gs', g₂, w', sl', T', q', γ₁, W?, h1, h2, h3, h4, h5, h6, h7, h8, h9, ⟨W, rfl, hW⟩, h11, h12, h13⟩ := hands_run hX
        (fun γ₁ W? => ∃ W, W? = some W ∧ ∀ g₂, W.home g₂ → ∀ γ₂ h₂, X.R 0 γ₁ γ₂ → X.Pass 0 γ₂ h₂ → Y (Go.Conc.served g₂ (recvd W.ok tok true)) h₂ ⟨0, γ₂⟩) (sl := sl) F L hg hd hy fun γ₁ a _ ⟨c, e1, e2, e3, e4, z, ok, B, n, e5⟩ =>
        ⟨some ⟨c, z, ok, X.cells γ₁ 0, B, fun g₂ => ∀ γ₂ h₂, X.R 0 γ₁ γ₂ → X.Pass 0 γ₂ h₂ → Y (Go.Conc.served g₂ (recvd ok tok true)) h₂ ⟨0, γ₂⟩⟩, ⟨_, rfl, fun g₂ x => x⟩, ⟨e2, e3, e4, n, e5 _ rfl⟩, e1, rfl, fun h => absurd rfl h⟩
      have hR := L.home j V h12 h12 eV g₂ h4 γ₁ w'.heap (h11 j h12 (by rw [L.num]; exact h13)).2.2 h9
      obtain ⟨V', eV', N₂, gs₂, g₃, w₂, sl₂, T₂, q₂, γ₂, I₂, k1, k2, k3, k4, k5, k6, k7, k8, k9, k10⟩ := phase hX h12 hR (sl := sl') rfl h5 h6 h3 h7
      rw [upd_same] at eV'
      obtain rfl := Option.some.inj eV'
      obtain ⟨N₃, gs₃, g₄, w₃, sl₃, T₃, q₃, δ₃, I₃, m1, m3, m5, m6, m7, m8, m9⟩ := ih _ _ _ (hW g₃ k4 γ₂ w₂.heap k10 k9) (sl := sl₂) rfl k5 k6 k3 k7
      exact ⟨_, gs₃, g₄, w₃, sl₃, T₃, q₃, δ₃, I₃, runNT_then (runNT_then h1 k1) m1, m3, m5, m6, m7, (h8.trans k8).trans m8, m9⟩
    · have hpos : 0 < gs.size := (Array.getElem?_eq_some_iff.1 hg).1
      have hb : (X.num δ.g == 0) = false := by rw [beq_eq_false_iff_ne, L.num]; omega
      have e6 := e5 _ rfl
      rw [hb] at e6
      have hne : gs.size ≠ 0 := by omega
      obtain ⟨N, gs', d, sl', T', q', h1, h2, h3, h4, h5⟩ := F.hire (sl := sl) (hd.trans hd0) hg hrun (fun d => hst _ rfl) _ e2 e3 (fun i V hi eV => by
        have hlt := F.room i hi (by rw [eV]; rfl)
        have e7 := e4 i (by rw [L.num]; omega) (by rw [hnum, L.num]; omega)
        rw [(hoth i hi (by rw [L.num]; exact hlt)).1, L.ch i hi hlt, eV] at e7
        exact fun ec => e7 (by simp [ec])) e6
      have hI : ∀ x (W : Wait), x ≠ gs.size → upd I gs.size (some W) x = I x := fun x W hx => upd_ne I _ hx
      obtain ⟨N₂, gs₂, g₂, w₂, sl₂, T₂, q₂, δ₂, I', k1, k3, k5, k6, k7, k8, k9⟩ := ih _ _ _ hx (sl := sl') (w := w.at d) rfl h4 (by
        refine ⟨by rw [hnum, L.num, h2], fun x hx hlt => ?_, fun x W hx e => ?_, fun x W hx h0 e => ?_⟩
        · by_cases ex : x = gs.size
          · subst ex
            rw [upd_same, ← L.num, e1]; rfl
          · rw [hI x _ ex, (hoth x hx (by rw [L.num]; omega)).1]
            exact L.ch x hx (by omega)
        · by_cases ex : x = gs.size
          · subst ex
            rw [upd_same] at e
            obtain rfl := Option.some.inj e
            rw [L.num]
          · rw [hI x _ ex] at e
            have hlt := F.room x hx (by rw [e]; rfl)
            rw [(hoth x hx (by rw [L.num]; omega)).2.1]
            exact L.cells x W hx e
        · by_cases ex : x = gs.size
          · subst ex
            rw [upd_same] at e
            obtain rfl := Option.some.inj e
            intro g₂ hh γ₂ h₂ hr hp
            rw [L.num] at hh
            exact hh γ₂ h₂ hr hp
          · rw [hI x _ ex] at e
            have hlt := F.room x hx (by rw [e]; rfl)
            intro g₂ hh γ₂ h₂ hr hp
            exact L.home x W hx h0 e g₂ hh γ₂ h₂ (hX.trans _ _ _ _ (hoth x hx (by rw [L.num]; omega)).2.2 hr) hp) h3 h5
      exact ⟨N + N₂, gs₂, g₂, w₂, sl₂, T₂, q₂, δ₂, I', runNT_then h1 k1, k3, k5, k6, k7, (same_at w d).trans k8, k9⟩
end
end Go.TJ
