/- Own theory, part 17: what the holder does: a step of its own; it hands the token to one that waits; it starts another one. No condition. -/
import Derived.Test.YtkppboglffdmnaaTjK
namespace Go.TJ
open Go Go.Conc
open Go.ConcN (sumTo upd sumTo_upd upd_ne upd_same)

/-- What the holder must not write: what stands still for another. -/
def stillOf (h : Nat) (I : Nat → Option Wait) (a : Addr) : Prop := ∃ i W, i ≠ h ∧ I i = some W ∧ (W.cells a).isSome = true

theorem touch_of_event {e : Event} {b : Touch} {a : Addr} (h1 : ∀ a, e.loc ≠ .mark (.read a)) (h2 : ∀ a, e.loc ≠ .mark (.write a)) (hb : (MemAct.ofEvent e).touch? = some b) (hl : b.loc = .cell a) : e.loc = .cell a ∧ e.write = b.write := by
  obtain ⟨loc, wr, sy⟩ := e
  cases loc with
  | mark m =>
    cases m <;> simp [MemAct.ofEvent, MemAct.touch?] at hb
    · exact absurd rfl (h1 _)
    · exact absurd rfl (h2 _)
  | obj r =>
    cases wr <;> cases sy <;> simp [MemAct.ofEvent, MemAct.touch?] at hb <;> subst hb <;> cases hl
  | _ =>
    simp [MemAct.ofEvent, MemAct.touch?] at hb
    subst hb
    exact ⟨hl, rfl⟩

theorem hcell_chan {h : Hp} {c : Nat} {cap s r : Nat} {buf : Array Value} {cl tm : Bool} {cap' s' r' : Nat} {buf' : Array Value} {cl' tm' : Bool} (hc : h[c]? = some (.chan cap buf cl s r tm)) (a : Addr) :
    hcell (h.setIfInBounds c (.chan cap' buf' cl' s' r' tm')) a = hcell h a := by
  unfold hcell
  by_cases e : c = a.block
  · subst e
    have hlt : a.block < h.size := (Array.getElem?_eq_some_iff.1 hc).1
    rw [Array.getElem?_setIfInBounds_self_of_lt hlt, hc]
  · rw [Array.getElem?_setIfInBounds_ne e]

section
variable {P : Program} {h : Nat} {I : Nat → Option Wait} {T : Trace} {gs : Array Goroutine} {w : World} {q : Nat → Nat}

/-- The holder's own step. -/
theorem Fr.own (F : Fr P h I T gs w q) {a a' : Goroutine} {w' : World} {es : Array Event} {sl : Option (Nat × Nat)} (ha : gs[h]? = some a) (hst : stepG P (h == 0) a w = .go a' w' es) (hp : HpOk (stillOf h I) w.heap w'.heap) (he : ∀ e ∈ es, EvOk (stillOf h I) e) :
    ∃ gs' ops, runT P (crowd gs w sl) h = (.next (crowd gs' w' sl), ops) ∧ gs'.size = gs.size ∧ gs'[h]? = some a' ∧ Fr P h I (T ++ ops) gs' w' q ∧ Deaf (T ++ ops) h = deafBehind (Deaf T h) es := by
  have hlt : h < gs.size := (Array.getElem?_eq_some_iff.1 ha).1
  have hops : ∀ op ∈ MemOp.ofEvents h a.frame.fn a.frame.place es, op.g = h := fun op hop => by obtain ⟨e, _, rfl⟩ := Go.Conc.mem_ofEvents hop; rfl
  have hc : ∀ i W, i ≠ h → I i = some W → ∃ k, w'.heap[W.c]? = some (.chan 0 #[] false k k false) := fun i W hi eW => (F.chan i W hi eW).imp fun k hk => hp.chan _ _ hk rfl
  have hk : ∀ i W, i ≠ h → I i = some W → W.K w' := fun i W hi eW b v hb => hp.still b v ⟨i, W, hi, eW, by rw [hb]; rfl⟩ (F.keep i W hi eW b v hb)
  have F' : Fr P h I T gs w' q := ⟨F.idle, hk, hc, F.inj, F.tr, F.room, F.above⟩
  refine ⟨_, _, runT_crowd_go (sl := sl) ha hst, by simp, Array.getElem?_setIfInBounds_self_of_lt (by simpa using hlt), ⟨fun x y hx hy => ?_, hk, hc, F.inj, ?_, by simpa using F.room, fun j hj => ?_⟩, Deaf_own ..⟩
  · rw [Array.getElem?_setIfInBounds_ne (fun e => hx e.symm), Array.getElem?_map] at hy
    obtain ⟨y₀, hy₀, rfl⟩ := Option.map_eq_some_iff.1 hy
    rw [woken_of_again (F'.fixed hx hy₀)]
    have hid := F.idle x y₀ hx hy₀
    cases eW : I x with
    | none => rw [eW] at hid; exact ⟨hid.1, by rw [Deaf_other T (fun z => hx z.symm) _ hops]; exact hid.2⟩
    | some W => rw [eW] at hid; exact hid
  · refine F.tr.own (fun x => x.1 rfl) hops fun op hop b hb g hg hs => ?_
    obtain ⟨e, hmem, rfl⟩ := Go.Conc.mem_ofEvents hop
    obtain ⟨W, eW, l, hl, hsm⟩ := hs
    have hev := he e hmem
    obtain ⟨e1, e2⟩ := touch_of_event hev.2.1 hev.2.2.1 hb hl
    cases ew : e.write with
    | false => rw [← e2, ew]
    | true => exact absurd ⟨g, W, hg.1, eW, hsm⟩ (hev.1 l e1 ew)
  · simp only [Array.size_setIfInBounds, Array.size_map] at hj
    rw [Deaf_other T (g' := h) (by omega) _ hops]
    exact F.above j hj

/-- What the giver is behind its sending. -/
def AfterW (P : Program) (h : Nat) (I : Nat → Option Wait) (hp : Hp) (g : Goroutine) : Option Wait → Prop
  | none => 0 < h ∧ ∃ n, QuitsD P n 0 g
  | some W => (∀ a v, W.cells a = some v → hcell hp a = some v) ∧ (∃ k, hp[W.c]? = some (.chan 0 #[] false k k false)) ∧ (∀ i V, i ≠ h → I i = some V → V.c ≠ W.c) ∧ ∃ n, Sits P (h == 0) W.K W.St W.B W.seat n g

theorem idle_same {T' : Trace} {i n : Nat} {g : Goroutine} {o : Option Wait} (hd : Deaf T' i = Deaf T i) (hi : IdleW P T i n g o) : IdleW P T' i n g o := by
  cases o with
  | none => exact ⟨hi.1, by rw [hd]; exact hi.2⟩
  | some W => exact hi

/-- The frame behind a meeting. -/
theorem Fr.pass (F : Fr P h I T gs w q) {j k : Nat} {V : Wait} (hj : I j = some V) (hjh : j ≠ h) (hd : Deaf T h = 0) (hc : w.heap[V.c]? = some (.chan 0 #[] false k k false)) {gs' : Array Goroutine} {g' : Goroutine} (hsz : gs'.size = gs.size) (hhs : h < gs.size)
    (hoth : ∀ x, x ≠ h → x ≠ j → gs'[x]? = gs[x]?) (hH : gs'[h]? = some g') (o : Option Wait) (ho : AfterW P h I w.heap g' o) (fh : FuncId) (ph : String) (fj : FuncId) (pj : String) :
    ∃ q', Fr P j (upd I h o) (T ++ met h j fh ph fj pj V.c k 0) gs' (w.setChan V.c 0 #[] false (k + 1) (k + 1) false) q' ∧ Deaf (T ++ met h j fh ph fj pj V.c k 0) j = 0 := by
  have hD : ∀ x, Deaf (T ++ met h j fh ph fj pj V.c k 0) x = Deaf T x := fun x => Deaf_quiet (met_quiet _ _ _ _ _ _ _ _ _ x)
  have hcell' : ∀ a, hcell (w.setChan V.c 0 #[] false (k + 1) (k + 1) false).heap a = hcell w.heap a := fun a => hcell_chan hc a
  have hI : ∀ x, x ≠ h → upd I h o x = I x := fun x hx => upd_ne I o hx
  obtain ⟨n, hn⟩ : ∃ n, IdleW P (T ++ met h j fh ph fj pj V.c k 0) h n g' o := by
    cases o with
    | none => exact ⟨ho.2.choose, ho.1, by rw [hD, hd]; exact ho.2.choose_spec⟩
    | some W => exact ⟨ho.2.2.2.choose, ho.2.2.2.choose_spec⟩
  refine ⟨upd q h n, ⟨fun x y hx hy => ?_, fun i W hi eW => ?_, fun i W hi eW => ?_, fun i i' W W' hi hi' e e' ec => ?_, ?_, fun i hi hs => ?_, fun x hx => by rw [hD]; exact F.above x (by omega)⟩, by rw [hD]; exact F.tr.hears j ⟨hjh, by rw [hj]; rfl⟩⟩
  · by_cases e : x = h
    · subst e
      rw [hH] at hy
      obtain rfl := Option.some.inj hy
      rw [upd_same, upd_same]; exact hn
    · rw [hoth x e hx] at hy
      rw [upd_ne q n e, hI x e]
      exact idle_same (hD x) (F.idle x y e hy)
  · intro a v hv
    rw [hcell']
    by_cases e : i = h
    · subst e
      rw [upd_same] at eW
      subst eW
      exact ho.1 a v hv
    · rw [hI i e] at eW
      exact F.keep i W e eW a v hv
  · have hne : V.c ≠ W.c := by
      by_cases e : i = h
      · subst e
        rw [upd_same] at eW
        subst eW
        exact ho.2.2.1 j V hjh hj
      · rw [hI i e] at eW
        exact fun ec => hi (F.inj i j W V e hjh eW hj ec.symm)
    obtain ⟨k', hk'⟩ : ∃ k, w.heap[W.c]? = some (.chan 0 #[] false k k false) := by
      by_cases e : i = h
      · subst e
        rw [upd_same] at eW
        subst eW
        exact ho.2.1
      · rw [hI i e] at eW
        exact F.chan i W e eW
    exact ⟨k', by rw [heap_setChan_ne w _ _ _ _ _ _ hne]; exact hk'⟩
  · by_cases e1 : i = h <;> by_cases e2 : i' = h
    · rw [e1, e2]
    · subst e1
      rw [upd_same] at e; rw [hI i' e2] at e'
      subst e
      exact absurd ec.symm (ho.2.2.1 i' W' e2 e')
    · subst e2
      rw [upd_same] at e'; rw [hI i e1] at e
      subst e'
      exact absurd ec (ho.2.2.1 i W e1 e)
    · rw [hI i e1] at e; rw [hI i' e2] at e'
      exact F.inj i i' W W' e1 e2 e e' ec
  · refine (F.tr.give (fun x => x.1 rfl) ⟨hjh, by rw [hj]; rfl⟩ hd (o.isSome = true) (fun l => ∃ W, o = some W ∧ W.St l) (fun l hl => by obtain ⟨W, _, a, rfl, _⟩ := hl; rfl) fh ph fj pj V.c k 0).congr (fun g => ?_) fun g _ l => ?_
    · by_cases e : g = h
      · subst e
        unfold loOf; rw [upd_same]
        exact ⟨fun x => .inr ⟨rfl, x.2⟩, fun x => x.elim (fun y => absurd rfl y.1.1) fun y => ⟨Ne.symm hjh, y.2⟩⟩
      · simp only [loOf, hI g e]
        exact ⟨fun x => .inl ⟨⟨e, x.2⟩, x.1⟩, fun x => x.elim (fun y => ⟨y.2, y.1.2⟩) fun y => absurd y.1 e⟩
    · by_cases e : g = h
      · subst e
        rw [stUp_same]
        simp only [stOf, upd_same]
      · rw [stUp_ne e]
        simp only [stOf, hI g e]
  · by_cases e : i = h
    · omega
    · rw [hI i e] at hs
      have := F.room i e hs
      omega

/-- THE HOLDER HANDS THE TOKEN TO j. -/
theorem Fr.give (F : Fr P h I T gs w q) {a a₂ : Goroutine} {j : Nat} {V : Wait} {v z' : Value} {sl : Option (Nat × Nat)} (hjh : j ≠ h) (hjlt : j < gs.size) (hj : I j = some V) (hd : Deaf T h = 0) (ha : gs[h]? = some a) (hrun : a.status = .running)
    (hsend : ∀ d, stepG P (h == 0) a (w.at d) = .comm a₂ #[scase V.c v z'] true .send (w.at d) #[]) (o : Option Wait) (ho : AfterW P h I w.heap (Go.Conc.served a₂ undef) o) :
    ∃ (N : Nat) (gs' : Array Goroutine) (g₂ : Goroutine) (d k : Nat) (sl' : Option (Nat × Nat)) (T' : Trace) (q' : Nat → Nat), runNT P N (crowd gs w sl) T = (.next (crowd gs' ((w.at d).setChan V.c 0 #[] false (k + 1) (k + 1) false) sl'), T') ∧ gs'.size = gs.size ∧
      gs'[j]? = some (Go.Conc.served g₂ (recvd V.ok v true)) ∧ V.home g₂ ∧ w.heap[V.c]? = some (.chan 0 #[] false k k false) ∧ Fr P j (upd I h o) T' gs' ((w.at d).setChan V.c 0 #[] false (k + 1) (k + 1) false) q' ∧ Deaf T' j = 0 := by
  obtain ⟨k, hc⟩ := F.chan j V hjh hj
  have hk0 : V.seat.cases[0]? = some (rcase V.c V.z) := rfl
  have hu : ∀ (m : Nat) (cc : CommCase), m ≠ 0 → V.seat.cases[m]? = some cc → cc.chan ≠ .chan (some V.c) := by
    intro m cc hm hcc
    rcases m with _ | m
    · exact absurd rfl hm
    · simp [Wait.seat, Seat.one] at hcc
  have hlth : h < gs.size := (Array.getElem?_eq_some_iff.1 ha).1
  have key : ∃ N m' T', runNT P N (crowd gs w sl) T = (.next m', T') ∧ (fun m t => ∃ (gs' : Array Goroutine) (g₂ : Goroutine) (d : Nat) (sl' : Option (Nat × Nat)) (q' : Nat → Nat), m = crowd gs' ((w.at d).setChan V.c 0 #[] false (k + 1) (k + 1) false) sl' ∧ gs'.size = gs.size ∧ gs'[j]? = some (Go.Conc.served g₂ (recvd V.ok v true)) ∧ V.home g₂ ∧
      Fr P j (upd I h o) t gs' ((w.at d).setChan V.c 0 #[] false (k + 1) (k + 1) false) q' ∧ Deaf t j = 0) m' T' := by
    refine runs_until (P := P)
      (Inv := fun μ m t => (∃ (gs' : Array Goroutine) (g₂ : Goroutine) (d : Nat) (sl' : Option (Nat × Nat)) (q' : Nat → Nat), m = crowd gs' ((w.at d).setChan V.c 0 #[] false (k + 1) (k + 1) false) sl' ∧ gs'.size = gs.size ∧ gs'[j]? = some (Go.Conc.served g₂ (recvd V.ok v true)) ∧ V.home g₂ ∧
      Fr P j (upd I h o) t gs' ((w.at d).setChan V.c 0 #[] false (k + 1) (k + 1) false) q' ∧ Deaf t j = 0) ∨ ∃ gs₁ d sl₁ q₁, ∃ pk : Bool, m = crowd gs₁ (w.at d) sl₁ ∧ gs₁.size = gs.size ∧ gs₁[h]? = some (if pk then parked a₂ #[scase V.c v z'] .send else a) ∧
      Fr P h I t gs₁ (w.at d) q₁ ∧ Deaf t h = 0 ∧ (pk = true → 0 < q₁ j) ∧ μ = sumTo gs₁.size q₁ + (if pk then 0 else 1))
      (fun μ m t hInv => ?_) _ _ T (.inr ⟨gs, w.drawn, sl, q, false, rfl, rfl, ha, F, hd, by simp, rfl⟩)
    rcases hInv with hdone | ⟨gs₁, d, sl₁, q₁, pk, rfl, hsz, ha₁, F₁, hd₁, hpk, hμ⟩
    · exact .inl hdone
    refine .inr ?_
    obtain ⟨gj, hgj⟩ : ∃ gj, gs₁[j]? = some gj := ⟨gs₁[j]'(by omega), Array.getElem?_eq_getElem (by omega)⟩
    have hlth : h < gs₁.size := by omega
    have hSj : Sits P (j == 0) V.K V.St V.B V.seat (q₁ j) gj := by have := F₁.idle j gj hjh hgj; rwa [hj] at this
    have hKj := F₁.keep j V hjh hj
    have hsome : ∃ (i : Nat) (g : Goroutine), gs₁[i]? = some g ∧ g.status = .running := by
      cases pk with
      | false => exact ⟨h, a, ha₁, hrun⟩
      | true => exact ⟨j, gj, hgj, (Sits.status hKj hSj).elim (·.1) (fun z => by have := hpk rfl; omega)⟩
    obtain ⟨i, g, d', sl', hi, hg, hst⟩ := crowd_pick (P := P) (w := w.at d) (sl := sl₁) (F₁.awake ha₁ (by cases pk <;> simp [hrun, parked])) hsome
    rw [at_at'] at hst
    have Fd : Fr P h I t gs₁ (w.at d') q₁ := F₁.at d'
    have hcd : (w.at d').heap[V.c]? = some (.chan 0 #[] false k k false) := hc
    have hμpos : 0 < μ := by
      cases pk with
      | false => simp at hμ; omega
      | true =>
        have h1 := hpk rfl
        have h2 : q₁ j ≤ sumTo gs₁.size q₁ := Go.ConcN.le_sumTo (f := q₁) (by omega)
        simp at hμ; omega
    by_cases e : i = h
    · subst e
      cases pk with
      | true => rw [ha₁] at hi; obtain rfl := Option.some.inj hi; cases hg
      | false =>
        obtain rfl : g = a := by rw [ha₁] at hi; exact (Option.some.inj hi).symm
        have hoff : ∀ (x : Nat) (y : Goroutine), x ≠ j → (gs₁.setIfInBounds i ph)[x]? = some y → offersAt y V.c false = [] := by
          intro x y hxj hy
          rcases getElem?_stand gs₁ i x y hy with ⟨_, rfl⟩ | ⟨hx, hy'⟩
          · exact offersAt_ph _ _
          · exact Fd.noRecv hx hy' fun W hW ec => hxj (F₁.inj x j W V hx hjh hW hj ec)
        have hsend' := hsend d'
        rcases hSj with ⟨kk, w₀, hq, hG⟩ | ⟨hq0, g₀, g₂, rfl, hat⟩
        · have hjr : gj.status = .running := (Sits.status hKj (.inl ⟨kk, w₀, hq, hG⟩)).elim (·.1) (fun z => by omega)
          have hp : partners (gs₁.setIfInBounds i ph) V.c false = [] := partners_nil fun x y hy => by
            by_cases hxj : x = j
            · subst hxj
              rw [stand_get hjh hgj] at hy
              obtain rfl := Option.some.inj hy
              exact offersAt_of_not_blocked (by rw [hjr]; simp) _ _
            · exact hoff x y hxj hy
          have hw : ∀ cc ∈ #[scase V.c v z'], NoWays (w.at d') (gs₁.setIfInBounds i ph) cc := by
            intro cc hcc
            simp only [List.mem_toArray, List.mem_cons, List.not_mem_nil, or_false] at hcc
            subst hcc
            exact ways_send_none hcd (Nat.le_refl _) hp
          have hrt := crowd_waits (sl := sl') hi hsend' hw
          rw [ofEvents_none] at hrt
          refine ⟨_, _, sumTo gs₁.size q₁ + 0, by rw [hst]; exact hrt, by simp at hμ; omega, .inr ⟨_, d', sl', q₁, true, rfl, by simpa using hsz, Array.getElem?_setIfInBounds_self_of_lt hlth, ?_, by simpa using hd₁, fun _ => by omega, by simp⟩⟩
          refine ⟨fun x y hx hy => ?_, Fd.keep, Fd.chan, Fd.inj, by simpa using Fd.tr, by simpa using Fd.room, fun x hx => by simpa using Fd.above x (by simpa using hx)⟩
          rw [Array.getElem?_setIfInBounds_ne (fun z => hx z.symm)] at hy
          simpa using Fd.idle x y hx hy
        · have hp : partners (gs₁.setIfInBounds i ph) V.c false = [(j, 0)] := by
            rw [partners_one (stand_get hjh hgj) fun x y hxj hy => hoff x y hxj hy, offersAt_parked_at hk0 hu]
            rfl
          have hrt := crowd_send_meets_sel (sl := sl') hi hsend' hcd hjh hgj hk0 hp
          obtain ⟨q', hF, hdj⟩ := Fd.pass hj hjh hd₁ hcd (gs' := (gs₁.setIfInBounds j (g₂.finishComm P V.seat.cases V.seat.shape (0 : Nat) v true)).setIfInBounds i (a₂.finishComm P #[scase V.c v z'] .send 0 undef false)) (g' := Go.Conc.served a₂ undef) (by simp) hlth
            (fun x hx hxj => by rw [Array.getElem?_setIfInBounds_ne (fun z => hx z.symm), Array.getElem?_setIfInBounds_ne (fun z => hxj z.symm)]) (Array.getElem?_setIfInBounds_self_of_lt (by simpa using hlth)) o ho a₂.frame.fn a₂.frame.place g₂.frame.fn g₂.frame.place
          rw [ofEvents_none, Array.empty_append] at hrt
          refine ⟨_, _, 0, by rw [hst]; exact hrt, hμpos, .inl ⟨_, g₂, d', sl', q', rfl, by simpa using hsz, ?_, hat.2.2.2.2.1, hF, hdj⟩⟩
          rw [Array.getElem?_setIfInBounds_ne (fun z => hjh z.symm), Array.getElem?_setIfInBounds_self_of_lt (by omega), finishComm_served]
          exact congrArg (fun z => some (Go.Conc.served g₂ z)) (commResult_one ..)
    · by_cases ej : i = j ∧ pk = true ∧ ∃ g₂, V.At P (i == 0) g g₂
      · obtain ⟨rfl, rfl, g₂, hat⟩ := ej
        obtain ⟨_, _, _, _, hhome, esj, hesj, hstp⟩ := hat
        obtain ⟨hops, hr, _, hdd⟩ := evC_ops (i := i) (fn := g.frame.fn) (pos := g.frame.place) hesj
        have htr : Tr h (loOf h I) (stOf I) (t ++ MemOp.ofEvents i g.frame.fn g.frame.place esj) := F₁.tr.read ⟨hjh, by rw [hj]; rfl⟩ hops (fun op hop b hb => ⟨(hr op hop b hb).1, V, hj, (hr op hop b hb).2⟩) (hdd t)
        have hdh : ∀ x, Deaf (t ++ MemOp.ofEvents i g.frame.fn g.frame.place esj) x = Deaf t x := fun x => by
          by_cases ex : x = i
          · subst ex; exact hdd t
          · exact Deaf_other t (fun z => ex z.symm) _ hops
        have F₂ : Fr P h I (t ++ MemOp.ofEvents i g.frame.fn g.frame.place esj) gs₁ (w.at d') q₁ := ⟨fun x y hx hy => idle_same (hdh x) (Fd.idle x y hx hy), Fd.keep, Fd.chan, Fd.inj, htr, Fd.room, fun x hx => by rw [hdh]; exact Fd.above x hx⟩
        have hp : partners (gs₁.setIfInBounds i ph) V.c true = [(h, 0)] := by
          rw [partners_one (stand_get (Ne.symm hjh) ha₁) fun x y hxh hy => by
            rcases getElem?_stand gs₁ i x y hy with ⟨_, rfl⟩ | ⟨_, hy'⟩
            · exact offersAt_ph _ _
            · exact Fd.noSend hxh hy' _]
          simp [offersAt_parked_send]
        have hno : ∀ (m : Nat) (c' : CommCase), m ≠ 0 → V.seat.cases[m]? = some c' → NoWays (w.at d') (gs₁.setIfInBounds i ph) c' := by
          intro m c' hm hc'
          rcases m with _ | m
          · exact absurd rfl hm
          · simp [Wait.seat, Seat.one] at hc'
        have hrt := crowd_sel_recv_meets (sl := sl') hi (hstp _ (Fd.keep i V hjh hj)) hk0 hno hcd (Ne.symm hjh) ha₁ hp
        obtain ⟨q', hF, hdj⟩ := F₂.pass hj hjh (by rw [hdh]; exact hd₁) hcd (gs' := (gs₁.setIfInBounds h (a₂.finishComm P #[scase V.c v z'] .send 0 undef false)).setIfInBounds i (g₂.finishComm P V.seat.cases V.seat.shape (0 : Nat) v true)) (g' := Go.Conc.served a₂ undef) (by simp) hlth
            (fun x hx hxj => by rw [Array.getElem?_setIfInBounds_ne (fun z => hxj z.symm), Array.getElem?_setIfInBounds_ne (fun z => hx z.symm)]) (by rw [Array.getElem?_setIfInBounds_ne hjh, Array.getElem?_setIfInBounds_self_of_lt hlth]; rfl) o ho a₂.frame.fn a₂.frame.place g₂.frame.fn g₂.frame.place
        rw [Array.append_assoc] at hF hdj
        refine ⟨_, _, 0, by rw [hst]; exact hrt, hμpos, .inl ⟨_, g₂, d', sl', q', rfl, by simpa using hsz, ?_, hhome, hF, hdj⟩⟩
        rw [Array.getElem?_setIfInBounds_self_of_lt (by simp; omega), finishComm_served]
        exact congrArg (fun z => some (Go.Conc.served g₂ z)) (commResult_one ..)
      · obtain ⟨gs', ops, q', hrt, hsz', hh, hqo, hq0, F', hlt, hd'⟩ := Fd.by_step (sl := sl') hi e hg ha₁
          (by cases pk with
              | false => exact again_of_running (.inl hrun) _
              | true => exact again_send_open hcd)
          (fun W g₂ hW hat => by
            cases pk with
            | false => exact offersAt_of_not_blocked (by simp [hrun]) _ _
            | true =>
              simp only [if_true]
              rw [offersAt_parked_send, if_neg]
              intro ec
              have hij : i = j := F₁.inj i j W V e hjh hW hj ec.symm
              subst hij
              rw [hj] at hW
              obtain rfl := Option.some.inj hW
              exact ej ⟨rfl, rfl, g₂, hat⟩)
        refine ⟨_, _, sumTo gs'.size q' + (if pk then 0 else 1), by rw [hst]; exact hrt, by rw [hsz']; omega, .inr ⟨gs', d', sl', q', pk, rfl, hsz'.trans hsz, hh, F', hd'.trans hd₁, fun hp => ?_, rfl⟩⟩
        subst hp
        by_cases hij : j = i
        · subst hij
          rcases Nat.eq_zero_or_pos (q' j) with h0 | h0
          · obtain ⟨g₂, hat⟩ := hq0 V hj h0
            exact absurd ⟨rfl, rfl, g₂, hat⟩ ej
          · exact h0
        · rw [hqo j hij]; exact hpk rfl
  obtain ⟨N, m', T', hr, gs', g₂, d, sl', q', rfl, hsz, hJ, hhome, hF, hdj⟩ := key
  exact ⟨N, gs', g₂, d, k, sl', T', q', hr, hsz, hJ, hhome, hc, hF, hdj⟩

/-- THE HOLDER STARTS ANOTHER ONE, which has a channel of its own. -/
theorem Fr.hire (F : Fr P h I T gs w q) {a a' child : Goroutine} {sl : Option (Nat × Nat)} (hd : Deaf T h = 0) (ha : gs[h]? = some a) (hrun : a.status = .running) (hgo : ∀ d, stepG P (h == 0) a (w.at d) = .spawn a' child (w.at d) #[])
    (W : Wait) (hk : ∀ a v, W.cells a = some v → hcell w.heap a = some v) (hc : ∃ k, w.heap[W.c]? = some (.chan 0 #[] false k k false)) (hf : ∀ i V, i ≠ h → I i = some V → V.c ≠ W.c) {n : Nat} (hs : Sits P false W.K W.St W.B W.seat n child) :
    ∃ (N : Nat) (gs' : Array Goroutine) (d : Nat) (sl' : Option (Nat × Nat)) (T' : Trace) (q' : Nat → Nat), runNT P N (crowd gs w sl) T = (.next (crowd gs' (w.at d) sl'), T') ∧ gs'.size = gs.size + 1 ∧ gs'[h]? = some a' ∧ Fr P h (upd I gs.size (some W)) T' gs' (w.at d) q' ∧ Deaf T' h = 0 := by
  obtain ⟨N, gs₁, d, d', sl₁, sl₂, T₁, q₁, hr, hst, hsz, ha₁, F₁, hd₁⟩ := F.picked (sl := sl) ha hrun
  have hlt : h < gs₁.size := (Array.getElem?_eq_some_iff.1 ha₁).1
  have hrt := runT_crowd_spawn (P := P) (sl := sl₂) ha₁ (hgo d')
  rw [ofEvents_none] at hrt
  have hpush : (((#[] : Array MemOp).push { g := h, fn := a.frame.fn, pos := a.frame.place, act := .go gs₁.size }).push { g := gs₁.size, fn := child.frame.fn, pos := a.frame.place, act := .start }) =
      #[{ g := h, fn := a.frame.fn, pos := a.frame.place, act := .go gs₁.size }, { g := gs₁.size, fn := child.frame.fn, pos := a.frame.place, act := .start }] := rfl
  rw [hpush] at hrt
  have hD : ∀ x, Deaf (T₁ ++ #[{ g := h, fn := a.frame.fn, pos := a.frame.place, act := .go gs₁.size }, { g := gs₁.size, fn := child.frame.fn, pos := a.frame.place, act := .start }]) x = Deaf T₁ x := fun x => Deaf_quiet (fun op hop dd => by
    simp only [List.mem_toArray, List.mem_cons, List.not_mem_nil, or_false] at hop
    rcases hop with rfl | rfl <;> rfl)
  have hne : h ≠ gs₁.size := by omega
  have hup : ∀ x, x ≠ gs₁.size → upd I gs₁.size (some W) x = I x := fun x hx => upd_ne I _ hx
  have htr := F₁.tr.hire (c := gs₁.size) (fun g hg e => by have := F₁.room g hg.1 hg.2; omega) (hd₁.trans hd) (F₁.above _ (Nat.le_refl _)) W.St (fun l hl => by obtain ⟨a, rfl, _⟩ := hl; rfl) a.frame.fn a.frame.place child.frame.fn
  refine ⟨N + 1, _, d', sl₂, _, upd q₁ gs₁.size n, runNT_succ_of hr (hst.trans hrt), by simp [hsz], (by rw [Array.getElem?_push, if_neg (by simp; omega)]; exact Array.getElem?_setIfInBounds_self_of_lt hlt), ?_, (hD h).trans (hd₁.trans hd)⟩
  rw [← hsz]
  refine ⟨fun x y hx hy => ?_, fun i V hi e => ?_, fun i V hi e => ?_, fun i i' V V' hi hi' e e' ec => ?_, ?_, fun i hi hs => ?_, fun x hx => ?_⟩
  · by_cases ex : x = gs₁.size
    · subst ex
      rw [Array.getElem?_push, if_pos (by simp)] at hy
      obtain rfl := Option.some.inj hy
      rw [upd_same, upd_same]
      have : (gs₁.size == 0) = false := by rw [beq_eq_false_iff_ne]; omega
      show Sits P (gs₁.size == 0) W.K W.St W.B W.seat n child
      rw [this]; exact hs
    · have hxl : x < gs₁.size := by
        have := (Array.getElem?_eq_some_iff.1 hy).1
        simp at this; omega
      rw [Array.getElem?_push, if_neg (by simp; omega), Array.getElem?_setIfInBounds_ne (fun z => hx z.symm)] at hy
      rw [upd_ne q₁ n ex, hup x ex]
      exact idle_same (hD x) (F₁.idle x y hx hy)
  · by_cases ei : i = gs₁.size
    · subst ei
      rw [upd_same] at e
      obtain rfl := Option.some.inj e
      exact hk
    · rw [hup i ei] at e
      exact F₁.keep i V hi e
  · by_cases ei : i = gs₁.size
    · subst ei
      rw [upd_same] at e
      obtain rfl := Option.some.inj e
      exact hc
    · rw [hup i ei] at e
      exact F₁.chan i V hi e
  · by_cases e1 : i = gs₁.size <;> by_cases e2 : i' = gs₁.size
    · rw [e1, e2]
    · subst e1
      rw [upd_same] at e; rw [hup i' e2] at e'
      obtain rfl := Option.some.inj e
      exact absurd ec.symm (hf i' V' hi' e')
    · subst e2
      rw [upd_same] at e'; rw [hup i e1] at e
      obtain rfl := Option.some.inj e'
      exact absurd ec (hf i V hi e)
    · rw [hup i e1] at e; rw [hup i' e2] at e'
      exact F₁.inj i i' V V' hi hi' e e' ec
  · refine htr.congr (fun g => ?_) fun g _ l => ?_
    · by_cases e : g = gs₁.size
      · subst e
        unfold loOf; rw [upd_same]
        exact ⟨fun _ => .inr rfl, fun _ => ⟨fun e => hne e.symm, rfl⟩⟩
      · simp only [loOf, hup g e]
        exact ⟨.inl, fun x => x.elim id fun y => absurd y e⟩
    · by_cases e : g = gs₁.size
      · subst e
        rw [stUp_same]
        simp only [stOf, upd_same]
        exact ⟨fun ⟨V, e, h⟩ => by obtain rfl := Option.some.inj e; exact h, fun h => ⟨W, rfl, h⟩⟩
      · rw [stUp_ne e]
        simp only [stOf, hup g e]
  · simp only [Array.size_push, Array.size_setIfInBounds]
    by_cases ei : i = gs₁.size
    · omega
    · rw [hup i ei] at hs
      have := F₁.room i hi hs
      omega
  · rw [hD]
    exact F₁.above x (by simp at hx; omega)
end
end Go.TJ
