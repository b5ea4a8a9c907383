/- The gate with one body that does not step: the thread. Conditions: as each lemma says. -/
import Derived.Test.YtkppboglffdmnaaGateA
namespace Go.Proofs.Ytkppboglffdmnaa
open Go Go.TJ Go.Conc Go.Proofs

instance : Und Try.prog 20 (.interface #[]) := ⟨Try.underlying20⟩

section
variable {Tb : Nat → Prop} {Qc : Addr → Option Value} {h : Hp} {γ : G1}

/-- A thread that has ended says so. -/
theorem tells {f n : Nat} {k : List Item} {env : Env} {cs : List Frame} {ops : Array Oper} {x y : Operand} {ty : TypeId} {pos : String} {af : Array Edge} {g : Option (Nat × Bool)} (h1 : γ.ph = 2) (hw : wantE ops env g = some true) (hx : ev env x = some (.chan (some γ.sd))) (hy : ev env y = some tok)
    (hp : P0 Tb Qc { γ with ph := 3 } h) (hq : ∀ a, Kn n env [] a → QuitsD Try.prog 5 0 (G ((fb f .deferred).at a (.inRegion ops [] :: k)) cs)) :
    TR Try.prog false (SitT Try.prog (X1 Tb Qc) 1) (EndT Try.prog (X1 Tb Qc) 1) f n .deferred cs ops [⟨none, .send x y, ty, pos, af, g⟩] k env [] h ⟨0, γ⟩ := by
  intro rest hr a ka
  obtain ⟨i, r, rfl, ho, hr'⟩ := ER.uncons hr
  have : r = [] := by simpa using hr'
  subst this
  refine .stop ⟨rfl, { γ with ph := 3 }, γ.sd, _, by decide, by simp [X1, h1], by simp [X1], at_send ho (wantE_ok ka (o := ⟨none, .send x y, ty, pos, af, g⟩) hw) (by decide) (ka.eval hx) (ka.eval hy), by simp [X1, h1], fun q hq hlt => ?_, hp, by simp [X1], 5, ?_⟩
  · simp [X1, h1] at hlt
    obtain rfl : q = 0 := by omega
    exact ⟨by simp [X1], rfl, ⟨rfl, rfl, rfl, rfl, rfl⟩⟩
  · rw [served_none ho rfl]; exact hq a ka

set_option maxHeartbeats 1000000 in
set_option maxRecDepth 8000 in
/-- begin's deferred function, where the body has returned. -/
theorem over_ok {a1 : Act} {todo : List Item} {rb : Nat} {u0 : Value} (h1 : γ.ph = 2) (hd : a1.defers = []) (hu : Upd (fun b => Tb b ∨ b = γ.wk) γ.u h) (w0 : hcell h ⟨γ.tb, 0, none⟩ = some (.pointer (some ⟨γ.t, 0, none⟩))) (w1 : hcell h ⟨γ.t, 3, none⟩ = some (.chan (some γ.sd)))
    (w2 : hcell h ⟨γ.t, 13, none⟩ = some u0) (w3 : hfroz h ⟨γ.t, 13, none⟩ = false) (hne : γ.tb ≠ γ.t) (o2 : ∃ k, h[γ.sd]? = some (.chan 0 #[] false k k false)) (hq : OfC Qc h) (hqt : ∀ a, (Qc a).isSome = true → a.block ≠ γ.t) :
    Runs Try.prog false (SitT Try.prog (X1 Tb Qc) 1) (EndT Try.prog (X1 Tb Qc) 1) (G (Frame.enter Try.prog 153 #[.pointer (some ⟨rb, 0, none⟩), .pointer (some ⟨γ.tb, 0, none⟩)] .deferred) [{ (fb 152 .deferred).at a1 todo with mode := .returning }, rootFr Try.prog]) h ⟨0, γ⟩ := by
  have hk : CallKind.deferred ≠ .early := by decide
  refine TK.start (n := 30) rfl rfl ?_
  repeat' refine TK.seq ?_
  refine TK.region ?_
  refine TR.recover0 rfl rfl rfl rfl rfl ?_
  refine TR.val hk rfl rfl (fun ρ Q X hρ hq => sem_assign (hρ _ _ rfl) hq) ?_
  refine TR.done (TK.seq (TK.region ?_))
  refine TR.val hk rfl rfl (fun ρ Q X hρ hq => sem_move (hρ _ _ rfl) hq) ?_
  refine TR.val hk rfl rfl (fun ρ Q X hρ hq => sem_neqIf (hρ _ _ rfl) (hρ _ _ rfl) (.inl ⟨rfl, rfl⟩) hq) ?_
  refine TR.val hk rfl rfl (fun ρ Q X hρ hq => sem_move (hρ _ _ rfl) hq) ?_
  refine TR.no rfl rfl (TR.no rfl rfl (TR.no rfl rfl (TR.no rfl rfl (TR.no rfl rfl ?_))))
  refine TR.val (v := .bool false) hk rfl rfl (fun ρ Q X hρ hq => sem_pick (b := false) (hρ _ _ rfl) (by show ρ _ = _; exact hρ _ _ rfl) hq) ?_
  refine TR.done (TK.cond (t := false) rfl (TK.skip (TK.seq (TK.region ?_))))
  refine TR.val hk rfl rfl (fun ρ Q X hρ hq => sem_load1 (hρ _ _ rfl) w0 hq) ?_
  refine TR.val hk rfl rfl (fun ρ Q X hρ hq => sem_nilCheck (hρ _ _ rfl) hq) ?_
  refine TR.val hk rfl rfl (fun ρ Q X hρ hq => sem_fieldAddr (hρ _ _ rfl) hq) ?_
  refine TR.unit (h' := hset h ⟨γ.t, 13, none⟩ (.bool true)) hk rfl (fun ρ Q X hρ hq => sem_store1 (hρ _ _ rfl) (hρ _ _ rfl) (by simp [OneCell]) ⟨_, w2⟩ w3 ?_ hq) ?_
  · rintro ⟨j, hj, hlt, hc, hs⟩
    simp [X1, h1] at hlt
    obtain rfl : j = 0 := by omega
    simp [X1, c0] at hs
  have e0 : hcell (hset h ⟨γ.t, 13, none⟩ (.bool true)) ⟨γ.tb, 0, none⟩ = some (.pointer (some ⟨γ.t, 0, none⟩)) := (hset_cell_ne _ _ _ _ (by simp) ⟨_, w2⟩).trans w0
  have e1 : hcell (hset h ⟨γ.t, 13, none⟩ (.bool true)) ⟨γ.t, 3, none⟩ = some (.chan (some γ.sd)) := (hset_cell_ne _ _ _ _ (by simp) ⟨_, w2⟩).trans w1
  refine TR.done (TK.region ?_)
  refine TR.val hk rfl rfl (fun ρ Q X hρ hq => sem_load1 (hρ _ _ rfl) e0 hq) ?_
  refine TR.val hk rfl rfl (fun ρ Q X hρ hq => sem_nilCheck (hρ _ _ rfl) hq) ?_
  refine TR.val hk rfl rfl (fun ρ Q X hρ hq => sem_fieldAddr (hρ _ _ rfl) hq) ?_
  refine TR.val hk rfl rfl (fun ρ Q X hρ hq => sem_load1 (hρ _ _ rfl) e1 hq) ?_
  refine TR.val hk rfl rfl (fun ρ Q X hρ hq => sem_buildS (cells := #[]) hρ rfl rfl hq) ?_
  refine tells h1 rfl rfl rfl ⟨rfl, ?_, ?_, hcell_hset_same w2, fun a v hv => ?_⟩ (fun a ka => quits_end rfl rfl ka.defers hd (.inl rfl))
  · exact (hu.mono (fun i _ hi => hi.elim .inl fun x => .inr (.inr (.inl x)))).trans (Upd.hset _ _ _ (.inr (.inl rfl)))
  · obtain ⟨k, hk⟩ := o2
    obtain ⟨c, e, f, hb, _, _⟩ := hcell_some w2
    refine ⟨k, (hset_ne _ _ _ ?_).trans hk⟩
    intro e'
    have e2 : γ.t = γ.sd := e'
    have hb' : h[γ.t]? = some (.cells c e f) := hb
    rw [e2, hk] at hb'
    cases hb'
  · exact (hset_cell_ne _ _ _ _ (fun e => hqt a (by rw [hv]; rfl) (by rw [← e])) ⟨_, w2⟩).trans (hq a v hv)

set_option maxHeartbeats 1000000 in
set_option maxRecDepth 8000 in
/-- The thread: it waits till it is let go; then its body; then it has ended. -/
theorem child_ok {rb fbx b : Nat} {bcap : Array Value} {u0 : Value} [HasBody Try.prog b] (h1 : γ.ph = 1) (hu : γ.u = h) (w0 : hcell h ⟨γ.tb, 0, none⟩ = some (.pointer (some ⟨γ.t, 0, none⟩))) (wf : hcell h ⟨fbx, 0, none⟩ = some (.func (.func b) #[] bcap)) (wk : hcell h ⟨γ.t, 2, none⟩ = some (.chan (some γ.wk))) (w1 : hcell h ⟨γ.t, 3, none⟩ = some (.chan (some γ.sd)))
    (w2 : hcell h ⟨γ.t, 13, none⟩ = some u0) (w3 : hfroz h ⟨γ.t, 13, none⟩ = false) (o1 : ∃ k, h[γ.wk]? = some (.chan 0 #[] false k k false)) (o2 : ∃ k, h[γ.sd]? = some (.chan 0 #[] false k k false)) (hne : γ.wk ≠ γ.sd) (hnt : γ.tb ≠ γ.t) (hqt : ∀ a, (Qc a).isSome = true → a.block ≠ γ.t)
    (hT : ¬ Tb γ.t ∧ ¬ Tb γ.tb ∧ ¬ Tb γ.sd ∧ ¬ Tb γ.wk)
    (hbody : ∀ h₂ γ₂, P1 γ₂ h₂ → (X1 Tb Qc).R 1 γ γ₂ → CallW Try.prog false (SitT Try.prog (X1 Tb Qc) 1) b (#[.pointer (some ⟨γ.t, 0, none⟩)] ++ bcap) h₂ ⟨0, γ₂⟩ (RetP (fun _ h₃ δ₃ => δ₃ = ⟨0, γ₂⟩ ∧ Upd Tb h₂ h₃ ∧ OfC Qc h₃) (fun _ _ _ => False))) :
    SitsAt Try.prog (X1 Tb Qc) 1 γ h (born Try.prog { target := .fn (.func 152) #[.pointer (some ⟨rb, 0, none⟩), .pointer (some ⟨γ.tb, 0, none⟩), .pointer (some ⟨fbx, 0, none⟩)], args := #[] })
      (Runs Try.prog false (SitT Try.prog (X1 Tb Qc) 1) (EndT Try.prog (X1 Tb Qc) 1)) := by
  have hB : ∀ a, ((X1 Tb Qc).cells γ 1 a).isSome = true → a.block < γ.t + γ.tb + 1 := fun a ha => by
    change (c1 γ a).isSome = true at ha
    unfold c1 at ha
    split at ha
    · rename_i e; rw [e]; show γ.t < _; omega
    · split at ha
      · rename_i e; rw [e]; show γ.tb < _; omega
      · cases ha
  have k0 : (X1 Tb Qc).cells γ 1 ⟨γ.tb, 0, none⟩ = some (.pointer (some ⟨γ.t, 0, none⟩)) := by
    show c1 γ _ = _
    unfold c1
    rw [if_neg (by simp), if_pos rfl]
  have k1 : (X1 Tb Qc).cells γ 1 ⟨γ.t, 2, none⟩ = some (.chan (some γ.wk)) := by
    show c1 γ _ = _
    unfold c1
    rw [if_pos rfl]
  have hk : CallKind.deferred ≠ .early := by decide
  refine Way.sits (main := false) (c := γ.wk) (B := γ.t + γ.tb + 1) rfl (by simp [X1, h1]) (fun a v hv => ?_) o1 (fun x hx hlt => ?_) (Way.born hB (Way.enter (n := 14) rfl rfl ?_))
  · change c1 γ a = some v at hv
    unfold c1 at hv
    split at hv
    · rename_i e; rw [e, wk]; exact hv
    · split at hv
      · rename_i e; rw [e, w0]; exact hv
      · cases hv
  · have : x = 0 := by simp [X1, h1] at hlt; omega
    subst this
    simp only [X1]
    simpa using hne.symm
  refine EY.seq hB (EY.region hB ?_)
  refine RY.makeFunc hB hk rfl rfl (fun ρ hρ => ⟨map_ofL hρ (vs := []) rfl, map_ofL hρ (vs := [.pointer (some ⟨rb, 0, none⟩), .pointer (some ⟨γ.tb, 0, none⟩)]) rfl⟩) ?_
  refine RY.defer (dd := { target := .fn (.func 153) #[.pointer (some ⟨rb, 0, none⟩), .pointer (some ⟨γ.tb, 0, none⟩)], args := #[] }) hB hk rfl (fun ρ hρ => ?_) ?_
  · show SemR _ _ (Deferred.ofValue (ρ (.tmp 3)) ((#[] : Array Operand).map ρ) >>= fun d => pure (Next.defer d)) _
    rw [hρ (.tmp 3) _ rfl]
    show Next.defer { target := .fn (.func 153) #[.pointer (some ⟨rb, 0, none⟩), .pointer (some ⟨γ.tb, 0, none⟩)], args := #[] ++ (#[] : Array Operand).map ρ } = _
    simp
  refine RY.done hB (EY.seq hB (EY.region hB ?_))
  refine RY.load1 hB hk rfl rfl rfl k0 ?_
  refine RY.nilCheck hB hk rfl rfl rfl ?_
  refine RY.fieldAddr hB hk rfl rfl rfl ?_
  refine RY.load1 hB hk rfl rfl rfl k1 ?_
  refine RY.recv (Und.out (P := Try.prog)) hB hk rfl rfl rfl fun rest hr a ka γ₂ h₂ hR hP => ?_
  refine (?_ : TR Try.prog false (SitT Try.prog (X1 Tb Qc) 1) (EndT Try.prog (X1 Tb Qc) 1) _ _ .deferred _ _ _ _ _ _ h₂ ⟨0, γ₂⟩) rest hr a ka
  obtain ⟨e1, e2, e3, e4, e5⟩ := id hR
  have hP1 : P1 γ₂ h₂ := hP
  obtain ⟨p1, p2, p3, p4⟩ := id hP1
  have keepc : ∀ {a v}, hcell h a = some v → hcell h₂ a = some v := fun {a v} hv => by
    obtain ⟨c, e, f, hb, hs, hc⟩ := hcell_some hv
    have hne' : a.block ≠ γ₂.wk := fun ee => by
      obtain ⟨k, hk⟩ := o1
      rw [ee, e2, hk] at hb
      cases hb
    unfold hcell at hv ⊢
    rw [p3 _ hne', e5, hu]; exact hv
  have hfz : hfroz h₂ ⟨γ.t, 13, none⟩ = false := by
    obtain ⟨c, e, f, hb, _, _⟩ := hcell_some w2
    have hne' : γ.t ≠ γ₂.wk := fun ee => by
      obtain ⟨k, hk⟩ := o1
      change h[γ.t]? = _ at hb
      rw [ee, e2, hk] at hb
      cases hb
    have : hfroz h₂ ⟨γ.t, 13, none⟩ = hfroz h ⟨γ.t, 13, none⟩ := by unfold hfroz; rw [p3 _ hne', e5, hu]
    rw [this, w3]
  refine TR.done (TK.seq (TK.region ?_))
  refine TR.val hk rfl rfl (fun ρ Q X hρ hq => sem_load1 (hρ _ _ rfl) (keepc wf) hq) ?_
  refine TR.val hk rfl rfl (fun ρ Q X hρ hq => sem_neqV (r := false) (hρ _ _ rfl) (hρ _ _ rfl) rfl hq) ?_
  refine TR.done (TK.cond (t := true) rfl (TK.region ?_))
  refine TR.val hk rfl rfl (fun ρ Q X hρ hq => sem_load1 (hρ _ _ rfl) (keepc wf) hq) ?_
  refine TR.val hk rfl rfl (fun ρ Q X hρ hq => sem_load1 (hρ _ _ rfl) (keepc w0) hq) ?_
  refine TR.call hk rfl rfl (fun ρ Q X hρ hq => semW_callF rfl (hρ _ _ rfl) (map_ofL hρ (vs := [.pointer (some ⟨γ.t, 0, none⟩)]) rfl) (by rw [Array.empty_append]; exact hq)) (hbody h₂ γ₂ hP1 hR) ?_ (fun _ _ _ x => x.elim)
  rintro v h₃ δ₃ ⟨rfl, u3, q3⟩
  refine TR.done (TK.done (TU.defer (by simp) fun a todo ka => ?_))
  have w2' : hcell h₃ ⟨γ.t, 13, none⟩ = some u0 := u3.hcell (keepc w2) hT.1
  rw [← e4]
  refine over_ok (u0 := u0) p1 ka.defers ?_ ?_ ?_ (by rw [e1]; exact w2') ?_ (by rw [e1, e4]; exact hnt) ?_ q3 (by rw [e1]; exact hqt)
  · refine Upd.trans (b := h₂) ⟨by omega, fun b _ hb => p3 b (fun e => hb (.inr e))⟩ (u3.mono fun _ _ x => .inl x)
  · rw [e1, e4]; exact u3.hcell (keepc w0) hT.2.1
  · rw [e1, e3]; exact u3.hcell (keepc w1) hT.1
  · rw [e1]
    obtain ⟨c, e, f, hb, _, _⟩ := hcell_some (keepc w2)
    have : hfroz h₃ ⟨γ.t, 13, none⟩ = hfroz h₂ ⟨γ.t, 13, none⟩ := by
      unfold hfroz
      rw [u3.get hb hT.1, hb]
    rw [this, hfz]
  · rw [e3]
    obtain ⟨k, hk⟩ := o2
    refine ⟨k, u3.get ?_ hT.2.2.1⟩
    rw [p3 _ (by rw [e2]; exact hne.symm), e5, hu]; exact hk
end
end Go.Proofs.Ytkppboglffdmnaa
