/- Own theory, part 23: a drawn region in which two channels, a struct that holds them, and a variable are made, in any order. Conditions: as the lemma says. -/
import Derived.Test.YtkppboglffdmnaaTjW
namespace Go.TJ
open Go Go.Conc
variable {Γ : Type}

abbrev chan0 : Obj := .chan 0 #[] false 0 0 false
def lst (a b c d e : Bool) : Array Bool := #[true, true, true, true, true, true, a, b, c, d, e, false]
def rdy (a b c d e : Bool) : List Nat := (if a then [] else [6]) ++ (if b then [] else [7]) ++ (if a && b && !c then [8] else []) ++ (if c && !d then [9] else []) ++ (if e then [] else [10]) ++ (if a && b && c && d && e then [11] else [])

theorem rdy_ne : ∀ a b c d e : Bool, (c = true → a = true ∧ b = true) → (d = true → c = true) → ¬ (a = true ∧ b = true ∧ c = true ∧ d = true ∧ e = true) → rdy a b c d e ≠ [] := by decide
theorem rdy_all : ∀ a b c d e : Bool, ¬ (a = true ∧ b = true ∧ c = true ∧ d = true ∧ e = true) → ((rdy a b c d e).all fun i => (i == 6 && !a) || (i == 7 && !b) || (i == 8 && a && b && !c) || (i == 9 && c && !d) || (i == 10 && !e)) = true := by decide
theorem rdy_mem (a b c d e : Bool) (h : ¬ (a = true ∧ b = true ∧ c = true ∧ d = true ∧ e = true)) (i : Nat) (hi : i ∈ rdy a b c d e) : (i = 6 ∧ a = false) ∨ (i = 7 ∧ b = false) ∨ (i = 8 ∧ a = true ∧ b = true ∧ c = false) ∨ (i = 9 ∧ c = true ∧ d = false) ∨ (i = 10 ∧ e = false) := by
  have := List.all_eq_true.1 (rdy_all a b c d e h) i hi
  simpa [or_assoc, and_assoc] using this

/-- What is known on the way. -/
structure InvM (h0 : Hp) (e0 : Nat → Option Value) (D : Nat → Nat) (ts ta : TypeId) (cells : Nat → Nat → Array Value) (a b c d e : Bool) (env : Env) (h : Hp) (F : Nat → Option (Nat × Obj)) : Prop where
  made : Made h0 h F
  old : ∀ i v, e0 i = some v → look env i = some v
  hc : c = true → a = true ∧ b = true
  hd : d = true → c = true
  a1 : a = true → ∃ w, F 6 = some (w, chan0) ∧ look env (D 6) = some (.chan (some w))
  b1 : b = true → ∃ s, F 7 = some (s, chan0) ∧ look env (D 7) = some (.chan (some s))
  c1 : c = true → ∃ w s, F 6 = some (w, chan0) ∧ F 7 = some (s, chan0) ∧ look env (D 8) = some (.agg (cells w s))
  d1 : d = true → ∃ w s t, F 6 = some (w, chan0) ∧ F 7 = some (s, chan0) ∧ F 9 = some (t, .cells (cells w s) ts (0, 0)) ∧ look env (D 9) = some (.pointer (some ⟨t, 0, none⟩))
  e1 : e = true → ∃ p, F 10 = some (p, .cells #[.pointer none] ta (0, 0)) ∧ look env (D 10) = some (.pointer (some ⟨p, 0, none⟩))

section
variable {P : Program} {main : Bool} {S : Sit Γ} {f : FuncId} {n : Nat} {k : List Item} {ds : List Deferred} {δ : Ix Γ} {R : Post Γ} {ops : Array Oper} {Z : Hp → Prop} {h0 : Hp} {e0 : Nat → Option Value} {D : Nat → Nat}

theorem EA.listed {m : Nat} {l l' : Array Bool} {env : Env} {h : Hp} (hl : l = l') (hk : EA P main S f n ops Z 11 m l' k env ds h δ R) : EA P main S f n ops Z 11 m l k env ds h δ R := hl ▸ hk

theorem EA.chans2 {tc elem sz by_ ts ta sa by2 : Nat} {z : Value} {dir : ChanDir} [Und P tc (.chan dir elem)] [Inf P elem sz by_ z] [Inf P ta sa by2 (.pointer none)] {cells : Nat → Nat → Array Value} {bp : Array (Nat × Operand)} {t6 t7 t8 t9 t10 : TypeId} {p6 p7 p8 p9 p10 : String} {f6 f7 f8 f9 f10 : Array Edge}
    (i6 : ops[6]? = some ⟨some (D 6), .makeChan tc (.const (.int .i64 0)), t6, p6, f6, none⟩) (i7 : ops[7]? = some ⟨some (D 7), .makeChan tc (.const (.int .i64 0)), t7, p7, f7, none⟩) (i8 : ops[8]? = some ⟨some (D 8), .build ts bp, t8, p8, f8, none⟩)
    (i9 : ops[9]? = some ⟨some (D 9), .box ts (.tmp (D 8)), t9, p9, f9, none⟩) (i10 : ops[10]? = some ⟨some (D 10), .alloc ta, t10, p10, f10, none⟩) (hr : ∀ a b c d e, Region.ready .any ops (lst a b c d e) = rdy a b c d e)
    (hD : ∀ i j, 6 ≤ i → i ≤ 10 → 6 ≤ j → j ≤ 10 → D i = D j → i = j) (hDn : ∀ i, 6 ≤ i → i ≤ 10 → Nat.blt (D i) n = true) (he0 : ∀ i, 6 ≤ i → i ≤ 10 → e0 (D i) = none) (hZ : ∀ h o, Z h → Z (h.push o))
    (hb : ∀ env w s, (∀ i v, e0 i = some v → look env i = some v) → look env (D 6) = some (.chan (some w)) → look env (D 7) = some (.chan (some s)) →
      ∀ (ρ : Operand → Value) (h : Hp) (Q : Next → Hp → Ix Γ → Prop) (X : Value → Hp → Ix Γ → Prop), (∀ x v, ev env x = some v → ρ x = v) → Q (.value (.agg (cells w s))) h δ → SemW P S (execOp ρ ⟨some (D 8), .build ts bp, t8, p8, f8, none⟩) h δ Q X)
    (fin : ∀ env h F, InvM h0 e0 D ts ta cells true true true true true env h F → Z h → EA P main S f n ops Z 11 1 (lst true true true true true) k env ds h δ R) :
    ∀ (m : Nat) (a b c d e : Bool) (env : Env) (h : Hp) (F : Nat → Option (Nat × Obj)), m = (cond a 0 1) + (cond b 0 1) + (cond c 0 1) + (cond d 0 1) + (cond e 0 1) + 1 → InvM h0 e0 D ts ta cells a b c d e env h F → Z h → EA P main S f n ops Z 11 m (lst a b c d e) k env ds h δ R := by
  have ne : ∀ {i j}, i ≠ j → 6 ≤ i → i ≤ 10 → 6 ≤ j → j ≤ 10 → D i ≠ D j := fun {i j} hij a b c d e => hij (hD i j a b c d e)
  have oldp : ∀ {env : Env} {i v}, 6 ≤ i → i ≤ 10 → (∀ j x, e0 j = some x → look env j = some x) → ∀ j x, e0 j = some x → look ((D i, v) :: env) j = some x := fun {env i v} h1 h2 ho j x hx => by
    rw [look_cons, if_neg]
    · exact ho j x hx
    · rintro rfl
      rw [he0 i h1 h2] at hx; cases hx
  have lk : ∀ {env : Env} {i j : Nat} {v x : Value}, i ≠ j → 6 ≤ i → i ≤ 10 → 6 ≤ j → j ≤ 10 → look env (D j) = some x → look ((D i, v) :: env) (D j) = some x := fun {env i j v x} hij a b c d hx => by
    rw [look_cons, if_neg (ne hij a b c d)]; exact hx
  have lks : ∀ {env : Env} {i : Nat} {v : Value}, look ((D i, v) :: env) (D i) = some v := fun {env i v} => by rw [look_cons, if_pos rfl]
  have un : ∀ {F : Nat → Option (Nat × Obj)} {i j x y}, i ≠ j → F j = y → ut F i x j = y := fun {F i j x y} hij hy => by rw [ut_ne _ _ (Ne.symm hij)]; exact hy
  intro m
  induction m with
  | zero => intro a b c d e env h F hm; omega
  | succ m ih =>
    intro a b c d e env h F hm I hz
    by_cases hall : a = true ∧ b = true ∧ c = true ∧ d = true ∧ e = true
    · obtain ⟨rfl, rfl, rfl, rfl, rfl⟩ := hall
      obtain rfl : m = 0 := by simpa using hm
      exact fin env h F I hz
    · refine EA.alts (hr a b c d e) (rdy_ne a b c d e I.hc I.hd hall) fun i hi => ?_
      rcases rdy_mem a b c d e hall i hi with ⟨rfl, rfl⟩ | ⟨rfl, rfl⟩ | ⟨rfl, rfl, rfl, rfl⟩ | ⟨rfl, rfl, rfl⟩ | ⟨rfl, rfl⟩
      · have hcf : c = false := by cases c with | false => rfl | true => exact absurd (I.hc rfl).1 (by simp)
        have hdf : d = false := by cases d with | false => rfl | true => exact absurd (I.hd rfl) (by simp [hcf])
        subst hcf hdf
        refine EAi.val (l' := lst true b false false e) i6 rfl (hDn 6 (by omega) (by omega)) rfl (fun ρ Q X hρ hq => sem_makeChan (hρ _ _ rfl) hq) (hZ _ _ hz) (ih true b false false e _ _ (ut F 6 (some (h.size, chan0))) (by simp at hm ⊢; omega) ?_ (hZ _ _ hz))
        exact ⟨I.made.push 6 _, oldp (by omega) (by omega) I.old, fun x => (by cases x), fun x => (by cases x), fun _ => ⟨_, ut_same _ _ _, lks⟩, fun x => (I.b1 x).imp fun s y => ⟨un (by omega) y.1, lk (by omega) (by omega) (by omega) (by omega) (by omega) y.2⟩, fun x => (by cases x), fun x => (by cases x), fun x => (I.e1 x).imp fun s y => ⟨un (by omega) y.1, lk (by omega) (by omega) (by omega) (by omega) (by omega) y.2⟩⟩
      · have hcf : c = false := by cases c with | false => rfl | true => exact absurd (I.hc rfl).2 (by simp)
        have hdf : d = false := by cases d with | false => rfl | true => exact absurd (I.hd rfl) (by simp [hcf])
        subst hcf hdf
        refine EAi.val (l' := lst a true false false e) i7 rfl (hDn 7 (by omega) (by omega)) rfl (fun ρ Q X hρ hq => sem_makeChan (hρ _ _ rfl) hq) (hZ _ _ hz) (ih a true false false e _ _ (ut F 7 (some (h.size, chan0))) (by simp at hm ⊢; omega) ?_ (hZ _ _ hz))
        exact ⟨I.made.push 7 _, oldp (by omega) (by omega) I.old, fun x => (by cases x), fun x => (by cases x), fun x => (I.a1 x).imp fun s y => ⟨un (by omega) y.1, lk (by omega) (by omega) (by omega) (by omega) (by omega) y.2⟩, fun _ => ⟨_, ut_same _ _ _, lks⟩, fun x => (by cases x), fun x => (by cases x), fun x => (I.e1 x).imp fun s y => ⟨un (by omega) y.1, lk (by omega) (by omega) (by omega) (by omega) (by omega) y.2⟩⟩
      · have hdf : d = false := by cases d with | false => rfl | true => exact absurd (I.hd rfl) (by simp)
        subst hdf
        obtain ⟨w, w1, w2⟩ := I.a1 rfl
        obtain ⟨s, s1, s2⟩ := I.b1 rfl
        refine EAi.val (l' := lst true true true false e) i8 rfl (hDn 8 (by omega) (by omega)) rfl (fun ρ Q X hρ hq => hb env w s I.old w2 s2 ρ h Q X hρ hq) hz (ih true true true false e _ _ F (by simp at hm ⊢; omega) ?_ hz)
        exact ⟨I.made, oldp (by omega) (by omega) I.old, fun _ => ⟨rfl, rfl⟩, fun x => (by cases x), fun _ => ⟨w, w1, lk (by omega) (by omega) (by omega) (by omega) (by omega) w2⟩, fun _ => ⟨s, s1, lk (by omega) (by omega) (by omega) (by omega) (by omega) s2⟩, fun _ => ⟨w, s, w1, s1, lks⟩, fun x => (by cases x), fun x => (I.e1 x).imp fun s y => ⟨y.1, lk (by omega) (by omega) (by omega) (by omega) (by omega) y.2⟩⟩
      · obtain ⟨ha, hb'⟩ := I.hc rfl
        subst ha hb'
        obtain ⟨w, s, w1, s1, c2⟩ := I.c1 rfl
        refine EAi.val (v := .pointer (some ⟨h.size, 0, none⟩)) (h' := h.push (.cells (cells w s) ts)) (l' := lst true true true true e) i9 rfl (hDn 9 (by omega) (by omega)) rfl (fun ρ Q X hρ hq => ?_) (hZ _ _ hz) (ih true true true true e _ _ (ut F 9 (some (h.size, .cells (cells w s) ts (0, 0)))) (by simp at hm ⊢; omega) ?_ (hZ _ _ hz))
        · show SemW P S (Instr.box ts (ρ (.tmp (D 8))) >>= fun v => pure (.value v)) h δ Q X
          rw [hρ (.tmp (D 8)) _ c2]
          exact ⟨thawed, hq⟩
        · obtain ⟨w', w3, w4⟩ := I.a1 rfl
          obtain ⟨s', s3, s4⟩ := I.b1 rfl
          exact ⟨I.made.push 9 _, oldp (by omega) (by omega) I.old, fun _ => ⟨rfl, rfl⟩, fun _ => rfl, fun _ => ⟨w', un (by omega) w3, lk (by omega) (by omega) (by omega) (by omega) (by omega) w4⟩, fun _ => ⟨s', un (by omega) s3, lk (by omega) (by omega) (by omega) (by omega) (by omega) s4⟩,
            fun _ => ⟨w, s, un (by omega) w1, un (by omega) s1, lk (by omega) (by omega) (by omega) (by omega) (by omega) c2⟩, fun _ => ⟨w, s, _, un (by omega) w1, un (by omega) s1, ut_same _ _ _, lks⟩, fun x => (I.e1 x).imp fun s y => ⟨un (by omega) y.1, lk (by omega) (by omega) (by omega) (by omega) (by omega) y.2⟩⟩
      · refine EAi.val (l' := lst a b c d true) i10 rfl (hDn 10 (by omega) (by omega)) rfl (fun ρ Q X hρ hq => sem_alloc hq) (hZ _ _ hz) (ih a b c d true _ _ (ut F 10 (some (h.size, .cells #[.pointer none] ta (0, 0)))) (by simp at hm ⊢; omega) ?_ (hZ _ _ hz))
        exact ⟨I.made.push 10 _, oldp (by omega) (by omega) I.old, I.hc, I.hd, fun x => (I.a1 x).imp fun s y => ⟨un (by omega) y.1, lk (by omega) (by omega) (by omega) (by omega) (by omega) y.2⟩, fun x => (I.b1 x).imp fun s y => ⟨un (by omega) y.1, lk (by omega) (by omega) (by omega) (by omega) (by omega) y.2⟩,
          fun x => (I.c1 x).imp fun w y => y.imp fun s z => ⟨un (by omega) z.1, un (by omega) z.2.1, lk (by omega) (by omega) (by omega) (by omega) (by omega) z.2.2⟩, fun x => (I.d1 x).imp fun w y => y.imp fun s z => z.imp fun t q => ⟨un (by omega) q.1, un (by omega) q.2.1, un (by omega) q.2.2.1, lk (by omega) (by omega) (by omega) (by omega) (by omega) q.2.2.2⟩, fun _ => ⟨_, ut_same _ _ _, lks⟩⟩
end
end Go.TJ
