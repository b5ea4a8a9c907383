/- The law ClockOrder, part 2: what Advance does to all that the law has laid. Conditions: as each lemma says. -/
import Derived.Test.YtlhpgoddoglhaaaOrderA
namespace Go.Proofs.Ytlhpgoddoglhaaa
open Go Go.TJ Go.Proofs
section
variable {h0 h h' : Hp} {c : Nat} {B : Nat → Nat} {tg : Nat → Nat} {n : Nat} {vals : Nat → Int} {fns : Nat → Value} {Q : Nat → Nat} {r : Nat} {tv ov rv : Value} {k : Nat} {o : Nat → Bool} {rl : List Nat}

theorem OrdS.congr (x : OrdS h0 h c B tg n vals fns Q r tv ov rv k o rl) {vals' : Nat → Int} {fns' : Nat → Value} (hv : ∀ j, j < 34 → vals j = vals' j) (hf : ∀ i, i < 16 → fns i = fns' i) : OrdS h0 h c B tg n vals' fns' Q r tv ov rv k o rl :=
  { x with clk := x.clk.congr hv hf }

theorem OrdS.own {tag : Nat} (x : OrdS h0 h c B tg n vals fns Q r tv ov rv k o rl) {b : Nat} (hb : Own c B b) (ht : tg b = tag) (hne : tag ≠ 1) : False := hne (ht.symm.trans (x.t1 b hb))

/-- A step that turns the clock's blocks alone. -/
theorem OrdS.clock (x : OrdS h0 h c B tg n vals fns Q r tv ov rv k o rl) (u : Upd (Own c B) h h') {vals' : Nat → Int} {fns' : Nat → Value} (k' : Clk h' c B vals' fns') : OrdS h0 h' c B tg n vals' fns' Q r tv ov rv k o rl :=
  ⟨k', fun j hj => u.get (x.nums j hj) (fun y => x.own y (x.t2 j hj) (by omega)), u.get x.rg (fun y => x.own y x.t3 (by omega)), x.rs.upd u (fun b hb y => x.own y (x.t6 b hb) (by omega)), x.ts.upd u (fun b hb y => x.own y (x.t4 b hb) (by omega)), x.os.upd u (fun b hb y => x.own y (x.t5 b hb) (by omega)),
    x.w.over u (fun b hb => (x.t0 b (by rw [x.t1 b hb]; omega)).1), x.t1, x.t2, x.t3, x.t4, x.t5, x.t6, fun b hb => ⟨(x.t0 b hb).1, Nat.lt_of_lt_of_le (x.t0 b hb).2 u.size⟩⟩

theorem OrdS.setv (x : OrdS h0 h c B tg n vals fns Q r tv ov rv k o rl) {j : Nat} (hj : j < 34) (v : Int) : OrdS h0 (h.setIfInBounds (B j) (cellO v)) c B tg n (up vals j v) fns Q r tv ov rv k o rl :=
  x.clock (Upd.set _ _ _ (.inr ⟨j, hj, rfl⟩)) (x.clk.set hj v)

/-- What rang holds is laid anew. -/
theorem OrdS.rang (x : OrdS h0 h c B tg n vals fns Q r tv ov rv k o rl) {rv' : Value} {rl' : List Nat} (u : Upd (fun b => blk rv = some b ∨ b = r) h h') (hg : h'[r]? = some (oneO rv' 45)) (hs : SliceO h' rv' 3 1 rl'.length (rl'.map fun j : Nat => .int .i64 (j : Int)))
    (hb : ∀ b, blk rv' = some b → blk rv = some b ∨ (h.size ≤ b ∧ b < h'.size)) : ∃ tg', (∀ b, tg b ≠ 0 → tg' b = tg b) ∧ OrdS h0 h' c B tg' n vals fns Q r tv ov rv' k o rl' := by
  have hT : ∀ b tag, tg b = tag → tag ≠ 6 → tag ≠ 3 → ¬ (blk rv = some b ∨ b = r) := fun b tag ht h6 h3 y => by
    rcases y with y | y
    · exact h6 (ht.symm.trans (x.t6 b y))
    · exact h3 (ht.symm.trans (y ▸ x.t3))
  have h0s : ∀ b, tg b = 6 ∨ tg b = 3 → h0.size ≤ b := fun b hb => (x.t0 b (by omega)).1
  have key : ∀ b, tg b ≠ 0 → tg b ≠ 6 → ¬ blk rv' = some b := fun b h1 h2 y => by
    rcases hb b y with z | z
    · exact h2 (x.t6 b z)
    · have := (x.t0 b h1).2; omega
  refine ⟨fun b => if blk rv' = some b then 6 else tg b, fun b h1 => ?_, x.clk.upd u (fun b hb y => ?_), fun j hj => u.get (x.nums j hj) (hT _ 2 (x.t2 j hj) (by omega) (by omega)), hg, hs, x.ts.upd u (fun b hb => hT b 4 (x.t4 b hb) (by omega) (by omega)), x.os.upd u (fun b hb => hT b 5 (x.t5 b hb) (by omega) (by omega)),
    x.w.over u (fun b hb => h0s b (by rcases hb with y | y; · exact .inl (x.t6 b y)
                                      · exact .inr (y ▸ x.t3))), fun b hb => ?_, fun j hj => ?_, ?_, fun b hb => ?_, fun b hb => ?_, fun b hb => ?_, fun b hy => ?_⟩
  · dsimp only
    split
    · rename_i h2
      by_cases h6 : tg b = 6
      · exact h6.symm
      · exact absurd h2 (key b h1 h6)
    · rfl
  · rcases hb with z | z
    · exact x.own y (x.t6 b z) (by omega)
    · exact x.own y (z ▸ x.t3) (by omega)
  · rw [if_neg (key b (by rw [x.t1 b hb]; omega) (by rw [x.t1 b hb]; omega))]; exact x.t1 b hb
  · rw [if_neg (key _ (by rw [x.t2 j hj]; omega) (by rw [x.t2 j hj]; omega))]; exact x.t2 j hj
  · rw [if_neg (key _ (by rw [x.t3]; omega) (by rw [x.t3]; omega))]; exact x.t3
  · rw [if_neg (key b (by rw [x.t4 b hb]; omega) (by rw [x.t4 b hb]; omega))]; exact x.t4 b hb
  · rw [if_neg (key b (by rw [x.t5 b hb]; omega) (by rw [x.t5 b hb]; omega))]; exact x.t5 b hb
  · rw [if_pos hb]
  · split at hy
    · rename_i h2
      rcases hb b h2 with z | z
      · have := x.t0 b (by rw [x.t6 b z]; omega)
        exact ⟨this.1, Nat.lt_of_lt_of_le this.2 u.size⟩
      · exact ⟨Nat.le_trans x.w.size z.1, z.2⟩
    · exact ⟨(x.t0 b hy).1, Nat.lt_of_lt_of_le (x.t0 b hy).2 u.size⟩
end

/-- The caller's account of an Advance: who is over; what rang holds; whose each block is. -/
structure OSt where
  o : Nat → Bool
  rl : List Nat
  rv : Value
  tg : Nat → Nat

def Lex (D : Nat → Int) (a b : Nat) : Prop := D a < D b ∨ (D a = D b ∧ a ≤ b)

def OI (h0 : Hp) (c : Nat) (B : Nat → Nat) (base n : Nat) (D : Nat → Int) (Q : Nat → Nat) (r : Nat) (tv ov : Value) (m : Int) (o0 : Nat → Bool) (s : OSt) (k : Nat) (h : Hp) : Prop :=
  s.rl.length = k ∧ OrdS h0 h c B s.tg n (sv m 1 (stO n s.o) (duO n D)) (fnO r Q n) Q r tv ov s.rv n o0 s.rl ∧ base ≤ h.size ∧
  (∀ j, s.o j = (o0 j || s.rl.contains j)) ∧ (∀ j ∈ s.rl, j < n ∧ o0 j = false ∧ D j ≤ m) ∧ (∀ j ∈ s.rl, ∀ q, q < n → s.o q = false → D q ≤ m → Lex D j q) ∧ s.rl.Pairwise (Lex D) ∧ s.rl.Nodup

section
variable {main : Bool} {h : Hp} {δ : Nat} {c : Nat} {B : Nat → Nat}
theorem stO_two {n q : Nat} {o : Nat → Bool} (h : (stO n o q).tmod 4 = 2) : q < n ∧ o q = false := by
  unfold stO at h
  by_cases e : q < n
  · rw [if_pos e] at h
    cases ho : o q
    · exact ⟨e, rfl⟩
    · rw [ho] at h; cases h
  · rw [if_neg e] at h; cases h
theorem stO_set {n q : Nat} {o : Nat → Bool} (h : q < n) (ho : o q = false) : stO n o q = 2 := by
  unfold stO; rw [if_pos h, ho]; rfl

theorem oacc {h0 : Hp} {base n r : Nat} {D : Nat → Int} {Q : Nat → Nat} {tv ov : Value} {m : Int} {o0 : Nat → Bool} (hn : n ≤ 16) (own : ∀ b, Own c B b → b < base) :
    Acc main δ c B base m (fun s : OSt => sv m 1 (stO n s.o) (duO n D)) (fun _ => fnO r Q n) (OI h0 c B base n D Q r tv ov m o0) := by
  refine ⟨fun s k h hi => ⟨hi.2.1.clk, hi.2.2.1⟩, fun s k h h' hi u => ⟨hi.1, hi.2.1.upd0 u, Nat.le_trans hi.2.2.1 u.size, hi.2.2.2⟩, own, fun s k h₀ h i hi0 uu hk hl => ?_⟩
  obtain ⟨hk1, x0, hz0, ho, hrl, hlx, hpw, hnd⟩ := hi0
  have x := x0.upd0 uu
  have hi16 := (lk_lt hl).1
  have hst := (lk_lt hl).2.1
  have hdu := (lk_lt hl).2.2
  rw [sv_st] at hst
  rw [sv_du] at hdu
  obtain ⟨hin, hoi⟩ := stO_two hst
  have hD : duO n D i = D i := if_pos hin
  rw [hD] at hdu
  have hv2 : sv m 1 (stO n s.o) (duO n D) (2 + 2 * i) = 2 := by rw [sv_st]; exact stO_set hin hoi
  rw [hv2]
  have x1 := x.setv (j := 2 + 2 * i) (by omega) (2 + 1)
  have hrr : ∀ b, blk s.rv = some b → b ≠ r := fun b hb e => by have := x.t6 b hb; have := x.t3; rw [e] at *; omega
  have hkl : k < 64 := hk
  refine ⟨by omega, by omega, _, _, if_pos hin, inferInstance, (oring (j := i) x1.rg x1.rs (x1.nums i hin) hrr (by omega)).mono ?_⟩
  rintro (v | p) h' δ' hq
  rotate_left
  · exact hq.elim
  obtain ⟨rfl, rv', hg', hs', u2, hb'⟩ := hq
  obtain ⟨tg', htg, x2⟩ := x1.rang u2 hg' hs' hb'
  have hsub : ∀ b, (blk s.rv = some b ∨ b = r) → b < h₀.size := fun b hb => by
    rcases hb with z | z
    · exact (x0.t0 b (by rw [x0.t6 b z]; omega)).2
    · exact (x0.t0 b (by rw [z, x0.t3]; omega)).2
  have u1 : Upd (fun b => b < h₀.size) h (h.setIfInBounds (B (2 + 2 * i)) (cellO (2 + 1))) := Upd.set _ _ _ (Nat.lt_of_lt_of_le (own _ (.inr ⟨_, by omega, rfl⟩)) hz0)
  have x3 := x2.setv (j := 2 + 2 * i) (by omega) (2 + 2)
  refine ⟨rfl, u1.trans (u2.mono (fun b _ hb => hsub b hb)), ⟨_, _, x2.clk⟩, ⟨up s.o i true, s.rl ++ [i], rv', tg'⟩, by simp [hk1], x3.congr (fun j _ => ?_) (fun _ _ => rfl), ?_, fun j => ?_, fun j hj => ?_, fun j hj q hq hoq hdq => ?_, ?_, ?_⟩
  · refine sv_cases ?_ ?_ (fun q => ?_) (fun q => ?_) j
    · rw [up_ne _ _ (by omega), up_ne _ _ (by omega)]; rfl
    · rw [up_ne _ _ (by omega), up_ne _ _ (by omega)]; rfl
    · by_cases e : q = i
      · subst e; rw [up_same]; unfold stO; rw [if_pos hin]; simp [up_same]
      · rw [up_ne _ _ (by omega), up_ne _ _ (by omega), sv_st]; unfold stO; simp only [up_ne _ _ e]
    · rw [up_ne _ _ (by omega), up_ne _ _ (by omega), sv_du]
  · have := uu.size; have := u2.size; simp at *; omega
  · dsimp only
    by_cases e : j = i
    · subst e; rw [up_same]; simp
    · rw [up_ne _ _ e, ho j]; simp [e]
  · rcases List.mem_append.mp hj with y | y
    · exact hrl j y
    · have : j = i := by simpa using y
      subst this
      have := ho j
      rw [hoi] at this
      refine ⟨hin, ?_, hdu⟩
      cases h0j : o0 j
      · rfl
      · rw [h0j] at this; cases this
  · have hq1 : up s.o i true q = false := hoq
    have hqi : q ≠ i := fun e => by rw [e, up_same] at hq1; cases hq1
    have hq2 : s.o q = false := by rwa [up_ne _ _ hqi] at hq1
    rcases List.mem_append.mp hj with y | y
    · exact hlx j y q hq hq2 hdq
    · have : j = i := by simpa using y
      subst this
      have := lk_min hl q (by omega) (by rw [sv_st, stO_set hq hq2]; rfl) (by rw [sv_du]; unfold duO; rw [if_pos hq]; exact hdq)
      rw [sv_du, sv_du] at this
      unfold duO at this
      rw [if_pos hin, if_pos hq] at this
      exact this
  · refine List.pairwise_append.mpr ⟨hpw, by simp, fun a ha b hb => ?_⟩
    have : b = i := by simpa using hb
    subst this
    exact hlx a ha b hin hoi hdu
  · refine List.nodup_append.mpr ⟨hnd, by simp, fun a ha b hb => ?_⟩
    have : b = i := by simpa using hb
    subst this
    intro e
    subst e
    have := ho a
    rw [hoi] at this
    have h2 : s.rl.contains a = true := by simpa using ha
    rw [h2] at this
    simp at this
end
end Go.Proofs.Ytlhpgoddoglhaaa
