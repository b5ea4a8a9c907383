/- The law ClockOrder, part 3: what the law lays. Conditions: as each lemma says. -/
import Derived.Test.YtlhpgoddoglhaaaOrderB
namespace Go.Proofs.Ytlhpgoddoglhaaa
open Go Go.TJ Go.Proofs
section
variable {h0 h h' : Hp} {c : Nat} {B : Nat → Nat} {tg : Nat → Nat} {n : Nat} {vals : Nat → Int} {fns : Nat → Value} {Q : Nat → Nat} {r : Nat} {tv ov rv : Value} {k : Nat} {o : Nat → Bool} {rl : List Nat}

/-- One block more, of whatever tag. -/
theorem OrdS.more (x : OrdS h0 h c B tg n vals fns Q r tv ov rv k o rl) (ob : Obj) (tag : Nat) (Q' : Nat → Nat) (hQ : ∀ j, j < k → Q' j = Q j) : OrdS h0 (h.push ob) c B (up tg h.size tag) n vals fns Q' r tv ov rv k o rl := by
  have u : Upd (fun _ => False) h (h.push ob) := Upd.push _ _
  have z : tg h.size = 0 := by
    by_cases e : tg h.size = 0
    · exact e
    · have := (x.t0 _ e).2; omega
  have key : ∀ b, tg b ≠ 0 → up tg h.size tag b = tg b := fun b hb => up_ne _ _ (fun e => hb (e ▸ z))
  have y := x.upd0 u
  refine ⟨y.clk, fun j hj => by rw [hQ j hj]; exact y.nums j hj, y.rg, y.rs, y.ts, y.os, y.w, fun b hb => ?_, fun j hj => ?_, ?_, fun b hb => ?_, fun b hb => ?_, fun b hb => ?_, fun b hb => ?_⟩
  · rw [key b (by rw [x.t1 b hb]; omega)]; exact x.t1 b hb
  · rw [hQ j hj, key _ (by rw [x.t2 j hj]; omega)]; exact x.t2 j hj
  · rw [key _ (by rw [x.t3]; omega)]; exact x.t3
  · rw [key _ (by rw [x.t4 b hb]; omega)]; exact x.t4 b hb
  · rw [key _ (by rw [x.t5 b hb]; omega)]; exact x.t5 b hb
  · rw [key _ (by rw [x.t6 b hb]; omega)]; exact x.t6 b hb
  · by_cases e : b = h.size
    · subst e; exact ⟨x.w.size, by simp⟩
    · rw [up_ne _ _ e] at hb
      exact ⟨(x.t0 b hb).1, Nat.lt_of_lt_of_le (x.t0 b hb).2 u.size⟩

/-- A step that turns blocks of tag 2 that are not among the numbers. -/
theorem OrdS.other (x : OrdS h0 h c B tg n vals fns Q r tv ov rv k o rl) {T : Nat → Prop} (u : Upd T h h') (hT : ∀ b, T b → tg b = 2 ∧ ∀ j, j < k → Q j ≠ b) : OrdS h0 h' c B tg n vals fns Q r tv ov rv k o rl := by
  have ne : ∀ b tag, tg b = tag → tag ≠ 2 → ¬ T b := fun b tag ht h2 y => h2 (ht.symm.trans (hT b y).1)
  exact ⟨x.clk.upd u (fun b hb y => by have := x.t1 b y; have := (hT b hb).1; omega), fun j hj => u.get (x.nums j hj) (fun y => (hT _ y).2 j hj rfl), u.get x.rg (ne _ 3 x.t3 (by omega)), x.rs.upd u (fun b hb => ne b 6 (x.t6 b hb) (by omega)), x.ts.upd u (fun b hb => ne b 4 (x.t4 b hb) (by omega)), x.os.upd u (fun b hb => ne b 5 (x.t5 b hb) (by omega)),
    x.w.over u (fun b hb => (x.t0 b (by rw [(hT b hb).1]; omega)).1), x.t1, x.t2, x.t3, x.t4, x.t5, x.t6, fun b hb => ⟨(x.t0 b hb).1, Nat.lt_of_lt_of_le (x.t0 b hb).2 u.size⟩⟩

/-- One timer more: the slice timers is laid anew. -/
theorem OrdS.timer (x : OrdS h0 h c B tg n vals fns Q r tv ov rv k o rl) {tv' : Value} (u : Upd (fun b => blk tv = some b) h h') (hs : SliceO h' tv' 32 2 (k + 1) (((List.range k).flatMap fun j : Nat => [.int .i64 (j : Int), .int .i64 2]) ++ [.int .i64 (k : Int), .int .i64 2]))
    (hb : ∀ b, blk tv' = some b → blk tv = some b ∨ (h.size ≤ b ∧ b < h'.size)) (hk : h[Q k]? = some (intO k)) (hkt : tg (Q k) = 2) : ∃ tg', (∀ b, tg b ≠ 0 → tg' b = tg b) ∧ OrdS h0 h' c B tg' n vals fns Q r tv' ov rv (k + 1) o rl := by
  have hT : ∀ b tag, tg b = tag → tag ≠ 4 → ¬ (blk tv = some b) := fun b tag ht h4 y => h4 (ht.symm.trans (x.t4 b y))
  have key : ∀ b, tg b ≠ 0 → tg b ≠ 4 → ¬ blk tv' = some b := fun b h1 h2 y => by
    rcases hb b y with z | z
    · exact h2 (x.t4 b z)
    · have := (x.t0 b h1).2; omega
  refine ⟨fun b => if blk tv' = some b then 4 else tg b, fun b h1 => ?_, x.clk.upd u (fun b hb y => x.own y (x.t4 b hb) (by omega)), fun j hj => ?_, u.get x.rg (hT _ 3 x.t3 (by omega)), x.rs.upd u (fun b hb => hT b 6 (x.t6 b hb) (by omega)), ?_, x.os.upd u (fun b hb => hT b 5 (x.t5 b hb) (by omega)),
    x.w.over u (fun b hb => (x.t0 b (by rw [x.t4 b hb]; omega)).1), fun b hb => ?_, fun j hj => ?_, ?_, fun b hb => ?_, fun b hb => ?_, fun b hb => ?_, fun b hy => ?_⟩
  · dsimp only
    split
    · rename_i h2
      by_cases h6 : tg b = 4
      · exact h6.symm
      · exact absurd h2 (key b h1 h6)
    · rfl
  · by_cases e : j = k
    · subst e; exact u.get hk (hT _ 2 hkt (by omega))
    · exact u.get (x.nums j (by omega)) (hT _ 2 (x.t2 j (by omega)) (by omega))
  · rw [List.range_succ, List.flatMap_append]; simpa using hs
  · rw [if_neg (key b (by rw [x.t1 b hb]; omega) (by rw [x.t1 b hb]; omega))]; exact x.t1 b hb
  · have : tg (Q j) = 2 := by
      by_cases e : j = k
      · subst e; exact hkt
      · exact x.t2 j (by omega)
    rw [if_neg (key _ (by rw [this]; omega) (by rw [this]; omega))]; exact this
  · rw [if_neg (key _ (by rw [x.t3]; omega) (by rw [x.t3]; omega))]; exact x.t3
  · rw [if_pos hb]
  · rw [if_neg (key b (by rw [x.t5 b hb]; omega) (by rw [x.t5 b hb]; omega))]; exact x.t5 b hb
  · rw [if_neg (key b (by rw [x.t6 b hb]; omega) (by rw [x.t6 b hb]; omega))]; exact x.t6 b hb
  · split at hy
    · rename_i h2
      rcases hb b h2 with z | z
      · have := x.t0 b (by rw [x.t4 b z]; omega)
        exact ⟨this.1, Nat.lt_of_lt_of_le this.2 u.size⟩
      · exact ⟨Nat.le_trans x.w.size z.1, z.2⟩
    · exact ⟨(x.t0 b hy).1, Nat.lt_of_lt_of_le (x.t0 b hy).2 u.size⟩

/-- over[q] is set. -/
theorem OrdS.over (x : OrdS h0 h c B tg n vals fns Q r tv ov rv k o rl) {b cap q : Nat} (hov : ov = .slice (some ⟨b, 0, none⟩) n cap) (hq : q < n) : OrdS h0 (hset h ⟨b, q, none⟩ (.bool true)) c B tg n vals fns Q r tv ov rv k (up o q true) rl := by
  subst hov
  have u : Upd (fun b' => b' = b) h (hset h ⟨b, q, none⟩ (.bool true)) := Upd.hset _ _ _ rfl
  have t5 : tg b = 5 := x.t5 b rfl
  have ne : ∀ b' tag, tg b' = tag → tag ≠ 5 → ¬ b' = b := fun b' tag ht h5 y => h5 (ht.symm.trans (y ▸ t5))
  have hs := x.os.set (j := q) (by simpa using hq) (.bool true)
  refine ⟨x.clk.upd u (fun b' hb y => x.own y (hb ▸ t5) (by omega)), fun j hj => u.get (x.nums j hj) (ne _ 2 (x.t2 j hj) (by omega)), u.get x.rg (ne _ 3 x.t3 (by omega)), x.rs.upd u (fun b' hb => ne b' 6 (x.t6 b' hb) (by omega)), x.ts.upd u (fun b' hb => ne b' 4 (x.t4 b' hb) (by omega)), ?_,
    x.w.over u (fun b' hb => (x.t0 b' (by rw [hb, t5]; omega)).1), x.t1, x.t2, x.t3, x.t4, x.t5, x.t6, fun b' hb => ⟨(x.t0 b' hb).1, Nat.lt_of_lt_of_le (x.t0 b' hb).2 u.size⟩⟩
  have e : (((List.range n).map fun q => Value.bool (o q)).set q (.bool true)) = (List.range n).map fun j => Value.bool (up o q true j) := by
    apply List.ext_getElem
    · simp
    · intro i h1 h2
      simp only [List.getElem_set, List.getElem_map, List.getElem_range]
      by_cases e : q = i
      · subst e; simp [up_same]
      · rw [if_neg e, up_ne _ _ (fun y => e y.symm)]
  rw [← e]
  exact hs

theorem flat_get {q : Nat} : ∀ {k : Nat}, q < k → ((List.range k).flatMap fun j : Nat => [Value.int .i64 (j : Int), .int .i64 2])[q * 2]? = some (.int .i64 q) ∧ ((List.range k).flatMap fun j : Nat => [Value.int .i64 (j : Int), .int .i64 2])[q * 2 + 1]? = some (.int .i64 2)
  | 0, h => by omega
  | k + 1, h => by
    have hl : ∀ k, ((List.range k).flatMap fun j : Nat => [Value.int .i64 (j : Int), .int .i64 2]).length = k * 2 := by
      intro k
      induction k with
      | zero => rfl
      | succ k ih => rw [List.range_succ, List.flatMap_append, List.length_append, ih]; simp; omega
    rw [List.range_succ, List.flatMap_append]
    by_cases e : q = k
    · subst e
      rw [List.getElem?_append_right (by rw [hl]; omega), List.getElem?_append_right (by rw [hl]; omega), hl]
      simp
    · rw [List.getElem?_append_left (by rw [hl]; omega), List.getElem?_append_left (by rw [hl]; omega)]
      exact flat_get (by omega)

/-- A timer's row, and a cell of over. -/
theorem OrdS.rows (x : OrdS h0 h c B tg n vals fns Q r tv ov rv n o rl) {q : Nat} (hq : q < n) : ∃ bT cT bO cO, tv = .slice (some ⟨bT, 0, none⟩) n cT ∧ ov = .slice (some ⟨bO, 0, none⟩) n cO ∧ hrow h bT (0 + q * 2) [.int .i64 q, .int .i64 2] ∧ hcell h ⟨bO, 0 + q * 1, none⟩ = some (.bool (o q)) ∧ hfroz h ⟨bO, 0 + q * 1, none⟩ = false ∧ tg bT = 4 ∧ tg bO = 5 := by
  obtain ⟨bT, cT, rfl, h1, -⟩ := x.ts.cell (by omega)
  obtain ⟨bO, cO, rfl, h2, h3⟩ := x.os.cell (by omega)
  refine ⟨bT, cT, bO, cO, rfl, rfl, fun i v hv => ?_, ?_, h3 _, x.t4 _ rfl, x.t5 _ rfl⟩
  · rcases i with _ | _ | i
    · cases hv; rw [show 0 + q * 2 + 0 = q * 2 by omega]; exact h1 _ _ (flat_get hq).1
    · cases hv; rw [show 0 + q * 2 + (0 + 1) = q * 2 + 1 by omega]; exact h1 _ _ (flat_get hq).2
    · simp at hv
  · rw [show 0 + q * 1 = q by omega]
    exact h2 _ _ (by simp [hq])
end
end Go.Proofs.Ytlhpgoddoglhaaa
