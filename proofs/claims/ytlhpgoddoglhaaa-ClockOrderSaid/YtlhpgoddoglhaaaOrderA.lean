/- The law ClockOrder, part 1: the clock's state in words of its slots; the timers' function; what Advance rings. Conditions: as each lemma says. -/
import Derived.Test.YtlhpgoddoglhaaaClockWorks
import Derived.Test.YtlhpgoddoglhaaaTjA
namespace Go.Proofs.Ytlhpgoddoglhaaa
open Go Go.TJ Go.Proofs

/-- A clock's values, out of its slots' states and dues. -/
def sv (m b : Int) (st du : Nat → Int) : Nat → Int := fun j => if j = 0 then m else if j = 1 then b else if j % 2 = 0 then st ((j - 2) / 2) else du ((j - 3) / 2)
theorem sv_st {m b : Int} {st du : Nat → Int} (q : Nat) : sv m b st du (2 + 2 * q) = st q := by
  unfold sv; rw [if_neg (by omega), if_neg (by omega), if_pos (by omega)]; congr 1; omega
theorem sv_du {m b : Int} {st du : Nat → Int} (q : Nat) : sv m b st du (3 + 2 * q) = du q := by
  unfold sv; rw [if_neg (by omega), if_neg (by omega), if_neg (by omega)]; congr 1; omega
theorem sv_cases {m b : Int} {st du : Nat → Int} {f : Nat → Int} (h0 : f 0 = m) (h1 : f 1 = b) (hs : ∀ q, f (2 + 2 * q) = st q) (hd : ∀ q, f (3 + 2 * q) = du q) (j : Nat) : f j = sv m b st du j := by
  by_cases e0 : j = 0
  · subst e0; exact h0
  by_cases e1 : j = 1
  · subst e1; exact h1
  by_cases e2 : j % 2 = 0
  · have e : j = 2 + 2 * ((j - 2) / 2) := by omega
    rw [e, hs, sv_st]
  · have e : j = 3 + 2 * ((j - 3) / 2) := by omega
    rw [e, hd, sv_du]

theorem lk_min {vals : Nat → Int} {m : Int} : ∀ {n i : Nat}, lk vals m n = some i → ∀ q, q < n → (vals (2 + 2 * q)).tmod 4 = 2 → vals (3 + 2 * q) ≤ m → vals (3 + 2 * i) < vals (3 + 2 * q) ∨ (vals (3 + 2 * i) = vals (3 + 2 * q) ∧ i ≤ q)
  | 0, _, h, _, _, _, _ => by cases h
  | n + 1, i, h, q, hq, h2, hd => by
    unfold lk at h
    split at h
    · rename_i hc
      cases h
      by_cases e : q = n
      · subst e; exact .inr ⟨rfl, Nat.le_refl _⟩
      · cases hl : lk vals m n with
        | none =>
          exfalso
          have : ∀ k, lk vals m k = none → ∀ q, q < k → (vals (2 + 2 * q)).tmod 4 = 2 → vals (3 + 2 * q) ≤ m → False := by
            intro k
            induction k with
            | zero => intro _ q hq; omega
            | succ k ih =>
              intro hk q hq h2 hd
              unfold lk at hk
              split at hk
              · cases hk
              · rename_i hn
                by_cases e : q = k
                · subst e; exact hn ⟨h2, hd, fun b hb => by rw [hk] at hb; cases hb⟩
                · exact ih hk q (by omega) h2 hd
          exact this n hl q (by omega) h2 hd
        | some b =>
          have h3 := hc.2.2 b hl
          rcases lk_min hl q (by omega) h2 hd with x | x <;> exact .inl (by omega)
    · rename_i hc
      have hi := lk_lt h
      by_cases e : q = n
      · subst e
        have : vals (3 + 2 * i) ≤ vals (3 + 2 * q) := by
          rcases Int.lt_or_le (vals (3 + 2 * q)) (vals (3 + 2 * i)) with x | x
          · exact absurd ⟨h2, hd, fun b hb => by rw [h] at hb; cases hb; exact x⟩ hc
          · exact x
        by_cases e : vals (3 + 2 * i) = vals (3 + 2 * q)
        · exact .inr ⟨e, by omega⟩
        · exact .inl (by omega)
      · exact lk_min h q (by omega) h2 hd

theorem lk_all {vals : Nat → Int} {m : Int} : ∀ {n : Nat}, lk vals m n = none → ∀ q, q < n → (vals (2 + 2 * q)).tmod 4 = 2 → ¬ vals (3 + 2 * q) ≤ m
  | 0, _, q, hq, _, _ => by omega
  | n + 1, h, q, hq, h2, hd => by
    unfold lk at h
    split at h
    · cases h
    · rename_i hn
      by_cases e : q = n
      · subst e; exact hn ⟨h2, hd, fun b hb => by rw [h] at hb; cases hb⟩
      · exact lk_all h q (by omega) h2 hd

/-- The slots of the law's clock: n timers; o: over. -/
def stO (n : Nat) (o : Nat → Bool) : Nat → Int := fun q => if q < n then (if o q then 4 else 2) else 0
def duO (n : Nat) (D : Nat → Int) : Nat → Int := fun q => if q < n then D q else 0
abbrev ocl (r q : Nat) : Value := .func (.func 14) #[] #[.pointer (some ⟨r, 0, none⟩), .pointer (some ⟨q, 0, none⟩)]
def fnO (r : Nat) (Q : Nat → Nat) (n : Nat) : Nat → Value := fun i => if i < n then ocl r (Q i) else .nilFunc

/-- All that the law has laid, at one time. tg: whose each block is (1: the clock's; 2: the numbers'; 3: the variable rang; 4: timers; 5: over; 6: what rang holds; 0: not ours). -/
structure OrdS (h0 h : Hp) (c : Nat) (B : Nat → Nat) (tg : Nat → Nat) (n : Nat) (vals : Nat → Int) (fns : Nat → Value) (Q : Nat → Nat) (r : Nat) (tv ov rv : Value) (k : Nat) (o : Nat → Bool) (rl : List Nat) : Prop where
  clk : Clk h c B vals fns
  nums : ∀ j, j < k → h[Q j]? = some (intO j)
  rg : h[r]? = some (oneO rv 45)
  rs : SliceO h rv 3 1 rl.length (rl.map fun j : Nat => .int .i64 (j : Int))
  ts : SliceO h tv 32 2 k ((List.range k).flatMap fun j : Nat => [.int .i64 (j : Int), .int .i64 2])
  os : SliceO h ov 4 1 n ((List.range n).map fun q => .bool (o q))
  w : Upd (fun _ => False) h0 h
  t1 : ∀ b, Own c B b → tg b = 1
  t2 : ∀ j, j < k → tg (Q j) = 2
  t3 : tg r = 3
  t4 : ∀ b, blk tv = some b → tg b = 4
  t5 : ∀ b, blk ov = some b → tg b = 5
  t6 : ∀ b, blk rv = some b → tg b = 6
  t0 : ∀ b, tg b ≠ 0 → h0.size ≤ b ∧ b < h.size

theorem OrdS.upd0 {h0 h h' : Hp} {c : Nat} {B : Nat → Nat} {tg : Nat → Nat} {n : Nat} {vals : Nat → Int} {fns : Nat → Value} {Q : Nat → Nat} {r : Nat} {tv ov rv : Value} {k : Nat} {o : Nat → Bool} {rl : List Nat}
    (x : OrdS h0 h c B tg n vals fns Q r tv ov rv k o rl) (u : Upd (fun _ => False) h h') : OrdS h0 h' c B tg n vals fns Q r tv ov rv k o rl :=
  ⟨x.clk.upd u (fun _ y => y.elim), fun j hj => u.get (x.nums j hj) (fun y => y), u.get x.rg (fun y => y), x.rs.upd u (fun _ _ y => y), x.ts.upd u (fun _ _ y => y), x.os.upd u (fun _ _ y => y), x.w.trans u, x.t1, x.t2, x.t3, x.t4, x.t5, x.t6, fun b hb => ⟨(x.t0 b hb).1, Nat.lt_of_lt_of_le (x.t0 b hb).2 u.size⟩⟩

section
variable {main : Bool} {h : Hp} {δ : Nat}

/-- The timers' function: one number more in rang. -/
theorem oring {r q j : Nat} {rv t : Value} {rl : List Nat} (hr : h[r]? = some (oneO rv 45)) (hs : SliceO h rv 3 1 rl.length (rl.map fun j : Nat => .int .i64 (j : Int))) (hq : h[q]? = some (intO j)) (hn : ∀ b, blk rv = some b → b ≠ r) (hl : rl.length < 1000000) :
    CallW Try.prog main NoS 14 #[t, .pointer (some ⟨r, 0, none⟩), .pointer (some ⟨q, 0, none⟩)] h δ
      (Ret fun _ h' δ' => δ' = δ ∧ ∃ rv', h'[r]? = some (oneO rv' 45) ∧ SliceO h' rv' 3 1 (rl ++ [j]).length ((rl ++ [j]).map fun j : Nat => .int .i64 (j : Int)) ∧ Upd (fun b => blk rv = some b ∨ b = r) h h' ∧ ∀ b, blk rv' = some b → blk rv = some b ∨ (h.size ≤ b ∧ b < h'.size)) := by
  refine CallW.start (n := 8) rfl rfl ?_
  (repeat (first | refine EK.seq ?_ | refine EK.region ?_ | refine ER.done ?_ | refine EK.skip ?_ | refine EK.block ?_ | refine EK.inBlock ?_ | refine ER.move rfl rfl rfl ?_ | refine ER.assign rfl rfl rfl ?_ | refine ER.nilCheck rfl rfl rfl ?_ | refine ER.fieldAddr rfl rfl rfl ?_ | refine ER.load1 rfl rfl rfl (hcell_of (by assumption) rfl) ?_ | refine ER.no rfl rfl ?_ | refine ER.noU rfl ?_ | refine ER.eqV rfl rfl rfl rfl rfl ?_ | refine ER.neqV rfl rfl rfl rfl rfl ?_ | refine ER.eqA rfl rfl rfl rfl rfl ?_ | refine ER.neqA rfl rfl rfl rfl rfl ?_ | refine ER.notB rfl rfl rfl ?_ | refine ER.pickT rfl rfl rfl rfl ?_ | refine ER.pickF rfl rfl rfl rfl ?_ | refine ER.extract rfl rfl rfl rfl ?_ | refine ER.cmpT rfl rfl rfl rfl rfl (by first | (dsimp only [cmpP]; omega) | exact rfl | exact Int.le_refl _) ?_ | refine ER.cmpF rfl rfl rfl rfl rfl (by first | (dsimp only [cmpP]; omega) | exact rfl | exact Int.le_refl _) ?_ | refine ER.boxA rfl rfl rfl ?_ | refine ER.box rfl rfl rfl ?_ | refine ER.allocA rfl rfl ?_ | refine ER.alloc rfl rfl ?_ | refine ER.add (kd := .i64) rfl rfl rfl rfl (i64_in (by omega) (by omega)) ?_ | refine ER.sub' (kd := .i64) rfl rfl rfl rfl (i64_in (by omega) (by omega)) ?_ | refine ER.rem (kd := .i64) rfl rfl rfl rfl (by decide) rfl ?_ | refine ER.indexArr rfl rfl rfl rfl (by omega) (by omega) ?_ | refine ER.len1 rfl rfl rfl ?_ | refine ER.indexSl rfl rfl rfl rfl (by omega) (by omega) ?_ | refine EK.condT rfl ?_ | refine EK.condF rfl ?_ | refine EK.ret ?_ | refine EK.exit rfl ?_))
  refine ER.slice1 (cells := #[.int .i64 j]) rfl rfl rfl (by omega) (by omega) (by rfl) rfl ?_
  have u1 : Upd (fun _ => False) h (h.push (.cells #[.int .i64 (j : Int)] 3)) := Upd.push _ _
  have hb := get_push_new h (.cells #[.int .i64 (j : Int)] 3)
  have hr1 := u1.get hr (fun x => x)
  have hs1 := hs.upd u1 (fun _ _ x => x)
  have hz1 : (h.push (.cells #[.int .i64 (j : Int)] 3)).size = h.size + 1 := by simp
  have hrl := lt_of_get hr
  refine ER.append1 (new := [.int .i64 j]) rfl rfl rfl rfl hs1 hb rfl (by simp [OneCell]) (by omega) (by omega) (by rfl) (fun _ _ _ x => x) ?_
  intro rv' h2 hs2 u2 hb2
  have hr2 := u2.get hr1 (fun x => hn _ x rfl)
  refine ER.store1O hr2 rfl rfl rfl ?_ (fun x => x) ?_
  · obtain ⟨a, cap, rfl⟩ := hs2.val
    exact ⟨nofun, nofun⟩
  have u3 : Upd (fun b => b = r) h2 (h2.setIfInBounds r (oneO rv' 45)) := Upd.set _ _ _ rfl
  have hne : ∀ b, blk rv' = some b → b ≠ r := fun b hb e => by
    rcases hb2 b hb with x | x
    · exact hn b x e
    · omega
  (repeat (first | refine EK.seq ?_ | refine EK.region ?_ | refine ER.done ?_ | refine EK.skip ?_ | refine EK.block ?_ | refine EK.inBlock ?_ | refine ER.move rfl rfl rfl ?_ | refine ER.assign rfl rfl rfl ?_ | refine ER.nilCheck rfl rfl rfl ?_ | refine ER.fieldAddr rfl rfl rfl ?_ | refine ER.load1 rfl rfl rfl (hcell_of (by assumption) rfl) ?_ | refine ER.no rfl rfl ?_ | refine ER.noU rfl ?_ | refine ER.eqV rfl rfl rfl rfl rfl ?_ | refine ER.neqV rfl rfl rfl rfl rfl ?_ | refine ER.eqA rfl rfl rfl rfl rfl ?_ | refine ER.neqA rfl rfl rfl rfl rfl ?_ | refine ER.notB rfl rfl rfl ?_ | refine ER.pickT rfl rfl rfl rfl ?_ | refine ER.pickF rfl rfl rfl rfl ?_ | refine ER.extract rfl rfl rfl rfl ?_ | refine ER.cmpT rfl rfl rfl rfl rfl (by first | (dsimp only [cmpP]; omega) | exact rfl | exact Int.le_refl _) ?_ | refine ER.cmpF rfl rfl rfl rfl rfl (by first | (dsimp only [cmpP]; omega) | exact rfl | exact Int.le_refl _) ?_ | refine ER.boxA rfl rfl rfl ?_ | refine ER.box rfl rfl rfl ?_ | refine ER.allocA rfl rfl ?_ | refine ER.alloc rfl rfl ?_ | refine ER.add (kd := .i64) rfl rfl rfl rfl (i64_in (by omega) (by omega)) ?_ | refine ER.sub' (kd := .i64) rfl rfl rfl rfl (i64_in (by omega) (by omega)) ?_ | refine ER.rem (kd := .i64) rfl rfl rfl rfl (by decide) rfl ?_ | refine ER.indexArr rfl rfl rfl rfl (by omega) (by omega) ?_ | refine ER.len1 rfl rfl rfl ?_ | refine ER.indexSl rfl rfl rfl rfl (by omega) (by omega) ?_ | refine EK.condT rfl ?_ | refine EK.condF rfl ?_ | refine EK.ret ?_ | refine EK.exit rfl ?_))
  refine EK.done ?_
  refine EU.ret0 rfl ⟨rfl, rv', get_set_same hr2, ?_, (u1.mono (fun _ _ x => x.elim)).trans ((u2.mono (fun b _ x => .inl x)).trans (u3.mono (fun b _ x => .inr x))), fun b hb => ?_⟩
  · have := hs2.upd u3 (fun b hb => hne b hb)
    simpa using this
  · rcases hb2 b hb with x | x
    · exact .inl x
    · refine .inr ⟨by omega, ?_⟩
      have := hs2.lt hb
      simpa using this
end
end Go.Proofs.Ytlhpgoddoglhaaa
