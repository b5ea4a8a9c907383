/- Own theory, part 12: slices that own their block; append of one element; new slices. Conditions: as the rules say. -/
import Derived.Test.YtkppboglffdmnaaTjQ
import Derived.Laws.Append
namespace Go.TJ
open Go Go.Conc
variable {Γ : Type}

/-- The block of a slice. -/
def blk : Value → Option Nat
  | .slice (some a) _ _ => some a.block
  | _ => none

/-- s is a slice of n elements that owns its block; its cells, in order. -/
def SliceO (h : Hp) (s : Value) (e : TypeId) (sz n : Nat) (cells : List Value) : Prop :=
  cells.length = n * sz ∧ ((s = .slice none 0 0 ∧ n = 0) ∨ ∃ b cap rest, s = .slice (some ⟨b, 0, none⟩) n cap ∧ n ≤ cap ∧ rest.length = (cap - n) * sz ∧ h[b]? = some (.cells (cells ++ rest).toArray e (0, 0)))

theorem SliceO.nil {h : Hp} {e sz : Nat} : SliceO h (.slice none 0 0) e sz 0 [] := ⟨by simp, .inl ⟨rfl, rfl⟩⟩
theorem SliceO.upd {h h' : Hp} {s : Value} {e sz n : Nat} {cells : List Value} (x : SliceO h s e sz n cells) {T : Nat → Prop} (u : Upd T h h') (hT : ∀ b, blk s = some b → ¬ T b) : SliceO h' s e sz n cells := by
  refine ⟨x.1, x.2.imp id ?_⟩
  rintro ⟨b, cap, rest, rfl, h1, h2, h3⟩
  exact ⟨b, cap, rest, rfl, h1, h2, u.get h3 (hT b rfl)⟩
theorem SliceO.lt {h : Hp} {s : Value} {e sz n : Nat} {cells : List Value} (x : SliceO h s e sz n cells) {b : Nat} (hb : blk s = some b) : b < h.size := by
  obtain ⟨_, ⟨rfl, rfl⟩ | ⟨b', cap, rest, rfl, h1, h2, h3⟩⟩ := x
  · cases hb
  · cases hb; exact lt_of_get h3
theorem SliceO.val {h : Hp} {s : Value} {e sz n : Nat} {cells : List Value} (x : SliceO h s e sz n cells) : ∃ a cap, s = .slice a n cap := by
  obtain ⟨_, ⟨rfl, rfl⟩ | ⟨b', cap, rest, rfl, h1, h2, h3⟩⟩ := x
  · exact ⟨_, _, rfl⟩
  · exact ⟨_, _, rfl⟩

theorem hsetRow_block {b e : Nat} {f : Nat × Nat} : ∀ (vs : List Value) (off : Nat) (h : Hp) (c : List Value), h[b]? = some (.cells c.toArray e f) → off + vs.length ≤ c.length →
    hsetRow h b off vs = h.setIfInBounds b (.cells (c.take off ++ vs ++ c.drop (off + vs.length)).toArray e f)
  | [], off, h, c, hb, hl => by
    unfold hsetRow
    apply Array.ext_getElem?
    intro i
    by_cases hi : b = i
    · subst hi; rw [get_set_same hb, hb]; simp
    · rw [get_set_ne _ hi]
  | v :: vs, off, h, c, hb, hl => by
    have hl' : off < c.length := by simp at hl; omega
    have hb' : (hset h ⟨b, off, none⟩ v)[b]? = some (.cells (c.set off v).toArray e f) := by
      rw [hset_get, if_pos rfl, hb]; simp
    unfold hsetRow
    rw [hsetRow_block vs (off + 1) _ _ hb' (by simp at hl ⊢; omega)]
    have e1 : hset h ⟨b, off, none⟩ v = h.setIfInBounds b (.cells (c.set off v).toArray e f) := by
      apply Array.ext_getElem?
      intro i
      by_cases hi : b = i
      · subst hi; rw [get_set_same hb, hb']
      · rw [get_set_ne _ hi, hset_ne _ _ _ hi]
    rw [e1, set_set]
    congr 2
    have h1 : (c.set off v).take (off + 1) = c.take off ++ [v] := by
      rw [List.take_set, List.take_succ_eq_append_getElem hl', List.set_append_right _ _ (by simp; omega)]
      simp [Nat.min_eq_left (Nat.le_of_lt hl')]
    have h2 : (c.set off v).drop (off + 1 + vs.length) = c.drop (off + (v :: vs).length) := by
      rw [List.drop_set_of_lt (by omega)]; simp; congr 1; omega
    rw [h1, h2]
    simp

section
variable {P : Program} {main : Bool} {S : Sit Γ} {f : FuncId} {n : Nat} {k : List Item} {env : Env} {ds : List Deferred} {h : Hp} {δ : Ix Γ} {R : Post Γ}
variable {ops : Array Oper} {l : List Oper} {d : Nat} {ty : TypeId} {pos : String} {af : Array Edge} {g : Option (Nat × Bool)}

theorem semW_loadCells {b : Nat} {vs : List Value} {Q : Array Value → Hp → Ix Γ → Prop} {X : Value → Hp → Ix Γ → Prop} (hc : hrow h b 0 vs) (hq : Q vs.toArray h δ) : SemW P S (loadCells ⟨b, 0, none⟩ vs.length) h δ Q X :=
  semW_loadCellsFrom vs 0 #[] (fun j v hv => by simpa using hc j v hv) (by simpa using hq)

theorem hrow_block {b e : Nat} {fz : Nat × Nat} {vs rest : List Value} (hb : h[b]? = some (.cells (vs ++ rest).toArray e fz)) : hrow h b 0 vs := fun i v hv => by
  have hi : i < vs.length := by
    rcases Nat.lt_or_ge i vs.length with x | x
    · exact x
    · rw [List.getElem?_eq_none x] at hv; cases hv
  refine hcell_of hb ?_
  simp only [Nat.zero_add, List.getElem?_toArray, List.getElem?_append_left hi, hv]

theorem sem_append1 {t e sz by_ : Nat} {z : Value} [hinf : Inf P e sz by_ z] [hu : Und P t (.slice e)] {s x : Value} {m c' b' e' : Nat} {fz : Nat × Nat} {cells new : List Value} {Q : Value → Hp → Ix Γ → Prop} {X : Value → Hp → Ix Γ → Prop}
    (hs : SliceO h s e sz m cells) (hx : x = .slice (some ⟨b', 0, none⟩) 1 c') (hb' : h[b']? = some (.cells new.toArray e' fz)) (hnew : new.length = sz) (hone : ∀ v ∈ new, OneCell v) (hfit : (m + 1) * by_ ≤ 140737488355328) (hm : m < 1000000000000) (hz : z.cells.size = sz) (hS : ∀ b o, blk s = some b → ¬ S.still δ.g ⟨b, o, none⟩)
    (hq : ∀ s' h', SliceO h' s' e sz (m + 1) (cells ++ new) → Upd (fun b => blk s = some b) h h' → (∀ b, blk s' = some b → blk s = some b ∨ b = h.size) → Q s' h' δ) :
    SemW P S (Builtin.append_ #[t, t] ty #[s, x]) h δ Q X := by
  subst hx
  obtain ⟨inf, hi1, hi2, hi3, hi4⟩ := hinf.get
  obtain ⟨a, cap, rfl⟩ := hs.val
  have hfirst : ∀ {Q' : Array Value → Hp → Ix Γ → Prop}, Q' new.toArray h δ → SemW P S (Builtin.firstCells sz 1 (.slice (some ⟨b', 0, none⟩) 1 c')) h δ Q' X := fun {Q'} hq' => by
    show SemW P S (loadCells ⟨b', 0, none⟩ (1 * sz)) h δ Q' X
    rw [Nat.one_mul, ← hnew]
    exact semW_loadCells (hrow_block (rest := []) (by simpa using hb')) hq'
  have hout := hu.out
  unfold Builtin.append_
  show SemW P S (underlying t >>= _) h δ Q X
  refine semW_underlying hout ?_
  show SemW P S (sizeOf e >>= _) h δ Q X
  refine semW_sizeOf hi1 ?_
  rw [hi2]
  show SemW P S (underlying t >>= _) h δ Q X
  refine semW_underlying hout ?_
  refine semW_pureBind ?_
  show SemW P S (pure 1 >>= _) h δ Q X
  refine semW_pureBind ?_
  simp only []
  by_cases hle : m + 1 ≤ cap
  · rw [if_pos hle]
    show SemW P S (Builtin.firstCells sz 1 (.slice (some ⟨b', 0, none⟩) 1 c') >>= _) h δ Q X
    refine semW_bind _ _ _ _ _ _ (hfirst ?_)
    obtain ⟨hl, ⟨he, rfl⟩ | ⟨b, cap', rest, he, h1, h2, h3⟩⟩ := hs
    · cases he; omega
    cases he
    show SemW P S (storeCells ((⟨b, 0, none⟩ : Addr).add (m * sz)) new >>= _) h δ Q X
    rw [add_eq]
    have hroom : m * sz + new.length ≤ (cells ++ rest).length := by
      rw [List.length_append, hl, h2, hnew, ← Nat.succ_mul, ← Nat.add_mul]
      exact Nat.mul_le_mul_right _ (by omega)
    refine semW_bind _ _ _ _ _ _ (semW_storeCells new 0 h hone (fun j hj => ⟨?_, hfroz_of h3, hS b _ rfl⟩) ?_)
    · refine ⟨(cells ++ rest)[m * sz + j]'(by omega), hcell_of h3 ?_⟩
      simp only [List.getElem?_toArray]
      rw [show 0 + m * sz + 0 + j = m * sz + j by omega, List.getElem?_eq_getElem (by omega)]
    · rw [hsetRow_block new _ h _ h3 (by omega)]
      have e1 : (cells ++ rest).take (0 + m * sz + 0) = cells := by rw [show 0 + m * sz + 0 = cells.length by omega, List.take_left']; rfl
      have e2 : (cells ++ rest).drop (0 + m * sz + 0 + new.length) = rest.drop sz := by
        rw [show 0 + m * sz + 0 + new.length = cells.length + sz by omega, List.drop_append]
        simp
      rw [e1, e2]
      refine semW_pure (Q := _) ?_
      refine hq _ _ ⟨by rw [List.length_append, hl, hnew, Nat.succ_mul], .inr ⟨b, cap, rest.drop sz, rfl, hle, ?_, get_set_same h3⟩⟩ (Upd.set _ _ _ rfl) (fun b' hb' => .inl hb')
      rw [List.length_drop, h2, show cap - m = (cap - (m + 1)) + 1 by omega, Nat.succ_mul]; omega
  · rw [if_neg hle]
    have hmax : IntKind.i64.max = 9223372036854775807 := by decide
    refine semW_typeInfo hi1 ?_
    rw [if_neg (by rw [hmax]; omega)]
    refine semW_typeInfo hi1 ?_
    have hcap : cap ≤ m := by omega
    rw [if_neg (by rw [hi3]; have := growslice_fits (need := m + 1) (old := cap) (bytes := by_) (by omega) hfit; omega)]
    refine semW_bind _ _ _ _ _ _ ?_
    intro newCap hcut
    have hge : m + 1 ≤ newCap := by
      rcases hcut with ⟨h1, h2⟩ | ⟨h1, t', h2⟩
      · cases h1
      · rw [h2]; exact Nat.le_add_right _ _
    refine semW_pure (Q := _) ?_
    refine semW_typeInfo hi1 ?_
    have hroom : ∀ {Q' : Unit → Hp → Ix Γ → Prop}, Q' () h δ → SemW P S (askRoom (newCap * inf.bytes)) h δ Q' X := fun {Q'} hq' => by
      unfold askRoom
      split
      · exact ⟨nofun, nofun, hq'⟩
      · exact hq'
    refine semW_bind _ _ _ _ _ _ (hroom ?_)
    have hold : ∀ {Q' : Array Value → Hp → Ix Γ → Prop}, Q' cells.toArray h δ → SemW P S (Builtin.firstCells sz m (.slice a m cap)) h δ Q' X := fun {Q'} hq' => by
      obtain ⟨hl, ⟨he, rfl⟩ | ⟨b, cap', rest, he, h1, h2, h3⟩⟩ := hs
      · cases he
        have : cells = [] := by simpa using hl
        subst this
        exact hq'
      · cases he
        show SemW P S (loadCells ⟨b, 0, none⟩ (m * sz)) h δ Q' X
        rw [← hl]
        exact semW_loadCells (hrow_block h3) hq'
    show SemW P S (Builtin.firstCells sz m (.slice a m cap) >>= _) h δ Q X
    refine semW_bind _ _ _ _ _ _ (hold ?_)
    show SemW P S (Builtin.firstCells sz 1 (.slice (some ⟨b', 0, none⟩) 1 c') >>= _) h δ Q X
    refine semW_bind _ _ _ _ _ _ (hfirst ?_)
    refine semW_zeroValue hi1 hi4 ?_
    refine ⟨thawed, ?_⟩
    refine semW_pure (Q := _) ?_
    have hzc : (Builtin.zeroCells z.cells (newCap - (m + 1))).toList.length = (newCap - (m + 1)) * sz := by simp [Builtin.zeroCells, hz]
    refine hq _ _ ⟨by rw [List.length_append, hs.1, hnew, Nat.succ_mul], .inr ⟨h.size, newCap, (Builtin.zeroCells z.cells (newCap - (m + 1))).toList, rfl, hge, hzc, ?_⟩⟩ (Upd.push _ _) (fun b hb => .inr (by cases hb; rfl))
    rw [get_push_new]
    congr 2
    simp

theorem ER.append1 {t e sz by_ : Nat} {z : Value} [Inf P e sz by_ z] [Und P t (.slice e)] {x y : Operand} {s : Value} {m c' b' e' : Nat} {fz : Nat × Nat} {cells new : List Value}
    (hw : wantE ops env g = some true) (hd : Nat.blt d n = true) (hx : ev env x = some s) (hy : ev env y = some (.slice (some ⟨b', 0, none⟩) 1 c'))
    (hs : SliceO h s e sz m cells) (hb' : h[b']? = some (.cells new.toArray e' fz)) (hnew : new.length = sz) (hone : ∀ v ∈ new, OneCell v) (hfit : (m + 1) * by_ ≤ 140737488355328) (hm : m < 1000000000000) (hz : z.cells.size = sz) (hS : ∀ b o, blk s = some b → ¬ S.still δ.g ⟨b, o, none⟩)
    (hn : ∀ s' h', SliceO h' s' e sz (m + 1) (cells ++ new) → Upd (fun b => blk s = some b) h h' → (∀ b, blk s' = some b → blk s = some b ∨ b = h.size) → ER P main S f n ops l k ((d, s') :: env) ds h' δ R) :
    ER P main S f n ops (⟨some d, .call { callee := .builtin .append, args := #[x, y], argTypes := #[t, t] }, ty, pos, af, g⟩ :: l) k env ds h δ R := by
  refine ER.val (Q := fun s' h' δ' => δ' = δ ∧ SliceO h' s' e sz (m + 1) (cells ++ new) ∧ Upd (fun b => blk s = some b) h h' ∧ (∀ b, blk s' = some b → blk s = some b ∨ b = h.size)) hw hd (fun ρ hρ => sem_builtin (vs := #[s, .slice (some ⟨b', 0, none⟩) 1 c']) (by simp [hρ x _ hx, hρ y _ hy]) fun cs => ?_) ?_
  · show SemW P S (Builtin.append_ #[t, t] ty #[s, .slice (some ⟨b', 0, none⟩) 1 c'] >>= fun v => pure (Next.value v)) h δ _ _
    exact semW_bind _ _ _ _ _ _ (sem_append1 hs rfl hb' hnew hone hfit hm hz hS (fun s' h' h1 h2 h3 => ⟨s', rfl, rfl, h1, h2, h3⟩))
  · rintro s' h' δ' ⟨rfl, h1, h2, h3⟩
    exact hn s' h' h1 h2 h3

/-- A new slice of given elements. -/
theorem ER.sliceN {t e sz by_ len : Nat} {z : Value} {ps : Array (Nat × Operand)} {parts : List (Nat × Value)} {cells : Array Value} [hinf : Inf P e sz by_ z] [hu : Und P t (.slice e)] (hw : wantE ops env g = some true) (hd : Nat.blt d n = true) (hp : evP env ps.toList = some parts) (hsz : 0 < len * sz) (hsz2 : len * sz ≤ 1000000)
    (hf : Instr.fill (fun i => some (i * sz, sz)) ((Array.range (len * sz)).map (z.cells[· % z.cells.size]!)) parts = some cells)
    (hn : ER P main S f n ops l k ((d, .slice (some ⟨h.size, 0, none⟩) len len) :: env) ds (h.push (.cells cells e)) δ R) : ER P main S f n ops (⟨some d, .buildSlice t len ps, ty, pos, af, g⟩ :: l) k env ds h δ R := by
  refine ER.to hw hd (fun ρ Q X hρ hq => ?_) hn
  have e1 : (ps.map fun (i, x) => (i, ρ x)) = parts.toArray := by
    obtain ⟨ps⟩ := ps
    simp only [List.map_toArray]
    rw [← evP_ok hρ ps parts hp]
  unfold execOp
  dsimp only
  rw [e1]
  refine semW_bind _ _ _ _ _ _ ?_
  obtain ⟨inf, hi1, hi2, hi3, hi4⟩ := hinf.get
  unfold Instr.buildSlice
  refine semW_underlying hu.out ?_
  refine semW_sizeOf hi1 ?_
  rw [hi2, if_neg (by omega), if_neg (by omega)]
  refine semW_zeroValue hi1 hi4 ?_
  refine semW_pureBind ?_
  have hf' : Instr.fill (fun i => some (i * sz, sz)) ((Array.range (len * sz)).map (z.cells[· % z.cells.size]!)) parts.toArray.toList = some cells := hf
  dsimp only
  rw [hf']
  exact ⟨thawed, hq⟩

theorem zeros1 {a : Array Value} {sz : Nat} (h : a.size = sz) : (Array.range (1 * sz)).map (a[· % a.size]!) = a := by
  subst h
  apply Array.ext
  · simp
  · intro i h1 h2
    simp [Nat.mod_eq_of_lt h2, h2]

/-- ... of one element. -/
theorem ER.slice1 {t e sz by_ : Nat} {z : Value} {ps : Array (Nat × Operand)} {parts : List (Nat × Value)} {cells : Array Value} [Inf P e sz by_ z] [Und P t (.slice e)] (hw : wantE ops env g = some true) (hd : Nat.blt d n = true) (hp : evP env ps.toList = some parts) (hsz : 0 < sz) (hsz2 : sz ≤ 1000000) (hz : z.cells.size = sz)
    (hf : Instr.fill (fun i => some (i * sz, sz)) z.cells parts = some cells)
    (hn : ER P main S f n ops l k ((d, .slice (some ⟨h.size, 0, none⟩) 1 1) :: env) ds (h.push (.cells cells e)) δ R) : ER P main S f n ops (⟨some d, .buildSlice t 1 ps, ty, pos, af, g⟩ :: l) k env ds h δ R :=
  ER.sliceN hw hd hp (by omega) (by omega) (by rw [zeros1 hz]; exact hf) hn

/-- A new slice of m elements of one cell. -/
theorem ER.makeSlice {t e by_ m : Nat} {z : Value} {x y : Operand} [hinf : Inf P e 1 by_ z] [hu : Und P t (.slice e)] (hw : wantE ops env g = some true) (hd : Nat.blt d n = true) (hx : ev env x = some (.int .i64 m)) (hy : ev env y = some (.int .i64 m))
    (hfit : by_ * m ≤ 140737488355328) (hm : m < 1000000000000) (hz : z.cells = #[z])
    (hn : ∀ s h', SliceO h' s e 1 m (List.replicate m z) → h' = h.push (.cells (List.replicate m z).toArray e) → blk s = some h.size → ER P main S f n ops l k ((d, s) :: env) ds h' δ R) : ER P main S f n ops (⟨some d, .makeSlice t x y, ty, pos, af, g⟩ :: l) k env ds h δ R := by
  refine ER.to (v := .slice (some ⟨h.size, 0, none⟩) m m) (h' := h.push (.cells (List.replicate m z).toArray e)) hw hd (fun ρ Q X hρ hq => ?_) (hn _ _ ⟨by simp, .inr ⟨h.size, m, [], rfl, Nat.le_refl _, by simp, by rw [get_push_new]; simp⟩⟩ rfl rfl)
  show SemW P S (Instr.makeSlice t (ρ x) (ρ y) >>= fun v => pure (.value v)) h δ Q X
  rw [hρ x _ hx, hρ y _ hy]
  refine semW_bind _ _ _ _ _ _ ?_
  obtain ⟨inf, hi1, hi2, hi3, hi4⟩ := hinf.get
  have hwr : IntKind.i64.wrap ((m : Int)) = m := i64_in (by omega) (by omega)
  unfold Instr.makeSlice
  show SemW P S (underlying t >>= _) h δ _ X
  refine semW_underlying hu.out ?_
  refine semW_pureBind ?_
  refine semW_pureBind ?_
  refine semW_typeInfo hi1 ?_
  simp only [hwr, hi3]
  have hc : ¬ ((by_ : Int) * m > 2 ^ 48) := by
    have := Int.ofNat_le.mpr hfit
    rw [Int.natCast_mul] at this
    have e : (2 : Int) ^ 48 = 281474976710656 := by decide
    rw [e]
    omega
  rw [if_neg (by rw [decide_eq_false (by omega : ¬ ((m : Int) < 0)), decide_eq_false hc, decide_eq_false (by omega : ¬ ((m : Int) > m))]; decide)]
  have hroom : ∀ {Q' : Unit → Hp → Ix Γ → Prop}, Q' () h δ → SemW P S (askRoom (((m : Int)).toNat * by_)) h δ Q' X := fun {Q'} hq' => by
    unfold askRoom
    split
    · exact ⟨nofun, nofun, hq'⟩
    · exact hq'
  refine semW_bind _ _ _ _ _ _ (hroom ?_)
  refine semW_sizeOf hi1 ?_
  rw [hi2]
  have hrow : ∀ zs : Array Value, (m = 0 ∨ zs = #[z]) → Array.map (fun x => zs[x % zs.size]!) (Array.range (((m : Int)).toNat * 1)) = (List.replicate m z).toArray := fun zs hzs => by
    rcases hzs with rfl | rfl
    · simp
    · apply Array.ext'
      simp
      apply List.ext_getElem
      · simp
      · intro i h1 h2; simp [Nat.mod_one]
  split
  · refine semW_pureBind ?_
    rename_i h0
    refine ⟨thawed, ?_⟩
    rw [hrow _ (.inl (by omega))]
    exact hq
  · refine semW_zeroValue hi1 hi4 ?_
    refine semW_pureBind ?_
    refine ⟨thawed, ?_⟩
    rw [hrow _ (.inr hz)]
    exact hq

/-- A slice cut at its end. -/
theorem ER.sliceTo {t e sz by_ len cap : Nat} {z : Value} {x y : Operand} {a : Option Addr} {hi : Nat} [hinf : Inf P e sz by_ z] [hu : Und P t (.slice e)] (hw : wantE ops env g = some true) (hd : Nat.blt d n = true) (hx : ev env x = some (.slice a len cap)) (hy : ev env y = some (.int .i64 hi)) (hle : hi ≤ cap)
    (hn : ER P main S f n ops l k ((d, .slice (if cap = 0 then a else a.map (·.add (0 * sz))) hi cap) :: env) ds h δ R) : ER P main S f n ops (⟨some d, .slice t x none (some y) none, ty, pos, af, g⟩ :: l) k env ds h δ R := by
  refine ER.to hw hd (fun ρ Q X hρ hq => ?_) hn
  show SemW P S (Instr.sliceAt t (ρ x) none (some (ρ y)) none >>= fun v => pure (.value v)) h δ Q X
  rw [hρ x _ hx, hρ y _ hy]
  refine semW_bind _ _ _ _ _ _ ?_
  obtain ⟨inf, hi1, hi2, hi3, hi4⟩ := hinf.get
  unfold Instr.sliceAt
  refine semW_underlying hu.out ?_
  show SemW P S (Instr.slice t (.slice a len cap) none (some (.int .i64 hi)) none) h δ _ X
  unfold Instr.slice
  refine semW_underlying hu.out ?_
  show SemW P S (Instr.sliceBounds true len cap none (some (.int .i64 hi)) none >>= _) h δ _ X
  have hb : SemW P S (Instr.sliceBounds true len cap none (some (.int .i64 hi)) none) h δ (fun r h' δ' => r = (0, hi, cap) ∧ h' = h ∧ δ' = δ) X := by
    unfold Instr.sliceBounds
    refine semW_pureBind ?_
    show SemW P S (Instr.sliceBound (.int .i64 hi) cap .sliceAcap >>= _) h δ _ X
    unfold Instr.sliceBound
    refine semW_bind _ _ _ _ _ _ ?_
    show SemW P S (if 0 ≤ (hi : Int) ∧ (hi : Int) ≤ cap then _ else _) h δ _ X
    rw [if_pos ⟨by omega, by omega⟩]
    exact ⟨rfl, rfl, rfl⟩
  refine semW_bind _ _ _ _ _ _ (semW_mono _ _ _ hb ?_ (fun _ _ _ x => x))
  rintro r h' δ' ⟨rfl, rfl, rfl⟩
  refine semW_sizeOf hi1 ?_
  rw [hi2]
  exact hq
end

section
variable {P : Program} {main : Bool} {S : Sit Γ} {f : FuncId} {n : Nat} {k : List Item} {env : Env} {ds : List Deferred} {h : Hp} {δ : Ix Γ} {R : Post Γ}
variable {ops : Array Oper} {l : List Oper} {d : Nat} {ty : TypeId} {pos : String} {af : Array Edge} {g : Option (Nat × Bool)}
theorem ER.len1 {x : Operand} {t e : TypeId} [Und P t (.slice e)] {a : Option Addr} {len cap : Nat} (hw : wantE ops env g = some true) (hd : Nat.blt d n = true) (hx : ev env x = some (.slice a len cap))
    (hn : ER P main S f n ops l k ((d, .int .i64 len) :: env) ds h δ R) : ER P main S f n ops (⟨some d, .call { callee := .builtin .len, args := #[x], argTypes := #[t] }, ty, pos, af, g⟩ :: l) k env ds h δ R :=
  ER.lenSl (t := t) hw hd rfl hx hn
theorem sem_eqV {t t2 : TypeId} {x y : Operand} {u w : Value} {dd : TypeDesc} {r : Bool} {ρ : Operand → Value} {dst : Option Nat} {Q : Next → Hp → Ix Γ → Prop} {X : Value → Hp → Ix Γ → Prop} [hu : Und P t dd] (hx : ρ x = u) (hy : ρ y = w) (hr : eqRes dd u w = some r) (hq : Q (.value (.bool r)) h δ) :
    SemW P S (execOp ρ ⟨dst, .binOp .eql t x y t2, ty, pos, af, g⟩) h δ Q X := by
  refine semW_binOp ?_
  rw [hx, hy]
  have hg : eqGuard .eql t x y u w = pure () := by
    unfold eqRes at hr
    unfold eqGuard
    split at hr <;> first | rfl | (cases hr; done)
  rw [hg]
  have e : binOp .eql t u w = (Op.equal t u w >>= fun b => pure (.bool b)) := by
    unfold eqRes at hr
    split at hr <;> first | rfl | (cases hr; done)
  show SemW P S (binOp .eql t u w) h δ _ X
  rw [e]
  exact semW_bind _ _ _ _ _ _ (semW_equal hu.out hr hq)

/-- Two ways that come together again. -/
theorem EK.merge {σ : Type} (E : σ → Env) (I : σ → Hp → Ix Γ → Prop) {Y C : Code} (h1 : (∀ s h' δ', I s h' δ' → EK P main S f n (.code C :: k) (E s) ds h' δ' R) → EK P main S f n (.code Y :: .code C :: k) env ds h δ R)
    (h2 : ∀ s h' δ', I s h' δ' → EK P main S f n (.code C :: k) (E s) ds h' δ' R) : EK P main S f n (.code Y :: .code C :: k) env ds h δ R := h1 h2

def cmpB (op : BinOp) (a b : Int) : Bool := match op with
  | .eql => decide (a = b)
  | .neq => decide (a ≠ b)
  | .lss => decide (a < b)
  | .leq => decide (a ≤ b)
  | .gtr => decide (a > b)
  | .geq => decide (a ≥ b)
  | _ => false
theorem ER.cmpB {op : BinOp} {t t2 : TypeId} {x y : Operand} {kd : IntKind} {a b : Int} {r : Bool} (hc : isCmp op = true) (hw : wantE ops env g = some true) (hd : Nat.blt d n = true) (hx : ev env x = some (.int kd a)) (hy : ev env y = some (.int kd b)) (hr : TJ.cmpB op a b = r)
    (hn : ER P main S f n ops l k ((d, .bool r) :: env) ds h δ R) : ER P main S f n ops (⟨some d, .binOp op t x y t2, ty, pos, af, g⟩ :: l) k env ds h δ R := by
  refine ER.cmpS hc hw hd hx hy (fun hp => ?_) (fun hp => ?_)
  · have : r = true := by subst hr; cases op <;> first | exact decide_eq_true hp | cases hc
    rw [← this]; exact hn
  · have : r = false := by subst hr; cases op <;> first | exact decide_eq_false hp | cases hc
    rw [← this]; exact hn
end

theorem SliceO.cell {h : Hp} {s : Value} {e sz m : Nat} {cells : List Value} (x : SliceO h s e sz m cells) (hm : 0 < m) : ∃ b cap, s = .slice (some ⟨b, 0, none⟩) m cap ∧ (∀ j v, cells[j]? = some v → hcell h ⟨b, j, none⟩ = some v) ∧ ∀ o, hfroz h ⟨b, o, none⟩ = false := by
  obtain ⟨hl, ⟨rfl, rfl⟩ | ⟨b, cap, rest, rfl, h1, h2, h3⟩⟩ := x
  · omega
  · refine ⟨b, cap, rfl, fun j v hv => by simpa using hrow_block h3 j v hv, fun o => hfroz_of h3⟩

theorem SliceO.set {h : Hp} {b cap e sz m : Nat} {cells : List Value} (x : SliceO h (.slice (some ⟨b, 0, none⟩) m cap) e sz m cells) {j : Nat} (hj : j < cells.length) (v : Value) : SliceO (hset h ⟨b, j, none⟩ v) (.slice (some ⟨b, 0, none⟩) m cap) e sz m (cells.set j v) := by
  obtain ⟨hl, ⟨he, rfl⟩ | ⟨b', cap', rest, he, h1, h2, h3⟩⟩ := x
  · cases he
  · cases he
    refine ⟨by simpa using hl, .inr ⟨b, cap, rest, rfl, h1, h2, ?_⟩⟩
    rw [hset_get, if_pos rfl, h3]
    simp [hj]
end Go.TJ
