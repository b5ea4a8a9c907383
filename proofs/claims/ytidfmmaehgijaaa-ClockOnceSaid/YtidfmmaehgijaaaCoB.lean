/- Steps of the walk and of the plain law (TjA to RunC). Conditions: as each lemma says. -/
import Derived.Laws.Append
import Derived.Laws.BitsLemmas
import Derived.Conc.Token
import Derived.Conc.HoldsTime
import Derived.RowKit3
import Derived.Below
import Derived.Test.YtidfmmaehgijaaaCoA
namespace Go.TJ
section
open Go Go.Conc
variable {Γ : Type}
def blk : Value -> Option Nat
  | .slice (some a) _ _ => some a.block
  | _ => none
def SliceO (h : Hp) (s : Value) (e : TypeId) (sz n : Nat) (cells : List Value) : Prop :=
  cells.length = n * sz /\ ((s = .slice none 0 0 /\ n = 0) \/ ∃ b cap rest, s = .slice (some ⟨b, 0, none⟩) n cap /\ n <= cap /\ rest.length = (cap - n) * sz /\ h[b]? = some (.cells (cells ++ rest).toArray e (0, 0)))
theorem SliceO.nil {h : Hp} {e sz : Nat} : SliceO h (.slice none 0 0) e sz 0 [] := ⟨by simp, .inl ⟨rfl, rfl⟩⟩
theorem SliceO.upd {h h' : Hp} {s : Value} {e sz n : Nat} {cells : List Value} (x : SliceO h s e sz n cells) {T : Nat -> Prop} (u : Upd T h h') (hT : ∀ b, blk s = some b -> ¬ T b) : SliceO h' s e sz n cells := by
  refine ⟨x.1, x.2.imp id ?_⟩
  rintro ⟨b, cap, rest, rfl, h1, h2, h3⟩
  exact ⟨b, cap, rest, rfl, h1, h2, u.get h3 (hT b rfl)⟩
theorem SliceO.lt {h : Hp} {s : Value} {e sz n : Nat} {cells : List Value} (x : SliceO h s e sz n cells) {b : Nat} (hb : blk s = some b) : b < h.size := by
  obtain ⟨_, ⟨rfl, rfl⟩ | ⟨b', cap, rest, rfl, h1, h2, h3⟩⟩ := x
  · cases hb
  · cases hb; exact lt_of_get h3
theorem SliceO.val {h : Hp} {s : Value} {e sz n : Nat} {cells : List Value} (x : SliceO h s e sz n cells) : ∃ a cap, s = .slice a n cap := by
  obtain ⟨_, ⟨rfl, rfl⟩ | ⟨b', cap, rest, rfl, h1, h2, h3⟩⟩ := x
  · exact ⟨_, _, rfl⟩
  · exact ⟨_, _, rfl⟩
theorem hsetRow_block {b e : Nat} {f : Nat × Nat} : ∀ (vs : List Value) (off : Nat) (h : Hp) (c : List Value), h[b]? = some (.cells c.toArray e f) -> off + vs.length <= c.length ->
    hsetRow h b off vs = h.setIfInBounds b (.cells (c.take off ++ vs ++ c.drop (off + vs.length)).toArray e f)
  | [], off, h, c, hb, hl => by
    unfold hsetRow
    apply Array.ext_getElem?
    intro i
    by_cases hi : b = i
    · subst hi; rw [get_set_same hb, hb]; simp
    · rw [get_set_ne _ hi]
  | v :: vs, off, h, c, hb, hl => by
    have hl' : off < c.length := by simp at hl; omega
    have hb' : (hset h ⟨b, off, none⟩ v)[b]? = some (.cells (c.set off v).toArray e f) := by
      rw [hset_get, if_pos rfl, hb]; simp
    unfold hsetRow
    rw [hsetRow_block vs (off + 1) _ _ hb' (by simp at hl ⊢; omega)]
    have e1 : hset h ⟨b, off, none⟩ v = h.setIfInBounds b (.cells (c.set off v).toArray e f) := by
      apply Array.ext_getElem?
      intro i
      by_cases hi : b = i
      · subst hi; rw [get_set_same hb, hb']
      · rw [get_set_ne _ hi, hset_ne _ _ _ hi]
    rw [e1, set_set]
    congr 2
    have h1 : (c.set off v).take (off + 1) = c.take off ++ [v] := by
      rw [List.take_set, List.take_succ_eq_append_getElem hl', List.set_append_right _ _ (by simp; omega)]
      simp [Nat.min_eq_left (Nat.le_of_lt hl')]
    have h2 : (c.set off v).drop (off + 1 + vs.length) = c.drop (off + (v :: vs).length) := by
      rw [List.drop_set_of_lt (by omega)]; simp; congr 1; omega
    rw [h1, h2]
    simp
section
variable {P : Program} {main : Bool} {S : Sit Γ} {f : FuncId} {n : Nat} {k : List Item} {env : Env} {ds : List Deferred} {h : Hp} {δ : Ix Γ} {R : Post Γ}
variable {ops : Array Oper} {l : List Oper} {d : Nat} {ty : TypeId} {pos : String} {af : Array Edge} {g : Option (Nat × Bool)}
theorem semW_loadCells {b : Nat} {vs : List Value} {Q : Array Value -> Hp -> Ix Γ -> Prop} {X : Value -> Hp -> Ix Γ -> Prop} (hc : hrow h b 0 vs) (hq : Q vs.toArray h δ) : SemW P S (loadCells ⟨b, 0, none⟩ vs.length) h δ Q X :=
  semW_loadCellsFrom vs 0 #[] (fun j v hv => by simpa using hc j v hv) (by simpa using hq)
theorem hrow_block {b e : Nat} {fz : Nat × Nat} {vs rest : List Value} (hb : h[b]? = some (.cells (vs ++ rest).toArray e fz)) : hrow h b 0 vs := fun i v hv => by
  have hi : i < vs.length := by
    rcases Nat.lt_or_ge i vs.length with x | x
    · exact x
    · rw [List.getElem?_eq_none x] at hv; cases hv
  refine hcell_of hb ?_
  simp only [Nat.zero_add, List.getElem?_toArray, List.getElem?_append_left hi, hv]
theorem sem_append1 {t e sz by_ : Nat} {z : Value} [hinf : Inf P e sz by_ z] [hu : Und P t (.slice e)] {s x : Value} {m c' b' e' : Nat} {fz : Nat × Nat} {cells new : List Value} {Q : Value -> Hp -> Ix Γ -> Prop} {X : Value -> Hp -> Ix Γ -> Prop}
    (hs : SliceO h s e sz m cells) (hx : x = .slice (some ⟨b', 0, none⟩) 1 c') (hb' : h[b']? = some (.cells new.toArray e' fz)) (hnew : new.length = sz) (hone : ∀ v ∈ new, OneCell v) (hfit : (m + 1) * by_ <= 140737488355328) (hm : m < 1000000000000) (hz : z.cells.size = sz) (hS : ∀ b o, blk s = some b -> ¬ S.still δ.g ⟨b, o, none⟩)
    (hq : ∀ s' h', SliceO h' s' e sz (m + 1) (cells ++ new) -> Upd (fun b => blk s = some b) h h' -> (∀ b, blk s' = some b -> blk s = some b \/ b = h.size) -> Q s' h' δ) :
    SemW P S (Builtin.append_ #[t, t] ty #[s, x]) h δ Q X := by
  subst hx
  obtain ⟨inf, hi1, hi2, hi3, hi4⟩ := hinf.get
  obtain ⟨a, cap, rfl⟩ := hs.val
  have hfirst : ∀ {Q' : Array Value -> Hp -> Ix Γ -> Prop}, Q' new.toArray h δ -> SemW P S (Builtin.firstCells sz 1 (.slice (some ⟨b', 0, none⟩) 1 c')) h δ Q' X := fun {Q'} hq' => by
    show SemW P S (loadCells ⟨b', 0, none⟩ (1 * sz)) h δ Q' X
    rw [Nat.one_mul, <- hnew]
    exact semW_loadCells (hrow_block (rest := []) (by simpa using hb')) hq'
  have hout := hu.out
  unfold Builtin.append_
  show SemW P S (underlying t >>= _) h δ Q X
  refine semW_underlying hout ?_
  show SemW P S (sizeOf e >>= _) h δ Q X
  refine semW_sizeOf hi1 ?_
  rw [hi2]
  show SemW P S (underlying t >>= _) h δ Q X
  refine semW_underlying hout ?_
  refine semW_pureBind ?_
  show SemW P S (pure 1 >>= _) h δ Q X
  refine semW_pureBind ?_
  simp only []
  by_cases hle : m + 1 <= cap
  · rw [if_pos hle]
    show SemW P S (Builtin.firstCells sz 1 (.slice (some ⟨b', 0, none⟩) 1 c') >>= _) h δ Q X
    refine semW_bind _ _ _ _ _ _ (hfirst ?_)
    obtain ⟨hl, ⟨he, rfl⟩ | ⟨b, cap', rest, he, h1, h2, h3⟩⟩ := hs
    · cases he; omega
    cases he
    show SemW P S (storeCells ((⟨b, 0, none⟩ : Addr).add (m * sz)) new >>= _) h δ Q X
    rw [add_eq]
    have hroom : m * sz + new.length <= (cells ++ rest).length := by
      rw [List.length_append, hl, h2, hnew, <- Nat.succ_mul, <- Nat.add_mul]
      exact Nat.mul_le_mul_right _ (by omega)
    refine semW_bind _ _ _ _ _ _ (semW_storeCells new 0 h hone (fun j hj => ⟨?_, hfroz_of h3, hS b _ rfl⟩) ?_)
    · refine ⟨(cells ++ rest)[m * sz + j]'(by omega), hcell_of h3 ?_⟩
      simp only [List.getElem?_toArray]
      rw [show 0 + m * sz + 0 + j = m * sz + j by omega, List.getElem?_eq_getElem (by omega)]
    · rw [hsetRow_block new _ h _ h3 (by omega)]
      have e1 : (cells ++ rest).take (0 + m * sz + 0) = cells := by rw [show 0 + m * sz + 0 = cells.length by omega, List.take_left']; rfl
      have e2 : (cells ++ rest).drop (0 + m * sz + 0 + new.length) = rest.drop sz := by
        rw [show 0 + m * sz + 0 + new.length = cells.length + sz by omega, List.drop_append]
        simp
      rw [e1, e2]
      refine semW_pure (Q := _) ?_
      refine hq _ _ ⟨by rw [List.length_append, hl, hnew, Nat.succ_mul], .inr ⟨b, cap, rest.drop sz, rfl, hle, ?_, get_set_same h3⟩⟩ (Upd.set _ _ _ rfl) (fun b' hb' => .inl hb')
      rw [List.length_drop, h2, show cap - m = (cap - (m + 1)) + 1 by omega, Nat.succ_mul]; omega
  · rw [if_neg hle]
    have hmax : IntKind.i64.max = 9223372036854775807 := by decide
    refine semW_typeInfo hi1 ?_
    rw [if_neg (by rw [hmax]; omega)]
    refine semW_typeInfo hi1 ?_
    have hcap : cap <= m := by omega
    rw [if_neg (by rw [hi3]; have := growslice_fits (need := m + 1) (old := cap) (bytes := by_) (by omega) hfit; omega)]
    refine semW_bind _ _ _ _ _ _ ?_
    intro newCap hcut
    have hge : m + 1 <= newCap := by
      rcases hcut with ⟨h1, h2⟩ | ⟨h1, t', h2⟩
      · cases h1
      · rw [h2]; exact Nat.le_add_right _ _
    refine semW_pure (Q := _) ?_
    refine semW_typeInfo hi1 ?_
    have hroom : ∀ {Q' : Unit -> Hp -> Ix Γ -> Prop}, Q' () h δ -> SemW P S (askRoom (newCap * inf.bytes)) h δ Q' X := fun {Q'} hq' => by
      unfold askRoom
      split
      · exact ⟨nofun, nofun, hq'⟩
      · exact hq'
    refine semW_bind _ _ _ _ _ _ (hroom ?_)
    have hold : ∀ {Q' : Array Value -> Hp -> Ix Γ -> Prop}, Q' cells.toArray h δ -> SemW P S (Builtin.firstCells sz m (.slice a m cap)) h δ Q' X := fun {Q'} hq' => by
      obtain ⟨hl, ⟨he, rfl⟩ | ⟨b, cap', rest, he, h1, h2, h3⟩⟩ := hs
      · cases he
        have : cells = [] := by simpa using hl
        subst this
        exact hq'
      · cases he
        show SemW P S (loadCells ⟨b, 0, none⟩ (m * sz)) h δ Q' X
        rw [<- hl]
        exact semW_loadCells (hrow_block h3) hq'
    show SemW P S (Builtin.firstCells sz m (.slice a m cap) >>= _) h δ Q X
    refine semW_bind _ _ _ _ _ _ (hold ?_)
    show SemW P S (Builtin.firstCells sz 1 (.slice (some ⟨b', 0, none⟩) 1 c') >>= _) h δ Q X
    refine semW_bind _ _ _ _ _ _ (hfirst ?_)
    refine semW_zeroValue hi1 hi4 ?_
    refine ⟨thawed, ?_⟩
    refine semW_pure (Q := _) ?_
    have hzc : (Builtin.zeroCells z.cells (newCap - (m + 1))).toList.length = (newCap - (m + 1)) * sz := by simp [Builtin.zeroCells, hz]
    refine hq _ _ ⟨by rw [List.length_append, hs.1, hnew, Nat.succ_mul], .inr ⟨h.size, newCap, (Builtin.zeroCells z.cells (newCap - (m + 1))).toList, rfl, hge, hzc, ?_⟩⟩ (Upd.push _ _) (fun b hb => .inr (by cases hb; rfl))
    rw [get_push_new]
    congr 2
    simp
theorem ER.append1 {t e sz by_ : Nat} {z : Value} [Inf P e sz by_ z] [Und P t (.slice e)] {x y : Operand} {s : Value} {m c' b' e' : Nat} {fz : Nat × Nat} {cells new : List Value}
    (hw : wantE ops env g = some true) (hd : Nat.blt d n = true) (hx : ev env x = some s) (hy : ev env y = some (.slice (some ⟨b', 0, none⟩) 1 c'))
    (hs : SliceO h s e sz m cells) (hb' : h[b']? = some (.cells new.toArray e' fz)) (hnew : new.length = sz) (hone : ∀ v ∈ new, OneCell v) (hfit : (m + 1) * by_ <= 140737488355328) (hm : m < 1000000000000) (hz : z.cells.size = sz) (hS : ∀ b o, blk s = some b -> ¬ S.still δ.g ⟨b, o, none⟩)
    (hn : ∀ s' h', SliceO h' s' e sz (m + 1) (cells ++ new) -> Upd (fun b => blk s = some b) h h' -> (∀ b, blk s' = some b -> blk s = some b \/ b = h.size) -> ER P main S f n ops l k ((d, s') :: env) ds h' δ R) :
    ER P main S f n ops (⟨some d, .call { callee := .builtin .append, args := #[x, y], argTypes := #[t, t] }, ty, pos, af, g⟩ :: l) k env ds h δ R := by
  refine ER.val (Q := fun s' h' δ' => δ' = δ /\ SliceO h' s' e sz (m + 1) (cells ++ new) /\ Upd (fun b => blk s = some b) h h' /\ (∀ b, blk s' = some b -> blk s = some b \/ b = h.size)) hw hd (fun ρ hρ => sem_builtin (vs := #[s, .slice (some ⟨b', 0, none⟩) 1 c']) (by simp [hρ x _ hx, hρ y _ hy]) fun cs => ?_) ?_
  · show SemW P S (Builtin.append_ #[t, t] ty #[s, .slice (some ⟨b', 0, none⟩) 1 c'] >>= fun v => pure (Next.value v)) h δ _ _
    exact semW_bind _ _ _ _ _ _ (sem_append1 hs rfl hb' hnew hone hfit hm hz hS (fun s' h' h1 h2 h3 => ⟨s', rfl, rfl, h1, h2, h3⟩))
  · rintro s' h' δ' ⟨rfl, h1, h2, h3⟩
    exact hn s' h' h1 h2 h3
theorem ER.sliceN {t e sz by_ len : Nat} {z : Value} {ps : Array (Nat × Operand)} {parts : List (Nat × Value)} {cells : Array Value} [hinf : Inf P e sz by_ z] [hu : Und P t (.slice e)] (hw : wantE ops env g = some true) (hd : Nat.blt d n = true) (hp : evP env ps.toList = some parts) (hsz : 0 < len * sz) (hsz2 : len * sz <= 1000000)
    (hf : Instr.fill (fun i => some (i * sz, sz)) ((Array.range (len * sz)).map (z.cells[· % z.cells.size]!)) parts = some cells)
    (hn : ER P main S f n ops l k ((d, .slice (some ⟨h.size, 0, none⟩) len len) :: env) ds (h.push (.cells cells e)) δ R) : ER P main S f n ops (⟨some d, .buildSlice t len ps, ty, pos, af, g⟩ :: l) k env ds h δ R := by
  refine ER.to hw hd (fun ρ Q X hρ hq => ?_) hn
  have e1 : (ps.map fun (i, x) => (i, ρ x)) = parts.toArray := by
    obtain ⟨ps⟩ := ps
    simp only [List.map_toArray]
    rw [<- evP_ok hρ ps parts hp]
  unfold execOp
  dsimp only
  rw [e1]
  refine semW_bind _ _ _ _ _ _ ?_
  obtain ⟨inf, hi1, hi2, hi3, hi4⟩ := hinf.get
  unfold Instr.buildSlice
  refine semW_underlying hu.out ?_
  refine semW_sizeOf hi1 ?_
  rw [hi2, if_neg (by omega), if_neg (by omega)]
  refine semW_zeroValue hi1 hi4 ?_
  refine semW_pureBind ?_
  have hf' : Instr.fill (fun i => some (i * sz, sz)) ((Array.range (len * sz)).map (z.cells[· % z.cells.size]!)) parts.toArray.toList = some cells := hf
  dsimp only
  rw [hf']
  exact ⟨thawed, hq⟩
theorem zeros1 {a : Array Value} {sz : Nat} (h : a.size = sz) : (Array.range (1 * sz)).map (a[· % a.size]!) = a := by
  subst h
  apply Array.ext
  · simp
  · intro i h1 h2
    simp [Nat.mod_eq_of_lt h2, h2]
theorem ER.slice1 {t e sz by_ : Nat} {z : Value} {ps : Array (Nat × Operand)} {parts : List (Nat × Value)} {cells : Array Value} [Inf P e sz by_ z] [Und P t (.slice e)] (hw : wantE ops env g = some true) (hd : Nat.blt d n = true) (hp : evP env ps.toList = some parts) (hsz : 0 < sz) (hsz2 : sz <= 1000000) (hz : z.cells.size = sz)
    (hf : Instr.fill (fun i => some (i * sz, sz)) z.cells parts = some cells)
    (hn : ER P main S f n ops l k ((d, .slice (some ⟨h.size, 0, none⟩) 1 1) :: env) ds (h.push (.cells cells e)) δ R) : ER P main S f n ops (⟨some d, .buildSlice t 1 ps, ty, pos, af, g⟩ :: l) k env ds h δ R :=
  ER.sliceN hw hd hp (by omega) (by omega) (by rw [zeros1 hz]; exact hf) hn
theorem ER.makeSlice {t e by_ m : Nat} {z : Value} {x y : Operand} [hinf : Inf P e 1 by_ z] [hu : Und P t (.slice e)] (hw : wantE ops env g = some true) (hd : Nat.blt d n = true) (hx : ev env x = some (.int .i64 m)) (hy : ev env y = some (.int .i64 m))
    (hfit : by_ * m <= 140737488355328) (hm : m < 1000000000000) (hz : z.cells = #[z])
    (hn : ∀ s h', SliceO h' s e 1 m (List.replicate m z) -> h' = h.push (.cells (List.replicate m z).toArray e) -> blk s = some h.size -> ER P main S f n ops l k ((d, s) :: env) ds h' δ R) : ER P main S f n ops (⟨some d, .makeSlice t x y, ty, pos, af, g⟩ :: l) k env ds h δ R := by
  refine ER.to (v := .slice (some ⟨h.size, 0, none⟩) m m) (h' := h.push (.cells (List.replicate m z).toArray e)) hw hd (fun ρ Q X hρ hq => ?_) (hn _ _ ⟨by simp, .inr ⟨h.size, m, [], rfl, Nat.le_refl _, by simp, by rw [get_push_new]; simp⟩⟩ rfl rfl)
  show SemW P S (Instr.makeSlice t (ρ x) (ρ y) >>= fun v => pure (.value v)) h δ Q X
  rw [hρ x _ hx, hρ y _ hy]
  refine semW_bind _ _ _ _ _ _ ?_
  obtain ⟨inf, hi1, hi2, hi3, hi4⟩ := hinf.get
  have hwr : IntKind.i64.wrap ((m : Int)) = m := i64_in (by omega) (by omega)
  unfold Instr.makeSlice
  show SemW P S (underlying t >>= _) h δ _ X
  refine semW_underlying hu.out ?_
  refine semW_pureBind ?_
  refine semW_pureBind ?_
  refine semW_typeInfo hi1 ?_
  simp only [hwr, hi3]
  have hc : ¬ ((by_ : Int) * m > 2 ^ 48) := by
    have := Int.ofNat_le.mpr hfit
    rw [Int.natCast_mul] at this
    have e : (2 : Int) ^ 48 = 281474976710656 := by decide
    rw [e]
    omega
  rw [if_neg (by rw [decide_eq_false (by omega : ¬ ((m : Int) < 0)), decide_eq_false hc, decide_eq_false (by omega : ¬ ((m : Int) > m))]; decide)]
  have hroom : ∀ {Q' : Unit -> Hp -> Ix Γ -> Prop}, Q' () h δ -> SemW P S (askRoom (((m : Int)).toNat * by_)) h δ Q' X := fun {Q'} hq' => by
    unfold askRoom
    split
    · exact ⟨nofun, nofun, hq'⟩
    · exact hq'
  refine semW_bind _ _ _ _ _ _ (hroom ?_)
  refine semW_sizeOf hi1 ?_
  rw [hi2]
  have hrow : ∀ zs : Array Value, (m = 0 \/ zs = #[z]) -> Array.map (fun x => zs[x % zs.size]!) (Array.range (((m : Int)).toNat * 1)) = (List.replicate m z).toArray := fun zs hzs => by
    rcases hzs with rfl | rfl
    · simp
    · apply Array.ext'
      simp
      apply List.ext_getElem
      · simp
      · intro i h1 h2; simp [Nat.mod_one]
  split
  · refine semW_pureBind ?_
    rename_i h0
    refine ⟨thawed, ?_⟩
    rw [hrow _ (.inl (by omega))]
    exact hq
  · refine semW_zeroValue hi1 hi4 ?_
    refine semW_pureBind ?_
    refine ⟨thawed, ?_⟩
    rw [hrow _ (.inr hz)]
    exact hq
end
section
variable {P : Program} {main : Bool} {S : Sit Γ} {f : FuncId} {n : Nat} {k : List Item} {env : Env} {ds : List Deferred} {h : Hp} {δ : Ix Γ} {R : Post Γ}
variable {ops : Array Oper} {l : List Oper} {d : Nat} {ty : TypeId} {pos : String} {af : Array Edge} {g : Option (Nat × Bool)}
theorem ER.len1 {x : Operand} {t e : TypeId} [Und P t (.slice e)] {a : Option Addr} {len cap : Nat} (hw : wantE ops env g = some true) (hd : Nat.blt d n = true) (hx : ev env x = some (.slice a len cap))
    (hn : ER P main S f n ops l k ((d, .int .i64 len) :: env) ds h δ R) : ER P main S f n ops (⟨some d, .call { callee := .builtin .len, args := #[x], argTypes := #[t] }, ty, pos, af, g⟩ :: l) k env ds h δ R :=
  ER.lenSl (t := t) hw hd rfl hx hn
def cmpB (op : BinOp) (a b : Int) : Bool := match op with
  | .eql => decide (a = b)
  | .neq => decide (a ≠ b)
  | .lss => decide (a < b)
  | .leq => decide (a <= b)
  | .gtr => decide (a > b)
  | .geq => decide (a ≥ b)
  | _ => false
theorem ER.cmpB {op : BinOp} {t t2 : TypeId} {x y : Operand} {kd : IntKind} {a b : Int} {r : Bool} (hc : isCmp op = true) (hw : wantE ops env g = some true) (hd : Nat.blt d n = true) (hx : ev env x = some (.int kd a)) (hy : ev env y = some (.int kd b)) (hr : TJ.cmpB op a b = r)
    (hn : ER P main S f n ops l k ((d, .bool r) :: env) ds h δ R) : ER P main S f n ops (⟨some d, .binOp op t x y t2, ty, pos, af, g⟩ :: l) k env ds h δ R := by
  refine ER.cmpS hc hw hd hx hy (fun hp => ?_) (fun hp => ?_)
  · have : r = true := by subst hr; cases op <;> first | exact decide_eq_true hp | cases hc
    rw [<- this]; exact hn
  · have : r = false := by subst hr; cases op <;> first | exact decide_eq_false hp | cases hc
    rw [<- this]; exact hn
end
theorem SliceO.cell {h : Hp} {s : Value} {e sz m : Nat} {cells : List Value} (x : SliceO h s e sz m cells) (hm : 0 < m) : ∃ b cap, s = .slice (some ⟨b, 0, none⟩) m cap /\ (∀ j v, cells[j]? = some v -> hcell h ⟨b, j, none⟩ = some v) /\ ∀ o, hfroz h ⟨b, o, none⟩ = false := by
  obtain ⟨hl, ⟨rfl, rfl⟩ | ⟨b, cap, rest, rfl, h1, h2, h3⟩⟩ := x
  · omega
  · refine ⟨b, cap, rfl, fun j v hv => by simpa using hrow_block h3 j v hv, fun o => hfroz_of h3⟩
theorem SliceO.set {h : Hp} {b cap e sz m : Nat} {cells : List Value} (x : SliceO h (.slice (some ⟨b, 0, none⟩) m cap) e sz m cells) {j : Nat} (hj : j < cells.length) (v : Value) : SliceO (hset h ⟨b, j, none⟩ v) (.slice (some ⟨b, 0, none⟩) m cap) e sz m (cells.set j v) := by
  obtain ⟨hl, ⟨he, rfl⟩ | ⟨b', cap', rest, he, h1, h2, h3⟩⟩ := x
  · cases he
  · cases he
    refine ⟨by simpa using hl, .inr ⟨b, cap, rest, rfl, h1, h2, ?_⟩⟩
    rw [hset_get, if_pos rfl, h3]
    simp [hj]
end
section
open Go Go.Conc
variable {Γ : Type}
section
variable {P : Program} {main : Bool} {S : Sit Γ} {f : FuncId} {n : Nat} {k : List Item} {env : Env} {ds : List Deferred} {h : Hp} {δ : Ix Γ} {R : Post Γ}
variable {ops : Array Oper} {l : List Oper} {d : Nat} {ty : TypeId} {pos : String} {af : Array Edge} {g : Option (Nat × Bool)}
theorem semW_callF {op : Op} {dst : Option Nat} {x : Operand} {args : Array Operand} {ats : Array TypeId} {c : FuncId} {first cap vs : Array Value} [hb : HasBody P c] {ρ : Operand -> Value} {Q : Next -> Hp -> Ix Γ -> Prop} {X : Value -> Hp -> Ix Γ -> Prop}
    (hop : op = .call { callee := .value x, args, argTypes := ats }) (hx : ρ x = .func (.func c) first cap) (ha : args.map ρ = vs) (hq : Q (.enter c (first ++ vs ++ cap)) h δ) : SemW P S (execOp ρ ⟨dst, op, ty, pos, af, g⟩) h δ Q X := by
  subst hop
  show SemW P S (Deferred.ofValue (ρ x) (args.map ρ) >>= fun d => invoke d.target d.args) h δ Q X
  rw [hx, ha]
  obtain ⟨fn, code, h1, h2, h3⟩ := hb.out
  show SemW P S (callFunc c ((first ++ vs) ++ cap)) h δ Q X
  exact callFunc_semW h1 h2 h3 hq
def RetP (Q : Value -> Hp -> Ix Γ -> Prop) (X : List PanicEntry -> Hp -> Ix Γ -> Prop) : Post Γ
  | .ret v, h, δ => Q v h δ
  | .pan p, h, δ => X p h δ
theorem CallW.conseqP {c : FuncId} {args : Array Value} {Q Q' : Value -> Hp -> Ix Γ -> Prop} {X : List PanicEntry -> Hp -> Ix Γ -> Prop} (hc : CallW P main S c args h δ (RetP Q X)) (hq : ∀ v h' δ', Q v h' δ' -> Q' v h' δ') : CallW P main S c args h δ (RetP Q' X) :=
  hc.mono (by
    rintro (v | p) h δ hx
    · exact hq _ _ _ hx
    · exact hx)
theorem EU.pan0 {fn : Func} {p : List PanicEntry} [hf : IsFn P f fn] (hR : R (.pan p) h δ) : EU P main S f n (.panicking p) env [] h δ R :=
  fun _ ka => WU.pan0 ka.defers hf.out hR
theorem ER.callP {fn : Func} [hf : IsFn P f fn] {x : Operand} {args : Array Operand} {ats : Array TypeId} {c : FuncId} {first cap ws : Array Value} {vs : List Value} [HasBody P c] {Q : Value -> Hp -> Ix Γ -> Prop} {X : List PanicEntry -> Hp -> Ix Γ -> Prop} (hw : wantE ops env g = some true) (hd : Nat.blt d n = true) (hx : ev env x = some (.func (.func c) first cap))
    (ha : evL env args.toList = some vs) (hws : first ++ vs.toArray ++ cap = ws) (hc : CallW P main S c ws h δ (RetP Q X)) (hX : ∀ p h' δ', X p h' δ' -> R (.pan p) h' δ')
    (hn : ∀ v h' δ', Q v h' δ' -> ER P main S f n ops l k ((d, v) :: env) [] h' δ' R) : ER P main S f n ops (⟨some d, .call { callee := .value x, args, argTypes := ats }, ty, pos, af, g⟩ :: l) k env [] h δ R := by
  subst hws
  refine ER.callGen hw hd (fun _ _ _ hρ hq => semW_callF rfl (hρ x _ hx) (map_ofL hρ ha) hq) (hc.mono ?_)
  rintro (v | p) h' δ' hq
  · exact hn _ _ _ hq
  · exact EU.pan0 (hX _ _ _ hq)
variable {Z : Hp -> Prop} {zz : Nat} {m : Nat} {listed l' : Array Bool}
theorem EA.valQ (i : Nat) {op : Op} {Q : Value -> Hp -> Ix Γ -> Prop}
    (hi : ops[i]? = some ⟨some d, op, ty, pos, af, g⟩) (hr : Region.ready .any ops listed = [i]) (hl : listed.setIfInBounds i true = l') (hd : Nat.blt d n = true) (hw : wantE ops env g = some true)
    (hs : ∀ ρ : Operand -> Value, (∀ x v, ev env x = some v -> ρ x = v) -> ∀ X, SemW P S (execOp ρ ⟨some d, op, ty, pos, af, g⟩) h δ (fun nx h' δ' => ∃ v, nx = .value v /\ Q v h' δ') X)
    (hn : ∀ v h' δ', Q v h' δ' -> Z h' /\ EA P main S f n ops Z zz m l' k ((d, v) :: env) ds h' δ' R) : EA P main S f n ops Z zz (m + 1) listed k env ds h δ R := by
  refine EA.only i hi hr hl hw fun a ka => ?_
  refine semW_mono _ _ _ (hs a.eval (fun x v hx => ka.eval hx) _) ?_ (fun _ _ _ x => x)
  rintro nx h' δ' ⟨v, rfl, hq⟩
  exact ⟨.inr (hn v h' δ' hq).1, (hn v h' δ' hq).2 _ (ka.put v hd)⟩
theorem EA.append1 (i : Nat) {t e sz by_ : Nat} {z : Value} [Inf P e sz by_ z] [Und P t (.slice e)] {x y : Operand} {s : Value} {q c' b' e' : Nat} {fz : Nat × Nat} {cells new : List Value}
    (hi : ops[i]? = some ⟨some d, .call { callee := .builtin .append, args := #[x, y], argTypes := #[t, t] }, ty, pos, af, g⟩) (hr : Region.ready .any ops listed = [i]) (hl : listed.setIfInBounds i true = l') (hd : Nat.blt d n = true) (hw : wantE ops env g = some true)
    (hx : ev env x = some s) (hy : ev env y = some (.slice (some ⟨b', 0, none⟩) 1 c'))
    (hs : SliceO h s e sz q cells) (hb' : h[b']? = some (.cells new.toArray e' fz)) (hnew : new.length = sz) (hone : ∀ v ∈ new, OneCell v) (hfit : (q + 1) * by_ <= 140737488355328) (hm : q < 1000000000000) (hz : z.cells.size = sz) (hS : ∀ b o, blk s = some b -> ¬ S.still δ.g ⟨b, o, none⟩)
    (hn : ∀ s' h', SliceO h' s' e sz (q + 1) (cells ++ new) -> Upd (fun b => blk s = some b) h h' -> (∀ b, blk s' = some b -> blk s = some b \/ b = h.size) -> Z h' /\ EA P main S f n ops Z zz m l' k ((d, s') :: env) ds h' δ R) :
    EA P main S f n ops Z zz (m + 1) listed k env ds h δ R := by
  refine EA.valQ (Q := fun s' h' δ' => δ' = δ /\ SliceO h' s' e sz (q + 1) (cells ++ new) /\ Upd (fun b => blk s = some b) h h' /\ (∀ b, blk s' = some b -> blk s = some b \/ b = h.size)) i hi hr hl hd hw (fun ρ hρ X => sem_builtin (vs := #[s, .slice (some ⟨b', 0, none⟩) 1 c']) (by simp [hρ x _ hx, hρ y _ hy]) fun cs => ?_) ?_
  · show SemW P S (Builtin.append_ #[t, t] ty #[s, .slice (some ⟨b', 0, none⟩) 1 c'] >>= fun v => pure (Next.value v)) h δ _ _
    exact semW_bind _ _ _ _ _ _ (sem_append1 hs rfl hb' hnew hone hfit hm hz hS (fun s' h' h1 h2 h3 => ⟨s', rfl, rfl, h1, h2, h3⟩))
  · rintro s' h' δ' ⟨rfl, h1, h2, h3⟩
    exact hn s' h' h1 h2 h3
theorem EA.tLen1 (i : Nat) {x : Operand} {t e : TypeId} [Und P t (.slice e)] {a : Option Addr} {len cap : Nat} (hi : ops[i]? = some ⟨some d, .call { callee := .builtin .len, args := #[x], argTypes := #[t] }, ty, pos, af, g⟩) (hs : takeB ops listed zz i = true) (hl : listed.setIfInBounds i true = l')
    (hd : Nat.blt d n = true) (hw : wantE ops env g = some true) (hx : ev env x = some (.slice a len cap)) (hZ : Z h)
    (hn : EA P main S f n ops Z zz m l' k ((d, .int .i64 len) :: env) ds h δ R) : EA P main S f n ops Z zz (m + 1) listed k env ds h δ R :=
  EA.tLen (t := t) i hi hs hl hd hw rfl hx hZ hn
theorem EA.tPickT (i : Nat) {c x y : Operand} {v : Value} (hi : ops[i]? = some ⟨some d, .pick c x y, ty, pos, af, g⟩) (hs : takeB ops listed zz i = true) (hl : listed.setIfInBounds i true = l')
    (hd : Nat.blt d n = true) (hw : wantE ops env g = some true) (hc : ev env c = some (.bool true)) (hx : ev env x = some v) (hZ : Z h)
    (hn : EA P main S f n ops Z zz m l' k ((d, v) :: env) ds h δ R) : EA P main S f n ops Z zz (m + 1) listed k env ds h δ R :=
  EA.take i hi hs hl hd hw (fun _ _ _ _ _ hρ _ hq => sem_pick (b := true) (hρ _ _ hc) (hρ _ _ hx) hq) hZ hn
theorem EA.tPickF (i : Nat) {c x y : Operand} {v : Value} (hi : ops[i]? = some ⟨some d, .pick c x y, ty, pos, af, g⟩) (hs : takeB ops listed zz i = true) (hl : listed.setIfInBounds i true = l')
    (hd : Nat.blt d n = true) (hw : wantE ops env g = some true) (hc : ev env c = some (.bool false)) (hx : ev env y = some v) (hZ : Z h)
    (hn : EA P main S f n ops Z zz m l' k ((d, v) :: env) ds h δ R) : EA P main S f n ops Z zz (m + 1) listed k env ds h δ R :=
  EA.take i hi hs hl hd hw (fun _ _ _ _ _ hρ _ hq => sem_pick (b := false) (hρ _ _ hc) (hρ _ _ hx) hq) hZ hn
theorem EA.tCmpT (i : Nat) {op : BinOp} {t t2 : TypeId} {x y : Operand} {kd : IntKind} {a b : Int} (hi : ops[i]? = some ⟨some d, .binOp op t x y t2, ty, pos, af, g⟩) (hs : takeB ops listed zz i = true) (hl : listed.setIfInBounds i true = l')
    (hd : Nat.blt d n = true) (hw : wantE ops env g = some true) (hc : isCmp op = true) (hx : ev env x = some (.int kd a)) (hy : ev env y = some (.int kd b)) (hp : cmpP op a b) (hZ : Z h)
    (hn : EA P main S f n ops Z zz m l' k ((d, .bool true) :: env) ds h δ R) : EA P main S f n ops Z zz (m + 1) listed k env ds h δ R :=
  EA.tBinI i hi hs hl hd hw hx hy (binOp_cmpT hc hp) hZ hn
theorem EA.tCmpF (i : Nat) {op : BinOp} {t t2 : TypeId} {x y : Operand} {kd : IntKind} {a b : Int} (hi : ops[i]? = some ⟨some d, .binOp op t x y t2, ty, pos, af, g⟩) (hs : takeB ops listed zz i = true) (hl : listed.setIfInBounds i true = l')
    (hd : Nat.blt d n = true) (hw : wantE ops env g = some true) (hc : isCmp op = true) (hx : ev env x = some (.int kd a)) (hy : ev env y = some (.int kd b)) (hp : ¬ cmpP op a b) (hZ : Z h)
    (hn : EA P main S f n ops Z zz m l' k ((d, .bool false) :: env) ds h δ R) : EA P main S f n ops Z zz (m + 1) listed k env ds h δ R :=
  EA.tBinI i hi hs hl hd hw hx hy (binOp_cmpF hc hp) hZ hn
theorem sem_alloc {t sz by_ : Nat} {z : Value} [i : Inf P t sz by_ z] {ρ : Operand -> Value} {dst : Option Nat} {Q : Next -> Hp -> Ix Γ -> Prop} {X : Value -> Hp -> Ix Γ -> Prop} (hq : Q (.value (.pointer (some ⟨h.size, 0, none⟩))) (h.push (.cells z.cells t)) δ) : SemW P S (execOp ρ ⟨dst, .alloc t, ty, pos, af, g⟩) h δ Q X := by
  show SemW P S (Instr.alloc t true (.tuple #[]) >>= fun v => pure (.value v)) h δ Q X
  refine semW_bind _ _ _ _ _ _ ?_
  unfold Instr.alloc
  obtain ⟨inf, h1, h2, h3, h4⟩ := i.get
  exact semW_zeroValue h1 h4 ⟨thawed, hq⟩
theorem sem_allocA {t sz by_ : Nat} {cs : Array Value} [Inf P t sz by_ (.agg cs)] {ρ : Operand -> Value} {dst : Option Nat} {Q : Next -> Hp -> Ix Γ -> Prop} {X : Value -> Hp -> Ix Γ -> Prop} (hq : Q (.value (.pointer (some ⟨h.size, 0, none⟩))) (h.push (.cells cs t)) δ) : SemW P S (execOp ρ ⟨dst, .alloc t, ty, pos, af, g⟩) h δ Q X :=
  sem_alloc (z := .agg cs) hq
theorem hsetRow_push {h : Hp} {c vs : List Value} {e : TypeId} {f : Nat × Nat} (hl : c.length = vs.length) : hsetRow (h.push (.cells c.toArray e f)) h.size 0 vs = h.push (.cells vs.toArray e f) := by
  rw [hsetRow_block vs 0 _ c (get_push_new _ _) (by omega), push_set]
  congr 2
  simp [<- hl]
theorem sem_buildS {t sz by_ : Nat} {z : Value} {pl : List (Nat × Nat)} [Inf P t sz by_ z] [Places P t pl] {ps : Array (Nat × Operand)} {parts : List (Nat × Value)} {cells : Array Value} {ρ : Operand -> Value} {dst : Option Nat} {Q : Next -> Hp -> Ix Γ -> Prop} {X : Value -> Hp -> Ix Γ -> Prop}
    (hρ : ∀ x v, ev env x = some v -> ρ x = v) (hp : evP env ps.toList = some parts) (hf : Instr.fill (fun i => pl.toArray[i]?) z.cells parts = some cells) (hq : Q (.value (.agg cells)) h δ) : SemW P S (execOp ρ ⟨dst, .build t ps, ty, pos, af, g⟩) h δ Q X := by
  have e1 : (ps.map fun (i, x) => (i, ρ x)) = parts.toArray := by
    obtain ⟨ps⟩ := ps
    simp only [List.map_toArray]
    rw [<- evP_ok hρ ps parts hp]
  unfold execOp
  dsimp only
  rw [e1]
  exact semW_bind _ _ _ _ _ _ (semW_build (parts := parts.toArray) hf hq)
theorem sem_slice1 {t e sz by_ : Nat} {z : Value} {ps : Array (Nat × Operand)} {parts : List (Nat × Value)} {cells : Array Value} [hinf : Inf P e sz by_ z] [hu : Und P t (.slice e)] {ρ : Operand -> Value} {dst : Option Nat} {Q : Next -> Hp -> Ix Γ -> Prop} {X : Value -> Hp -> Ix Γ -> Prop}
    (hρ : ∀ x v, ev env x = some v -> ρ x = v) (hp : evP env ps.toList = some parts) (hsz : 0 < sz) (hsz2 : sz <= 1000000) (hz : z.cells.size = sz) (hf : Instr.fill (fun i => some (i * sz, sz)) z.cells parts = some cells)
    (hq : Q (.value (.slice (some ⟨h.size, 0, none⟩) 1 1)) (h.push (.cells cells e)) δ) : SemW P S (execOp ρ ⟨dst, .buildSlice t 1 ps, ty, pos, af, g⟩) h δ Q X := by
  have e1 : (ps.map fun (i, x) => (i, ρ x)) = parts.toArray := by
    obtain ⟨ps⟩ := ps
    simp only [List.map_toArray]
    rw [<- evP_ok hρ ps parts hp]
  unfold execOp
  dsimp only
  rw [e1]
  refine semW_bind _ _ _ _ _ _ ?_
  obtain ⟨inf, hi1, hi2, hi3, hi4⟩ := hinf.get
  unfold Instr.buildSlice
  refine semW_underlying hu.out ?_
  refine semW_sizeOf hi1 ?_
  rw [hi2, if_neg (by omega), if_neg (by omega)]
  refine semW_zeroValue hi1 hi4 ?_
  refine semW_pureBind ?_
  have hf' : Instr.fill (fun i => some (i * sz, sz)) ((Array.range (1 * sz)).map (z.cells[· % z.cells.size]!)) parts.toArray.toList = some cells := by rw [zeros1 hz]; exact hf
  dsimp only
  rw [hf']
  exact ⟨thawed, hq⟩
end
end
section
open Go Go.Conc
variable {Γ : Type}
structure Mem (K : Type) where
  ok : K -> Prop
  B : K -> Nat
  O : K -> Obj
section
variable {K : Type}
structure Rep (h : Hp) (M : Mem K) : Prop where
  has : ∀ k, M.ok k -> h[M.B k]? = some (M.O k)
  inj : ∀ k k', M.ok k -> M.ok k' -> M.B k = M.B k' -> k = k'
variable {h h' : Hp} {M : Mem K}
theorem Rep.lt (r : Rep h M) {k : K} (hk : M.ok k) : M.B k < h.size := lt_of_get (r.has k hk)
theorem Rep.get (r : Rep h M) {k : K} (hk : M.ok k) {o : Obj} (ho : M.O k = o) : h[M.B k]? = some o := ho ▸ r.has k hk
theorem Rep.cell (r : Rep h M) {k : K} (hk : M.ok k) {c : Array Value} {e : TypeId} {f : Nat × Nat} (ho : M.O k = .cells c e f) {i : Nat} {v : Value} (hv : c[i]? = some v) : hcell h ⟨M.B k, i, none⟩ = some v :=
  hcell_of (r.get hk ho) hv
theorem Rep.upd (r : Rep h M) {T : Nat -> Prop} (u : Upd T h h') (hT : ∀ k, M.ok k -> ¬ T (M.B k)) : Rep h' M := ⟨fun k hk => u.get (r.has k hk) (hT k hk), r.inj⟩
theorem Rep.upd0 (r : Rep h M) (u : Upd (fun _ => False) h h') : Rep h' M := r.upd u (fun _ _ x => x)
theorem Rep.congr (r : Rep h M) {M' : Mem K} (hok : ∀ k, M'.ok k -> M.ok k) (hB : ∀ k, M'.ok k -> M'.B k = M.B k) (hO : ∀ k, M'.ok k -> M'.O k = M.O k) : Rep h M' :=
  ⟨fun k hk => by rw [hB k hk, hO k hk]; exact r.has k (hok k hk), fun i j hi hj e => r.inj i j (hok i hi) (hok j hj) (by rw [<- hB i hi, <- hB j hj]; exact e)⟩
def Mem.Own (M : Mem K) (b : Nat) : Prop := ∃ k, M.ok k /\ b = M.B k
def Mem.Sl (M : Mem K) (k : K) (s : Value) (e : TypeId) (sz n : Nat) (cells : List Value) : Prop :=
  cells.length = n * sz /\ ((s = .slice none 0 0 /\ n = 0 /\ ¬ M.ok k) \/ (M.ok k /\ ∃ cap rest, s = .slice (some ⟨M.B k, 0, none⟩) n cap /\ n <= cap /\ rest.length = (cap - n) * sz /\ M.O k = .cells (cells ++ rest).toArray e (0, 0)))
theorem Mem.Sl.nil {k : K} {e sz : Nat} (hk : ¬ M.ok k) : M.Sl k (.slice none 0 0) e sz 0 [] := ⟨by simp, .inl ⟨rfl, rfl, hk⟩⟩
theorem Mem.Sl.slice (r : Rep h M) {k : K} {s : Value} {e sz n : Nat} {cells : List Value} (x : M.Sl k s e sz n cells) : SliceO h s e sz n cells := by
  refine ⟨x.1, x.2.imp (fun y => ⟨y.1, y.2.1⟩) ?_⟩
  rintro ⟨hk, cap, rest, rfl, h1, h2, h3⟩
  exact ⟨_, cap, rest, rfl, h1, h2, r.get hk h3⟩
theorem Mem.Sl.blk {k : K} {s : Value} {e sz n : Nat} {cells : List Value} (x : M.Sl k s e sz n cells) {b : Nat} (hb : TJ.blk s = some b) : M.ok k /\ b = M.B k := by
  rcases x.2 with ⟨rfl, _, _⟩ | ⟨hk, cap, rest, rfl, _⟩
  · cases hb
  · cases hb; exact ⟨hk, rfl⟩
theorem Mem.Sl.val {k : K} {s : Value} {e sz n : Nat} {cells : List Value} (x : M.Sl k s e sz n cells) : ∃ a cap, s = .slice a n cap := by
  rcases x.2 with ⟨rfl, rfl, _⟩ | ⟨_, cap, _, rfl, _⟩
  · exact ⟨_, _, rfl⟩
  · exact ⟨_, _, rfl⟩
theorem Mem.Sl.cell (r : Rep h M) {k : K} {s : Value} {e sz n : Nat} {cells : List Value} (x : M.Sl k s e sz n cells) (hn : 0 < n) : ∃ cap, s = .slice (some ⟨M.B k, 0, none⟩) n cap /\ M.ok k /\ (∀ j v, cells[j]? = some v -> hcell h ⟨M.B k, j, none⟩ = some v) /\ ∀ o, hfroz h ⟨M.B k, o, none⟩ = false := by
  rcases x.2 with ⟨_, rfl, _⟩ | ⟨hk, cap, rest, rfl, h1, h2, h3⟩
  · omega
  · refine ⟨cap, rfl, hk, fun j v hv => r.cell hk h3 ?_, fun o => hfroz_of (r.get hk h3)⟩
    have hj : j < cells.length := by
      rcases Nat.lt_or_ge j cells.length with y | y
      · exact y
      · rw [List.getElem?_eq_none y] at hv; cases hv
    simp only [List.getElem?_toArray, List.getElem?_append_left hj, hv]
theorem Mem.Sl.congr {M' : Mem K} {k : K} {s : Value} {e sz n : Nat} {cells : List Value} (x : M.Sl k s e sz n cells) (hok : M'.ok k ↔ M.ok k) (hB : M'.B k = M.B k) (hO : M'.O k = M.O k) : M'.Sl k s e sz n cells := by
  unfold Mem.Sl at *
  rw [hok, hB, hO]; exact x
end
section
variable {K : Type} [DecidableEq K] {h h' : Hp} {M : Mem K}
def ut {α : Type} (f : K -> α) (k : K) (x : α) : K -> α := fun j => if j = k then x else f j
theorem ut_same {α : Type} (f : K -> α) (k : K) (x : α) : ut f k x k = x := by simp [ut]
theorem ut_ne {α : Type} (f : K -> α) {k j : K} (x : α) (h : j ≠ k) : ut f k x j = f j := by simp [ut, h]
theorem ut_ut {α : Type} (f : K -> α) (k : K) (x y : α) : ut (ut f k x) k y = ut f k y := by
  funext j; unfold ut; split <;> rfl
theorem ut_self {α : Type} (f : K -> α) (k : K) : ut f k (f k) = f := by
  funext j; unfold ut; split
  · rename_i e; rw [e]
  · rfl
def Mem.set (M : Mem K) (k : K) (o : Obj) : Mem K := ⟨M.ok, M.B, ut M.O k o⟩
def Mem.put (M : Mem K) (k : K) (b : Nat) (o : Obj) : Mem K := ⟨fun x => x = k \/ M.ok x, ut M.B k b, ut M.O k o⟩
theorem Rep.set (r : Rep h M) {k : K} (hk : M.ok k) (o : Obj) : Rep (h.setIfInBounds (M.B k) o) (M.set k o) := by
  refine ⟨fun j hj => ?_, r.inj⟩
  show (h.setIfInBounds (M.B k) o)[M.B j]? = some (ut M.O k o j)
  by_cases e : j = k
  · subst e; rw [ut_same]; exact get_set_same (r.has j hj)
  · rw [ut_ne _ _ e, get_set_ne _ (fun x => e (r.inj _ _ hj hk x.symm))]
    exact r.has j hj
theorem Rep.hset (r : Rep h M) {k : K} (hk : M.ok k) {c : Array Value} {e : TypeId} {f : Nat × Nat} (ho : M.O k = .cells c e f) (i : Nat) (v : Value) : Rep (hset h ⟨M.B k, i, none⟩ v) (M.set k (.cells (c.setIfInBounds i v) e f)) := by
  have e1 : TJ.hset h ⟨M.B k, i, none⟩ v = h.setIfInBounds (M.B k) (.cells (c.setIfInBounds i v) e f) := by
    apply Array.ext_getElem?
    intro j
    by_cases hj : M.B k = j
    · subst hj
      rw [get_set_same (r.has k hk)]
      exact hset_same h ⟨M.B k, i, none⟩ v (r.get hk ho) rfl
    · rw [get_set_ne _ hj, hset_ne _ _ _ hj]
  rw [e1]
  exact r.set hk _
theorem Rep.put (r : Rep h M) (k : K) (o : Obj) : Rep (h.push o) (M.put k h.size o) := by
  refine ⟨fun j hj => ?_, fun i j hi hj e => ?_⟩
  · show (h.push o)[ut M.B k h.size j]? = some (ut M.O k o j)
    by_cases e : j = k
    · subst e; rw [ut_same, ut_same]; exact get_push_new h o
    · rw [ut_ne _ _ e, ut_ne _ _ e]
      exact get_push _ (r.has j (hj.resolve_left e))
  · change ut M.B k h.size i = ut M.B k h.size j at e
    by_cases ei : i = k <;> by_cases ej : j = k
    · rw [ei, ej]
    · subst ei
      rw [ut_same, ut_ne _ _ ej] at e
      have := r.lt (hj.resolve_left ej)
      omega
    · subst ej
      rw [ut_same, ut_ne _ _ ei] at e
      have := r.lt (hi.resolve_left ei)
      omega
    · rw [ut_ne _ _ ei, ut_ne _ _ ej] at e
      exact r.inj i j (hi.resolve_left ei) (hj.resolve_left ej) e
theorem Mem.Sl.set {k j : K} {s : Value} {e sz n : Nat} {cells : List Value} (x : M.Sl k s e sz n cells) (hj : k ≠ j) (o : Obj) : (M.set j o).Sl k s e sz n cells := x.congr Iff.rfl rfl (ut_ne _ _ hj)
theorem Mem.Sl.put {k j : K} {s : Value} {e sz n : Nat} {cells : List Value} (x : M.Sl k s e sz n cells) (hj : k ≠ j) (b : Nat) (o : Obj) : (M.put j b o).Sl k s e sz n cells := x.congr ⟨fun y => y.resolve_left hj, .inr⟩ (ut_ne _ _ hj) (ut_ne _ _ hj)
theorem Rep.app (r : Rep h M) {k : K} {s s' : Value} {e sz n : Nat} {cells new : List Value} (x : M.Sl k s e sz n cells) (hs : SliceO h' s' e sz (n + 1) (cells ++ new)) (u : Upd (fun b => TJ.blk s = some b) h h') (hb : ∀ b, TJ.blk s' = some b -> TJ.blk s = some b \/ b = h.size) :
    ∃ b o, Rep h' (M.put k b o) /\ (M.put k b o).Sl k s' e sz (n + 1) (cells ++ new) /\ ((M.ok k /\ b = M.B k) \/ h.size <= b) /\ b < h'.size := by
  obtain ⟨hl, ⟨_, hn⟩ | ⟨b, cap, rest, rfl, h1, h2, h3⟩⟩ := hs
  · omega
  have hold : ∀ j, j ≠ k -> M.ok j -> M.B j ≠ b /\ h'[M.B j]? = some (M.O j) := fun j hj ho => by
    have hlt := r.lt ho
    have hnb : ¬ TJ.blk s = some (M.B j) := fun y => by
      obtain ⟨hk, e⟩ := x.blk y
      exact hj (r.inj _ _ ho hk e)
    refine ⟨fun e => ?_, u.get (r.has j ho) hnb⟩
    rcases hb b rfl with y | y
    · exact hnb (e ▸ y)
    · omega
  refine ⟨b, _, ⟨fun j hj => ?_, fun i j hi hj e => ?_⟩, ⟨hl, .inr ⟨.inl rfl, cap, rest, ?_, h1, h2, ut_same _ _ _⟩⟩, ?_, lt_of_get h3⟩
  · show h'[ut M.B k b j]? = some (ut M.O k _ j)
    by_cases e : j = k
    · subst e; rw [ut_same, ut_same]; exact h3
    · rw [ut_ne _ _ e, ut_ne _ _ e]
      exact (hold j e (hj.resolve_left e)).2
  · change ut M.B k b i = ut M.B k b j at e
    by_cases ei : i = k <;> by_cases ej : j = k
    · rw [ei, ej]
    · subst ei
      rw [ut_same, ut_ne _ _ ej] at e
      exact absurd e.symm (hold j ej (hj.resolve_left ej)).1
    · subst ej
      rw [ut_same, ut_ne _ _ ei] at e
      exact absurd e (hold i ei (hi.resolve_left ei)).1
    · rw [ut_ne _ _ ei, ut_ne _ _ ej] at e
      exact r.inj i j (hi.resolve_left ei) (hj.resolve_left ej) e
  · show Value.slice (some ⟨b, 0, none⟩) (n + 1) cap = Value.slice (some ⟨ut M.B k b k, 0, none⟩) (n + 1) cap
    rw [ut_same]
  · rcases hb b rfl with y | y
    · exact .inl (x.blk y)
    · exact .inr (by omega)
end
end
section
open Go Go.Conc
structure Tr (h : Nat) (Lo : Nat -> Prop) (St : Nat -> Loc -> Prop) (t : Trace) : Prop where
  clean : ∀ said, ¬ Race said t
  known : ∀ i a, touchAt t i = some a -> a.loc.isMemory = true -> Knows t h i \/ (a.write = false /\ ∃ g, t.g? i = some g /\ Lo g /\ St g a.loc)
  wrote : ∀ i a, touchAt t i = some a -> a.write = true -> ∀ g, Lo g -> St g a.loc -> Knows t g i
  hears : ∀ g, Lo g -> Deaf t g = 0
section
variable {h : Nat} {Lo Lo' : Nat -> Prop} {St St' : Nat -> Loc -> Prop} {t u : Trace}
theorem Tr.congr (H : Tr h Lo St t) (h1 : ∀ g, Lo' g ↔ Lo g) (h2 : ∀ g, Lo g -> ∀ l, St' g l ↔ St g l) : Tr h Lo' St' t :=
  ⟨H.clean, fun i a ha hm => (H.known i a ha hm).imp id fun ⟨x, g, y, z, w⟩ => ⟨x, g, y, (h1 g).2 z, (h2 g z _).2 w⟩, fun i a ha hw g hg hS => H.wrote i a ha hw g ((h1 g).1 hg) ((h2 g ((h1 g).1 hg) _).1 hS), fun g hg => H.hears g ((h1 g).1 hg)⟩
theorem Tr.old (H : Tr h Lo St t) {i : Nat} {a : Touch} {x : MemOp} (hx : t[i]? = some x) (hxa : x.act.touch? = some a) (hm : a.loc.isMemory = true) :
    Knows (t ++ u) h i \/ (a.write = false /\ ∃ g, (t ++ u).g? i = some g /\ Lo g /\ St g a.loc) :=
  (H.known i a (by rw [touchAt_of hx]; exact hxa) hm).imp (Knows.app u) fun ⟨p, g, q, r⟩ => ⟨p, g, by rw [g?_old (lt_size_of_getElem? hx)]; exact q, r⟩
theorem Tr.own (H : Tr h Lo St t) (hl : ¬ Lo h) (hu : ∀ op ∈ u, op.g = h) (hs : ∀ op ∈ u, ∀ b, op.act.touch? = some b -> ∀ g, Lo g -> St g b.loc -> b.write = false) : Tr h Lo St (t ++ u) := by
  refine ⟨fun said => noRace_append (H.clean said) hu fun i a ha op hop b hb hc => ?_, fun i a ha hm => ?_, fun i a ha hw g hg hS => ?_, fun g hg => ?_⟩
  · rcases H.known i a ha hc.2.1 with hk | ⟨hw, g, _, hg, hS⟩
    · exact hk
    · have hb0 := hs op hop b hb g hg (hc.1 ▸ hS)
      rcases hc.2.2.1 with x | x
      · rw [hw] at x; cases x
      · rw [hb0] at x; cases x
  · obtain ⟨x, hx, hxa⟩ := touch_of ha
    rcases getElem?_append_cases hx with ⟨_, hx'⟩ | ⟨_, hxu⟩
    · exact H.old hx' hxa hm
    · have := knows_own hx
      rw [hu x hxu] at this
      exact .inl this
  · obtain ⟨x, hx, hxa⟩ := touch_of ha
    rcases getElem?_append_cases hx with ⟨_, hx'⟩ | ⟨_, hxu⟩
    · exact (H.wrote i a (by rw [touchAt_of hx']; exact hxa) hw g hg hS).app u
    · rw [hs x hxu a hxa g hg hS] at hw; cases hw
  · exact (Deaf_other t (fun e => hl (by rw [e]; exact hg)) u hu).trans (H.hears g hg)
theorem Tr.mute (H : Tr h Lo St t) (hn : ∀ op ∈ u, op.act.touch? = none) (hd : ∀ g, Lo g -> Deaf (t ++ u) g = Deaf t g) : Tr h Lo St (t ++ u) := by
  refine ⟨fun said => noRace_appendMute (H.clean said) hn, fun i a ha hm => ?_, fun i a ha hw g hg hS => ?_, fun g hg => (hd g hg).trans (H.hears g hg)⟩
  · obtain ⟨x, hx, hxa⟩ := touch_of ha
    rcases getElem?_append_cases hx with ⟨_, hx'⟩ | ⟨_, hxu⟩
    · exact H.old hx' hxa hm
    · rw [hn x hxu] at hxa; cases hxa
  · obtain ⟨x, hx, hxa⟩ := touch_of ha
    rcases getElem?_append_cases hx with ⟨_, hx'⟩ | ⟨_, hxu⟩
    · exact (H.wrote i a (by rw [touchAt_of hx']; exact hxa) hw g hg hS).app u
    · rw [hn x hxu] at hxa; cases hxa
theorem Tr.read (H : Tr h Lo St t) {g : Nat} (hg : Lo g) (hu : ∀ op ∈ u, op.g = g) (hr : ∀ op ∈ u, ∀ b, op.act.touch? = some b -> b.write = false /\ St g b.loc) (hd : Deaf (t ++ u) g = Deaf t g) : Tr h Lo St (t ++ u) := by
  refine ⟨fun said => noRace_append (H.clean said) hu fun i a ha op hop b hb hc => ?_, fun i a ha hm => ?_, fun i a ha hw g' hg' hS => ?_, fun g' hg' => ?_⟩
  · obtain ⟨hb0, hbS⟩ := hr op hop b hb
    rcases hc.2.2.1 with x | x
    · exact H.wrote i a ha x g hg (hc.1 ▸ hbS)
    · rw [hb0] at x; cases x
  · obtain ⟨x, hx, hxa⟩ := touch_of ha
    rcases getElem?_append_cases hx with ⟨_, hx'⟩ | ⟨_, hxu⟩
    · exact H.old hx' hxa hm
    · exact .inr ⟨(hr x hxu a hxa).1, g, by rw [g?_of hx, hu x hxu], hg, (hr x hxu a hxa).2⟩
  · obtain ⟨x, hx, hxa⟩ := touch_of ha
    rcases getElem?_append_cases hx with ⟨_, hx'⟩ | ⟨_, hxu⟩
    · exact (H.wrote i a (by rw [touchAt_of hx']; exact hxa) hw g' hg' hS).app u
    · rw [(hr x hxu a hxa).1] at hw; cases hw
  · by_cases e : g' = g
    · subst e; exact hd.trans (H.hears g' hg')
    · exact (Deaf_other t (fun x => e x.symm) u hu).trans (H.hears g' hg')
def stUp (St : Nat -> Loc -> Prop) (g : Nat) (s : Loc -> Prop) : Nat -> Loc -> Prop := fun g' l => (g' = g /\ s l) \/ (g' ≠ g /\ St g' l)
theorem stUp_same {St : Nat -> Loc -> Prop} {g : Nat} {s : Loc -> Prop} {l : Loc} : stUp St g s g l ↔ s l := ⟨fun x => x.elim (·.2) fun y => absurd rfl y.1, fun x => .inl ⟨rfl, x⟩⟩
theorem stUp_ne {St : Nat -> Loc -> Prop} {g g' : Nat} {s : Loc -> Prop} {l : Loc} (h : g' ≠ g) : stUp St g s g' l ↔ St g' l := ⟨fun x => x.elim (fun y => absurd y.1 h) (·.2), fun x => .inr ⟨h, x⟩⟩
theorem Tr.give (H : Tr h Lo St t) {j : Nat} (hl : ¬ Lo h) (hj : Lo j) (hd : Deaf t h = 0) (sit : Prop) (s : Loc -> Prop) (hs : ∀ l, s l -> l.isMemory = true) (fh : FuncId) (ph : String) (fj : FuncId) (pj : String) (c k cap : Nat) :
    Tr j (fun g => (Lo g /\ g ≠ j) \/ (g = h /\ sit)) (stUp St h s) (t ++ met h j fh ph fj pj c k cap) := by
  have hn := met_mute h j fh ph fj pj c k cap
  have hq := met_quiet h j fh ph fj pj c k cap
  have hne : ∀ g, Lo g -> g ≠ h := fun g hg e => hl (e ▸ hg)
  have e0 : (t ++ met h j fh ph fj pj c k cap)[t.size]? = some { g := h, fn := fh, pos := ph, act := .send c k } := by simp [met]
  have e3 : (t ++ met h j fh ph fj pj c k cap)[t.size + 3]? = some { g := j, fn := fj, pos := pj, act := .recvDone c k } := by simp [met]
  have edge : HappensBefore (t ++ met h j fh ph fj pj c k cap) t.size (t.size + 3) :=
    Relation.TransGen.single (.inr ⟨.handOver (act?_of e0) (act?_of e3), ⟨h, g?_of e0, by rw [deaf_old (Nat.le_refl _)]; exact hd⟩, ⟨j, g?_of e3, by rw [deaf_quiet (hq j) 3 (by simp [met])]; exact H.hears j hj⟩⟩)
  refine ⟨fun said => noRace_appendMute (H.clean said) hn, fun i a ha hm => ?_, fun i a ha hw g hg hS => ?_, fun g hg => (Deaf_quiet (hq g)).trans (hg.elim (fun x => H.hears g x.1) fun x => x.1 ▸ hd)⟩
  · obtain ⟨x, hx, hxa⟩ := touch_of ha
    rcases getElem?_append_cases hx with ⟨hi, hx'⟩ | ⟨_, hxu⟩
    · rcases H.known i a (by rw [touchAt_of hx']; exact hxa) hm with hk | ⟨p, g, q, hg, hS⟩
      · exact .inl ⟨t.size + 3, _, e3, rfl, .inr ((hk.hb_new (Nat.le_refl _) e0 rfl).trans edge)⟩
      · by_cases e : g = j
        · subst e
          have := knows_own hx
          rw [show x.g = g from by have := g?_of hx'; rw [q] at this; exact (Option.some.inj this).symm] at this
          exact .inl this
        · exact .inr ⟨p, g, by rw [g?_old hi]; exact q, .inl ⟨hg, e⟩, (stUp_ne (hne g hg)).2 hS⟩
    · rw [hn x hxu] at hxa; cases hxa
  · obtain ⟨x, hx, hxa⟩ := touch_of ha
    rcases getElem?_append_cases hx with ⟨_, hx'⟩ | ⟨_, hxu⟩
    · rcases hg with ⟨hg, _⟩ | ⟨rfl, _⟩
      · exact (H.wrote i a (by rw [touchAt_of hx']; exact hxa) hw g hg ((stUp_ne (hne g hg)).1 hS)).app _
      · rcases H.known i a (by rw [touchAt_of hx']; exact hxa) (hs _ (stUp_same.1 hS)) with hk | ⟨p, _⟩
        · exact hk.app _
        · rw [p] at hw; cases hw
    · rw [hn x hxu] at hxa; cases hxa
theorem Tr.hire (H : Tr h Lo St t) {c : Nat} (hc : ∀ g, Lo g -> g ≠ c) (hd : Deaf t h = 0) (hc0 : Deaf t c = 0) (s : Loc -> Prop) (hs : ∀ l, s l -> l.isMemory = true) (fh : FuncId) (ph : String) (fc : FuncId) :
    Tr h (fun g => Lo g \/ g = c) (stUp St c s) (t ++ #[{ g := h, fn := fh, pos := ph, act := .go c }, { g := c, fn := fc, pos := ph, act := .start }]) := by
  generalize hu : (#[{ g := h, fn := fh, pos := ph, act := .go c }, { g := c, fn := fc, pos := ph, act := .start }] : Trace) = u
  have hn : ∀ op ∈ u, op.act.touch? = none := by
    intro op hop
    subst hu
    simp only [List.mem_toArray, List.mem_cons, List.not_mem_nil, or_false] at hop
    rcases hop with rfl | rfl <;> rfl
  have hq : ∀ g, ∀ op ∈ u, ∀ d, deafStep g d op = d := by
    intro g op hop d
    subst hu
    simp only [List.mem_toArray, List.mem_cons, List.not_mem_nil, or_false] at hop
    rcases hop with rfl | rfl <;> rfl
  have e0 : (t ++ u)[t.size]? = some { g := h, fn := fh, pos := ph, act := .go c } := by subst hu; simp
  have e1 : (t ++ u)[t.size + 1]? = some { g := c, fn := fc, pos := ph, act := .start } := by subst hu; simp
  have edge : HappensBefore (t ++ u) t.size (t.size + 1) :=
    Relation.TransGen.single (.inr ⟨.spawn (act?_of e0) (act?_of e1) (g?_of e1), ⟨h, g?_of e0, by rw [deaf_old (Nat.le_refl _)]; exact hd⟩, ⟨c, g?_of e1, by rw [deaf_quiet (hq c) 1 (by subst hu; simp)]; exact hc0⟩⟩)
  refine ⟨fun said => noRace_appendMute (H.clean said) hn, fun i a ha hm => ?_, fun i a ha hw g hg hS => ?_, fun g hg => (Deaf_quiet (hq g)).trans (hg.elim (H.hears g) fun e => e ▸ hc0)⟩
  · obtain ⟨x, hx, hxa⟩ := touch_of ha
    rcases getElem?_append_cases hx with ⟨_, hx'⟩ | ⟨_, hxu⟩
    · exact (H.old hx' hxa hm).imp id fun ⟨p, g, q, hg, hS⟩ => ⟨p, g, q, .inl hg, (stUp_ne (hc g hg)).2 hS⟩
    · rw [hn x hxu] at hxa; cases hxa
  · obtain ⟨x, hx, hxa⟩ := touch_of ha
    rcases getElem?_append_cases hx with ⟨_, hx'⟩ | ⟨_, hxu⟩
    · by_cases e : g = c
      · subst e
        rcases H.known i a (by rw [touchAt_of hx']; exact hxa) (hs _ (stUp_same.1 hS)) with hk | ⟨p, _⟩
        · exact ⟨t.size + 1, _, e1, rfl, .inr ((hk.hb_new (Nat.le_refl _) e0 rfl).trans edge)⟩
        · rw [p] at hw; cases hw
      · exact (H.wrote i a (by rw [touchAt_of hx']; exact hxa) hw g (hg.resolve_right e) ((stUp_ne e).1 hS)).app u
    · rw [hn x hxu] at hxa; cases hxa
end
end
section
open Go Go.Conc
open Go.ConcN (sumTo upd sumTo_upd upd_ne upd_same)
structure Wait where
  c : Nat
  z : Value
  ok : Bool
  cells : Addr -> Option Value
  B : Nat
  home : Goroutine -> Prop
def Wait.K (W : Wait) (w : World) : Prop := ∀ a v, W.cells a = some v -> hcell w.heap a = some v
def Wait.St (W : Wait) (l : Loc) : Prop := ∃ a, l = .cell a /\ (W.cells a).isSome = true
def Wait.seat (W : Wait) : Seat := Seat.one W.c W.z W.ok W.home
abbrev Wait.At (P : Program) (W : Wait) (main : Bool) (g g₂ : Goroutine) : Prop := AtIn P main W.K W.St W.B W.seat g g₂
def IdleW (P : Program) (T : Trace) (i n : Nat) (g : Goroutine) : Option Wait -> Prop
  | none => 0 < i /\ QuitsD P n (Deaf T i) g
  | some W => Sits P (i == 0) W.K W.St W.B W.seat n g
def stOf (I : Nat -> Option Wait) (i : Nat) (l : Loc) : Prop := ∃ W, I i = some W /\ W.St l
def loOf (h : Nat) (I : Nat -> Option Wait) (i : Nat) : Prop := i ≠ h /\ (I i).isSome = true
structure Fr (P : Program) (h : Nat) (I : Nat -> Option Wait) (T : Trace) (gs : Array Goroutine) (w : World) (q : Nat -> Nat) : Prop where
  idle : ∀ i g, i ≠ h -> gs[i]? = some g -> IdleW P T i (q i) g (I i)
  keep : ∀ i W, i ≠ h -> I i = some W -> W.K w
  chan : ∀ i W, i ≠ h -> I i = some W -> ∃ k, w.heap[W.c]? = some (.chan 0 #[] false k k false)
  inj : ∀ i j W V, i ≠ h -> j ≠ h -> I i = some W -> I j = some V -> W.c = V.c -> i = j
  tr : Tr h (loOf h I) (stOf I) T
  room : ∀ i, i ≠ h -> (I i).isSome = true -> i < gs.size
  above : ∀ j, gs.size <= j -> Deaf T j = 0
section
variable {P : Program} {h : Nat} {I : Nat -> Option Wait} {T : Trace} {gs : Array Goroutine} {w : World} {q : Nat -> Nat}
theorem seat_has {W : Wait} {c : Nat} : W.seat.has c ↔ c = W.c := Seat.one_has
theorem seat_wf (W : Wait) : W.seat.Wf := Seat.one_wf _ _ _ _
theorem seat_mem {W : Wait} {cc : CommCase} (hc : cc ∈ W.seat.cases) : cc = rcase W.c W.z := by
  simpa [Wait.seat, Seat.one] using hc
theorem Fr.awake (F : Fr P h I T gs w q) {a : Goroutine} (ha : gs[h]? = some a) (hs : a.status = .running \/ a.status = .blocked) : ∀ g ∈ gs, awake g := by
  intro g hg
  obtain ⟨i, hi⟩ := Array.mem_iff_getElem?.1 hg
  by_cases e : i = h
  · subst e
    rw [ha] at hi
    obtain rfl := Option.some.inj hi
    exact awake_of (hs.imp id .inl)
  · have hid := F.idle i g e hi
    cases eW : I i with
    | none => rw [eW] at hid; exact awake_of (hid.2.status.elim .inl fun x => .inr (.inr x))
    | some W => rw [eW] at hid; exact awake_of ((Sits.status (F.keep i W e eW) hid).elim (fun x => .inl x.1) fun x => .inr (.inl x.1))
theorem Fr.fixed (F : Fr P h I T gs w q) {i : Nat} {g : Goroutine} (hi : i ≠ h) (hg : gs[i]? = some g) : g.again w = g := by
  have hid := F.idle i g hi hg
  cases eW : I i with
  | none => rw [eW] at hid; exact again_of_running hid.2.status w
  | some W =>
    rw [eW] at hid
    refine Sits.again (F.keep i W hi eW) hid (seat_wf W) fun c hc => ?_
    obtain ⟨k, hk⟩ := F.chan i W hi eW
    exact ⟨_, _, _, _, _, by rw [seat_has.1 hc]; exact hk⟩
theorem Fr.noSend (F : Fr P h I T gs w q) {i : Nat} {g : Goroutine} (hi : i ≠ h) (hg : gs[i]? = some g) (c : Nat) : offersAt g c true = [] := by
  have hid := F.idle i g hi hg
  cases eW : I i with
  | none => rw [eW] at hid; exact offersAt_of_not_blocked (fun hb => by rcases hid.2.status with z | z <;> rw [z] at hb <;> cases hb) c true
  | some W =>
    rw [eW] at hid
    rcases hid with ⟨k, w₀, hq, hg'⟩ | ⟨_, _, g₂, rfl, _⟩
    · have hr := (Sits.status (F.keep i W hi eW) (.inl ⟨k, w₀, hq, hg'⟩)).elim (·.1) (fun z => by omega)
      exact offersAt_of_not_blocked (by rw [hr]; simp) c true
    · exact offersAt_parked_sends (fun cc hcc => by rw [seat_mem hcc]; rfl) _
theorem Fr.noRecv (F : Fr P h I T gs w q) {i : Nat} {g : Goroutine} (hi : i ≠ h) (hg : gs[i]? = some g) {c : Nat} (hc : ∀ W, I i = some W -> W.c ≠ c) : offersAt g c false = [] := by
  have hid := F.idle i g hi hg
  cases eW : I i with
  | none => rw [eW] at hid; exact offersAt_of_not_blocked (fun hb => by rcases hid.2.status with z | z <;> rw [z] at hb <;> cases hb) c false
  | some W =>
    rw [eW] at hid
    rcases hid with ⟨k, w₀, hq, hg'⟩ | ⟨_, _, g₂, rfl, _⟩
    · have hr := (Sits.status (F.keep i W hi eW) (.inl ⟨k, w₀, hq, hg'⟩)).elim (·.1) (fun z => by omega)
      exact offersAt_of_not_blocked (by rw [hr]; simp) c false
    · refine offersAt_parked_off (fun cc hcc e => ?_) _
      rw [seat_mem hcc] at e
      simp only [rcase, Value.chan.injEq, Option.some.injEq] at e
      exact hc W eW e
theorem Fr.at (F : Fr P h I T gs w q) (d : Nat) : Fr P h I T gs (w.at d) q := ⟨F.idle, F.keep, F.chan, F.inj, F.tr, F.room, F.above⟩
theorem Fr.put (F : Fr P h I T gs w q) {i n' : Nat} {g' : Goroutine} {ops : Array MemOp} {gs' : Array Goroutine} (hlt : i < gs.size) (hsz : gs'.size = gs.size) (hother : ∀ x, x ≠ i -> gs'[x]? = gs[x]?) (hself : gs'[i]? = some g')
    (hops : ∀ op ∈ ops, op.g = i) (hidle : IdleW P (T ++ ops) i n' g' (I i)) (htr : Tr h (loOf h I) (stOf I) (T ++ ops)) : Fr P h I (T ++ ops) gs' w (upd q i n') := by
  refine ⟨fun x y hx hy => ?_, F.keep, F.chan, F.inj, htr, hsz ▸ F.room, fun j hj => ?_⟩
  · by_cases e : x = i
    · subst e
      rw [hself] at hy
      obtain rfl := Option.some.inj hy
      rw [upd_same]; exact hidle
    · rw [hother x e] at hy
      rw [upd_ne q n' e]
      have hid := F.idle x y hx hy
      cases eW : I x with
      | none => rw [eW] at hid; exact ⟨hid.1, by rw [Deaf_other T (fun z => e z.symm) ops hops]; exact hid.2⟩
      | some W => rw [eW] at hid; exact hid
  · rw [Deaf_other T (g' := i) (by omega) ops hops]
    exact F.above j (by omega)
theorem Fr.by_step (F : Fr P h I T gs w q) {i : Nat} {g gh : Goroutine} {sl : Option (Nat × Nat)} (hi : gs[i]? = some g) (hih : i ≠ h) (hrun : g.status = .running) (hgh : gs[h]? = some gh) (hA : gh.again w = gh)
    (hO : ∀ W g₂, I i = some W -> W.At P (i == 0) g g₂ -> offersAt gh W.c true = []) :
    ∃ (gs' : Array Goroutine) (ops : Array MemOp) (q' : Nat -> Nat), runT P (crowd gs w sl) i = (.next (crowd gs' w sl), ops) /\ gs'.size = gs.size /\ gs'[h]? = some gh /\ (∀ x, x ≠ i -> q' x = q x) /\ (∀ W, I i = some W -> q' i = 0 -> ∃ g₂, W.At P (i == 0) g g₂) /\
      Fr P h I (T ++ ops) gs' w q' /\ sumTo gs.size q' < sumTo gs.size q /\ Deaf (T ++ ops) h = Deaf T h := by
  have hlt : i < gs.size := (Array.getElem?_eq_some_iff.1 hi).1
  have hfix : ∀ (a a' : Goroutine) (x : Nat) (y : Goroutine), gs[x]? = some y -> woken P a a' w y = y := fun a a' x y hy => woken_of_again (by
    by_cases hx : x = h
    · subst hx; rw [hgh] at hy; obtain rfl := Option.some.inj hy; exact hA
    · exact F.fixed hx hy)
  have harr : ∀ (a' g' : Goroutine) (x : Nat), x ≠ i -> ((gs.map (woken P g a' w)).setIfInBounds i g')[x]? = gs[x]? := by
    intro a' g' x hx
    rw [Array.getElem?_setIfInBounds_ne (fun e => hx e.symm), Array.getElem?_map]
    cases e : gs[x]? with
    | none => rfl
    | some y => simp [hfix g a' x y e]
  have hself : ∀ (a' g' : Goroutine), ((gs.map (woken P g a' w)).setIfInBounds i g')[i]? = some g' := fun a' g' => Array.getElem?_setIfInBounds_self_of_lt (by simpa using hlt)
  have hsum : ∀ k, q i = k + 1 -> ∀ m, m <= k -> sumTo gs.size (upd q i m) < sumTo gs.size q := by
    intro k hqi m hm
    have h2 : sumTo gs.size (upd q i m) + (k + 1) = sumTo gs.size q + m := by
      have := sumTo_upd q m id hlt
      simpa [hqi] using this
    omega
  have hid := F.idle i g hih hi
  cases e : I i with
  | none =>
    rw [e] at hid
    obtain ⟨hpos, hq⟩ := hid
    have hi0 : (i == 0) = false := by simp; omega
    cases hqi : q i with
    | zero => rw [hqi] at hq; rw [hq.1] at hrun; cases hrun
    | succ k =>
      rw [hqi] at hq
      rcases hq with ⟨hf, _⟩ | ⟨_, g', es, hm, hstp, hq'⟩
      · rw [hf] at hrun; cases hrun
      have hops : ∀ op ∈ MemOp.ofEvents i g.frame.fn g.frame.place es, op.g = i := fun op hop => by obtain ⟨e, _, rfl⟩ := Go.Conc.mem_ofEvents hop; rfl
      refine ⟨_, _, upd q i k, runT_crowd_go (sl := sl) hi (by rw [hi0]; exact hstp w), by simp, (harr _ _ h (Ne.symm hih)).trans hgh, fun x hx => upd_ne q k hx, fun s hs _ => (by cases hs), ?_, hsum k hqi k (Nat.le_refl _), Deaf_other T hih _ hops⟩
      refine F.put hlt (by simp) (harr _ _) (hself _ _) hops (by rw [e]; exact ⟨hpos, by rw [Deaf_own]; exact hq'⟩) ?_
      refine F.tr.mute (fun op hop => by obtain ⟨e, he, rfl⟩ := Go.Conc.mem_ofEvents hop; exact touch_mute (hm e he)) fun x hx => ?_
      have hxi : i ≠ x := fun ex => by subst ex; have := hx.2; rw [e] at this; cases this
      exact Deaf_other T hxi _ hops
  | some W =>
    rw [e] at hid
    have hK := F.keep i W hih e
    have hLo : loOf h I i := ⟨hih, by rw [e]; rfl⟩
    obtain ⟨k, w₀, hqi, hg⟩ : ∃ k w₀, q i = k + 1 /\ Goes P (i == 0) (RK W.K) (DS W.St W.B) (fun g _ => ∃ g₂, W.At P (i == 0) g g₂) k g w₀ := by
      rcases hid with h | ⟨_, _, g₂, rfl, _⟩
      · exact h
      · cases hrun
    have hcase : (∃ g₂, W.At P (i == 0) g g₂) \/ ∃ k' g' es, k = k' + 1 /\ stepG P (i == 0) g w = .go g' w es /\ (∀ e ∈ es, EvC W.St W.B e) /\ Goes P (i == 0) (RK W.K) (DS W.St W.B) (fun g _ => ∃ g₂, W.At P (i == 0) g g₂) k' g' w := by
      cases k with
      | zero => exact .inl (hg w hK)
      | succ k' =>
        rcases hg with hstop | ⟨_, hstep⟩
        · exact .inl (hstop w hK)
        · have hs := hstep w hK
          cases hgo : stepG P (i == 0) g w with
          | go g' w' es =>
            rw [hgo, goes_go] at hs
            obtain ⟨⟨rfl, hes⟩, hG'⟩ := hs
            exact .inr ⟨k', g', es, rfl, rfl, hes, hG'⟩
          | _ => rw [hgo] at hs; exact hs.elim
    have hread : ∀ {fn : FuncId} {pos : String} {es : Array Event}, (∀ e ∈ es, EvC W.St W.B e) -> Tr h (loOf h I) (stOf I) (T ++ MemOp.ofEvents i fn pos es) /\ ∀ op ∈ MemOp.ofEvents i fn pos es, op.g = i := by
      intro fn pos es hes
      obtain ⟨hops, hr, _, hd⟩ := evC_ops (i := i) (fn := fn) (pos := pos) hes
      exact ⟨F.tr.read hLo hops (fun op hop b hb => ⟨(hr op hop b hb).1, W, e, (hr op hop b hb).2⟩) (hd T), hops⟩
    rcases hcase with ⟨g₂, hat⟩ | ⟨k', g', es, rfl, hgo, hes, hG'⟩
    · obtain ⟨_, _, _, _, _, es, hes, hstp⟩ := id hat
      obtain ⟨htr, hops⟩ := hread (fn := g.frame.fn) (pos := g.frame.place) hes
      have hw : ∀ cc ∈ W.seat.cases, NoWays w (gs.setIfInBounds i ph) cc := by
        intro cc hcc
        rw [seat_mem hcc]
        obtain ⟨kk, hc⟩ := F.chan i W hih e
        refine ways_recv_none hc (partners_nil fun x y hy => ?_)
        rcases getElem?_stand gs i x y hy with ⟨_, rfl⟩ | ⟨hx, hy'⟩
        · exact offersAt_ph _ _
        · by_cases hS : x = h
          · subst hS; rw [hgh] at hy'; obtain rfl := Option.some.inj hy'; exact hO W g₂ e hat
          · exact F.noSend hS hy' _
      refine ⟨_, _, upd q i 0, crowd_waits (sl := sl) hi (hstp w hK) hw, by simp, by rw [Array.getElem?_setIfInBounds_ne hih]; exact hgh, fun x hx => upd_ne q 0 hx, fun W' hW' _ => (by obtain rfl := Option.some.inj hW'; exact ⟨g₂, hat⟩), ?_, hsum k hqi 0 (Nat.zero_le _), Deaf_other T hih _ hops⟩
      exact F.put hlt (by simp) (fun x hx => Array.getElem?_setIfInBounds_ne (fun z => hx z.symm)) (Array.getElem?_setIfInBounds_self_of_lt hlt) hops (by rw [e]; exact .inr ⟨rfl, g, g₂, rfl, hat⟩) htr
    · obtain ⟨htr, hops⟩ := hread (fn := g.frame.fn) (pos := g.frame.place) hes
      refine ⟨_, _, upd q i (k' + 1), runT_crowd_go (sl := sl) hi hgo, by simp, (harr _ _ h (Ne.symm hih)).trans hgh, fun x hx => upd_ne q _ hx, fun s' _ h0 => (by rw [upd_same] at h0; omega), ?_, hsum _ hqi _ (Nat.le_refl _), Deaf_other T hih _ hops⟩
      exact F.put hlt (by simp) (harr _ _) (hself _ _) hops (by rw [e]; exact .inl ⟨k', w, rfl, hG'⟩) htr
theorem Fr.picked (F : Fr P h I T gs w q) {a : Goroutine} {sl : Option (Nat × Nat)} (ha : gs[h]? = some a) (hrun : a.status = .running) :
    ∃ (N : Nat) (gs' : Array Goroutine) (d d' : Nat) (sl' sl'' : Option (Nat × Nat)) (T' : Trace) (q' : Nat -> Nat), runNT P N (crowd gs w sl) T = (.next (crowd gs' (w.at d) sl'), T') /\
      stepT P (crowd gs' (w.at d) sl') = runT P (crowd gs' (w.at d') sl'') h /\ gs'.size = gs.size /\ gs'[h]? = some a /\ Fr P h I T' gs' (w.at d') q' /\ Deaf T' h = Deaf T h := by
  obtain ⟨N, m', T', hr, gs', d, d', sl', sl'', q', rfl, hst, hsz, ha', F', hd⟩ := runs_until (P := P)
    (Inv := fun μ m t => ∃ gs₁ d sl₁ q₁, m = crowd gs₁ (w.at d) sl₁ /\ gs₁.size = gs.size /\ gs₁[h]? = some a /\ Fr P h I t gs₁ (w.at d) q₁ /\ Deaf t h = Deaf T h /\ μ = sumTo gs₁.size q₁)
    (Done := fun m t => ∃ gs₁ d d' sl₁ sl₂ q₁, m = crowd gs₁ (w.at d) sl₁ /\ stepT P (crowd gs₁ (w.at d) sl₁) = runT P (crowd gs₁ (w.at d') sl₂) h /\ gs₁.size = gs.size /\ gs₁[h]? = some a /\ Fr P h I t gs₁ (w.at d') q₁ /\ Deaf t h = Deaf T h)
    (fun μ m t ⟨gs₁, d, sl₁, q₁, hm, hsz, ha₁, F₁, hd, hμ⟩ => by
      subst hm
      obtain ⟨i, g, d', sl', hi, hg, hst⟩ := crowd_pick (P := P) (w := w.at d) (sl := sl₁) (F₁.awake ha₁ (.inl hrun)) ⟨h, a, ha₁, hrun⟩
      have Fd : Fr P h I t gs₁ (w.at d') q₁ := F₁.at d'
      by_cases e : i = h
      · subst e
        exact .inl ⟨gs₁, d, d', sl₁, sl', q₁, rfl, hst, hsz, ha₁, Fd, hd⟩
      · obtain ⟨gs', ops, q', hrt, hsz', hh, _, _, F', hlt, hd'⟩ := Fd.by_step (sl := sl') hi e hg ha₁ (again_of_running (.inl hrun) _) (fun _ _ _ _ => offersAt_of_not_blocked (by rw [hrun]; simp) _ _)
        exact .inr ⟨_, _, sumTo gs'.size q', by rw [hst]; exact hrt, by rw [hsz']; omega, gs', d', sl', q', rfl, hsz'.trans hsz, hh, F', hd'.trans hd, rfl⟩)
    _ _ T ⟨gs, w.drawn, sl, q, rfl, rfl, ha, F, rfl, rfl⟩
  exact ⟨N, gs', d, d', sl', sl'', T', q', hr, hst, hsz, ha', F', hd⟩
end
end
section
open Go Go.Conc
open Go.ConcN (sumTo upd sumTo_upd upd_ne upd_same)
def stillOf (h : Nat) (I : Nat -> Option Wait) (a : Addr) : Prop := ∃ i W, i ≠ h /\ I i = some W /\ (W.cells a).isSome = true
theorem touch_of_event {e : Event} {b : Touch} {a : Addr} (h1 : ∀ a, e.loc ≠ .mark (.read a)) (h2 : ∀ a, e.loc ≠ .mark (.write a)) (hb : (MemAct.ofEvent e).touch? = some b) (hl : b.loc = .cell a) : e.loc = .cell a /\ e.write = b.write := by
  obtain ⟨loc, wr, sy⟩ := e
  cases loc with
  | mark m =>
    cases m <;> simp [MemAct.ofEvent, MemAct.touch?] at hb
    · exact absurd rfl (h1 _)
    · exact absurd rfl (h2 _)
  | obj r =>
    cases wr <;> cases sy <;> simp [MemAct.ofEvent, MemAct.touch?] at hb <;> subst hb <;> cases hl
  | _ =>
    simp [MemAct.ofEvent, MemAct.touch?] at hb
    subst hb
    exact ⟨hl, rfl⟩
theorem hcell_chan {h : Hp} {c : Nat} {cap s r : Nat} {buf : Array Value} {cl tm : Bool} {cap' s' r' : Nat} {buf' : Array Value} {cl' tm' : Bool} (hc : h[c]? = some (.chan cap buf cl s r tm)) (a : Addr) :
    hcell (h.setIfInBounds c (.chan cap' buf' cl' s' r' tm')) a = hcell h a := by
  unfold hcell
  by_cases e : c = a.block
  · subst e
    have hlt : a.block < h.size := (Array.getElem?_eq_some_iff.1 hc).1
    rw [Array.getElem?_setIfInBounds_self_of_lt hlt, hc]
  · rw [Array.getElem?_setIfInBounds_ne e]
section
variable {P : Program} {h : Nat} {I : Nat -> Option Wait} {T : Trace} {gs : Array Goroutine} {w : World} {q : Nat -> Nat}
theorem Fr.own (F : Fr P h I T gs w q) {a a' : Goroutine} {w' : World} {es : Array Event} {sl : Option (Nat × Nat)} (ha : gs[h]? = some a) (hst : stepG P (h == 0) a w = .go a' w' es) (hp : HpOk (stillOf h I) w.heap w'.heap) (he : ∀ e ∈ es, EvOk (stillOf h I) e) :
    ∃ gs' ops, runT P (crowd gs w sl) h = (.next (crowd gs' w' sl), ops) /\ gs'.size = gs.size /\ gs'[h]? = some a' /\ Fr P h I (T ++ ops) gs' w' q /\ Deaf (T ++ ops) h = deafBehind (Deaf T h) es := by
  have hlt : h < gs.size := (Array.getElem?_eq_some_iff.1 ha).1
  have hops : ∀ op ∈ MemOp.ofEvents h a.frame.fn a.frame.place es, op.g = h := fun op hop => by obtain ⟨e, _, rfl⟩ := Go.Conc.mem_ofEvents hop; rfl
  have hc : ∀ i W, i ≠ h -> I i = some W -> ∃ k, w'.heap[W.c]? = some (.chan 0 #[] false k k false) := fun i W hi eW => (F.chan i W hi eW).imp fun k hk => hp.chan _ _ hk rfl
  have hk : ∀ i W, i ≠ h -> I i = some W -> W.K w' := fun i W hi eW b v hb => hp.still b v ⟨i, W, hi, eW, by rw [hb]; rfl⟩ (F.keep i W hi eW b v hb)
  have F' : Fr P h I T gs w' q := ⟨F.idle, hk, hc, F.inj, F.tr, F.room, F.above⟩
  refine ⟨_, _, runT_crowd_go (sl := sl) ha hst, by simp, Array.getElem?_setIfInBounds_self_of_lt (by simpa using hlt), ⟨fun x y hx hy => ?_, hk, hc, F.inj, ?_, by simpa using F.room, fun j hj => ?_⟩, Deaf_own ..⟩
  · rw [Array.getElem?_setIfInBounds_ne (fun e => hx e.symm), Array.getElem?_map] at hy
    obtain ⟨y₀, hy₀, rfl⟩ := Option.map_eq_some_iff.1 hy
    rw [woken_of_again (F'.fixed hx hy₀)]
    have hid := F.idle x y₀ hx hy₀
    cases eW : I x with
    | none => rw [eW] at hid; exact ⟨hid.1, by rw [Deaf_other T (fun z => hx z.symm) _ hops]; exact hid.2⟩
    | some W => rw [eW] at hid; exact hid
  · refine F.tr.own (fun x => x.1 rfl) hops fun op hop b hb g hg hs => ?_
    obtain ⟨e, hmem, rfl⟩ := Go.Conc.mem_ofEvents hop
    obtain ⟨W, eW, l, hl, hsm⟩ := hs
    have hev := he e hmem
    obtain ⟨e1, e2⟩ := touch_of_event hev.2.1 hev.2.2.1 hb hl
    cases ew : e.write with
    | false => rw [<- e2, ew]
    | true => exact absurd ⟨g, W, hg.1, eW, hsm⟩ (hev.1 l e1 ew)
  · simp only [Array.size_setIfInBounds, Array.size_map] at hj
    rw [Deaf_other T (g' := h) (by omega) _ hops]
    exact F.above j hj
def AfterW (P : Program) (h : Nat) (I : Nat -> Option Wait) (hp : Hp) (g : Goroutine) : Option Wait -> Prop
  | none => 0 < h /\ ∃ n, QuitsD P n 0 g
  | some W => (∀ a v, W.cells a = some v -> hcell hp a = some v) /\ (∃ k, hp[W.c]? = some (.chan 0 #[] false k k false)) /\ (∀ i V, i ≠ h -> I i = some V -> V.c ≠ W.c) /\ ∃ n, Sits P (h == 0) W.K W.St W.B W.seat n g
theorem idle_same {T' : Trace} {i n : Nat} {g : Goroutine} {o : Option Wait} (hd : Deaf T' i = Deaf T i) (hi : IdleW P T i n g o) : IdleW P T' i n g o := by
  cases o with
  | none => exact ⟨hi.1, by rw [hd]; exact hi.2⟩
  | some W => exact hi
theorem Fr.pass (F : Fr P h I T gs w q) {j k : Nat} {V : Wait} (hj : I j = some V) (hjh : j ≠ h) (hd : Deaf T h = 0) (hc : w.heap[V.c]? = some (.chan 0 #[] false k k false)) {gs' : Array Goroutine} {g' : Goroutine} (hsz : gs'.size = gs.size) (hhs : h < gs.size)
    (hoth : ∀ x, x ≠ h -> x ≠ j -> gs'[x]? = gs[x]?) (hH : gs'[h]? = some g') (o : Option Wait) (ho : AfterW P h I w.heap g' o) (fh : FuncId) (ph : String) (fj : FuncId) (pj : String) :
    ∃ q', Fr P j (upd I h o) (T ++ met h j fh ph fj pj V.c k 0) gs' (w.setChan V.c 0 #[] false (k + 1) (k + 1) false) q' /\ Deaf (T ++ met h j fh ph fj pj V.c k 0) j = 0 := by
  have hD : ∀ x, Deaf (T ++ met h j fh ph fj pj V.c k 0) x = Deaf T x := fun x => Deaf_quiet (met_quiet _ _ _ _ _ _ _ _ _ x)
  have hcell' : ∀ a, hcell (w.setChan V.c 0 #[] false (k + 1) (k + 1) false).heap a = hcell w.heap a := fun a => hcell_chan hc a
  have hI : ∀ x, x ≠ h -> upd I h o x = I x := fun x hx => upd_ne I o hx
  obtain ⟨n, hn⟩ : ∃ n, IdleW P (T ++ met h j fh ph fj pj V.c k 0) h n g' o := by
    cases o with
    | none => exact ⟨ho.2.choose, ho.1, by rw [hD, hd]; exact ho.2.choose_spec⟩
    | some W => exact ⟨ho.2.2.2.choose, ho.2.2.2.choose_spec⟩
  refine ⟨upd q h n, ⟨fun x y hx hy => ?_, fun i W hi eW => ?_, fun i W hi eW => ?_, fun i i' W W' hi hi' e e' ec => ?_, ?_, fun i hi hs => ?_, fun x hx => by rw [hD]; exact F.above x (by omega)⟩, by rw [hD]; exact F.tr.hears j ⟨hjh, by rw [hj]; rfl⟩⟩
  · by_cases e : x = h
    · subst e
      rw [hH] at hy
      obtain rfl := Option.some.inj hy
      rw [upd_same, upd_same]; exact hn
    · rw [hoth x e hx] at hy
      rw [upd_ne q n e, hI x e]
      exact idle_same (hD x) (F.idle x y e hy)
  · intro a v hv
    rw [hcell']
    by_cases e : i = h
    · subst e
      rw [upd_same] at eW
      subst eW
      exact ho.1 a v hv
    · rw [hI i e] at eW
      exact F.keep i W e eW a v hv
  · have hne : V.c ≠ W.c := by
      by_cases e : i = h
      · subst e
        rw [upd_same] at eW
        subst eW
        exact ho.2.2.1 j V hjh hj
      · rw [hI i e] at eW
        exact fun ec => hi (F.inj i j W V e hjh eW hj ec.symm)
    obtain ⟨k', hk'⟩ : ∃ k, w.heap[W.c]? = some (.chan 0 #[] false k k false) := by
      by_cases e : i = h
      · subst e
        rw [upd_same] at eW
        subst eW
        exact ho.2.1
      · rw [hI i e] at eW
        exact F.chan i W e eW
    exact ⟨k', by rw [heap_setChan_ne w _ _ _ _ _ _ hne]; exact hk'⟩
  · by_cases e1 : i = h <;> by_cases e2 : i' = h
    · rw [e1, e2]
    · subst e1
      rw [upd_same] at e; rw [hI i' e2] at e'
      subst e
      exact absurd ec.symm (ho.2.2.1 i' W' e2 e')
    · subst e2
      rw [upd_same] at e'; rw [hI i e1] at e
      subst e'
      exact absurd ec (ho.2.2.1 i W e1 e)
    · rw [hI i e1] at e; rw [hI i' e2] at e'
      exact F.inj i i' W W' e1 e2 e e' ec
  · refine (F.tr.give (fun x => x.1 rfl) ⟨hjh, by rw [hj]; rfl⟩ hd (o.isSome = true) (fun l => ∃ W, o = some W /\ W.St l) (fun l hl => by obtain ⟨W, _, a, rfl, _⟩ := hl; rfl) fh ph fj pj V.c k 0).congr (fun g => ?_) fun g _ l => ?_
    · by_cases e : g = h
      · subst e
        unfold loOf; rw [upd_same]
        exact ⟨fun x => .inr ⟨rfl, x.2⟩, fun x => x.elim (fun y => absurd rfl y.1.1) fun y => ⟨Ne.symm hjh, y.2⟩⟩
      · simp only [loOf, hI g e]
        exact ⟨fun x => .inl ⟨⟨e, x.2⟩, x.1⟩, fun x => x.elim (fun y => ⟨y.2, y.1.2⟩) fun y => absurd y.1 e⟩
    · by_cases e : g = h
      · subst e
        rw [stUp_same]
        simp only [stOf, upd_same]
      · rw [stUp_ne e]
        simp only [stOf, hI g e]
  · by_cases e : i = h
    · omega
    · rw [hI i e] at hs
      have := F.room i e hs
      omega
theorem Fr.give (F : Fr P h I T gs w q) {a a₂ : Goroutine} {j : Nat} {V : Wait} {v z' : Value} {sl : Option (Nat × Nat)} (hjh : j ≠ h) (hjlt : j < gs.size) (hj : I j = some V) (hd : Deaf T h = 0) (ha : gs[h]? = some a) (hrun : a.status = .running)
    (hsend : ∀ d, stepG P (h == 0) a (w.at d) = .comm a₂ #[scase V.c v z'] true .send (w.at d) #[]) (o : Option Wait) (ho : AfterW P h I w.heap (Go.Conc.served a₂ undef) o) :
    ∃ (N : Nat) (gs' : Array Goroutine) (g₂ : Goroutine) (d k : Nat) (sl' : Option (Nat × Nat)) (T' : Trace) (q' : Nat -> Nat), runNT P N (crowd gs w sl) T = (.next (crowd gs' ((w.at d).setChan V.c 0 #[] false (k + 1) (k + 1) false) sl'), T') /\ gs'.size = gs.size /\
      gs'[j]? = some (Go.Conc.served g₂ (recvd V.ok v true)) /\ V.home g₂ /\ w.heap[V.c]? = some (.chan 0 #[] false k k false) /\ Fr P j (upd I h o) T' gs' ((w.at d).setChan V.c 0 #[] false (k + 1) (k + 1) false) q' /\ Deaf T' j = 0 := by
  obtain ⟨k, hc⟩ := F.chan j V hjh hj
  have hk0 : V.seat.cases[0]? = some (rcase V.c V.z) := rfl
  have hu : ∀ (m : Nat) (cc : CommCase), m ≠ 0 -> V.seat.cases[m]? = some cc -> cc.chan ≠ .chan (some V.c) := by
    intro m cc hm hcc
    rcases m with _ | m
    · exact absurd rfl hm
    · simp [Wait.seat, Seat.one] at hcc
  have hlth : h < gs.size := (Array.getElem?_eq_some_iff.1 ha).1
  have key : ∃ N m' T', runNT P N (crowd gs w sl) T = (.next m', T') /\ (fun m t => ∃ (gs' : Array Goroutine) (g₂ : Goroutine) (d : Nat) (sl' : Option (Nat × Nat)) (q' : Nat -> Nat), m = crowd gs' ((w.at d).setChan V.c 0 #[] false (k + 1) (k + 1) false) sl' /\ gs'.size = gs.size /\ gs'[j]? = some (Go.Conc.served g₂ (recvd V.ok v true)) /\ V.home g₂ /\
      Fr P j (upd I h o) t gs' ((w.at d).setChan V.c 0 #[] false (k + 1) (k + 1) false) q' /\ Deaf t j = 0) m' T' := by
    refine runs_until (P := P)
      (Inv := fun μ m t => (∃ (gs' : Array Goroutine) (g₂ : Goroutine) (d : Nat) (sl' : Option (Nat × Nat)) (q' : Nat -> Nat), m = crowd gs' ((w.at d).setChan V.c 0 #[] false (k + 1) (k + 1) false) sl' /\ gs'.size = gs.size /\ gs'[j]? = some (Go.Conc.served g₂ (recvd V.ok v true)) /\ V.home g₂ /\
      Fr P j (upd I h o) t gs' ((w.at d).setChan V.c 0 #[] false (k + 1) (k + 1) false) q' /\ Deaf t j = 0) \/ ∃ gs₁ d sl₁ q₁, ∃ pk : Bool, m = crowd gs₁ (w.at d) sl₁ /\ gs₁.size = gs.size /\ gs₁[h]? = some (if pk then parked a₂ #[scase V.c v z'] .send else a) /\
      Fr P h I t gs₁ (w.at d) q₁ /\ Deaf t h = 0 /\ (pk = true -> 0 < q₁ j) /\ μ = sumTo gs₁.size q₁ + (if pk then 0 else 1))
      (fun μ m t hInv => ?_) _ _ T (.inr ⟨gs, w.drawn, sl, q, false, rfl, rfl, ha, F, hd, by simp, rfl⟩)
    rcases hInv with hdone | ⟨gs₁, d, sl₁, q₁, pk, rfl, hsz, ha₁, F₁, hd₁, hpk, hμ⟩
    · exact .inl hdone
    refine .inr ?_
    obtain ⟨gj, hgj⟩ : ∃ gj, gs₁[j]? = some gj := ⟨gs₁[j]'(by omega), Array.getElem?_eq_getElem (by omega)⟩
    have hlth : h < gs₁.size := by omega
    have hSj : Sits P (j == 0) V.K V.St V.B V.seat (q₁ j) gj := by have := F₁.idle j gj hjh hgj; rwa [hj] at this
    have hKj := F₁.keep j V hjh hj
    have hsome : ∃ (i : Nat) (g : Goroutine), gs₁[i]? = some g /\ g.status = .running := by
      cases pk with
      | false => exact ⟨h, a, ha₁, hrun⟩
      | true => exact ⟨j, gj, hgj, (Sits.status hKj hSj).elim (·.1) (fun z => by have := hpk rfl; omega)⟩
    obtain ⟨i, g, d', sl', hi, hg, hst⟩ := crowd_pick (P := P) (w := w.at d) (sl := sl₁) (F₁.awake ha₁ (by cases pk <;> simp [hrun, parked])) hsome
    rw [at_at'] at hst
    have Fd : Fr P h I t gs₁ (w.at d') q₁ := F₁.at d'
    have hcd : (w.at d').heap[V.c]? = some (.chan 0 #[] false k k false) := hc
    have hμpos : 0 < μ := by
      cases pk with
      | false => simp at hμ; omega
      | true =>
        have h1 := hpk rfl
        have h2 : q₁ j <= sumTo gs₁.size q₁ := Go.ConcN.le_sumTo (f := q₁) (by omega)
        simp at hμ; omega
    by_cases e : i = h
    · subst e
      cases pk with
      | true => rw [ha₁] at hi; obtain rfl := Option.some.inj hi; cases hg
      | false =>
        obtain rfl : g = a := by rw [ha₁] at hi; exact (Option.some.inj hi).symm
        have hoff : ∀ (x : Nat) (y : Goroutine), x ≠ j -> (gs₁.setIfInBounds i ph)[x]? = some y -> offersAt y V.c false = [] := by
          intro x y hxj hy
          rcases getElem?_stand gs₁ i x y hy with ⟨_, rfl⟩ | ⟨hx, hy'⟩
          · exact offersAt_ph _ _
          · exact Fd.noRecv hx hy' fun W hW ec => hxj (F₁.inj x j W V hx hjh hW hj ec)
        have hsend' := hsend d'
        rcases hSj with ⟨kk, w₀, hq, hG⟩ | ⟨hq0, g₀, g₂, rfl, hat⟩
        · have hjr : gj.status = .running := (Sits.status hKj (.inl ⟨kk, w₀, hq, hG⟩)).elim (·.1) (fun z => by omega)
          have hp : partners (gs₁.setIfInBounds i ph) V.c false = [] := partners_nil fun x y hy => by
            by_cases hxj : x = j
            · subst hxj
              rw [stand_get hjh hgj] at hy
              obtain rfl := Option.some.inj hy
              exact offersAt_of_not_blocked (by rw [hjr]; simp) _ _
            · exact hoff x y hxj hy
          have hw : ∀ cc ∈ #[scase V.c v z'], NoWays (w.at d') (gs₁.setIfInBounds i ph) cc := by
            intro cc hcc
            simp only [List.mem_toArray, List.mem_cons, List.not_mem_nil, or_false] at hcc
            subst hcc
            exact ways_send_none hcd (Nat.le_refl _) hp
          have hrt := crowd_waits (sl := sl') hi hsend' hw
          rw [ofEvents_none] at hrt
          refine ⟨_, _, sumTo gs₁.size q₁ + 0, by rw [hst]; exact hrt, by simp at hμ; omega, .inr ⟨_, d', sl', q₁, true, rfl, by simpa using hsz, Array.getElem?_setIfInBounds_self_of_lt hlth, ?_, by simpa using hd₁, fun _ => by omega, by simp⟩⟩
          refine ⟨fun x y hx hy => ?_, Fd.keep, Fd.chan, Fd.inj, by simpa using Fd.tr, by simpa using Fd.room, fun x hx => by simpa using Fd.above x (by simpa using hx)⟩
          rw [Array.getElem?_setIfInBounds_ne (fun z => hx z.symm)] at hy
          simpa using Fd.idle x y hx hy
        · have hp : partners (gs₁.setIfInBounds i ph) V.c false = [(j, 0)] := by
            rw [partners_one (stand_get hjh hgj) fun x y hxj hy => hoff x y hxj hy, offersAt_parked_at hk0 hu]
            rfl
          have hrt := crowd_send_meets_sel (sl := sl') hi hsend' hcd hjh hgj hk0 hp
          obtain ⟨q', hF, hdj⟩ := Fd.pass hj hjh hd₁ hcd (gs' := (gs₁.setIfInBounds j (g₂.finishComm P V.seat.cases V.seat.shape (0 : Nat) v true)).setIfInBounds i (a₂.finishComm P #[scase V.c v z'] .send 0 undef false)) (g' := Go.Conc.served a₂ undef) (by simp) hlth
            (fun x hx hxj => by rw [Array.getElem?_setIfInBounds_ne (fun z => hx z.symm), Array.getElem?_setIfInBounds_ne (fun z => hxj z.symm)]) (Array.getElem?_setIfInBounds_self_of_lt (by simpa using hlth)) o ho a₂.frame.fn a₂.frame.place g₂.frame.fn g₂.frame.place
          rw [ofEvents_none, Array.empty_append] at hrt
          refine ⟨_, _, 0, by rw [hst]; exact hrt, hμpos, .inl ⟨_, g₂, d', sl', q', rfl, by simpa using hsz, ?_, hat.2.2.2.2.1, hF, hdj⟩⟩
          rw [Array.getElem?_setIfInBounds_ne (fun z => hjh z.symm), Array.getElem?_setIfInBounds_self_of_lt (by omega), finishComm_served]
          exact congrArg (fun z => some (Go.Conc.served g₂ z)) (commResult_one ..)
    · by_cases ej : i = j /\ pk = true /\ ∃ g₂, V.At P (i == 0) g g₂
      · obtain ⟨rfl, rfl, g₂, hat⟩ := ej
        obtain ⟨_, _, _, _, hhome, esj, hesj, hstp⟩ := hat
        obtain ⟨hops, hr, _, hdd⟩ := evC_ops (i := i) (fn := g.frame.fn) (pos := g.frame.place) hesj
        have htr : Tr h (loOf h I) (stOf I) (t ++ MemOp.ofEvents i g.frame.fn g.frame.place esj) := F₁.tr.read ⟨hjh, by rw [hj]; rfl⟩ hops (fun op hop b hb => ⟨(hr op hop b hb).1, V, hj, (hr op hop b hb).2⟩) (hdd t)
        have hdh : ∀ x, Deaf (t ++ MemOp.ofEvents i g.frame.fn g.frame.place esj) x = Deaf t x := fun x => by
          by_cases ex : x = i
          · subst ex; exact hdd t
          · exact Deaf_other t (fun z => ex z.symm) _ hops
        have F₂ : Fr P h I (t ++ MemOp.ofEvents i g.frame.fn g.frame.place esj) gs₁ (w.at d') q₁ := ⟨fun x y hx hy => idle_same (hdh x) (Fd.idle x y hx hy), Fd.keep, Fd.chan, Fd.inj, htr, Fd.room, fun x hx => by rw [hdh]; exact Fd.above x hx⟩
        have hp : partners (gs₁.setIfInBounds i ph) V.c true = [(h, 0)] := by
          rw [partners_one (stand_get (Ne.symm hjh) ha₁) fun x y hxh hy => by
            rcases getElem?_stand gs₁ i x y hy with ⟨_, rfl⟩ | ⟨_, hy'⟩
            · exact offersAt_ph _ _
            · exact Fd.noSend hxh hy' _]
          simp [offersAt_parked_send]
        have hno : ∀ (m : Nat) (c' : CommCase), m ≠ 0 -> V.seat.cases[m]? = some c' -> NoWays (w.at d') (gs₁.setIfInBounds i ph) c' := by
          intro m c' hm hc'
          rcases m with _ | m
          · exact absurd rfl hm
          · simp [Wait.seat, Seat.one] at hc'
        have hrt := crowd_sel_recv_meets (sl := sl') hi (hstp _ (Fd.keep i V hjh hj)) hk0 hno hcd (Ne.symm hjh) ha₁ hp
        obtain ⟨q', hF, hdj⟩ := F₂.pass hj hjh (by rw [hdh]; exact hd₁) hcd (gs' := (gs₁.setIfInBounds h (a₂.finishComm P #[scase V.c v z'] .send 0 undef false)).setIfInBounds i (g₂.finishComm P V.seat.cases V.seat.shape (0 : Nat) v true)) (g' := Go.Conc.served a₂ undef) (by simp) hlth
            (fun x hx hxj => by rw [Array.getElem?_setIfInBounds_ne (fun z => hxj z.symm), Array.getElem?_setIfInBounds_ne (fun z => hx z.symm)]) (by rw [Array.getElem?_setIfInBounds_ne hjh, Array.getElem?_setIfInBounds_self_of_lt hlth]; rfl) o ho a₂.frame.fn a₂.frame.place g₂.frame.fn g₂.frame.place
        rw [Array.append_assoc] at hF hdj
        refine ⟨_, _, 0, by rw [hst]; exact hrt, hμpos, .inl ⟨_, g₂, d', sl', q', rfl, by simpa using hsz, ?_, hhome, hF, hdj⟩⟩
        rw [Array.getElem?_setIfInBounds_self_of_lt (by simp; omega), finishComm_served]
        exact congrArg (fun z => some (Go.Conc.served g₂ z)) (commResult_one ..)
      · obtain ⟨gs', ops, q', hrt, hsz', hh, hqo, hq0, F', hlt, hd'⟩ := Fd.by_step (sl := sl') hi e hg ha₁
          (by cases pk with
              | false => exact again_of_running (.inl hrun) _
              | true => exact again_send_open hcd)
          (fun W g₂ hW hat => by
            cases pk with
            | false => exact offersAt_of_not_blocked (by simp [hrun]) _ _
            | true =>
              simp only [if_true]
              rw [offersAt_parked_send, if_neg]
              intro ec
              have hij : i = j := F₁.inj i j W V e hjh hW hj ec.symm
              subst hij
              rw [hj] at hW
              obtain rfl := Option.some.inj hW
              exact ej ⟨rfl, rfl, g₂, hat⟩)
        refine ⟨_, _, sumTo gs'.size q' + (if pk then 0 else 1), by rw [hst]; exact hrt, by rw [hsz']; omega, .inr ⟨gs', d', sl', q', pk, rfl, hsz'.trans hsz, hh, F', hd'.trans hd₁, fun hp => ?_, rfl⟩⟩
        subst hp
        by_cases hij : j = i
        · subst hij
          rcases Nat.eq_zero_or_pos (q' j) with h0 | h0
          · obtain ⟨g₂, hat⟩ := hq0 V hj h0
            exact absurd ⟨rfl, rfl, g₂, hat⟩ ej
          · exact h0
        · rw [hqo j hij]; exact hpk rfl
  obtain ⟨N, m', T', hr, gs', g₂, d, sl', q', rfl, hsz, hJ, hhome, hF, hdj⟩ := key
  exact ⟨N, gs', g₂, d, k, sl', T', q', hr, hsz, hJ, hhome, hc, hF, hdj⟩
theorem Fr.hire (F : Fr P h I T gs w q) {a a' child : Goroutine} {sl : Option (Nat × Nat)} (hd : Deaf T h = 0) (ha : gs[h]? = some a) (hrun : a.status = .running) (hgo : ∀ d, stepG P (h == 0) a (w.at d) = .spawn a' child (w.at d) #[])
    (W : Wait) (hk : ∀ a v, W.cells a = some v -> hcell w.heap a = some v) (hc : ∃ k, w.heap[W.c]? = some (.chan 0 #[] false k k false)) (hf : ∀ i V, i ≠ h -> I i = some V -> V.c ≠ W.c) {n : Nat} (hs : Sits P false W.K W.St W.B W.seat n child) :
    ∃ (N : Nat) (gs' : Array Goroutine) (d : Nat) (sl' : Option (Nat × Nat)) (T' : Trace) (q' : Nat -> Nat), runNT P N (crowd gs w sl) T = (.next (crowd gs' (w.at d) sl'), T') /\ gs'.size = gs.size + 1 /\ gs'[h]? = some a' /\ Fr P h (upd I gs.size (some W)) T' gs' (w.at d) q' /\ Deaf T' h = 0 := by
  obtain ⟨N, gs₁, d, d', sl₁, sl₂, T₁, q₁, hr, hst, hsz, ha₁, F₁, hd₁⟩ := F.picked (sl := sl) ha hrun
  have hlt : h < gs₁.size := (Array.getElem?_eq_some_iff.1 ha₁).1
  have hrt := runT_crowd_spawn (P := P) (sl := sl₂) ha₁ (hgo d')
  rw [ofEvents_none] at hrt
  have hpush : (((#[] : Array MemOp).push { g := h, fn := a.frame.fn, pos := a.frame.place, act := .go gs₁.size }).push { g := gs₁.size, fn := child.frame.fn, pos := a.frame.place, act := .start }) =
      #[{ g := h, fn := a.frame.fn, pos := a.frame.place, act := .go gs₁.size }, { g := gs₁.size, fn := child.frame.fn, pos := a.frame.place, act := .start }] := rfl
  rw [hpush] at hrt
  have hD : ∀ x, Deaf (T₁ ++ #[{ g := h, fn := a.frame.fn, pos := a.frame.place, act := .go gs₁.size }, { g := gs₁.size, fn := child.frame.fn, pos := a.frame.place, act := .start }]) x = Deaf T₁ x := fun x => Deaf_quiet (fun op hop dd => by
    simp only [List.mem_toArray, List.mem_cons, List.not_mem_nil, or_false] at hop
    rcases hop with rfl | rfl <;> rfl)
  have hne : h ≠ gs₁.size := by omega
  have hup : ∀ x, x ≠ gs₁.size -> upd I gs₁.size (some W) x = I x := fun x hx => upd_ne I _ hx
  have htr := F₁.tr.hire (c := gs₁.size) (fun g hg e => by have := F₁.room g hg.1 hg.2; omega) (hd₁.trans hd) (F₁.above _ (Nat.le_refl _)) W.St (fun l hl => by obtain ⟨a, rfl, _⟩ := hl; rfl) a.frame.fn a.frame.place child.frame.fn
  refine ⟨N + 1, _, d', sl₂, _, upd q₁ gs₁.size n, runNT_succ_of hr (hst.trans hrt), by simp [hsz], (by rw [Array.getElem?_push, if_neg (by simp; omega)]; exact Array.getElem?_setIfInBounds_self_of_lt hlt), ?_, (hD h).trans (hd₁.trans hd)⟩
  rw [<- hsz]
  refine ⟨fun x y hx hy => ?_, fun i V hi e => ?_, fun i V hi e => ?_, fun i i' V V' hi hi' e e' ec => ?_, ?_, fun i hi hs => ?_, fun x hx => ?_⟩
  · by_cases ex : x = gs₁.size
    · subst ex
      rw [Array.getElem?_push, if_pos (by simp)] at hy
      obtain rfl := Option.some.inj hy
      rw [upd_same, upd_same]
      have : (gs₁.size == 0) = false := by rw [beq_eq_false_iff_ne]; omega
      show Sits P (gs₁.size == 0) W.K W.St W.B W.seat n child
      rw [this]; exact hs
    · have hxl : x < gs₁.size := by
        have := (Array.getElem?_eq_some_iff.1 hy).1
        simp at this; omega
      rw [Array.getElem?_push, if_neg (by simp; omega), Array.getElem?_setIfInBounds_ne (fun z => hx z.symm)] at hy
      rw [upd_ne q₁ n ex, hup x ex]
      exact idle_same (hD x) (F₁.idle x y hx hy)
  · by_cases ei : i = gs₁.size
    · subst ei
      rw [upd_same] at e
      obtain rfl := Option.some.inj e
      exact hk
    · rw [hup i ei] at e
      exact F₁.keep i V hi e
  · by_cases ei : i = gs₁.size
    · subst ei
      rw [upd_same] at e
      obtain rfl := Option.some.inj e
      exact hc
    · rw [hup i ei] at e
      exact F₁.chan i V hi e
  · by_cases e1 : i = gs₁.size <;> by_cases e2 : i' = gs₁.size
    · rw [e1, e2]
    · subst e1
      rw [upd_same] at e; rw [hup i' e2] at e'
      obtain rfl := Option.some.inj e
      exact absurd ec.symm (hf i' V' hi' e')
    · subst e2
      rw [upd_same] at e'; rw [hup i e1] at e
      obtain rfl := Option.some.inj e'
      exact absurd ec (hf i V hi e)
    · rw [hup i e1] at e; rw [hup i' e2] at e'
      exact F₁.inj i i' V V' hi hi' e e' ec
  · refine htr.congr (fun g => ?_) fun g _ l => ?_
    · by_cases e : g = gs₁.size
      · subst e
        unfold loOf; rw [upd_same]
        exact ⟨fun _ => .inr rfl, fun _ => ⟨fun e => hne e.symm, rfl⟩⟩
      · simp only [loOf, hup g e]
        exact ⟨.inl, fun x => x.elim id fun y => absurd y e⟩
    · by_cases e : g = gs₁.size
      · subst e
        rw [stUp_same]
        simp only [stOf, upd_same]
        exact ⟨fun ⟨V, e, h⟩ => by obtain rfl := Option.some.inj e; exact h, fun h => ⟨W, rfl, h⟩⟩
      · rw [stUp_ne e]
        simp only [stOf, hup g e]
  · simp only [Array.size_push, Array.size_setIfInBounds]
    by_cases ei : i = gs₁.size
    · omega
    · rw [hup i ei] at hs
      have := F₁.room i hi hs
      omega
  · rw [hD]
    exact F₁.above x (by simp at hx; omega)
end
end
section
open Go Go.Conc
open Go.ConcN (sumTo upd sumTo_upd upd_ne upd_same)
variable {Γ : Type}
structure Proto (Γ : Type) where
  num : Γ -> Nat
  ch : Γ -> Nat -> Option Nat
  cells : Γ -> Nat -> Addr -> Option Value
  R : Nat -> Γ -> Γ -> Prop
  Pass : Nat -> Γ -> Hp -> Prop
structure Proto.Ok (X : Proto Γ) : Prop where
  trans : ∀ i a b c, X.R i a b -> X.R i b c -> X.R i a c
  pass : ∀ i γ h c k, X.ch γ i = some c -> X.Pass i γ h -> h[c]? = some (.chan 0 #[] false k k false) -> X.Pass i γ (h.setIfInBounds c (.chan 0 #[] false (k + 1) (k + 1) false))
abbrev tok : Value := .agg #[]
def Proto.still (X : Proto Γ) (i : Nat) (γ : Γ) (a : Addr) : Prop := ∃ j, j ≠ i /\ j < X.num γ /\ (X.ch γ j).isSome = true /\ (X.cells γ j a).isSome = true
def AtSend (P : Program) (main : Bool) (c : Nat) (g a₂ : Goroutine) (h : Hp) : Prop :=
  g.status = .running /\ ∃ z', ∀ w : World, w.heap = h -> stepG P main g w = .comm a₂ #[scase c tok z'] true .send w #[]
def SitsAt (P : Program) (X : Proto Γ) (i : Nat) (γ : Γ) (h : Hp) (g : Goroutine) (Y : Goroutine -> Hp -> Ix Γ -> Prop) : Prop :=
  ∃ c, X.ch γ i = some c /\ (∀ a v, X.cells γ i a = some v -> hcell h a = some v) /\ (∃ k, h[c]? = some (.chan 0 #[] false k k false)) /\ (∀ x, x ≠ i -> x < X.num γ -> X.ch γ x ≠ some c) /\
    ∃ z ok B n, ∀ W : Wait, W = ⟨c, z, ok, X.cells γ i, B, fun g₂ => ∀ γ₂ h₂, X.R i γ γ₂ -> X.Pass i γ₂ h₂ -> Y (Go.Conc.served g₂ (recvd ok tok true)) h₂ ⟨0, γ₂⟩⟩ -> Sits P (i == 0) W.K W.St W.B W.seat n g
def Others (X : Proto Γ) (i : Nat) (γ γ₁ : Γ) : Prop := ∀ x, x ≠ i -> x < X.num γ -> X.ch γ₁ x = X.ch γ x /\ X.cells γ₁ x = X.cells γ x /\ X.R x γ γ₁
def Hands (P : Program) (X : Proto Γ) (i j : Nat) (After : Γ -> Goroutine -> Prop) (g : Goroutine) (h : Hp) (δ : Ix Γ) : Prop :=
  δ.d = 0 /\ ∃ γ₁ c a₂, j ≠ i /\ j < X.num δ.g /\ X.ch δ.g j = some c /\ AtSend P (i == 0) c g a₂ h /\ X.num γ₁ = X.num δ.g /\ Others X i δ.g γ₁ /\ X.Pass j γ₁ h /\ After γ₁ (Go.Conc.served a₂ undef)
def SitT (P : Program) (X : Proto Γ) (i : Nat) : Sit Γ where
  still := X.still i
  yld g h δ Y := Hands P X i 0 (fun γ₁ a => SitsAt P X i γ₁ h a Y) g h δ
def EndT (P : Program) (X : Proto Γ) (i : Nat) (g : Goroutine) (h : Hp) (δ : Ix Γ) : Prop :=
  Hands P X i 0 (fun γ₁ a => X.ch γ₁ i = none /\ ∃ n, QuitsD P n 0 a) g h δ
def Hires (P : Program) (X : Proto Γ) (Y : Goroutine -> Hp -> Ix Γ -> Prop) (g : Goroutine) (h : Hp) (δ : Ix Γ) : Prop :=
  δ.d = 0 /\ g.status = .running /\ ∃ γ₁ a' child, (∀ w : World, w.heap = h -> stepG P true g w = .spawn a' child w #[]) /\ X.num γ₁ = X.num δ.g + 1 /\ Others X 0 δ.g γ₁ /\
    SitsAt P X (X.num δ.g) γ₁ h child (Runs P false (SitT P X (X.num δ.g)) (EndT P X (X.num δ.g))) /\ Y a' h ⟨0, γ₁⟩
def SitM (P : Program) (X : Proto Γ) : Sit Γ where
  still := X.still 0
  yld g h δ Y := (∃ j, Hands P X 0 j (fun γ₁ a => SitsAt P X 0 γ₁ h a Y) g h δ) \/ Hires P X Y g h δ
structure Lk (P : Program) (X : Proto Γ) (h : Nat) (γ : Γ) (I : Nat -> Option Wait) (n : Nat) : Prop where
  num : X.num γ = n
  ch : ∀ i, i ≠ h -> i < n -> X.ch γ i = (I i).map (·.c)
  cells : ∀ i W, i ≠ h -> I i = some W -> W.cells = X.cells γ i
  home : ∀ i W, i ≠ h -> i ≠ 0 -> I i = some W -> ∀ g₂, W.home g₂ -> ∀ γ₂ h₂, X.R i γ γ₂ -> X.Pass i γ₂ h₂ -> Runs P false (SitT P X i) (EndT P X i) (Go.Conc.served g₂ (recvd W.ok tok true)) h₂ ⟨0, γ₂⟩
section
variable {P : Program} {X : Proto Γ} {h : Nat} {I : Nat -> Option Wait} {T : Trace} {gs : Array Goroutine} {w : World} {q : Nat -> Nat} {γ : Γ}
theorem HpOk.anti {S S' : Addr -> Prop} {a b : Hp} (x : HpOk S a b) (hs : ∀ l, S' l -> S l) : HpOk S' a b := ⟨fun l v hl => x.still l v (hs l hl), x.chan, x.size, x.froz⟩
theorem EvOk.anti {S S' : Addr -> Prop} {e : Event} (x : EvOk S e) (hs : ∀ l, S' l -> S l) : EvOk S' e := ⟨fun l h1 h2 h3 => x.1 l h1 h2 (hs l h3), x.2⟩
theorem Lk.still (L : Lk P X h γ I gs.size) (F : Fr P h I T gs w q) {a : Addr} (ha : stillOf h I a) : X.still h γ a := by
  obtain ⟨i, W, hi, e, hs⟩ := ha
  have hlt : i < gs.size := F.room i hi (by rw [e]; rfl)
  exact ⟨i, hi, by rw [L.num]; exact hlt, by rw [L.ch i hi hlt, e]; rfl, by rw [<- L.cells i W hi e]; exact hs⟩
theorem Lk.hand (hX : X.Ok) {γ₁ : Γ} {i j n : Nat} (L : Lk P X i γ I n) (hn : X.num γ₁ = X.num γ) (ho : Others X i γ γ₁) {W? : Option Wait} (room : ∀ x, x ≠ i -> (I x).isSome = true -> x < n)
    (hs : match W? with
      | none => X.ch γ₁ i = none
      | some W => X.ch γ₁ i = some W.c /\ W.cells = X.cells γ₁ i /\ (i ≠ 0 -> ∀ g₂, W.home g₂ -> ∀ γ₂ h₂, X.R i γ₁ γ₂ -> X.Pass i γ₂ h₂ -> Runs P false (SitT P X i) (EndT P X i) (Go.Conc.served g₂ (recvd W.ok tok true)) h₂ ⟨0, γ₂⟩)) :
    Lk P X j γ₁ (upd I i W?) n := by
  have hI : ∀ x, x ≠ i -> upd I i W? x = I x := fun x hx => upd_ne I _ hx
  refine ⟨hn.trans L.num, fun x hx hlt => ?_, fun x W hx e => ?_, fun x W hx h0 e => ?_⟩
  · by_cases ex : x = i
    · subst ex
      rw [upd_same]
      cases W? with
      | none => exact hs
      | some W => exact hs.1
    · rw [hI x ex, (ho x ex (by rw [L.num]; exact hlt)).1]
      exact L.ch x ex hlt
  · by_cases ex : x = i
    · subst ex
      rw [upd_same] at e
      subst e
      exact hs.2.1
    · rw [hI x ex] at e
      have hlt := room x ex (by rw [e]; rfl)
      rw [(ho x ex (by rw [L.num]; exact hlt)).2.1]
      exact L.cells x W ex e
  · by_cases ex : x = i
    · subst ex
      rw [upd_same] at e
      subst e
      exact hs.2.2 h0
    · rw [hI x ex] at e
      have hlt := room x ex (by rw [e]; rfl)
      intro g₂ hg γ₂ h₂ hr hp
      exact L.home x W ex h0 e g₂ hg γ₂ h₂ (hX.trans _ _ _ _ (ho x ex (by rw [L.num]; exact hlt)).2.2 hr) hp
theorem same_at (w : World) (d : Nat) : Same w (w.at d) := ⟨rfl, rfl, rfl⟩
theorem same_chan (w : World) (c cap : Nat) (buf : Array Value) (cl : Bool) (s r : Nat) (tm : Bool) : Same w (w.setChan c cap buf cl s r tm) := ⟨rfl, rfl, rfl⟩
theorem hands_run (hX : X.Ok) {i j : Nat} {g : Goroutine} {δ : Ix Γ} {After : Γ -> Goroutine -> Prop} (Q : Γ -> Option Wait -> Prop) {sl : Option (Nat × Nat)} (F : Fr P i I T gs w q) (L : Lk P X i δ.g I gs.size) (hg : gs[i]? = some g) (hd : Deaf T i = δ.d) (H : Hands P X i j After g w.heap δ)
    (hW : ∀ γ₁ a, X.num γ₁ = X.num δ.g -> After γ₁ a -> ∃ W? : Option Wait, Q γ₁ W? /\ (match W? with
      | none => 0 < i /\ ∃ n, QuitsD P n 0 a
      | some W => (∀ a v, W.cells a = some v -> hcell w.heap a = some v) /\ (∃ k, w.heap[W.c]? = some (.chan 0 #[] false k k false)) /\ (∀ x, x ≠ i -> x < X.num γ₁ -> X.ch γ₁ x ≠ some W.c) /\ ∃ n, Sits P (i == 0) W.K W.St W.B W.seat n a) /\
      (match W? with
      | none => X.ch γ₁ i = none
      | some W => X.ch γ₁ i = some W.c /\ W.cells = X.cells γ₁ i /\ (i ≠ 0 -> ∀ g₂, W.home g₂ -> ∀ γ₂ h₂, X.R i γ₁ γ₂ -> X.Pass i γ₂ h₂ -> Runs P false (SitT P X i) (EndT P X i) (Go.Conc.served g₂ (recvd W.ok tok true)) h₂ ⟨0, γ₂⟩))) :
    ∃ V, I j = some V /\ ∃ (N : Nat) (gs' : Array Goroutine) (g₂ : Goroutine) (w' : World) (sl' : Option (Nat × Nat)) (T' : Trace) (q' : Nat -> Nat) (γ₁ : Γ) (W? : Option Wait),
      runNT P N (crowd gs w sl) T = (.next (crowd gs' w' sl'), T') /\ gs'.size = gs.size /\ gs'[j]? = some (Go.Conc.served g₂ (recvd V.ok tok true)) /\ V.home g₂ /\ Fr P j (upd I i W?) T' gs' w' q' /\ Lk P X j γ₁ (upd I i W?) gs'.size /\ Deaf T' j = 0 /\ Same w w' /\
      X.Pass j γ₁ w'.heap /\ Q γ₁ W? /\ Others X i δ.g γ₁ /\ j ≠ i /\ j < gs.size := by
  obtain ⟨hd0, γ₁, c, a₂, hji, hjn, hcj, ⟨hrun, z', hst⟩, hnum, hoth, hpass, haft⟩ := H
  rw [L.num] at hjn
  have e := L.ch j hji hjn
  rw [hcj] at e
  obtain ⟨V, eV, rfl⟩ : ∃ V, I j = some V /\ V.c = c := by
    cases h : I j with
    | none => rw [h] at e; cases e
    | some V => rw [h] at e; exact ⟨V, rfl, (Option.some.inj e).symm⟩
  obtain ⟨W?, hQ, h1, h2⟩ := hW γ₁ _ hnum haft
  have hA : AfterW P i I w.heap (Go.Conc.served a₂ undef) W? := by
    cases W? with
    | none => exact h1
    | some W =>
      refine ⟨h1.1, h1.2.1, fun x V' hx eV' => ?_, h1.2.2.2⟩
      have hlt := F.room x hx (by rw [eV']; rfl)
      have h3 := h1.2.2.1 x hx (by rw [hnum, L.num]; exact hlt)
      rw [(hoth x hx (by rw [L.num]; exact hlt)).1, L.ch x hx hlt, eV'] at h3
      exact fun ec => h3 (by simp [ec])
  obtain ⟨N, gs', g₂, d, k, sl', T', q', hr, hsz, hJ, hhome, hc, hF, hdj⟩ := F.give (sl := sl) hji hjn eV (hd.trans hd0) hg hrun (fun d => hst _ rfl) W? hA
  exact ⟨V, eV, N, gs', g₂, _, sl', T', q', γ₁, W?, hr, hsz, hJ, hhome, hF, by rw [hsz]; exact L.hand hX hnum hoth F.room h2, hdj, (same_at w d).trans (same_chan _ _ _ _ _ _ _ _), hX.pass _ _ _ _ _ ((hoth j hji (by rw [L.num]; exact hjn)).1.trans hcj) hpass hc, hQ, hoth, hji, hjn⟩
theorem step_run {main : Bool} {i : Nat} (hm : main = (i == 0)) {g : Goroutine} {δ : Ix Γ} {S : Sit Γ} (hS : S.still = X.still i) {Y : Goroutine -> Hp -> Ix Γ -> Prop} {sl : Option (Nat × Nat)} (F : Fr P i I T gs w q) (L : Lk P X i δ.g I gs.size) (hg : gs[i]? = some g) (hd : Deaf T i = δ.d)
    (H : StepTo P main S Y g w.heap δ) :
    ∃ (N : Nat) (gs' : Array Goroutine) (g' : Goroutine) (w' : World) (sl' : Option (Nat × Nat)) (T' : Trace) (q' : Nat -> Nat) (δ' : Ix Γ), runNT P N (crowd gs w sl) T = (.next (crowd gs' w' sl'), T') /\ gs'.size = gs.size /\ gs'[i]? = some g' /\ Fr P i I T' gs' w' q' /\ δ'.g = δ.g /\
      Deaf T' i = δ'.d /\ Same w w' /\ Y g' w'.heap δ' := by
  subst hm
  obtain ⟨hrun, hst⟩ := H
  obtain ⟨N, gs₁, d, d', sl₁, sl₂, T₁, q₁, hr, hstp, hsz, ha₁, F₁, hd₁⟩ := F.picked (sl := sl) hg hrun
  obtain ⟨g', w', es, h1, h2, h3, h4, h5⟩ := hst (w.at d') rfl
  have hsub : ∀ l, stillOf i I l -> S.still δ.g l := fun l hl => by rw [hS]; exact L.still F hl
  obtain ⟨gs', ops, hrt, hsz', hg', F', hd'⟩ := F₁.own (sl := sl₂) ha₁ h1 (h3.anti hsub) (fun e he => (h4 e he).anti hsub)
  exact ⟨N + 1, gs', g', w', sl₂, _, q₁, deafI δ es, runNT_succ_of hr (hstp.trans hrt), hsz'.trans hsz, hg', F', rfl, by rw [hd', hd₁, hd]; rfl, (same_at w d').trans h2, h5⟩
theorem phase (hX : X.Ok) {i : Nat} (hi : i ≠ 0) {g : Goroutine} {hp : Hp} {δ : Ix Γ} (H : Runs P false (SitT P X i) (EndT P X i) g hp δ) :
    ∀ {I : Nat -> Option Wait} {T : Trace} {gs : Array Goroutine} {w : World} {q : Nat -> Nat} {sl : Option (Nat × Nat)}, w.heap = hp -> Fr P i I T gs w q -> Lk P X i δ.g I gs.size -> gs[i]? = some g -> Deaf T i = δ.d ->
    ∃ V, I 0 = some V /\ ∃ (N : Nat) (gs' : Array Goroutine) (g₂ : Goroutine) (w' : World) (sl' : Option (Nat × Nat)) (T' : Trace) (q' : Nat -> Nat) (γ₁ : Γ) (I' : Nat -> Option Wait),
      runNT P N (crowd gs w sl) T = (.next (crowd gs' w' sl'), T') /\ gs'.size = gs.size /\ gs'[0]? = some (Go.Conc.served g₂ (recvd V.ok tok true)) /\ V.home g₂ /\ Fr P 0 I' T' gs' w' q' /\ Lk P X 0 γ₁ I' gs'.size /\ Deaf T' 0 = 0 /\ Same w w' /\ X.Pass 0 γ₁ w'.heap /\ X.R 0 δ.g γ₁ := by
  have hmain : false = (i == 0) := by simpa using hi
  induction H with
  | stop hs =>
    intro I T gs w q sl hw F L hg hd
    subst hw
    have h0 : 0 < gs.size := Nat.lt_of_le_of_lt (Nat.zero_le _) (Array.getElem?_eq_some_iff.1 hg).1
    obtain ⟨V, eV, N, gs', g₂, w', sl', T', q', γ₁, W?, h1, h2, h3, h4, h5, h6, h7, h8, h9, h10, h11, h12, h13⟩ := hands_run hX (fun _ _ => True) (sl := sl) F L hg hd hs fun γ₁ a _ hx => ⟨none, trivial, ⟨Nat.pos_of_ne_zero hi, hx.2⟩, hx.1⟩
    exact ⟨V, eV, N, gs', g₂, w', sl', T', q', γ₁, _, h1, h2, h3, h4, h5, h6, h7, h8, h9, (h11 0 (Ne.symm hi) (by rw [L.num]; exact h0)).2.2⟩
  | step Y _ hst ih =>
    intro I T gs w q sl hw F L hg hd
    subst hw
    obtain ⟨N, gs', g', w', sl', T', q', δ', h1, h2, h3, h4, h5, h6, h7, h8⟩ := step_run hmain rfl (sl := sl) F L hg hd hst
    obtain ⟨V, eV, N₂, gs₂, g₂, w₂, sl₂, T₂, q₂, γ₁, I', k1, k2, k3, k4, k5, k6, k7, k8, k9, k10⟩ := ih _ _ _ h8 (sl := sl') rfl h4 (by rw [h5, h2]; exact L) h3 h6
    exact ⟨V, eV, N + N₂, gs₂, g₂, w₂, sl₂, T₂, q₂, γ₁, I', runNT_then h1 k1, k2.trans h2, k3, k4, k5, k6, k7, h7.trans k8, k9, h5 ▸ k10⟩
  | hands Y hY hy _ =>
    intro I T gs w q sl hw F L hg hd
    subst hw
    have h0 : 0 < gs.size := Nat.lt_of_le_of_lt (Nat.zero_le _) (Array.getElem?_eq_some_iff.1 hg).1
    obtain ⟨V, eV, N, gs', g₂, w', sl', T', q', γ₁, W?, h1, h2, h3, h4, h5, h6, h7, h8, h9, h10, h11, h12, h13⟩ := hands_run hX (fun _ _ => True) (sl := sl) F L hg hd (show Hands P X i 0 (fun γ₁ a => SitsAt P X i γ₁ w.heap a Y) _ _ _ from hy) fun γ₁ a _ ⟨c, e1, e2, e3, e4, z, ok, B, n, e5⟩ =>
      ⟨some _, trivial, ⟨e2, e3, e4, n, e5 _ rfl⟩, e1, rfl, fun _ g₂ hh γ₂ h₂ hr hp => hY _ _ _ (hh γ₂ h₂ hr hp)⟩
    exact ⟨V, eV, N, gs', g₂, w', sl', T', q', γ₁, _, h1, h2, h3, h4, h5, h6, h7, h8, h9, (h11 0 (Ne.symm hi) (by rw [L.num]; exact h0)).2.2⟩
theorem company (hX : X.Ok) {Stop : Goroutine -> Hp -> Ix Γ -> Prop} {g : Goroutine} {hp : Hp} {δ : Ix Γ} (H : Runs P true (SitM P X) Stop g hp δ) :
    ∀ {I : Nat -> Option Wait} {T : Trace} {gs : Array Goroutine} {w : World} {q : Nat -> Nat} {sl : Option (Nat × Nat)}, w.heap = hp -> Fr P 0 I T gs w q -> Lk P X 0 δ.g I gs.size -> gs[0]? = some g -> Deaf T 0 = δ.d ->
    ∃ (N : Nat) (gs' : Array Goroutine) (g' : Goroutine) (w' : World) (sl' : Option (Nat × Nat)) (T' : Trace) (q' : Nat -> Nat) (δ' : Ix Γ) (I' : Nat -> Option Wait),
      runNT P N (crowd gs w sl) T = (.next (crowd gs' w' sl'), T') /\ gs'[0]? = some g' /\ Fr P 0 I' T' gs' w' q' /\ Lk P X 0 δ'.g I' gs'.size /\ Deaf T' 0 = δ'.d /\ Same w w' /\ Stop g' w'.heap δ' := by
  induction H with
  | stop hs =>
    intro I T gs w q sl hw F L hg hd
    subst hw
    exact ⟨0, gs, _, w, sl, T, q, _, I, rfl, hg, F, L, hd, Same.refl _, hs⟩
  | step Y _ hst ih =>
    intro I T gs w q sl hw F L hg hd
    subst hw
    obtain ⟨N, gs', g', w', sl', T', q', δ', h1, h2, h3, h4, h5, h6, h7, h8⟩ := step_run (by rfl) rfl (sl := sl) F L hg hd hst
    obtain ⟨N₂, gs₂, g₂, w₂, sl₂, T₂, q₂, δ₂, I', k1, k3, k5, k6, k7, k8, k9⟩ := ih _ _ _ h8 (sl := sl') rfl h4 (by rw [h5, h2]; exact L) h3 h6
    exact ⟨N + N₂, gs₂, g₂, w₂, sl₂, T₂, q₂, δ₂, I', runNT_then h1 k1, k3, k5, k6, k7, h7.trans k8, k9⟩
  | @hands g hp δ Y hY hy ih =>
    intro I T gs w q sl hw F L hg hd
    subst hw
    rcases hy with ⟨j, hy⟩ | ⟨hd0, hrun, γ₁, a', child, hst, hnum, hoth, ⟨c, e1, e2, e3, e4, z, ok, B, n, e5⟩, hx⟩
    · obtain ⟨V, eV, N, gs', g₂, w', sl', T', q', γ₁, W?, h1, h2, h3, h4, h5, h6, h7, h8, h9, ⟨W, rfl, hW⟩, h11, h12, h13⟩ := hands_run hX
        (fun γ₁ W? => ∃ W, W? = some W /\ ∀ g₂, W.home g₂ -> ∀ γ₂ h₂, X.R 0 γ₁ γ₂ -> X.Pass 0 γ₂ h₂ -> Y (Go.Conc.served g₂ (recvd W.ok tok true)) h₂ ⟨0, γ₂⟩) (sl := sl) F L hg hd hy fun γ₁ a _ ⟨c, e1, e2, e3, e4, z, ok, B, n, e5⟩ =>
        ⟨some ⟨c, z, ok, X.cells γ₁ 0, B, fun g₂ => ∀ γ₂ h₂, X.R 0 γ₁ γ₂ -> X.Pass 0 γ₂ h₂ -> Y (Go.Conc.served g₂ (recvd ok tok true)) h₂ ⟨0, γ₂⟩⟩, ⟨_, rfl, fun g₂ x => x⟩, ⟨e2, e3, e4, n, e5 _ rfl⟩, e1, rfl, fun h => absurd rfl h⟩
      have hR := L.home j V h12 h12 eV g₂ h4 γ₁ w'.heap (h11 j h12 (by rw [L.num]; exact h13)).2.2 h9
      obtain ⟨V', eV', N₂, gs₂, g₃, w₂, sl₂, T₂, q₂, γ₂, I₂, k1, k2, k3, k4, k5, k6, k7, k8, k9, k10⟩ := phase hX h12 hR (sl := sl') rfl h5 h6 h3 h7
      rw [upd_same] at eV'
      obtain rfl := Option.some.inj eV'
      obtain ⟨N₃, gs₃, g₄, w₃, sl₃, T₃, q₃, δ₃, I₃, m1, m3, m5, m6, m7, m8, m9⟩ := ih _ _ _ (hW g₃ k4 γ₂ w₂.heap k10 k9) (sl := sl₂) rfl k5 k6 k3 k7
      exact ⟨_, gs₃, g₄, w₃, sl₃, T₃, q₃, δ₃, I₃, runNT_then (runNT_then h1 k1) m1, m3, m5, m6, m7, (h8.trans k8).trans m8, m9⟩
    · have hpos : 0 < gs.size := (Array.getElem?_eq_some_iff.1 hg).1
      have hb : (X.num δ.g == 0) = false := by rw [beq_eq_false_iff_ne, L.num]; omega
      have e6 := e5 _ rfl
      rw [hb] at e6
      have hne : gs.size ≠ 0 := by omega
      obtain ⟨N, gs', d, sl', T', q', h1, h2, h3, h4, h5⟩ := F.hire (sl := sl) (hd.trans hd0) hg hrun (fun d => hst _ rfl) _ e2 e3 (fun i V hi eV => by
        have hlt := F.room i hi (by rw [eV]; rfl)
        have e7 := e4 i (by rw [L.num]; omega) (by rw [hnum, L.num]; omega)
        rw [(hoth i hi (by rw [L.num]; exact hlt)).1, L.ch i hi hlt, eV] at e7
        exact fun ec => e7 (by simp [ec])) e6
      have hI : ∀ x (W : Wait), x ≠ gs.size -> upd I gs.size (some W) x = I x := fun x W hx => upd_ne I _ hx
      obtain ⟨N₂, gs₂, g₂, w₂, sl₂, T₂, q₂, δ₂, I', k1, k3, k5, k6, k7, k8, k9⟩ := ih _ _ _ hx (sl := sl') (w := w.at d) rfl h4 (by
        refine ⟨by rw [hnum, L.num, h2], fun x hx hlt => ?_, fun x W hx e => ?_, fun x W hx h0 e => ?_⟩
        · by_cases ex : x = gs.size
          · subst ex
            rw [upd_same, <- L.num, e1]; rfl
          · rw [hI x _ ex, (hoth x hx (by rw [L.num]; omega)).1]
            exact L.ch x hx (by omega)
        · by_cases ex : x = gs.size
          · subst ex
            rw [upd_same] at e
            obtain rfl := Option.some.inj e
            rw [L.num]
          · rw [hI x _ ex] at e
            have hlt := F.room x hx (by rw [e]; rfl)
            rw [(hoth x hx (by rw [L.num]; omega)).2.1]
            exact L.cells x W hx e
        · by_cases ex : x = gs.size
          · subst ex
            rw [upd_same] at e
            obtain rfl := Option.some.inj e
            intro g₂ hh γ₂ h₂ hr hp
            rw [L.num] at hh
            exact hh γ₂ h₂ hr hp
          · rw [hI x _ ex] at e
            have hlt := F.room x hx (by rw [e]; rfl)
            intro g₂ hh γ₂ h₂ hr hp
            exact L.home x W hx h0 e g₂ hh γ₂ h₂ (hX.trans _ _ _ _ (hoth x hx (by rw [L.num]; omega)).2.2 hr) hp) h3 h5
      exact ⟨N + N₂, gs₂, g₂, w₂, sl₂, T₂, q₂, δ₂, I', runNT_then h1 k1, k3, k5, k6, k7, (same_at w d).trans k8, k9⟩
end
end
section
open Go Go.Conc
open Go.ConcN (sumTo upd sumTo_upd upd_ne upd_same)
variable {Γ : Type}
theorem stepG_last {P : Program} {f : FuncId} {a : Act} {todo : List Item} {fn : Func} {v : Value} {w : World} {es : Array Event} (hd : a.defers = []) (hf : P.funcs[f]? = some fn) (hini : P.inits.idxOf? f = none)
    (hv : (results fn a.tmps).runT P w #[] = (.ok v w, es)) : stepG P true (G { (fb f .normal).at a todo with mode := .returning } []) w = .ended (.done v) w (seen P f es) := by
  simp only [G, stepG, unwind, Frame.at, hd, hf, fb, hv]
  simp [doReturn, GStep.after, hini]
theorem tr_over {I : Nat -> Option Wait} {t : Trace} (H : Tr 0 (loOf 0 I) (stOf I) t) (hI : ∀ i, i ≠ 0 -> I i = none) : t.HandedOver := by
  intro i g hg hne ⟨x, hx, hm, _⟩
  rcases H.known i x hx hm with ⟨q, z, hq, hz, hb⟩ | ⟨_, g', _, hlo, _⟩
  · rcases hb with rfl | hb
    · rw [g?_of hq, hz] at hg
      exact absurd (Option.some.inj hg).symm hne
    · exact ⟨q, by rw [g?_of hq, hz], hb⟩
  · have := hlo.2
    rw [hI g' hlo.1] at this
    cases this
theorem fr_one (P : Program) (g : Goroutine) (w : World) : Fr P 0 (fun _ => none) #[] #[g] w (fun _ => 0) := by
  refine ⟨fun i g' hi hg => ?_, fun _ _ _ e => (by cases e), fun _ _ _ e => (by cases e), fun _ _ _ _ _ _ e => (by cases e), ⟨fun said => ?_, fun i a ha => ?_, fun i a ha => ?_, fun g' hg => ?_⟩, fun i hi hs => (by cases hs), fun j _ => rfl⟩
  · have : i < 1 := by simpa using (Array.getElem?_eq_some_iff.1 hg).1
    omega
  · rintro ⟨i, j, _, ⟨a, b, ha, _⟩, _⟩; simp [Trace.act?] at ha
  · simp [touchAt, Trace.act?] at ha
  · simp [touchAt, Trace.act?] at ha
  · cases hg.2
theorem runN_of_runNT {P : Program} : ∀ (n : Nat) (m m' : Machine) (t t' : Trace), runNT P n m t = (.next m', t') -> runN P n m = .next m'
  | 0, m, m', t, t', h => by simp only [runNT, Prod.mk.injEq] at h; rw [runN]; exact h.1
  | n + 1, m, m', t, t', h => by
    simp only [runNT] at h
    cases e : stepT P m with
    | mk s ops =>
      rw [e] at h
      cases s with
      | next m₁ =>
        simp only at h
        have : step P m = .next m₁ := by rw [step, e]
        rw [runN, this]
        exact runN_of_runNT n m₁ m' _ t' h
      | _ => simp at h
theorem runNT_succ_end {P : Program} {N : Nat} {m m₁ : Machine} {t t₁ : Trace} {o : Outcome} {w : World} {ops : Array MemOp} (h : runNT P N m t = (.next m₁, t₁)) (hs : stepT P m₁ = (.ended o w, ops)) : runNT P (N + 1) m t = (.ended o w, t₁ ++ ops) := by
  rw [runNT_add, h]; simp only [runNT, hs]
end
section
open Go Go.Conc
variable {Γ : Type}
def SemR (P : Program) (C : Addr -> Option Value) {α : Type} : Sem α -> (α -> Prop) -> Prop
  | .pure a, Q => Q a
  | .load m a k, Q => m = .plain /\ ∃ v, C a = some v /\ SemR P C (k v) Q
  | .program k, Q => SemR P C (k P) Q
  | _, _ => False
section
variable {P : Program} {C : Addr -> Option Value}
def ReadsC (C : Addr -> Option Value) (es : Array Event) : Prop := ∀ e ∈ es, ∃ a, e = (⟨.cell a, false, false⟩ : Event) /\ (C a).isSome = true
def OfC (C : Addr -> Option Value) (h : Hp) : Prop := ∀ a v, C a = some v -> hcell h a = some v
theorem semR_sound {α : Type} (s : Sem α) : ∀ {Q : α -> Prop}, SemR P C s Q -> ∀ w : World, OfC C w.heap -> ∀ es₀ : Array Event, ∃ a es, s.runT P w es₀ = (.ok a w, es₀ ++ es) /\ Q a /\ ReadsC C es := by
  induction s with
  | pure a => intro Q h w _ es₀; exact ⟨a, #[], by simp [Sem.runT], h, by simp [ReadsC]⟩
  | load m a k ih =>
    intro Q ⟨hm, v, hv, h⟩ w hC es₀
    subst hm
    obtain ⟨x, es, h1, h2, h3⟩ := ih v h w hC (es₀.push ⟨.cell a, false, false⟩)
    refine ⟨x, #[⟨.cell a, false, false⟩] ++ es, ?_, h2, fun e he => ?_⟩
    · have e : w.cell? a = some v := hC a v hv
      simp only [Sem.runT, e]
      rw [show (Mode.plain == Mode.atomic) = false from rfl, h1, Array.push_eq_append, Array.append_assoc]
    · rcases Array.mem_append.1 he with he | he
      · simp at he; subst he
        exact ⟨a, rfl, by rw [hv]; rfl⟩
      · exact h3 e he
  | program k ih =>
    intro Q h w hC es₀
    obtain ⟨x, es, h1, h2, h3⟩ := ih P h w hC es₀
    exact ⟨x, es, by simp only [Sem.runT]; exact h1, h2, h3⟩
  | _ => intro Q h; exact h.elim
theorem semR_bind {α β : Type} (s : Sem α) (f : α -> Sem β) : ∀ {Q : β -> Prop}, SemR P C s (fun a => SemR P C (f a) Q) -> SemR P C (s.bind f) Q := by
  induction s with
  | pure a => intro Q h; exact h
  | load m a k ih => intro Q ⟨h1, v, h2, h3⟩; exact ⟨h1, v, h2, ih v h3⟩
  | program k ih => intro Q h; exact ih P h
  | _ => intro Q h; exact h.elim
theorem semR_pureBind {α β : Type} {a : α} {g : α -> Sem β} {Q : β -> Prop} (hs : SemR P C (g a) Q) : SemR P C (pure a >>= g) Q := hs
theorem semR_underlying {β : Type} {t : TypeId} {d : TypeDesc} (hu : P.underlying t = some d) {g : TypeDesc -> Sem β} {Q : β -> Prop} (hs : SemR P C (g d) Q) : SemR P C (underlying t >>= g) Q := by
  change SemR P C (Sem.bind (Sem.bind (Sem.program Sem.pure) _) g) Q
  simp only [Sem.bind, SemR, hu]
  exact hs
theorem semR_sizeOf {β : Type} {t : TypeId} {i : TypeInfo} (hu : P.info? t = some i) {g : Nat -> Sem β} {Q : β -> Prop} (hs : SemR P C (g i.size) Q) : SemR P C (sizeOf t >>= g) Q := by
  refine semR_bind _ _ (semR_bind _ _ ?_)
  change SemR P C (Sem.bind (Sem.program Sem.pure) _) _
  simp only [Sem.bind, SemR, hu]
  exact hs
theorem semR_zeroValue {β : Type} {t : TypeId} {i : TypeInfo} {z : Value} (hu : P.info? t = some i) (hz : i.zero = some z) {g : Value -> Sem β} {Q : β -> Prop} (hs : SemR P C (g z) Q) : SemR P C (zeroValue t >>= g) Q := by
  refine semR_bind _ _ (semR_bind _ _ ?_)
  change SemR P C (Sem.bind (Sem.program Sem.pure) _) _
  simp only [Sem.bind, SemR, hu]
  show SemR P C (match i.zero with | some v => pure v | none => unsupported (.resourceLimit "a value of more than 2^22 cells") : Sem Value) _
  simp only [hz]
  exact hs
theorem semR_isAgg {β : Type} {t : TypeId} {d : TypeDesc} (hu : P.underlying t = some d) {g : Bool -> Sem β} {Q : β -> Prop} (hs : SemR P C (g (TypeDesc.aggB d)) Q) : SemR P C (isAgg t >>= g) Q := by
  refine semR_bind _ _ ?_
  unfold isAgg
  refine semR_underlying hu ?_
  cases d <;> exact hs
theorem semR_loadVar1 {t : TypeId} [s : Scal P t] {a : Addr} {v : Value} {Q : Value -> Prop} (hc : C a = some v) (hq : Q v) : SemR P C (loadVar t a) Q := by
  obtain ⟨d, hu, hd, _⟩ := s.out
  unfold loadVar
  refine semR_isAgg hu ?_
  rw [hd]
  exact ⟨rfl, v, hc, hq⟩
theorem semR_fieldAt {s fld off : Nat} [fo : FieldOff P s fld off] {b o : Nat} {Q : Value -> Prop} (hq : Q (.pointer (some ⟨b, o + off, none⟩))) : SemR P C (Instr.fieldAt s (.pointer (some ⟨b, o, none⟩)) fld) Q := by
  obtain ⟨fields, fd, inf, hu, hf, ho, hi, hs⟩ := fo.out
  unfold Instr.fieldAt
  refine semR_underlying hu ?_
  simp only [hf]
  refine semR_pureBind ?_
  refine semR_bind _ _ ?_
  unfold fieldPlace
  refine semR_sizeOf hi ?_
  rw [if_neg hs, add_eq, ho]
  exact hq
end
def Way (P : Program) (main : Bool) (c : Nat) (C : Addr -> Option Value) (B : Nat) (Hm : Goroutine -> Prop) (g : Goroutine) : Prop :=
  ∃ z ok n, ∀ W : Wait, W = ⟨c, z, ok, C, B, fun g₂ => Hm (Go.Conc.served g₂ (recvd ok tok true))⟩ -> ∀ w, Goes P main (RK W.K) (DS W.St W.B) (fun g _ => ∃ g₂, W.At P main g g₂) n g w
section
variable {P : Program} {main : Bool} {c : Nat} {C : Addr -> Option Value} {B : Nat} {Hm : Goroutine -> Prop}
theorem Way.go {g g' : Goroutine} (hr : g.status = .running) (hB : ∀ a, (C a).isSome = true -> a.block < B) (hst : ∀ w : World, OfC C w.heap -> ∃ es, stepG P main g w = .go g' w es /\ ReadsC C es) (hw : Way P main c C B Hm g') : Way P main c C B Hm g := by
  obtain ⟨z, ok, n, hn⟩ := hw
  refine ⟨z, ok, n + 1, fun W hW w => .inr ⟨hr, fun w₁ hK => ?_⟩⟩
  have hW' := hn W hW w₁
  subst hW
  obtain ⟨es, h1, h2⟩ := hst w₁ hK
  rw [h1, goes_go]
  refine ⟨⟨rfl, fun e he => ?_⟩, hW'⟩
  obtain ⟨a, rfl, ha⟩ := h2 e he
  exact ⟨a, rfl, ⟨a, rfl, ha⟩, hB a ha⟩
theorem Way.ctl {g g' : Goroutine} (hr : g.status = .running) (hB : ∀ a, (C a).isSome = true -> a.block < B) (hst : ∀ w : World, stepG P main g w = .go g' w) (hw : Way P main c C B Hm g') : Way P main c C B Hm g :=
  Way.go hr hB (fun w _ => ⟨#[], hst w, by simp [ReadsC]⟩) hw
theorem Way.recv {g : Goroutine} {z : Value} {ok : Bool} (hr : g.status = .running) (_hB : ∀ a, (C a).isSome = true -> a.block < B)
    (hst : ∀ w : World, OfC C w.heap -> stepG P main g w = .comm g #[rcase c z] true (.recv ok) w #[]) (hh : Hm (Go.Conc.served g (recvd ok tok true))) : Way P main c C B Hm g := by
  refine ⟨z, ok, 0, fun W hW w w₁ hK => ?_⟩
  subst hW
  exact ⟨g, hr, rfl, rfl, rfl, hh, #[], by simp, fun w hw => hst w hw⟩
theorem Way.sits {X : Proto Γ} {i : Nat} {γ : Γ} {h : Hp} {g : Goroutine} {Y : Goroutine -> Hp -> Ix Γ -> Prop} (hm : main = (i == 0)) (h1 : X.ch γ i = some c) (h2 : ∀ a v, X.cells γ i a = some v -> hcell h a = some v) (h3 : ∃ k, h[c]? = some (.chan 0 #[] false k k false))
    (h4 : ∀ x, x ≠ i -> x < X.num γ -> X.ch γ x ≠ some c) (hw : Way P main c (X.cells γ i) B (fun g => ∀ γ₂ h₂, X.R i γ γ₂ -> X.Pass i γ₂ h₂ -> Y g h₂ ⟨0, γ₂⟩) g) : SitsAt P X i γ h g Y := by
  subst hm
  obtain ⟨z, ok, n, hn⟩ := hw
  exact ⟨c, h1, h2, h3, h4, z, ok, B, n + 1, fun W hW => .inl ⟨n, default, rfl, hn W (by rw [hW]) default⟩⟩
end
section
variable (P : Program) (main : Bool) (c : Nat) (C : Addr -> Option Value) (B : Nat) (Hm : Goroutine -> Prop) (f : FuncId) (n : Nat) (kind : CallKind) (cs : List Frame)
def EY (todo : List Item) (env : Env) (ds : List Deferred) : Prop := ∀ a, Kn n env ds a -> Way P main c C B Hm (G ((fb f kind).at a todo) cs)
def RY (ops : Array Oper) (l : List Oper) (k : List Item) (env : Env) (ds : List Deferred) : Prop :=
  ∀ rest : List Nat, rest.map (fun i => ops[i]?) = l.map some -> EY P main c C B Hm f n kind cs (.inRegion ops rest :: k) env ds
end
section
variable {P : Program} {main : Bool} {c : Nat} {C : Addr -> Option Value} {B : Nat} {Hm : Goroutine -> Prop} {f : FuncId} {n : Nat} {kind : CallKind} {cs : List Frame} {k : List Item} {env : Env} {ds : List Deferred}
theorem EY.seq (hB : ∀ a, (C a).isSome = true -> a.block < B) {x y : Code} (hw : EY P main c C B Hm f n kind cs (.code x :: .code y :: k) env ds) : EY P main c C B Hm f n kind cs (.code (.seq x y) :: k) env ds := fun a ka => Way.ctl rfl hB (fun _ => stepG_seq) (hw a ka)
theorem EY.region (hB : ∀ a, (C a).isSome = true -> a.block < B) {id : Nat} {ops : Array Oper} (hw : RY P main c C B Hm f n kind cs ops ops.toList k env ds) : EY P main c C B Hm f n kind cs (.code (.region id ops false) :: k) env ds := by
  intro a ka
  refine Way.ctl rfl hB (fun _ => stepG_region) (hw _ ?_ a ka)
  apply List.ext_getElem?
  intro i
  simp only [List.getElem?_map, Array.getElem?_toList]
  by_cases hi : i < ops.size
  · simp [hi]
  · have h1 : (List.range ops.size)[i]? = none := by simp; omega
    have h2 : ops[i]? = none := by simp; omega
    rw [h1, h2]; rfl
theorem RY.done (hB : ∀ a, (C a).isSome = true -> a.block < B) {ops : Array Oper} (hw : EY P main c C B Hm f n kind cs k env ds) : RY P main c C B Hm f n kind cs ops [] k env ds := by
  intro rest hr a ka
  have : rest = [] := by simpa using hr
  subst this
  exact Way.ctl rfl hB (fun _ => stepG_region_end) (hw a ka)
section
variable {ops : Array Oper} {l : List Oper} {d : Nat} {ty : TypeId} {pos : String} {af : Array Edge} {g : Option (Nat × Bool)}
theorem RY.val {op : Op} {v : Value} (hB : ∀ a, (C a).isSome = true -> a.block < B) (hk : kind ≠ .early) (hw : wantE ops env g = some true) (hd : Nat.blt d n = true)
    (hs : ∀ ρ : Operand -> Value, (∀ x v, ev env x = some v -> ρ x = v) -> SemR P C (execOp ρ ⟨some d, op, ty, pos, af, g⟩) (fun nx => nx = .value v))
    (hn : RY P main c C B Hm f n kind cs ops l k ((d, v) :: env) ds) : RY P main c C B Hm f n kind cs ops (⟨some d, op, ty, pos, af, g⟩ :: l) k env ds := by
  intro rest hr a ka
  obtain ⟨i, r, rfl, ho, hr'⟩ := ER.uncons hr
  refine Way.go rfl hB (fun w hC => ?_) (hn r hr' _ (ka.put v hd))
  obtain ⟨x, es, h1, rfl, h3⟩ := semR_sound _ (hs a.eval (fun x v hx => ka.eval hx)) w hC #[]
  have hk' : (kind == CallKind.early) = false := by simpa using hk
  have hfin : ((fb f kind).at a (.inRegion ops (i :: r) :: k)).finish v = (fb f kind).at (a.put (some d) v) (.inRegion ops r :: k) := by rw [Frame.finish_at, ho]; rfl
  refine ⟨seen P f es, ?_, fun e he => h3 e (mem_seen he)⟩
  rw [stepG_oper ho (wantE_ok ka (o := ⟨some d, op, ty, pos, af, g⟩) hw)]
  have hkind : ((fb f kind).at a (.inRegion ops (i :: r) :: k)).kind = kind := rfl
  have hfn : ((fb f kind).at a (.inRegion ops (i :: r) :: k)).fn = f := rfl
  simp only [stepG.apply, h1, if_true, hkind, hk', hfn, Bool.false_eq_true, if_false, Array.empty_append, <- hfin]
  simp [GStep.after, G]
theorem RY.defer {op : Op} {dd : Deferred} (hB : ∀ a, (C a).isSome = true -> a.block < B) (hk : kind ≠ .early) (hw : wantE ops env g = some true)
    (hs : ∀ ρ : Operand -> Value, (∀ x v, ev env x = some v -> ρ x = v) -> SemR P C (execOp ρ ⟨none, op, ty, pos, af, g⟩) (fun nx => nx = .defer dd))
    (hn : RY P main c C B Hm f n kind cs ops l k env (dd :: ds)) : RY P main c C B Hm f n kind cs ops (⟨none, op, ty, pos, af, g⟩ :: l) k env ds := by
  intro rest hr a ka
  obtain ⟨i, r, rfl, ho, hr'⟩ := ER.uncons hr
  refine Way.go (g' := G ((fb f kind).at { a with defers := dd :: a.defers } (.inRegion ops r :: k)) cs) rfl hB (fun w hC => ?_) (hn r hr' _ ⟨ka.size, by simp [ka.defers], ka.knows⟩)
  obtain ⟨x, es, h1, rfl, h3⟩ := semR_sound _ (hs a.eval (fun x v hx => ka.eval hx)) w hC #[]
  have hk' : (kind == CallKind.early) = false := by simpa using hk
  have hfin2 : ({ (fb f kind).at a (.inRegion ops (i :: r) :: k) with defers := dd :: a.defers } : Frame).finish undef = (fb f kind).at { a with defers := dd :: a.defers } (.inRegion ops r :: k) := by
    have := Frame.finish_at (fb f kind) { a with defers := dd :: a.defers } ops i r k undef
    rw [ho] at this; exact this
  refine ⟨seen P f es, ?_, fun e he => h3 e (mem_seen he)⟩
  rw [stepG_oper ho (wantE_ok ka (o := ⟨none, op, ty, pos, af, g⟩) hw)]
  have hkind : ((fb f kind).at a (.inRegion ops (i :: r) :: k)).kind = kind := rfl
  have hfn : ((fb f kind).at a (.inRegion ops (i :: r) :: k)).fn = f := rfl
  rw [<- hfin2]
  simp only [stepG.apply, h1, if_true, hkind, hk', hfn, Bool.false_eq_true, if_false, Array.empty_append]
  simp [GStep.after, G, Frame.at]
theorem RY.move {x : Operand} {v : Value} (hB : ∀ a, (C a).isSome = true -> a.block < B) (hk : kind ≠ .early) (hw : wantE ops env g = some true) (hd : Nat.blt d n = true) (hx : ev env x = some v)
    (hn : RY P main c C B Hm f n kind cs ops l k ((d, v) :: env) ds) : RY P main c C B Hm f n kind cs ops (⟨some d, .move x, ty, pos, af, g⟩ :: l) k env ds :=
  RY.val hB hk hw hd (fun _ρ hρ => congrArg Next.value (hρ x v hx)) hn
theorem RY.nilCheck {x : Operand} {a : Addr} (hB : ∀ a, (C a).isSome = true -> a.block < B) (hk : kind ≠ .early) (hw : wantE ops env g = some true) (hd : Nat.blt d n = true) (hx : ev env x = some (.pointer (some a)))
    (hn : RY P main c C B Hm f n kind cs ops l k ((d, .pointer (some a)) :: env) ds) : RY P main c C B Hm f n kind cs ops (⟨some d, .nilCheck x, ty, pos, af, g⟩ :: l) k env ds :=
  RY.val hB hk hw hd (fun ρ hρ => by
    unfold execOp
    simp only [hρ x _ hx]
    exact rfl) hn
theorem RY.fieldAddr {s fld off : Nat} [fo : FieldOff P s fld off] {x : Operand} {b o : Nat} (hB : ∀ a, (C a).isSome = true -> a.block < B) (hk : kind ≠ .early) (hw : wantE ops env g = some true) (hd : Nat.blt d n = true) (hx : ev env x = some (.pointer (some ⟨b, o, none⟩)))
    (hn : RY P main c C B Hm f n kind cs ops l k ((d, .pointer (some ⟨b, o + off, none⟩)) :: env) ds) : RY P main c C B Hm f n kind cs ops (⟨some d, .fieldAddr s x fld, ty, pos, af, g⟩ :: l) k env ds :=
  RY.val hB hk hw hd (fun ρ hρ => by
    show SemR P C (Instr.fieldAt s (ρ x) fld >>= fun v => pure (Next.value v)) _
    rw [hρ x _ hx]
    exact semR_bind _ _ (semR_fieldAt rfl)) hn
theorem RY.load1 {t : TypeId} [Scal P t] {x : Operand} {a : Addr} {v : Value} (hB : ∀ a, (C a).isSome = true -> a.block < B) (hk : kind ≠ .early) (hw : wantE ops env g = some true) (hd : Nat.blt d n = true) (hx : ev env x = some (.pointer (some a))) (hc : C a = some v)
    (hn : RY P main c C B Hm f n kind cs ops l k ((d, v) :: env) ds) : RY P main c C B Hm f n kind cs ops (⟨some d, .load t x, ty, pos, af, g⟩ :: l) k env ds :=
  RY.val hB hk hw hd (fun ρ hρ => by
    show SemR P C ((Instr.sureAddr (ρ x) >>= fun a => loadVar t a) >>= fun v => pure (Next.value v)) _
    rw [hρ x _ hx]
    exact semR_bind _ _ (semR_loadVar1 hc rfl)) hn
theorem RY.makeFunc {fn : Fn} {first cap : Array Operand} {fv cv : Array Value} (hB : ∀ a, (C a).isSome = true -> a.block < B) (hk : kind ≠ .early) (hw : wantE ops env g = some true) (hd : Nat.blt d n = true)
    (hf : ∀ ρ : Operand -> Value, (∀ x v, ev env x = some v -> ρ x = v) -> first.map ρ = fv /\ cap.map ρ = cv)
    (hn : RY P main c C B Hm f n kind cs ops l k ((d, .func fn fv cv) :: env) ds) : RY P main c C B Hm f n kind cs ops (⟨some d, .makeFunc fn first cap, ty, pos, af, g⟩ :: l) k env ds :=
  RY.val hB hk hw hd (fun ρ hρ => by
    show Next.value (.func fn (first.map ρ) (cap.map ρ)) = _
    rw [(hf ρ hρ).1, (hf ρ hρ).2]) hn
theorem RY.recv {t elem by_ sz : Nat} {z : Value} {x : Operand} {dir : ChanDir} (hu : P.underlying t = some (.chan dir elem)) [i : Inf P elem sz by_ z] (hB : ∀ a, (C a).isSome = true -> a.block < B) (hk : kind ≠ .early) (hw : wantE ops env g = some true) (hd : Nat.blt d n = true) (hx : ev env x = some (.chan (some c)))
    (hh : ∀ rest : List Nat, rest.map (fun i => ops[i]?) = l.map some -> ∀ a, Kn n ((d, tok) :: env) ds a -> Hm (G ((fb f kind).at a (.inRegion ops rest :: k)) cs)) : RY P main c C B Hm f n kind cs ops (⟨some d, .recv t x false, ty, pos, af, g⟩ :: l) k env ds := by
  intro rest hr a ka
  obtain ⟨j, r, rfl, ho, hr'⟩ := ER.uncons hr
  have hfin : ((fb f kind).at a (.inRegion ops (j :: r) :: k)).finish tok = (fb f kind).at (a.put (some d) tok) (.inRegion ops r :: k) := by rw [Frame.finish_at, ho]; rfl
  refine Way.recv (z := z) (ok := false) rfl hB (fun w hC => ?_) ?_
  · obtain ⟨inf, h1, h2, h3, h4⟩ := i.get
    have hs : SemR P (fun _ => none) (execOp a.eval ⟨some d, .recv t x false, ty, pos, af, g⟩) (fun nx => nx = .comm #[rcase c z] true (.recv false)) := by
      show SemR P _ (underlying t >>= _) _
      refine semR_underlying hu ?_
      refine semR_zeroValue h1 h4 ?_
      rw [ka.eval hx]
      exact rfl
    obtain ⟨y, es, h5, rfl, h6⟩ := semR_sound _ hs w (fun _ _ e => by cases e) #[]
    have hes : es = #[] := by
      apply Array.eq_empty_iff_forall_not_mem.2
      intro e he
      obtain ⟨_, _, e'⟩ := h6 e he
      cases e'
    subst hes
    have hk' : (kind == CallKind.early) = false := by simpa using hk
    rw [stepG_oper ho (wantE_ok ka (o := ⟨some d, .recv t x false, ty, pos, af, g⟩) hw)]
    have hkind : ((fb f kind).at a (.inRegion ops (j :: r) :: k)).kind = kind := rfl
    have hfn : ((fb f kind).at a (.inRegion ops (j :: r) :: k)).fn = f := rfl
    simp only [stepG.apply, h5, if_true, hkind, hk', hfn, Bool.false_eq_true, if_false, Array.empty_append]
    simp [GStep.after, G, seen_def]
  · show Hm (G (((fb f kind).at a (.inRegion ops (j :: r) :: k)).finish tok) cs)
    rw [hfin]
    exact hh r hr' _ (ka.put tok hd)
end
end
end
section
open Go Go.Conc
variable {Γ : Type}
def rootFr (P : Program) : Frame := { (default : Frame) with fn := P.funcs.size, mode := .panicking [goexitEntry] }
theorem stepG_born {P : Program} {main : Bool} {b : FuncId} {cap : Array Value} [hb : HasBody P b] (w : World) : stepG P main (born P { target := .fn (.func b) cap, args := #[] }) w = .go (G (Frame.enter P b cap .deferred) [rootFr P]) w := by
  obtain ⟨fn, c, h1, h2, h3⟩ := hb.out
  have hinv : (invoke (.fn (.func b) cap) #[]).runT P w #[] = (.ok (.enter b cap) w, #[]) := by
    have e : (invoke (.fn (.func b) cap) #[]).runT P w #[] = (callFunc b (#[] ++ cap)).runT P w #[] := rfl
    rw [e, callFunc_runT h1 h2 h3]; simp
  unfold born
  simp only [stepG, unwind, callDeferred]
  rw [hinv]
  simp [GStep.after, seen_def, rootFr, G]
  rfl
theorem Way.born {P : Program} {c : Nat} {C : Addr -> Option Value} {B : Nat} {Hm : Goroutine -> Prop} {b : FuncId} {cap : Array Value} [HasBody P b] (hB : ∀ a, (C a).isSome = true -> a.block < B) (hw : Way P false c C B Hm (G (Frame.enter P b cap .deferred) [rootFr P])) :
    Way P false c C B Hm (Go.Conc.born P { target := .fn (.func b) cap, args := #[] }) := Way.ctl rfl hB (fun w => stepG_born w) hw
theorem Way.enter {P : Program} {main : Bool} {c : Nat} {C : Addr -> Option Value} {B : Nat} {Hm : Goroutine -> Prop} {f : FuncId} {n : Nat} {fn : Func} {code : Code} {args : Array Value} {kind : CallKind} {cs : List Frame} [hf : IsFn P f fn] (hb : fn.body = some code) (hn : args.size + (fn.ntmps - args.size) = n)
    (hk : EY P main c C B Hm f n kind cs [.code code] (argE 0 args.toList) []) : Way P main c C B Hm (G (Frame.enter P f args kind) cs) := by
  have e : Frame.enter P f args kind = (fb f kind).at { tmps := args ++ Array.replicate (fn.ntmps - args.size) undef, defers := [] } [.code code] := by
    simp [Frame.enter, Frame.at, hf.out, hb, fb]
  rw [e]
  refine hk _ ⟨by simp [hn], rfl, fun i v hl => ?_⟩
  obtain ⟨_, h2⟩ := argE_look _ _ _ _ hl
  have h3 : args[i]? = some v := by simpa using h2
  have hi : i < args.size := by
    rcases Nat.lt_or_ge i args.size with x | x
    · exact x
    · simp [Array.getElem?_eq_none x] at h3
  rw [Array.getElem?_append_left hi, h3]
section
variable (P : Program) (main : Bool) (S : Sit Γ) (Stop : Goroutine -> Hp -> Ix Γ -> Prop) (f : FuncId) (n : Nat) (kind : CallKind) (cs : List Frame)
def TK (todo : List Item) (env : Env) (ds : List Deferred) (h : Hp) (δ : Ix Γ) : Prop := ∀ a, Kn n env ds a -> Runs P main S Stop (G ((fb f kind).at a todo) cs) h δ
def TR (ops : Array Oper) (l : List Oper) (k : List Item) (env : Env) (ds : List Deferred) (h : Hp) (δ : Ix Γ) : Prop :=
  ∀ rest : List Nat, rest.map (fun i => ops[i]?) = l.map some -> TK P main S Stop f n kind cs (.inRegion ops rest :: k) env ds h δ
def TU (mode : FrameMode) (env : Env) (ds : List Deferred) (h : Hp) (δ : Ix Γ) : Prop := ∀ a todo, Kn n env ds a -> Runs P main S Stop (G { (fb f kind).at a todo with mode := mode } cs) h δ
end
section
variable {P : Program} {main : Bool} {S : Sit Γ} {Stop : Goroutine -> Hp -> Ix Γ -> Prop} {f : FuncId} {n : Nat} {kind : CallKind} {cs : List Frame} {k : List Item} {env : Env} {ds : List Deferred} {h : Hp} {δ : Ix Γ}
theorem TK.start {fn : Func} {code : Code} {args : Array Value} [hf : IsFn P f fn] (hb : fn.body = some code) (hn : args.size + (fn.ntmps - args.size) = n)
    (hk : TK P main S Stop f n kind cs [.code code] (argE 0 args.toList) [] h δ) : Runs P main S Stop (G (Frame.enter P f args kind) cs) h δ := by
  have e : Frame.enter P f args kind = (fb f kind).at { tmps := args ++ Array.replicate (fn.ntmps - args.size) undef, defers := [] } [.code code] := by
    simp [Frame.enter, Frame.at, hf.out, hb, fb]
  rw [e]
  refine hk _ ⟨by simp [hn], rfl, fun i v hl => ?_⟩
  obtain ⟨_, h2⟩ := argE_look _ _ _ _ hl
  have h3 : args[i]? = some v := by simpa using h2
  have hi : i < args.size := by
    rcases Nat.lt_or_ge i args.size with x | x
    · exact x
    · simp [Array.getElem?_eq_none x] at h3
  rw [Array.getElem?_append_left hi, h3]
theorem TK.skip (hw : TK P main S Stop f n kind cs k env ds h δ) : TK P main S Stop f n kind cs (.code .skip :: k) env ds h δ := fun a ka => .ctl rfl (fun _ => stepG_skip) (hw a ka)
theorem TK.seq {x y : Code} (hw : TK P main S Stop f n kind cs (.code x :: .code y :: k) env ds h δ) : TK P main S Stop f n kind cs (.code (.seq x y) :: k) env ds h δ := fun a ka => .ctl rfl (fun _ => stepG_seq) (hw a ka)
theorem TK.cond {c : Operand} {x y : Code} {t : Bool} (hc : ev env c = some (.bool t)) (hw : TK P main S Stop f n kind cs (.code (if t then x else y) :: k) env ds h δ) : TK P main S Stop f n kind cs (.code (.cond c x y) :: k) env ds h δ :=
  fun a ka => .ctl rfl (fun _ => stepG_cond (ka.eval hc)) (hw a ka)
theorem TK.done (hw : TU P main S Stop f n kind cs .returning env ds h δ) : TK P main S Stop f n kind cs [] env ds h δ := fun a ka => .ctl rfl (fun _ => stepG_end) (hw a [] ka)
theorem TK.region {id : Nat} {ops : Array Oper} (hw : TR P main S Stop f n kind cs ops ops.toList k env ds h δ) : TK P main S Stop f n kind cs (.code (.region id ops false) :: k) env ds h δ := by
  intro a ka
  refine .ctl rfl (fun _ => stepG_region) (hw _ ?_ a ka)
  apply List.ext_getElem?
  intro i
  simp only [List.getElem?_map, Array.getElem?_toList]
  by_cases hi : i < ops.size
  · simp [hi]
  · have h1 : (List.range ops.size)[i]? = none := by simp; omega
    have h2 : ops[i]? = none := by simp; omega
    rw [h1, h2]; rfl
theorem TR.done {ops : Array Oper} (hw : TK P main S Stop f n kind cs k env ds h δ) : TR P main S Stop f n kind cs ops [] k env ds h δ := by
  intro rest hr a ka
  have : rest = [] := by simpa using hr
  subst this
  exact .ctl rfl (fun _ => stepG_region_end) (hw a ka)
section
variable {ops : Array Oper} {l : List Oper} {d : Nat} {ty : TypeId} {pos : String} {af : Array Edge} {g : Option (Nat × Bool)} {op : Op}
theorem TR.no (hw : wantE ops env g = some false) (hd : Nat.blt d n = true) (hn : TR P main S Stop f n kind cs ops l k ((d, undef) :: env) ds h δ) : TR P main S Stop f n kind cs ops (⟨some d, op, ty, pos, af, g⟩ :: l) k env ds h δ := by
  intro rest hr a ka
  obtain ⟨i, r, rfl, ho, hr'⟩ := ER.uncons hr
  refine .ctl rfl (fun w => ?_) (hn r hr' _ (ka.put undef hd))
  exact stepG_unwanted ho (wantE_ok ka (o := ⟨some d, op, ty, pos, af, g⟩) hw)
theorem TR.opv {dst : Option Nat} {v : Value} {h' : Hp} {env' : Env} (hk : kind ≠ .early) (hw : wantE ops env g = some true)
    (hs : ∀ ρ : Operand -> Value, (∀ x v, ev env x = some v -> ρ x = v) -> SemW P S (execOp ρ ⟨dst, op, ty, pos, af, g⟩) h δ (fun nx h'' δ'' => (nx = .value v \/ (nx = .skip /\ v = undef)) /\ h'' = h' /\ δ'' = δ) (fun _ _ _ => False))
    (he : ∀ a, Kn n env ds a -> Kn n env' ds (a.put dst v))
    (hn : TR P main S Stop f n kind cs ops l k env' ds h' δ) : TR P main S Stop f n kind cs ops (⟨dst, op, ty, pos, af, g⟩ :: l) k env ds h δ := by
  intro rest hr a ka
  obtain ⟨i, r, rfl, ho, hr'⟩ := ER.uncons hr
  refine .of_step ⟨rfl, fun w hwh => ?_⟩
  obtain ⟨es, res, hrun, hev, hran⟩ := semW_sound _ h δ _ _ (hs a.eval (fun x v hx => ka.eval hx)) w hwh #[]
  have hk' : (kind == CallKind.early) = false := by simpa using hk
  have hfin : ∀ v, ((fb f kind).at a (.inRegion ops (i :: r) :: k)).finish v = (fb f kind).at (a.put dst v) (.inRegion ops r :: k) := fun v => by rw [Frame.finish_at, ho]; rfl
  have hrun' : (execOp a.eval ⟨dst, op, ty, pos, af, g⟩).runT P w #[] = (res, es) := by simpa using hrun
  have hap : stepG P main (G ((fb f kind).at a (.inRegion ops (i :: r) :: k)) cs) w = stepG.apply P true ((fb f kind).at a (.inRegion ops (i :: r) :: k)) cs none (execOp a.eval ⟨dst, op, ty, pos, af, g⟩) w := stepG_oper ho (wantE_ok ka (o := ⟨dst, op, ty, pos, af, g⟩) hw)
  have hkind : ((fb f kind).at a (.inRegion ops (i :: r) :: k)).kind = kind := rfl
  have hfn : ((fb f kind).at a (.inRegion ops (i :: r) :: k)).fn = f := rfl
  obtain ⟨hevs, hdeaf⟩ := evOk_seen (Γ := Γ) (P := P) (f := f) hev
  cases res with
  | ok nx w' =>
    obtain ⟨hsame, hhp, hq, rfl, hδ⟩ := hran
    rw [<- hdeaf] at hδ
    refine ⟨G ((fb f kind).at (a.put dst v) (.inRegion ops r :: k)) cs, w', seen P f es, ?_, hsame, hhp, hevs, by rw [hδ]; exact hn r hr' _ (he a ka)⟩
    rw [hap, <- hfin]
    rcases hq with rfl | ⟨rfl, rfl⟩
    · simp only [stepG.apply, hrun', if_true, hkind, hk', hfn, Bool.false_eq_true, if_false]
      simp [GStep.after, G]
    · simp only [stepG.apply, hrun', if_true, hkind, hk', hfn, Bool.false_eq_true, if_false]
      simp [GStep.after, G]
  | halt x w' =>
    cases x <;> first | exact hran.elim | exact hran.2.2.elim
theorem TR.val {v : Value} {h' : Hp} (hk : kind ≠ .early) (hw : wantE ops env g = some true) (hd : Nat.blt d n = true)
    (hs : ∀ (ρ : Operand -> Value) (Q : Next -> Hp -> Ix Γ -> Prop) (X : Value -> Hp -> Ix Γ -> Prop), (∀ x v, ev env x = some v -> ρ x = v) -> Q (.value v) h' δ -> SemW P S (execOp ρ ⟨some d, op, ty, pos, af, g⟩) h δ Q X)
    (hn : TR P main S Stop f n kind cs ops l k ((d, v) :: env) ds h' δ) : TR P main S Stop f n kind cs ops (⟨some d, op, ty, pos, af, g⟩ :: l) k env ds h δ :=
  TR.opv hk hw (fun ρ hρ => hs ρ _ _ hρ ⟨.inl rfl, rfl, rfl⟩) (fun _a ka => ka.put v hd) hn
theorem TR.unit {h' : Hp} (hk : kind ≠ .early) (hw : wantE ops env g = some true)
    (hs : ∀ (ρ : Operand -> Value) (Q : Next -> Hp -> Ix Γ -> Prop) (X : Value -> Hp -> Ix Γ -> Prop), (∀ x v, ev env x = some v -> ρ x = v) -> Q .skip h' δ -> SemW P S (execOp ρ ⟨none, op, ty, pos, af, g⟩) h δ Q X)
    (hn : TR P main S Stop f n kind cs ops l k env ds h' δ) : TR P main S Stop f n kind cs ops (⟨none, op, ty, pos, af, g⟩ :: l) k env ds h δ :=
  TR.opv (v := undef) hk hw (fun ρ hρ => hs ρ _ _ hρ ⟨.inr ⟨rfl, rfl⟩, rfl, rfl⟩) (fun _a ka => ka) hn
theorem TR.call {c : FuncId} {args : Array Value} {Q : Value -> Hp -> Ix Γ -> Prop} {Z : List PanicEntry -> Hp -> Ix Γ -> Prop} {fn : Func} [_hf : IsFn P f fn] (hk : kind ≠ .early) (hw : wantE ops env g = some true) (hd : Nat.blt d n = true)
    (hs : ∀ (ρ : Operand -> Value) (Q : Next -> Hp -> Ix Γ -> Prop) (X : Value -> Hp -> Ix Γ -> Prop), (∀ x v, ev env x = some v -> ρ x = v) -> Q (.enter c args) h δ -> SemW P S (execOp ρ ⟨some d, op, ty, pos, af, g⟩) h δ Q X)
    (hc : CallW P main S c args h δ (RetP Q Z)) (hret : ∀ v h' δ', Q v h' δ' -> TR P main S Stop f n kind cs ops l k ((d, v) :: env) ds h' δ') (hpan : ∀ p h' δ', Z p h' δ' -> TU P main S Stop f n kind cs (.panicking p) env ds h' δ') :
    TR P main S Stop f n kind cs ops (⟨some d, op, ty, pos, af, g⟩ :: l) k env ds h δ := by
  intro rest hr a ka
  obtain ⟨i, r, rfl, ho, hr'⟩ := ER.uncons hr
  have hk' : (kind == CallKind.early) = false := by simpa using hk
  have hfin : ∀ v, ((fb f kind).at a (.inRegion ops (i :: r) :: k)).finish v = (fb f kind).at (a.put (some d) v) (.inRegion ops r :: k) := fun v => by rw [Frame.finish_at, ho]; rfl
  refine .of_step ⟨rfl, fun w hwh => ?_⟩
  obtain ⟨es, res, hrun, hev, hran⟩ := semW_sound _ h δ (fun nx h'' δ'' => nx = .enter c args /\ h'' = h /\ δ'' = δ) (fun _ _ _ => False) (hs a.eval _ _ (fun x v hx => ka.eval hx) ⟨rfl, rfl, rfl⟩) w hwh #[]
  have hrun' : (execOp a.eval ⟨some d, op, ty, pos, af, g⟩).runT P w #[] = (res, es) := by simpa using hrun
  have hap : stepG P main (G ((fb f kind).at a (.inRegion ops (i :: r) :: k)) cs) w = stepG.apply P true ((fb f kind).at a (.inRegion ops (i :: r) :: k)) cs none (execOp a.eval ⟨some d, op, ty, pos, af, g⟩) w := stepG_oper ho (wantE_ok ka (o := ⟨some d, op, ty, pos, af, g⟩) hw)
  have hkind : ((fb f kind).at a (.inRegion ops (i :: r) :: k)).kind = kind := rfl
  have hfn : ((fb f kind).at a (.inRegion ops (i :: r) :: k)).fn = f := rfl
  have htodo : ((fb f kind).at a (.inRegion ops (i :: r) :: k)).todo = .inRegion ops (i :: r) :: k := rfl
  obtain ⟨hevs, hdeaf⟩ := evOk_seen (Γ := Γ) (P := P) (f := f) hev
  cases res with
  | ok nx w' =>
    obtain ⟨hsame, hhp, rfl, hh, hδ⟩ := hran
    rw [<- hdeaf] at hδ
    refine ⟨G (Frame.enter P c args .normal) ((fb f kind).at a (.inRegion ops (i :: r) :: k) :: cs), w', seen P f es, ?_, hsame, hhp, hevs, ?_⟩
    · rw [hap]
      simp only [stepG.apply, hrun', if_true, hkind, hk', hfn, htodo, Bool.false_eq_true, if_false]
      simp [GStep.after, G]
    · rw [hδ, hh]
      refine (hc .normal (by simp) _).bind ?_
      rintro x h' δ' ⟨a', todo, mode, fn', rfl, hd', hf', ⟨rfl, v, hv, hR⟩ | ⟨ch, rfl, hR⟩⟩
      · refine .of_step ⟨rfl, fun w hw => ?_⟩
        obtain ⟨es, hrun, hes⟩ := hv w hw
        refine ⟨G ((fb f kind).at (a.put (some d) v) (.inRegion ops r :: k)) cs, w, seen P c es, ?_, Same.refl _, by rw [hw]; exact HpOk.refl _ _, (seen_reads (Γ := Γ) hes).1, ?_⟩
        · rw [<- hfin]
          simp only [G, stepG, unwind, Frame.at, hd', hf', fb, hrun]
          simp [doReturn, GStep.after]
        · rw [(seen_reads (Γ := Γ) (S := S.still δ'.g) hes).2, hw]
          exact hret v h' δ' hR r hr' _ (ka.put v hd)
      · refine .ctl (g' := G { (fb f kind).at a (.inRegion ops (i :: r) :: k) with mode := .panicking ch } cs) rfl (fun w => ?_) (hpan ch h' δ' hR a _ ka)
        simp [G, stepG, unwind, Frame.at, hd', hf', fb, Frame.catches, Frame.raise]
  | halt x w' =>
    cases x <;> first | exact hran.elim | exact hran.2.2.elim
theorem TU.defer {mode : FrameMode} {b : FuncId} {cap : Array Value} [hb : HasBody P b] (hm : mode ≠ .run) (hn : ∀ a todo, Kn n env ds a -> Runs P main S Stop (G (Frame.enter P b cap .deferred) ({ (fb f kind).at a todo with mode := mode } :: cs)) h δ) :
    TU P main S Stop f n kind cs mode env ({ target := .fn (.func b) cap, args := #[] } :: ds) h δ := by
  intro a todo ka
  obtain ⟨fn, c, h1, h2, h3⟩ := hb.out
  have hinv : ∀ w, (invoke (.fn (.func b) cap) #[]).runT P w #[] = (.ok (.enter b cap) w, #[]) := fun w => by
    have e : (invoke (.fn (.func b) cap) #[]).runT P w #[] = (callFunc b (#[] ++ cap)).runT P w #[] := rfl
    rw [e, callFunc_runT h1 h2 h3]; simp
  have hd := ka.defers
  refine .ctl (g' := G (Frame.enter P b cap .deferred) ({ (fb f kind).at { a with defers := ds } todo with mode := mode } :: cs)) rfl (fun w => ?_) (hn { a with defers := ds } todo ⟨ka.size, rfl, ka.knows⟩)
  cases mode with
  | run => exact absurd rfl hm
  | _ =>
    simp only [G, stepG, unwind, Frame.at, hd, callDeferred, fb]
    rw [hinv]
    simp [GStep.after, seen_def]
theorem TR.recover0 {caller : Frame} {cs' : List Frame} (hcs : cs = caller :: cs') (hm : caller.mode = .returning) (hk : kind = .deferred) (hw : wantE ops env g = some true) (hd : Nat.blt d n = true)
    (hn : TR P main S Stop f n kind cs ops l k ((d, .nilIface) :: env) ds h δ) : TR P main S Stop f n kind cs ops (⟨some d, .call { callee := .builtin .recover, args := #[], argTypes := #[] }, ty, pos, af, g⟩ :: l) k env ds h δ := by
  subst hk hcs
  intro rest hr a ka
  obtain ⟨i, r, rfl, ho, hr'⟩ := ER.uncons hr
  refine .ctl rfl (fun w => ?_) (hn r hr' _ (ka.put .nilIface hd))
  have hfin : ((fb f .deferred).at a (.inRegion ops (i :: r) :: k)).finish .nilIface = (fb f .deferred).at (a.put (some d) .nilIface) (.inRegion ops r :: k) := by rw [Frame.finish_at, ho]; rfl
  rw [stepG_oper ho (wantE_ok ka (o := ⟨some d, .call { callee := .builtin .recover, args := #[], argTypes := #[] }, ty, pos, af, g⟩) hw), <- hfin]
  have hrun : (execOp a.eval ⟨some d, .call { callee := .builtin .recover, args := #[], argTypes := #[] }, ty, pos, af, g⟩).runT P w #[] = (.ok .recover w, #[]) := rfl
  simp only [stepG.apply, hrun]
  simp [GStep.after, seen_def, Frame.at, fb, tryRecover, hm, G]
theorem TR.recover1 {caller : Frame} {cs' : List Frame} {v : Value} {older : List PanicEntry} (hcs : cs = caller :: cs') (hm : caller.mode = .panicking ({ v, recovered := false } :: older)) (hk : kind = .deferred) (hw : wantE ops env g = some true) (hd : Nat.blt d n = true)
    (hn : TR P main S Stop f n kind ({ caller with mode := .panicking ({ v, recovered := true } :: older) } :: cs') ops l k ((d, v) :: env) ds h δ) : TR P main S Stop f n kind cs ops (⟨some d, .call { callee := .builtin .recover, args := #[], argTypes := #[] }, ty, pos, af, g⟩ :: l) k env ds h δ := by
  subst hk hcs
  intro rest hr a ka
  obtain ⟨i, r, rfl, ho, hr'⟩ := ER.uncons hr
  refine .ctl rfl (fun w => ?_) (hn r hr' _ (ka.put v hd))
  have hfin : ((fb f .deferred).at a (.inRegion ops (i :: r) :: k)).finish v = (fb f .deferred).at (a.put (some d) v) (.inRegion ops r :: k) := by rw [Frame.finish_at, ho]; rfl
  rw [stepG_oper ho (wantE_ok ka (o := ⟨some d, .call { callee := .builtin .recover, args := #[], argTypes := #[] }, ty, pos, af, g⟩) hw), <- hfin]
  have hrun : (execOp a.eval ⟨some d, .call { callee := .builtin .recover, args := #[], argTypes := #[] }, ty, pos, af, g⟩).runT P w #[] = (.ok .recover w, #[]) := rfl
  simp only [stepG.apply, hrun]
  simp [GStep.after, seen_def, Frame.at, fb, tryRecover, hm, G]
end
end
section
variable {P : Program} {main : Bool} {S : Sit Γ} {f : FuncId} {n : Nat} {k : List Item} {env : Env} {ds : List Deferred} {h : Hp} {δ : Ix Γ} {R : Post Γ}
variable {ops : Array Oper} {l : List Oper} {d : Nat} {ty : TypeId} {pos : String} {af : Array Edge} {g : Option (Nat × Bool)}
theorem at_send {kind : CallKind} {cs : List Frame} {a : Act} {i : Nat} {rest : List Nat} {x y : Operand} {c : Nat} (ho : ops[i]? = some ⟨none, .send x y, ty, pos, af, g⟩) (hw : Region.wanted ⟨none, .send x y, ty, pos, af, g⟩ (yielded ops a.tmps) = true) (hk : kind ≠ .early)
    (hx : a.eval x = .chan (some c)) (hy : a.eval y = tok) : AtSend P main c (G ((fb f kind).at a (.inRegion ops (i :: rest) :: k)) cs) (G ((fb f kind).at a (.inRegion ops (i :: rest) :: k)) cs) h := by
  refine ⟨rfl, .tuple #[], fun w _ => ?_⟩
  have h5 : (execOp a.eval ⟨none, .send x y, ty, pos, af, g⟩).runT P w #[] = (.ok (.comm #[scase c tok (.tuple #[])] true .send) w, #[]) := by
    show (Sem.pure (Next.comm #[{ chan := a.eval x, send := some (a.eval y), zero := .tuple #[] }] true .send)).runT P w #[] = _
    rw [hx, hy]; rfl
  have hk' : (kind == CallKind.early) = false := by simpa using hk
  rw [stepG_oper ho hw]
  have hkind : ((fb f kind).at a (.inRegion ops (i :: rest) :: k)).kind = kind := rfl
  have hfn : ((fb f kind).at a (.inRegion ops (i :: rest) :: k)).fn = f := rfl
  simp only [stepG.apply, h5, if_true, hkind, hk', hfn, Bool.false_eq_true, if_false]
  simp [GStep.after, G, seen_def]
theorem served_none {kind : CallKind} {cs : List Frame} {a : Act} {i : Nat} {rest : List Nat} {o : Oper} (ho : ops[i]? = some o) (hd : o.dst = none) :
    Go.Conc.served (G ((fb f kind).at a (.inRegion ops (i :: rest) :: k)) cs) undef = G ((fb f kind).at a (.inRegion ops rest :: k)) cs := by
  show G (((fb f kind).at a (.inRegion ops (i :: rest) :: k)).finish undef) cs = _
  rw [Frame.finish_at, ho]
  simp [hd, Act.put]
theorem ER.gives {X : Proto Γ} {i j c c' B : Nat} {γ₁ : Γ} {x y : Operand} (hm : main = (i == 0))
    (hS : ∀ g h δ Y, Hands P X i j (fun γ₁ a => SitsAt P X i γ₁ h a Y) g h δ -> S.yld g h δ Y) (hw : wantE ops env g = some true) (hx : ev env x = some (.chan (some c))) (hy : ev env y = some tok) (hd : δ.d = 0)
    (hji : j ≠ i) (hjn : j < X.num δ.g) (hcj : X.ch δ.g j = some c) (hn : X.num γ₁ = X.num δ.g) (ho : Others X i δ.g γ₁) (hp : X.Pass j γ₁ h) (h1 : X.ch γ₁ i = some c') (h2 : ∀ a v, X.cells γ₁ i a = some v -> hcell h a = some v)
    (h3 : ∃ k, h[c']? = some (.chan 0 #[] false k k false)) (h4 : ∀ x, x ≠ i -> x < X.num γ₁ -> X.ch γ₁ x ≠ some c')
    (hway : ∀ kind, kind ≠ .early -> ∀ cs, RY P main c' (X.cells γ₁ i) B (fun g => ∀ γ₂ h₂, X.R i γ₁ γ₂ -> X.Pass i γ₂ h₂ -> Runs P main S (Left P f kind cs R) g h₂ ⟨0, γ₂⟩) f n kind cs ops l k env ds) :
    ER P main S f n ops (⟨none, .send x y, ty, pos, af, g⟩ :: l) k env ds h δ R := by
  intro rest hr a ka
  obtain ⟨m, r, rfl, hop, hr'⟩ := ER.uncons hr
  intro kind hk cs
  subst hm
  refine .hands (Runs P (i == 0) S (Left P f kind cs R)) (fun _ _ _ x => x) (hS _ _ _ _ ⟨hd, γ₁, c, _, hji, hjn, hcj, at_send hop (wantE_ok ka (o := ⟨none, .send x y, ty, pos, af, g⟩) hw) hk (ka.eval hx) (ka.eval hy), hn, ho, hp, ?_⟩)
  rw [served_none hop rfl]
  exact Way.sits rfl h1 h2 h3 h4 (hway kind hk cs r hr' a ka)
theorem RY.recvE {X : Proto Γ} {i c B : Nat} {C : Addr -> Option Value} {γ₁ : Γ} {kind : CallKind} {cs : List Frame} {t elem by_ sz : Nat} {z : Value} {x : Operand} {dir : ChanDir} [hu : Und P t (.chan dir elem)] [Inf P elem sz by_ z] (hB : ∀ a, (C a).isSome = true -> a.block < B) (hk : kind ≠ .early) (hw : wantE ops env g = some true)
    (hd : Nat.blt d n = true) (hx : ev env x = some (.chan (some c))) (hn : ∀ γ₂ h₂, X.R i γ₁ γ₂ -> X.Pass i γ₂ h₂ -> ER P main S f n ops l k ((d, tok) :: env) ds h₂ ⟨0, γ₂⟩ R) :
    RY P main c C B (fun g => ∀ γ₂ h₂, X.R i γ₁ γ₂ -> X.Pass i γ₂ h₂ -> Runs P main S (Left P f kind cs R) g h₂ ⟨0, γ₂⟩) f n kind cs ops (⟨some d, .recv t x false, ty, pos, af, g⟩ :: l) k env ds :=
  RY.recv hu.out hB hk hw hd hx fun rest hr a ka γ₂ h₂ hR hP => hn γ₂ h₂ hR hP rest hr a ka kind hk cs
theorem ER.goes {X : Proto Γ} {γ₁ : Γ} {x : Operand} {ats : Array TypeId} {b : FuncId} {cap : Array Value} (hw : wantE ops env g = some true) (hx : ev env x = some (.func (.func b) #[] cap)) (hd : δ.d = 0) (hn : X.num γ₁ = X.num δ.g + 1) (ho : Others X 0 δ.g γ₁)
    (hsit : SitsAt P X (X.num δ.g) γ₁ h (born P { target := .fn (.func b) cap, args := #[] }) (Runs P false (SitT P X (X.num δ.g)) (EndT P X (X.num δ.g))))
    (hnext : ER P true (SitM P X) f n ops l k env ds h ⟨0, γ₁⟩ R) : ER P true (SitM P X) f n ops (⟨none, .go { callee := .value x, args := #[], argTypes := ats }, ty, pos, af, g⟩ :: l) k env ds h δ R := by
  intro rest hr a ka
  obtain ⟨m, r, rfl, hop, hr'⟩ := ER.uncons hr
  intro kind hk cs
  have hrun : ∀ w : World, (execOp a.eval ⟨none, .go { callee := .value x, args := #[], argTypes := ats }, ty, pos, af, g⟩).runT P w #[] = (.ok (.spawn { target := .fn (.func b) cap, args := #[] }) w, #[]) := fun w => by
    show (Deferred.ofValue (a.eval x) (#[].map a.eval) >>= fun d => pure (Next.spawn d) : Sem Next).runT P w #[] = _
    rw [ka.eval hx]
    show (Sem.pure (Next.spawn { target := .fn (.func b) cap, args := #[] ++ (#[] : Array Operand).map a.eval })).runT P w #[] = _
    simp [Sem.runT]
  refine .hands (Runs P true (SitM P X) (Left P f kind cs R)) (fun _ _ _ x => x) (.inr ⟨hd, rfl, γ₁, G ((fb f kind).at a (.inRegion ops r :: k)) cs, _, fun w _ => ?_, hn, ho, hsit, hnext r hr' a ka kind hk cs⟩)
  have hr0 : (execOp a.eval ⟨none, .go { callee := .value x, args := #[], argTypes := ats }, ty, pos, af, g⟩).run P w = .ok (.spawn { target := .fn (.func b) cap, args := #[] }) w := by rw [<- Sem.runT_fst, hrun]
  have := stepG_spawn (P := P) (main := true) (b := fb f kind) (k := k) (cs := cs) (rest := r) (f := .func b) (c := cap) hop (wantE_ok ka (o := ⟨none, .go { callee := .value x, args := #[], argTypes := ats }, ty, pos, af, g⟩) hw) hk hr0 rfl
  rw [this]
  have hl : listed P (fb f kind).fn a ⟨none, .go { callee := .value x, args := #[], argTypes := ats }, ty, pos, af, g⟩ w = #[] := by
    have he := congrArg Prod.snd (hrun w)
    rw [Sem.runT_eq] at he
    unfold listed
    rw [show (execOp a.eval ⟨none, .go { callee := .value x, args := #[], argTypes := ats }, ty, pos, af, g⟩).events P w #[] = #[] from he, seen_none]
  rw [hl]
  rfl
end
theorem quits_end {P : Program} {b1 b2 : FuncId} {fn1 fn2 : Func} [h1 : IsFn P b1 fn1] [h2 : IsFn P b2 fn2] (r1 : fn1.results = #[]) (r2 : fn2.results = #[]) {a a1 : Act} {todo : List Item} {ops : Array Oper} {mode : FrameMode} (hd : a.defers = []) (hd1 : a1.defers = [])
    (hm : mode = .returning \/ ∃ v, mode = .panicking [{ v, recovered := true }]) : QuitsD P 5 0 (G ((fb b2 .deferred).at a [.inRegion ops []]) [{ (fb b1 .deferred).at a1 todo with mode := mode }, rootFr P]) := by
  refine QuitsD.ctl (g' := G ((fb b2 .deferred).at a []) [{ (fb b1 .deferred).at a1 todo with mode := mode }, rootFr P]) rfl (fun _ => stepG_region_end) ?_
  refine QuitsD.ctl (g' := G { (fb b2 .deferred).at a [] with mode := .returning } [{ (fb b1 .deferred).at a1 todo with mode := mode }, rootFr P]) rfl (fun _ => stepG_end) ?_
  refine QuitsD.ctl (g' := G { (fb b1 .deferred).at a1 todo with mode := .returning } [rootFr P]) rfl (fun w => ?_) ?_
  · have hres := results_none r2 a.tmps P w
    have hev := events_results_none (P := P) (w := w) r2 a.tmps #[]
    have hrun : (results fn2 a.tmps).runT P w #[] = (.ok (.tuple #[]) w, #[]) := by rw [Sem.runT_eq, hres, hev]
    simp only [G, stepG, unwind, Frame.at, hd, h2.out, fb, hrun]
    rcases hm with rfl | ⟨v, rfl⟩
    · simp [doReturn, GStep.after, seen_def]
    · simp [doReturn, GStep.after, seen_def]
  refine QuitsD.ctl (g' := G (rootFr P) []) rfl (fun w => ?_) ?_
  · have hres := results_none r1 a1.tmps P w
    have hev := events_results_none (P := P) (w := w) r1 a1.tmps #[]
    have hrun : (results fn1 a1.tmps).runT P w #[] = (.ok (.tuple #[]) w, #[]) := by rw [Sem.runT_eq, hres, hev]
    simp only [G, stepG, unwind, Frame.at, hd1, h1.out, fb, hrun]
    simp [doReturn, GStep.after, seen_def, rootFr, goexitEntry]
  refine QuitsD.ctl (g' := { G (rootFr P) [] with status := .finished }) rfl (fun w => ?_) ⟨rfl, rfl⟩
  have e1 : (default : Frame).defers = [] := rfl
  have e2 : (default : Frame).kind = .normal := rfl
  simp [G, stepG, unwind, rootFr, goexitEntry, Frame.catches, e1, e2]
  rfl
end
section
open Go Go.Conc
variable {Γ : Type}
def one (g : Goroutine) (w : World) : Machine := { world := w, gs := #[g], rest := { timers := #[], alone := none, slice := none } }
theorem HpOk.none {S : Addr -> Prop} {h h' : Hp} (x : HpOk S h h') : HpOk (fun _ => False) h h' := ⟨fun _ _ y => y.elim, x.chan, x.size, x.froz⟩
abbrev I0 : Ix Unit := ⟨0, ()⟩
end
section
open Go Go.Conc
variable {Γ : Type}
theorem grown {S : Addr -> Prop} {w w' : World} (s : Same w w') (p : HpOk S w.heap w'.heap) (u : Upd (fun _ => False) w.heap w'.heap) : Go.RowKit.Grown w w' := by
  refine ⟨⟨s.os, s.output, fun i hi => ?_⟩, fun a => p.froz a, u.size⟩
  have e := u.same i hi (fun x => x)
  rw [e]
  cases w.heap[i]? with
  | none => rfl
  | some o =>
    cases o <;> first | exact ⟨rfl, rfl, rfl, fun _ _ => rfl⟩ | exact .inr ⟨rfl, rfl⟩ | rfl
end
section
open Go Go.Conc
variable {Γ : Type}
section
variable {P : Program} {main : Bool} {S : Sit Γ} {f : FuncId} {n : Nat} {k : List Item} {env : Env} {ds : List Deferred} {h : Hp} {δ : Ix Γ} {R : Post Γ}
variable {ops : Array Oper} {l : List Oper} {d : Nat} {ty : TypeId} {pos : String} {af : Array Edge} {g : Option (Nat × Bool)}
theorem thawed_chan {c s r : Nat} {b : Array Value} {cl tm : Bool} : Thawed (.chan c b cl s r tm) := by intro _ _ _ h; cases h
theorem thawed_map {e : Array MapEntry} {c : Nat} : Thawed (.map e c) := by intro _ _ _ h; cases h
theorem sem_makeChan {t elem sz by_ : Nat} {z : Value} {dir : ChanDir} [hu : Und P t (.chan dir elem)] [i : Inf P elem sz by_ z] {x : Operand} {ρ : Operand -> Value} {dst : Option Nat} {Q : Next -> Hp -> Ix Γ -> Prop} {X : Value -> Hp -> Ix Γ -> Prop}
    (hx : ρ x = .int .i64 0) (hq : Q (.value (.chan (some h.size))) (h.push (.chan 0 #[] false 0 0 false)) δ) : SemW P S (execOp ρ ⟨dst, .makeChan t x, ty, pos, af, g⟩) h δ Q X := by
  show SemW P S (Instr.makeChan t (ρ x) >>= fun v => pure (.value v)) h δ Q X
  rw [hx]
  refine semW_bind _ _ _ _ _ _ ?_
  obtain ⟨inf, h1, _⟩ := i.get
  unfold Instr.makeChan
  refine semW_pureBind (a := (0 : Int)) ?_
  refine semW_underlying hu.out ?_
  refine semW_typeInfo h1 ?_
  rw [if_neg (by simp [IntKind.max, IntKind.signed, IntKind.bits])]
  exact ⟨thawed_chan, hq⟩
theorem ER.makeChan {t elem sz by_ : Nat} {z : Value} {dir : ChanDir} [Und P t (.chan dir elem)] [Inf P elem sz by_ z] {x : Operand} (hw : wantE ops env g = some true) (hd : Nat.blt d n = true) (hx : ev env x = some (.int .i64 0))
    (hn : ER P main S f n ops l k ((d, .chan (some h.size)) :: env) ds (h.push (.chan 0 #[] false 0 0 false)) δ R) : ER P main S f n ops (⟨some d, .makeChan t x, ty, pos, af, g⟩ :: l) k env ds h δ R :=
  ER.to hw hd (fun _ρ _Q _X hρ hq => sem_makeChan (hρ x _ hx) hq) hn
theorem ER.makeMap {t : Nat} (hw : wantE ops env g = some true) (hd : Nat.blt d n = true)
    (hn : ER P main S f n ops l k ((d, .map (some h.size)) :: env) ds (h.push (.map #[] 0)) δ R) : ER P main S f n ops (⟨some d, .makeMap t none, ty, pos, af, g⟩ :: l) k env ds h δ R :=
  ER.to hw hd (fun ρ Q X hρ hq => by
    show SemW P S (Instr.makeMap t none >>= fun v => pure (.value v)) h δ Q X
    exact ⟨thawed_map, hq⟩) hn
variable {Z : Hp -> Prop} {z : Nat} {m : Nat} {listed l' : Array Bool}
def EAi (P : Program) (main : Bool) (S : Sit Γ) (f : FuncId) (n : Nat) (ops : Array Oper) (Z : Hp -> Prop) (z : Nat) (m : Nat) (listed : Array Bool) (k : List Item) (env : Env) (ds : List Deferred) (h : Hp) (δ : Ix Γ) (R : Post Γ) (i : Nat) : Prop :=
  ∀ a, Kn n env ds a -> OpK P main S f R ops i (fun a' h' δ' => (i = z \/ Z h') /\ AnyK P main S f k R ops Z z m (listed.setIfInBounds i true) a' h' δ') a h δ
theorem EA.alts {is : List Nat} (hr : Region.ready .any ops listed = is) (hne : is ≠ []) (hh : ∀ i ∈ is, EAi P main S f n ops Z z m listed k env ds h δ R i) : EA P main S f n ops Z z (m + 1) listed k env ds h δ R := by
  intro a ka
  refine ⟨fun x => absurd (hr.symm.trans x) hne, fun i hi => hh i (hr ▸ hi) a ka⟩
theorem EA.alt2 (i j : Nat) (hr : Region.ready .any ops listed = [i, j]) (h1 : EAi P main S f n ops Z z m listed k env ds h δ R i) (h2 : EAi P main S f n ops Z z m listed k env ds h δ R j) : EA P main S f n ops Z z (m + 1) listed k env ds h δ R :=
  EA.alts hr (by simp) (by simp only [List.mem_cons, List.not_mem_nil, or_false]; rintro x (rfl | rfl) <;> assumption)
theorem EAi.val {i : Nat} {op : Op} {v : Value} {h' : Hp} (hi : ops[i]? = some ⟨some d, op, ty, pos, af, g⟩) (hl : listed.setIfInBounds i true = l') (hd : Nat.blt d n = true) (hw : wantE ops env g = some true)
    (hs : ∀ (ρ : Operand -> Value) (Q : Next -> Hp -> Ix Γ -> Prop) (X : Value -> Hp -> Ix Γ -> Prop), (∀ x v, ev env x = some v -> ρ x = v) -> Q (.value v) h' δ -> SemW P S (execOp ρ ⟨some d, op, ty, pos, af, g⟩) h δ Q X) (hZ : Z h')
    (hn : EA P main S f n ops Z z m l' k ((d, v) :: env) ds h' δ R) : EAi P main S f n ops Z z m listed k env ds h δ R i := by
  subst hl
  intro a ka
  unfold OpK
  simp only [hi]
  rw [if_pos (wantE_ok ka (o := ⟨some d, op, ty, pos, af, g⟩) hw)]
  exact hs a.eval _ _ (fun x v hx => ka.eval hx) ⟨.inr hZ, hn _ (ka.put v hd)⟩
end
section
variable {P : Program} {main : Bool} {S : Sit Γ} {h : Hp} {δ : Ix Γ} {ty : TypeId} {pos : String} {af : Array Edge} {g : Option (Nat × Bool)}
theorem sem_neqV {t t2 : TypeId} {x y : Operand} {u w : Value} {dd : TypeDesc} {r : Bool} {ρ : Operand -> Value} {dst : Option Nat} {Q : Next -> Hp -> Ix Γ -> Prop} {X : Value -> Hp -> Ix Γ -> Prop} [hu : Und P t dd] (hx : ρ x = u) (hy : ρ y = w) (hr : eqRes dd u w = some r) (hq : Q (.value (.bool (!r))) h δ) :
    SemW P S (execOp ρ ⟨dst, .binOp .neq t x y t2, ty, pos, af, g⟩) h δ Q X := by
  refine semW_binOp ?_
  rw [hx, hy]
  have hg : eqGuard .neq t x y u w = pure () := by
    unfold eqRes at hr
    unfold eqGuard
    split at hr <;> first | rfl | (cases hr; done)
  rw [hg]
  have e : binOp .neq t u w = (Op.equal t u w >>= fun b => pure (.bool (!b))) := by
    unfold eqRes at hr
    split at hr <;> first | rfl | (cases hr; done)
  show SemW P S (binOp .neq t u w) h δ _ X
  rw [e]
  exact semW_bind _ _ _ _ _ _ (semW_equal hu.out hr hq)
theorem sem_neqIf {t t2 : TypeId} {x : Operand} {u : Value} {ms : Array (String × TypeId)} {b : Bool} {ρ : Operand -> Value} {dst : Option Nat} {Q : Next -> Hp -> Ix Γ -> Prop} {X : Value -> Hp -> Ix Γ -> Prop} [hu : Und P t (.interface ms)] (hx : ρ x = u) (hy : ρ (.const .nilIface) = .nilIface) (hb : (u = .nilIface /\ b = false) \/ (∃ ti v, u = .iface ti v /\ b = true)) (hq : Q (.value (.bool b)) h δ) :
    SemW P S (execOp ρ ⟨dst, .binOp .neq t x (.const .nilIface) t2, ty, pos, af, g⟩) h δ Q X := by
  refine semW_binOp ?_
  rw [hx, hy]
  have hg : eqGuard .neq t x (.const .nilIface) u .nilIface = pure () := by
    rcases hb with ⟨rfl, _⟩ | ⟨_, _, rfl, _⟩
    · unfold eqGuard
      cases x <;> rfl
    · unfold eqGuard; rfl
  rw [hg]
  have e : binOp .neq t u .nilIface = (Op.equal t u .nilIface >>= fun b => pure (.bool (!b))) := by
    rcases hb with ⟨rfl, _⟩ | ⟨_, _, rfl, _⟩ <;> rfl
  show SemW P S (binOp .neq t u .nilIface) h δ _ X
  rw [e]
  refine semW_bind _ _ _ _ _ _ ?_
  unfold Op.equal Op.maxDepth Op.equalIn
  refine semW_underlying hu.out ?_
  rcases hb with ⟨rfl, rfl⟩ | ⟨_, _, rfl, rfl⟩ <;> exact hq
end
theorem Runs.noS {P : Program} {main : Bool} {S : Sit Γ} {Stop : Goroutine -> Hp -> Ix Γ -> Prop} {g : Goroutine} {h : Hp} {δ : Ix Γ} (hr : Runs P main NoS Stop g h δ) : (∀ a, ¬ S.still δ.g a) -> Runs P main S Stop g h δ := by
  induction hr with
  | stop hs => intro _; exact .stop hs
  | @step g h δ Y _ hst ih =>
    intro hno
    refine .step (fun g' h' δ' => Y g' h' δ' /\ δ'.g = δ.g) (fun g' h' δ' hy => ih g' h' δ' hy.1 (by rw [hy.2]; exact hno)) ⟨hst.1, fun w hw => ?_⟩
    obtain ⟨g', w', es, a, b, c, e, y⟩ := hst.2 w hw
    exact ⟨g', w', es, a, b, c.anti fun l hl => absurd hl (hno l), fun x hx => (e x hx).anti fun l hl => absurd hl (hno l), y, rfl⟩
  | hands _ _ hy _ => exact hy.elim
theorem CallW.noS {P : Program} {main : Bool} {S : Sit Γ} {f : FuncId} {args : Array Value} {h : Hp} {δ : Ix Γ} {R : Post Γ} (hc : CallW P main NoS f args h δ R) (hno : ∀ a, ¬ S.still δ.g a) : CallW P main S f args h δ R :=
  fun kind hk cs => (hc kind hk cs).noS hno
structure Made (h0 h : Hp) (F : Nat -> Option (Nat × Obj)) : Prop where
  upd : Upd (fun _ => False) h0 h
  has : ∀ i b o, F i = some (b, o) -> h0.size <= b /\ h[b]? = some o
  inj : ∀ i j b o o', F i = some (b, o) -> F j = some (b, o') -> i = j
theorem Made.none (h0 : Hp) : Made h0 h0 (fun _ => .none) := ⟨Upd.refl _ _, fun _ _ _ e => (by cases e), fun _ _ _ _ _ e => (by cases e)⟩
theorem Made.push {h0 h : Hp} {F : Nat -> Option (Nat × Obj)} (m : Made h0 h F) (i : Nat) (o : Obj) : Made h0 (h.push o) (ut F i (some (h.size, o))) := by
  have old : ∀ j b o', j ≠ i -> ut F i (some (h.size, o)) j = some (b, o') -> F j = some (b, o') := fun j b o' hj e => by rwa [ut_ne _ _ hj] at e
  have lt : ∀ j b o', F j = some (b, o') -> b < h.size := fun j b o' e => lt_of_get (m.has j b o' e).2
  refine ⟨m.upd.trans (Upd.push h o), fun j b o' e => ?_, fun j q b o1 o2 e1 e2 => ?_⟩
  · by_cases hj : j = i
    · subst hj
      rw [ut_same] at e
      cases e
      exact ⟨m.upd.size, get_push_new h o⟩
    · have e' := old j b o' hj e
      exact ⟨(m.has j b o' e').1, get_push _ (m.has j b o' e').2⟩
  · by_cases hj : j = i <;> by_cases hq : q = i
    · rw [hj, hq]
    · subst hj
      rw [ut_same] at e1
      cases e1
      have := lt q _ _ (old q _ _ hq e2)
      omega
    · subst hq
      rw [ut_same] at e2
      cases e2
      have := lt j _ _ (old j _ _ hj e1)
      omega
    · exact m.inj j q b o1 o2 (old j b o1 hj e1) (old q b o2 hq e2)
theorem EA.sub {P : Program} {main : Bool} {S : Sit Γ} {f : FuncId} {n : Nat} {ops : Array Oper} {Z : Hp -> Prop} {z m : Nat} {listed : Array Bool} {k : List Item} {env e : Env} {ds : List Deferred} {h : Hp} {δ : Ix Γ} {R : Post Γ} (hs : subE e env)
    (hk : EA P main S f n ops Z z m listed k e ds h δ R) : EA P main S f n ops Z z m listed k env ds h δ R := fun a ka => hk a (ka.sub hs)
end
section
open Go Go.Conc
variable {Γ : Type}
abbrev chan0 : Obj := .chan 0 #[] false 0 0 false
def lst (a b c d e : Bool) : Array Bool := #[true, true, true, true, true, true, a, b, c, d, e, false]
def rdy (a b c d e : Bool) : List Nat := (if a then [] else [6]) ++ (if b then [] else [7]) ++ (if a && b && !c then [8] else []) ++ (if c && !d then [9] else []) ++ (if e then [] else [10]) ++ (if a && b && c && d && e then [11] else [])
theorem rdy_ne : ∀ a b c d e : Bool, (c = true -> a = true /\ b = true) -> (d = true -> c = true) -> ¬ (a = true /\ b = true /\ c = true /\ d = true /\ e = true) -> rdy a b c d e ≠ [] := by decide
theorem rdy_all : ∀ a b c d e : Bool, ¬ (a = true /\ b = true /\ c = true /\ d = true /\ e = true) -> ((rdy a b c d e).all fun i => (i == 6 && !a) || (i == 7 && !b) || (i == 8 && a && b && !c) || (i == 9 && c && !d) || (i == 10 && !e)) = true := by decide
theorem rdy_mem (a b c d e : Bool) (h : ¬ (a = true /\ b = true /\ c = true /\ d = true /\ e = true)) (i : Nat) (hi : i ∈ rdy a b c d e) : (i = 6 /\ a = false) \/ (i = 7 /\ b = false) \/ (i = 8 /\ a = true /\ b = true /\ c = false) \/ (i = 9 /\ c = true /\ d = false) \/ (i = 10 /\ e = false) := by
  have := List.all_eq_true.1 (rdy_all a b c d e h) i hi
  simpa [or_assoc, and_assoc] using this
structure InvM (h0 : Hp) (e0 : Nat -> Option Value) (D : Nat -> Nat) (ts ta : TypeId) (cells : Nat -> Nat -> Array Value) (a b c d e : Bool) (env : Env) (h : Hp) (F : Nat -> Option (Nat × Obj)) : Prop where
  made : Made h0 h F
  old : ∀ i v, e0 i = some v -> look env i = some v
  hc : c = true -> a = true /\ b = true
  hd : d = true -> c = true
  a1 : a = true -> ∃ w, F 6 = some (w, chan0) /\ look env (D 6) = some (.chan (some w))
  b1 : b = true -> ∃ s, F 7 = some (s, chan0) /\ look env (D 7) = some (.chan (some s))
  c1 : c = true -> ∃ w s, F 6 = some (w, chan0) /\ F 7 = some (s, chan0) /\ look env (D 8) = some (.agg (cells w s))
  d1 : d = true -> ∃ w s t, F 6 = some (w, chan0) /\ F 7 = some (s, chan0) /\ F 9 = some (t, .cells (cells w s) ts (0, 0)) /\ look env (D 9) = some (.pointer (some ⟨t, 0, none⟩))
  e1 : e = true -> ∃ p, F 10 = some (p, .cells #[.pointer none] ta (0, 0)) /\ look env (D 10) = some (.pointer (some ⟨p, 0, none⟩))
section
variable {P : Program} {main : Bool} {S : Sit Γ} {f : FuncId} {n : Nat} {k : List Item} {ds : List Deferred} {δ : Ix Γ} {R : Post Γ} {ops : Array Oper} {Z : Hp -> Prop} {h0 : Hp} {e0 : Nat -> Option Value} {D : Nat -> Nat}
theorem EA.listed {m : Nat} {l l' : Array Bool} {env : Env} {h : Hp} (hl : l = l') (hk : EA P main S f n ops Z 11 m l' k env ds h δ R) : EA P main S f n ops Z 11 m l k env ds h δ R := hl ▸ hk
theorem EA.chans2 {tc elem sz by_ ts ta sa by2 : Nat} {z : Value} {dir : ChanDir} [Und P tc (.chan dir elem)] [Inf P elem sz by_ z] [Inf P ta sa by2 (.pointer none)] {cells : Nat -> Nat -> Array Value} {bp : Array (Nat × Operand)} {t6 t7 t8 t9 t10 : TypeId} {p6 p7 p8 p9 p10 : String} {f6 f7 f8 f9 f10 : Array Edge}
    (i6 : ops[6]? = some ⟨some (D 6), .makeChan tc (.const (.int .i64 0)), t6, p6, f6, none⟩) (i7 : ops[7]? = some ⟨some (D 7), .makeChan tc (.const (.int .i64 0)), t7, p7, f7, none⟩) (i8 : ops[8]? = some ⟨some (D 8), .build ts bp, t8, p8, f8, none⟩)
    (i9 : ops[9]? = some ⟨some (D 9), .box ts (.tmp (D 8)), t9, p9, f9, none⟩) (i10 : ops[10]? = some ⟨some (D 10), .alloc ta, t10, p10, f10, none⟩) (hr : ∀ a b c d e, Region.ready .any ops (lst a b c d e) = rdy a b c d e)
    (hD : ∀ i j, 6 <= i -> i <= 10 -> 6 <= j -> j <= 10 -> D i = D j -> i = j) (hDn : ∀ i, 6 <= i -> i <= 10 -> Nat.blt (D i) n = true) (he0 : ∀ i, 6 <= i -> i <= 10 -> e0 (D i) = none) (hZ : ∀ h o, Z h -> Z (h.push o))
    (hb : ∀ env w s, (∀ i v, e0 i = some v -> look env i = some v) -> look env (D 6) = some (.chan (some w)) -> look env (D 7) = some (.chan (some s)) ->
      ∀ (ρ : Operand -> Value) (h : Hp) (Q : Next -> Hp -> Ix Γ -> Prop) (X : Value -> Hp -> Ix Γ -> Prop), (∀ x v, ev env x = some v -> ρ x = v) -> Q (.value (.agg (cells w s))) h δ -> SemW P S (execOp ρ ⟨some (D 8), .build ts bp, t8, p8, f8, none⟩) h δ Q X)
    (fin : ∀ env h F, InvM h0 e0 D ts ta cells true true true true true env h F -> Z h -> EA P main S f n ops Z 11 1 (lst true true true true true) k env ds h δ R) :
    ∀ (m : Nat) (a b c d e : Bool) (env : Env) (h : Hp) (F : Nat -> Option (Nat × Obj)), m = (cond a 0 1) + (cond b 0 1) + (cond c 0 1) + (cond d 0 1) + (cond e 0 1) + 1 -> InvM h0 e0 D ts ta cells a b c d e env h F -> Z h -> EA P main S f n ops Z 11 m (lst a b c d e) k env ds h δ R := by
  have ne : ∀ {i j}, i ≠ j -> 6 <= i -> i <= 10 -> 6 <= j -> j <= 10 -> D i ≠ D j := fun {i j} hij a b c d e => hij (hD i j a b c d e)
  have oldp : ∀ {env : Env} {i v}, 6 <= i -> i <= 10 -> (∀ j x, e0 j = some x -> look env j = some x) -> ∀ j x, e0 j = some x -> look ((D i, v) :: env) j = some x := fun {env i v} h1 h2 ho j x hx => by
    rw [look_cons, if_neg]
    · exact ho j x hx
    · rintro rfl
      rw [he0 i h1 h2] at hx; cases hx
  have lk : ∀ {env : Env} {i j : Nat} {v x : Value}, i ≠ j -> 6 <= i -> i <= 10 -> 6 <= j -> j <= 10 -> look env (D j) = some x -> look ((D i, v) :: env) (D j) = some x := fun {env i j v x} hij a b c d hx => by
    rw [look_cons, if_neg (ne hij a b c d)]; exact hx
  have lks : ∀ {env : Env} {i : Nat} {v : Value}, look ((D i, v) :: env) (D i) = some v := fun {env i v} => by rw [look_cons, if_pos rfl]
  have un : ∀ {F : Nat -> Option (Nat × Obj)} {i j x y}, i ≠ j -> F j = y -> ut F i x j = y := fun {F i j x y} hij hy => by rw [ut_ne _ _ (Ne.symm hij)]; exact hy
  intro m
  induction m with
  | zero => intro a b c d e env h F hm; omega
  | succ m ih =>
    intro a b c d e env h F hm I hz
    by_cases hall : a = true /\ b = true /\ c = true /\ d = true /\ e = true
    · obtain ⟨rfl, rfl, rfl, rfl, rfl⟩ := hall
      obtain rfl : m = 0 := by simpa using hm
      exact fin env h F I hz
    · refine EA.alts (hr a b c d e) (rdy_ne a b c d e I.hc I.hd hall) fun i hi => ?_
      rcases rdy_mem a b c d e hall i hi with ⟨rfl, rfl⟩ | ⟨rfl, rfl⟩ | ⟨rfl, rfl, rfl, rfl⟩ | ⟨rfl, rfl, rfl⟩ | ⟨rfl, rfl⟩
      · have hcf : c = false := by cases c with | false => rfl | true => exact absurd (I.hc rfl).1 (by simp)
        have hdf : d = false := by cases d with | false => rfl | true => exact absurd (I.hd rfl) (by simp [hcf])
        subst hcf hdf
        refine EAi.val (l' := lst true b false false e) i6 rfl (hDn 6 (by omega) (by omega)) rfl (fun ρ Q X hρ hq => sem_makeChan (hρ _ _ rfl) hq) (hZ _ _ hz) (ih true b false false e _ _ (ut F 6 (some (h.size, chan0))) (by simp at hm ⊢; omega) ?_ (hZ _ _ hz))
        exact ⟨I.made.push 6 _, oldp (by omega) (by omega) I.old, fun x => (by cases x), fun x => (by cases x), fun _ => ⟨_, ut_same _ _ _, lks⟩, fun x => (I.b1 x).imp fun s y => ⟨un (by omega) y.1, lk (by omega) (by omega) (by omega) (by omega) (by omega) y.2⟩, fun x => (by cases x), fun x => (by cases x), fun x => (I.e1 x).imp fun s y => ⟨un (by omega) y.1, lk (by omega) (by omega) (by omega) (by omega) (by omega) y.2⟩⟩
      · have hcf : c = false := by cases c with | false => rfl | true => exact absurd (I.hc rfl).2 (by simp)
        have hdf : d = false := by cases d with | false => rfl | true => exact absurd (I.hd rfl) (by simp [hcf])
        subst hcf hdf
        refine EAi.val (l' := lst a true false false e) i7 rfl (hDn 7 (by omega) (by omega)) rfl (fun ρ Q X hρ hq => sem_makeChan (hρ _ _ rfl) hq) (hZ _ _ hz) (ih a true false false e _ _ (ut F 7 (some (h.size, chan0))) (by simp at hm ⊢; omega) ?_ (hZ _ _ hz))
        exact ⟨I.made.push 7 _, oldp (by omega) (by omega) I.old, fun x => (by cases x), fun x => (by cases x), fun x => (I.a1 x).imp fun s y => ⟨un (by omega) y.1, lk (by omega) (by omega) (by omega) (by omega) (by omega) y.2⟩, fun _ => ⟨_, ut_same _ _ _, lks⟩, fun x => (by cases x), fun x => (by cases x), fun x => (I.e1 x).imp fun s y => ⟨un (by omega) y.1, lk (by omega) (by omega) (by omega) (by omega) (by omega) y.2⟩⟩
      · have hdf : d = false := by cases d with | false => rfl | true => exact absurd (I.hd rfl) (by simp)
        subst hdf
        obtain ⟨w, w1, w2⟩ := I.a1 rfl
        obtain ⟨s, s1, s2⟩ := I.b1 rfl
        refine EAi.val (l' := lst true true true false e) i8 rfl (hDn 8 (by omega) (by omega)) rfl (fun ρ Q X hρ hq => hb env w s I.old w2 s2 ρ h Q X hρ hq) hz (ih true true true false e _ _ F (by simp at hm ⊢; omega) ?_ hz)
        exact ⟨I.made, oldp (by omega) (by omega) I.old, fun _ => ⟨rfl, rfl⟩, fun x => (by cases x), fun _ => ⟨w, w1, lk (by omega) (by omega) (by omega) (by omega) (by omega) w2⟩, fun _ => ⟨s, s1, lk (by omega) (by omega) (by omega) (by omega) (by omega) s2⟩, fun _ => ⟨w, s, w1, s1, lks⟩, fun x => (by cases x), fun x => (I.e1 x).imp fun s y => ⟨y.1, lk (by omega) (by omega) (by omega) (by omega) (by omega) y.2⟩⟩
      · obtain ⟨ha, hb'⟩ := I.hc rfl
        subst ha hb'
        obtain ⟨w, s, w1, s1, c2⟩ := I.c1 rfl
        refine EAi.val (v := .pointer (some ⟨h.size, 0, none⟩)) (h' := h.push (.cells (cells w s) ts)) (l' := lst true true true true e) i9 rfl (hDn 9 (by omega) (by omega)) rfl (fun ρ Q X hρ hq => ?_) (hZ _ _ hz) (ih true true true true e _ _ (ut F 9 (some (h.size, .cells (cells w s) ts (0, 0)))) (by simp at hm ⊢; omega) ?_ (hZ _ _ hz))
        · show SemW P S (Instr.box ts (ρ (.tmp (D 8))) >>= fun v => pure (.value v)) h δ Q X
          rw [hρ (.tmp (D 8)) _ c2]
          exact ⟨thawed, hq⟩
        · obtain ⟨w', w3, w4⟩ := I.a1 rfl
          obtain ⟨s', s3, s4⟩ := I.b1 rfl
          exact ⟨I.made.push 9 _, oldp (by omega) (by omega) I.old, fun _ => ⟨rfl, rfl⟩, fun _ => rfl, fun _ => ⟨w', un (by omega) w3, lk (by omega) (by omega) (by omega) (by omega) (by omega) w4⟩, fun _ => ⟨s', un (by omega) s3, lk (by omega) (by omega) (by omega) (by omega) (by omega) s4⟩,
            fun _ => ⟨w, s, un (by omega) w1, un (by omega) s1, lk (by omega) (by omega) (by omega) (by omega) (by omega) c2⟩, fun _ => ⟨w, s, _, un (by omega) w1, un (by omega) s1, ut_same _ _ _, lks⟩, fun x => (I.e1 x).imp fun s y => ⟨un (by omega) y.1, lk (by omega) (by omega) (by omega) (by omega) (by omega) y.2⟩⟩
      · refine EAi.val (l' := lst a b c d true) i10 rfl (hDn 10 (by omega) (by omega)) rfl (fun ρ Q X hρ hq => sem_alloc hq) (hZ _ _ hz) (ih a b c d true _ _ (ut F 10 (some (h.size, .cells #[.pointer none] ta (0, 0)))) (by simp at hm ⊢; omega) ?_ (hZ _ _ hz))
        exact ⟨I.made.push 10 _, oldp (by omega) (by omega) I.old, I.hc, I.hd, fun x => (I.a1 x).imp fun s y => ⟨un (by omega) y.1, lk (by omega) (by omega) (by omega) (by omega) (by omega) y.2⟩, fun x => (I.b1 x).imp fun s y => ⟨un (by omega) y.1, lk (by omega) (by omega) (by omega) (by omega) (by omega) y.2⟩,
          fun x => (I.c1 x).imp fun w y => y.imp fun s z => ⟨un (by omega) z.1, un (by omega) z.2.1, lk (by omega) (by omega) (by omega) (by omega) (by omega) z.2.2⟩, fun x => (I.d1 x).imp fun w y => y.imp fun s z => z.imp fun t q => ⟨un (by omega) q.1, un (by omega) q.2.1, un (by omega) q.2.2.1, lk (by omega) (by omega) (by omega) (by omega) (by omega) q.2.2.2⟩, fun _ => ⟨_, ut_same _ _ _, lks⟩⟩
end
end
section
open Go Go.Conc
variable {Γ : Type}
section
variable {P : Program} {main : Bool} {S : Sit Γ} {f : FuncId} {n : Nat} {k : List Item} {env : Env} {ds : List Deferred} {h : Hp} {δ : Ix Γ} {R : Post Γ}
theorem reads_cell {fn : Func} {tmps : Array Value} {t : Tmp} {cT m : Nat} [Aggr P cT m] {b off : Nat} {vs : List Value} (hr : fn.results = #[.cell t cT]) (ht : tmps.getD t undef = .pointer (some ⟨b, off, none⟩)) (hm : vs.length = m) (hc : hrow h b off vs) :
    Reads P fn tmps h (.agg vs.toArray) := by
  intro w hw
  subst hw
  obtain ⟨es', h1, h2⟩ := runT_loadVarN (P := P) (t := cT) hm hc #[]
  refine ⟨es', ?_, h2⟩
  have e1 : Sem.run P (loadVar cT ⟨b, off, none⟩) w = .ok (.agg vs.toArray) w := by simpa using congrArg Prod.fst h1
  have e2 : Sem.events P (loadVar cT ⟨b, off, none⟩) w #[] = es' := by simpa using congrArg Prod.snd h1
  have ha : asAddr (.pointer (some ⟨b, off, none⟩)) = pure ⟨b, off, none⟩ := rfl
  have ht' : tmps[t]?.getD undef = .pointer (some ⟨b, off, none⟩) := by rw [<- ht, Array.getD_eq_getD_getElem?]
  simp [results, hr, ht', ha, e1, e2]
theorem EU.retCell1 {fn : Func} {t : Tmp} {cT m : Nat} [Aggr P cT m] {b off : Nat} {vs : List Value} [hf : IsFn P f fn] (hr : fn.results = #[.cell t cT]) (ht : look env t = some (.pointer (some ⟨b, off, none⟩))) (hm : vs.length = m) (hc : hrow h b off vs)
    (hR : R (.ret (.agg vs.toArray)) h δ) : EU P main S f n .returning env [] h δ R :=
  fun _ ka => WU.ret0 ka.defers hf.out (reads_cell hr (getD_of_look ka ht) hm hc) hR
end
theorem row_set {h : Hp} {b e : Nat} {fz : Nat × Nat} {c vs : List Value} (hb : h[b]? = some (.cells c.toArray e fz)) (hl : c.length = vs.length) : hsetRow h b 0 vs = h.setIfInBounds b (.cells vs.toArray e fz) := by
  rw [hsetRow_block vs 0 h c hb (by omega)]
  congr 3
  simp [<- hl]
theorem ER.gen {P : Program} {main : Bool} {S : Sit Γ} {f : FuncId} {n : Nat} {ops : Array Oper} {l : List Oper} {k : List Item} {env : Env} {ds : List Deferred} {h : Hp} {δ : Ix Γ} {R : Post Γ} (F : Hp -> Prop) (hF : F h) (hn : ∀ h', F h' -> ER P main S f n ops l k env ds h' δ R) : ER P main S f n ops l k env ds h δ R := hn h hF
theorem EK.gen {P : Program} {main : Bool} {S : Sit Γ} {f : FuncId} {n : Nat} {k : List Item} {env : Env} {ds : List Deferred} {h : Hp} {δ : Ix Γ} {R : Post Γ} (F : Hp -> Prop) (hF : F h) (hn : ∀ h', F h' -> EK P main S f n k env ds h' δ R) : EK P main S f n k env ds h δ R := hn h hF
theorem push2 (h : Hp) (a b : Obj) : Upd (fun _ => False) h ((h.push a).push b) /\ ((h.push a).push b).size = h.size + 2 /\ ((h.push a).push b)[h.size]? = some a /\ ((h.push a).push b)[h.size + 1]? = some b := by
  refine ⟨(Upd.push _ _).trans (Upd.push _ _), by simp, get_push _ (get_push_new _ _), ?_⟩
  have := get_push_new (h.push a) b
  rw [Array.size_push] at this
  exact this
theorem push3 (h : Hp) (a b c : Obj) : Upd (fun _ => False) h (((h.push a).push b).push c) /\ (((h.push a).push b).push c).size = h.size + 3 /\ (((h.push a).push b).push c)[h.size]? = some a /\ (((h.push a).push b).push c)[h.size + 1]? = some b /\ (((h.push a).push b).push c)[h.size + 2]? = some c := by
  obtain ⟨u, s, g0, g1⟩ := push2 h a b
  refine ⟨u.trans (Upd.push _ _), by simp, get_push _ g0, get_push _ g1, ?_⟩
  have := get_push_new ((h.push a).push b) c
  rw [s] at this
  exact this
theorem push5 (h : Hp) (a b c d e : Obj) : Upd (fun _ => False) h (((((h.push a).push b).push c).push d).push e) /\ (((((h.push a).push b).push c).push d).push e).size = h.size + 5 /\ (((((h.push a).push b).push c).push d).push e)[h.size]? = some a /\ (((((h.push a).push b).push c).push d).push e)[h.size + 1]? = some b /\
    (((((h.push a).push b).push c).push d).push e)[h.size + 2]? = some c /\ (((((h.push a).push b).push c).push d).push e)[h.size + 3]? = some d /\ (((((h.push a).push b).push c).push d).push e)[h.size + 4]? = some e := by
  obtain ⟨u, s, g0, g1, g2⟩ := push3 h a b c
  obtain ⟨u', s', g3, g4⟩ := push2 (((h.push a).push b).push c) d e
  rw [s] at g3 g4 s'
  exact ⟨u.trans u', by rw [s'], u'.get g0 (fun x => x), u'.get g1 (fun x => x), u'.get g2 (fun x => x), g3, g4⟩
end
section
open Go Go.Conc
variable {Γ : Type}
section
variable {P : Program} {main : Bool} {S : Sit Γ} {f : FuncId} {n : Nat} {k : List Item} {env : Env} {ds : List Deferred} {h : Hp} {δ : Ix Γ} {R : Post Γ}
variable {ops : Array Oper} {l : List Oper} {d : Nat} {ty : TypeId} {pos : String} {af : Array Edge} {g : Option (Nat × Bool)} {Z : Hp -> Prop} {zz : Nat} {m : Nat} {listed l' : Array Bool}
end
end
end Go.TJ
namespace Go.Proofs.Ytidfmmaehgijaaa
section
open Go Go.TJ Go.Proofs
abbrev ptr (b : Nat) : Value := .pointer (some ⟨b, 0, none⟩)
abbrev nilS : Value := .slice none 0 0
instance : Mixed Try.prog := ⟨by kernel_rfl⟩
end
end Go.Proofs.Ytidfmmaehgijaaa
namespace Go.TJ
section
open Go Go.Conc
variable {Γ : Type}
theorem EK.regionAnyM {P : Program} {main : Bool} {S : Sit Γ} {f : FuncId} {n : Nat} {k : List Item} {env : Env} {ds : List Deferred} {h : Hp} {δ : Ix Γ} {R : Post Γ} [hm : Mixed P] {id : Nat} {ops : Array Oper} {σ : Type} (E : σ -> Env) (I : σ -> Hp -> Ix Γ -> Prop) (Z : Hp -> Prop) (z : Nat)
    (h1 : (∀ s h' δ', I s h' δ' -> EK P main S f n k (E s) ds h' δ' R) -> EA P main S f n ops Z z ops.size (Array.replicate ops.size false) k env ds h δ R) (h2 : ∀ s h' δ', I s h' δ' -> EK P main S f n k (E s) ds h' δ' R) : EK P main S f n (.code (.region id ops true) :: k) env ds h δ R := EK.regionAnyL Z z (h1 h2)
theorem EAi.callD {P : Program} {main : Bool} {S : Sit Γ} {f : FuncId} {n : Nat} {k : List Item} {env : Env} {ds : List Deferred} {h : Hp} {δ : Ix Γ} {R : Post Γ} {ops : Array Oper} {Z : Hp -> Prop} {z m : Nat} {listed l' : Array Bool} {d : Nat} {ty : TypeId} {pos : String} {af : Array Edge} {g : Option (Nat × Bool)} {i : Nat} {x : Operand} {args : Array Operand} {ats : Array TypeId} {c : FuncId} {cap ws : Array Value} {vs : List Value} [HasBody P c] {v : Value} {h' : Hp} {δ' : Ix Γ}
    (hi : ops[i]? = some ⟨some d, .call { callee := .value x, args, argTypes := ats }, ty, pos, af, g⟩) (hl : listed.setIfInBounds i true = l') (hd : Nat.blt d n = true) (hw : wantE ops env g = some true) (hx : ev env x = some (.func (.func c) #[] cap)) (ha : evL env args.toList = some vs) (hws : vs.toArray ++ cap = ws)
    (hc : CallW P main S c ws h δ (Ret (Det v h' δ'))) (hZ : Z h') (hn : EA P main S f n ops Z z m l' k ((d, v) :: env) ds h' δ' R) : EAi P main S f n ops Z z m listed k env ds h δ R i := by
  subst hl
  intro a ka
  unfold OpK
  simp only [hi]
  rw [if_pos (wantE_ok ka (o := ⟨some d, .call { callee := .value x, args, argTypes := ats }, ty, pos, af, g⟩) hw)]
  subst hws
  refine semW_call rfl (ka.eval hx) (map_ofL (fun x v hx => ka.eval hx) ha) (hc.mono ?_)
  rintro (v' | p) h'' δ'' hq
  · obtain ⟨rfl, rfl, rfl⟩ := hq
    exact ⟨.inr hZ, hn _ (ka.put _ hd)⟩
  · exact hq.elim
end
section
open Go Go.Conc
variable {Γ : Type}
def Keyed (es : Array MapEntry) (l : List (Addr × Value)) : Prop := es.toList.map (fun e => (e.key, e.val)) = l.map (fun p => (Value.pointer (some p.1), p.2))
theorem Keyed.nil : Keyed #[] [] := rfl
theorem Keyed.push {es : Array MapEntry} {l : List (Addr × Value)} (hk : Keyed es l) (a : Addr) (v : Value) (c : Nat) : Keyed (es.push { key := .pointer (some a), val := v, born := c }) (l ++ [(a, v)]) := by
  unfold Keyed at *
  simp [hk]
def pfind (a : Addr) : List (Addr × Value) -> Nat -> Option (Nat × Value)
  | [], _ => none
  | p :: l, i => if a = p.1 then some (i, p.2) else pfind a l (i + 1)
section
variable {P : Program} {S : Sit Γ} {h : Hp} {δ : Ix Γ}
def Plain (h : Hp) (b : Nat) : Prop := ∃ c t, h[b]? = some (.cells c t (0, 0))
theorem Plain.froz {b : Nat} (x : Plain h b) (o : Nat) (s : Option Nat) : hfroz h ⟨b, o, s⟩ = false := by
  obtain ⟨c, t, hc⟩ := x
  simp [hfroz, hc]
theorem semW_sameAddr {a b : Addr} (ha : Plain h a.block) (hb : Plain h b.block) {Q : Bool -> Hp -> Ix Γ -> Prop} {X : Value -> Hp -> Ix Γ -> Prop} (hq : Q (decide (a = b)) h δ) : SemW P S (sameAddr a b) h δ Q X := by
  unfold sameAddr
  by_cases e : a.block = b.block
  · rw [if_pos (by simpa using e)]
    have : (a == b) = decide (a = b) := by by_cases x : a = b <;> simp [x]
    show Q (a == b) h δ
    rw [this]; exact hq
  · rw [if_neg (by simpa using e)]
    have e' : a ≠ b := fun x => e (by rw [x])
    rw [show decide (a = b) = false by simp [e']] at hq
    obtain ⟨c1, t1, h1⟩ := ha
    obtain ⟨c2, t2, h2⟩ := hb
    have f1 : ∀ o s, hfroz h ⟨a.block, o, s⟩ = false := fun o s => by simp [hfroz, h1]
    have f2 : ∀ o s, hfroz h ⟨b.block, o, s⟩ = false := fun o s => by simp [hfroz, h2]
    have g1 : hfroz h a = false := f1 a.off a.spot
    have g2 : hfroz h b = false := f2 b.off b.spot
    have s1 : hshape h a.block = some (t1, c1.size) := by simp [hshape, h1]
    have s2 : hshape h b.block = some (t2, c2.size) := by simp [hshape, h2]
    simp only [noView, viewAt, mayBeOne, stringish, frozen, shape, Bind.bind, Sem.bind, Pure.pure, SemW, g1, g2, s1, s2, f1, f2, Option.isSome_some, if_true, Bool.false_and, Bool.and_false, Bool.or_false, Bool.false_eq_true, if_false, Option.isSome_none]
    exact hq
theorem semW_findAsking {kt el sz by_ : Nat} {z : Value} (hu : P.underlying kt = some (.pointer el)) (i : Inf P el sz by_ z) (hsz : sz ≠ 0) {a : Addr} (ha : Plain h a.block) {Q : Option (Nat × Value) -> Hp -> Ix Γ -> Prop} {X : Value -> Hp -> Ix Γ -> Prop} :
    ∀ (l : List (Addr × Value)) (es : List MapEntry) (i : Nat), (∀ p ∈ l, Plain h p.1.block) -> es.map (fun e => (e.key, e.val)) = l.map (fun p => (Value.pointer (some p.1), p.2)) -> Q (pfind a l i) h δ -> SemW P S (Instr.findAsking kt (.pointer (some a)) es i) h δ Q X
  | [], [], _, _, _, hq => hq
  | [], _ :: _, _, _, hl, _ => by cases hl
  | _ :: _, [], _, _, hl, _ => by cases hl
  | p :: l, e :: es, j, hp, hl, hq => by
    injection hl with h1 h2
    injection h1 with h3 h4
    unfold Instr.findAsking
    refine semW_bind _ _ _ _ _ _ ?_
    rw [h3]
    unfold Op.equal Op.maxDepth Op.equalIn
    refine semW_underlying hu ?_
    obtain ⟨inf, i1, i2, _, _⟩ := i.get
    dsimp only
    refine semW_sizeOf i1 ?_
    rw [i2, if_pos hsz]
    refine semW_sameAddr ha (hp p (by simp)) ?_
    unfold pfind at hq
    by_cases e : a = p.1
    · rw [if_pos e] at hq
      rw [if_pos (by simp [e])]
      rw [h4]
      exact hq
    · rw [if_neg e] at hq
      rw [if_neg (by simpa using e)]
      exact semW_findAsking hu i hsz ha l es (j + 1) (fun q hq => hp q (by simp [hq])) h2 hq
theorem semW_findKey {kt el sz by_ : Nat} {z : Value} (hu : P.underlying kt = some (.pointer el)) (i : Inf P el sz by_ z) (hsz : sz ≠ 0) {a : Addr} (ha : Plain h a.block) {es : Array MapEntry} {l : List (Addr × Value)} (hp : ∀ p ∈ l, Plain h p.1.block) (hk : Keyed es l) {Q : Option (Nat × Value) -> Hp -> Ix Γ -> Prop} {X : Value -> Hp -> Ix Γ -> Prop}
    (hq : Q (pfind a l 0) h δ) : SemW P S (Instr.findKey kt (.pointer (some a)) es.toList) h δ Q X := by
  unfold Instr.findKey
  refine semW_underlying hu ?_
  have hl := hk
  unfold Keyed at hl
  cases e : es.toList with
  | nil =>
    rw [e] at hl
    cases l with
    | nil => exact hq
    | cons _ _ => cases hl
  | cons x xs =>
    rw [<- e]
    have : Instr.findNow (.pointer el) (.pointer (some a)) es.toList 0 = none := by
      rw [e]; unfold Instr.findNow; unfold Instr.sameNow; rfl
    rw [this]
    exact semW_findAsking hu i hsz ha l _ 0 hp hk hq
theorem semW_checkKey {kt el : TypeId} (hu : P.underlying kt = some (.pointer el)) {b : Bool} {v : Value} {Q : Unit -> Hp -> Ix Γ -> Prop} {X : Value -> Hp -> Ix Γ -> Prop} (hq : Q () h δ) : SemW P S (Instr.checkKey b 10000 kt v) h δ Q X := by
  show SemW P S (Instr.checkKey b (9999 + 1) kt v) h δ Q X
  unfold Instr.checkKey
  refine semW_underlying hu ?_
  exact hq
theorem semW_lookup {t kt et el s2 b2 : Nat} {z2 : Value} (ht : P.underlying t = some (.map kt et)) (hu : P.underlying kt = some (.pointer el)) (i2 : Inf P el s2 b2 z2) (hsz : s2 ≠ 0) {sz by_ : Nat} {z : Value} [i : Inf P et sz by_ z] {r c : Nat} {es : Array MapEntry} {l : List (Addr × Value)} {a : Addr}
    (hr : h[r]? = some (.map es c)) (ha : Plain h a.block) (hp : ∀ p ∈ l, Plain h p.1.block) (hk : Keyed es l) {Q : Value -> Hp -> Ix Γ -> Prop} {X : Value -> Hp -> Ix Γ -> Prop}
    (hq : Q (match pfind a l 0 with | some p => .tuple #[p.2, .bool true] | none => .tuple #[z, .bool false]) h δ) : SemW P S (Instr.lookup t (.map (some r)) (.pointer (some a)) true) h δ Q X := by
  unfold Instr.lookup
  refine semW_underlying ht ?_
  refine ⟨_, hr, nofun, ?_⟩
  refine semW_pureBind (a := Obj.map es c) ?_
  refine semW_pureBind (a := es) ?_
  refine semW_bind _ _ _ _ _ _ (semW_checkKey hu ?_)
  refine semW_bind _ _ _ _ _ _ (semW_findKey hu i2 hsz ha hp hk ?_)
  obtain ⟨inf, h1, _, _, h4⟩ := i.get
  cases e : pfind a l 0 with
  | some p => rw [e] at hq; exact hq
  | none =>
    rw [e] at hq
    refine semW_zeroValue h1 h4 ?_
    exact hq
theorem semW_mapNew {t kt et el s2 b2 : Nat} {z2 : Value} (ht : P.underlying t = some (.map kt et)) (hu : P.underlying kt = some (.pointer el)) (i2 : Inf P el s2 b2 z2) (hsz : s2 ≠ 0) {r c : Nat} {es : Array MapEntry} {l : List (Addr × Value)} {a : Addr} {v : Value}
    (hr : h[r]? = some (.map es c)) (ha : Plain h a.block) (hp : ∀ p ∈ l, Plain h p.1.block) (hk : Keyed es l) (hf : pfind a l 0 = none) {Q : Unit -> Hp -> Ix Γ -> Prop} {X : Value -> Hp -> Ix Γ -> Prop}
    (hq : Q () (h.setIfInBounds r (.map (es.push { key := .pointer (some a), val := v, born := c }) (c + 1))) δ) : SemW P S (Instr.mapUpdate t (.map (some r)) (.pointer (some a)) v) h δ Q X := by
  unfold Instr.mapUpdate
  refine semW_underlying ht ?_
  refine ⟨_, hr, nofun, ?_⟩
  refine semW_pureBind (a := Obj.map es c) ?_
  refine semW_bind _ _ _ _ _ _ (semW_checkKey hu ?_)
  refine semW_bind _ _ _ _ _ _ (semW_findKey hu i2 hsz ha hp hk ?_)
  rw [hf]
  exact ⟨rfl, nofun, ⟨_, hr, nofun, rfl⟩, hq⟩
end
section
variable {P : Program} {main : Bool} {S : Sit Γ} {f : FuncId} {n : Nat} {k : List Item} {env : Env} {ds : List Deferred} {h : Hp} {δ : Ix Γ} {R : Post Γ}
variable {ops : Array Oper} {l : List Oper} {d : Nat} {ty : TypeId} {pos : String} {af : Array Edge} {g : Option (Nat × Bool)}
theorem ER.lookupOk {t kt et el sz by_ s2 b2 : Nat} {z z2 : Value} [ht : Und P t (.map kt et)] [hu : Und P kt (.pointer el)] [i2 : Inf P el s2 b2 z2] [Inf P et sz by_ z] {x y : Operand} {r c : Nat} {es : Array MapEntry} {ls : List (Addr × Value)} {a : Addr} {v : Value}
    (hw : wantE ops env g = some true) (hd : Nat.blt d n = true) (hx : ev env x = some (.map (some r))) (hy : ev env y = some (.pointer (some a))) (hsz : s2 ≠ 0) (hr : h[r]? = some (.map es c)) (ha : Plain h a.block) (hp : ∀ p ∈ ls, Plain h p.1.block) (hk : Keyed es ls)
    (hv : (match pfind a ls 0 with | some p => .tuple #[p.2, .bool true] | none => .tuple #[z, .bool false]) = v)
    (hn : ER P main S f n ops l k ((d, v) :: env) ds h δ R) : ER P main S f n ops (⟨some d, .lookup t x y true, ty, pos, af, g⟩ :: l) k env ds h δ R :=
  ER.to hw hd (fun ρ Q X hρ hq => by
    show SemW P S (Instr.lookup t (ρ x) (ρ y) true >>= fun v => pure (.value v)) h δ Q X
    rw [hρ x _ hx, hρ y _ hy]
    exact semW_bind _ _ _ _ _ _ (semW_lookup ht.out hu.out i2 hsz hr ha hp hk (by rw [hv]; exact hq))) hn
theorem ER.mapNew {t kt et el s2 b2 : Nat} {z2 : Value} [ht : Und P t (.map kt et)] [hu : Und P kt (.pointer el)] [i2 : Inf P el s2 b2 z2] {x y q : Operand} {r c : Nat} {es : Array MapEntry} {ls : List (Addr × Value)} {a : Addr} {v : Value}
    (hw : wantE ops env g = some true) (hx : ev env x = some (.map (some r))) (hy : ev env y = some (.pointer (some a))) (hq : ev env q = some v) (hsz : s2 ≠ 0) (hr : h[r]? = some (.map es c)) (ha : Plain h a.block) (hp : ∀ p ∈ ls, Plain h p.1.block) (hk : Keyed es ls) (hf : pfind a ls 0 = none)
    (hn : ER P main S f n ops l k env ds (h.setIfInBounds r (.map (es.push { key := .pointer (some a), val := v, born := c }) (c + 1))) δ R) : ER P main S f n ops (⟨none, .mapUpdate t x y q, ty, pos, af, g⟩ :: l) k env ds h δ R :=
  ER.toU hw (fun ρ Q X hρ hq' => by
    show SemW P S (Instr.mapUpdate t (ρ x) (ρ y) (ρ q) >>= fun _ => pure .skip) h δ Q X
    rw [hρ x _ hx, hρ y _ hy, hρ q _ hq]
    exact semW_bind _ _ _ _ _ _ (semW_mapNew ht.out hu.out i2 hsz hr ha hp hk hf hq')) hn
theorem ER.lenMap {t kt et : TypeId} [ht : Und P t (.map kt et)] {x : Operand} {r c : Nat} {es : Array MapEntry} {v : Nat} (hw : wantE ops env g = some true) (hd : Nat.blt d n = true) (hx : ev env x = some (.map (some r))) (hr : h[r]? = some (.map es c)) (hv : es.size = v)
    (hn : ER P main S f n ops l k ((d, .int .i64 v) :: env) ds h δ R) : ER P main S f n ops (⟨some d, .call { callee := .builtin .len, args := #[x], argTypes := #[t] }, ty, pos, af, g⟩ :: l) k env ds h δ R :=
  ER.to hw hd (fun ρ Q X hρ hq => sem_builtin (vs := #[.map (some r)]) (by simp [hρ x _ hx]) fun cs => by
    show SemW P S (Builtin.len_ #[t] ty #[.map (some r)] >>= fun v => pure (Next.value v)) h δ Q X
    refine semW_bind _ _ _ _ _ _ ?_
    unfold Builtin.len_
    refine semW_underlying ht.out ?_
    refine ⟨_, hr, nofun, ?_⟩
    rw [<- hv] at hq
    exact hq) hn
theorem ER.mkIface {t : TypeId} {x : Operand} {v : Value} {dd : TypeDesc} (hu : P.underlying t = some dd) (hw : wantE ops env g = some true) (hd : Nat.blt d n = true) (hx : ev env x = some v) (hne : ∀ ms, dd ≠ .interface ms)
    (hn : ER P main S f n ops l k ((d, .iface t v) :: env) ds h δ R) : ER P main S f n ops (⟨some d, .makeInterface t x, ty, pos, af, g⟩ :: l) k env ds h δ R :=
  ER.to hw hd (fun ρ Q X hρ hq => by
    show SemW P S (Instr.makeInterface t (ρ x) >>= fun v => pure (.value v)) h δ Q X
    rw [hρ x _ hx]
    refine semW_bind _ _ _ _ _ _ ?_
    unfold Instr.makeInterface
    refine semW_underlying hu ?_
    cases dd <;> first | exact hq | exact absurd rfl (hne _)) hn
theorem ER.panics {fn : Func} [hf : IsFn P f fn] {x : Operand} {t : TypeId} {v : Value} (hw : wantE ops env g = some true) (hx : ev env x = some (.iface t v)) (hR : R (.pan [{ v := .iface t v, recovered := false }]) h δ) :
    ER P main S f n ops (⟨none, .panic x, ty, pos, af, g⟩ :: l) k env [] h δ R :=
  ER.unit (Q := fun _ _ => False) hw (fun ρ hρ => by
    show SemW P S (Instr.panic (ρ x) >>= fun v => pure (Next.value v)) h δ _ _
    rw [hρ x _ hx]
    exact EU.pan0 hR) (fun _ _ hq => hq.elim)
end
end
end Go.TJ
namespace Go.Proofs.Ytidfmmaehgijaaa
section
open Go Go.TJ Go.Conc Go.Proofs
structure Ev where
  thr : Nat
  op : Int
  b : Nat
  arg : Int
  new : Int
  was : Int
  now : Int
  ok : Bool
structure Rq where
  op : Int
  b : Nat
  arg : Int
  new : Int
inductive Ph where
  | born
  | stands (r : Rq)
  | over
def behind (op was arg new : Int) : Int × Bool :=
  if op = 2 \/ op = 5 then (arg, false) else if op = 3 then (if was = arg then (new, true) else (was, false)) else if op = 4 then (IntKind.i64.wrap (was + arg), false) else (was, false)
def evOf (i : Nat) (r : Rq) (was : Int) : Ev := ⟨i, r.op, r.b, r.arg, r.new, was, (behind r.op was r.arg r.new).1, (behind r.op was r.arg r.new).2⟩
def nums (l : List Ev) : List Nat := l.foldl (fun a e => if e.b ∈ a then a else a ++ [e.b]) []
theorem nums_snoc (l : List Ev) (e : Ev) : nums (l ++ [e]) = if e.b ∈ nums l then nums l else nums l ++ [e.b] := by
  unfold nums; rw [List.foldl_append]; rfl
structure PS (U : Type) where
  R : Nat
  mb : Nat
  num : Nat
  fl : Nat
  tb : Nat -> Nat
  wk : Nat -> Nat
  sd : Nat -> Nat
  bx : Nat -> Nat
  bf : Nat -> Nat
  br : Nat -> Nat
  fn : Nat -> Value
  st : Nat -> Ph
  gone : Nat -> Bool
  prv : Nat -> List (Nat × Obj)
  log : List Ev
  went : List Nat
  rdy : List Nat
  val : Nat -> Int
  stops : Bool
  u : U
def ownOf (i : Nat) (l : List Ev) : List Ev := l.filter (fun e => e.thr == i)
def PS.acc {U : Type} (p : PS U) (i : Nat) : PS U :=
  match p.st i with
  | .stands r => { p with log := p.log ++ [evOf i r (p.val r.b)], val := ut p.val r.b (behind r.op (p.val r.b) r.arg r.new).1 }
  | _ => p
def PS.turn {U : Type} (p : PS U) (i : Nat) (u : U) (L : List (Nat × Obj)) (s : Ph) (e : Bool) : PS U := { p.acc i with u := u, prv := ut (p.acc i).prv i L, st := ut (p.acc i).st i s, gone := ut (p.acc i).gone i e }
structure Us where
  U : Type
  isC : Nat -> Prop
  Dom : U -> Nat -> Prop
  I : U -> Hp -> Prop
  J : List Ev -> U -> (Nat -> Int) -> Prop
  V : Nat -> U -> U -> Prop
  Q : Nat -> List Ev -> Ph -> U -> Prop
structure Us.Ok (X : Us) : Prop where
  vrefl : ∀ i u, X.V i u u
  vtrans : ∀ i a b c, X.V i a b -> X.V i b c -> X.V i a c
  loc : ∀ u h h', (∀ b, X.Dom u b -> h'[b]? = h[b]?) -> X.I u h -> X.I u h'
  stab : ∀ i l s u u', X.V i u u' -> X.Q i l s u -> X.Q i l s u'
  dis : ∀ u b, X.Dom u b -> ¬ X.isC b
structure RqOk (X : Us) (r : Rq) : Prop where
  cell : X.isC r.b
  op1 : 1 <= r.op
  op2 : r.op <= 5
  arg : r.op = 1 -> r.arg = 0
  new : r.op ≠ 3 -> r.new = 0
theorem mem_same {K : Type} [DecidableEq K] (M : Mem K) (k : K) (o : Obj) : (M.set k o).O k = o := ut_same _ _ _
inductive Nm where
  | run | map | thr | log | went | rdy | fell
  | t (i : Nat) | wk (i : Nat) | sd (i : Nat) | bx (i : Nat) | bf (i : Nat) | br (i : Nat)
  deriving DecidableEq
structure Sls where
  T : Value
  L : Value
  W : Value
  Y : Value
  F : Value
def accL (t o c a n w x : Int) (k : Bool) : List Value := [.int .i64 t, .int .i8 o, .int .i64 c, .int .i64 a, .int .i64 n, .int .i64 w, .int .i64 x, .bool k]
def entL (ns : List Nat) (e : Ev) : List Value := accL e.thr e.op (ns.idxOf e.b) e.arg e.new e.was e.now e.ok
def rqL (i : Nat) (r : Rq) : List Value := accL i r.op (-1) r.arg r.new 0 0 false
def thrO (R i wk sd : Nat) (v : Value) (a : List Value) (e : Bool) : Obj := .cells (ptr R :: .int .i64 i :: .chan (some wk) :: .chan (some sd) :: v :: (a ++ [.bool e])).toArray 144 (0, 0)
def runO (s : Sls) (mb : Nat) (x : Bool) : Obj := .cells #[s.T, .map (some mb), s.L, s.W, s.Y, s.F, .bool x] 136 (0, 0)
def AtOk (i : Nat) : Ph -> Value -> List Value -> Prop
  | .born, v, a => v = .pointer none /\ a = accL 0 0 0 0 0 0 0 false
  | .stands r, v, a => v = ptr r.b /\ a = rqL i r
  | .over, v, a => (∃ x, v = .pointer x) /\ ∃ t o c b n w x k, a = accL t o c b n w x k
def OpenC (o : Obj) : Prop := ∃ k, o = .chan 0 #[] false k k false
def keysFrom : List Nat -> Nat -> List (Addr × Value)
  | [], _ => []
  | b :: l, i => (⟨b, 0, none⟩, .int .i64 i) :: keysFrom l (i + 1)
theorem keysFrom_snoc (b : Nat) : ∀ (l : List Nat) (i : Nat), keysFrom (l ++ [b]) i = keysFrom l i ++ [(⟨b, 0, none⟩, .int .i64 ((i + l.length : Nat) : Int))]
  | [], i => rfl
  | x :: l, i => by
    simp only [List.cons_append, keysFrom, keysFrom_snoc b l (i + 1), List.length_cons]
    rw [show i + 1 + l.length = i + (l.length + 1) by omega]
theorem keysFrom_mem : ∀ (l : List Nat) (i : Nat) (q : Addr × Value), q ∈ keysFrom l i -> q.1.block ∈ l
  | [], _, _, h => by cases h
  | x :: l, i, q, h => by
    rcases List.mem_cons.1 h with rfl | h
    · simp
    · exact List.mem_cons_of_mem _ (keysFrom_mem l _ q h)
theorem pfind_keys (b : Nat) : ∀ (l : List Nat) (i : Nat), pfind ⟨b, 0, none⟩ (keysFrom l i) i = if b ∈ l then some (i + l.idxOf b, .int .i64 ((i + l.idxOf b : Nat) : Int)) else none
  | [], i => by simp [keysFrom, pfind]
  | x :: l, i => by
    simp only [keysFrom, pfind]
    by_cases e : b = x
    · subst e; simp
    · have e1 : ¬ (⟨b, 0, none⟩ : Addr) = ⟨x, 0, none⟩ := fun y => e (by injection y)
      rw [if_neg e1, pfind_keys b l (i + 1)]
      have e2 : (x == b) = false := by simpa using Ne.symm e
      by_cases m : b ∈ l
      · rw [if_pos m, if_pos (List.mem_cons_of_mem _ m), List.idxOf_cons, e2]
        simp only [cond_false]
        rw [show i + 1 + l.idxOf b = i + (l.idxOf b + 1) by omega]
      · rw [if_neg m, if_neg (by simp [e, m])]
section
variable {U : Type}
def NmOk (p : PS U) (ns : List Nat) (s : Sls) (M : Mem Nm) : Nm -> Prop
  | .run => M.ok .run /\ M.B .run = p.R /\ M.O .run = runO s p.mb p.stops
  | .map => M.ok .map /\ M.B .map = p.mb /\ ∃ es c, M.O .map = .map es c /\ Keyed es (keysFrom ns 0)
  | .thr => M.Sl .thr s.T 30 1 p.num ((List.range p.num).map fun i => ptr (p.tb i))
  | .log => M.Sl .log s.L 142 8 p.log.length (p.log.flatMap (entL ns))
  | .went => M.Sl .went s.W 3 1 p.went.length (p.went.map fun (n : Nat) => Value.int .i64 (n : Int))
  | .rdy => M.Sl .rdy s.Y 3 1 p.rdy.length (p.rdy.map fun (n : Nat) => Value.int .i64 (n : Int))
  | .fell => M.Sl .fell s.F 4 1 p.fl (List.replicate p.fl (.bool false))
  | .t i => i < p.num -> M.ok (.t i) /\ M.B (.t i) = p.tb i /\ ∃ v a, AtOk i (p.st i) v a /\ M.O (.t i) = thrO p.R i (p.wk i) (p.sd i) v a (p.gone i)
  | .wk i => i < p.num -> M.ok (.wk i) /\ M.B (.wk i) = p.wk i /\ OpenC (M.O (.wk i))
  | .sd i => i < p.num -> M.ok (.sd i) /\ M.B (.sd i) = p.sd i /\ OpenC (M.O (.sd i))
  | .bx i => i < p.num -> M.ok (.bx i) /\ M.B (.bx i) = p.bx i /\ M.O (.bx i) = .cells #[ptr (p.tb i)] 30 (0, 0)
  | .bf i => i < p.num -> M.ok (.bf i) /\ M.B (.bf i) = p.bf i /\ M.O (.bf i) = .cells #[p.fn i] 35 (0, 0)
  | .br i => i < p.num -> M.ok (.br i) /\ M.B (.br i) = p.br i /\ M.O (.br i) = .cells #[ptr p.R] 132 (0, 0)
variable {p : PS U} {ns : List Nat} {s : Sls} {M : Mem Nm}
theorem NmOk.set {k k' : Nm} {o : Obj} (x : NmOk p ns s M k') (hk : k' ≠ k) : NmOk p ns s (M.set k o) k' := by
  have e : (M.set k o).O k' = M.O k' := ut_ne _ _ hk
  cases k' with
  | run => exact ⟨x.1, x.2.1, e.trans x.2.2⟩
  | map => obtain ⟨x1, x2, es, c, x3, x4⟩ := x; exact ⟨x1, x2, es, c, e.trans x3, x4⟩
  | thr => exact Mem.Sl.set x hk o
  | log => exact Mem.Sl.set x hk o
  | went => exact Mem.Sl.set x hk o
  | rdy => exact Mem.Sl.set x hk o
  | fell => exact Mem.Sl.set x hk o
  | t i => intro hi; obtain ⟨x1, x2, v, a, x3, x4⟩ := x hi; exact ⟨x1, x2, v, a, x3, e.trans x4⟩
  | wk i => intro hi; obtain ⟨x1, x2, q, x3⟩ := x hi; exact ⟨x1, x2, q, e.trans x3⟩
  | sd i => intro hi; obtain ⟨x1, x2, q, x3⟩ := x hi; exact ⟨x1, x2, q, e.trans x3⟩
  | bx i => intro hi; obtain ⟨x1, x2, x3⟩ := x hi; exact ⟨x1, x2, e.trans x3⟩
  | bf i => intro hi; obtain ⟨x1, x2, x3⟩ := x hi; exact ⟨x1, x2, e.trans x3⟩
  | br i => intro hi; obtain ⟨x1, x2, x3⟩ := x hi; exact ⟨x1, x2, e.trans x3⟩
theorem NmOk.put {k k' : Nm} {b : Nat} {o : Obj} (x : NmOk p ns s M k') (hk : k' ≠ k) : NmOk p ns s (M.put k b o) k' := by
  have e : (M.put k b o).O k' = M.O k' := ut_ne _ _ hk
  have eB : (M.put k b o).B k' = M.B k' := ut_ne _ _ hk
  have ek : M.ok k' -> (M.put k b o).ok k' := .inr
  cases k' with
  | run => exact ⟨ek x.1, eB.trans x.2.1, e.trans x.2.2⟩
  | map => obtain ⟨x1, x2, es, c, x3, x4⟩ := x; exact ⟨ek x1, eB.trans x2, es, c, e.trans x3, x4⟩
  | thr => exact Mem.Sl.put x hk b o
  | log => exact Mem.Sl.put x hk b o
  | went => exact Mem.Sl.put x hk b o
  | rdy => exact Mem.Sl.put x hk b o
  | fell => exact Mem.Sl.put x hk b o
  | t i => intro hi; obtain ⟨x1, x2, v, a, x3, x4⟩ := x hi; exact ⟨ek x1, eB.trans x2, v, a, x3, e.trans x4⟩
  | wk i => intro hi; obtain ⟨x1, x2, q, x3⟩ := x hi; exact ⟨ek x1, eB.trans x2, q, e.trans x3⟩
  | sd i => intro hi; obtain ⟨x1, x2, q, x3⟩ := x hi; exact ⟨ek x1, eB.trans x2, q, e.trans x3⟩
  | bx i => intro hi; obtain ⟨x1, x2, x3⟩ := x hi; exact ⟨ek x1, eB.trans x2, e.trans x3⟩
  | bf i => intro hi; obtain ⟨x1, x2, x3⟩ := x hi; exact ⟨ek x1, eB.trans x2, e.trans x3⟩
  | br i => intro hi; obtain ⟨x1, x2, x3⟩ := x hi; exact ⟨ek x1, eB.trans x2, e.trans x3⟩
end
structure GI (X : Us) (W : Nat -> Prop) (p : PS X.U) (ns : List Nat) (s : Sls) (M : Mem Nm) (h : Hp) : Prop where
  rep : Rep h M
  all : ∀ k, NmOk p ns s M k
  wide : ∀ k, M.ok k -> W (M.B k)
  cel : ∀ b, X.isC b -> h[b]? = some (cellO (p.val b)) /\ W b
  apart : ∀ k, M.ok k -> ¬ X.isC (M.B k) /\ ¬ X.Dom p.u (M.B k)
  dom : ∀ b, X.Dom p.u b -> b < h.size /\ W b
  num : ∀ b, b ∈ ns -> X.isC b
  isin : ∀ e, e ∈ p.log -> e.b ∈ ns
  prv : ∀ i, i < p.num -> ∀ q, q ∈ p.prv i -> h[q.1]? = some q.2 /\ W q.1 /\ (∀ k, M.ok k -> M.B k ≠ q.1) /\ ¬ X.isC q.1 /\ ¬ X.Dom p.u q.1
  cross : ∀ i j, i < p.num -> j < p.num -> i ≠ j -> ∀ q q', q ∈ p.prv i -> q' ∈ p.prv j -> q.1 ≠ q'.1
section
variable {X : Us} {W : Nat -> Prop} {p p' : PS X.U} {ns ns' : List Nat} {s s' : Sls} {M : Mem Nm} {h h' : Hp}
theorem GI.lt (g : GI X W p ns s M h) {k : Nm} (hk : M.ok k) : M.B k < h.size := g.rep.lt hk
theorem GI.ne (g : GI X W p ns s M h) {k k' : Nm} (hk : M.ok k) (hk' : M.ok k') (hne : k ≠ k') : M.B k ≠ M.B k' := fun e => hne (g.rep.inj k k' hk hk' e)
theorem GI.set (g : GI X W p ns s M h) {k : Nm} (hk : M.ok k) (o : Obj) (hv : p'.val = p.val) (hu : p'.u = p.u) (hp : p'.prv = p.prv) (hn : p'.num = p.num) (h1 : ∀ k', k' ≠ k -> NmOk p ns s (M.set k o) k' -> NmOk p' ns' s' (M.set k o) k') (h2 : NmOk p' ns' s' (M.set k o) k)
    (h3 : ∀ b, b ∈ ns' -> X.isC b) (h4 : ∀ e, e ∈ p'.log -> e.b ∈ ns') : GI X W p' ns' s' (M.set k o) (h.setIfInBounds (M.B k) o) := by
  refine ⟨g.rep.set hk o, fun k' => ?_, g.wide, fun b hb => ?_, fun k' hk' => ?_, fun b hb => ?_, h3, h4, fun i hi q hq => ?_, ?_⟩
  · by_cases e : k' = k
    · rw [e]; exact h2
    · exact h1 k' e ((g.all k').set e)
  · rw [get_set_ne _ (fun e : M.B k = b => (g.apart k hk).1 (by rw [e]; exact hb)), hv]
    exact g.cel b hb
  · rw [hu]; exact g.apart k' hk'
  · rw [hu] at hb; rw [Array.size_setIfInBounds]; exact g.dom b hb
  · rw [hn] at hi; rw [hp] at hq
    obtain ⟨x1, x2, x3, x4, x5⟩ := g.prv i hi q hq
    exact ⟨by rw [get_set_ne _ (x3 k hk)]; exact x1, x2, x3, x4, by rw [hu]; exact x5⟩
  · rw [hn, hp]; exact g.cross
theorem GI.upd0 (g : GI X W p ns s M h) (u : Upd (fun _ => False) h h') : GI X W p ns s M h' :=
  ⟨g.rep.upd0 u, g.all, g.wide, fun b hb => ⟨u.get (g.cel b hb).1 (fun x => x), (g.cel b hb).2⟩, g.apart, fun b hb => ⟨Nat.lt_of_lt_of_le (g.dom b hb).1 u.size, (g.dom b hb).2⟩, g.num, g.isin,
    fun i hi q hq => by obtain ⟨x1, x2⟩ := g.prv i hi q hq; exact ⟨u.get x1 (fun x => x), x2⟩, g.cross⟩
theorem GI.user (g : GI X W p ns s M h) {i : Nat} (hi : i < p.num) {u' : X.U} {L' : List (Nat × Obj)} (u : Upd (fun b => X.Dom p.u b \/ ∃ q, q ∈ p.prv i /\ q.1 = b) h h') (h1 : ∀ b, X.Dom u' b -> (X.Dom p.u b \/ (h.size <= b /\ W b)) /\ b < h'.size)
    (h2 : ∀ q, q ∈ L' -> h'[q.1]? = some q.2 /\ ((∃ q0, q0 ∈ p.prv i /\ q0.1 = q.1) \/ (h.size <= q.1 /\ W q.1)) /\ ¬ X.Dom u' q.1) (hd : X.Ok) : GI X W { p with u := u', prv := ut p.prv i L' } ns s M h' := by
  have nK : ∀ k, M.ok k -> ¬ (X.Dom p.u (M.B k) \/ ∃ q, q ∈ p.prv i /\ q.1 = M.B k) := fun k hk x => x.elim (g.apart k hk).2 fun ⟨q, hq, e⟩ => (g.prv i hi q hq).2.2.1 k hk e.symm
  have nC : ∀ b, X.isC b -> ¬ (X.Dom p.u b \/ ∃ q, q ∈ p.prv i /\ q.1 = b) := fun b hb x => x.elim (fun y => hd.dis _ _ y hb) fun ⟨q, hq, e⟩ => (g.prv i hi q hq).2.2.2.1 (e ▸ hb)
  have nD : ∀ b, b < h.size -> ¬ X.Dom p.u b -> ¬ X.Dom u' b := fun b hb hn x => by
    rcases (h1 b x).1 with y | y
    · exact hn y
    · omega
  refine ⟨g.rep.upd u nK, g.all, g.wide, fun b hb => ⟨u.get (g.cel b hb).1 (nC b hb), (g.cel b hb).2⟩, fun k hk => ⟨(g.apart k hk).1, nD _ (g.lt hk) (g.apart k hk).2⟩, fun b hb => ⟨(h1 b hb).2, ?_⟩, g.num, g.isin, fun j hj q hq => ?_, fun j j' hj hj' hne q q' hq hq' => ?_⟩
  · rcases (h1 _ hb).1 with y | y
    · exact (g.dom b y).2
    · exact y.2
  · change q ∈ ut p.prv i L' j at hq
    by_cases e : j = i
    · subst e
      rw [ut_same] at hq
      obtain ⟨x1, x2, x3⟩ := h2 q hq
      have hlt : (∃ q0, q0 ∈ p.prv j /\ q0.1 = q.1) \/ h.size <= q.1 := x2.imp id (·.1)
      rcases x2 with ⟨q0, hq0, e0⟩ | ⟨x2, x2'⟩
      · obtain ⟨y1, y2, y3, y4, y5⟩ := g.prv j hj q0 hq0
        rw [e0] at y2 y3 y4
        exact ⟨x1, y2, y3, y4, x3⟩
      · exact ⟨x1, x2', fun k hk e => by have := g.lt hk; omega, fun hc => by have := lt_of_get (g.cel _ hc).1; omega, x3⟩
    · rw [ut_ne _ _ e] at hq
      obtain ⟨y1, y2, y3, y4, y5⟩ := g.prv j hj q hq
      exact ⟨u.get y1 (fun x => x.elim y5 fun ⟨q0, hq0, e0⟩ => g.cross i j hi hj (Ne.symm e) q0 q hq0 hq e0), y2, y3, y4, nD _ (lt_of_get y1) y5⟩
  · have key : ∀ (j' : Nat) (q q' : Nat × Obj), j' < p.num -> i ≠ j' -> q ∈ L' -> q' ∈ p.prv j' -> q.1 ≠ q'.1 := fun j' q q' hj' hne hq hq' e => by
      have hlt := lt_of_get (g.prv j' hj' q' hq').1
      rcases (h2 q hq).2.1 with ⟨q0, hq0, e0⟩ | ⟨x2, _⟩
      · exact g.cross i j' hi hj' hne q0 q' hq0 hq' (e0.trans e)
      · omega
    change q ∈ ut p.prv i L' j at hq
    change q' ∈ ut p.prv i L' j' at hq'
    by_cases e : j = i <;> by_cases e' : j' = i
    · omega
    · subst e
      rw [ut_same] at hq; rw [ut_ne _ _ e'] at hq'
      exact key j' q q' hj' hne hq hq'
    · subst e'
      rw [ut_same] at hq'; rw [ut_ne _ _ e] at hq
      exact fun e => key j q' q hj (Ne.symm hne) hq' hq e.symm
    · rw [ut_ne _ _ e] at hq; rw [ut_ne _ _ e'] at hq'
      exact g.cross j j' hj hj' hne q q' hq hq'
theorem GI.cell (g : GI X W p ns s M h) {b : Nat} (hb : X.isC b) (x : Int) : GI X W { p with val := ut p.val b x } ns s M (h.setIfInBounds b (cellO x)) := by
  refine ⟨g.rep.upd (Upd.set (T := fun y => y = b) h b (cellO x) rfl) (fun k hk e => (g.apart k hk).1 (e ▸ hb)), g.all, g.wide, fun c hc => ?_, g.apart, fun c hc => ?_, g.num, g.isin, fun i hi q hq => ?_, g.cross⟩
  · by_cases e : c = b
    · subst e
      refine ⟨?_, (g.cel _ hc).2⟩
      show _ = some (cellO (ut p.val c x c))
      rw [ut_same]
      exact get_set_same (g.cel c hc).1
    · show _ = some (cellO (ut p.val b x c)) /\ _
      rw [ut_ne _ _ e, get_set_ne _ (Ne.symm e)]
      exact g.cel c hc
  · rw [Array.size_setIfInBounds]; exact g.dom c hc
  · obtain ⟨y1, y2, y3, y4, y5⟩ := g.prv i hi q hq
    exact ⟨by rw [get_set_ne _ (fun e : b = q.1 => y4 (by rw [<- e]; exact hb))]; exact y1, y2, y3, y4, y5⟩
theorem GI.monoW (g : GI X W p ns s M h) {W' : Nat -> Prop} (hw : ∀ b, W b -> W' b) : GI X W' p ns s M h :=
  ⟨g.rep, g.all, fun k hk => hw _ (g.wide k hk), fun b hb => ⟨(g.cel b hb).1, hw _ (g.cel b hb).2⟩, g.apart, fun b hb => ⟨(g.dom b hb).1, hw _ (g.dom b hb).2⟩, g.num, g.isin, fun i hi q hq => ⟨(g.prv i hi q hq).1, hw _ (g.prv i hi q hq).2.1, (g.prv i hi q hq).2.2⟩, g.cross⟩
theorem GI.runAt (g : GI X W p ns s M h) : h[p.R]? = some (runO s p.mb p.stops) := by
  obtain ⟨x1, x2, x3⟩ := g.all .run
  rw [<- x2, <- x3]; exact g.rep.has _ x1
theorem GI.thrAt (g : GI X W p ns s M h) {i : Nat} (hi : i < p.num) : ∃ v a, AtOk i (p.st i) v a /\ h[p.tb i]? = some (thrO p.R i (p.wk i) (p.sd i) v a (p.gone i)) := by
  obtain ⟨x1, x2, v, a, x3, x4⟩ := g.all (.t i) hi
  exact ⟨v, a, x3, by rw [<- x2, <- x4]; exact g.rep.has _ x1⟩
theorem GI.wkAt (g : GI X W p ns s M h) {i : Nat} (hi : i < p.num) : ∃ k, h[p.wk i]? = some (.chan 0 #[] false k k false) := by
  obtain ⟨x1, x2, k, x3⟩ := g.all (.wk i) hi
  exact ⟨k, by rw [<- x2, <- x3]; exact g.rep.has _ x1⟩
theorem GI.sdAt (g : GI X W p ns s M h) {i : Nat} (hi : i < p.num) : ∃ k, h[p.sd i]? = some (.chan 0 #[] false k k false) := by
  obtain ⟨x1, x2, k, x3⟩ := g.all (.sd i) hi
  exact ⟨k, by rw [<- x2, <- x3]; exact g.rep.has _ x1⟩
theorem GI.bxAt (g : GI X W p ns s M h) {i : Nat} (hi : i < p.num) : h[p.bx i]? = some (.cells #[ptr (p.tb i)] 30 (0, 0)) := by
  obtain ⟨x1, x2, x3⟩ := g.all (.bx i) hi
  rw [<- x2, <- x3]; exact g.rep.has _ x1
theorem GI.bfAt (g : GI X W p ns s M h) {i : Nat} (hi : i < p.num) : h[p.bf i]? = some (.cells #[p.fn i] 35 (0, 0)) := by
  obtain ⟨x1, x2, x3⟩ := g.all (.bf i) hi
  rw [<- x2, <- x3]; exact g.rep.has _ x1
theorem GI.brAt (g : GI X W p ns s M h) {i : Nat} (hi : i < p.num) : h[p.br i]? = some (.cells #[ptr p.R] 132 (0, 0)) := by
  obtain ⟨x1, x2, x3⟩ := g.all (.br i) hi
  rw [<- x2, <- x3]; exact g.rep.has _ x1
theorem GI.chan (g : GI X W p ns s M h) {i : Nat} (hi : i < p.num) {c : Nat} (hc : c = p.wk i \/ c = p.sd i) {k : Nat} : ∃ M', GI X W p ns s M' (h.setIfInBounds c (.chan 0 #[] false k k false)) := by
  rcases hc with rfl | rfl
  · obtain ⟨x1, x2, x3⟩ := g.all (.wk i) hi
    rw [<- x2]
    exact ⟨_, g.set x1 _ rfl rfl rfl rfl (fun _ _ x => x) (fun _ => ⟨x1, x2, k, ut_same _ _ _⟩) g.num g.isin⟩
  · obtain ⟨x1, x2, x3⟩ := g.all (.sd i) hi
    rw [<- x2]
    exact ⟨_, g.set x1 _ rfl rfl rfl rfl (fun _ _ x => x) (fun _ => ⟨x1, x2, k, ut_same _ _ _⟩) g.num g.isin⟩
end
end
section
open Go Go.TJ Go.Conc Go.Proofs
section
variable {X : Us} {W : Nat -> Prop} {p p' : PS X.U} {ns : List Nat} {s : Sls} {M : Mem Nm} {h h' : Hp}
theorem GI.row (g : GI X W p ns s M h) {i : Nat} (hi : i < p.num) {t : Ph} {v : Value} {a : List Value} (ha : AtOk i t v a) (e : Bool) :
    GI X W { p with st := ut p.st i t, gone := ut p.gone i e } ns s (M.set (.t i) (thrO p.R i (p.wk i) (p.sd i) v a e)) (h.setIfInBounds (p.tb i) (thrO p.R i (p.wk i) (p.sd i) v a e)) := by
  obtain ⟨x1, x2, x3⟩ := g.all (.t i) hi
  rw [<- x2]
  refine g.set x1 _ rfl rfl rfl rfl (fun k' hk x => ?_) (fun _ => ⟨x1, x2, v, a, ?_, ?_⟩) g.num g.isin
  · cases k' with
    | t j =>
      intro hj
      have hji : j ≠ i := fun e => hk (by rw [e])
      obtain ⟨y1, y2, w, c, y3, y4⟩ := x hj
      refine ⟨y1, y2, w, c, ?_, ?_⟩
      · show AtOk j (ut p.st i t j) w c
        rw [ut_ne _ _ hji]; exact y3
      · show _ = thrO p.R j (p.wk j) (p.sd j) w c (ut p.gone i e j)
        rw [ut_ne _ _ hji]; exact y4
    | _ => exact x
  · show AtOk i (ut p.st i t i) v a
    rw [ut_same]; exact ha
  · show (M.set (.t i) _).O (.t i) = thrO p.R i (p.wk i) (p.sd i) v a (ut p.gone i e i)
    rw [ut_same]; exact ut_same _ _ _
theorem idxOf_app {b : Nat} : ∀ {l : List Nat}, b ∈ l -> ∀ l', (l ++ l').idxOf b = l.idxOf b
  | [], h, _ => by cases h
  | x :: l, h, l' => by
    rw [List.cons_append, List.idxOf_cons, List.idxOf_cons]
    by_cases e : (x == b) = true
    · rw [e]; rfl
    · have e' : (x == b) = false := by simpa using e
      rw [e']
      simp only [cond_false]
      rw [idxOf_app ((List.mem_cons.1 h).resolve_left (fun y => by subst y; simp at e')) l']
theorem entL_more {ns : List Nat} {e : Ev} (he : e.b ∈ ns) (l : List Nat) : entL (ns ++ l) e = entL ns e := by
  unfold entL
  rw [idxOf_app he]
theorem flat_more {ns : List Nat} {l : List Ev} (hl : ∀ e, e ∈ l -> e.b ∈ ns) (l' : List Nat) : l.flatMap (entL (ns ++ l')) = l.flatMap (entL ns) := by
  induction l with
  | nil => rfl
  | cons e l ih =>
    simp only [List.flatMap_cons]
    rw [entL_more (hl e (by simp)), ih (fun x hx => hl x (by simp [hx]))]
theorem GI.mapNew (g : GI X W p ns s M h) {b : Nat} (hb : X.isC b) {es : Array MapEntry} {c : Nat} (_hM : M.O .map = .map es c) (hk : Keyed es (keysFrom ns 0)) :
    GI X W p (ns ++ [b]) s (M.set .map (.map (es.push { key := .pointer (some ⟨b, 0, none⟩), val := .int .i64 (ns.length : Int), born := c }) (c + 1))) (h.setIfInBounds p.mb (.map (es.push { key := .pointer (some ⟨b, 0, none⟩), val := .int .i64 (ns.length : Int), born := c }) (c + 1))) := by
  obtain ⟨x1, x2, x3⟩ := g.all .map
  rw [<- x2]
  refine g.set x1 _ rfl rfl rfl rfl (fun k' hk' x => ?_) ⟨x1, x2, es.push { key := .pointer (some ⟨b, 0, none⟩), val := .int .i64 (ns.length : Int), born := c }, c + 1, mem_same _ _ _, ?_⟩ (fun b' hb' => ?_) (fun e he => List.mem_append_left _ (g.isin e he))
  · cases k' with
    | map => exact absurd rfl hk'
    | log =>
      show (M.set _ _).Sl .log s.L _ 8 p.log.length (p.log.flatMap (entL (ns ++ [b])))
      rw [flat_more g.isin]; exact x
    | _ => exact x
  · rw [keysFrom_snoc]
    have := hk.push ⟨b, 0, none⟩ (.int .i64 (ns.length : Int)) c
    rw [Nat.zero_add]
    exact this
  · rcases List.mem_append.1 hb' with y | y
    · exact g.num b' y
    · rw [List.mem_singleton.1 y]; exact hb
theorem GI.app (g : GI X W p ns s M h) (k : Nm) {sv s' : Value} {e sz n : Nat} {cells new : List Value} {sl : Sls} (x : M.Sl k sv e sz n cells) (hs : SliceO h' s' e sz (n + 1) (cells ++ new)) (u : Upd (fun b => blk sv = some b) h h') (hb : ∀ b, blk s' = some b -> blk sv = some b \/ b = h.size) (hW : ∀ b, h.size <= b -> W b) (hkr : k ≠ .run)
    (hv : p'.val = p.val) (hu : p'.u = p.u) (hpn : ∀ i, i < p'.num -> ∀ q, q ∈ p'.prv i -> i < p.num /\ q ∈ p.prv i) (hR : p'.R = p.R) (hm : p'.mb = p.mb) (hst : p'.stops = p.stops)
    (h1 : ∀ k', k' ≠ k -> k' ≠ .run -> NmOk p' ns sl M k') (h2 : ∀ N : Mem Nm, N.Sl k s' e sz (n + 1) (cells ++ new) -> NmOk p' ns sl N k) (h4 : ∀ e, e ∈ p'.log -> e.b ∈ ns) :
    ∃ M', GI X W p' ns sl M' (h'.setIfInBounds p.R (runO sl p.mb p.stops)) := by
  obtain ⟨b, o, r', xs, hb', hlt⟩ := g.rep.app x hs u hb
  have nT : ∀ c, c < h.size -> (∀ k', M.ok k' -> M.B k' ≠ c) -> h'[c]? = h[c]? := fun c hc hne => u.2 c hc (fun y => by
    obtain ⟨z1, z2⟩ := x.blk y
    exact hne k z1 z2.symm)
  have nb : ∀ c, c < h.size -> (∀ k', M.ok k' -> M.B k' ≠ c) -> c ≠ b := fun c hc hne e => by
    subst e
    rcases hb' with ⟨y1, y2⟩ | y
    · exact hne k y1 y2.symm
    · omega
  have apC : ∀ c, X.isC c -> c < h.size /\ ∀ k', M.ok k' -> M.B k' ≠ c := fun c hc => ⟨lt_of_get (g.cel c hc).1, fun k' hk' e => (g.apart k' hk').1 (e ▸ hc)⟩
  have apD : ∀ c, X.Dom p.u c -> c < h.size /\ ∀ k', M.ok k' -> M.B k' ≠ c := fun c hc => ⟨(g.dom c hc).1, fun k' hk' e => (g.apart k' hk').2 (e ▸ hc)⟩
  have wb : W b := hb'.elim (fun y => by rw [y.2]; exact g.wide k y.1) (hW b)
  have g1 : ∀ k', k' ≠ k -> k' ≠ .run -> NmOk p' ns sl (M.put k b o) k' := fun k' hk hk' => (h1 k' hk hk').put hk
  obtain ⟨x1, x2, x3⟩ := g.all .run
  have okr : (M.put k b o).ok .run := .inr x1
  have eBr : (M.put k b o).B .run = p.R := (ut_ne M.B b (Ne.symm hkr)).trans x2
  refine ⟨(M.put k b o).set .run (runO sl p.mb p.stops), ?_⟩
  have rr := r'.set (k := .run) okr (runO sl p.mb p.stops)
  rw [eBr] at rr
  have nR : ∀ c, c < h.size -> (∀ k', M.ok k' -> M.B k' ≠ c) -> (h'.setIfInBounds p.R (runO sl p.mb p.stops))[c]? = h[c]? := fun c hc hne => by
    rw [get_set_ne _ (by rw [<- x2]; exact hne .run x1)]
    exact nT c hc hne
  have bk : ∀ k', (M.put k b o).ok k' -> (k' = k /\ (M.put k b o).B k' = b) \/ (k' ≠ k /\ M.ok k' /\ (M.put k b o).B k' = M.B k') := fun k' hk' => by
    by_cases e : k' = k
    · subst e; exact .inl ⟨rfl, ut_same M.B _ _⟩
    · exact .inr ⟨e, hk'.resolve_left e, ut_ne M.B _ e⟩
  refine ⟨rr, fun k' => ?_, fun k' hk' => ?_, fun c hc => ?_, fun k' hk' => ?_, fun c hc => ?_, g.num, h4, fun i hi q hq => ?_, ?_⟩
  · by_cases e1 : k' = .run
    · subst e1
      refine ⟨okr, eBr.trans hR.symm, ?_⟩
      rw [hm, hst]; exact mem_same _ _ _
    · by_cases e2 : k' = k
      · subst e2
        exact h2 _ (Mem.Sl.set xs hkr _)
      · exact (g1 k' e2 e1).set e1
  · show W ((M.put k b o).B k')
    rcases bk k' hk' with ⟨_, e⟩ | ⟨_, y, e⟩
    · rw [e]; exact wb
    · rw [e]; exact g.wide k' y
  · rw [hv]
    obtain ⟨y1, y2⟩ := apC c hc
    exact ⟨(nR c y1 y2).trans (g.cel c hc).1, (g.cel c hc).2⟩
  · show ¬ X.isC ((M.put k b o).B k') /\ ¬ X.Dom p'.u ((M.put k b o).B k')
    rw [hu]
    rcases bk k' hk' with ⟨_, e⟩ | ⟨_, y, e⟩
    · rw [e]
      exact ⟨fun hc => nb b (apC b hc).1 (apC b hc).2 rfl, fun hc => nb b (apD b hc).1 (apD b hc).2 rfl⟩
    · rw [e]; exact g.apart k' y
  · rw [hu] at hc
    rw [Array.size_setIfInBounds]
    exact ⟨Nat.lt_of_lt_of_le (g.dom c hc).1 u.size, (g.dom c hc).2⟩
  · obtain ⟨hi, hq⟩ := hpn i hi q hq
    obtain ⟨y1, y2, y3, y4, y5⟩ := g.prv i hi q hq
    refine ⟨(nR q.1 (lt_of_get y1) y3).trans y1, y2, fun k' hk' e => ?_, y4, by rw [hu]; exact y5⟩
    rcases bk k' hk' with ⟨_, e'⟩ | ⟨_, y, e'⟩
    · exact nb q.1 (lt_of_get y1) y3 (e.symm.trans e')
    · exact y3 k' y (e'.symm.trans e)
  · intro i j hi hj hne q q' hq hq'
    obtain ⟨hi, hq⟩ := hpn i hi q hq
    obtain ⟨hj, hq'⟩ := hpn j hj q' hq'
    exact g.cross i j hi hj hne q q' hq hq'
theorem GI.putAt (g : GI X W p ns s M h) {k : Nm} {b : Nat} {o : Obj} (hb : h[b]? = some o) (hne : ∀ k', M.ok k' -> k' ≠ k -> M.B k' ≠ b) (hW : W b) (hC : ¬ X.isC b) (hD : ¬ X.Dom p.u b) (hP : ∀ i, i < p.num -> ∀ q, q ∈ p.prv i -> q.1 ≠ b) (hv : NmOk p ns s (M.put k b o) k) : GI X W p ns s (M.put k b o) h := by
  have bk : ∀ k', (M.put k b o).ok k' -> (k' = k /\ (M.put k b o).B k' = b) \/ (k' ≠ k /\ M.ok k' /\ (M.put k b o).B k' = M.B k') := fun k' hk' => by
    by_cases e : k' = k
    · subst e; exact .inl ⟨rfl, ut_same M.B _ _⟩
    · exact .inr ⟨e, hk'.resolve_left e, ut_ne M.B _ e⟩
  refine ⟨⟨fun k' hk' => ?_, fun k' k'' hk' hk'' e => ?_⟩, fun k' => ?_, fun k' hk' => ?_, g.cel, fun k' hk' => ?_, g.dom, g.num, g.isin, fun i hi q hq => ?_, g.cross⟩
  · rcases bk k' hk' with ⟨rfl, e⟩ | ⟨hn, y, e⟩
    · rw [e, hb]; exact congrArg some (ut_same M.O _ _).symm
    · rw [e, g.rep.has k' y]; exact congrArg some (ut_ne M.O _ hn).symm
  · rcases bk k' hk' with ⟨rfl, e1⟩ | ⟨hn, y, e1⟩ <;> rcases bk k'' hk'' with ⟨rfl, e2⟩ | ⟨hn2, y2, e2⟩
    · rfl
    · exact absurd (e2.symm.trans (e.symm.trans e1)) (hne k'' y2 hn2)
    · exact absurd (e1.symm.trans (e.trans e2)) (hne k' y hn)
    · exact g.rep.inj k' k'' y y2 (e1.symm.trans (e.trans e2))
  · by_cases e : k' = k
    · subst e; exact hv
    · exact (g.all k').put e
  · rcases bk k' hk' with ⟨_, e⟩ | ⟨_, y, e⟩
    · rw [e]; exact hW
    · rw [e]; exact g.wide k' y
  · rcases bk k' hk' with ⟨_, e⟩ | ⟨_, y, e⟩
    · rw [e]; exact ⟨hC, hD⟩
    · rw [e]; exact g.apart k' y
  · obtain ⟨y1, y2, y3, y4, y5⟩ := g.prv i hi q hq
    refine ⟨y1, y2, fun k' hk' => ?_, y4, y5⟩
    rcases bk k' hk' with ⟨_, e⟩ | ⟨_, y, e⟩
    · rw [e]; exact Ne.symm (hP i hi q hq)
    · rw [e]; exact y3 k' y
theorem GI.logApp (g : GI X W p ns s M h) {e : Ev} (he : e.b ∈ ns) {s' : Value} (hs : SliceO h' s' 142 8 (p.log.length + 1) (p.log.flatMap (entL ns) ++ entL ns e)) (u : Upd (fun b => blk s.L = some b) h h') (hb : ∀ b, blk s' = some b -> blk s.L = some b \/ b = h.size) (hW : ∀ b, h.size <= b -> W b) :
    ∃ M', GI X W { p with log := p.log ++ [e] } ns { s with L := s' } M' (h'.setIfInBounds p.R (runO { s with L := s' } p.mb p.stops)) := by
  refine g.app (p' := { p with log := p.log ++ [e] }) .log (g.all .log) hs u hb hW nofun rfl rfl (fun i hi q hq => ⟨hi, hq⟩) rfl rfl rfl (fun k' h1 h2 => ?_) (fun N y => ?_) (fun e' he' => ?_)
  · have y := g.all k'
    cases k' with
    | log => exact absurd rfl h1
    | run => exact absurd rfl h2
    | _ => exact y
  · show N.Sl .log s' _ 8 (p.log ++ [e]).length ((p.log ++ [e]).flatMap (entL ns))
    rw [List.length_append, List.flatMap_append]
    simpa using y
  · rcases List.mem_append.1 he' with z | z
    · exact g.isin e' z
    · rw [List.mem_singleton.1 z]; exact he
end
end
section
open Go Go.TJ Go.Conc Go.Proofs
structure GG (X : Us) where
  p : PS X.U
  was : PS X.U
  base : Hp
  W : Nat -> Prop
  run : Nat
def Wide (W : Nat -> Prop) (base : Hp) (b : Nat) : Prop := W b \/ base.size <= b
def isOver : Ph -> Bool
  | .over => true
  | _ => false
section
variable {X : Us}
def cM (γ : GG X) : Addr -> Option Value := fun a => if a = ⟨γ.p.tb γ.run, 3, none⟩ then some (.chan (some (γ.p.sd γ.run))) else none
def cT (γ : GG X) (j : Nat) : Addr -> Option Value := fun a => if a = ⟨γ.p.tb j, 2, none⟩ then some (.chan (some (γ.p.wk j))) else if a = ⟨γ.p.bx j, 0, none⟩ then some (.pointer (some ⟨γ.p.tb j, 0, none⟩)) else none
structure View (X : Us) (j : Nat) (p p' : PS X.U) : Prop where
  num : p.num <= p'.num
  R : p'.R = p.R
  tb : p'.tb j = p.tb j
  wk : p'.wk j = p.wk j
  sd : p'.sd j = p.sd j
  bx : p'.bx j = p.bx j
  bf : p'.bf j = p.bf j
  br : p'.br j = p.br j
  fn : p'.fn j = p.fn j
  st : p'.st j = p.st j
  gone : p'.gone j = p.gone j
  prv : p'.prv j = p.prv j
  own : ownOf j p'.log = ownOf j p.log
  V : X.V j p.u p'.u
theorem View.trans {j : Nat} {a b c : PS X.U} (hX : X.Ok) (x : View X j a b) (y : View X j b c) : View X j a c :=
  ⟨Nat.le_trans x.num y.num, y.R.trans x.R, y.tb.trans x.tb, y.wk.trans x.wk, y.sd.trans x.sd, y.bx.trans x.bx, y.bf.trans x.bf, y.br.trans x.br, y.fn.trans x.fn, y.st.trans x.st, y.gone.trans x.gone, y.prv.trans x.prv, y.own.trans x.own, hX.vtrans _ _ _ _ x.V y.V⟩
structure Held (X : Us) (γ : GG X) (h : Hp) : Prop where
  gi : ∃ s M, GI X (Wide γ.W γ.base) γ.p (nums γ.p.log) s M h
  I : X.I γ.p.u h
  J : X.J γ.p.log γ.p.u γ.p.val
  Q : ∀ x, X.Q x (ownOf x γ.p.log) (γ.p.st x) γ.p.u
  upd : Upd γ.W γ.base h
def Turned (X : Us) (was p : PS X.U) (i : Nat) : Prop :=
  (was.stops = false /\ ∃ u L t, p = was.turn i u L t (isOver t) /\ t ≠ .born /\ ∀ r, t = .stands r -> RqOk X r) \/ (was.stops = true /\ p = { was with gone := ut was.gone i true })
def P0 (X : Us) (γ : GG X) (h : Hp) : Prop := γ.run < γ.p.num /\ Turned X γ.was γ.p γ.run /\ Held X γ h
structure P1 (X : Us) (j : Nat) (γ : GG X) (h : Hp) : Prop where
  run : γ.run = j
  lt : j < γ.p.num
  live : γ.p.gone j = false
  was : γ.was = γ.p
  held : Held X γ h
  len : γ.p.stops = false -> γ.p.log.length < 65536
  born : γ.p.st j = .born -> γ.p.stops = false
def PX (X : Us) : Proto (GG X) where
  num γ := γ.p.num + 1
  ch γ i := match i with
    | 0 => some (γ.p.sd γ.run)
    | j + 1 => if γ.p.gone j = true then none else some (γ.p.wk j)
  cells γ i := match i with
    | 0 => cM γ
    | j + 1 => cT γ j
  R i γ γ' := match i with
    | 0 => γ'.was = γ.was /\ γ'.base = γ.base /\ γ'.W = γ.W /\ γ'.run = γ.run
    | j + 1 => View X j γ.p γ'.p
  Pass i γ h := match i with
    | 0 => P0 X γ h
    | j + 1 => P1 X j γ h
theorem upd_then {W T : Nat -> Prop} {base h h' : Hp} (x : Upd W base h) (y : Upd T h h') (ht : ∀ b, b < base.size -> T b -> W b) : Upd W base h' :=
  ⟨Nat.le_trans x.size y.size, fun b hb hn => (y.2 b (by have := x.size; omega) (fun t => hn (ht b hb t))).trans (x.2 b hb hn)⟩
theorem updW {W : Nat -> Prop} {base h : Hp} (u : Upd W base h) {b : Nat} (o : Obj) (hb : Wide W base b) : Upd W base (h.setIfInBounds b o) := by
  refine ⟨by rw [Array.size_setIfInBounds]; exact u.size, fun c hc hn => ?_⟩
  have : b ≠ c := by
    rintro rfl
    rcases hb with y | y
    · exact hn y
    · omega
  rw [get_set_ne _ this]
  exact u.2 c hc hn
theorem Held.chan (hX : X.Ok) {γ : GG X} {h : Hp} (x : Held X γ h) {i : Nat} (hi : i < γ.p.num) {c : Nat} (hc : c = γ.p.wk i \/ c = γ.p.sd i) {k : Nat} : Held X γ (h.setIfInBounds c (.chan 0 #[] false k k false)) := by
  obtain ⟨s, M, g⟩ := x.gi
  obtain ⟨M', g'⟩ := g.chan hi hc (k := k)
  have hk : ∃ k', M.ok k' /\ M.B k' = c := by
    rcases hc with rfl | rfl
    · have := g.all (.wk i) hi; exact ⟨_, this.1, this.2.1⟩
    · have := g.all (.sd i) hi; exact ⟨_, this.1, this.2.1⟩
  obtain ⟨k', hk1, hk2⟩ := hk
  exact ⟨⟨s, M', g'⟩, hX.loc _ _ _ (fun b hb => get_set_ne _ (fun e => (g.apart k' hk1).2 (by rw [hk2, e]; exact hb))) x.I, x.J, x.Q, updW x.upd _ (by rw [<- hk2]; exact g.wide k' hk1)⟩
theorem px_ok (hX : X.Ok) : (PX X).Ok := by
  refine ⟨fun i a b c x y => ?_, fun i γ h c k hc hp hk => ?_⟩
  · cases i with
    | zero =>
      obtain ⟨x1, x2, x3, x4⟩ := x
      obtain ⟨y1, y2, y3, y4⟩ := y
      exact ⟨y1.trans x1, y2.trans x2, y3.trans x3, y4.trans x4⟩
    | succ j => exact View.trans hX x y
  · cases i with
    | zero =>
      obtain ⟨p1, p2, p3⟩ := hp
      obtain rfl : γ.p.sd γ.run = c := Option.some.inj hc
      exact ⟨p1, p2, p3.chan hX p1 (.inr rfl)⟩
    | succ j =>
      obtain ⟨p1, p2, p3, p4, p5, p6, p7⟩ := hp
      change (if γ.p.gone j = true then none else some (γ.p.wk j)) = some c at hc
      rw [if_neg (by rw [p3]; decide)] at hc
      obtain rfl := Option.some.inj hc
      exact ⟨p1, p2, p3, p4, p5.chan hX p2 (.inl rfl), p6, p7⟩
section
variable {U : Type} (p : PS U) (i : Nat)
theorem acc_same : (p.acc i).R = p.R /\ (p.acc i).mb = p.mb /\ (p.acc i).num = p.num /\ (p.acc i).tb = p.tb /\ (p.acc i).wk = p.wk /\ (p.acc i).sd = p.sd /\ (p.acc i).bx = p.bx /\ (p.acc i).bf = p.bf /\ (p.acc i).br = p.br /\ (p.acc i).fn = p.fn /\ (p.acc i).st = p.st /\ (p.acc i).gone = p.gone /\ (p.acc i).prv = p.prv /\ (p.acc i).went = p.went /\ (p.acc i).rdy = p.rdy /\ (p.acc i).stops = p.stops /\ (p.acc i).u = p.u /\ (p.acc i).fl = p.fl := by
  unfold PS.acc
  split <;> exact ⟨rfl, rfl, rfl, rfl, rfl, rfl, rfl, rfl, rfl, rfl, rfl, rfl, rfl, rfl, rfl, rfl, rfl, rfl⟩
theorem acc_stands {r : Rq} (h : p.st i = .stands r) : p.acc i = { p with log := p.log ++ [evOf i r (p.val r.b)], val := ut p.val r.b (behind r.op (p.val r.b) r.arg r.new).1 } := by
  unfold PS.acc; rw [h]
theorem acc_born (h : p.st i = .born) : p.acc i = p := by
  unfold PS.acc; rw [h]
theorem own_snoc (j : Nat) (l : List Ev) (e : Ev) : ownOf j (l ++ [e]) = if e.thr = j then ownOf j l ++ [e] else ownOf j l := by
  unfold ownOf
  rw [List.filter_append]
  by_cases h : e.thr = j <;> simp [h]
theorem acc_own {j : Nat} (h : j ≠ i) : ownOf j (p.acc i).log = ownOf j p.log := by
  unfold PS.acc
  split
  · show ownOf j (p.log ++ [_]) = _
    rw [own_snoc, if_neg (fun e => h e.symm)]
  · rfl
end
theorem view_turn {p : PS X.U} {i j : Nat} (h : j ≠ i) {u : X.U} (hV : X.V j p.u u) (L : List (Nat × Obj)) (t : Ph) (e : Bool) : View X j p (p.turn i u L t e) := by
  obtain ⟨a1, a2, a3, a4, a5, a6, a7, a8, a9, a10, a11, a12, a13, _⟩ := acc_same p i
  exact ⟨by show p.num <= (p.acc i).num; rw [a3]; exact Nat.le_refl _, a1, congrFun a4 j, congrFun a5 j, congrFun a6 j, congrFun a7 j, congrFun a8 j, congrFun a9 j, congrFun a10 j, (ut_ne _ _ h).trans (congrFun a11 j), (ut_ne _ _ h).trans (congrFun a12 j), (ut_ne _ _ h).trans (congrFun a13 j), acc_own p i h, hV⟩
structure Along (X : Us) (i : Nat) (p p' : PS X.U) : Prop where
  tb : p'.tb i = p.tb i
  bx : p'.bx i = p.bx i
  br : p'.br i = p.br i
  R : p'.R = p.R
theorem Along.refl (i : Nat) (p : PS X.U) : Along X i p p := ⟨rfl, rfl, rfl, rfl⟩
theorem Along.trans {i : Nat} {a b c : PS X.U} (x : Along X i a b) (y : Along X i b c) : Along X i a c := ⟨y.tb.trans x.tb, y.bx.trans x.bx, y.br.trans x.br, y.R.trans x.R⟩
structure Thr (X : Us) (i : Nat) (γ : GG X) (u : X.U) (L : List (Nat × Obj)) (h : Hp) : Prop where
  run : γ.run = i
  lt : i < γ.p.num
  live : γ.p.gone i = false
  go : γ.p.stops = false
  was : γ.was = γ.p
  gi : ∃ s M, GI X (Wide γ.W γ.base) { γ.p.acc i with u := u, prv := ut (γ.p.acc i).prv i L } (nums (γ.p.acc i).log) s M h
  I : X.I u h
  J : X.J γ.p.log γ.p.u γ.p.val
  Q : ∀ x, X.Q x (ownOf x γ.p.log) (γ.p.st x) γ.p.u
  V : ∀ x, x ≠ i -> X.V x γ.p.u u
  upd : Upd γ.W γ.base h
  len : γ.p.log.length < 65536
structure Stp (X : Us) (i : Nat) (γ : GG X) (h : Hp) : Prop where
  stops : γ.p.stops = true
  P : P1 X i γ h
theorem Thr.user {i : Nat} {γ : GG X} {u u' : X.U} {L L' : List (Nat × Obj)} {h h' : Hp} (hX : X.Ok) (T : Thr X i γ u L h) (hu : Upd (fun b => X.Dom u b \/ ∃ q, q ∈ L /\ q.1 = b) h h') (h1 : ∀ b, X.Dom u' b -> (X.Dom u b \/ h.size <= b) /\ b < h'.size)
    (h2 : ∀ q, q ∈ L' -> h'[q.1]? = some q.2 /\ ((∃ q0, q0 ∈ L /\ q0.1 = q.1) \/ h.size <= q.1) /\ ¬ X.Dom u' q.1) (hI : X.I u' h') (hV : ∀ x, x ≠ i -> X.V x u u') : Thr X i γ u' L' h' := by
  obtain ⟨s, M, g⟩ := T.gi
  have hn : i < ({ γ.p.acc i with u := u, prv := ut (γ.p.acc i).prv i L } : PS X.U).num := by show i < (γ.p.acc i).num; rw [(acc_same γ.p i).2.2.1]; exact T.lt
  have hW : ∀ b, h.size <= b -> Wide γ.W γ.base b := fun b hb => .inr (Nat.le_trans T.upd.size hb)
  have eL : ({ γ.p.acc i with u := u, prv := ut (γ.p.acc i).prv i L } : PS X.U).prv i = L := ut_same _ _ _
  have g' := g.user hn (u' := u') (L' := L') (by
    show Upd (fun b => X.Dom u b \/ ∃ q, q ∈ ut (γ.p.acc i).prv i L i /\ q.1 = b) h h'
    rw [ut_same]; exact hu) (fun b hb => ⟨(h1 b hb).1.imp id fun y => ⟨y, hW b y⟩, (h1 b hb).2⟩) (fun q hq => by
    obtain ⟨y1, y2, y3⟩ := h2 q hq
    show _ /\ ((∃ q0, q0 ∈ ut (γ.p.acc i).prv i L i /\ q0.1 = q.1) \/ _) /\ _
    rw [ut_same]
    exact ⟨y1, y2.imp id fun y => ⟨y, hW _ y⟩, y3⟩) hX
  have e2 : ut (ut (γ.p.acc i).prv i L) i L' = ut (γ.p.acc i).prv i L' := ut_ut _ _ _ _
  refine ⟨T.run, T.lt, T.live, T.go, T.was, ⟨s, M, ?_⟩, hI, T.J, T.Q, fun x hx => hX.vtrans _ _ _ _ (T.V x hx) (hV x hx), upd_then T.upd hu ?_, T.len⟩
  · rw [<- e2]; exact g'
  · rintro b hb (y | ⟨q, hq, rfl⟩)
    · exact ((g.dom b y).2).resolve_right (by omega)
    · exact ((g.prv i hn q (eL.symm ▸ hq : q ∈ ({ γ.p.acc i with u := u, prv := ut (γ.p.acc i).prv i L } : PS X.U).prv i)).2.1).resolve_right (by omega)
theorem Thr.upd0 {i : Nat} {γ : GG X} {u : X.U} {L : List (Nat × Obj)} {h h' : Hp} (hX : X.Ok) (T : Thr X i γ u L h) (hu : Upd (fun _ => False) h h') : Thr X i γ u L h' := by
  obtain ⟨s, M, g⟩ := T.gi
  exact ⟨T.run, T.lt, T.live, T.go, T.was, ⟨s, M, g.upd0 hu⟩, hX.loc _ _ _ (fun b hb => hu.2 b (g.dom b hb).1 (fun x => x)) T.I, T.J, T.Q, T.V, upd_then T.upd hu (fun _ _ x => x.elim), T.len⟩
end
end
end Go.Proofs.Ytidfmmaehgijaaa
