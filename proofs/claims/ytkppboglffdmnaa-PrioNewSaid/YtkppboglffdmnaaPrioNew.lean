/- Package prio: New makes levels. Conditions: the number of levels, the room. -/
import Derived.Test.YtkppboglffdmnaaPrioTake
namespace Go.Proofs.Ytkppboglffdmnaa
open Go Go.TJ Go.Proofs

/-- But for these names all is as it was. -/
def Ext (M M' : Mem Key) (p : Key → Prop) : Prop := ∀ k, ¬ p k → (M'.ok k ↔ M.ok k) ∧ M'.B k = M.B k ∧ M'.O k = M.O k
theorem Ext.put (M : Mem Key) (k : Key) (b : Nat) (o : Obj) : Ext M (M.put k b o) (fun j => j = k) := fun _ hj => ⟨⟨fun x => x.resolve_left hj, .inr⟩, ut_ne _ _ hj, ut_ne _ _ hj⟩
theorem Ext.set (M : Mem Key) (k : Key) (o : Obj) : Ext M (M.set k o) (fun j => j = k) := fun _ hj => ⟨Iff.rfl, rfl, ut_ne _ _ hj⟩
theorem Ext.trans {M M' M'' : Mem Key} {p q : Key → Prop} (x : Ext M M' p) (y : Ext M' M'' q) : Ext M M'' (fun k => p k ∨ q k) := fun k hk => by
  obtain ⟨a, b, c⟩ := x k (fun z => hk (.inl z))
  obtain ⟨a', b', c'⟩ := y k (fun z => hk (.inr z))
  exact ⟨a'.trans a, b'.trans b, c'.trans c⟩
theorem Ext.mono {M M' : Mem Key} {p q : Key → Prop} (x : Ext M M' p) (h : ∀ k, p k → q k) : Ext M M' q := fun k hk => x k (fun z => hk (h k z))
theorem Ext.refl (M : Mem Key) (p : Key → Prop) : Ext M M p := fun _ _ => ⟨Iff.rfl, rfl, rfl⟩

/-- Level q under way: j places are there; s: the slice of them. -/
structure LevP (M : Mem Key) (q j : Nat) (s : Value) : Prop where
  lev : M.ok (kLev q) ∧ M.O (kLev q) = .cells #[ptr (M.B (kIn q)), ptr (M.B (kOut q)), s] 239 (0, 0)
  inn : M.ok (kIn q) ∧ M.O (kIn q) = cellO 0
  out : M.ok (kOut q) ∧ M.O (kOut q) = cellO 0
  sl : M.Sl (kPls q) s 241 3 j ((List.range j).flatMap fun j => [ptr (M.B (kTurn q j)), ptr (M.B (kTick q j)), ptr (M.B (kSlot q j))])
  val : ∀ j', j' < j → (M.ok (kTurn q j') ∧ M.O (kTurn q j') = cellO j') ∧ (M.ok (kTick q j') ∧ M.O (kTick q j') = cellO 0) ∧ (M.ok (kSlot q j') ∧ M.O (kSlot q j') = cellO 0)

/-- The names that it speaks of. -/
def LevUse (q j : Nat) (k : Key) : Prop := k.2.1 = q + 1 ∧ (k.1 < 7 ∨ k.2.2 < j)

theorem LevP.congr {M M' : Mem Key} {p : Key → Prop} {q j : Nat} {s : Value} (x : LevP M q j s) (e : Ext M M' p) (hp : ∀ k, LevUse q j k → ¬ p k) : LevP M' q j s := by
  have h := fun (k : Key) (hk : LevUse q j k) => e k (hp k hk)
  have tr : ∀ (k : Key) (o : Obj), LevUse q j k → M.ok k ∧ M.O k = o → M'.ok k ∧ M'.O k = o := fun k o hk y => ⟨(h k hk).1.mpr y.1, (h k hk).2.2.trans y.2⟩
  have u1 : LevUse q j (kLev q) := ⟨rfl, .inl (by show 2 < 7; omega)⟩
  have u2 : LevUse q j (kIn q) := ⟨rfl, .inl (by show 5 < 7; omega)⟩
  have u3 : LevUse q j (kOut q) := ⟨rfl, .inl (by show 6 < 7; omega)⟩
  have u4 : LevUse q j (kPls q) := ⟨rfl, .inl (by show 3 < 7; omega)⟩
  have u5 : ∀ t j', j' < j → LevUse q j (t, q + 1, j') := fun t j' hj => ⟨rfl, .inr hj⟩
  refine ⟨?_, tr _ _ u2 x.inn, tr _ _ u3 x.out, ?_, fun j' hj' => ⟨tr _ _ (u5 _ _ hj') (x.val j' hj').1, tr _ _ (u5 _ _ hj') (x.val j' hj').2.1, tr _ _ (u5 _ _ hj') (x.val j' hj').2.2⟩⟩
  · have := tr _ _ u1 x.lev
    rw [(h (kIn q) u2).2.1, (h (kOut q) u3).2.1]
    exact this
  · have e1 : (List.range j).flatMap (fun j => [ptr (M'.B (kTurn q j)), ptr (M'.B (kTick q j)), ptr (M'.B (kSlot q j))]) = (List.range j).flatMap (fun j => [ptr (M.B (kTurn q j)), ptr (M.B (kTick q j)), ptr (M.B (kSlot q j))]) := by
      rw [List.flatMap_def, List.flatMap_def]
      congr 1
      refine List.map_congr_left fun j' hj' => ?_
      have hj := List.mem_range.mp hj'
      rw [(h (kTurn q j') (u5 _ _ hj)).2.1, (h (kTick q j') (u5 _ _ hj)).2.1, (h (kSlot q j') (u5 _ _ hj)).2.1]
    rw [e1]
    exact x.sl.congr (h (kPls q) u4).1 (h (kPls q) u4).2.1 (h (kPls q) u4).2.2

/-- One place more. -/
theorem LevP.round {M M4 : Mem Key} {q j bt bk bs b : Nat} {o : Obj} {s s' : Value} (x : LevP M q j s) (e4 : M4 = (((M.put (kTurn q j) bt (cellO j)).put (kTick q j) bk (cellO 0)).put (kSlot q j) bs (cellO 0)).put (kPls q) b o)
    (hs : M4.Sl (kPls q) s' 241 3 (j + 1) (((List.range j).flatMap fun j => [ptr (M.B (kTurn q j)), ptr (M.B (kTick q j)), ptr (M.B (kSlot q j))]) ++ [ptr bt, ptr bk, ptr bs])) :
    LevP (M4.set (kLev q) (.cells #[ptr (M.B (kIn q)), ptr (M.B (kOut q)), s'] 239 (0, 0))) q (j + 1) s' := by
  have e : Ext M (M4.set (kLev q) (.cells #[ptr (M.B (kIn q)), ptr (M.B (kOut q)), s'] 239 (0, 0))) (fun k => ((((k = kTurn q j ∨ k = kTick q j) ∨ k = kSlot q j) ∨ k = kPls q) ∨ k = kLev q)) := by
    subst e4
    exact ((((Ext.put _ _ _ _).trans (Ext.put _ _ _ _)).trans (Ext.put _ _ _ _)).trans (Ext.put _ _ _ _)).trans (Ext.set _ _ _)
  have hval : ∀ t j', j' < j → (7 ≤ t) → ¬ ((((((t, q + 1, j') : Key) = kTurn q j ∨ ((t, q + 1, j') : Key) = kTick q j) ∨ ((t, q + 1, j') : Key) = kSlot q j) ∨ ((t, q + 1, j') : Key) = kPls q) ∨ ((t, q + 1, j') : Key) = kLev q) := by
    intro t j' hj ht hx
    simp only [Prod.mk.injEq] at hx
    omega
  have tr : ∀ (t j' : Nat) (ob : Obj), j' < j → 7 ≤ t → M.ok (t, q + 1, j') ∧ M.O (t, q + 1, j') = ob → _ := fun t j' ob hj ht y => (⟨(e _ (hval t j' hj ht)).1.mpr y.1, (e _ (hval t j' hj ht)).2.2.trans y.2⟩ : (M4.set (kLev q) (.cells #[ptr (M.B (kIn q)), ptr (M.B (kOut q)), s'] 239 (0, 0))).ok (t, q + 1, j') ∧ (M4.set (kLev q) (.cells #[ptr (M.B (kIn q)), ptr (M.B (kOut q)), s'] 239 (0, 0))).O (t, q + 1, j') = ob)
  have ein := e (kIn q) (by simp)
  have eout := e (kOut q) (by simp)
  refine ⟨⟨?_, ?_⟩, ⟨ein.1.mpr x.inn.1, ein.2.2.trans x.inn.2⟩, ⟨eout.1.mpr x.out.1, eout.2.2.trans x.out.2⟩, ?_, fun j' hj' => ?_⟩
  · subst e4
    exact .inr (.inr (.inr (.inr x.lev.1)))
  · rw [ein.2.1, eout.2.1]
    exact ut_same _ _ _
  · have e1 : (List.range (j + 1)).flatMap (fun j' => [ptr ((M4.set (kLev q) (.cells #[ptr (M.B (kIn q)), ptr (M.B (kOut q)), s'] 239 (0, 0))).B (kTurn q j')), ptr ((M4.set (kLev q) (.cells #[ptr (M.B (kIn q)), ptr (M.B (kOut q)), s'] 239 (0, 0))).B (kTick q j')), ptr ((M4.set (kLev q) (.cells #[ptr (M.B (kIn q)), ptr (M.B (kOut q)), s'] 239 (0, 0))).B (kSlot q j'))])
        = ((List.range j).flatMap fun j => [ptr (M.B (kTurn q j)), ptr (M.B (kTick q j)), ptr (M.B (kSlot q j))]) ++ [ptr bt, ptr bk, ptr bs] := by
      rw [List.range_succ, List.flatMap_append]
      congr 1
      · rw [List.flatMap_def, List.flatMap_def]
        congr 1
        refine List.map_congr_left fun j' hj' => ?_
        have hj := List.mem_range.mp hj'
        rw [(e _ (hval 7 j' hj (by omega))).2.1, (e _ (hval 8 j' hj (by omega))).2.1, (e _ (hval 9 j' hj (by omega))).2.1]
      · subst e4
        simp [Mem.set, Mem.put, ut]
    rw [e1]
    exact hs.set (by simp) _
  · by_cases hj : j' < j
    · exact ⟨tr 7 j' _ hj (by omega) (x.val j' hj).1, tr 8 j' _ hj (by omega) (x.val j' hj).2.1, tr 9 j' _ hj (by omega) (x.val j' hj).2.2⟩
    · obtain rfl : j' = j := by omega
      subst e4
      refine ⟨⟨.inr (.inr (.inr (.inl rfl))), ?_⟩, ⟨.inr (.inr (.inl rfl)), ?_⟩, ⟨.inr (.inl rfl), ?_⟩⟩ <;> simp [Mem.set, Mem.put, ut]

/-- New under way: i levels are there. T: the object. -/
structure NewI (h0 h : Hp) (M : Mem Key) (T m i i' : Nat) (sL : Value) : Prop where
  rep : Rep h M
  upd : Upd (fun _ => False) h0 h
  above : ∀ k, M.ok k → h0.size ≤ M.B k
  top : M.ok kTop ∧ M.O kTop = .cells #[ptr (M.B kTk), sL] 187 (0, 0)
  topB : M.B kTop = T
  tk : M.ok kTk ∧ M.O kTk = cellO 0
  sl : M.Sl kLvs sL 236 1 i ((List.range i).map fun q => ptr (M.B (kLev q)))
  levs : ∀ q, q < i → ∃ s, LevP M q m s
  rest : ∀ q, i' ≤ q → ¬ M.ok (kPls q)

/-- Something of level i is turned. -/
theorem NewI.ext {h0 h h' : Hp} {M M' : Mem Key} {T m i i' : Nat} {sL : Value} {p : Key → Prop} (x : NewI h0 h M T m i i' sL) (e : Ext M M' p) (hp : ∀ k, p k → k.2.1 = i + 1) (r : Rep h' M') (u : Upd (fun _ => False) h0 h') (ha : ∀ k, p k → M'.ok k → h0.size ≤ M'.B k) (hr : i < i') : NewI h0 h' M' T m i i' sL := by
  have key : ∀ k : Key, k.2.1 ≠ i + 1 → ¬ p k := fun k hk y => hk (hp k y)
  have tr : ∀ (k : Key) (o : Obj), k.2.1 ≠ i + 1 → M.ok k ∧ M.O k = o → M'.ok k ∧ M'.O k = o := fun k o hk y => ⟨(e k (key k hk)).1.mpr y.1, (e k (key k hk)).2.2.trans y.2⟩
  have n0 : ∀ t j, ((t, 0, j) : Key).2.1 ≠ i + 1 := fun t j => by simp
  have nl := e kLvs (key _ (n0 _ _))
  refine ⟨r, u, fun k hk => ?_, ?_, (e kTop (key _ (n0 _ _))).2.1.trans x.topB, tr _ _ (n0 _ _) x.tk, ?_, fun q hq => ?_, fun q hq => ?_⟩
  · by_cases hpk : p k
    · exact ha k hpk hk
    · rw [(e k hpk).2.1]; exact x.above k ((e k hpk).1.mp hk)
  · rw [(e kTk (key _ (n0 _ _))).2.1]; exact tr _ _ (n0 _ _) x.top
  · have e1 : (List.range i).map (fun q => ptr (M'.B (kLev q))) = (List.range i).map (fun q => ptr (M.B (kLev q))) := by
      refine List.map_congr_left fun q hq => ?_
      have := List.mem_range.mp hq
      rw [(e (kLev q) (key _ (by show q + 1 ≠ i + 1; omega))).2.1]
    rw [e1]
    exact x.sl.congr nl.1 nl.2.1 nl.2.2
  · obtain ⟨s, hs⟩ := x.levs q hq
    exact ⟨s, hs.congr e (fun k hk y => by have h1 := hk.1; have h2 := hp k y; omega)⟩
  · intro y
    exact x.rest q hq ((e (kPls q) (key _ (by show q + 1 ≠ i + 1; omega))).1.mp y)

structure NS where
  i : Nat
  M : Mem Key
  sL : Value
structure NS2 where
  j : Nat
  M : Mem Key
  s : Value

/-- What a value is at the beginning. -/
def v0 : Key → Int
  | (7, _, j) => j
  | _ => 0

theorem okP_cases {L m : Nat} {k : Key} (h : okP L m k) : k = kTop ∨ k = kLvs ∨ k = kTk ∨ (∃ q, q < L ∧ (k = kLev q ∨ k = kPls q ∨ k = kIn q ∨ k = kOut q)) ∨ (∃ q j, q < L ∧ j < m ∧ (k = kTurn q j ∨ k = kTick q j ∨ k = kSlot q j)) := by
  unfold okP at h
  split at h
  · exact .inl rfl
  · exact .inr (.inl rfl)
  · exact .inr (.inr (.inr (.inl ⟨_, h, .inl rfl⟩)))
  · exact .inr (.inr (.inr (.inl ⟨_, h, .inr (.inl rfl)⟩)))
  · exact .inr (.inr (.inl rfl))
  · exact .inr (.inr (.inr (.inl ⟨_, h, .inr (.inr (.inl rfl))⟩)))
  · exact .inr (.inr (.inr (.inl ⟨_, h, .inr (.inr (.inr rfl))⟩)))
  · exact .inr (.inr (.inr (.inr ⟨_, _, h.1, h.2, .inl rfl⟩)))
  · exact .inr (.inr (.inr (.inr ⟨_, _, h.1, h.2, .inr (.inl rfl)⟩)))
  · exact .inr (.inr (.inr (.inr ⟨_, _, h.1, h.2, .inr (.inr rfl)⟩)))
  · exact h.elim

section
variable {Γ : Type} {main : Bool} {S : Sit Γ} {h : Hp} {δ : Ix Γ}

set_option maxRecDepth 8000 in
set_option maxHeartbeats 4000000 in
theorem new_ok {L m e : Nat} (hL1 : 1 ≤ L) (hL : L ≤ 8) (hm : m = 2 ^ e) (he1 : 1 ≤ e) (he : e ≤ 12) (hF : ∀ b o, h.size ≤ b → ¬ S.still δ.g ⟨b, o, none⟩) :
    CallW Try.prog main S 74 #[.int .i64 L, .int .i64 m] h δ
      (Ret fun w h' δ' => δ' = δ ∧ Upd (fun _ => False) h h' ∧ ∃ G : PG, w = .tuple #[ptr (G.B kTop), .int .i64 0] ∧ G.L = L ∧ G.m = m ∧ Pri h' G v0 ∧ ∀ k, okP L m k → h.size ≤ G.B k) := by
  have hm2 : 2 ≤ m := by have := Nat.pow_le_pow_right (n := 2) (by decide) he1; omega
  have hm1 : m ≤ 4096 := by have := Nat.pow_le_pow_right (n := 2) (by decide) he; omega
  have hbits : bits .and .i64 (m : Int) ((m : Int) - 1) = 0 := by
    rw [mask hm (by omega) (by omega), Nat.mod_self]; rfl
  refine CallW.start (n := 71) rfl rfl ?_
  (repeat (first | refine EK.seq ?_ | refine EK.region ?_ | refine ER.done ?_ | refine EK.skip ?_ | refine EK.block ?_ | refine EK.inBlock ?_ | refine ER.move rfl rfl rfl ?_ | refine ER.assign rfl rfl rfl ?_ | refine ER.nilCheck rfl rfl rfl ?_ | refine ER.fieldAddr rfl rfl rfl ?_ | refine ER.load1 rfl rfl rfl (hcell_of (by assumption) rfl) ?_ | refine ER.no rfl rfl ?_ | refine ER.noU rfl ?_ | refine ER.eqV rfl rfl rfl rfl rfl ?_ | refine ER.neqV rfl rfl rfl rfl rfl ?_ | refine ER.eqA rfl rfl rfl rfl rfl ?_ | refine ER.neqA rfl rfl rfl rfl rfl ?_ | refine ER.notB rfl rfl rfl ?_ | refine ER.pickT rfl rfl rfl rfl ?_ | refine ER.pickF rfl rfl rfl rfl ?_ | refine ER.extract rfl rfl rfl rfl ?_ | refine ER.cmpT rfl rfl rfl rfl rfl (by first | (dsimp only [cmpP]; omega) | exact rfl | exact Int.le_refl _) ?_ | refine ER.cmpF rfl rfl rfl rfl rfl (by first | (dsimp only [cmpP]; omega) | exact rfl | exact Int.le_refl _) ?_ | refine ER.boxA rfl rfl rfl ?_ | refine ER.box rfl rfl rfl ?_ | refine ER.allocA rfl rfl ?_ | refine ER.alloc rfl rfl ?_ | refine ER.add (kd := .i64) rfl rfl rfl rfl (i64_in (by omega) (by omega)) ?_ | refine ER.sub' (kd := .i64) rfl rfl rfl rfl (i64_in (by omega) (by omega)) ?_ | refine ER.mul (kd := .i64) rfl rfl rfl rfl (i64_in (by omega) (by omega)) ?_ | refine ER.rem (kd := .i64) rfl rfl rfl rfl (by decide) rfl ?_ | refine ER.indexArr rfl rfl rfl rfl (by omega) (by omega) ?_ | refine ER.len1 rfl rfl rfl ?_ | refine ER.indexSl rfl rfl rfl rfl (by omega) (by omega) ?_ | refine EK.condT rfl ?_ | refine EK.condF rfl ?_ | refine EK.ret ?_ | refine EK.exit rfl ?_))
  refine ER.andI rfl rfl rfl rfl hbits ?_
  (repeat (first | refine EK.seq ?_ | refine EK.region ?_ | refine ER.done ?_ | refine EK.skip ?_ | refine EK.block ?_ | refine EK.inBlock ?_ | refine ER.move rfl rfl rfl ?_ | refine ER.assign rfl rfl rfl ?_ | refine ER.nilCheck rfl rfl rfl ?_ | refine ER.fieldAddr rfl rfl rfl ?_ | refine ER.load1 rfl rfl rfl (hcell_of (by assumption) rfl) ?_ | refine ER.no rfl rfl ?_ | refine ER.noU rfl ?_ | refine ER.eqV rfl rfl rfl rfl rfl ?_ | refine ER.neqV rfl rfl rfl rfl rfl ?_ | refine ER.eqA rfl rfl rfl rfl rfl ?_ | refine ER.neqA rfl rfl rfl rfl rfl ?_ | refine ER.notB rfl rfl rfl ?_ | refine ER.pickT rfl rfl rfl rfl ?_ | refine ER.pickF rfl rfl rfl rfl ?_ | refine ER.extract rfl rfl rfl rfl ?_ | refine ER.cmpT rfl rfl rfl rfl rfl (by first | (dsimp only [cmpP]; omega) | exact rfl | exact Int.le_refl _) ?_ | refine ER.cmpF rfl rfl rfl rfl rfl (by first | (dsimp only [cmpP]; omega) | exact rfl | exact Int.le_refl _) ?_ | refine ER.boxA rfl rfl rfl ?_ | refine ER.box rfl rfl rfl ?_ | refine ER.allocA rfl rfl ?_ | refine ER.alloc rfl rfl ?_ | refine ER.add (kd := .i64) rfl rfl rfl rfl (i64_in (by omega) (by omega)) ?_ | refine ER.sub' (kd := .i64) rfl rfl rfl rfl (i64_in (by omega) (by omega)) ?_ | refine ER.mul (kd := .i64) rfl rfl rfl rfl (i64_in (by omega) (by omega)) ?_ | refine ER.rem (kd := .i64) rfl rfl rfl rfl (by decide) rfl ?_ | refine ER.indexArr rfl rfl rfl rfl (by omega) (by omega) ?_ | refine ER.len1 rfl rfl rfl ?_ | refine ER.indexSl rfl rfl rfl rfl (by omega) (by omega) ?_ | refine EK.condT rfl ?_ | refine EK.condF rfl ?_ | refine EK.ret ?_ | refine EK.exit rfl ?_))
  refine ER.callD rfl rfl rfl rfl rfl (cnewS (hF _ _ (Nat.le_refl _))) ?_
  refine ER.buildS (cells := #[ptr h.size, .slice none 0 0]) rfl rfl rfl rfl ?_
  (repeat (first | refine EK.seq ?_ | refine EK.region ?_ | refine ER.done ?_ | refine EK.skip ?_ | refine EK.block ?_ | refine EK.inBlock ?_ | refine ER.move rfl rfl rfl ?_ | refine ER.assign rfl rfl rfl ?_ | refine ER.nilCheck rfl rfl rfl ?_ | refine ER.fieldAddr rfl rfl rfl ?_ | refine ER.load1 rfl rfl rfl (hcell_of (by assumption) rfl) ?_ | refine ER.no rfl rfl ?_ | refine ER.noU rfl ?_ | refine ER.eqV rfl rfl rfl rfl rfl ?_ | refine ER.neqV rfl rfl rfl rfl rfl ?_ | refine ER.eqA rfl rfl rfl rfl rfl ?_ | refine ER.neqA rfl rfl rfl rfl rfl ?_ | refine ER.notB rfl rfl rfl ?_ | refine ER.pickT rfl rfl rfl rfl ?_ | refine ER.pickF rfl rfl rfl rfl ?_ | refine ER.extract rfl rfl rfl rfl ?_ | refine ER.cmpT rfl rfl rfl rfl rfl (by first | (dsimp only [cmpP]; omega) | exact rfl | exact Int.le_refl _) ?_ | refine ER.cmpF rfl rfl rfl rfl rfl (by first | (dsimp only [cmpP]; omega) | exact rfl | exact Int.le_refl _) ?_ | refine ER.boxA rfl rfl rfl ?_ | refine ER.box rfl rfl rfl ?_ | refine ER.allocA rfl rfl ?_ | refine ER.alloc rfl rfl ?_ | refine ER.add (kd := .i64) rfl rfl rfl rfl (i64_in (by omega) (by omega)) ?_ | refine ER.sub' (kd := .i64) rfl rfl rfl rfl (i64_in (by omega) (by omega)) ?_ | refine ER.mul (kd := .i64) rfl rfl rfl rfl (i64_in (by omega) (by omega)) ?_ | refine ER.rem (kd := .i64) rfl rfl rfl rfl (by decide) rfl ?_ | refine ER.indexArr rfl rfl rfl rfl (by omega) (by omega) ?_ | refine ER.len1 rfl rfl rfl ?_ | refine ER.indexSl rfl rfl rfl rfl (by omega) (by omega) ?_ | refine EK.condT rfl ?_ | refine EK.condF rfl ?_ | refine EK.ret ?_ | refine EK.exit rfl ?_))
  have x0 : NewI h ((h.push (cellO 0)).push (.cells #[ptr h.size, .slice none 0 0] 187)) ((Mem.emp.put kTk h.size (cellO 0)).put kTop (h.push (cellO 0)).size (.cells #[ptr h.size, .slice none 0 0] 187 (0, 0))) (h.push (cellO 0)).size m 0 0 (.slice none 0 0) := by
    refine ⟨(Rep.emp.put _ _).put _ _, (Upd.push _ _).trans (Upd.push _ _), fun k hk => ?_, ⟨.inl rfl, ?_⟩, by simp [Mem.put, ut], ⟨.inr (.inl rfl), ?_⟩, Mem.Sl.nil ?_, fun q hq => by omega, fun q _ hk => ?_⟩
    · rcases hk with rfl | rfl | hk
      · simp [Mem.put, ut]
      · simp [Mem.put, ut]
      · exact hk.elim
    · simp [Mem.put, ut]
    · simp [Mem.put, ut]
    · simp [Mem.put, Mem.emp]
    · simp [Mem.put, Mem.emp] at hk
  generalize hT : (h.push (cellO 0)).size = T at x0 ⊢
  change EK _ _ _ _ _ _ _ _ ((h.push (cellO 0)).push (.cells #[ptr h.size, .slice none 0 0] 187)) _ _
  generalize (h.push (cellO 0)).push (.cells #[ptr h.size, .slice none 0 0] 187) = h1 at x0 ⊢
  generalize ((Mem.emp.put kTk h.size (cellO 0)).put kTop T (.cells #[ptr h.size, .slice none 0 0] 187 (0, 0)) : Mem Key) = M1 at x0
  (repeat (first | refine EK.seq ?_ | refine EK.region ?_ | refine ER.done ?_ | refine EK.skip ?_ | refine EK.block ?_ | refine EK.inBlock ?_ | refine ER.move rfl rfl rfl ?_ | refine ER.assign rfl rfl rfl ?_ | refine ER.nilCheck rfl rfl rfl ?_ | refine ER.fieldAddr rfl rfl rfl ?_ | refine ER.load1 rfl rfl rfl (hcell_of (by assumption) rfl) ?_ | refine ER.no rfl rfl ?_ | refine ER.noU rfl ?_ | refine ER.eqV rfl rfl rfl rfl rfl ?_ | refine ER.neqV rfl rfl rfl rfl rfl ?_ | refine ER.eqA rfl rfl rfl rfl rfl ?_ | refine ER.neqA rfl rfl rfl rfl rfl ?_ | refine ER.notB rfl rfl rfl ?_ | refine ER.pickT rfl rfl rfl rfl ?_ | refine ER.pickF rfl rfl rfl rfl ?_ | refine ER.extract rfl rfl rfl rfl ?_ | refine ER.cmpT rfl rfl rfl rfl rfl (by first | (dsimp only [cmpP]; omega) | exact rfl | exact Int.le_refl _) ?_ | refine ER.cmpF rfl rfl rfl rfl rfl (by first | (dsimp only [cmpP]; omega) | exact rfl | exact Int.le_refl _) ?_ | refine ER.boxA rfl rfl rfl ?_ | refine ER.box rfl rfl rfl ?_ | refine ER.allocA rfl rfl ?_ | refine ER.alloc rfl rfl ?_ | refine ER.add (kd := .i64) rfl rfl rfl rfl (i64_in (by omega) (by omega)) ?_ | refine ER.sub' (kd := .i64) rfl rfl rfl rfl (i64_in (by omega) (by omega)) ?_ | refine ER.mul (kd := .i64) rfl rfl rfl rfl (i64_in (by omega) (by omega)) ?_ | refine ER.rem (kd := .i64) rfl rfl rfl rfl (by decide) rfl ?_ | refine ER.indexArr rfl rfl rfl rfl (by omega) (by omega) ?_ | refine ER.len1 rfl rfl rfl ?_ | refine ER.indexSl rfl rfl rfl rfl (by omega) (by omega) ?_ | refine EK.condT rfl ?_ | refine EK.condF rfl ?_ | refine EK.ret ?_ | refine EK.exit rfl ?_))
  refine EK.loopInv (fun s : NS => [(34, .int .i64 s.i), (33, .int .i64 L), (0, .int .i64 L), (1, .int .i64 m), (6, ptr T)]) (fun s h' δ' => δ' = δ ∧ s.i ≤ L ∧ NewI h h' s.M T m s.i s.i s.sL) (fun s => L - s.i) ⟨0, M1, .slice none 0 0⟩ ⟨rfl, rfl, rfl, rfl, rfl, trivial⟩ ⟨rfl, Nat.zero_le _, x0⟩ ?_
  clear x0 M1 h1
  rintro ⟨i, M, sL⟩ h1 δ1 ⟨hδ, hi, x⟩ again
  dsimp only at hi x again ⊢
  obtain rfl : δ = δ1 := hδ.symm
  have hsz := x.upd.size
  by_cases hlt : i < L
  · (repeat (first | refine EK.seq ?_ | refine EK.region ?_ | refine ER.done ?_ | refine EK.skip ?_ | refine EK.block ?_ | refine EK.inBlock ?_ | refine ER.move rfl rfl rfl ?_ | refine ER.assign rfl rfl rfl ?_ | refine ER.nilCheck rfl rfl rfl ?_ | refine ER.fieldAddr rfl rfl rfl ?_ | refine ER.load1 rfl rfl rfl (hcell_of (by assumption) rfl) ?_ | refine ER.no rfl rfl ?_ | refine ER.noU rfl ?_ | refine ER.eqV rfl rfl rfl rfl rfl ?_ | refine ER.neqV rfl rfl rfl rfl rfl ?_ | refine ER.eqA rfl rfl rfl rfl rfl ?_ | refine ER.neqA rfl rfl rfl rfl rfl ?_ | refine ER.notB rfl rfl rfl ?_ | refine ER.pickT rfl rfl rfl rfl ?_ | refine ER.pickF rfl rfl rfl rfl ?_ | refine ER.extract rfl rfl rfl rfl ?_ | refine ER.cmpT rfl rfl rfl rfl rfl (by first | (dsimp only [cmpP]; omega) | exact rfl | exact Int.le_refl _) ?_ | refine ER.cmpF rfl rfl rfl rfl rfl (by first | (dsimp only [cmpP]; omega) | exact rfl | exact Int.le_refl _) ?_ | refine ER.boxA rfl rfl rfl ?_ | refine ER.box rfl rfl rfl ?_ | refine ER.allocA rfl rfl ?_ | refine ER.alloc rfl rfl ?_ | refine ER.add (kd := .i64) rfl rfl rfl rfl (i64_in (by omega) (by omega)) ?_ | refine ER.sub' (kd := .i64) rfl rfl rfl rfl (i64_in (by omega) (by omega)) ?_ | refine ER.mul (kd := .i64) rfl rfl rfl rfl (i64_in (by omega) (by omega)) ?_ | refine ER.rem (kd := .i64) rfl rfl rfl rfl (by decide) rfl ?_ | refine ER.indexArr rfl rfl rfl rfl (by omega) (by omega) ?_ | refine ER.len1 rfl rfl rfl ?_ | refine ER.indexSl rfl rfl rfl rfl (by omega) (by omega) ?_ | refine EK.condT rfl ?_ | refine EK.condF rfl ?_ | refine EK.ret ?_ | refine EK.exit rfl ?_))
    refine ER.callD rfl rfl rfl rfl rfl (cnewS (hF _ _ hsz)) ?_
    refine ER.callD rfl rfl rfl rfl rfl (cnewS (hF _ _ (by simp; omega))) ?_
    refine ER.buildS (cells := #[ptr h1.size, ptr (h1.push (cellO 0)).size, .slice none 0 0]) rfl rfl rfl rfl ?_
    (repeat (first | refine EK.seq ?_ | refine EK.region ?_ | refine ER.done ?_ | refine EK.skip ?_ | refine EK.block ?_ | refine EK.inBlock ?_ | refine ER.move rfl rfl rfl ?_ | refine ER.assign rfl rfl rfl ?_ | refine ER.nilCheck rfl rfl rfl ?_ | refine ER.fieldAddr rfl rfl rfl ?_ | refine ER.load1 rfl rfl rfl (hcell_of (by assumption) rfl) ?_ | refine ER.no rfl rfl ?_ | refine ER.noU rfl ?_ | refine ER.eqV rfl rfl rfl rfl rfl ?_ | refine ER.neqV rfl rfl rfl rfl rfl ?_ | refine ER.eqA rfl rfl rfl rfl rfl ?_ | refine ER.neqA rfl rfl rfl rfl rfl ?_ | refine ER.notB rfl rfl rfl ?_ | refine ER.pickT rfl rfl rfl rfl ?_ | refine ER.pickF rfl rfl rfl rfl ?_ | refine ER.extract rfl rfl rfl rfl ?_ | refine ER.cmpT rfl rfl rfl rfl rfl (by first | (dsimp only [cmpP]; omega) | exact rfl | exact Int.le_refl _) ?_ | refine ER.cmpF rfl rfl rfl rfl rfl (by first | (dsimp only [cmpP]; omega) | exact rfl | exact Int.le_refl _) ?_ | refine ER.boxA rfl rfl rfl ?_ | refine ER.box rfl rfl rfl ?_ | refine ER.allocA rfl rfl ?_ | refine ER.alloc rfl rfl ?_ | refine ER.add (kd := .i64) rfl rfl rfl rfl (i64_in (by omega) (by omega)) ?_ | refine ER.sub' (kd := .i64) rfl rfl rfl rfl (i64_in (by omega) (by omega)) ?_ | refine ER.mul (kd := .i64) rfl rfl rfl rfl (i64_in (by omega) (by omega)) ?_ | refine ER.rem (kd := .i64) rfl rfl rfl rfl (by decide) rfl ?_ | refine ER.indexArr rfl rfl rfl rfl (by omega) (by omega) ?_ | refine ER.len1 rfl rfl rfl ?_ | refine ER.indexSl rfl rfl rfl rfl (by omega) (by omega) ?_ | refine EK.condT rfl ?_ | refine EK.condF rfl ?_ | refine EK.ret ?_ | refine EK.exit rfl ?_))
    obtain ⟨M1, hM1⟩ : ∃ M1, M1 = ((M.put (kIn i) h1.size (cellO 0)).put (kOut i) (h1.push (cellO 0)).size (cellO 0)).put (kLev i) ((h1.push (cellO 0)).push (cellO 0)).size (.cells #[ptr h1.size, ptr (h1.push (cellO 0)).size, .slice none 0 0] 239 (0, 0)) := ⟨_, rfl⟩
    have r1 : Rep _ M1 := hM1 ▸ ((x.rep.put (kIn i) (cellO 0)).put (kOut i) (cellO 0)).put (kLev i) (.cells #[ptr h1.size, ptr (h1.push (cellO 0)).size, .slice none 0 0] 239 (0, 0))
    have e1 : Ext M M1 (fun k => (k = kIn i ∨ k = kOut i) ∨ k = kLev i) := hM1 ▸ ((Ext.put _ _ _ _).trans (Ext.put _ _ _ _)).trans (Ext.put _ _ _ _)
    have x1 := NewI.ext (⟨x.rep, x.upd, x.above, x.top, x.topB, x.tk, x.sl, x.levs, fun q hq => x.rest q (by omega)⟩ : NewI h h1 M T m i (i + 1) sL) e1 (fun k hk => by rcases hk with (rfl | rfl) | rfl <;> rfl) r1 (((x.upd.trans (Upd.push _ _)).trans (Upd.push _ _)).trans (Upd.push _ _)) (fun k hk _ => by
      subst hM1
      rcases hk with (rfl | rfl) | rfl <;> simp [Mem.put, ut] <;> omega) (by omega)
    have lp1 : LevP M1 i 0 (.slice none 0 0) := by
      subst hM1
      refine ⟨⟨.inl rfl, by simp [Mem.put, ut]⟩, ⟨.inr (.inr (.inl rfl)), by simp [Mem.put, ut]⟩, ⟨.inr (.inl rfl), by simp [Mem.put, ut]⟩, Mem.Sl.nil ?_, fun j hj => by omega⟩
      simp [Mem.put]
      exact x.rest i (Nat.le_refl _)
    obtain ⟨Lb, hLb⟩ : ∃ Lb, Lb = ((h1.push (cellO 0)).push (cellO 0)).size := ⟨_, rfl⟩
    have bL : M1.B (kLev i) = Lb := by subst hM1; rw [hLb]; simp [Mem.put, ut]
    rw [← hLb]
    change EK _ _ _ _ _ _ _ _ (((h1.push (cellO 0)).push (cellO 0)).push (.cells #[ptr h1.size, ptr (h1.push (cellO 0)).size, .slice none 0 0] 239)) _ _
    generalize ((h1.push (cellO 0)).push (cellO 0)).push (.cells #[ptr h1.size, ptr (h1.push (cellO 0)).size, .slice none 0 0] 239) = h2 at x1 r1 ⊢
    clear r1 e1 hM1
    refine EK.loopInv (fun t : NS2 => [(41, .int .i64 t.j), (40, .int .i64 m), (7, ptr Lb), (34, .int .i64 i), (33, .int .i64 L), (0, .int .i64 L), (1, .int .i64 m), (6, ptr T)]) (fun t h' δ' => δ' = δ ∧ t.j ≤ m ∧ NewI h h' t.M T m i (i + 1) sL ∧ LevP t.M i t.j t.s ∧ t.M.B (kLev i) = Lb) (fun t => m - t.j) ⟨0, M1, .slice none 0 0⟩ ⟨rfl, rfl, rfl, rfl, rfl, rfl, rfl, rfl, trivial⟩ ⟨rfl, Nat.zero_le _, x1, lp1, bL⟩ ?_
    clear x1 lp1 bL hLb x hsz M1 h2
    rintro ⟨j, M, s⟩ h2 δ2 ⟨hδ2, hj, x, lp, bL⟩ again2
    dsimp only at hj x lp bL again2 ⊢
    obtain rfl : δ = δ2 := hδ2.symm
    have hsz := x.upd.size
    by_cases hjm : j < m
    · (repeat (first | refine EK.seq ?_ | refine EK.region ?_ | refine ER.done ?_ | refine EK.skip ?_ | refine EK.block ?_ | refine EK.inBlock ?_ | refine ER.move rfl rfl rfl ?_ | refine ER.assign rfl rfl rfl ?_ | refine ER.nilCheck rfl rfl rfl ?_ | refine ER.fieldAddr rfl rfl rfl ?_ | refine ER.load1 rfl rfl rfl (hcell_of (by assumption) rfl) ?_ | refine ER.no rfl rfl ?_ | refine ER.noU rfl ?_ | refine ER.eqV rfl rfl rfl rfl rfl ?_ | refine ER.neqV rfl rfl rfl rfl rfl ?_ | refine ER.eqA rfl rfl rfl rfl rfl ?_ | refine ER.neqA rfl rfl rfl rfl rfl ?_ | refine ER.notB rfl rfl rfl ?_ | refine ER.pickT rfl rfl rfl rfl ?_ | refine ER.pickF rfl rfl rfl rfl ?_ | refine ER.extract rfl rfl rfl rfl ?_ | refine ER.cmpT rfl rfl rfl rfl rfl (by first | (dsimp only [cmpP]; omega) | exact rfl | exact Int.le_refl _) ?_ | refine ER.cmpF rfl rfl rfl rfl rfl (by first | (dsimp only [cmpP]; omega) | exact rfl | exact Int.le_refl _) ?_ | refine ER.boxA rfl rfl rfl ?_ | refine ER.box rfl rfl rfl ?_ | refine ER.allocA rfl rfl ?_ | refine ER.alloc rfl rfl ?_ | refine ER.add (kd := .i64) rfl rfl rfl rfl (i64_in (by omega) (by omega)) ?_ | refine ER.sub' (kd := .i64) rfl rfl rfl rfl (i64_in (by omega) (by omega)) ?_ | refine ER.mul (kd := .i64) rfl rfl rfl rfl (i64_in (by omega) (by omega)) ?_ | refine ER.rem (kd := .i64) rfl rfl rfl rfl (by decide) rfl ?_ | refine ER.indexArr rfl rfl rfl rfl (by omega) (by omega) ?_ | refine ER.len1 rfl rfl rfl ?_ | refine ER.indexSl rfl rfl rfl rfl (by omega) (by omega) ?_ | refine EK.condT rfl ?_ | refine EK.condF rfl ?_ | refine EK.ret ?_ | refine EK.exit rfl ?_))
      have cS : hcell h2 ⟨Lb, 2, none⟩ = some s := bL ▸ x.rep.cell lp.lev.1 lp.lev.2 rfl
      refine EK.regionAnyL (fun h' => hcell h' ⟨Lb, 2, none⟩ = some s) 14 ?_
      have hZ := cS
      (first | refine EA.tMove 0 rfl (by kernel_rfl) (by kernel_rfl) (by kernel_rfl) rfl rfl rfl rfl hZ ?_ | refine EA.tAssign 0 rfl (by kernel_rfl) (by kernel_rfl) (by kernel_rfl) rfl rfl rfl rfl hZ ?_ | refine EA.tNil 0 rfl (by kernel_rfl) (by kernel_rfl) (by kernel_rfl) rfl rfl rfl rfl hZ ?_ | refine EA.tField 0 rfl (by kernel_rfl) (by kernel_rfl) (by kernel_rfl) rfl rfl rfl rfl hZ ?_ | refine EA.tNot 0 rfl (by kernel_rfl) (by kernel_rfl) (by kernel_rfl) rfl rfl rfl rfl hZ ?_ | refine EA.tAdd (kd := .i64) 0 rfl (by kernel_rfl) (by kernel_rfl) (by kernel_rfl) rfl rfl rfl rfl rfl (i64_in (by omega) (by omega)) hZ ?_ | refine EA.tSub (kd := .i64) 0 rfl (by kernel_rfl) (by kernel_rfl) (by kernel_rfl) rfl rfl rfl rfl rfl (i64_in (by omega) (by omega)) hZ ?_ | refine EA.tIdxA 0 rfl (by kernel_rfl) (by kernel_rfl) (by kernel_rfl) rfl rfl rfl rfl rfl (by omega) (by omega) hZ ?_ | refine EA.tIdxS 0 rfl (by kernel_rfl) (by kernel_rfl) (by kernel_rfl) rfl rfl rfl rfl rfl (by omega) (by omega) hZ ?_ | refine EA.tLen1 0 rfl (by kernel_rfl) (by kernel_rfl) (by kernel_rfl) rfl rfl rfl rfl hZ ?_ | refine EA.takeNo 0 rfl (by kernel_rfl) (by kernel_rfl) (by kernel_rfl) rfl rfl rfl hZ ?_ | refine EA.tPickT 0 rfl (by kernel_rfl) (by kernel_rfl) (by kernel_rfl) rfl rfl rfl rfl rfl hZ ?_ | refine EA.tPickF 0 rfl (by kernel_rfl) (by kernel_rfl) (by kernel_rfl) rfl rfl rfl rfl rfl hZ ?_ | refine EA.tCmpT 0 rfl (by kernel_rfl) (by kernel_rfl) (by kernel_rfl) rfl rfl rfl rfl rfl rfl (by first | (dsimp only [cmpP]; omega) | exact rfl | exact Int.le_refl _) hZ ?_ | refine EA.tCmpF 0 rfl (by kernel_rfl) (by kernel_rfl) (by kernel_rfl) rfl rfl rfl rfl rfl rfl (by first | (dsimp only [cmpP]; omega) | exact rfl | exact Int.le_refl _) hZ ?_ | refine EA.tMul (kd := .i64) 0 rfl (by kernel_rfl) (by kernel_rfl) (by kernel_rfl) rfl rfl rfl rfl rfl (i64_in (by omega) (by omega)) hZ ?_)
      (first | refine EA.tMove 1 rfl (by kernel_rfl) (by kernel_rfl) (by kernel_rfl) rfl rfl rfl rfl hZ ?_ | refine EA.tAssign 1 rfl (by kernel_rfl) (by kernel_rfl) (by kernel_rfl) rfl rfl rfl rfl hZ ?_ | refine EA.tNil 1 rfl (by kernel_rfl) (by kernel_rfl) (by kernel_rfl) rfl rfl rfl rfl hZ ?_ | refine EA.tField 1 rfl (by kernel_rfl) (by kernel_rfl) (by kernel_rfl) rfl rfl rfl rfl hZ ?_ | refine EA.tNot 1 rfl (by kernel_rfl) (by kernel_rfl) (by kernel_rfl) rfl rfl rfl rfl hZ ?_ | refine EA.tAdd (kd := .i64) 1 rfl (by kernel_rfl) (by kernel_rfl) (by kernel_rfl) rfl rfl rfl rfl rfl (i64_in (by omega) (by omega)) hZ ?_ | refine EA.tSub (kd := .i64) 1 rfl (by kernel_rfl) (by kernel_rfl) (by kernel_rfl) rfl rfl rfl rfl rfl (i64_in (by omega) (by omega)) hZ ?_ | refine EA.tIdxA 1 rfl (by kernel_rfl) (by kernel_rfl) (by kernel_rfl) rfl rfl rfl rfl rfl (by omega) (by omega) hZ ?_ | refine EA.tIdxS 1 rfl (by kernel_rfl) (by kernel_rfl) (by kernel_rfl) rfl rfl rfl rfl rfl (by omega) (by omega) hZ ?_ | refine EA.tLen1 1 rfl (by kernel_rfl) (by kernel_rfl) (by kernel_rfl) rfl rfl rfl rfl hZ ?_ | refine EA.takeNo 1 rfl (by kernel_rfl) (by kernel_rfl) (by kernel_rfl) rfl rfl rfl hZ ?_ | refine EA.tPickT 1 rfl (by kernel_rfl) (by kernel_rfl) (by kernel_rfl) rfl rfl rfl rfl rfl hZ ?_ | refine EA.tPickF 1 rfl (by kernel_rfl) (by kernel_rfl) (by kernel_rfl) rfl rfl rfl rfl rfl hZ ?_ | refine EA.tCmpT 1 rfl (by kernel_rfl) (by kernel_rfl) (by kernel_rfl) rfl rfl rfl rfl rfl rfl (by first | (dsimp only [cmpP]; omega) | exact rfl | exact Int.le_refl _) hZ ?_ | refine EA.tCmpF 1 rfl (by kernel_rfl) (by kernel_rfl) (by kernel_rfl) rfl rfl rfl rfl rfl rfl (by first | (dsimp only [cmpP]; omega) | exact rfl | exact Int.le_refl _) hZ ?_ | refine EA.tMul (kd := .i64) 1 rfl (by kernel_rfl) (by kernel_rfl) (by kernel_rfl) rfl rfl rfl rfl rfl (i64_in (by omega) (by omega)) hZ ?_)
      (first | refine EA.tMove 2 rfl (by kernel_rfl) (by kernel_rfl) (by kernel_rfl) rfl rfl rfl rfl hZ ?_ | refine EA.tAssign 2 rfl (by kernel_rfl) (by kernel_rfl) (by kernel_rfl) rfl rfl rfl rfl hZ ?_ | refine EA.tNil 2 rfl (by kernel_rfl) (by kernel_rfl) (by kernel_rfl) rfl rfl rfl rfl hZ ?_ | refine EA.tField 2 rfl (by kernel_rfl) (by kernel_rfl) (by kernel_rfl) rfl rfl rfl rfl hZ ?_ | refine EA.tNot 2 rfl (by kernel_rfl) (by kernel_rfl) (by kernel_rfl) rfl rfl rfl rfl hZ ?_ | refine EA.tAdd (kd := .i64) 2 rfl (by kernel_rfl) (by kernel_rfl) (by kernel_rfl) rfl rfl rfl rfl rfl (i64_in (by omega) (by omega)) hZ ?_ | refine EA.tSub (kd := .i64) 2 rfl (by kernel_rfl) (by kernel_rfl) (by kernel_rfl) rfl rfl rfl rfl rfl (i64_in (by omega) (by omega)) hZ ?_ | refine EA.tIdxA 2 rfl (by kernel_rfl) (by kernel_rfl) (by kernel_rfl) rfl rfl rfl rfl rfl (by omega) (by omega) hZ ?_ | refine EA.tIdxS 2 rfl (by kernel_rfl) (by kernel_rfl) (by kernel_rfl) rfl rfl rfl rfl rfl (by omega) (by omega) hZ ?_ | refine EA.tLen1 2 rfl (by kernel_rfl) (by kernel_rfl) (by kernel_rfl) rfl rfl rfl rfl hZ ?_ | refine EA.takeNo 2 rfl (by kernel_rfl) (by kernel_rfl) (by kernel_rfl) rfl rfl rfl hZ ?_ | refine EA.tPickT 2 rfl (by kernel_rfl) (by kernel_rfl) (by kernel_rfl) rfl rfl rfl rfl rfl hZ ?_ | refine EA.tPickF 2 rfl (by kernel_rfl) (by kernel_rfl) (by kernel_rfl) rfl rfl rfl rfl rfl hZ ?_ | refine EA.tCmpT 2 rfl (by kernel_rfl) (by kernel_rfl) (by kernel_rfl) rfl rfl rfl rfl rfl rfl (by first | (dsimp only [cmpP]; omega) | exact rfl | exact Int.le_refl _) hZ ?_ | refine EA.tCmpF 2 rfl (by kernel_rfl) (by kernel_rfl) (by kernel_rfl) rfl rfl rfl rfl rfl rfl (by first | (dsimp only [cmpP]; omega) | exact rfl | exact Int.le_refl _) hZ ?_ | refine EA.tMul (kd := .i64) 2 rfl (by kernel_rfl) (by kernel_rfl) (by kernel_rfl) rfl rfl rfl rfl rfl (i64_in (by omega) (by omega)) hZ ?_)
      (first | refine EA.tMove 3 rfl (by kernel_rfl) (by kernel_rfl) (by kernel_rfl) rfl rfl rfl rfl hZ ?_ | refine EA.tAssign 3 rfl (by kernel_rfl) (by kernel_rfl) (by kernel_rfl) rfl rfl rfl rfl hZ ?_ | refine EA.tNil 3 rfl (by kernel_rfl) (by kernel_rfl) (by kernel_rfl) rfl rfl rfl rfl hZ ?_ | refine EA.tField 3 rfl (by kernel_rfl) (by kernel_rfl) (by kernel_rfl) rfl rfl rfl rfl hZ ?_ | refine EA.tNot 3 rfl (by kernel_rfl) (by kernel_rfl) (by kernel_rfl) rfl rfl rfl rfl hZ ?_ | refine EA.tAdd (kd := .i64) 3 rfl (by kernel_rfl) (by kernel_rfl) (by kernel_rfl) rfl rfl rfl rfl rfl (i64_in (by omega) (by omega)) hZ ?_ | refine EA.tSub (kd := .i64) 3 rfl (by kernel_rfl) (by kernel_rfl) (by kernel_rfl) rfl rfl rfl rfl rfl (i64_in (by omega) (by omega)) hZ ?_ | refine EA.tIdxA 3 rfl (by kernel_rfl) (by kernel_rfl) (by kernel_rfl) rfl rfl rfl rfl rfl (by omega) (by omega) hZ ?_ | refine EA.tIdxS 3 rfl (by kernel_rfl) (by kernel_rfl) (by kernel_rfl) rfl rfl rfl rfl rfl (by omega) (by omega) hZ ?_ | refine EA.tLen1 3 rfl (by kernel_rfl) (by kernel_rfl) (by kernel_rfl) rfl rfl rfl rfl hZ ?_ | refine EA.takeNo 3 rfl (by kernel_rfl) (by kernel_rfl) (by kernel_rfl) rfl rfl rfl hZ ?_ | refine EA.tPickT 3 rfl (by kernel_rfl) (by kernel_rfl) (by kernel_rfl) rfl rfl rfl rfl rfl hZ ?_ | refine EA.tPickF 3 rfl (by kernel_rfl) (by kernel_rfl) (by kernel_rfl) rfl rfl rfl rfl rfl hZ ?_ | refine EA.tCmpT 3 rfl (by kernel_rfl) (by kernel_rfl) (by kernel_rfl) rfl rfl rfl rfl rfl rfl (by first | (dsimp only [cmpP]; omega) | exact rfl | exact Int.le_refl _) hZ ?_ | refine EA.tCmpF 3 rfl (by kernel_rfl) (by kernel_rfl) (by kernel_rfl) rfl rfl rfl rfl rfl rfl (by first | (dsimp only [cmpP]; omega) | exact rfl | exact Int.le_refl _) hZ ?_ | refine EA.tMul (kd := .i64) 3 rfl (by kernel_rfl) (by kernel_rfl) (by kernel_rfl) rfl rfl rfl rfl rfl (i64_in (by omega) (by omega)) hZ ?_)
      refine EA.tLoad 4 rfl (by kernel_rfl) (by kernel_rfl) (by kernel_rfl) rfl rfl rfl rfl (fun _ hz => hz) hZ ?_
      (first | refine EA.tMove 5 rfl (by kernel_rfl) (by kernel_rfl) (by kernel_rfl) rfl rfl rfl rfl hZ ?_ | refine EA.tAssign 5 rfl (by kernel_rfl) (by kernel_rfl) (by kernel_rfl) rfl rfl rfl rfl hZ ?_ | refine EA.tNil 5 rfl (by kernel_rfl) (by kernel_rfl) (by kernel_rfl) rfl rfl rfl rfl hZ ?_ | refine EA.tField 5 rfl (by kernel_rfl) (by kernel_rfl) (by kernel_rfl) rfl rfl rfl rfl hZ ?_ | refine EA.tNot 5 rfl (by kernel_rfl) (by kernel_rfl) (by kernel_rfl) rfl rfl rfl rfl hZ ?_ | refine EA.tAdd (kd := .i64) 5 rfl (by kernel_rfl) (by kernel_rfl) (by kernel_rfl) rfl rfl rfl rfl rfl (i64_in (by omega) (by omega)) hZ ?_ | refine EA.tSub (kd := .i64) 5 rfl (by kernel_rfl) (by kernel_rfl) (by kernel_rfl) rfl rfl rfl rfl rfl (i64_in (by omega) (by omega)) hZ ?_ | refine EA.tIdxA 5 rfl (by kernel_rfl) (by kernel_rfl) (by kernel_rfl) rfl rfl rfl rfl rfl (by omega) (by omega) hZ ?_ | refine EA.tIdxS 5 rfl (by kernel_rfl) (by kernel_rfl) (by kernel_rfl) rfl rfl rfl rfl rfl (by omega) (by omega) hZ ?_ | refine EA.tLen1 5 rfl (by kernel_rfl) (by kernel_rfl) (by kernel_rfl) rfl rfl rfl rfl hZ ?_ | refine EA.takeNo 5 rfl (by kernel_rfl) (by kernel_rfl) (by kernel_rfl) rfl rfl rfl hZ ?_ | refine EA.tPickT 5 rfl (by kernel_rfl) (by kernel_rfl) (by kernel_rfl) rfl rfl rfl rfl rfl hZ ?_ | refine EA.tPickF 5 rfl (by kernel_rfl) (by kernel_rfl) (by kernel_rfl) rfl rfl rfl rfl rfl hZ ?_ | refine EA.tCmpT 5 rfl (by kernel_rfl) (by kernel_rfl) (by kernel_rfl) rfl rfl rfl rfl rfl rfl (by first | (dsimp only [cmpP]; omega) | exact rfl | exact Int.le_refl _) hZ ?_ | refine EA.tCmpF 5 rfl (by kernel_rfl) (by kernel_rfl) (by kernel_rfl) rfl rfl rfl rfl rfl rfl (by first | (dsimp only [cmpP]; omega) | exact rfl | exact Int.le_refl _) hZ ?_ | refine EA.tMul (kd := .i64) 5 rfl (by kernel_rfl) (by kernel_rfl) (by kernel_rfl) rfl rfl rfl rfl rfl (i64_in (by omega) (by omega)) hZ ?_)
      refine EA.callD 6 rfl (by kernel_rfl) rfl rfl rfl rfl rfl rfl (cnewS (hF _ _ hsz)) (hcell_push hZ) ?_
      refine EA.callD 7 rfl (by kernel_rfl) rfl rfl rfl rfl rfl rfl (cnewS (hF _ _ (by simp; omega))) (hcell_push (hcell_push hZ)) ?_
      refine EA.callD 8 rfl (by kernel_rfl) rfl rfl rfl rfl rfl rfl (cnewS (hF _ _ (by simp; omega))) (hcell_push (hcell_push (hcell_push hZ))) ?_
      have hZ := hcell_push (o := cellO 0) (hcell_push (o := cellO 0) (hcell_push (o := cellO j) hZ))
      obtain ⟨bt, hbt⟩ : ∃ bt, bt = h2.size := ⟨_, rfl⟩
      obtain ⟨bk, hbk⟩ : ∃ bk, bk = (h2.push (cellO j)).size := ⟨_, rfl⟩
      obtain ⟨bs, hbs⟩ : ∃ bs, bs = ((h2.push (cellO j)).push (cellO 0)).size := ⟨_, rfl⟩
      rw [← hbt, ← hbk, ← hbs]
      have r3 := ((x.rep.put (kTurn i j) (cellO j)).put (kTick i j) (cellO 0)).put (kSlot i j) (cellO 0)
      rw [← hbt, ← hbk, ← hbs] at r3
      have sl3 := ((lp.sl.put (j := kTurn i j) (by simp) bt (cellO j)).put (j := kTick i j) (by simp) bk (cellO 0)).put (j := kSlot i j) (by simp) bs (cellO 0)
      have u3 : Upd (fun _ => False) h (((h2.push (cellO j)).push (cellO 0)).push (cellO 0)) := ((x.upd.trans (Upd.push _ _)).trans (Upd.push _ _)).trans (Upd.push _ _)
      have hbge : h.size ≤ bt ∧ h.size ≤ bk ∧ h.size ≤ bs := by subst hbt hbk hbs; simp; omega
      change EA _ _ _ _ _ _ _ _ _ _ _ _ _ (((h2.push (cellO j)).push (cellO 0)).push (cellO 0)) _ _
      change hcell (((h2.push (cellO j)).push (cellO 0)).push (cellO 0)) _ = _ at hZ
      generalize ((h2.push (cellO j)).push (cellO 0)).push (cellO 0) = h3 at r3 u3 hZ ⊢
      have hsz3 := u3.size
      refine EA.val 9 rfl (by kernel_rfl) rfl rfl rfl (fun ρ Q X hρ hq => sem_buildS (cells := #[ptr bt, ptr bk, ptr bs]) hρ rfl rfl hq) hZ ?_
      refine EA.val (v := .slice (some ⟨h3.size, 0, none⟩) 1 1) (h' := h3.push (.cells #[ptr bt, ptr bk, ptr bs] 241)) 10 rfl (by kernel_rfl) rfl rfl rfl (fun ρ Q X hρ hq => sem_slice1 (sz := 3) hρ rfl (by omega) (by omega) rfl rfl hq) (hcell_push hZ) ?_
      have hZ := hcell_push (o := .cells #[ptr bt, ptr bk, ptr bs] 241) hZ
      have r4 := r3.upd0 (Upd.push h3 (.cells #[ptr bt, ptr bk, ptr bs] 241))
      have u4 := u3.trans (Upd.push (T := fun _ => False) h3 (.cells #[ptr bt, ptr bk, ptr bs] 241))
      have n4 := get_push_new h3 (.cells #[ptr bt, ptr bk, ptr bs] 241)
      generalize h3.push (.cells #[ptr bt, ptr bk, ptr bs] 241) = h4 at r4 u4 n4 hZ ⊢
      clear r3 u3
      have hsz4 := u4.size
      refine EA.append1 (new := [ptr bt, ptr bk, ptr bs]) 11 rfl (by kernel_rfl) rfl rfl rfl rfl rfl (sl3.slice r4) n4 rfl (by simp [OneCell]) (by omega) (by omega) rfl (fun b o hb => hF _ _ (by
        obtain ⟨hk, e⟩ := lp.sl.blk hb
        rw [e]; exact x.above _ hk)) ?_
      intro s' h5 hs5 u5 hb5
      have hblk : ∀ b, blk s = some b → b ≠ Lb := fun b hb e => by
        obtain ⟨hk, e'⟩ := lp.sl.blk hb
        have := x.rep.inj (kPls i) (kLev i) hk lp.lev.1 (by rw [bL, ← e', e])
        simp at this
      have hZ5 := u5.hcell hZ (fun y => hblk _ y rfl)
      refine ⟨hZ5, ?_⟩
      obtain ⟨b, o, r5, sl5, hb', hlt5⟩ := r4.app sl3 hs5 u5 hb5
      have hab : h.size ≤ b := by
        rcases hb' with ⟨hk, e⟩ | y
        · have hk' : M.ok (kPls i) := by simpa [Mem.put] using hk
          have := x.above _ hk'
          rw [e]; simpa [Mem.put, ut] using this
        · omega
      obtain ⟨M5, hM5⟩ : ∃ M5, M5 = (((M.put (kTurn i j) bt (cellO j)).put (kTick i j) bk (cellO 0)).put (kSlot i j) bs (cellO 0)).put (kPls i) b o := ⟨_, rfl⟩
      rw [← hM5] at r5 sl5
      have lp6 := lp.round hM5 sl5
      have okL : M5.ok (kLev i) := by subst hM5; simp [Mem.put]; exact lp.lev.1
      have oL : M5.O (kLev i) = .cells #[ptr (M.B (kIn i)), ptr (M.B (kOut i)), s] 239 (0, 0) := by subst hM5; simp [Mem.put, ut]; exact lp.lev.2
      have bL5 : M5.B (kLev i) = Lb := by subst hM5; simp [Mem.put, ut]; exact bL
      have r6 := r5.hset okL oL 2 s'
      rw [bL5] at r6
      have e6 : Ext M (M5.set (kLev i) (.cells #[ptr (M.B (kIn i)), ptr (M.B (kOut i)), s'] 239 (0, 0))) (fun k => ((((k = kTurn i j ∨ k = kTick i j) ∨ k = kSlot i j) ∨ k = kPls i) ∨ k = kLev i)) := by
        subst hM5
        exact ((((Ext.put _ _ _ _).trans (Ext.put _ _ _ _)).trans (Ext.put _ _ _ _)).trans (Ext.put _ _ _ _)).trans (Ext.set _ _ _)
      have hLbge : h.size ≤ Lb := bL ▸ x.above _ lp.lev.1
      have u6 : Upd (fun _ => False) h (hset h5 ⟨Lb, 2, none⟩ s') := (u4.over u5 (fun b hb => by
        obtain ⟨hk, e⟩ := lp.sl.blk hb
        rw [e]; exact x.above _ hk)).over (Upd.hset (T := fun b => b = Lb) _ _ _ rfl) (fun b hb => by rw [hb]; exact hLbge)
      have x6 := x.ext e6 (fun k hk => by rcases hk with (((rfl | rfl) | rfl) | rfl) | rfl <;> rfl) r6 u6 (fun k hk _ => by
        subst hM5
        rcases hk with (((rfl | rfl) | rfl) | rfl) | rfl
        · simp [Mem.set, Mem.put, ut]; exact hbge.1
        · simp [Mem.set, Mem.put, ut]; exact hbge.2.1
        · simp [Mem.set, Mem.put, ut]; exact hbge.2.2
        · simp [Mem.set, Mem.put, ut]; exact hab
        · exact Nat.le_trans hLbge (Nat.le_of_eq bL5.symm)) (by omega)
      obtain ⟨a5, c5, es5⟩ := hs5.val
      have one5 : OneCell s' := by rw [es5]; exact ⟨nofun, nofun⟩
      have frz : hfroz h5 ⟨Lb, 2, none⟩ = false := bL5 ▸ hfroz_of (r5.get okL oL)
      have hZ := hZ5
      refine EA.val 12 rfl (by kernel_rfl) rfl rfl rfl (fun ρ Q X hρ hq => sem_nilCheck (hρ _ _ rfl) hq) hZ ?_
      (first | refine EA.tMove 13 rfl (by kernel_rfl) (by kernel_rfl) (by kernel_rfl) rfl rfl rfl rfl hZ ?_ | refine EA.tAssign 13 rfl (by kernel_rfl) (by kernel_rfl) (by kernel_rfl) rfl rfl rfl rfl hZ ?_ | refine EA.tNil 13 rfl (by kernel_rfl) (by kernel_rfl) (by kernel_rfl) rfl rfl rfl rfl hZ ?_ | refine EA.tField 13 rfl (by kernel_rfl) (by kernel_rfl) (by kernel_rfl) rfl rfl rfl rfl hZ ?_ | refine EA.tNot 13 rfl (by kernel_rfl) (by kernel_rfl) (by kernel_rfl) rfl rfl rfl rfl hZ ?_ | refine EA.tAdd (kd := .i64) 13 rfl (by kernel_rfl) (by kernel_rfl) (by kernel_rfl) rfl rfl rfl rfl rfl (i64_in (by omega) (by omega)) hZ ?_ | refine EA.tSub (kd := .i64) 13 rfl (by kernel_rfl) (by kernel_rfl) (by kernel_rfl) rfl rfl rfl rfl rfl (i64_in (by omega) (by omega)) hZ ?_ | refine EA.tIdxA 13 rfl (by kernel_rfl) (by kernel_rfl) (by kernel_rfl) rfl rfl rfl rfl rfl (by omega) (by omega) hZ ?_ | refine EA.tIdxS 13 rfl (by kernel_rfl) (by kernel_rfl) (by kernel_rfl) rfl rfl rfl rfl rfl (by omega) (by omega) hZ ?_ | refine EA.tLen1 13 rfl (by kernel_rfl) (by kernel_rfl) (by kernel_rfl) rfl rfl rfl rfl hZ ?_ | refine EA.takeNo 13 rfl (by kernel_rfl) (by kernel_rfl) (by kernel_rfl) rfl rfl rfl hZ ?_ | refine EA.tPickT 13 rfl (by kernel_rfl) (by kernel_rfl) (by kernel_rfl) rfl rfl rfl rfl rfl hZ ?_ | refine EA.tPickF 13 rfl (by kernel_rfl) (by kernel_rfl) (by kernel_rfl) rfl rfl rfl rfl rfl hZ ?_ | refine EA.tCmpT 13 rfl (by kernel_rfl) (by kernel_rfl) (by kernel_rfl) rfl rfl rfl rfl rfl rfl (by first | (dsimp only [cmpP]; omega) | exact rfl | exact Int.le_refl _) hZ ?_ | refine EA.tCmpF 13 rfl (by kernel_rfl) (by kernel_rfl) (by kernel_rfl) rfl rfl rfl rfl rfl rfl (by first | (dsimp only [cmpP]; omega) | exact rfl | exact Int.le_refl _) hZ ?_ | refine EA.tMul (kd := .i64) 13 rfl (by kernel_rfl) (by kernel_rfl) (by kernel_rfl) rfl rfl rfl rfl rfl (i64_in (by omega) (by omega)) hZ ?_)
      refine EA.unitL 14 rfl (by kernel_rfl) rfl rfl rfl (fun ρ Q X hρ hq => sem_store1 (hρ _ _ rfl) (hρ _ _ rfl) one5 ⟨_, hZ5⟩ frz (hF _ _ hLbge) hq) ?_
      refine EA.done (by kernel_rfl) ?_
      (repeat (first | refine EK.seq ?_ | refine EK.region ?_ | refine ER.done ?_ | refine EK.skip ?_ | refine EK.block ?_ | refine EK.inBlock ?_ | refine ER.move rfl rfl rfl ?_ | refine ER.assign rfl rfl rfl ?_ | refine ER.nilCheck rfl rfl rfl ?_ | refine ER.fieldAddr rfl rfl rfl ?_ | refine ER.load1 rfl rfl rfl (hcell_of (by assumption) rfl) ?_ | refine ER.no rfl rfl ?_ | refine ER.noU rfl ?_ | refine ER.eqV rfl rfl rfl rfl rfl ?_ | refine ER.neqV rfl rfl rfl rfl rfl ?_ | refine ER.eqA rfl rfl rfl rfl rfl ?_ | refine ER.neqA rfl rfl rfl rfl rfl ?_ | refine ER.notB rfl rfl rfl ?_ | refine ER.pickT rfl rfl rfl rfl ?_ | refine ER.pickF rfl rfl rfl rfl ?_ | refine ER.extract rfl rfl rfl rfl ?_ | refine ER.cmpT rfl rfl rfl rfl rfl (by first | (dsimp only [cmpP]; omega) | exact rfl | exact Int.le_refl _) ?_ | refine ER.cmpF rfl rfl rfl rfl rfl (by first | (dsimp only [cmpP]; omega) | exact rfl | exact Int.le_refl _) ?_ | refine ER.boxA rfl rfl rfl ?_ | refine ER.box rfl rfl rfl ?_ | refine ER.allocA rfl rfl ?_ | refine ER.alloc rfl rfl ?_ | refine ER.add (kd := .i64) rfl rfl rfl rfl (i64_in (by omega) (by omega)) ?_ | refine ER.sub' (kd := .i64) rfl rfl rfl rfl (i64_in (by omega) (by omega)) ?_ | refine ER.mul (kd := .i64) rfl rfl rfl rfl (i64_in (by omega) (by omega)) ?_ | refine ER.rem (kd := .i64) rfl rfl rfl rfl (by decide) rfl ?_ | refine ER.indexArr rfl rfl rfl rfl (by omega) (by omega) ?_ | refine ER.len1 rfl rfl rfl ?_ | refine ER.indexSl rfl rfl rfl rfl (by omega) (by omega) ?_ | refine EK.condT rfl ?_ | refine EK.condF rfl ?_ | refine EK.ret ?_ | refine EK.exit rfl ?_))
      exact EK.back (again2 ⟨j + 1, _, s'⟩ _ _ (by dsimp only; omega) ⟨rfl, by dsimp only; omega, x6, lp6, bL5⟩) ⟨rfl, rfl, rfl, rfl, rfl, rfl, rfl, rfl, trivial⟩
    · obtain rfl : j = m := by omega
      clear again2
      (repeat (first | refine EK.seq ?_ | refine EK.region ?_ | refine ER.done ?_ | refine EK.skip ?_ | refine EK.block ?_ | refine EK.inBlock ?_ | refine ER.move rfl rfl rfl ?_ | refine ER.assign rfl rfl rfl ?_ | refine ER.nilCheck rfl rfl rfl ?_ | refine ER.fieldAddr rfl rfl rfl ?_ | refine ER.load1 rfl rfl rfl (hcell_of (by assumption) rfl) ?_ | refine ER.no rfl rfl ?_ | refine ER.noU rfl ?_ | refine ER.eqV rfl rfl rfl rfl rfl ?_ | refine ER.neqV rfl rfl rfl rfl rfl ?_ | refine ER.eqA rfl rfl rfl rfl rfl ?_ | refine ER.neqA rfl rfl rfl rfl rfl ?_ | refine ER.notB rfl rfl rfl ?_ | refine ER.pickT rfl rfl rfl rfl ?_ | refine ER.pickF rfl rfl rfl rfl ?_ | refine ER.extract rfl rfl rfl rfl ?_ | refine ER.cmpT rfl rfl rfl rfl rfl (by first | (dsimp only [cmpP]; omega) | exact rfl | exact Int.le_refl _) ?_ | refine ER.cmpF rfl rfl rfl rfl rfl (by first | (dsimp only [cmpP]; omega) | exact rfl | exact Int.le_refl _) ?_ | refine ER.boxA rfl rfl rfl ?_ | refine ER.box rfl rfl rfl ?_ | refine ER.allocA rfl rfl ?_ | refine ER.alloc rfl rfl ?_ | refine ER.add (kd := .i64) rfl rfl rfl rfl (i64_in (by omega) (by omega)) ?_ | refine ER.sub' (kd := .i64) rfl rfl rfl rfl (i64_in (by omega) (by omega)) ?_ | refine ER.mul (kd := .i64) rfl rfl rfl rfl (i64_in (by omega) (by omega)) ?_ | refine ER.rem (kd := .i64) rfl rfl rfl rfl (by decide) rfl ?_ | refine ER.indexArr rfl rfl rfl rfl (by omega) (by omega) ?_ | refine ER.len1 rfl rfl rfl ?_ | refine ER.indexSl rfl rfl rfl rfl (by omega) (by omega) ?_ | refine EK.condT rfl ?_ | refine EK.condF rfl ?_ | refine EK.ret ?_ | refine EK.exit rfl ?_))
      have cT : hcell h2 ⟨T, 1, none⟩ = some sL := x.topB ▸ x.rep.cell x.top.1 x.top.2 rfl
      refine ER.load1 rfl rfl rfl cT ?_
      (repeat (first | refine EK.seq ?_ | refine EK.region ?_ | refine ER.done ?_ | refine EK.skip ?_ | refine EK.block ?_ | refine EK.inBlock ?_ | refine ER.move rfl rfl rfl ?_ | refine ER.assign rfl rfl rfl ?_ | refine ER.nilCheck rfl rfl rfl ?_ | refine ER.fieldAddr rfl rfl rfl ?_ | refine ER.load1 rfl rfl rfl (hcell_of (by assumption) rfl) ?_ | refine ER.no rfl rfl ?_ | refine ER.noU rfl ?_ | refine ER.eqV rfl rfl rfl rfl rfl ?_ | refine ER.neqV rfl rfl rfl rfl rfl ?_ | refine ER.eqA rfl rfl rfl rfl rfl ?_ | refine ER.neqA rfl rfl rfl rfl rfl ?_ | refine ER.notB rfl rfl rfl ?_ | refine ER.pickT rfl rfl rfl rfl ?_ | refine ER.pickF rfl rfl rfl rfl ?_ | refine ER.extract rfl rfl rfl rfl ?_ | refine ER.cmpT rfl rfl rfl rfl rfl (by first | (dsimp only [cmpP]; omega) | exact rfl | exact Int.le_refl _) ?_ | refine ER.cmpF rfl rfl rfl rfl rfl (by first | (dsimp only [cmpP]; omega) | exact rfl | exact Int.le_refl _) ?_ | refine ER.boxA rfl rfl rfl ?_ | refine ER.box rfl rfl rfl ?_ | refine ER.allocA rfl rfl ?_ | refine ER.alloc rfl rfl ?_ | refine ER.add (kd := .i64) rfl rfl rfl rfl (i64_in (by omega) (by omega)) ?_ | refine ER.sub' (kd := .i64) rfl rfl rfl rfl (i64_in (by omega) (by omega)) ?_ | refine ER.mul (kd := .i64) rfl rfl rfl rfl (i64_in (by omega) (by omega)) ?_ | refine ER.rem (kd := .i64) rfl rfl rfl rfl (by decide) rfl ?_ | refine ER.indexArr rfl rfl rfl rfl (by omega) (by omega) ?_ | refine ER.len1 rfl rfl rfl ?_ | refine ER.indexSl rfl rfl rfl rfl (by omega) (by omega) ?_ | refine EK.condT rfl ?_ | refine EK.condF rfl ?_ | refine EK.ret ?_ | refine EK.exit rfl ?_))
      refine ER.slice1 (cells := #[ptr Lb]) rfl rfl rfl (by omega) (by omega) (by rfl) rfl ?_
      have r3 := x.rep.upd0 (Upd.push h2 (.cells #[ptr Lb] 236))
      have u3 := x.upd.trans (Upd.push (T := fun _ => False) h2 (.cells #[ptr Lb] 236))
      have n3 := get_push_new h2 (.cells #[ptr Lb] 236)
      have cT3 := hcell_push (o := .cells #[ptr Lb] 236) cT
      generalize h2.push (.cells #[ptr Lb] 236) = h3 at r3 u3 n3 cT3 ⊢
      have hsz3 := u3.size
      refine ER.append1 (new := [ptr Lb]) rfl rfl rfl rfl (x.sl.slice r3) n3 rfl (by simp [OneCell]) (by omega) (by omega) (by rfl) (fun b o hb => hF _ _ (by
        obtain ⟨hk, e⟩ := x.sl.blk hb
        rw [e]; exact x.above _ hk)) ?_
      intro sL' h4 hs4 u4 hb4
      have hblk : ∀ b, blk sL = some b → b ≠ T := fun b hb e => by
        obtain ⟨hk, e'⟩ := x.sl.blk hb
        have := x.rep.inj kLvs kTop hk x.top.1 (by rw [x.topB, ← e', e])
        simp at this
      have cT4 := u4.hcell cT3 (fun y => hblk _ y rfl)
      obtain ⟨b, o, r4, sl4, hb', hlt4⟩ := r3.app x.sl hs4 u4 hb4
      have hab : h.size ≤ b := by
        rcases hb' with ⟨hk, e⟩ | y
        · rw [e]; exact x.above _ hk
        · omega
      have okT : (M.put kLvs b o).ok kTop := .inr x.top.1
      have oT : (M.put kLvs b o).O kTop = .cells #[ptr (M.B kTk), sL] 187 (0, 0) := by simp [Mem.put, ut]; exact x.top.2
      have bT : (M.put kLvs b o).B kTop = T := by simp [Mem.put, ut]; exact x.topB
      have r5 := r4.hset okT oT 1 sL'
      rw [bT] at r5
      have hTge : h.size ≤ T := x.topB ▸ x.above _ x.top.1
      have u5 : Upd (fun _ => False) h (hset h4 ⟨T, 1, none⟩ sL') := (u3.over u4 (fun b hb => by
        obtain ⟨hk, e⟩ := x.sl.blk hb
        rw [e]; exact x.above _ hk)).over (Upd.hset (T := fun b => b = T) _ _ _ rfl) (fun b hb => by rw [hb]; exact hTge)
      have e5 : Ext M ((M.put kLvs b o).set kTop (.cells #[ptr (M.B kTk), sL'] 187 (0, 0))) (fun k => k = kLvs ∨ k = kTop) := (Ext.put _ _ _ _).trans (Ext.set _ _ _)
      have hne : ∀ k : Key, k.2.1 ≠ 0 → ¬ (k = kLvs ∨ k = kTop) := fun k hk y => by rcases y with rfl | rfl <;> exact hk rfl
      have x5 : NewI h (hset h4 ⟨T, 1, none⟩ sL') ((M.put kLvs b o).set kTop (.cells #[ptr (M.B kTk), sL'] 187 (0, 0))) T j (i + 1) (i + 1) sL' := by
        refine ⟨r5, u5, fun k hk => ?_, ⟨okT, ?_⟩, bT, ⟨(e5 kTk (by simp)).1.mpr x.tk.1, (e5 kTk (by simp)).2.2.trans x.tk.2⟩, ?_, fun q hq => ?_, fun q hq hk => ?_⟩
        · by_cases h1 : k = kLvs
          · subst h1; simp [Mem.set, Mem.put, ut]; exact hab
          · by_cases h2 : k = kTop
            · subst h2; exact Nat.le_trans hTge (Nat.le_of_eq bT.symm)
            · rw [(e5 k (fun y => y.elim h1 h2)).2.1]
              exact x.above k ((e5 k (fun y => y.elim h1 h2)).1.mp hk)
        · rw [(e5 kTk (by simp)).2.1]; simp [Mem.set, ut]
        · have e1 : (List.range (i + 1)).map (fun q => ptr (((M.put kLvs b o).set kTop (.cells #[ptr (M.B kTk), sL'] 187 (0, 0))).B (kLev q))) = (List.range i).map (fun q => ptr (M.B (kLev q))) ++ [ptr Lb] := by
            rw [List.range_succ, List.map_append]
            congr 1
            · simp only [List.map_cons, List.map_nil]
              rw [(e5 (kLev i) (hne _ (by show i + 1 ≠ 0; omega))).2.1, bL]
          rw [e1]
          exact sl4.set (by simp) _
        · by_cases hqi : q = i
          · subst hqi
            exact ⟨s, lp.congr e5 (fun k hk => hne k (by rw [hk.1]; omega))⟩
          · obtain ⟨s', hs'⟩ := x.levs q (by omega)
            exact ⟨s', hs'.congr e5 (fun k hk => hne k (by rw [hk.1]; omega))⟩
        · exact x.rest q hq ((e5 (kPls q) (hne _ (by show q + 1 ≠ 0; omega))).1.mp hk)
      obtain ⟨a4, c4, es4⟩ := hs4.val
      have one4 : OneCell sL' := by rw [es4]; exact ⟨nofun, nofun⟩
      have frz : hfroz h4 ⟨T, 1, none⟩ = false := bT ▸ hfroz_of (r4.get okT oT)
      (repeat (first | refine EK.seq ?_ | refine EK.region ?_ | refine ER.done ?_ | refine EK.skip ?_ | refine EK.block ?_ | refine EK.inBlock ?_ | refine ER.move rfl rfl rfl ?_ | refine ER.assign rfl rfl rfl ?_ | refine ER.nilCheck rfl rfl rfl ?_ | refine ER.fieldAddr rfl rfl rfl ?_ | refine ER.load1 rfl rfl rfl (hcell_of (by assumption) rfl) ?_ | refine ER.no rfl rfl ?_ | refine ER.noU rfl ?_ | refine ER.eqV rfl rfl rfl rfl rfl ?_ | refine ER.neqV rfl rfl rfl rfl rfl ?_ | refine ER.eqA rfl rfl rfl rfl rfl ?_ | refine ER.neqA rfl rfl rfl rfl rfl ?_ | refine ER.notB rfl rfl rfl ?_ | refine ER.pickT rfl rfl rfl rfl ?_ | refine ER.pickF rfl rfl rfl rfl ?_ | refine ER.extract rfl rfl rfl rfl ?_ | refine ER.cmpT rfl rfl rfl rfl rfl (by first | (dsimp only [cmpP]; omega) | exact rfl | exact Int.le_refl _) ?_ | refine ER.cmpF rfl rfl rfl rfl rfl (by first | (dsimp only [cmpP]; omega) | exact rfl | exact Int.le_refl _) ?_ | refine ER.boxA rfl rfl rfl ?_ | refine ER.box rfl rfl rfl ?_ | refine ER.allocA rfl rfl ?_ | refine ER.alloc rfl rfl ?_ | refine ER.add (kd := .i64) rfl rfl rfl rfl (i64_in (by omega) (by omega)) ?_ | refine ER.sub' (kd := .i64) rfl rfl rfl rfl (i64_in (by omega) (by omega)) ?_ | refine ER.mul (kd := .i64) rfl rfl rfl rfl (i64_in (by omega) (by omega)) ?_ | refine ER.rem (kd := .i64) rfl rfl rfl rfl (by decide) rfl ?_ | refine ER.indexArr rfl rfl rfl rfl (by omega) (by omega) ?_ | refine ER.len1 rfl rfl rfl ?_ | refine ER.indexSl rfl rfl rfl rfl (by omega) (by omega) ?_ | refine EK.condT rfl ?_ | refine EK.condF rfl ?_ | refine EK.ret ?_ | refine EK.exit rfl ?_))
      refine ER.store1 rfl rfl rfl one4 ⟨_, cT4⟩ frz (hF _ _ hTge) ?_
      (repeat (first | refine EK.seq ?_ | refine EK.region ?_ | refine ER.done ?_ | refine EK.skip ?_ | refine EK.block ?_ | refine EK.inBlock ?_ | refine ER.move rfl rfl rfl ?_ | refine ER.assign rfl rfl rfl ?_ | refine ER.nilCheck rfl rfl rfl ?_ | refine ER.fieldAddr rfl rfl rfl ?_ | refine ER.load1 rfl rfl rfl (hcell_of (by assumption) rfl) ?_ | refine ER.no rfl rfl ?_ | refine ER.noU rfl ?_ | refine ER.eqV rfl rfl rfl rfl rfl ?_ | refine ER.neqV rfl rfl rfl rfl rfl ?_ | refine ER.eqA rfl rfl rfl rfl rfl ?_ | refine ER.neqA rfl rfl rfl rfl rfl ?_ | refine ER.notB rfl rfl rfl ?_ | refine ER.pickT rfl rfl rfl rfl ?_ | refine ER.pickF rfl rfl rfl rfl ?_ | refine ER.extract rfl rfl rfl rfl ?_ | refine ER.cmpT rfl rfl rfl rfl rfl (by first | (dsimp only [cmpP]; omega) | exact rfl | exact Int.le_refl _) ?_ | refine ER.cmpF rfl rfl rfl rfl rfl (by first | (dsimp only [cmpP]; omega) | exact rfl | exact Int.le_refl _) ?_ | refine ER.boxA rfl rfl rfl ?_ | refine ER.box rfl rfl rfl ?_ | refine ER.allocA rfl rfl ?_ | refine ER.alloc rfl rfl ?_ | refine ER.add (kd := .i64) rfl rfl rfl rfl (i64_in (by omega) (by omega)) ?_ | refine ER.sub' (kd := .i64) rfl rfl rfl rfl (i64_in (by omega) (by omega)) ?_ | refine ER.mul (kd := .i64) rfl rfl rfl rfl (i64_in (by omega) (by omega)) ?_ | refine ER.rem (kd := .i64) rfl rfl rfl rfl (by decide) rfl ?_ | refine ER.indexArr rfl rfl rfl rfl (by omega) (by omega) ?_ | refine ER.len1 rfl rfl rfl ?_ | refine ER.indexSl rfl rfl rfl rfl (by omega) (by omega) ?_ | refine EK.condT rfl ?_ | refine EK.condF rfl ?_ | refine EK.ret ?_ | refine EK.exit rfl ?_))
      exact EK.back (again ⟨i + 1, _, sL'⟩ _ _ (by dsimp only; omega) ⟨rfl, by dsimp only; omega, x5⟩) ⟨rfl, rfl, rfl, rfl, rfl, trivial⟩
  · obtain rfl : i = L := by omega
    have key : ∀ q : Nat, ∃ p : Nat × List Value, q < i → (M.ok (kLev q) ∧ M.O (kLev q) = .cells #[ptr (M.B (kIn q)), ptr (M.B (kOut q)), .slice (some ⟨M.B (kPls q), 0, none⟩) m p.1] 239 (0, 0)) ∧ (M.ok (kPls q) ∧ M.O (kPls q) = .cells (((List.range m).flatMap fun j => [ptr (M.B (kTurn q j)), ptr (M.B (kTick q j)), ptr (M.B (kSlot q j))]) ++ p.2).toArray 241 (0, 0)) := by
      intro q
      by_cases hq : q < i
      · obtain ⟨s, lp⟩ := x.levs q hq
        rcases lp.sl.2 with ⟨_, h0, _⟩ | ⟨hk, cap, rest, rfl, _, _, h3⟩
        · omega
        · exact ⟨(cap, rest), fun _ => ⟨lp.lev, hk, h3⟩⟩
      · exact ⟨(0, []), fun y => absurd y hq⟩
    obtain ⟨fp, hfp⟩ := Classical.axiomOfChoice key
    have xl := x.sl.2
    rcases xl with ⟨_, h0, _⟩ | ⟨hkL, capL, rL, rfl, _, _, hoL⟩
    · omega
    obtain ⟨G, hG⟩ : ∃ G : PG, G = ⟨i, m, capL, fun q => (fp q).1, rL, fun q => (fp q).2, M.B⟩ := ⟨_, rfl⟩
    have gL : G.L = i := by rw [hG]
    have gm : G.m = m := by rw [hG]
    have gB : G.B = M.B := by rw [hG]
    have all : ∀ k, okP i m k → M.ok k ∧ M.O k = priO G v0 k := by
      intro k hk
      rcases okP_cases hk with rfl | rfl | rfl | ⟨q, hq, rfl | rfl | rfl | rfl⟩ | ⟨q, j, hq, hj, rfl | rfl | rfl⟩
      · exact ⟨x.top.1, by rw [x.top.2, hG]; rfl⟩
      · exact ⟨hkL, by rw [hoL, hG]; rfl⟩
      · exact ⟨x.tk.1, by rw [x.tk.2]; rfl⟩
      · exact ⟨(hfp q hq).1.1, by rw [(hfp q hq).1.2, hG]; rfl⟩
      · exact ⟨(hfp q hq).2.1, by rw [(hfp q hq).2.2, hG]; rfl⟩
      · obtain ⟨s, lp⟩ := x.levs q hq; exact ⟨lp.inn.1, by rw [lp.inn.2]; rfl⟩
      · obtain ⟨s, lp⟩ := x.levs q hq; exact ⟨lp.out.1, by rw [lp.out.2]; rfl⟩
      · obtain ⟨s, lp⟩ := x.levs q hq; exact ⟨(lp.val j hj).1.1, by rw [(lp.val j hj).1.2]; rfl⟩
      · obtain ⟨s, lp⟩ := x.levs q hq; exact ⟨(lp.val j hj).2.1.1, by rw [(lp.val j hj).2.1.2]; rfl⟩
      · obtain ⟨s, lp⟩ := x.levs q hq; exact ⟨(lp.val j hj).2.2.1, by rw [(lp.val j hj).2.2.2]; rfl⟩
    have rG : Pri h1 G v0 := x.rep.congr (fun k hk => (all k (by rw [← gL, ← gm]; exact hk)).1) (fun k _ => congrFun gB k) (fun k hk => (all k (by rw [← gL, ← gm]; exact hk)).2.symm)
    have hTB : G.B kTop = T := by rw [gB]; exact x.topB
    (repeat (first | refine EK.seq ?_ | refine EK.region ?_ | refine ER.done ?_ | refine EK.skip ?_ | refine EK.block ?_ | refine EK.inBlock ?_ | refine ER.move rfl rfl rfl ?_ | refine ER.assign rfl rfl rfl ?_ | refine ER.nilCheck rfl rfl rfl ?_ | refine ER.fieldAddr rfl rfl rfl ?_ | refine ER.load1 rfl rfl rfl (hcell_of (by assumption) rfl) ?_ | refine ER.no rfl rfl ?_ | refine ER.noU rfl ?_ | refine ER.eqV rfl rfl rfl rfl rfl ?_ | refine ER.neqV rfl rfl rfl rfl rfl ?_ | refine ER.eqA rfl rfl rfl rfl rfl ?_ | refine ER.neqA rfl rfl rfl rfl rfl ?_ | refine ER.notB rfl rfl rfl ?_ | refine ER.pickT rfl rfl rfl rfl ?_ | refine ER.pickF rfl rfl rfl rfl ?_ | refine ER.extract rfl rfl rfl rfl ?_ | refine ER.cmpT rfl rfl rfl rfl rfl (by first | (dsimp only [cmpP]; omega) | exact rfl | exact Int.le_refl _) ?_ | refine ER.cmpF rfl rfl rfl rfl rfl (by first | (dsimp only [cmpP]; omega) | exact rfl | exact Int.le_refl _) ?_ | refine ER.boxA rfl rfl rfl ?_ | refine ER.box rfl rfl rfl ?_ | refine ER.allocA rfl rfl ?_ | refine ER.alloc rfl rfl ?_ | refine ER.add (kd := .i64) rfl rfl rfl rfl (i64_in (by omega) (by omega)) ?_ | refine ER.sub' (kd := .i64) rfl rfl rfl rfl (i64_in (by omega) (by omega)) ?_ | refine ER.mul (kd := .i64) rfl rfl rfl rfl (i64_in (by omega) (by omega)) ?_ | refine ER.rem (kd := .i64) rfl rfl rfl rfl (by decide) rfl ?_ | refine ER.indexArr rfl rfl rfl rfl (by omega) (by omega) ?_ | refine ER.len1 rfl rfl rfl ?_ | refine ER.indexSl rfl rfl rfl rfl (by omega) (by omega) ?_ | refine EK.condT rfl ?_ | refine EK.condF rfl ?_ | refine EK.ret ?_ | refine EK.exit rfl ?_))
    refine EU.ret2 rfl rfl rfl ⟨rfl, x.upd, G, by rw [hTB], gL, gm, rG, fun k hk => ?_⟩
    rw [gB]
    exact x.above k (all k hk).1
end
end Go.Proofs.Ytkppboglffdmnaa
