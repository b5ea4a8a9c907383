/- Steps of the walk and of the plain law (PrioNew to WkE). Conditions: as each lemma says. -/
import Derived.Test.YtcpcdnkemobneaaPPD
namespace Go.Proofs.Ytcpcdnkemobneaa
section
open Go Go.TJ Go.Proofs
def Ext (M M' : Mem Key) (p : Key -> Prop) : Prop := ∀ k, ¬ p k -> (M'.ok k ↔ M.ok k) /\ M'.B k = M.B k /\ M'.O k = M.O k
theorem Ext.put (M : Mem Key) (k : Key) (b : Nat) (o : Obj) : Ext M (M.put k b o) (fun j => j = k) := fun _ hj => ⟨⟨fun x => x.resolve_left hj, .inr⟩, ut_ne _ _ hj, ut_ne _ _ hj⟩
theorem Ext.set (M : Mem Key) (k : Key) (o : Obj) : Ext M (M.set k o) (fun j => j = k) := fun _ hj => ⟨Iff.rfl, rfl, ut_ne _ _ hj⟩
theorem Ext.trans {M M' M'' : Mem Key} {p q : Key -> Prop} (x : Ext M M' p) (y : Ext M' M'' q) : Ext M M'' (fun k => p k \/ q k) := fun k hk => by
  obtain ⟨a, b, c⟩ := x k (fun z => hk (.inl z))
  obtain ⟨a', b', c'⟩ := y k (fun z => hk (.inr z))
  exact ⟨a'.trans a, b'.trans b, c'.trans c⟩
theorem Ext.mono {M M' : Mem Key} {p q : Key -> Prop} (x : Ext M M' p) (h : ∀ k, p k -> q k) : Ext M M' q := fun k hk => x k (fun z => hk (h k z))
theorem Ext.refl (M : Mem Key) (p : Key -> Prop) : Ext M M p := fun _ _ => ⟨Iff.rfl, rfl, rfl⟩
structure LevP (M : Mem Key) (q j : Nat) (s : Value) : Prop where
  lev : M.ok (kLev q) /\ M.O (kLev q) = .cells #[ptr (M.B (kIn q)), ptr (M.B (kOut q)), s] 255 (0, 0)
  inn : M.ok (kIn q) /\ M.O (kIn q) = cellO 0
  out : M.ok (kOut q) /\ M.O (kOut q) = cellO 0
  sl : M.Sl (kPls q) s 257 3 j ((List.range j).flatMap fun j => [ptr (M.B (kTurn q j)), ptr (M.B (kTick q j)), ptr (M.B (kSlot q j))])
  val : ∀ j', j' < j -> (M.ok (kTurn q j') /\ M.O (kTurn q j') = cellO j') /\ (M.ok (kTick q j') /\ M.O (kTick q j') = cellO 0) /\ (M.ok (kSlot q j') /\ M.O (kSlot q j') = cellO 0)
def LevUse (q j : Nat) (k : Key) : Prop := k.2.1 = q + 1 /\ (k.1 < 7 \/ k.2.2 < j)
theorem LevP.congr {M M' : Mem Key} {p : Key -> Prop} {q j : Nat} {s : Value} (x : LevP M q j s) (e : Ext M M' p) (hp : ∀ k, LevUse q j k -> ¬ p k) : LevP M' q j s := by
  have h := fun (k : Key) (hk : LevUse q j k) => e k (hp k hk)
  have tr : ∀ (k : Key) (o : Obj), LevUse q j k -> M.ok k /\ M.O k = o -> M'.ok k /\ M'.O k = o := fun k o hk y => ⟨(h k hk).1.mpr y.1, (h k hk).2.2.trans y.2⟩
  have u1 : LevUse q j (kLev q) := ⟨rfl, .inl (by show 2 < 7; omega)⟩
  have u2 : LevUse q j (kIn q) := ⟨rfl, .inl (by show 5 < 7; omega)⟩
  have u3 : LevUse q j (kOut q) := ⟨rfl, .inl (by show 6 < 7; omega)⟩
  have u4 : LevUse q j (kPls q) := ⟨rfl, .inl (by show 3 < 7; omega)⟩
  have u5 : ∀ t j', j' < j -> LevUse q j (t, q + 1, j') := fun t j' hj => ⟨rfl, .inr hj⟩
  refine ⟨?_, tr _ _ u2 x.inn, tr _ _ u3 x.out, ?_, fun j' hj' => ⟨tr _ _ (u5 _ _ hj') (x.val j' hj').1, tr _ _ (u5 _ _ hj') (x.val j' hj').2.1, tr _ _ (u5 _ _ hj') (x.val j' hj').2.2⟩⟩
  · have := tr _ _ u1 x.lev
    rw [(h (kIn q) u2).2.1, (h (kOut q) u3).2.1]
    exact this
  · have e1 : (List.range j).flatMap (fun j => [ptr (M'.B (kTurn q j)), ptr (M'.B (kTick q j)), ptr (M'.B (kSlot q j))]) = (List.range j).flatMap (fun j => [ptr (M.B (kTurn q j)), ptr (M.B (kTick q j)), ptr (M.B (kSlot q j))]) := by
      rw [List.flatMap_def, List.flatMap_def]
      congr 1
      refine List.map_congr_left fun j' hj' => ?_
      have hj := List.mem_range.mp hj'
      rw [(h (kTurn q j') (u5 _ _ hj)).2.1, (h (kTick q j') (u5 _ _ hj)).2.1, (h (kSlot q j') (u5 _ _ hj)).2.1]
    rw [e1]
    exact x.sl.congr (h (kPls q) u4).1 (h (kPls q) u4).2.1 (h (kPls q) u4).2.2
theorem LevP.round {M M4 : Mem Key} {q j bt bk bs b : Nat} {o : Obj} {s s' : Value} (x : LevP M q j s) (e4 : M4 = (((M.put (kTurn q j) bt (cellO j)).put (kTick q j) bk (cellO 0)).put (kSlot q j) bs (cellO 0)).put (kPls q) b o)
    (hs : M4.Sl (kPls q) s' 257 3 (j + 1) (((List.range j).flatMap fun j => [ptr (M.B (kTurn q j)), ptr (M.B (kTick q j)), ptr (M.B (kSlot q j))]) ++ [ptr bt, ptr bk, ptr bs])) :
    LevP (M4.set (kLev q) (.cells #[ptr (M.B (kIn q)), ptr (M.B (kOut q)), s'] 255 (0, 0))) q (j + 1) s' := by
  have e : Ext M (M4.set (kLev q) (.cells #[ptr (M.B (kIn q)), ptr (M.B (kOut q)), s'] 255 (0, 0))) (fun k => ((((k = kTurn q j \/ k = kTick q j) \/ k = kSlot q j) \/ k = kPls q) \/ k = kLev q)) := by
    subst e4
    exact ((((Ext.put _ _ _ _).trans (Ext.put _ _ _ _)).trans (Ext.put _ _ _ _)).trans (Ext.put _ _ _ _)).trans (Ext.set _ _ _)
  have hval : ∀ t j', j' < j -> (7 <= t) -> ¬ ((((((t, q + 1, j') : Key) = kTurn q j \/ ((t, q + 1, j') : Key) = kTick q j) \/ ((t, q + 1, j') : Key) = kSlot q j) \/ ((t, q + 1, j') : Key) = kPls q) \/ ((t, q + 1, j') : Key) = kLev q) := by
    intro t j' hj ht hx
    simp only [Prod.mk.injEq] at hx
    omega
  have tr : ∀ (t j' : Nat) (ob : Obj), j' < j -> 7 <= t -> M.ok (t, q + 1, j') /\ M.O (t, q + 1, j') = ob -> _ := fun t j' ob hj ht y => (⟨(e _ (hval t j' hj ht)).1.mpr y.1, (e _ (hval t j' hj ht)).2.2.trans y.2⟩ : (M4.set (kLev q) (.cells #[ptr (M.B (kIn q)), ptr (M.B (kOut q)), s'] 255 (0, 0))).ok (t, q + 1, j') /\ (M4.set (kLev q) (.cells #[ptr (M.B (kIn q)), ptr (M.B (kOut q)), s'] 255 (0, 0))).O (t, q + 1, j') = ob)
  have ein := e (kIn q) (by simp)
  have eout := e (kOut q) (by simp)
  refine ⟨⟨?_, ?_⟩, ⟨ein.1.mpr x.inn.1, ein.2.2.trans x.inn.2⟩, ⟨eout.1.mpr x.out.1, eout.2.2.trans x.out.2⟩, ?_, fun j' hj' => ?_⟩
  · subst e4
    exact .inr (.inr (.inr (.inr x.lev.1)))
  · rw [ein.2.1, eout.2.1]
    exact ut_same _ _ _
  · have e1 : (List.range (j + 1)).flatMap (fun j' => [ptr ((M4.set (kLev q) (.cells #[ptr (M.B (kIn q)), ptr (M.B (kOut q)), s'] 255 (0, 0))).B (kTurn q j')), ptr ((M4.set (kLev q) (.cells #[ptr (M.B (kIn q)), ptr (M.B (kOut q)), s'] 255 (0, 0))).B (kTick q j')), ptr ((M4.set (kLev q) (.cells #[ptr (M.B (kIn q)), ptr (M.B (kOut q)), s'] 255 (0, 0))).B (kSlot q j'))])
        = ((List.range j).flatMap fun j => [ptr (M.B (kTurn q j)), ptr (M.B (kTick q j)), ptr (M.B (kSlot q j))]) ++ [ptr bt, ptr bk, ptr bs] := by
      rw [List.range_succ, List.flatMap_append]
      congr 1
      · rw [List.flatMap_def, List.flatMap_def]
        congr 1
        refine List.map_congr_left fun j' hj' => ?_
        have hj := List.mem_range.mp hj'
        rw [(e _ (hval 7 j' hj (by omega))).2.1, (e _ (hval 8 j' hj (by omega))).2.1, (e _ (hval 9 j' hj (by omega))).2.1]
      · subst e4
        simp [Mem.set, Mem.put, ut]
    rw [e1]
    exact hs.set (by simp) _
  · by_cases hj : j' < j
    · exact ⟨tr 7 j' _ hj (by omega) (x.val j' hj).1, tr 8 j' _ hj (by omega) (x.val j' hj).2.1, tr 9 j' _ hj (by omega) (x.val j' hj).2.2⟩
    · obtain rfl : j' = j := by omega
      subst e4
      refine ⟨⟨.inr (.inr (.inr (.inl rfl))), ?_⟩, ⟨.inr (.inr (.inl rfl)), ?_⟩, ⟨.inr (.inl rfl), ?_⟩⟩ <;> simp [Mem.set, Mem.put, ut]
structure NewI (h0 h : Hp) (M : Mem Key) (T m i i' : Nat) (sL : Value) : Prop where
  rep : Rep h M
  upd : Upd (fun _ => False) h0 h
  above : ∀ k, M.ok k -> h0.size <= M.B k
  top : M.ok kTop /\ M.O kTop = .cells #[ptr (M.B kTk), sL] 251 (0, 0)
  topB : M.B kTop = T
  tk : M.ok kTk /\ M.O kTk = cellO 0
  sl : M.Sl kLvs sL 252 1 i ((List.range i).map fun q => ptr (M.B (kLev q)))
  levs : ∀ q, q < i -> ∃ s, LevP M q m s
  rest : ∀ q, i' <= q -> ¬ M.ok (kPls q)
theorem NewI.ext {h0 h h' : Hp} {M M' : Mem Key} {T m i i' : Nat} {sL : Value} {p : Key -> Prop} (x : NewI h0 h M T m i i' sL) (e : Ext M M' p) (hp : ∀ k, p k -> k.2.1 = i + 1) (r : Rep h' M') (u : Upd (fun _ => False) h0 h') (ha : ∀ k, p k -> M'.ok k -> h0.size <= M'.B k) (hr : i < i') : NewI h0 h' M' T m i i' sL := by
  have key : ∀ k : Key, k.2.1 ≠ i + 1 -> ¬ p k := fun k hk y => hk (hp k y)
  have tr : ∀ (k : Key) (o : Obj), k.2.1 ≠ i + 1 -> M.ok k /\ M.O k = o -> M'.ok k /\ M'.O k = o := fun k o hk y => ⟨(e k (key k hk)).1.mpr y.1, (e k (key k hk)).2.2.trans y.2⟩
  have n0 : ∀ t j, ((t, 0, j) : Key).2.1 ≠ i + 1 := fun t j => by simp
  have nl := e kLvs (key _ (n0 _ _))
  refine ⟨r, u, fun k hk => ?_, ?_, (e kTop (key _ (n0 _ _))).2.1.trans x.topB, tr _ _ (n0 _ _) x.tk, ?_, fun q hq => ?_, fun q hq => ?_⟩
  · by_cases hpk : p k
    · exact ha k hpk hk
    · rw [(e k hpk).2.1]; exact x.above k ((e k hpk).1.mp hk)
  · rw [(e kTk (key _ (n0 _ _))).2.1]; exact tr _ _ (n0 _ _) x.top
  · have e1 : (List.range i).map (fun q => ptr (M'.B (kLev q))) = (List.range i).map (fun q => ptr (M.B (kLev q))) := by
      refine List.map_congr_left fun q hq => ?_
      have := List.mem_range.mp hq
      rw [(e (kLev q) (key _ (by show q + 1 ≠ i + 1; omega))).2.1]
    rw [e1]
    exact x.sl.congr nl.1 nl.2.1 nl.2.2
  · obtain ⟨s, hs⟩ := x.levs q hq
    exact ⟨s, hs.congr e (fun k hk y => by have h1 := hk.1; have h2 := hp k y; omega)⟩
  · intro y
    exact x.rest q hq ((e (kPls q) (key _ (by show q + 1 ≠ i + 1; omega))).1.mp y)
structure NS where
  i : Nat
  M : Mem Key
  sL : Value
structure NS2 where
  j : Nat
  M : Mem Key
  s : Value
def v0 : Key -> Int
  | (7, _, j) => j
  | _ => 0
theorem okP_cases {L m : Nat} {k : Key} (h : okP L m k) : k = kTop \/ k = kLvs \/ k = kTk \/ (∃ q, q < L /\ (k = kLev q \/ k = kPls q \/ k = kIn q \/ k = kOut q)) \/ (∃ q j, q < L /\ j < m /\ (k = kTurn q j \/ k = kTick q j \/ k = kSlot q j)) := by
  unfold okP at h
  split at h
  · exact .inl rfl
  · exact .inr (.inl rfl)
  · exact .inr (.inr (.inr (.inl ⟨_, h, .inl rfl⟩)))
  · exact .inr (.inr (.inr (.inl ⟨_, h, .inr (.inl rfl)⟩)))
  · exact .inr (.inr (.inl rfl))
  · exact .inr (.inr (.inr (.inl ⟨_, h, .inr (.inr (.inl rfl))⟩)))
  · exact .inr (.inr (.inr (.inl ⟨_, h, .inr (.inr (.inr rfl))⟩)))
  · exact .inr (.inr (.inr (.inr ⟨_, _, h.1, h.2, .inl rfl⟩)))
  · exact .inr (.inr (.inr (.inr ⟨_, _, h.1, h.2, .inr (.inl rfl)⟩)))
  · exact .inr (.inr (.inr (.inr ⟨_, _, h.1, h.2, .inr (.inr rfl)⟩)))
  · exact h.elim
section
variable {Γ : Type} {main : Bool} {S : Sit Γ} {h : Hp} {δ : Ix Γ}
set_option maxRecDepth 8000 in
set_option maxHeartbeats 4000000 in
theorem new_ok {L m e : Nat} (hL1 : 1 <= L) (hL : L <= 8) (hm : m = 2 ^ e) (he1 : 1 <= e) (he : e <= 12) (hF : ∀ b o, h.size <= b -> ¬ S.still δ.g ⟨b, o, none⟩) :
    CallW Try.prog main S 59 #[.int .i64 L, .int .i64 m] h δ
      (Ret fun w h' δ' => δ' = δ /\ Upd (fun _ => False) h h' /\ ∃ G : PG, w = .tuple #[ptr (G.B kTop), .int .i64 0] /\ G.L = L /\ G.m = m /\ Pri h' G v0 /\ ∀ k, okP L m k -> h.size <= G.B k) := by
  have hm2 : 2 <= m := by have := Nat.pow_le_pow_right (n := 2) (by decide) he1; omega
  have hm1 : m <= 4096 := by have := Nat.pow_le_pow_right (n := 2) (by decide) he; omega
  have hbits : bits .and .i64 (m : Int) ((m : Int) - 1) = 0 := by
    rw [mask hm (by omega) (by omega), Nat.mod_self]; rfl
  refine CallW.start (n := 71) rfl rfl ?_
  (repeat (first | refine EK.seq ?_ | refine EK.region ?_ | refine ER.done ?_ | refine ER.move rfl rfl rfl ?_ | refine ER.assign rfl rfl rfl ?_ | refine ER.pickF rfl rfl rfl rfl ?_ | refine ER.cmpF rfl rfl rfl rfl rfl (by first | (dsimp only [cmpP]; omega) | exact rfl | exact Int.le_refl _) ?_ | refine ER.sub' (kd := .i64) rfl rfl rfl rfl (i64_in (by omega) (by omega)) ?_))
  refine ER.andI rfl rfl rfl rfl hbits ?_
  (repeat (first | refine EK.seq ?_ | refine EK.region ?_ | refine ER.done ?_ | refine EK.skip ?_ | refine ER.pickF rfl rfl rfl rfl ?_ | refine ER.cmpF rfl rfl rfl rfl rfl (by first | (dsimp only [cmpP]; omega) | exact rfl | exact Int.le_refl _) ?_ | refine EK.condF rfl ?_))
  refine ER.callD rfl rfl rfl rfl rfl (cnewS (hF _ _ (Nat.le_refl _))) ?_
  refine ER.buildS (cells := #[ptr h.size, .slice none 0 0]) rfl rfl rfl rfl ?_
  (repeat (first | refine EK.seq ?_ | refine EK.region ?_ | refine ER.done ?_ | refine EK.block ?_ | refine ER.move rfl rfl rfl ?_ | refine ER.assign rfl rfl rfl ?_ | refine ER.boxA rfl rfl rfl ?_))
  have x0 : NewI h ((h.push (cellO 0)).push (.cells #[ptr h.size, .slice none 0 0] 251)) ((Mem.emp.put kTk h.size (cellO 0)).put kTop (h.push (cellO 0)).size (.cells #[ptr h.size, .slice none 0 0] 251 (0, 0))) (h.push (cellO 0)).size m 0 0 (.slice none 0 0) := by
    refine ⟨(Rep.emp.put _ _).put _ _, (Upd.push _ _).trans (Upd.push _ _), fun k hk => ?_, ⟨.inl rfl, ?_⟩, by simp [Mem.put, ut], ⟨.inr (.inl rfl), ?_⟩, Mem.Sl.nil ?_, fun q hq => by omega, fun q _ hk => ?_⟩
    · rcases hk with rfl | rfl | hk
      · simp [Mem.put, ut]
      · simp [Mem.put, ut]
      · exact hk.elim
    · simp [Mem.put, ut]
    · simp [Mem.put, ut]
    · simp [Mem.put, Mem.emp]
    · simp [Mem.put, Mem.emp] at hk
  generalize hT : (h.push (cellO 0)).size = T at x0 ⊢
  change EK _ _ _ _ _ _ _ _ ((h.push (cellO 0)).push (.cells #[ptr h.size, .slice none 0 0] 251)) _ _
  generalize (h.push (cellO 0)).push (.cells #[ptr h.size, .slice none 0 0] 251) = h1 at x0 ⊢
  generalize ((Mem.emp.put kTk h.size (cellO 0)).put kTop T (.cells #[ptr h.size, .slice none 0 0] 251 (0, 0)) : Mem Key) = M1 at x0
  skip
  refine EK.loopInv (fun s : NS => [(34, .int .i64 s.i), (33, .int .i64 L), (0, .int .i64 L), (1, .int .i64 m), (6, ptr T)]) (fun s h' δ' => δ' = δ /\ s.i <= L /\ NewI h h' s.M T m s.i s.i s.sL) (fun s => L - s.i) ⟨0, M1, .slice none 0 0⟩ ⟨rfl, rfl, rfl, rfl, rfl, trivial⟩ ⟨rfl, Nat.zero_le _, x0⟩ ?_
  clear x0 M1 h1
  rintro ⟨i, M, sL⟩ h1 δ1 ⟨hδ, hi, x⟩ again
  dsimp only at hi x again ⊢
  obtain rfl : δ = δ1 := hδ.symm
  have hsz := x.upd.size
  by_cases hlt : i < L
  · (repeat (first | refine EK.seq ?_ | refine EK.region ?_ | refine ER.done ?_ | refine EK.skip ?_ | refine EK.block ?_ | refine ER.cmpT rfl rfl rfl rfl rfl (by first | (dsimp only [cmpP]; omega) | exact rfl | exact Int.le_refl _) ?_ | refine EK.condT rfl ?_))
    refine ER.callD rfl rfl rfl rfl rfl (cnewS (hF _ _ hsz)) ?_
    refine ER.callD rfl rfl rfl rfl rfl (cnewS (hF _ _ (by simp; omega))) ?_
    refine ER.buildS (cells := #[ptr h1.size, ptr (h1.push (cellO 0)).size, .slice none 0 0]) rfl rfl rfl rfl ?_
    (repeat (first | refine EK.seq ?_ | refine EK.region ?_ | refine ER.done ?_ | refine EK.block ?_ | refine ER.move rfl rfl rfl ?_ | refine ER.assign rfl rfl rfl ?_ | refine ER.boxA rfl rfl rfl ?_))
    obtain ⟨M1, hM1⟩ : ∃ M1, M1 = ((M.put (kIn i) h1.size (cellO 0)).put (kOut i) (h1.push (cellO 0)).size (cellO 0)).put (kLev i) ((h1.push (cellO 0)).push (cellO 0)).size (.cells #[ptr h1.size, ptr (h1.push (cellO 0)).size, .slice none 0 0] 255 (0, 0)) := ⟨_, rfl⟩
    have r1 : Rep _ M1 := hM1 ▸ ((x.rep.put (kIn i) (cellO 0)).put (kOut i) (cellO 0)).put (kLev i) (.cells #[ptr h1.size, ptr (h1.push (cellO 0)).size, .slice none 0 0] 255 (0, 0))
    have e1 : Ext M M1 (fun k => (k = kIn i \/ k = kOut i) \/ k = kLev i) := hM1 ▸ ((Ext.put _ _ _ _).trans (Ext.put _ _ _ _)).trans (Ext.put _ _ _ _)
    have x1 := NewI.ext (⟨x.rep, x.upd, x.above, x.top, x.topB, x.tk, x.sl, x.levs, fun q hq => x.rest q (by omega)⟩ : NewI h h1 M T m i (i + 1) sL) e1 (fun k hk => by rcases hk with (rfl | rfl) | rfl <;> rfl) r1 (((x.upd.trans (Upd.push _ _)).trans (Upd.push _ _)).trans (Upd.push _ _)) (fun k hk _ => by
      subst hM1
      rcases hk with (rfl | rfl) | rfl <;> simp [Mem.put, ut] <;> omega) (by omega)
    have lp1 : LevP M1 i 0 (.slice none 0 0) := by
      subst hM1
      refine ⟨⟨.inl rfl, by simp [Mem.put, ut]⟩, ⟨.inr (.inr (.inl rfl)), by simp [Mem.put, ut]⟩, ⟨.inr (.inl rfl), by simp [Mem.put, ut]⟩, Mem.Sl.nil ?_, fun j hj => by omega⟩
      simp [Mem.put]
      exact x.rest i (Nat.le_refl _)
    obtain ⟨Lb, hLb⟩ : ∃ Lb, Lb = ((h1.push (cellO 0)).push (cellO 0)).size := ⟨_, rfl⟩
    have bL : M1.B (kLev i) = Lb := by subst hM1; rw [hLb]; simp [Mem.put, ut]
    rw [<- hLb]
    change EK _ _ _ _ _ _ _ _ (((h1.push (cellO 0)).push (cellO 0)).push (.cells #[ptr h1.size, ptr (h1.push (cellO 0)).size, .slice none 0 0] 255)) _ _
    generalize ((h1.push (cellO 0)).push (cellO 0)).push (.cells #[ptr h1.size, ptr (h1.push (cellO 0)).size, .slice none 0 0] 255) = h2 at x1 r1 ⊢
    clear r1 e1 hM1
    refine EK.loopInv (fun t : NS2 => [(41, .int .i64 t.j), (40, .int .i64 m), (7, ptr Lb), (34, .int .i64 i), (33, .int .i64 L), (0, .int .i64 L), (1, .int .i64 m), (6, ptr T)]) (fun t h' δ' => δ' = δ /\ t.j <= m /\ NewI h h' t.M T m i (i + 1) sL /\ LevP t.M i t.j t.s /\ t.M.B (kLev i) = Lb) (fun t => m - t.j) ⟨0, M1, .slice none 0 0⟩ ⟨rfl, rfl, rfl, rfl, rfl, rfl, rfl, rfl, trivial⟩ ⟨rfl, Nat.zero_le _, x1, lp1, bL⟩ ?_
    clear x1 lp1 bL hLb x hsz M1 h2
    rintro ⟨j, M, s⟩ h2 δ2 ⟨hδ2, hj, x, lp, bL⟩ again2
    dsimp only at hj x lp bL again2 ⊢
    obtain rfl : δ = δ2 := hδ2.symm
    have hsz := x.upd.size
    by_cases hjm : j < m
    · (repeat (first | refine EK.seq ?_ | refine EK.region ?_ | refine ER.done ?_ | refine EK.skip ?_ | refine EK.block ?_ | refine ER.move rfl rfl rfl ?_ | refine ER.assign rfl rfl rfl ?_ | refine ER.cmpT rfl rfl rfl rfl rfl (by first | (dsimp only [cmpP]; omega) | exact rfl | exact Int.le_refl _) ?_ | refine EK.condT rfl ?_))
      have cS : hcell h2 ⟨Lb, 2, none⟩ = some s := bL ▸ x.rep.cell lp.lev.1 lp.lev.2 rfl
      refine EK.regionAnyL (fun h' => hcell h' ⟨Lb, 2, none⟩ = some s) 14 ?_
      have hZ := cS
      refine EA.tMove 0 rfl (by kernel_rfl) rfl rfl rfl rfl hZ ?_
      refine EA.tMove 1 rfl (by kernel_rfl) rfl rfl rfl rfl hZ ?_
      refine EA.tNil 2 rfl (by kernel_rfl) rfl rfl rfl rfl hZ ?_
      refine EA.tField 3 rfl (by kernel_rfl) rfl rfl rfl rfl hZ ?_
      refine EA.tLoad 4 rfl (by kernel_rfl) rfl rfl rfl rfl (fun _ hz => hz) hZ ?_
      refine EA.tMove 5 rfl (by kernel_rfl) rfl rfl rfl rfl hZ ?_
      refine EA.callD 6 rfl (by kernel_rfl) rfl rfl rfl rfl rfl rfl (cnewS (hF _ _ hsz)) (hcell_push hZ) ?_
      refine EA.callD 7 rfl (by kernel_rfl) rfl rfl rfl rfl rfl rfl (cnewS (hF _ _ (by simp; omega))) (hcell_push (hcell_push hZ)) ?_
      refine EA.callD 8 rfl (by kernel_rfl) rfl rfl rfl rfl rfl rfl (cnewS (hF _ _ (by simp; omega))) (hcell_push (hcell_push (hcell_push hZ))) ?_
      have hZ := hcell_push (o := cellO 0) (hcell_push (o := cellO 0) (hcell_push (o := cellO j) hZ))
      obtain ⟨bt, hbt⟩ : ∃ bt, bt = h2.size := ⟨_, rfl⟩
      obtain ⟨bk, hbk⟩ : ∃ bk, bk = (h2.push (cellO j)).size := ⟨_, rfl⟩
      obtain ⟨bs, hbs⟩ : ∃ bs, bs = ((h2.push (cellO j)).push (cellO 0)).size := ⟨_, rfl⟩
      rw [<- hbt, <- hbk, <- hbs]
      have r3 := ((x.rep.put (kTurn i j) (cellO j)).put (kTick i j) (cellO 0)).put (kSlot i j) (cellO 0)
      rw [<- hbt, <- hbk, <- hbs] at r3
      have sl3 := ((lp.sl.put (j := kTurn i j) (by simp) bt (cellO j)).put (j := kTick i j) (by simp) bk (cellO 0)).put (j := kSlot i j) (by simp) bs (cellO 0)
      have u3 : Upd (fun _ => False) h (((h2.push (cellO j)).push (cellO 0)).push (cellO 0)) := ((x.upd.trans (Upd.push _ _)).trans (Upd.push _ _)).trans (Upd.push _ _)
      have hbge : h.size <= bt /\ h.size <= bk /\ h.size <= bs := by subst hbt hbk hbs; simp; omega
      change EA _ _ _ _ _ _ _ _ _ _ _ _ _ (((h2.push (cellO j)).push (cellO 0)).push (cellO 0)) _ _
      change hcell (((h2.push (cellO j)).push (cellO 0)).push (cellO 0)) _ = _ at hZ
      generalize ((h2.push (cellO j)).push (cellO 0)).push (cellO 0) = h3 at r3 u3 hZ ⊢
      have hsz3 := u3.size
      refine EA.val 9 rfl (by kernel_rfl) rfl rfl rfl (fun ρ Q X hρ hq => sem_buildS (cells := #[ptr bt, ptr bk, ptr bs]) hρ rfl rfl hq) hZ ?_
      refine EA.val (v := .slice (some ⟨h3.size, 0, none⟩) 1 1) (h' := h3.push (.cells #[ptr bt, ptr bk, ptr bs] 257)) 10 rfl (by kernel_rfl) rfl rfl rfl (fun ρ Q X hρ hq => sem_slice1 (sz := 3) hρ rfl (by omega) (by omega) rfl rfl hq) (hcell_push hZ) ?_
      have hZ := hcell_push (o := .cells #[ptr bt, ptr bk, ptr bs] 257) hZ
      have r4 := r3.upd0 (Upd.push h3 (.cells #[ptr bt, ptr bk, ptr bs] 257))
      have u4 := u3.trans (Upd.push (T := fun _ => False) h3 (.cells #[ptr bt, ptr bk, ptr bs] 257))
      have n4 := get_push_new h3 (.cells #[ptr bt, ptr bk, ptr bs] 257)
      generalize h3.push (.cells #[ptr bt, ptr bk, ptr bs] 257) = h4 at r4 u4 n4 hZ ⊢
      clear r3 u3
      have hsz4 := u4.size
      refine EA.append1 (new := [ptr bt, ptr bk, ptr bs]) 11 rfl (by kernel_rfl) rfl rfl rfl rfl rfl (sl3.slice r4) n4 rfl (by simp [OneCell]) (by omega) (by omega) rfl (fun b o hb => hF _ _ (by
        obtain ⟨hk, e⟩ := lp.sl.blk hb
        rw [e]; exact x.above _ hk)) ?_
      intro s' h5 hs5 u5 hb5
      have hblk : ∀ b, blk s = some b -> b ≠ Lb := fun b hb e => by
        obtain ⟨hk, e'⟩ := lp.sl.blk hb
        have := x.rep.inj (kPls i) (kLev i) hk lp.lev.1 (by rw [bL, <- e', e])
        simp at this
      have hZ5 := u5.hcell hZ (fun y => hblk _ y rfl)
      refine ⟨hZ5, ?_⟩
      obtain ⟨b, o, r5, sl5, hb', hlt5⟩ := r4.app sl3 hs5 u5 hb5
      have hab : h.size <= b := by
        rcases hb' with ⟨hk, e⟩ | y
        · have hk' : M.ok (kPls i) := by simpa [Mem.put] using hk
          have := x.above _ hk'
          rw [e]; simpa [Mem.put, ut] using this
        · omega
      obtain ⟨M5, hM5⟩ : ∃ M5, M5 = (((M.put (kTurn i j) bt (cellO j)).put (kTick i j) bk (cellO 0)).put (kSlot i j) bs (cellO 0)).put (kPls i) b o := ⟨_, rfl⟩
      rw [<- hM5] at r5 sl5
      have lp6 := lp.round hM5 sl5
      have okL : M5.ok (kLev i) := by subst hM5; simp [Mem.put]; exact lp.lev.1
      have oL : M5.O (kLev i) = .cells #[ptr (M.B (kIn i)), ptr (M.B (kOut i)), s] 255 (0, 0) := by subst hM5; simp [Mem.put, ut]; exact lp.lev.2
      have bL5 : M5.B (kLev i) = Lb := by subst hM5; simp [Mem.put, ut]; exact bL
      have r6 := r5.hset okL oL 2 s'
      rw [bL5] at r6
      have e6 : Ext M (M5.set (kLev i) (.cells #[ptr (M.B (kIn i)), ptr (M.B (kOut i)), s'] 255 (0, 0))) (fun k => ((((k = kTurn i j \/ k = kTick i j) \/ k = kSlot i j) \/ k = kPls i) \/ k = kLev i)) := by
        subst hM5
        exact ((((Ext.put _ _ _ _).trans (Ext.put _ _ _ _)).trans (Ext.put _ _ _ _)).trans (Ext.put _ _ _ _)).trans (Ext.set _ _ _)
      have hLbge : h.size <= Lb := bL ▸ x.above _ lp.lev.1
      have u6 : Upd (fun _ => False) h (hset h5 ⟨Lb, 2, none⟩ s') := (u4.over u5 (fun b hb => by
        obtain ⟨hk, e⟩ := lp.sl.blk hb
        rw [e]; exact x.above _ hk)).over (Upd.hset (T := fun b => b = Lb) _ _ _ rfl) (fun b hb => by rw [hb]; exact hLbge)
      have x6 := x.ext e6 (fun k hk => by rcases hk with (((rfl | rfl) | rfl) | rfl) | rfl <;> rfl) r6 u6 (fun k hk _ => by
        subst hM5
        rcases hk with (((rfl | rfl) | rfl) | rfl) | rfl
        · simp [Mem.set, Mem.put, ut]; exact hbge.1
        · simp [Mem.set, Mem.put, ut]; exact hbge.2.1
        · simp [Mem.set, Mem.put, ut]; exact hbge.2.2
        · simp [Mem.set, Mem.put, ut]; exact hab
        · exact Nat.le_trans hLbge (Nat.le_of_eq bL5.symm)) (by omega)
      obtain ⟨a5, c5, es5⟩ := hs5.val
      have one5 : OneCell s' := by rw [es5]; exact ⟨nofun, nofun⟩
      have frz : hfroz h5 ⟨Lb, 2, none⟩ = false := bL5 ▸ hfroz_of (r5.get okL oL)
      have hZ := hZ5
      refine EA.val 12 rfl (by kernel_rfl) rfl rfl rfl (fun ρ Q X hρ hq => sem_nilCheck (hρ _ _ rfl) hq) hZ ?_
      refine EA.tField 13 rfl (by kernel_rfl) rfl rfl rfl rfl hZ ?_
      refine EA.unitL 14 rfl (by kernel_rfl) rfl rfl rfl (fun ρ Q X hρ hq => sem_store1 (hρ _ _ rfl) (hρ _ _ rfl) one5 ⟨_, hZ5⟩ frz (hF _ _ hLbge) hq) ?_
      refine EA.done (by kernel_rfl) ?_
      (repeat (first | refine EK.region ?_ | refine ER.done ?_ | refine EK.inBlock ?_ | refine ER.move rfl rfl rfl ?_ | refine ER.add (kd := .i64) rfl rfl rfl rfl (i64_in (by omega) (by omega)) ?_))
      exact EK.back (again2 ⟨j + 1, _, s'⟩ _ _ (by dsimp only; omega) ⟨rfl, by dsimp only; omega, x6, lp6, bL5⟩) ⟨rfl, rfl, rfl, rfl, rfl, rfl, rfl, rfl, trivial⟩
    · obtain rfl : j = m := by omega
      clear again2
      (repeat (first | refine EK.seq ?_ | refine EK.region ?_ | refine ER.done ?_ | refine ER.move rfl rfl rfl ?_ | refine ER.nilCheck rfl rfl rfl ?_ | refine ER.fieldAddr rfl rfl rfl ?_ | refine ER.cmpF rfl rfl rfl rfl rfl (by first | (dsimp only [cmpP]; omega) | exact rfl | exact Int.le_refl _) ?_ | refine EK.condF rfl ?_ | refine EK.exit rfl ?_))
      have cT : hcell h2 ⟨T, 1, none⟩ = some sL := x.topB ▸ x.rep.cell x.top.1 x.top.2 rfl
      refine ER.load1 rfl rfl rfl cT ?_
      (repeat refine ER.move rfl rfl rfl ?_)
      refine ER.slice1 (cells := #[ptr Lb]) rfl rfl rfl (by omega) (by omega) (by rfl) rfl ?_
      have r3 := x.rep.upd0 (Upd.push h2 (.cells #[ptr Lb] 252))
      have u3 := x.upd.trans (Upd.push (T := fun _ => False) h2 (.cells #[ptr Lb] 252))
      have n3 := get_push_new h2 (.cells #[ptr Lb] 252)
      have cT3 := hcell_push (o := .cells #[ptr Lb] 252) cT
      generalize h2.push (.cells #[ptr Lb] 252) = h3 at r3 u3 n3 cT3 ⊢
      have hsz3 := u3.size
      refine ER.append1 (new := [ptr Lb]) rfl rfl rfl rfl (x.sl.slice r3) n3 rfl (by simp [OneCell]) (by omega) (by omega) (by rfl) (fun b o hb => hF _ _ (by
        obtain ⟨hk, e⟩ := x.sl.blk hb
        rw [e]; exact x.above _ hk)) ?_
      intro sL' h4 hs4 u4 hb4
      have hblk : ∀ b, blk sL = some b -> b ≠ T := fun b hb e => by
        obtain ⟨hk, e'⟩ := x.sl.blk hb
        have := x.rep.inj kLvs kTop hk x.top.1 (by rw [x.topB, <- e', e])
        simp at this
      have cT4 := u4.hcell cT3 (fun y => hblk _ y rfl)
      obtain ⟨b, o, r4, sl4, hb', hlt4⟩ := r3.app x.sl hs4 u4 hb4
      have hab : h.size <= b := by
        rcases hb' with ⟨hk, e⟩ | y
        · rw [e]; exact x.above _ hk
        · omega
      have okT : (M.put kLvs b o).ok kTop := .inr x.top.1
      have oT : (M.put kLvs b o).O kTop = .cells #[ptr (M.B kTk), sL] 251 (0, 0) := by simp [Mem.put, ut]; exact x.top.2
      have bT : (M.put kLvs b o).B kTop = T := by simp [Mem.put, ut]; exact x.topB
      have r5 := r4.hset okT oT 1 sL'
      rw [bT] at r5
      have hTge : h.size <= T := x.topB ▸ x.above _ x.top.1
      have u5 : Upd (fun _ => False) h (hset h4 ⟨T, 1, none⟩ sL') := (u3.over u4 (fun b hb => by
        obtain ⟨hk, e⟩ := x.sl.blk hb
        rw [e]; exact x.above _ hk)).over (Upd.hset (T := fun b => b = T) _ _ _ rfl) (fun b hb => by rw [hb]; exact hTge)
      have e5 : Ext M ((M.put kLvs b o).set kTop (.cells #[ptr (M.B kTk), sL'] 251 (0, 0))) (fun k => k = kLvs \/ k = kTop) := (Ext.put _ _ _ _).trans (Ext.set _ _ _)
      have hne : ∀ k : Key, k.2.1 ≠ 0 -> ¬ (k = kLvs \/ k = kTop) := fun k hk y => by rcases y with rfl | rfl <;> exact hk rfl
      have x5 : NewI h (hset h4 ⟨T, 1, none⟩ sL') ((M.put kLvs b o).set kTop (.cells #[ptr (M.B kTk), sL'] 251 (0, 0))) T j (i + 1) (i + 1) sL' := by
        refine ⟨r5, u5, fun k hk => ?_, ⟨okT, ?_⟩, bT, ⟨(e5 kTk (by simp)).1.mpr x.tk.1, (e5 kTk (by simp)).2.2.trans x.tk.2⟩, ?_, fun q hq => ?_, fun q hq hk => ?_⟩
        · by_cases h1 : k = kLvs
          · subst h1; simp [Mem.set, Mem.put, ut]; exact hab
          · by_cases h2 : k = kTop
            · subst h2; exact Nat.le_trans hTge (Nat.le_of_eq bT.symm)
            · rw [(e5 k (fun y => y.elim h1 h2)).2.1]
              exact x.above k ((e5 k (fun y => y.elim h1 h2)).1.mp hk)
        · rw [(e5 kTk (by simp)).2.1]; simp [Mem.set, ut]
        · have e1 : (List.range (i + 1)).map (fun q => ptr (((M.put kLvs b o).set kTop (.cells #[ptr (M.B kTk), sL'] 251 (0, 0))).B (kLev q))) = (List.range i).map (fun q => ptr (M.B (kLev q))) ++ [ptr Lb] := by
            rw [List.range_succ, List.map_append]
            congr 1
            · simp only [List.map_cons, List.map_nil]
              rw [(e5 (kLev i) (hne _ (by show i + 1 ≠ 0; omega))).2.1, bL]
          rw [e1]
          exact sl4.set (by simp) _
        · by_cases hqi : q = i
          · subst hqi
            exact ⟨s, lp.congr e5 (fun k hk => hne k (by rw [hk.1]; omega))⟩
          · obtain ⟨s', hs'⟩ := x.levs q (by omega)
            exact ⟨s', hs'.congr e5 (fun k hk => hne k (by rw [hk.1]; omega))⟩
        · exact x.rest q hq ((e5 (kPls q) (hne _ (by show q + 1 ≠ 0; omega))).1.mp hk)
      obtain ⟨a4, c4, es4⟩ := hs4.val
      have one4 : OneCell sL' := by rw [es4]; exact ⟨nofun, nofun⟩
      have frz : hfroz h4 ⟨T, 1, none⟩ = false := bT ▸ hfroz_of (r4.get okT oT)
      (repeat (first | refine ER.nilCheck rfl rfl rfl ?_ | refine ER.fieldAddr rfl rfl rfl ?_))
      refine ER.store1 rfl rfl rfl one4 ⟨_, cT4⟩ frz (hF _ _ hTge) ?_
      (repeat (first | refine EK.region ?_ | refine ER.done ?_ | refine EK.inBlock ?_ | refine ER.move rfl rfl rfl ?_ | refine ER.add (kd := .i64) rfl rfl rfl rfl (i64_in (by omega) (by omega)) ?_))
      exact EK.back (again ⟨i + 1, _, sL'⟩ _ _ (by dsimp only; omega) ⟨rfl, by dsimp only; omega, x5⟩) ⟨rfl, rfl, rfl, rfl, rfl, trivial⟩
  · obtain rfl : i = L := by omega
    have key : ∀ q : Nat, ∃ p : Nat × List Value, q < i -> (M.ok (kLev q) /\ M.O (kLev q) = .cells #[ptr (M.B (kIn q)), ptr (M.B (kOut q)), .slice (some ⟨M.B (kPls q), 0, none⟩) m p.1] 255 (0, 0)) /\ (M.ok (kPls q) /\ M.O (kPls q) = .cells (((List.range m).flatMap fun j => [ptr (M.B (kTurn q j)), ptr (M.B (kTick q j)), ptr (M.B (kSlot q j))]) ++ p.2).toArray 257 (0, 0)) := by
      intro q
      by_cases hq : q < i
      · obtain ⟨s, lp⟩ := x.levs q hq
        rcases lp.sl.2 with ⟨_, h0, _⟩ | ⟨hk, cap, rest, rfl, _, _, h3⟩
        · omega
        · exact ⟨(cap, rest), fun _ => ⟨lp.lev, hk, h3⟩⟩
      · exact ⟨(0, []), fun y => absurd y hq⟩
    obtain ⟨fp, hfp⟩ := Classical.axiomOfChoice key
    have xl := x.sl.2
    rcases xl with ⟨_, h0, _⟩ | ⟨hkL, capL, rL, rfl, _, _, hoL⟩
    · omega
    obtain ⟨G, hG⟩ : ∃ G : PG, G = ⟨i, m, capL, fun q => (fp q).1, rL, fun q => (fp q).2, M.B⟩ := ⟨_, rfl⟩
    have gL : G.L = i := by rw [hG]
    have gm : G.m = m := by rw [hG]
    have gB : G.B = M.B := by rw [hG]
    have all : ∀ k, okP i m k -> M.ok k /\ M.O k = priO G v0 k := by
      intro k hk
      rcases okP_cases hk with rfl | rfl | rfl | ⟨q, hq, rfl | rfl | rfl | rfl⟩ | ⟨q, j, hq, hj, rfl | rfl | rfl⟩
      · exact ⟨x.top.1, by rw [x.top.2, hG]; rfl⟩
      · exact ⟨hkL, by rw [hoL, hG]; rfl⟩
      · exact ⟨x.tk.1, by rw [x.tk.2]; rfl⟩
      · exact ⟨(hfp q hq).1.1, by rw [(hfp q hq).1.2, hG]; rfl⟩
      · exact ⟨(hfp q hq).2.1, by rw [(hfp q hq).2.2, hG]; rfl⟩
      · obtain ⟨s, lp⟩ := x.levs q hq; exact ⟨lp.inn.1, by rw [lp.inn.2]; rfl⟩
      · obtain ⟨s, lp⟩ := x.levs q hq; exact ⟨lp.out.1, by rw [lp.out.2]; rfl⟩
      · obtain ⟨s, lp⟩ := x.levs q hq; exact ⟨(lp.val j hj).1.1, by rw [(lp.val j hj).1.2]; rfl⟩
      · obtain ⟨s, lp⟩ := x.levs q hq; exact ⟨(lp.val j hj).2.1.1, by rw [(lp.val j hj).2.1.2]; rfl⟩
      · obtain ⟨s, lp⟩ := x.levs q hq; exact ⟨(lp.val j hj).2.2.1, by rw [(lp.val j hj).2.2.2]; rfl⟩
    have rG : Pri h1 G v0 := x.rep.congr (fun k hk => (all k (by rw [<- gL, <- gm]; exact hk)).1) (fun k _ => congrFun gB k) (fun k hk => (all k (by rw [<- gL, <- gm]; exact hk)).2.symm)
    have hTB : G.B kTop = T := by rw [gB]; exact x.topB
    (repeat (first | refine EK.seq ?_ | refine EK.region ?_ | refine ER.done ?_ | refine ER.move rfl rfl rfl ?_ | refine ER.assign rfl rfl rfl ?_ | refine ER.cmpF rfl rfl rfl rfl rfl (by first | (dsimp only [cmpP]; omega) | exact rfl | exact Int.le_refl _) ?_ | refine EK.condF rfl ?_ | refine EK.ret ?_ | refine EK.exit rfl ?_))
    refine EU.ret2 rfl rfl rfl ⟨rfl, x.upd, G, by rw [hTB], gL, gm, rG, fun k hk => ?_⟩
    rw [gB]
    exact x.above k (all k hk).1
end
end
section
open Go Go.TJ Go.Proofs
theorem bst_none {H : Nat -> Hd} : ∀ {n : Nat}, (∀ q, q < n -> (H q).1 = false) -> bst H n = none
  | 0, _ => rfl
  | n + 1, h => by
    unfold bst
    rw [if_neg (fun x => by rw [h n (by omega)] at x; cases x.1)]
    exact bst_none (fun q hq => h q (by omega))
theorem bst_one {H : Nat -> Hd} {a : Nat} (ha : (H a).1 = true) : ∀ {n : Nat}, a < n -> (∀ q, q < n -> q ≠ a -> (H q).1 = false) -> bst H n = some a
  | 0, h, _ => by omega
  | n + 1, h, hq => by
    unfold bst
    by_cases e : a = n
    · subst e
      have := bst_none (n := a) (fun q hqa => hq q (by omega) (by omega))
      rw [if_pos ⟨ha, fun b hb => by rw [this] at hb; cases hb⟩]
    · rw [if_neg (fun x => by rw [hq n (by omega) (fun y => e y.symm)] at x; cases x.1)]
      exact bst_one ha (by omega) (fun q hqn => hq q (by omega))
theorem bst_two {H : Nat -> Hd} {a b : Nat} (hab : a < b) (ha : (H a).1 = true) (hb : (H b).1 = true) : ∀ {n : Nat}, b < n -> (∀ q, q < n -> q ≠ a -> q ≠ b -> (H q).1 = false) -> bst H n = some (if 64 * ((b : Int) - a) > (H b).2.2 - (H a).2.2 then b else a)
  | 0, h, _ => by omega
  | n + 1, h, hq => by
    unfold bst
    by_cases e : b = n
    · subst e
      have h1 := bst_one ha hab (fun q hqa hqb => hq q (by omega) hqb (by omega))
      by_cases hgo : 64 * ((b : Int) - a) > (H b).2.2 - (H a).2.2
      · rw [if_pos ⟨hb, fun c hc => by rw [h1] at hc; cases hc; exact hgo⟩, if_pos hgo]
      · rw [if_neg (fun x => hgo (x.2 a h1)), if_neg hgo, h1]
    · rw [if_neg (fun x => by rw [hq n (by omega) (by omega) (fun y => e y.symm)] at x; cases x.1)]
      exact bst_two hab ha hb (by omega) (fun q hqn => hq q (by omega))
def TickB (v : Key -> Int) : Prop := ∀ q j, 0 <= v (kTick q j) /\ v (kTick q j) <= 1000000
theorem tickB0 : TickB v0 := fun q j => by simp [v0]
theorem TickB.put {v : Key -> Int} (t : TickB v) {m i I : Nat} {K x : Int} (h0 : 0 <= K) (h1 : K < 1000000) : TickB (putV m v i I K x) := fun q j => by
  unfold putV
  rw [ut_ne _ _ (by simp), ut_ne _ _ (by simp)]
  by_cases e : (kTick q j) = kTick i (I % m)
  · rw [e, ut_same]; omega
  · rw [ut_ne _ _ e, ut_ne _ _ (by simp), ut_ne _ _ (by simp)]; exact t q j
theorem TickB.take {v : Key -> Int} (t : TickB v) {m b o : Nat} : TickB (takeV m v b o) := fun q j => by
  unfold takeV
  rw [ut_ne _ _ (by simp), ut_ne _ _ (by simp)]; exact t q j
theorem TickB.b {v : Key -> Int} (t : TickB v) (q j : Nat) : -2305843009213693952 <= v (kTick q j) /\ v (kTick q j) <= 2305843009213693952 := by
  have := t q j; omega
theorem hdF_fst {G : PG} {v : Key -> Int} {oN : Nat -> Nat} {q : Nat} : (hdF G v oN 0 q).1 = true ↔ q < G.L /\ v (kTurn q (oN q % G.m)) = oN q + 1 := by
  unfold hdF
  by_cases h : 0 <= q /\ q < G.L /\ v (kTurn q (oN q % G.m)) = oN q + 1
  · rw [if_pos h]; simp [h.2]
  · rw [if_neg h]; simp only [Bool.false_eq_true, false_iff]; exact fun x => h ⟨Nat.zero_le _, x⟩
theorem hdF_tick {G : PG} {v : Key -> Int} {oN : Nat -> Nat} {q : Nat} (h : q < G.L /\ v (kTurn q (oN q % G.m)) = oN q + 1) : (hdF G v oN 0 q).2.2 = v (kTick q (oN q % G.m)) := by
  unfold hdF
  rw [if_pos ⟨Nat.zero_le _, h⟩]
theorem hdF_not {G : PG} {v : Key -> Int} {oN : Nat -> Nat} {q : Nat} (h : ¬ (q < G.L /\ v (kTurn q (oN q % G.m)) = oN q + 1)) : (hdF G v oN 0 q).1 = false := by
  cases e : (hdF G v oN 0 q).1
  · rfl
  · exact absurd (hdF_fst.1 e) h
section
variable {Γ : Type} {main : Bool} {h : Hp} {δ : Ix Γ}
theorem pfree {G : PG} {γ : Γ} : PFree NoS γ G := fun _ _ _ x => x
set_option maxHeartbeats 2000000 in
theorem works_ok : CallW Try.prog main NoS 52 #[] h δ (Ret fun w h' δ' => w = .bool true /\ Upd (fun _ => False) h h' /\ δ' = δ) := by
  refine CallW.start (n := 79) rfl rfl ?_
  (repeat (first | refine EK.seq ?_ | refine EK.region ?_ | refine ER.done ?_ | refine ER.assign rfl rfl rfl ?_))
  refine ER.callR rfl rfl rfl rfl rfl (new_ok (L := 2) (m := 2) (e := 1) (by omega) (by omega) rfl (by omega) (by omega) (fun _ _ _ x => x)) ?_
  rintro _ h1 δ1 ⟨rfl, u1, G, rfl, gL, gm, r1, ab⟩
  have own : ∀ {v : Key → Int} b, (priM G v).Own b → h.size ≤ b := fun b hb => by 
                                                                              obtain ⟨k, hk, rfl⟩ := hb
                                                                              have hk' : okP G.L G.m k := hk
                                                                              rw [gL, gm] at hk'
                                                                              exact ab k hk'
  (repeat (first | refine EK.seq ?_ | refine EK.region ?_ | refine ER.done ?_ | refine ER.move rfl rfl rfl ?_ | refine ER.assign rfl rfl rfl ?_ | refine ER.eqV rfl rfl rfl rfl rfl ?_ | refine ER.pickF rfl rfl rfl rfl ?_ | refine ER.extract rfl rfl rfl rfl ?_ | refine ER.cmpF rfl rfl rfl rfl rfl (by first | (dsimp only [cmpP]; omega) | exact rfl | exact Int.le_refl _) ?_))
  refine ER.callR rfl rfl rfl rfl rfl (put_ok (i := 0) (I := 0) (e := 1) (K := 0) (x := 7) r1 (by omega) (by rw [gm]) (by omega) rfl (by omega) (by rw [gm]; rfl) rfl (by omega) (by omega) pfree) ?_
  rintro _ h2 δ2 ⟨rfl, rfl, r2, u2⟩
  have w2 := u1.over u2 own
  rw [gm] at r2
  (repeat (first | refine ER.move rfl rfl rfl ?_ | refine ER.pickF rfl rfl rfl rfl ?_ | refine ER.cmpF rfl rfl rfl rfl rfl (by first | (dsimp only [cmpP]; omega) | exact rfl | exact Int.le_refl _) ?_))
  refine ER.callR rfl rfl rfl rfl rfl (put_ok (i := 1) (I := 0) (e := 1) (K := 1) (x := 8) r2 (by omega) (by rw [gm]) (by omega) (by simp [putV, ut, v0]) (by omega) (by rw [gm]; simp [putV, ut, v0]) (by simp [putV, ut]) (by omega) (by omega) pfree) ?_
  rintro _ h3 δ3 ⟨rfl, rfl, r3, u3⟩
  have w3 := w2.over u3 own
  rw [gm] at r3
  (repeat (first | refine ER.move rfl rfl rfl ?_ | refine ER.pickF rfl rfl rfl rfl ?_ | refine ER.cmpF rfl rfl rfl rfl rfl (by first | (dsimp only [cmpP]; omega) | exact rfl | exact Int.le_refl _) ?_))
  refine ER.callD rfl rfl rfl rfl rfl (put_arg (on := 2) r3 (.inr (by rw [gL]; decide))) ?_
  have t3 : TickB (putV 2 (putV 2 v0 0 0 0 7) 1 0 1 8) := (tickB0.put (by omega) (by omega)).put (by omega) (by omega)
  obtain ⟨w, hw⟩ : ∃ w, w = putV 2 (putV 2 v0 0 0 0 7) 1 0 1 8 := ⟨_, rfl⟩
  rw [<- hw] at r3 t3
  have f0 : w (kTurn 0 0) = 1 := by rw [hw]; simp [putV, ut]
  have f1 : w (kTurn 1 0) = 1 := by rw [hw]; simp [putV, ut]
  have f2 : w (kTick 0 0) = 1 := by rw [hw]; simp [putV, ut]
  have f3 : w (kTick 1 0) = 2 := by rw [hw]; simp [putV, ut]
  have f4 : ∀ q, w (kOut q) = 0 := fun q => by rw [hw]; simp [putV, ut, v0]
  have f5 : w (kSlot 1 0) = 8 := by rw [hw]; simp [putV, ut]
  have f6 : w (kSlot 0 0) = 7 := by rw [hw]; simp [putV, ut]
  have f7 : ∀ q, w (kTurn q 1) = 1 := fun q => by rw [hw]; simp [putV, ut, v0]
  clear hw
  have b1 : bst (hdF G w (fun _ => 0) 0) 8 = some 1 := by
    have h0 : 0 < G.L /\ w (kTurn 0 (0 % G.m)) = ((0 : Nat) : Int) + 1 := ⟨by omega, by rw [gm]; exact f0⟩
    have h1 : 1 < G.L /\ w (kTurn 1 (0 % G.m)) = ((0 : Nat) : Int) + 1 := ⟨by omega, by rw [gm]; exact f1⟩
    rw [bst_two (a := 0) (b := 1) (by omega) (hdF_fst.2 h0) (hdF_fst.2 h1) (by omega) (fun q _ h2 h3 => hdF_not (fun x => by have := x.1; omega)), hdF_tick h1, hdF_tick h0, gm]
    rw [show w (kTick 1 (0 % 2)) = 2 from f3, show w (kTick 0 (0 % 2)) = 1 from f2, if_pos (by decide)]
  (repeat (first | refine EK.seq ?_ | refine EK.region ?_ | refine ER.done ?_ | refine EK.skip ?_ | refine ER.move rfl rfl rfl ?_ | refine ER.pickF rfl rfl rfl rfl ?_ | refine ER.cmpF rfl rfl rfl rfl rfl (by first | (dsimp only [cmpP]; omega) | exact rfl | exact Int.le_refl _) ?_ | refine EK.condF rfl ?_))
  refine ER.callR rfl rfl rfl rfl rfl (take_ok (b := 1) (e := 1) (oN := fun _ => 0) r3 (by rw [gm]) (by omega) (by omega) (by omega) (fun q _ => ⟨by rw [f4]; rfl, by omega⟩) (fun q j _ => t3.b q j) (fun _ _ _ x => x) pfree b1) ?_
  rintro _ h4 δ4 ⟨rfl, rfl, r4, u4⟩
  have w4 := w3.over u4 own
  rw [gm] at r4 ⊢
  rw [show w (kSlot 1 (0 % 2)) = 8 from f5]
  have t4 := t3.take (m := 2) (b := 1) (o := 0)
  have b2 : bst (hdF G (takeV 2 w 1 0) (fun q => if q = 1 then 1 else 0) 0) 8 = some 0 := by
    refine bst_one (hdF_fst.2 ⟨by omega, ?_⟩) (by omega) (fun q _ h0 => hdF_not (fun x => ?_))
    · rw [gm]; simp [takeV, ut]; exact f0
    · obtain ⟨x1, x2⟩ := x
      obtain rfl : q = 1 := by omega
      rw [gm] at x2
      simp [takeV, ut] at x2
      rw [f7] at x2
      omega
  (repeat (first | refine EK.seq ?_ | refine EK.region ?_ | refine ER.done ?_ | refine ER.move rfl rfl rfl ?_ | refine ER.assign rfl rfl rfl ?_ | refine ER.extract rfl rfl rfl rfl ?_))
  refine ER.callR rfl rfl rfl rfl rfl (take_ok (b := 0) (e := 1) (oN := fun q => if q = 1 then 1 else 0) r4 (by rw [gm]) (by omega) (by omega) (by omega) (fun q _ => ⟨?_, ?_⟩) (fun q j _ => t4.b q j) (fun _ _ _ x => x) pfree b2) ?_
  · by_cases e : q = 1
    · subst e; simp [takeV, ut]
    · rw [if_neg e]; simp [takeV, ut, e]; exact f4 q
  · split <;> omega
  rintro _ h5 δ5 ⟨rfl, rfl, r5, u5⟩
  have w5 := w4.over u5 own
  rw [gm] at r5 ⊢
  rw [show takeV 2 w 1 0 (kSlot 0 ((if 0 = 1 then 1 else 0) % 2)) = 7 by simp [takeV, ut]; exact f6]
  have t5 := t4.take (m := 2) (b := 0) (o := 0)
  have b3 : bst (hdF G (takeV 2 (takeV 2 w 1 0) 0 0) (fun _ => 1) 0) 8 = none := by
    refine bst_none (fun q _ => hdF_not (fun x => ?_))
    obtain ⟨x1, x2⟩ := x
    rw [gm] at x2
    simp [takeV, ut] at x2
    rw [f7] at x2
    omega
  (repeat (first | refine EK.seq ?_ | refine EK.region ?_ | refine ER.done ?_ | refine ER.move rfl rfl rfl ?_ | refine ER.assign rfl rfl rfl ?_ | refine ER.extract rfl rfl rfl rfl ?_))
  refine ER.callR rfl rfl rfl rfl rfl (take_none (e := 1) (oN := fun _ => 1) r5 (by rw [gm]) (by omega) (by omega) (by omega) (fun q hq => ⟨?_, by omega⟩) (fun q j _ => t5.b q j) (fun _ _ _ x => x) b3) ?_
  · rcases (show q = 0 \/ q = 1 by omega) with rfl | rfl <;> simp [takeV, ut]
  rintro _ h6 δ6 ⟨rfl, rfl, u6⟩
  (repeat (first | refine EK.seq ?_ | refine EK.region ?_ | refine ER.done ?_ | refine ER.move rfl rfl rfl ?_ | refine ER.assign rfl rfl rfl ?_ | refine ER.notB rfl rfl rfl ?_ | refine ER.pickT rfl rfl rfl rfl ?_ | refine ER.extract rfl rfl rfl rfl ?_ | refine ER.cmpT rfl rfl rfl rfl rfl (by first | (dsimp only [cmpP]; omega) | exact rfl | exact Int.le_refl _) ?_ | refine EK.ret ?_))
  exact EU.ret1 rfl rfl ⟨rfl, w5.trans u6, rfl⟩
end
end
section
open Go Go.TJ Go.Conc Go.Proofs
section
variable {Γ : Type} {P : Program} {main : Bool} {S : Sit Γ} {f : FuncId} {n : Nat} {k : List Item} {env : Env} {ds : List Deferred} {h : Hp} {δ : Ix Γ} {R : Post Γ}
variable {ops : Array Oper} {l : List Oper} {d : Nat} {ty : TypeId} {pos : String} {af : Array Edge} {g : Option (Nat × Bool)}
theorem sem_appendNil {t e by_ : Nat} {z : Value} [hinf : Inf P e 1 by_ z] [hu : Und P t (.slice e)] {x : Value} {vs : List Value} {Q : Value -> Hp -> Ix Γ -> Prop} {X : Value -> Hp -> Ix Γ -> Prop}
    (hx : RdS h x vs) (hfit : vs.length * by_ <= 140737488355328) (hm : vs.length < 1000000000000) (hz : z.cells.size = 1)
    (hq : ∀ s' h', SliceO h' s' e 1 vs.length vs -> Upd (fun _ => False) h h' -> (∀ b, blk s' = some b -> b = h.size) -> Q s' h' δ) :
    SemW P S (Builtin.append_ #[t, t] ty #[.slice none 0 0, x]) h δ Q X := by
  obtain ⟨a, c', rfl⟩ := hx.val
  obtain ⟨inf, hi1, hi2, hi3, hi4⟩ := hinf.get
  have hfirst : ∀ {Q' : Array Value -> Hp -> Ix Γ -> Prop}, Q' vs.toArray h δ -> SemW P S (Builtin.firstCells 1 vs.length (.slice a vs.length c')) h δ Q' X := fun {Q'} hq' => by
    cases hv : vs with
    | nil =>
      subst hv
      cases a with
      | none => exact hq'
      | some a => exact hq'
    | cons v0 vt =>
      obtain ⟨b, o, k, e1, -⟩ := hx.cell 0 v0 (by rw [hv]; rfl)
      injection e1 with e1
      subst e1
      rw [<- hv]
      show SemW P S (loadCells ⟨b, o, none⟩ (vs.length * 1)) h δ Q' X
      rw [Nat.mul_one]
      refine semW_loadCellsFrom vs 0 #[] (fun j v hj => ?_) (by simpa using hq')
      obtain ⟨b', o', k', e2, hc⟩ := hx.cell j v hj
      injection e2 with e2
      injection e2 with e2
      injection e2 with e2 e3
      subst e2 e3
      simpa using hc
  have hout := hu.out
  unfold Builtin.append_
  show SemW P S (underlying t >>= _) h δ Q X
  refine semW_underlying hout ?_
  show SemW P S (sizeOf e >>= _) h δ Q X
  refine semW_sizeOf hi1 ?_
  rw [hi2]
  show SemW P S (underlying t >>= _) h δ Q X
  refine semW_underlying hout ?_
  refine semW_pureBind ?_
  show SemW P S (pure vs.length >>= _) h δ Q X
  refine semW_pureBind ?_
  simp only []
  by_cases hle : 0 + vs.length <= 0
  · rw [if_pos hle]
    have hv : vs = [] := List.length_eq_zero_iff.1 (by omega)
    show SemW P S (Builtin.firstCells 1 vs.length (.slice a vs.length c') >>= _) h δ Q X
    refine semW_bind _ _ _ _ _ _ (hfirst ?_)
    refine semW_pure (Q := _) ?_
    subst hv
    exact hq _ _ SliceO.nil (Upd.refl _ _) (fun b hb => by cases hb)
  · rw [if_neg hle]
    have hmax : IntKind.i64.max = 9223372036854775807 := by decide
    refine semW_typeInfo hi1 ?_
    rw [if_neg (by rw [hmax]; omega)]
    refine semW_typeInfo hi1 ?_
    rw [if_neg (by rw [hi3]; have := growslice_fits (need := 0 + vs.length) (old := 0) (bytes := by_) (by omega) (by rw [Nat.zero_add]; exact hfit); omega)]
    refine semW_bind _ _ _ _ _ _ ?_
    intro newCap hcut
    have hge : vs.length <= newCap := by
      rcases hcut with ⟨h1, h2⟩ | ⟨h1, t', h2⟩
      · cases h1
      · rw [h2]; exact Nat.le_trans (Nat.le_of_eq (Nat.zero_add _).symm) (Nat.le_add_right _ _)
    refine semW_pure (Q := _) ?_
    refine semW_typeInfo hi1 ?_
    have hroom : ∀ {Q' : Unit -> Hp -> Ix Γ -> Prop}, Q' () h δ -> SemW P S (askRoom (newCap * inf.bytes)) h δ Q' X := fun {Q'} hq' => by
      unfold askRoom
      split
      · exact ⟨nofun, nofun, hq'⟩
      · exact hq'
    refine semW_bind _ _ _ _ _ _ (hroom ?_)
    show SemW P S (Builtin.firstCells 1 0 (.slice none 0 0) >>= _) h δ Q X
    refine semW_pureBind ?_
    show SemW P S (Builtin.firstCells 1 vs.length (.slice a vs.length c') >>= _) h δ Q X
    refine semW_bind _ _ _ _ _ _ (hfirst ?_)
    refine semW_zeroValue hi1 hi4 ?_
    refine ⟨thawed, ?_⟩
    refine semW_pure (Q := _) ?_
    have hzc : (Builtin.zeroCells z.cells (newCap - (0 + vs.length))).toList.length = (newCap - vs.length) * 1 := by simp [Builtin.zeroCells, hz]
    rw [Nat.zero_add] at *
    refine hq _ _ ⟨by omega, .inr ⟨h.size, newCap, (Builtin.zeroCells z.cells (newCap - vs.length)).toList, rfl, hge, hzc, ?_⟩⟩ (Upd.push _ _) (fun b hb => by cases hb; rfl)
    rw [get_push_new]
    congr 2
    simp
theorem ER.appendNil {t e by_ : Nat} {z : Value} [Inf P e 1 by_ z] [Und P t (.slice e)] {x y : Operand} {s : Value} {vs : List Value}
    (hw : wantE ops env g = some true) (hd : Nat.blt d n = true) (hx : ev env x = some (.slice none 0 0)) (hy : ev env y = some s)
    (hs : RdS h s vs) (hfit : vs.length * by_ <= 140737488355328) (hm : vs.length < 1000000000000) (hz : z.cells.size = 1)
    (hn : ∀ s' h', SliceO h' s' e 1 vs.length vs -> Upd (fun _ => False) h h' -> (∀ b, blk s' = some b -> b = h.size) -> ER P main S f n ops l k ((d, s') :: env) ds h' δ R) :
    ER P main S f n ops (⟨some d, .call { callee := .builtin .append, args := #[x, y], argTypes := #[t, t] }, ty, pos, af, g⟩ :: l) k env ds h δ R := by
  refine ER.val (Q := fun s' h' δ' => δ' = δ /\ SliceO h' s' e 1 vs.length vs /\ Upd (fun _ => False) h h' /\ (∀ b, blk s' = some b -> b = h.size)) hw hd (fun ρ hρ => sem_builtin (vs := #[.slice none 0 0, s]) (by simp [hρ x _ hx, hρ y _ hy]) fun cs => ?_) ?_
  · show SemW P S (Builtin.append_ #[t, t] ty #[.slice none 0 0, s] >>= fun v => pure (Next.value v)) h δ _ _
    exact semW_bind _ _ _ _ _ _ (sem_appendNil hs hfit hm hz (fun s' h' h1 h2 h3 => ⟨s', rfl, rfl, h1, h2, h3⟩))
  · rintro s' h' δ' ⟨rfl, h1, h2, h3⟩
    exact hn s' h' h1 h2 h3
end
end
section
open Go Go.TJ Go.Conc Go.Proofs
def csP (G : PG) (k : Key) : Prop := okP G.L G.m k /\ isV k
theorem pri_tg {G : PG} {v : Key -> Int} : Thg (priM G v) (csP G) v := by
  refine ⟨fun k hk => hk.1, fun k hk => priO_v hk.2, fun k hk hn => ?_⟩
  have hv : ¬ isV k := fun x => hn ⟨hk, x⟩
  obtain ⟨a, b, c⟩ := k
  have hv' : ¬ 4 <= a := hv
  rcases (show a = 0 \/ a = 1 \/ a = 2 \/ a = 3 by omega) with rfl | rfl | rfl | rfl
  · exact ⟨_, _, rfl, by decide, by decide, by decide⟩
  · exact ⟨_, _, rfl, by decide, by decide, by decide⟩
  · rcases b with _ | b
    · exact hk.elim
    · exact ⟨_, _, rfl, by decide, by decide, by decide⟩
  · rcases b with _ | b
    · exact hk.elim
    · exact ⟨_, _, rfl, by decide, by decide, by decide⟩
theorem pri_th {G : PG} {v : Key -> Int} {h : Hp} (m : thH (priM G v) (csP G) h) : PriH G h := fun k hk hv => by
  rw [m k hk (fun x => hv x.2)]
  exact congrArg some (priO_other hv)
theorem jpr0 {G : PG} {v : Nat -> Int} (hv : ∀ k, csP G k -> v (G.B k) = v0 k) : JPr G [] v := by
  refine ⟨?_, fun i hi => ?_, fun i hi => ?_, fun i j hi hj => ?_, fun e he => by cases he⟩
  · rw [hv kTk ⟨trivial, vv (by omega)⟩]; exact ⟨by show (0 : Int) <= 0; omega, by show (0 : Int) <= 0; omega⟩
  · rw [hv (kIn i) ⟨hi, vv (by omega)⟩]; exact ⟨by show (0 : Int) <= 0; omega, by show (0 : Int) <= 0; omega⟩
  · rw [hv (kOut i) ⟨hi, vv (by omega)⟩]; exact ⟨by show (0 : Int) <= 0; omega, by show (0 : Int) <= 0; omega⟩
  · rw [hv (kTick i j) ⟨⟨hi, hj⟩, vv (by omega)⟩]; exact ⟨by show (0 : Int) <= 0; omega, by show (0 : Int) <= 70000; omega⟩
section
variable {Γ : Type} {main : Bool} {S : Sit Γ} {δ : Ix Γ} {h h' : Hp} {base : Nat} {scv pv : Value} {sc : List (List GCall)} {LV RM N : Int}
theorem pow_le_12 {e : Nat} : 2 ^ e <= 4096 ↔ e <= 12 := by
  rw [show 4096 = 2 ^ 12 by decide]; exact Nat.pow_le_pow_iff_right (by decide)
set_option maxRecDepth 8000 in
set_option maxHeartbeats 4000000 in
theorem may_ok : CallW Try.prog main S 98 #[.int .i64 N] h δ (Ret fun v h' δ' => h' = h /\ δ' = δ /\ ∃ b, v = .bool b /\ (b = true ↔ ∃ e : Nat, 1 <= e /\ e <= 12 /\ N = ((2 ^ e : Nat) : Int))) := by
  refine CallW.start (n := 11) rfl rfl ?_
  (repeat (first | refine EK.seq ?_ | refine EK.region ?_ | refine ER.done ?_ | refine EK.block ?_ | refine ER.assign rfl rfl rfl ?_))
  refine EK.loopInv (fun k : Nat => [(3, .int .i64 k), (2, .bool false), (0, .int .i64 N)]) (fun k h' δ' => h' = h /\ δ' = δ /\ ∃ e : Nat, 1 <= e /\ e <= 13 /\ k = 2 ^ e /\ ∀ e' : Nat, 1 <= e' -> e' < e -> N ≠ ((2 ^ e' : Nat) : Int)) (fun k => 8192 - k) 2 ⟨rfl, rfl, rfl, trivial⟩ ⟨rfl, rfl, 1, by omega, by omega, rfl, fun e' h1 h2 => by omega⟩ ?_
  rintro k h1 δ1 ⟨rfl, rfl, e, e1, e2, rfl, hno⟩ again
  by_cases hk : 2 ^ e <= 4096
  · have e12 := pow_le_12.1 hk
    by_cases hN : ((2 ^ e : Nat) : Int) = N
    · subst hN
      generalize hg : 2 ^ e = g at hk again
      (repeat (first | refine EK.seq ?_ | refine EK.region ?_ | refine ER.done ?_ | refine EK.skip ?_ | refine EK.block ?_ | refine ER.move rfl rfl rfl ?_ | refine ER.assign rfl rfl rfl ?_ | refine ER.cmpT rfl rfl rfl rfl rfl (by first | (dsimp only [cmpP]; omega) | exact rfl | exact Int.le_refl _) ?_ | refine EK.condT rfl ?_ | refine EK.ret ?_))
      exact EU.ret1 rfl rfl ⟨rfl, rfl, true, rfl, fun _ => ⟨e, e1, e12, by rw [hg]⟩, fun _ => rfl⟩
    · have hp : 0 < 2 ^ e := Nat.two_pow_pos e
      have h2 : 2 * 2 ^ e = 2 ^ (e + 1) := by rw [Nat.pow_succ]; omega
      generalize hg : 2 ^ e = g at hk again hN hp h2
      (repeat (first | refine EK.seq ?_ | refine EK.region ?_ | refine ER.done ?_ | refine EK.skip ?_ | refine EK.block ?_ | refine EK.inBlock ?_ | refine ER.move rfl rfl rfl ?_ | refine ER.assign rfl rfl rfl ?_ | refine ER.cmpT rfl rfl rfl rfl rfl (by first | (dsimp only [cmpP]; omega) | exact rfl | exact Int.le_refl _) ?_ | refine ER.cmpF rfl rfl rfl rfl rfl (by first | (dsimp only [cmpP]; omega) | exact rfl | exact Int.le_refl _) ?_ | refine ER.mul (kd := .i64) rfl rfl rfl rfl (i64_in (by omega) (by omega)) ?_ | refine EK.condT rfl ?_ | refine EK.condF rfl ?_))
      rw [show (2 * (g : Int)) = ((2 * g : Nat) : Int) by omega]
      refine EK.back (again (2 * g) _ _ (by omega) ⟨rfl, rfl, e + 1, by omega, by omega, h2, fun e' q1 q2 => ?_⟩) ⟨rfl, rfl, rfl, trivial⟩
      by_cases q : e' = e
      · rw [q, hg]; exact fun x => hN x.symm
      · exact hno e' q1 (by omega)
  · have e12 : ¬ e <= 12 := fun x => hk (pow_le_12.2 x)
    generalize hg : 2 ^ e = g at hk again
    (repeat (first | refine EK.seq ?_ | refine EK.region ?_ | refine ER.done ?_ | refine ER.move rfl rfl rfl ?_ | refine ER.assign rfl rfl rfl ?_ | refine ER.cmpF rfl rfl rfl rfl rfl (by first | (dsimp only [cmpP]; omega) | exact rfl | exact Int.le_refl _) ?_ | refine EK.condF rfl ?_ | refine EK.ret ?_ | refine EK.exit rfl ?_))
    exact EU.ret1 rfl rfl ⟨rfl, rfl, false, rfl, fun x => (by cases x), fun ⟨e', q1, q2, q3⟩ => absurd q3 (hno e' q1 (by omega))⟩
set_option maxRecDepth 8000 in
set_option maxHeartbeats 8000000 in
theorem glong_ok {vp : List Value} (hs : ScrM base h scv sc) (hp : RdS h pv vp) (hpl : vp.length <= 1000000000000000) :
    CallW Try.prog main S 53 #[.agg #[.int .i64 LV, .int .i64 RM, scv, pv]] h δ (Ret fun v h' δ' => δ' = δ /\ Upd (fun _ => False) h h' /\ ∃ b, v = .bool b /\ (b = false -> sc.length <= 8 /\ (∀ l, l ∈ sc -> l.length <= 400) /\ vp.length <= 2000 /\ ∃ Ln Rn e : Nat, LV = Ln /\ RM = Rn /\ Rn = 2 ^ e /\ 1 <= e /\ e <= 6 /\ 1 <= Ln /\ Ln <= 8)) := by
  obtain ⟨aS, kS, eS⟩ := hs.val
  obtain ⟨aP, kP, eP⟩ := hp.val
  subst eS eP
  have big1 := hs.big.1
  obtain ⟨y, hy⟩ : ∃ y, y = h.size := ⟨_, rfl⟩
  refine CallW.start (n := 64) rfl rfl ?_
  (repeat (first | refine EK.seq ?_ | refine EK.region ?_ | refine ER.done ?_ | refine EK.block ?_ | refine ER.assign rfl rfl rfl ?_ | refine ER.boxA rfl rfl rfl ?_))
  refine EK.gen (fun h' => ScrM base h' (.slice aS sc.length kS) sc /\ Upd (fun _ => False) h h' /\ h'[y]? = some (.cells #[.int .i64 LV, .int .i64 RM, .slice aS sc.length kS, .slice aP vp.length kP] 132 (0, 0))) ⟨?_, Upd.push _ _, by rw [hy]; exact get_push_new _ _⟩ ?_
  · refine ⟨hs.val, hs.big, fun i l hl => ?_⟩
    obtain ⟨b, o, k, a', k', e1, e2, e3, e4⟩ := hs.row i l hl
    refine ⟨b, o, k, a', k', e1, e2, hcell_push e3, fun j q hq => ?_⟩
    obtain ⟨b', o', f1, f2, f3⟩ := e4 j q hq
    exact ⟨b', o', f1, f2, fun j v hv => hcell_push (f3 j v hv)⟩
  rw [<- hy]
  clear hs hp hy
  rintro h1 ⟨hs, uu, gy⟩
  have y1 : hcell h1 ⟨y, 2, none⟩ = some (.slice aS sc.length kS) := hcell_of gy rfl
  refine EK.loopInv (fun q : Nat × Nat => [(4, .int .i64 q.1), (3, .int .i64 q.2), (1, ptr y)]) (fun q h' δ' => δ' = δ /\ h' = h1 /\ q.1 <= sc.length /\ q.2 <= 2000000000000000 /\ ∀ j l, j < q.1 -> sc[j]? = some l -> l.length <= q.2) (fun q => sc.length - q.1) (0, 0) ⟨rfl, rfl, rfl, trivial⟩ ⟨rfl, rfl, Nat.zero_le _, by omega, fun j l hj => by omega⟩ ?_
  rintro ⟨i, m⟩ h2 δ2 ⟨rfl, rfl, hi, hm, hno⟩ again
  dsimp only at hi hm hno again ⊢
  by_cases hin : i < sc.length
  · by_cases hm4 : m <= 400
    · obtain ⟨l, hl⟩ : ∃ l, sc[i]? = some l := ⟨_, List.getElem?_eq_getElem hin⟩
      obtain ⟨b, o, k, a', k', e1, e2, e3, e4⟩ := hs.row i l hl
      injection e1 with e1
      subst e1
      have hlb := hs.big.2 l (List.mem_of_getElem? hl)
      (repeat (first | refine EK.seq ?_ | refine EK.region ?_ | refine ER.done ?_ | refine EK.skip ?_ | refine EK.block ?_ | refine EK.inBlock ?_ | refine ER.move rfl rfl rfl ?_ | refine ER.assign rfl rfl rfl ?_ | refine ER.fieldAddr rfl rfl rfl ?_ | refine ER.load1 rfl rfl rfl (hcell_of (by assumption) rfl) ?_ | refine ER.pickT rfl rfl rfl rfl ?_ | refine ER.cmpT rfl rfl rfl rfl rfl (by first | (dsimp only [cmpP]; omega) | exact rfl | exact Int.le_refl _) ?_ | refine ER.add (kd := .i64) rfl rfl rfl rfl (i64_in (by omega) (by omega)) ?_ | refine ER.len1 rfl rfl rfl ?_ | refine ER.indexSl rfl rfl rfl rfl (by omega) (by omega) ?_ | refine EK.condT rfl ?_ | refine ER.load1 rfl rfl rfl (by assumption) ?_))
      exact EK.back (again (i + 1, m + 1 + l.length) _ _ (by dsimp only; omega) ⟨rfl, rfl, by dsimp only; omega, by dsimp only; omega, fun j l' hj hl' => by
        dsimp only at hj ⊢
        by_cases e : j = i
        · subst e; rw [hl] at hl'; cases hl'; omega
        · have := hno j l' (by omega) hl'; omega⟩) ⟨rfl, rfl, rfl, trivial⟩
    · have y2 : hcell h2 ⟨y, 3, none⟩ = some (.slice aP vp.length kP) := hcell_of gy rfl
      (repeat (first | refine EK.seq ?_ | refine EK.region ?_ | refine ER.done ?_ | refine ER.move rfl rfl rfl ?_ | refine ER.assign rfl rfl rfl ?_ | refine ER.fieldAddr rfl rfl rfl ?_ | refine ER.load1 rfl rfl rfl (hcell_of (by assumption) rfl) ?_ | refine ER.no rfl rfl ?_ | refine ER.pickT rfl rfl rfl rfl ?_ | refine ER.cmpT rfl rfl rfl rfl rfl (by first | (dsimp only [cmpP]; omega) | exact rfl | exact Int.le_refl _) ?_ | refine ER.cmpF rfl rfl rfl rfl rfl (by first | (dsimp only [cmpP]; omega) | exact rfl | exact Int.le_refl _) ?_ | refine ER.len1 rfl rfl rfl ?_ | refine EK.condF rfl ?_ | refine EK.ret ?_ | refine EK.exit rfl ?_))
      exact EU.ret1 rfl rfl ⟨rfl, uu, _, rfl, fun e => by cases e⟩
  · obtain rfl : i = sc.length := by omega
    have y2 : hcell h2 ⟨y, 3, none⟩ = some (.slice aP vp.length kP) := hcell_of gy rfl
    have y0 : hcell h2 ⟨y, 0, none⟩ = some (.int .i64 LV) := hcell_of gy rfl
    have y00 : hcell h2 ⟨y, 1, none⟩ = some (.int .i64 RM) := hcell_of gy rfl
    clear again
    by_cases c1 : m <= 400
    · by_cases c2 : sc.length <= 8
      · by_cases c3 : vp.length <= 2000
        · by_cases c4 : 1 <= LV
          · by_cases c6 : LV <= 8
            · (repeat (first | refine EK.seq ?_ | refine EK.region ?_ | refine ER.done ?_ | refine ER.move rfl rfl rfl ?_ | refine ER.fieldAddr rfl rfl rfl ?_ | refine ER.load1 rfl rfl rfl (hcell_of (by assumption) rfl) ?_ | refine ER.no rfl rfl ?_ | refine ER.pickF rfl rfl rfl rfl ?_ | refine ER.cmpF rfl rfl rfl rfl rfl (by first | (dsimp only [cmpP]; omega) | exact rfl | exact Int.le_refl _) ?_ | refine ER.len1 rfl rfl rfl ?_ | refine EK.condF rfl ?_ | refine EK.exit rfl ?_))
              refine ER.callR rfl rfl rfl rfl rfl may_ok ?_
              rintro _ h3 δ3 ⟨rfl, rfl, b, rfl, hb⟩
              cases b with
              | false =>
                (repeat (first | refine ER.done ?_ | refine ER.move rfl rfl rfl ?_ | refine ER.assign rfl rfl rfl ?_ | refine ER.no rfl rfl ?_ | refine ER.notB rfl rfl rfl ?_ | refine ER.pickT rfl rfl rfl rfl ?_ | refine ER.pickF rfl rfl rfl rfl ?_ | refine EK.ret ?_))
                exact EU.ret1 rfl rfl ⟨rfl, uu, _, rfl, fun e => by cases e⟩
              | true =>
                obtain ⟨e, e1, e12, hN⟩ := hb.1 rfl
                by_cases c5 : RM <= 64
                · (repeat (first | refine ER.done ?_ | refine ER.move rfl rfl rfl ?_ | refine ER.assign rfl rfl rfl ?_ | refine ER.fieldAddr rfl rfl rfl ?_ | refine ER.load1 rfl rfl rfl (hcell_of (by assumption) rfl) ?_ | refine ER.notB rfl rfl rfl ?_ | refine ER.pickF rfl rfl rfl rfl ?_ | refine ER.cmpF rfl rfl rfl rfl rfl (by first | (dsimp only [cmpP]; omega) | exact rfl | exact Int.le_refl _) ?_ | refine EK.ret ?_))
                  refine EU.ret1 rfl rfl ⟨rfl, uu, _, rfl, fun _ => ⟨c2, fun l hl => by
                    obtain ⟨j, hj, rfl⟩ := List.mem_iff_getElem.1 hl
                    have := hno j _ hj (List.getElem?_eq_getElem hj)
                    omega, c3, LV.toNat, 2 ^ e, e, by omega, hN, rfl, e1, ?_, by omega, by omega⟩⟩
                  rcases Nat.lt_or_ge 6 e with q | q
                  · have := Nat.pow_le_pow_right (n := 2) (by decide) (show 7 <= e from q)
                    have h9 : 2 ^ 7 = 128 := by decide
                    omega
                  · exact q
                · skip
                  (repeat (first | refine ER.done ?_ | refine ER.move rfl rfl rfl ?_ | refine ER.assign rfl rfl rfl ?_ | refine ER.fieldAddr rfl rfl rfl ?_ | refine ER.load1 rfl rfl rfl (hcell_of (by assumption) rfl) ?_ | refine ER.notB rfl rfl rfl ?_ | refine ER.pickF rfl rfl rfl rfl ?_ | refine ER.cmpT rfl rfl rfl rfl rfl (by first | (dsimp only [cmpP]; omega) | exact rfl | exact Int.le_refl _) ?_ | refine EK.ret ?_))
                  exact EU.ret1 rfl rfl ⟨rfl, uu, _, rfl, fun e => by cases e⟩
            · skip
              (repeat (first | refine EK.seq ?_ | refine EK.region ?_ | refine ER.done ?_ | refine ER.move rfl rfl rfl ?_ | refine ER.assign rfl rfl rfl ?_ | refine ER.fieldAddr rfl rfl rfl ?_ | refine ER.load1 rfl rfl rfl (hcell_of (by assumption) rfl) ?_ | refine ER.no rfl rfl ?_ | refine ER.pickT rfl rfl rfl rfl ?_ | refine ER.pickF rfl rfl rfl rfl ?_ | refine ER.cmpT rfl rfl rfl rfl rfl (by first | (dsimp only [cmpP]; omega) | exact rfl | exact Int.le_refl _) ?_ | refine ER.cmpF rfl rfl rfl rfl rfl (by first | (dsimp only [cmpP]; omega) | exact rfl | exact Int.le_refl _) ?_ | refine ER.len1 rfl rfl rfl ?_ | refine EK.condF rfl ?_ | refine EK.ret ?_ | refine EK.exit rfl ?_))
              exact EU.ret1 rfl rfl ⟨rfl, uu, _, rfl, fun e => by cases e⟩
          · skip
            (repeat (first | refine EK.seq ?_ | refine EK.region ?_ | refine ER.done ?_ | refine ER.move rfl rfl rfl ?_ | refine ER.assign rfl rfl rfl ?_ | refine ER.fieldAddr rfl rfl rfl ?_ | refine ER.load1 rfl rfl rfl (hcell_of (by assumption) rfl) ?_ | refine ER.no rfl rfl ?_ | refine ER.pickT rfl rfl rfl rfl ?_ | refine ER.pickF rfl rfl rfl rfl ?_ | refine ER.cmpT rfl rfl rfl rfl rfl (by first | (dsimp only [cmpP]; omega) | exact rfl | exact Int.le_refl _) ?_ | refine ER.cmpF rfl rfl rfl rfl rfl (by first | (dsimp only [cmpP]; omega) | exact rfl | exact Int.le_refl _) ?_ | refine ER.len1 rfl rfl rfl ?_ | refine EK.condF rfl ?_ | refine EK.ret ?_ | refine EK.exit rfl ?_))
            exact EU.ret1 rfl rfl ⟨rfl, uu, _, rfl, fun e => by cases e⟩
        · skip
          (repeat (first | refine EK.seq ?_ | refine EK.region ?_ | refine ER.done ?_ | refine ER.move rfl rfl rfl ?_ | refine ER.assign rfl rfl rfl ?_ | refine ER.fieldAddr rfl rfl rfl ?_ | refine ER.load1 rfl rfl rfl (hcell_of (by assumption) rfl) ?_ | refine ER.no rfl rfl ?_ | refine ER.pickT rfl rfl rfl rfl ?_ | refine ER.pickF rfl rfl rfl rfl ?_ | refine ER.cmpT rfl rfl rfl rfl rfl (by first | (dsimp only [cmpP]; omega) | exact rfl | exact Int.le_refl _) ?_ | refine ER.cmpF rfl rfl rfl rfl rfl (by first | (dsimp only [cmpP]; omega) | exact rfl | exact Int.le_refl _) ?_ | refine ER.len1 rfl rfl rfl ?_ | refine EK.condF rfl ?_ | refine EK.ret ?_ | refine EK.exit rfl ?_))
          exact EU.ret1 rfl rfl ⟨rfl, uu, _, rfl, fun e => by cases e⟩
      · skip
        (repeat (first | refine EK.seq ?_ | refine EK.region ?_ | refine ER.done ?_ | refine ER.move rfl rfl rfl ?_ | refine ER.assign rfl rfl rfl ?_ | refine ER.fieldAddr rfl rfl rfl ?_ | refine ER.load1 rfl rfl rfl (hcell_of (by assumption) rfl) ?_ | refine ER.no rfl rfl ?_ | refine ER.pickT rfl rfl rfl rfl ?_ | refine ER.pickF rfl rfl rfl rfl ?_ | refine ER.cmpT rfl rfl rfl rfl rfl (by first | (dsimp only [cmpP]; omega) | exact rfl | exact Int.le_refl _) ?_ | refine ER.cmpF rfl rfl rfl rfl rfl (by first | (dsimp only [cmpP]; omega) | exact rfl | exact Int.le_refl _) ?_ | refine ER.len1 rfl rfl rfl ?_ | refine EK.condF rfl ?_ | refine EK.ret ?_ | refine EK.exit rfl ?_))
        exact EU.ret1 rfl rfl ⟨rfl, uu, _, rfl, fun e => by cases e⟩
    · skip
      (repeat (first | refine EK.seq ?_ | refine EK.region ?_ | refine ER.done ?_ | refine ER.move rfl rfl rfl ?_ | refine ER.assign rfl rfl rfl ?_ | refine ER.fieldAddr rfl rfl rfl ?_ | refine ER.load1 rfl rfl rfl (hcell_of (by assumption) rfl) ?_ | refine ER.no rfl rfl ?_ | refine ER.pickT rfl rfl rfl rfl ?_ | refine ER.pickF rfl rfl rfl rfl ?_ | refine ER.cmpT rfl rfl rfl rfl rfl (by first | (dsimp only [cmpP]; omega) | exact rfl | exact Int.le_refl _) ?_ | refine ER.cmpF rfl rfl rfl rfl rfl (by first | (dsimp only [cmpP]; omega) | exact rfl | exact Int.le_refl _) ?_ | refine ER.len1 rfl rfl rfl ?_ | refine EK.condF rfl ?_ | refine EK.ret ?_ | refine EK.exit rfl ?_))
      exact EU.ret1 rfl rfl ⟨rfl, uu, _, rfl, fun e => by cases e⟩
theorem copy_ok {vs : List Value} {sv : Value} (hs : RdS h sv vs) (hl : vs.length <= 2000) : CallW Try.prog main S 18 #[sv] h δ (Ret fun v h' δ' => δ' = δ /\ SliceO h' v 3 1 vs.length vs /\ Upd (fun _ => False) h h' /\ ∀ b, blk v = some b -> b = h.size) := by
  refine CallW.start (n := 7) rfl rfl ?_
  (repeat (first | refine EK.seq ?_ | refine EK.region ?_ | refine ER.done ?_ | refine ER.move rfl rfl rfl ?_ | refine ER.assign rfl rfl rfl ?_))
  refine ER.appendNil rfl rfl rfl rfl hs (by omega) (by omega) rfl ?_
  intro s' h' sl u hb
  (repeat (first | refine ER.done ?_ | refine ER.assign rfl rfl rfl ?_ | refine EK.ret ?_))
  exact EU.ret1 rfl rfl ⟨rfl, sl, u, hb⟩
set_option maxRecDepth 8000 in
set_option maxHeartbeats 4000000 in
theorem gnew_ok {Ln Rn e : Nat} (hm : Rn = 2 ^ e) (he1 : 1 <= e) (he : e <= 6) (hL1 : 1 <= Ln) (hL8 : Ln <= 8) {a : Option Addr} {k : Nat} (hsl : sc.length <= 8) :
    CallW Try.prog main (NoS (Γ := Γ)) 54 #[.agg #[.int .i64 (Ln : Int), .int .i64 (Rn : Int), .slice a sc.length k, pv]] h δ (Ret fun v h' δ' => δ' = δ /\ Upd (fun _ => False) h h' /\ ∃ (S0 T : Nat) (G : PG), G.L = Ln /\ G.m = Rn /\ v = ptr S0 /\
      h'[S0]? = some (.cells #[ptr (G.B kTop), .slice (some ⟨T, 0, none⟩) sc.length sc.length] 145 (0, 0)) /\ h'[T]? = some (.cells (List.replicate sc.length nilS).toArray 141 (0, 0)) /\
      Rep h' (priM G v0) /\ (∀ k, (priM G v0).ok k -> h.size <= (priM G v0).B k) /\ h.size <= S0 /\ h.size <= T) := by
  refine CallW.start (n := 28) rfl rfl ?_
  have gp0 := get_push_new h (.cells #[.int .i64 (Ln : Int), .int .i64 (Rn : Int), .slice a sc.length k, pv] 132)
  (repeat (first | refine EK.seq ?_ | refine EK.region ?_ | refine ER.done ?_ | refine ER.assign rfl rfl rfl ?_ | refine ER.fieldAddr rfl rfl rfl ?_ | refine ER.load1 rfl rfl rfl (hcell_of (by assumption) rfl) ?_ | refine ER.boxA rfl rfl rfl ?_))
  refine ER.callR rfl rfl rfl rfl rfl (new_ok hL1 hL8 hm he1 (by omega) (fun _ _ _ x => x)) ?_
  rintro _ h2 δ2 ⟨rfl, u2, G, rfl, rfl, rfl, r2, ab⟩
  have u02 : Upd (fun _ => False) h h2 := (Upd.push _ _).trans u2
  have gp : h2[h.size]? = some (.cells #[.int .i64 (G.L : Int), .int .i64 (G.m : Int), .slice a sc.length k, pv] 132 (0, 0)) := u2.get (get_push_new _ _) (fun x => x)
  have ab' : ∀ k, okP G.L G.m k -> h.size <= G.B k := fun k hk => by have := ab k hk; rw [Array.size_push] at this; omega
  have y1 : hcell h2 ⟨h.size, 2, none⟩ = some (.slice a sc.length k) := hcell_of gp rfl
  change Rep h2 (priM G v0) at r2
  clear ab u2
  (repeat (first | refine EK.seq ?_ | refine EK.region ?_ | refine ER.done ?_ | refine EK.skip ?_ | refine ER.move rfl rfl rfl ?_ | refine ER.assign rfl rfl rfl ?_ | refine ER.fieldAddr rfl rfl rfl ?_ | refine ER.load1 rfl rfl rfl (hcell_of (by assumption) rfl) ?_ | refine ER.eqV rfl rfl rfl rfl rfl ?_ | refine ER.pickF rfl rfl rfl rfl ?_ | refine ER.extract rfl rfl rfl rfl ?_ | refine ER.cmpF rfl rfl rfl rfl rfl (by first | (dsimp only [cmpP]; omega) | exact rfl | exact Int.le_refl _) ?_ | refine ER.len1 rfl rfl rfl ?_ | refine EK.condF rfl ?_))
  refine ER.makeSlice rfl rfl rfl rfl (by omega) (by omega) rfl ?_
  rintro s h3 sl eh hb
  have hh2 := u02.size
  have gpT := get_push_new h2 (.cells (List.replicate sc.length nilS).toArray 141)
  obtain ⟨T, hT⟩ : ∃ T, T = h2.size := ⟨_, rfl⟩
  have es : s = .slice (some ⟨T, 0, none⟩) sc.length sc.length := by
    obtain ⟨_, ⟨rfl, _⟩ | ⟨b, cap, rest, rfl, q1, q2, q3⟩⟩ := sl
    · cases hb
    · cases hb
      have q4 : h3[h2.size]? = some (.cells (List.replicate sc.length nilS).toArray 141 (0, 0)) := by rw [eh]; exact gpT
      have q5 := q4.symm.trans q3
      injection q5 with q5
      injection q5 with q5 _ _
      have q6 := congrArg Array.size q5
      simp only [List.size_toArray, List.length_append, List.length_replicate] at q6
      have : cap = sc.length := by omega
      rw [this, hT]
      rfl
  subst es
  have u3 : Upd (fun _ => False) h2 h3 := by rw [eh]; exact Upd.push _ _
  have gT : h3[T]? = some (.cells (List.replicate sc.length nilS).toArray 141 (0, 0)) := by rw [eh, hT]; exact gpT
  replace r2 := r2.upd0 u3
  have uu := u02.trans u3
  clear sl eh hb gpT y1 gp gp0 u3 u02
  refine ER.buildS (cells := #[ptr (G.B kTop), .slice (some ⟨T, 0, none⟩) sc.length sc.length]) rfl rfl (by rfl) (by rfl) ?_
  (repeat (first | refine ER.done ?_ | refine ER.assign rfl rfl rfl ?_ | refine ER.boxA rfl rfl rfl ?_ | refine EK.ret ?_))
  have hs3 := uu.size
  exact EU.ret1 rfl rfl ⟨rfl, uu.trans (Upd.push _ _), _, T, G, rfl, rfl, rfl, get_push_new _ _, get_push _ gT, r2.upd0 (Upd.push _ _), ab', hs3, by omega⟩
end
end
section
open Go Go.TJ Go.Conc Go.Proofs
section
variable {Γ : Type} {main : Bool} {S : Sit Γ} {δ : Ix Γ} {h : Hp}
theorem behind_ok {op was arg new : Int} (h1 : 1 <= op) (h2 : op <= 5) : CallW Try.prog main S 148 #[.int .i8 op, .int .i64 was, .int .i64 arg, .int .i64 new] h δ (Ret (Det (.tuple #[.int .i64 (behind op was arg new).1, .bool (behind op was arg new).2]) h δ)) := by
  refine CallW.start (n := 27) rfl rfl ?_
  rcases (show op = 1 \/ op = 2 \/ op = 3 \/ op = 4 \/ op = 5 by omega) with rfl | rfl | rfl | rfl | rfl
  · (repeat (first | refine EK.seq ?_ | refine EK.region ?_ | refine ER.done ?_ | refine EK.skip ?_ | refine EK.block ?_ | refine EK.inBlock ?_ | refine ER.move rfl rfl rfl ?_ | refine ER.assign rfl rfl rfl ?_ | refine ER.cmpF rfl rfl rfl rfl rfl (by first | (dsimp only [cmpP]; omega) | exact rfl | exact Int.le_refl _) ?_ | refine EK.condF rfl ?_ | refine EK.ret ?_))
    exact EU.ret2 rfl rfl rfl det
  · (repeat (first | refine EK.seq ?_ | refine EK.region ?_ | refine ER.done ?_ | refine EK.skip ?_ | refine EK.block ?_ | refine ER.move rfl rfl rfl ?_ | refine ER.assign rfl rfl rfl ?_ | refine ER.cmpT rfl rfl rfl rfl rfl (by first | (dsimp only [cmpP]; omega) | exact rfl | exact Int.le_refl _) ?_ | refine EK.condT rfl ?_ | refine EK.ret ?_))
    exact EU.ret2 rfl rfl rfl det
  · by_cases e : was = arg
    · have e1 : behind 3 was arg new = (new, true) := by unfold behind; simp [e]
      rw [e1]
      (repeat (first | refine EK.seq ?_ | refine EK.region ?_ | refine ER.done ?_ | refine EK.block ?_ | refine ER.move rfl rfl rfl ?_ | refine ER.assign rfl rfl rfl ?_ | refine ER.cmpT rfl rfl rfl rfl rfl (by first | (dsimp only [cmpP]; omega) | exact rfl | exact Int.le_refl _) ?_ | refine ER.cmpF rfl rfl rfl rfl rfl (by first | (dsimp only [cmpP]; omega) | exact rfl | exact Int.le_refl _) ?_ | refine EK.condT rfl ?_ | refine EK.condF rfl ?_ | refine EK.ret ?_))
      exact EU.ret2 rfl rfl rfl det
    · have e1 : behind 3 was arg new = (was, false) := by unfold behind; simp [e]
      rw [e1]
      (repeat (first | refine EK.seq ?_ | refine EK.region ?_ | refine ER.done ?_ | refine EK.skip ?_ | refine EK.block ?_ | refine EK.inBlock ?_ | refine ER.move rfl rfl rfl ?_ | refine ER.assign rfl rfl rfl ?_ | refine ER.cmpT rfl rfl rfl rfl rfl (by first | (dsimp only [cmpP]; omega) | exact rfl | exact Int.le_refl _) ?_ | refine ER.cmpF rfl rfl rfl rfl rfl (by first | (dsimp only [cmpP]; omega) | exact rfl | exact Int.le_refl _) ?_ | refine EK.condT rfl ?_ | refine EK.condF rfl ?_ | refine EK.ret ?_))
      exact EU.ret2 rfl rfl rfl det
  · have e1 : behind 4 was arg new = (IntKind.i64.wrap (was + arg), false) := rfl
    rw [e1]
    (repeat (first | refine EK.seq ?_ | refine EK.region ?_ | refine ER.done ?_ | refine EK.block ?_ | refine ER.move rfl rfl rfl ?_ | refine ER.assign rfl rfl rfl ?_ | refine ER.cmpT rfl rfl rfl rfl rfl (by first | (dsimp only [cmpP]; omega) | exact rfl | exact Int.le_refl _) ?_ | refine ER.cmpF rfl rfl rfl rfl rfl (by first | (dsimp only [cmpP]; omega) | exact rfl | exact Int.le_refl _) ?_ | refine EK.condT rfl ?_ | refine EK.condF rfl ?_))
    refine ER.add (kd := .i64) rfl rfl rfl rfl rfl ?_
    (repeat (first | refine ER.done ?_ | refine ER.assign rfl rfl rfl ?_ | refine EK.ret ?_))
    exact EU.ret2 rfl rfl rfl det
  · (repeat (first | refine EK.seq ?_ | refine EK.region ?_ | refine ER.done ?_ | refine EK.block ?_ | refine ER.move rfl rfl rfl ?_ | refine ER.assign rfl rfl rfl ?_ | refine ER.cmpT rfl rfl rfl rfl rfl (by first | (dsimp only [cmpP]; omega) | exact rfl | exact Int.le_refl _) ?_ | refine ER.cmpF rfl rfl rfl rfl rfl (by first | (dsimp only [cmpP]; omega) | exact rfl | exact Int.le_refl _) ?_ | refine EK.condT rfl ?_ | refine EK.condF rfl ?_ | refine EK.ret ?_))
    exact EU.ret2 rfl rfl rfl det
theorem turns_ok {m : Nat} (hm : m <= 65536) : CallW Try.prog main S 78 #[.int .i64 m] h δ (Ret (Det (.int .i64 m) h δ)) := by
  refine CallW.start (n := 8) rfl rfl ?_
  (repeat (first | refine EK.seq ?_ | refine EK.region ?_ | refine ER.done ?_ | refine EK.skip ?_ | refine ER.move rfl rfl rfl ?_ | refine ER.assign rfl rfl rfl ?_ | refine ER.cmpF rfl rfl rfl rfl rfl (by first | (dsimp only [cmpP]; omega) | exact rfl | exact Int.le_refl _) ?_ | refine EK.condF rfl ?_ | refine EK.ret ?_))
  exact EU.ret1 rfl rfl det
theorem place_ok {x : Int} {n : Nat} (hn : 0 < n) (hn2 : n <= 1000) : CallW Try.prog main S 65 #[.int .i64 x, .int .i64 n] h δ (Ret (Det (.int .i64 (x % (n : Int))) h δ)) := by
  have h1 := Int.lt_tmod_of_pos x (b := (n : Int)) (by omega)
  have h2 := Int.tmod_lt_of_pos x (b := (n : Int)) (by omega)
  have h3 := Int.emod_nonneg x (b := (n : Int)) (by omega)
  have h4 := Int.emod_lt_of_pos x (b := (n : Int)) (by omega)
  have h5 : x.tmod n = x % (n : Int) \/ x.tmod n + n = x % (n : Int) := by
    have k := tmod_twice x (m := (n : Int)) (by omega)
    have k2 : (x.tmod n + n).tmod n = (x.tmod n + n) % (n : Int) := Int.tmod_eq_emod_of_nonneg (by omega)
    rcases Int.lt_or_le (x.tmod n) 0 with y | y
    · right
      rw [<- k, k2, Int.emod_eq_of_lt (by omega) (by omega)]
    · left
      rw [<- k, k2, Int.add_emod_right, Int.emod_eq_of_lt (by omega) (by omega)]
  generalize hr : x % (n : Int) = r at h3 h4 h5 ⊢
  refine CallW.start (n := 15) rfl rfl ?_
  (repeat (first | refine EK.seq ?_ | refine EK.region ?_ | refine ER.done ?_ | refine ER.move rfl rfl rfl ?_ | refine ER.assign rfl rfl rfl ?_))
  refine ER.rem (r := x.tmod (n : Int)) rfl rfl rfl rfl (by omega) rfl ?_
  generalize x.tmod (n : Int) = q at h1 h2 h5 ⊢
  by_cases hq : q < 0
  · obtain rfl : r = q + n := by omega
    (repeat (first | refine EK.seq ?_ | refine EK.region ?_ | refine ER.done ?_ | refine ER.move rfl rfl rfl ?_ | refine ER.assign rfl rfl rfl ?_ | refine ER.cmpT rfl rfl rfl rfl rfl (by first | (dsimp only [cmpP]; omega) | exact rfl | exact Int.le_refl _) ?_ | refine ER.add (kd := .i64) rfl rfl rfl rfl (i64_in (by omega) (by omega)) ?_ | refine EK.condT rfl ?_ | refine EK.ret ?_))
    exact EU.ret1 rfl rfl det
  · obtain rfl : r = q := by omega
    (repeat (first | refine EK.seq ?_ | refine EK.region ?_ | refine ER.done ?_ | refine EK.skip ?_ | refine ER.move rfl rfl rfl ?_ | refine ER.assign rfl rfl rfl ?_ | refine ER.cmpF rfl rfl rfl rfl rfl (by first | (dsimp only [cmpP]; omega) | exact rfl | exact Int.le_refl _) ?_ | refine EK.condF rfl ?_ | refine EK.ret ?_))
    exact EU.ret1 rfl rfl det
theorem most_ok {l : List Nat} {last : Int} {sv : Value} (hl : SliceO h sv 3 1 l.length (l.map fun (n : Nat) => Value.int .i64 (n : Int))) (hne : l ≠ []) (hlen : l.length <= 1000) : CallW Try.prog main S 178 #[sv, .int .i64 last] h δ (Ret (Det (.int .i64 (roundOf l last)) h δ)) := by
  have hpos : 0 < l.length := List.length_pos_iff.2 hne
  obtain ⟨a, kL, rfl⟩ := hl.val
  obtain ⟨bL, ea, hc0, _⟩ := slice_at hl (k := 0) (q := l.headD 0) (by cases l with | nil => exact absurd rfl hne | cons a t => rfl)
  subst ea
  refine CallW.start (n := 25) rfl rfl ?_
  (repeat (first | refine EK.seq ?_ | refine EK.region ?_ | refine ER.done ?_ | refine EK.block ?_ | refine ER.assign rfl rfl rfl ?_))
  refine EK.loopInv (fun i : Nat => [(5, .int .i64 i), (0, .slice (some ⟨bL, 0, none⟩) l.length kL), (1, .int .i64 last)]) (fun i h' δ' => i <= l.length /\ h' = h /\ δ' = δ /\ ∀ (k x : Nat), k < i -> l[k]? = some x -> (x : Int) <= last) (fun i => l.length - i) 0 ⟨rfl, rfl, rfl, trivial⟩ ⟨Nat.zero_le _, rfl, rfl, fun k x hk => by omega⟩ ?_
  rintro i h1 δ1 ⟨hi, rfl, rfl, hb⟩ again
  by_cases hin : i < l.length
  · obtain ⟨j, hj⟩ : ∃ j, l[i]? = some j := ⟨_, List.getElem?_eq_getElem hin⟩
    obtain ⟨b2, e2, hc, _⟩ := slice_at hl hj
    injection e2 with e2
    injection e2 with e2
    subst e2
    by_cases hgt : last < (j : Int)
    · (repeat (first | refine EK.seq ?_ | refine EK.region ?_ | refine ER.done ?_ | refine EK.skip ?_ | refine EK.block ?_ | refine ER.move rfl rfl rfl ?_ | refine ER.assign rfl rfl rfl ?_ | refine ER.cmpT rfl rfl rfl rfl rfl (by first | (dsimp only [cmpP]; omega) | exact rfl | exact Int.le_refl _) ?_ | refine ER.len1 rfl rfl rfl ?_ | refine ER.indexSl rfl rfl rfl rfl (by omega) (by omega) ?_ | refine EK.condT rfl ?_ | refine EK.ret ?_ | refine ER.load1 rfl rfl rfl (by assumption) ?_))
      refine EU.ret1 rfl rfl ?_
      rw [round_at hj hgt hb]
      exact det
    · (repeat (first | refine EK.seq ?_ | refine EK.region ?_ | refine ER.done ?_ | refine EK.skip ?_ | refine EK.block ?_ | refine EK.inBlock ?_ | refine ER.move rfl rfl rfl ?_ | refine ER.assign rfl rfl rfl ?_ | refine ER.cmpT rfl rfl rfl rfl rfl (by first | (dsimp only [cmpP]; omega) | exact rfl | exact Int.le_refl _) ?_ | refine ER.cmpF rfl rfl rfl rfl rfl (by first | (dsimp only [cmpP]; omega) | exact rfl | exact Int.le_refl _) ?_ | refine ER.add (kd := .i64) rfl rfl rfl rfl (i64_in (by omega) (by omega)) ?_ | refine ER.len1 rfl rfl rfl ?_ | refine ER.indexSl rfl rfl rfl rfl (by omega) (by omega) ?_ | refine EK.condT rfl ?_ | refine EK.condF rfl ?_ | refine ER.load1 rfl rfl rfl (by assumption) ?_))
      refine EK.back (again (i + 1) _ _ (by omega) ⟨by omega, rfl, rfl, fun k x hk hx => ?_⟩) ⟨rfl, rfl, rfl, trivial⟩
      by_cases e : k = i
      · subst e
        rw [hj] at hx; cases hx; omega
      · exact hb k x (by omega) hx
  · obtain rfl : i = l.length := by omega
    clear again
    (repeat (first | refine EK.seq ?_ | refine EK.region ?_ | refine ER.done ?_ | refine ER.move rfl rfl rfl ?_ | refine ER.assign rfl rfl rfl ?_ | refine ER.cmpF rfl rfl rfl rfl rfl (by first | (dsimp only [cmpP]; omega) | exact rfl | exact Int.le_refl _) ?_ | refine ER.len1 rfl rfl rfl ?_ | refine ER.indexSl rfl rfl rfl rfl (by omega) (by omega) ?_ | refine EK.condF rfl ?_ | refine EK.ret ?_ | refine EK.exit rfl ?_ | refine ER.load1 rfl rfl rfl (by assumption) ?_))
    refine EU.ret1 rfl rfl ?_
    rw [round_none (fun k x hx => hb k x (take_mid hx).2.2 hx)]
    exact det
end
end
section
open Go Go.TJ Go.Conc Go.Proofs
theorem ER.join {Γ : Type} {P : Program} {main : Bool} {S : Sit Γ} {f : FuncId} {n : Nat} {ops : Array Oper} {l : List Oper} {k : List Item} {env : Env} {ds : List Deferred} {h : Hp} {δ : Ix Γ} {R : Post Γ} {σ : Type} (E : σ -> Env) (I : σ -> Hp -> Ix Γ -> Prop) (h1 : (∀ s h' δ', I s h' δ' -> EK P main S f n k (E s) ds h' δ' R) -> ER P main S f n ops l k env ds h δ R) (h2 : ∀ s h' δ', I s h' δ' -> EK P main S f n k (E s) ds h' δ' R) : ER P main S f n ops l k env ds h δ R := h1 h2
theorem EK.join {Γ : Type} {P : Program} {main : Bool} {S : Sit Γ} {f : FuncId} {n : Nat} {c : Item} {k : List Item} {env : Env} {ds : List Deferred} {h : Hp} {δ : Ix Γ} {R : Post Γ} {σ : Type} (E : σ -> Env) (I : σ -> Hp -> Ix Γ -> Prop) (h1 : (∀ s h' δ', I s h' δ' -> EK P main S f n k (E s) ds h' δ' R) -> EK P main S f n (c :: k) env ds h δ R) (h2 : ∀ s h' δ', I s h' δ' -> EK P main S f n k (E s) ds h' δ' R) : EK P main S f n (c :: k) env ds h δ R := h1 h2
theorem EA.join {Γ : Type} {P : Program} {main : Bool} {S : Sit Γ} {f : FuncId} {n : Nat} {ops : Array Oper} {Z : Hp -> Prop} {z m : Nat} {listed : Array Bool} {k : List Item} {env : Env} {ds : List Deferred} {h : Hp} {δ : Ix Γ} {R : Post Γ} {σ : Type} (E : σ -> Env) (I : σ -> Hp -> Ix Γ -> Prop) (h1 : (∀ s h' δ', I s h' δ' -> EK P main S f n k (E s) ds h' δ' R) -> EA P main S f n ops Z z m listed k env ds h δ R) (h2 : ∀ s h' δ', I s h' δ' -> EK P main S f n k (E s) ds h' δ' R) : EA P main S f n ops Z z m listed k env ds h δ R := h1 h2
theorem EA.tNeqB {Γ : Type} {P : Program} {main : Bool} {S : Sit Γ} {f : FuncId} {n : Nat} {ops : Array Oper} {Z : Hp -> Prop} {z m : Nat} {listed l' : Array Bool} {k : List Item} {env : Env} {ds : List Deferred} {h : Hp} {δ : Ix Γ} {R : Post Γ} {d : Nat} {ty : TypeId} {pos : String} {af : Array Edge} {g : Option (Nat × Bool)} {t t2 : TypeId} {x y : Operand} {u w : Value} {dd : TypeDesc} {r : Bool} [hu : Und P t dd] (i : Nat)
    (hi : ops[i]? = some ⟨some d, .binOp .neq t x y t2, ty, pos, af, g⟩) (hs : takeB ops listed z i = true) (hl : listed.setIfInBounds i true = l')
    (hd : Nat.blt d n = true) (hw : wantE ops env g = some true) (hx : ev env x = some u) (hy : ev env y = some w) (he : eqRes dd u w = some r) (hZ : Z h)
    (hn : EA P main S f n ops Z z m l' k ((d, .bool (!r)) :: env) ds h δ R) : EA P main S f n ops Z z (m + 1) listed k env ds h δ R :=
  EA.take i hi hs hl hd hw (fun _ _ _ _ _ hρ _ hq => sem_neqV (hρ _ _ hx) (hρ _ _ hy) he hq) hZ hn
theorem rise_len {n : Nat} : ∀ {l : List Nat} (m : Nat), l.Pairwise (· < ·) -> (∀ a, a ∈ l -> m <= a) -> (∀ a, a ∈ l -> a < n) -> l.length <= n - m
  | [], _, _, _, _ => Nat.zero_le _
  | a :: l, m, h, hm, hn => by
    obtain ⟨h1, h2⟩ := List.pairwise_cons.1 h
    have := rise_len (n := n) (a + 1) h2 h1 (fun b hb => hn b (by simp [hb]))
    have ha := hm a (by simp)
    have hb := hn a (by simp)
    simp only [List.length_cons]
    omega
theorem numsA_len : ∀ (l : List Ev) (acc : List Nat), (numsA acc l).length <= acc.length + l.length
  | [], acc => by simp [numsA]
  | e :: l, acc => by
    have h1 := numsA_len l acc
    have h2 := numsA_len l (acc ++ [e.b])
    unfold numsA at h1 h2 ⊢
    rw [List.foldl_cons]
    split
    · simp; omega
    · simp at h2 ⊢; omega
theorem nums_len (l : List Ev) : (nums l).length <= l.length := by
  have := numsA_len l []
  simpa [nums, numsA] using this
section
variable {Γ : Type} {main : Bool} {δ : Ix Γ} {h h' : Hp} {R : Rec} {picks : List Int} {lL lW lY lV sP tv cv : Value} {last : Int} {C n most : Nat} {e : Int} {X : Us}
theorem RecM.updC (m : RecM R picks lL lW lY lV sP h) (hC : h[C]? = some (chkO e n lL lW lY lV sP most tv cv last)) (hP : picks ≠ [] -> ∀ b, blk sP = some b -> b ≠ C) (u : Upd (fun b => b = C) h h') : RecM R picks lL lW lY lV sP h' :=
  ⟨m.log.upd u (sliceO_ne m.log hC (by decide)), m.went.upd u (sliceO_ne m.went hC (by decide)), m.rdy.upd u (sliceO_ne m.rdy hC (by decide)), m.left.upd u (sliceO_ne m.left hC (by decide)), m.picks.upd u (fun hn => hP (fun e => hn (by rw [e]; rfl)))⟩
structure MemI (R : Rec) (h : Hp) (C : Nat) (lL lW lY lV sP tv : Value) (last : Int) (n : Nat) (k : Nat) (v : Nat -> Int) (nv cv : Value) (h' : Hp) : Prop where
  upd : Upd (fun b => b = C) h h'
  row : h'[C]? = some (chkO R.e n lL lW lY lV sP R.most tv cv last)
  now : SliceO h' nv 2 1 (nums (R.log.take k)).length ((nums (R.log.take k)).map fun b => Value.int .i64 (v b))
  fst : SliceO h' cv 2 1 (nums (R.log.take k)).length ((nums (R.log.take k)).map fun b => Value.int .i64 (R.v0 b))
  newn : ∀ b, blk nv = some b -> h.size <= b
  newc : ∀ b, blk cv = some b -> h.size <= b
  ne : ∀ b, blk nv = some b -> blk cv ≠ some b
set_option maxHeartbeats 8000000 in
set_option maxRecDepth 8000 in
theorem memory_ok (ok : RecOk X picks R) (m : RecM R picks lL lW lY lV sP h) (hC : h[C]? = some (chkO R.e n lL lW lY lV sP R.most tv nilS last)) (hP : picks ≠ [] -> ∀ b, blk sP = some b -> b ≠ C) :
    CallW Try.prog main (NoS (Γ := Γ)) 79 #[ptr C] h δ (Ret fun v h' δ' => δ' = δ /\ v = .bool true /\ ∃ cv, h'[C]? = some (chkO R.e n lL lW lY lV sP R.most tv cv last) /\ Upd (fun b => b = C) h h' /\ SliceO h' cv 2 1 (nums R.log).length ((nums R.log).map fun b => Value.int .i64 (R.v0 b)) /\ ∀ b, blk cv = some b -> h.size <= b) := by
  have hlen := ok.len
  have hmost := ok.most
  have hnl : ∀ k, (nums (R.log.take k)).length <= 65536 := fun k => by
    have := nums_len
    have h1 := this (R.log.take k)
    have h2 := List.length_take_le k R.log
    have h3 : (R.log.take k).length <= R.log.length := by rw [List.length_take]; omega
    omega
  have hCl := lt_of_get hC
  obtain ⟨aL, kL, eL⟩ := m.log.val
  obtain ⟨aV, kV, eV⟩ := m.left.val
  subst eL eV
  refine CallW.start (n := 237) rfl rfl ?_
  (repeat (first | refine EK.seq ?_ | refine EK.region ?_ | refine ER.done ?_ | refine EK.block ?_ | refine ER.assign rfl rfl rfl ?_))
  refine EK.loopInv (fun q : Nat × Value × Value × (Nat -> Int) => [(4, .int .i64 q.1), (3, q.2.1), (0, ptr C)]) (fun q h' δ' => q.1 <= R.log.length /\ δ' = δ /\ Chain X R.v0 (R.log.take q.1) q.2.2.2 /\ MemI R h C (.slice aL R.log.length kL) lW lY (.slice aV R.left.length kV) sP tv last n q.1 q.2.2.2 q.2.1 q.2.2.1 h') (fun q => R.log.length - q.1) (0, nilS, nilS, R.v0) ⟨rfl, rfl, rfl, trivial⟩ ⟨Nat.zero_le _, rfl, .nil, Upd.refl _ _, hC, SliceO.nil, SliceO.nil, fun b hb => (by cases hb), fun b hb => (by cases hb), fun b hb => (by cases hb)⟩ ?_
  rintro ⟨k, nv, cv, v⟩ h1 δ1 ⟨hk, hδ, ch, mi⟩ again
  dsimp only at hk ch mi again hδ ⊢
  subst hδ
  have m1 := m.updC hC hP mi.upd
  by_cases hin : k < R.log.length
  · obtain ⟨e, he⟩ : ∃ e, R.log[k]? = some e := ⟨_, List.getElem?_eq_getElem hin⟩
    obtain ⟨bL, ea, hrow, hz⟩ := slice_row (entL_len (nums R.log)) m1.log he
    subst ea
    have c2 : hcell h1 ⟨C, 2, none⟩ = some (.slice (some ⟨bL, 0, none⟩) R.log.length kL) := hcell_of mi.row rfl
    (repeat (first | refine EK.seq ?_ | refine EK.region ?_ | refine ER.done ?_ | refine EK.skip ?_ | refine EK.block ?_ | refine ER.move rfl rfl rfl ?_ | refine ER.nilCheck rfl rfl rfl ?_ | refine ER.fieldAddr rfl rfl rfl ?_ | refine ER.cmpT rfl rfl rfl rfl rfl (by first | (dsimp only [cmpP]; omega) | exact rfl | exact Int.le_refl _) ?_ | refine ER.len1 rfl rfl rfl ?_ | refine ER.indexSl rfl rfl rfl rfl (by omega) (by omega) ?_ | refine EK.condT rfl ?_ | refine ER.load1 rfl rfl rfl (by assumption) ?_))
    refine ER.loadN (vs := entL (nums R.log) e) rfl rfl rfl rfl hrow ?_
    (repeat refine ER.allocA rfl rfl ?_)
    refine ER.storeN (vs := entL (nums R.log) e) rfl rfl rfl rfl (by simp [entL, accL, OneCell]) (fun j hj => ⟨?_, hfroz_of (get_push_new _ _), fun x => x⟩) ?_
    · have hj' : j < 8 := hj
      rcases (show j = 0 \/ j = 1 \/ j = 2 \/ j = 3 \/ j = 4 \/ j = 5 \/ j = 6 \/ j = 7 by omega) with rfl | rfl | rfl | rfl | rfl | rfl | rfl | rfl <;> exact ⟨_, hcell_of (get_push_new _ _) rfl⟩
    rw [hsetRow_push (c := [.int .i64 0, .int .i8 0, .int .i64 0, .int .i64 0, .int .i64 0, .int .i64 0, .int .i64 0, .bool false]) (vs := entL (nums R.log) e) rfl]
    obtain ⟨w, i, r, cw, hr, e1, ch2⟩ := ok.chain.inv he
    obtain rfl := cw.det ch
    obtain ⟨i1, i2, i3, i4⟩ := idx_at he
    obtain ⟨hop1, hop2⟩ := And.intro hr.op1 hr.op2
    have harg := hr.arg
    have hnew := hr.new
    generalize hix : (nums R.log).idxOf e.b = ix at i1 i2 i3 i4
    have hent : entL (nums R.log) e = accL i r.op ix r.arg r.new (v r.b) (behind r.op (v r.b) r.arg r.new).1 (behind r.op (v r.b) r.arg r.new).2 := by unfold entL; rw [hix, e1]; rfl
    have heb : e.b = r.b := by rw [e1]; rfl
    rw [hent]
    rw [heb] at i1 i3 i4
    clear e1 hent hrow hz c2
    obtain ⟨op, rb, arg, new⟩ := r
    dsimp only at hop1 hop2 harg hnew i3 i4 ch2 ⊢
    generalize hx : behind op (v rb) arg new = x at ch2 ⊢
    refine ER.gen (fun h' => MemI R h C (.slice (some ⟨bL, 0, none⟩) R.log.length kL) lW lY (.slice aV R.left.length kV) sP tv last n k v nv cv h' /\ h'[h1.size]? = some (accO (accL i op ix arg new (v rb) x.1 x.2))) ⟨⟨upd_then mi.upd (Upd.push (T := fun _ => False) h1 _) (fun _ _ x => x.elim), get_push _ mi.row, mi.now.upd (Upd.push (T := fun _ => False) h1 _) (fun _ _ x => x), mi.fst.upd (Upd.push (T := fun _ => False) h1 _) (fun _ _ x => x), mi.newn, mi.newc, mi.ne⟩, get_push_new _ _⟩ ?_
    have hy0 : h.size <= h1.size := mi.upd.size
    obtain ⟨y, hy⟩ : ∃ y, y = h1.size := ⟨_, rfl⟩
    rw [<- hy] at hy0 ⊢
    clear mi m1 hy
    rintro h2 ⟨mi, ly⟩
    have hnk := hnl k
    have hnk1 := hnl (k + 1)
    obtain ⟨aN, kN, eN⟩ := mi.now.val
    subst eN
    have y0 : hcell h2 ⟨y, 0, none⟩ = some (.int .i64 i) := hcell_of ly rfl
    have y1 : hcell h2 ⟨y, 1, none⟩ = some (.int .i8 op) := hcell_of ly rfl
    have y2 : hcell h2 ⟨y, 2, none⟩ = some (.int .i64 ix) := hcell_of ly rfl
    have y3 : hcell h2 ⟨y, 3, none⟩ = some (.int .i64 arg) := hcell_of ly rfl
    have y4 : hcell h2 ⟨y, 4, none⟩ = some (.int .i64 new) := hcell_of ly rfl
    have y5 : hcell h2 ⟨y, 5, none⟩ = some (.int .i64 (v rb)) := hcell_of ly rfl
    have y6 : hcell h2 ⟨y, 6, none⟩ = some (.int .i64 x.1) := hcell_of ly rfl
    have y7 : hcell h2 ⟨y, 7, none⟩ = some (.bool x.2) := hcell_of ly rfl
    (repeat (first | refine EK.seq ?_ | refine EK.region ?_ | refine ER.done ?_ | refine EK.skip ?_ | refine ER.move rfl rfl rfl ?_ | refine ER.fieldAddr rfl rfl rfl ?_ | refine ER.load1 rfl rfl rfl (hcell_of (by assumption) rfl) ?_ | refine ER.pickF rfl rfl rfl rfl ?_ | refine ER.cmpF rfl rfl rfl rfl rfl (by first | (dsimp only [cmpP]; omega) | exact rfl | exact Int.le_refl _) ?_ | refine ER.len1 rfl rfl rfl ?_ | refine EK.condF rfl ?_))
    refine ER.join (fun _ : Unit => [(112, .bool false), (5, ptr y), (4, .int .i64 k), (3, .slice aN (nums (R.log.take k)).length kN), (0, ptr C)]) (fun _ h' δ' => h' = h2 /\ δ' = δ1) (fun key => ?_) ?_
    · by_cases h3 : op = 3
      · subst h3
        (repeat (first | refine ER.move rfl rfl rfl ?_ | refine ER.fieldAddr rfl rfl rfl ?_ | refine ER.load1 rfl rfl rfl (hcell_of (by assumption) rfl) ?_ | refine ER.no rfl rfl ?_ | refine ER.pickF rfl rfl rfl rfl ?_ | refine ER.cmpF rfl rfl rfl rfl rfl (by first | (dsimp only [cmpP]; omega) | exact rfl | exact Int.le_refl _) ?_))
        exact ER.done (EK.back (key () _ _ ⟨rfl, rfl⟩) ⟨rfl, rfl, rfl, rfl, rfl, trivial⟩)
      · have hn0 := hnew h3
        subst hn0
        by_cases h1 : op = 1
        · have ha0 := harg h1
          subst h1 ha0
          (repeat (first | refine ER.move rfl rfl rfl ?_ | refine ER.fieldAddr rfl rfl rfl ?_ | refine ER.load1 rfl rfl rfl (hcell_of (by assumption) rfl) ?_ | refine ER.pickT rfl rfl rfl rfl ?_ | refine ER.pickF rfl rfl rfl rfl ?_ | refine ER.cmpT rfl rfl rfl rfl rfl (by first | (dsimp only [cmpP]; omega) | exact rfl | exact Int.le_refl _) ?_ | refine ER.cmpF rfl rfl rfl rfl rfl (by first | (dsimp only [cmpP]; omega) | exact rfl | exact Int.le_refl _) ?_))
          exact ER.done (EK.back (key () _ _ ⟨rfl, rfl⟩) ⟨rfl, rfl, rfl, rfl, rfl, trivial⟩)
        · (repeat (first | refine ER.move rfl rfl rfl ?_ | refine ER.fieldAddr rfl rfl rfl ?_ | refine ER.load1 rfl rfl rfl (hcell_of (by assumption) rfl) ?_ | refine ER.no rfl rfl ?_ | refine ER.pickT rfl rfl rfl rfl ?_ | refine ER.pickF rfl rfl rfl rfl ?_ | refine ER.cmpT rfl rfl rfl rfl rfl (by first | (dsimp only [cmpP]; omega) | exact rfl | exact Int.le_refl _) ?_ | refine ER.cmpF rfl rfl rfl rfl rfl (by first | (dsimp only [cmpP]; omega) | exact rfl | exact Int.le_refl _) ?_))
          exact ER.done (EK.back (key () _ _ ⟨rfl, rfl⟩) ⟨rfl, rfl, rfl, rfl, rfl, trivial⟩)
    rintro _ h2 δ1 ⟨rfl, rfl⟩
    refine EK.condF rfl (EK.skip (EK.seq (EK.seq (EK.region ?_))))
    (repeat (first | refine ER.move rfl rfl rfl ?_ | refine ER.fieldAddr rfl rfl rfl ?_ | refine ER.load1 rfl rfl rfl (hcell_of (by assumption) rfl) ?_ | refine ER.len1 rfl rfl rfl ?_))
    refine ER.cmpB (r := decide ((ix : Int) = ((nums (R.log.take k)).length : Int))) rfl rfl rfl rfl rfl rfl ?_
    refine ER.done ?_
    refine EK.join (fun q : Value × Value => [(5, ptr y), (4, .int .i64 k), (3, q.1), (0, ptr C)]) (fun q h' δ' => δ' = δ1 /\ h'[y]? = some (accO (accL i op ix arg new (v rb) x.1 x.2)) /\ MemI R h C (.slice (some ⟨bL, 0, none⟩) R.log.length kL) lW lY (.slice aV R.left.length kV) sP tv last n (k + 1) v q.1 q.2 h') (fun key => ?_) ?_
    · rcases i4 with ⟨j1, j2, j3⟩ | ⟨j1, j2, j3⟩
      · rw [decide_eq_false (by omega)]
        refine EK.condF rfl (EK.skip (EK.back (key (_, cv) _ _ ⟨rfl, ly, ⟨mi.upd, mi.row, by rw [j2]; exact mi.now, by rw [j2]; exact mi.fst, mi.newn, mi.newc, mi.ne⟩⟩) ⟨rfl, rfl, rfl, rfl, trivial⟩))
      · rw [decide_eq_true (by omega)]
        refine EK.condT rfl (EK.seq (EK.region ?_))
        (repeat (first | refine ER.move rfl rfl rfl ?_ | refine ER.fieldAddr rfl rfl rfl ?_ | refine ER.load1 rfl rfl rfl (hcell_of (by assumption) rfl) ?_))
        refine ER.slice1 (sz := 1) (z := .int .i64 0) (cells := #[.int .i64 (v rb)]) rfl rfl rfl (by omega) (by omega) rfl rfl ?_
        refine ER.append1 (new := [.int .i64 (v rb)]) rfl rfl rfl rfl (mi.now.upd (Upd.push (T := fun _ => False) h2 _) (fun _ _ x => x)) (get_push_new _ _) rfl (by simp [OneCell]) (by omega) (by omega) (by rfl) (fun _ _ _ x => x) ?_
        intro s4 h4 sl4 u4 hb4
        have p4 : Upd (fun b => b = C) h h4 := upd_then (upd_then mi.upd (Upd.push (T := fun _ => False) h2 (.cells #[.int .i64 (v rb)] 2)) (fun _ _ x => x.elim)) u4 (fun b hb hx => by have := mi.newn b hx; omega)
        have r4 := u4.get (get_push (o := .cells #[.int .i64 (v rb)] 2) mi.row) (fun hx => by have := mi.newn C hx; omega)
        have nyN : ∀ b, blk (.slice aN (nums (R.log.take k)).length kN) = some b -> b ≠ y := fun b hb e => sliceO_ne mi.now ly (by decide) b hb e
        have ly4 := u4.get (get_push (o := .cells #[.int .i64 (v rb)] 2) ly) (fun hx => nyN y hx rfl)
        have f4 := (mi.fst.upd (Upd.push (T := fun _ => False) h2 (.cells #[.int .i64 (v rb)] 2)) (fun _ _ x => x)).upd u4 (fun b hb hx => mi.ne b hx hb)
        have nb4 : ∀ b, blk s4 = some b -> h.size <= b := fun b hb => by
          rcases hb4 b hb with y | y
          · exact mi.newn b y
          · rw [Array.size_push] at y; have := mi.upd.size; omega
        have ne4 : ∀ b, blk s4 = some b -> blk cv ≠ some b := fun b hb hx => by
          rcases hb4 b hb with y | y
          · exact mi.ne b y hx
          · rw [Array.size_push] at y; have := mi.fst.lt hx; omega
        have b1 : (nums (R.log.take (k + 1))).length = (nums (R.log.take k)).length + 1 := by rw [j2, List.length_append]; rfl
        have sn4 : SliceO h4 s4 2 1 (nums (R.log.take (k + 1))).length ((nums (R.log.take (k + 1))).map fun b => Value.int .i64 (v b)) := by rw [b1, j2, List.map_append]; exact sl4
        clear sl4 u4 hb4 nyN
        obtain ⟨aC, kC, eC⟩ := mi.fst.val
        subst eC
        have newc := mi.newc
        clear mi ly
        (repeat refine ER.assign rfl rfl rfl ?_)
        refine ER.done ?_
        refine EK.regionAnyL (fun h' => hcell h' ⟨C, 10, none⟩ = some (.slice aC (nums (R.log.take k)).length kC) /\ hcell h' ⟨y, 5, none⟩ = some (.int .i64 (v rb))) 11 ?_
        have hZ : _ /\ _ := And.intro (hcell_of r4 rfl : hcell h4 ⟨C, 10, none⟩ = some (.slice aC (nums (R.log.take k)).length kC)) (hcell_of ly4 rfl : hcell h4 ⟨y, 5, none⟩ = some (.int .i64 (v rb)))
        refine EA.tMove 0 rfl (by kernel_rfl) rfl rfl rfl rfl hZ ?_
        refine EA.tMove 1 rfl (by kernel_rfl) rfl rfl rfl rfl hZ ?_
        refine EA.tNil 2 rfl (by kernel_rfl) rfl rfl rfl rfl hZ ?_
        refine EA.tField 3 rfl (by kernel_rfl) rfl rfl rfl rfl hZ ?_
        refine EA.tLoad 4 rfl (by kernel_rfl) rfl rfl rfl rfl (fun _ hz => hz.1) hZ ?_
        refine EA.tField 5 rfl (by kernel_rfl) rfl rfl rfl rfl hZ ?_
        refine EA.tLoad 6 rfl (by kernel_rfl) rfl rfl rfl rfl (fun _ hz => hz.2) hZ ?_
        have hZ5 : _ /\ _ := ⟨hcell_push (o := .cells #[.int .i64 (v rb)] 2) hZ.1, hcell_push (o := .cells #[.int .i64 (v rb)] 2) hZ.2⟩
        refine EA.val (v := .slice (some ⟨h4.size, 0, none⟩) 1 1) (h' := h4.push (.cells #[.int .i64 (v rb)] 2)) 7 rfl (by kernel_rfl) rfl rfl rfl (fun ρ Q X hρ hq => sem_slice1 (sz := 1) hρ rfl (by omega) (by omega) rfl rfl hq) hZ5 ?_
        refine EA.append1 (new := [.int .i64 (v rb)]) 8 rfl (by kernel_rfl) rfl rfl rfl rfl rfl (f4.upd (Upd.push (T := fun _ => False) h4 _) (fun _ _ x => x)) (get_push_new _ _) rfl (by simp [OneCell]) (by omega) (by omega) rfl (fun _ _ _ x => x) ?_
        intro s6 h6 sl6 u6 hb6
        have p6 : Upd (fun b => b = C) h h6 := upd_then (upd_then p4 (Upd.push (T := fun _ => False) h4 (.cells #[.int .i64 (v rb)] 2)) (fun _ _ x => x.elim)) u6 (fun b hb hx => by have := newc b hx; omega)
        have r6 := u6.get (get_push (o := .cells #[.int .i64 (v rb)] 2) r4) (fun hx => by have := newc C hx; omega)
        have nyC : ∀ b, blk (.slice aC (nums (R.log.take k)).length kC) = some b -> b ≠ y := fun b hb e => sliceO_ne f4 ly4 (by decide) b hb e
        have ly6 := u6.get (get_push (o := .cells #[.int .i64 (v rb)] 2) ly4) (fun hx => nyC y hx rfl)
        have sn6 := (sn4.upd (Upd.push (T := fun _ => False) h4 (.cells #[.int .i64 (v rb)] 2)) (fun _ _ x => x)).upd u6 (fun b hb hx => ne4 b hb hx)
        have hZ6 : _ /\ _ := And.intro (hcell_of r6 rfl : hcell h6 ⟨C, 10, none⟩ = some (.slice aC (nums (R.log.take k)).length kC)) (hcell_of ly6 rfl : hcell h6 ⟨y, 5, none⟩ = some (.int .i64 (v rb)))
        refine ⟨hZ6, ?_⟩
        obtain ⟨aQ, kQ, eQ⟩ := sl6.val
        refine EA.val 9 rfl (by kernel_rfl) rfl rfl rfl (fun ρ Q X hρ hq => sem_nilCheck (hρ _ _ rfl) hq) hZ6 ?_
        have hZ := hZ6
        refine EA.tField 10 rfl (by kernel_rfl) rfl rfl rfl rfl hZ ?_
        refine EA.unitL (h' := hset h6 ⟨C, 10, none⟩ s6) 11 rfl (by kernel_rfl) rfl rfl rfl (fun ρ Q X hρ hq => sem_store1 (hρ _ _ rfl) (hρ _ _ rfl) (by rw [eQ]; exact ⟨nofun, nofun⟩) ⟨_, hZ6.1⟩ (hfroz_of r6) (fun x => x) hq) ?_
        refine EA.done (by kernel_rfl) ?_
        have e7 : hset h6 ⟨C, 10, none⟩ s6 = h6.setIfInBounds C (chkO R.e n (.slice (some ⟨bL, 0, none⟩) R.log.length kL) lW lY (.slice aV R.left.length kV) sP R.most tv s6 last) := hset_block r6 _
        rw [e7]
        have u7 : Upd (fun b => b = C) h6 (h6.setIfInBounds C (chkO R.e n (.slice (some ⟨bL, 0, none⟩) R.log.length kL) lW lY (.slice aV R.left.length kV) sP R.most tv s6 last)) := Upd.set _ _ _ rfl
        have nC6 : ∀ b, blk s6 = some b -> h.size <= b := fun b hb => by
          rcases hb6 b hb with y | y
          · exact newc b y
          · rw [Array.size_push] at y; have := p4.size; omega
        refine EK.back (key (s4, s6) _ _ ⟨rfl, by rw [get_set_ne _ (by omega)]; exact ly6, ⟨p6.trans u7, get_set_same r6, sn6.upd u7 (fun b hb e => by have := nb4 b hb; omega), ?_, nb4, nC6, fun b hb hx => ?_⟩⟩) ⟨rfl, rfl, rfl, rfl, trivial⟩
        · have := sl6.upd u7 (fun b hb e => by have := nC6 b hb; omega)
          rw [b1, j2, List.map_append]
          have ev : v rb = R.v0 rb := ch.first j1
          rw [ev] at this
          exact this
        · rcases hb6 b hx with y | y
          · exact ne4 b hb y
          · rw [Array.size_push] at y; have := sn4.lt hb; omega
    clear mi ly i4 hnk
    rintro ⟨nv, cv⟩ h2 δ1 ⟨hδ, ly, mi⟩
    dsimp only at mi hδ ⊢
    subst hδ
    obtain ⟨aN, kN, eN⟩ := mi.now.val
    subst eN
    have y1 : hcell h2 ⟨y, 1, none⟩ = some (.int .i8 op) := hcell_of ly rfl
    have y2 : hcell h2 ⟨y, 2, none⟩ = some (.int .i64 ix) := hcell_of ly rfl
    have y3 : hcell h2 ⟨y, 3, none⟩ = some (.int .i64 arg) := hcell_of ly rfl
    have y4 : hcell h2 ⟨y, 4, none⟩ = some (.int .i64 new) := hcell_of ly rfl
    have y5 : hcell h2 ⟨y, 5, none⟩ = some (.int .i64 (v rb)) := hcell_of ly rfl
    have y6 : hcell h2 ⟨y, 6, none⟩ = some (.int .i64 x.1) := hcell_of ly rfl
    have y7 : hcell h2 ⟨y, 7, none⟩ = some (.bool x.2) := hcell_of ly rfl
    (repeat (first | refine EK.seq ?_ | refine EK.region ?_ | refine ER.fieldAddr rfl rfl rfl ?_ | refine ER.load1 rfl rfl rfl (hcell_of (by assumption) rfl) ?_))
    refine ER.callD rfl rfl rfl rfl rfl (behind_ok hop1 hop2) ?_
    rw [hx]
    obtain ⟨x1, x2⟩ := x
    dsimp only at y6 y7 ch2 ⊢
    obtain ⟨bN, eN, cN, fN⟩ := slice_at mi.now i3
    subst eN
    clear y3 y4 hnl
    (repeat (first | refine EK.seq ?_ | refine ER.done ?_ | refine ER.move rfl rfl rfl ?_ | refine ER.assign rfl rfl rfl ?_ | refine ER.extract rfl rfl rfl rfl ?_))
    refine EK.regionAny (fun h' => h' = h2) ?_
    have hZ : h2 = h2 := rfl
    refine EA.tField 0 rfl (by kernel_rfl) rfl rfl rfl rfl hZ ?_
    refine EA.tLoad 1 rfl (by kernel_rfl) rfl rfl rfl rfl (fun _ hz => (by rw [hz]; exact y5)) hZ ?_
    refine EA.tMove 2 rfl (by kernel_rfl) rfl rfl rfl rfl hZ ?_
    refine EA.tField 3 rfl (by kernel_rfl) rfl rfl rfl rfl hZ ?_
    refine EA.tLoad 4 rfl (by kernel_rfl) rfl rfl rfl rfl (fun _ hz => (by rw [hz]; exact y2)) hZ ?_
    refine EA.tIdxS 5 rfl (by kernel_rfl) rfl rfl rfl rfl rfl (by omega) (by omega) hZ ?_
    refine EA.tLoad 6 rfl (by kernel_rfl) rfl rfl rfl rfl (fun _ hz => (by rw [hz]; exact cN)) hZ ?_
    refine EA.tCmpF 7 rfl (by kernel_rfl) rfl rfl rfl rfl rfl rfl (by first | (dsimp only [cmpP]; omega) | exact rfl | exact Int.le_refl _) hZ ?_
    refine EA.tMove 8 rfl (by kernel_rfl) rfl rfl rfl rfl hZ ?_
    refine EA.tField 9 rfl (by kernel_rfl) rfl rfl rfl rfl hZ ?_
    refine EA.tLoad 10 rfl (by kernel_rfl) rfl rfl rfl rfl (fun _ hz => (by rw [hz]; exact y6)) hZ ?_
    refine EA.tMove 11 rfl (by kernel_rfl) rfl rfl rfl rfl hZ ?_
    refine EA.tCmpF 12 rfl (by kernel_rfl) rfl rfl rfl rfl rfl rfl (by first | (dsimp only [cmpP]; omega) | exact rfl | exact Int.le_refl _) hZ ?_
    refine EA.tPickF 13 rfl (by kernel_rfl) rfl rfl rfl rfl rfl hZ ?_
    refine EA.tMove 14 rfl (by kernel_rfl) rfl rfl rfl rfl hZ ?_
    refine EA.tField 15 rfl (by kernel_rfl) rfl rfl rfl rfl hZ ?_
    refine EA.tLoad 16 rfl (by kernel_rfl) rfl rfl rfl rfl (fun _ hz => (by rw [hz]; exact y7)) hZ ?_
    refine EA.tMove 17 rfl (by kernel_rfl) rfl rfl rfl rfl hZ ?_
    refine EA.tNeqB (r := true) 18 rfl (by kernel_rfl) rfl rfl rfl rfl rfl (by cases x2 <;> rfl) hZ ?_
    refine EA.tPickF 19 rfl (by kernel_rfl) rfl rfl rfl rfl rfl hZ ?_
    refine EA.tMove 20 rfl (by kernel_rfl) rfl rfl rfl rfl hZ ?_
    refine EA.tField 21 rfl (by kernel_rfl) rfl rfl rfl rfl hZ ?_
    refine EA.tLoad 22 rfl (by kernel_rfl) rfl rfl rfl rfl (fun _ hz => (by rw [hz]; exact y1)) hZ ?_
    refine EA.tCmpF 23 rfl (by kernel_rfl) rfl rfl rfl rfl rfl rfl (by first | (dsimp only [cmpP]; omega) | exact rfl | exact Int.le_refl _) hZ ?_
    refine EA.tMove 24 rfl (by kernel_rfl) rfl rfl rfl rfl hZ ?_
    refine EA.takeNo 25 rfl (by kernel_rfl) rfl rfl rfl hZ ?_
    refine EA.takeNo 26 rfl (by kernel_rfl) rfl rfl rfl hZ ?_
    refine EA.takeNo 27 rfl (by kernel_rfl) rfl rfl rfl hZ ?_
    refine EA.takeNo 28 rfl (by kernel_rfl) rfl rfl rfl hZ ?_
    refine EA.takeNo 29 rfl (by kernel_rfl) rfl rfl rfl hZ ?_
    refine EA.tPickF 30 rfl (by kernel_rfl) rfl rfl rfl rfl rfl hZ ?_
    refine EA.tPickF 31 rfl (by kernel_rfl) rfl rfl rfl rfl rfl hZ ?_
    refine EA.done (by kernel_rfl) ?_
    refine EK.condF rfl (EK.skip (EK.region ?_))
    (repeat (first | refine ER.move rfl rfl rfl ?_ | refine ER.fieldAddr rfl rfl rfl ?_ | refine ER.load1 rfl rfl rfl (hcell_of (by assumption) rfl) ?_ | refine ER.indexSl rfl rfl rfl rfl (by omega) (by omega) ?_))
    refine ER.store1 rfl rfl rfl ⟨nofun, nofun⟩ ⟨_, cN⟩ (fN _) (fun x => x) ?_
    refine ER.done ?_
    have e9 : 0 + ix * 1 = ix := by omega
    have sn := mi.now.set (j := ix) (by rw [List.length_map]; exact i2) (.int .i64 x1)
    have u9 : Upd (fun b => b = bN) h2 (hset h2 ⟨bN, ix, none⟩ (.int .i64 x1)) := Upd.hset _ _ _ rfl
    have nN := mi.newn bN rfl
    have hmm : rb ∈ nums (R.log.take (k + 1)) := List.mem_of_getElem? i3
    rw [i1, <- map_ut (F := fun z => Value.int .i64 z) (nums_nodup _) hmm, <- i1] at sn
    have mi9 : MemI R h C (.slice (some ⟨bL, 0, none⟩) R.log.length kL) lW lY (.slice aV R.left.length kV) sP tv last n (k + 1) (ut v rb x1) (.slice (some ⟨bN, 0, none⟩) (nums (R.log.take (k + 1))).length kN) cv (hset h2 ⟨bN, ix, none⟩ (.int .i64 x1)) :=
      ⟨upd_then mi.upd u9 (fun b hb e => by omega), u9.get mi.row (fun e => by omega), sn, mi.fst.upd u9 (fun b hb e => mi.ne bN rfl (by rw [<- e]; exact hb)), mi.newn, mi.newc, mi.ne⟩
    change EK _ _ _ _ _ _ _ _ (hset h2 ⟨bN, 0 + ix * 1, none⟩ (.int .i64 x1)) _ _
    rw [e9]
    (repeat (first | refine EK.region ?_ | refine ER.done ?_ | refine EK.inBlock ?_ | refine ER.move rfl rfl rfl ?_ | refine ER.assign rfl rfl rfl ?_ | refine ER.add (kd := .i64) rfl rfl rfl rfl (i64_in (by omega) (by omega)) ?_))
    exact EK.back (again (k + 1, _, cv, ut v rb x1) _ _ (by dsimp only; omega) ⟨by dsimp only; omega, rfl, ch2, mi9⟩) ⟨rfl, rfl, rfl, trivial⟩
  · obtain rfl : k = R.log.length := by omega
    clear again
    rw [List.take_length] at ch
    obtain rfl := ch.det ok.chain
    have c2 : hcell h1 ⟨C, 2, none⟩ = some (.slice aL R.log.length kL) := hcell_of mi.row rfl
    obtain ⟨up, row, now, fst, newn, newc, -⟩ := mi
    rw [List.take_length] at now fst
    have hnk := hnl R.log.length
    rw [List.take_length] at hnk
    clear hnl
    have c5 : hcell h1 ⟨C, 5, none⟩ = some (.slice aV R.left.length kV) := hcell_of row rfl
    obtain ⟨aN, kN, eN⟩ := now.val
    subst eN
    have hnl : R.left.length <= 64 := by
      have h2 := rise_len (n := R.nb) (l := R.left.map (·.1)) 0 (List.pairwise_map.2 ok.rise) (fun _ _ => Nat.zero_le _) (fun a ha => by
        obtain ⟨q, hq, rfl⟩ := List.mem_map.1 ha
        exact (ok.left q hq).1)
      rw [List.length_map] at h2
      have := ok.nb
      omega
    (repeat (first | refine EK.seq ?_ | refine EK.region ?_ | refine ER.done ?_ | refine EK.block ?_ | refine ER.move rfl rfl rfl ?_ | refine ER.assign rfl rfl rfl ?_ | refine ER.nilCheck rfl rfl rfl ?_ | refine ER.fieldAddr rfl rfl rfl ?_ | refine ER.load1 rfl rfl rfl (hcell_of (by assumption) rfl) ?_ | refine ER.cmpF rfl rfl rfl rfl rfl (by first | (dsimp only [cmpP]; omega) | exact rfl | exact Int.le_refl _) ?_ | refine ER.len1 rfl rfl rfl ?_ | refine EK.condF rfl ?_ | refine EK.exit rfl ?_))
    refine EK.loopInv (fun k : Nat => [(8, .int .i64 k), (3, .slice aN (nums R.log).length kN), (0, ptr C)]) (fun k h' δ' => k <= R.left.length /\ δ' = δ1 /\ Upd (fun _ => False) h1 h') (fun k => R.left.length - k) 0 ⟨rfl, rfl, rfl, trivial⟩ ⟨Nat.zero_le _, rfl, Upd.refl _ _⟩ ?_
    rintro k h2 δ2 ⟨hk, hδ, u2⟩ again
    subst hδ
    have c5' := u2.hcell c5 (fun x => x)
    by_cases hin : k < R.left.length
    · obtain ⟨q, hq⟩ : ∃ q, R.left[k]? = some q := ⟨_, List.getElem?_eq_getElem hin⟩
      obtain ⟨bV, ea, hrow, hz⟩ := slice_row (leftE_len (nums R.log) R.val) (m1.left.upd u2 (fun _ _ x => x)) hq
      subst ea
      (repeat (first | refine EK.seq ?_ | refine EK.region ?_ | refine ER.done ?_ | refine EK.skip ?_ | refine EK.block ?_ | refine ER.move rfl rfl rfl ?_ | refine ER.nilCheck rfl rfl rfl ?_ | refine ER.fieldAddr rfl rfl rfl ?_ | refine ER.cmpT rfl rfl rfl rfl rfl (by first | (dsimp only [cmpP]; omega) | exact rfl | exact Int.le_refl _) ?_ | refine ER.len1 rfl rfl rfl ?_ | refine ER.indexSl rfl rfl rfl rfl (by omega) (by omega) ?_ | refine EK.condT rfl ?_ | refine ER.load1 rfl rfl rfl (by assumption) ?_))
      refine ER.loadN (vs := leftE (nums R.log) R.val q) rfl rfl rfl rfl hrow ?_
      (repeat refine ER.allocA rfl rfl ?_)
      refine ER.storeN (vs := leftE (nums R.log) R.val q) rfl rfl rfl rfl (by simp [leftE, accL, OneCell]) (fun j hj => ⟨?_, hfroz_of (get_push_new _ _), fun x => x⟩) ?_
      · have hj' : j < 8 := hj
        rcases (show j = 0 \/ j = 1 \/ j = 2 \/ j = 3 \/ j = 4 \/ j = 5 \/ j = 6 \/ j = 7 by omega) with rfl | rfl | rfl | rfl | rfl | rfl | rfl | rfl <;> exact ⟨_, hcell_of (get_push_new _ _) rfl⟩
      rw [hsetRow_push (c := [.int .i64 0, .int .i8 0, .int .i64 0, .int .i64 0, .int .i64 0, .int .i64 0, .int .i64 0, .bool false]) (vs := leftE (nums R.log) R.val q) rfl]
      refine ER.gen (fun h' => Upd (fun _ => False) h1 h' /\ h'[h2.size]? = some (accO (leftE (nums R.log) R.val q))) ⟨u2.trans (Upd.push _ _), get_push_new _ _⟩ ?_
      obtain ⟨y, hy⟩ : ∃ y, y = h2.size := ⟨_, rfl⟩
      rw [<- hy]
      clear hy hrow hz u2 c5'
      rintro h3 ⟨u3, ly⟩
      refine ER.done (EK.seq ?_)
      generalize hr : q.2 = r at *
      by_cases hb : r.b ∈ nums R.log
      · have hE : leftE (nums R.log) R.val q = accL q.1 r.op ((nums R.log).idxOf r.b : Nat) r.arg r.new (R.val r.b) (R.val r.b) false := by unfold leftE; rw [hr, if_pos hb]
        rw [hE] at ly
        have hlt := List.idxOf_lt_length_iff.2 hb
        generalize hix : (nums R.log).idxOf r.b = ix at ly hlt
        have hget : (nums R.log)[ix]? = some r.b := by rw [<- hix, List.getElem?_eq_getElem (List.idxOf_lt_length_iff.2 hb)]; simp
        obtain ⟨bN, eN, cN, fN⟩ := slice_at (now.upd u3 (fun _ _ x => x)) hget
        subst eN
        have y2 : hcell h3 ⟨y, 2, none⟩ = some (.int .i64 ix) := hcell_of ly rfl
        have y5 : hcell h3 ⟨y, 5, none⟩ = some (.int .i64 (R.val r.b)) := hcell_of ly rfl
        have y6 : hcell h3 ⟨y, 6, none⟩ = some (.int .i64 (R.val r.b)) := hcell_of ly rfl
        have y7 : hcell h3 ⟨y, 7, none⟩ = some (.bool false) := hcell_of ly rfl
        refine EK.regionAny (fun h' => h' = h3) ?_
        have hZ : h3 = h3 := rfl
        refine EA.tField 0 rfl (by kernel_rfl) rfl rfl rfl rfl hZ ?_
        refine EA.tLoad 1 rfl (by kernel_rfl) rfl rfl rfl rfl (fun _ hz => (by rw [hz]; exact y2)) hZ ?_
        refine EA.tCmpF 2 rfl (by kernel_rfl) rfl rfl rfl rfl rfl rfl (by first | (dsimp only [cmpP]; omega) | exact rfl | exact Int.le_refl _) hZ ?_
        refine EA.tMove 3 rfl (by kernel_rfl) rfl rfl rfl rfl hZ ?_
        refine EA.tField 4 rfl (by kernel_rfl) rfl rfl rfl rfl hZ ?_
        refine EA.tLoad 5 rfl (by kernel_rfl) rfl rfl rfl rfl (fun _ hz => (by rw [hz]; exact y2)) hZ ?_
        refine EA.tMove 6 rfl (by kernel_rfl) rfl rfl rfl rfl hZ ?_
        refine EA.tLen1 7 rfl (by kernel_rfl) rfl rfl rfl rfl hZ ?_
        refine EA.tCmpF 8 rfl (by kernel_rfl) rfl rfl rfl rfl rfl rfl (by first | (dsimp only [cmpP]; omega) | exact rfl | exact Int.le_refl _) hZ ?_
        refine EA.tPickF 9 rfl (by kernel_rfl) rfl rfl rfl rfl rfl hZ ?_
        refine EA.tMove 10 rfl (by kernel_rfl) rfl rfl rfl rfl hZ ?_
        refine EA.tField 11 rfl (by kernel_rfl) rfl rfl rfl rfl hZ ?_
        refine EA.tLoad 12 rfl (by kernel_rfl) rfl rfl rfl rfl (fun _ hz => (by rw [hz]; exact y2)) hZ ?_
        refine EA.tCmpT 13 rfl (by kernel_rfl) rfl rfl rfl rfl rfl rfl (by first | (dsimp only [cmpP]; omega) | exact rfl | exact Int.le_refl _) hZ ?_
        refine EA.tMove 14 rfl (by kernel_rfl) rfl rfl rfl rfl hZ ?_
        refine EA.tField 15 rfl (by kernel_rfl) rfl rfl rfl rfl hZ ?_
        refine EA.tLoad 16 rfl (by kernel_rfl) rfl rfl rfl rfl (fun _ hz => (by rw [hz]; exact y5)) hZ ?_
        refine EA.tMove 17 rfl (by kernel_rfl) rfl rfl rfl rfl hZ ?_
        refine EA.tField 18 rfl (by kernel_rfl) rfl rfl rfl rfl hZ ?_
        refine EA.tLoad 19 rfl (by kernel_rfl) rfl rfl rfl rfl (fun _ hz => (by rw [hz]; exact y2)) hZ ?_
        refine EA.tIdxS 20 rfl (by kernel_rfl) rfl rfl rfl rfl rfl (by omega) (by omega) hZ ?_
        refine EA.tLoad 21 rfl (by kernel_rfl) rfl rfl rfl rfl (fun _ hz => (by rw [hz]; exact cN)) hZ ?_
        refine EA.tCmpF 22 rfl (by kernel_rfl) rfl rfl rfl rfl rfl rfl (by first | (dsimp only [cmpP]; omega) | exact rfl | exact Int.le_refl _) hZ ?_
        refine EA.tPickT 23 rfl (by kernel_rfl) rfl rfl rfl rfl rfl hZ ?_
        refine EA.tPickF 24 rfl (by kernel_rfl) rfl rfl rfl rfl rfl hZ ?_
        refine EA.tMove 25 rfl (by kernel_rfl) rfl rfl rfl rfl hZ ?_
        refine EA.tField 26 rfl (by kernel_rfl) rfl rfl rfl rfl hZ ?_
        refine EA.tLoad 27 rfl (by kernel_rfl) rfl rfl rfl rfl (fun _ hz => (by rw [hz]; exact y5)) hZ ?_
        refine EA.tField 28 rfl (by kernel_rfl) rfl rfl rfl rfl hZ ?_
        refine EA.tLoad 29 rfl (by kernel_rfl) rfl rfl rfl rfl (fun _ hz => (by rw [hz]; exact y6)) hZ ?_
        refine EA.tCmpF 30 rfl (by kernel_rfl) rfl rfl rfl rfl rfl rfl (by first | (dsimp only [cmpP]; omega) | exact rfl | exact Int.le_refl _) hZ ?_
        refine EA.tPickF 31 rfl (by kernel_rfl) rfl rfl rfl rfl rfl hZ ?_
        refine EA.tMove 32 rfl (by kernel_rfl) rfl rfl rfl rfl hZ ?_
        refine EA.tField 33 rfl (by kernel_rfl) rfl rfl rfl rfl hZ ?_
        refine EA.tLoad 34 rfl (by kernel_rfl) rfl rfl rfl rfl (fun _ hz => (by rw [hz]; exact y7)) hZ ?_
        refine EA.tPickF 35 rfl (by kernel_rfl) rfl rfl rfl rfl rfl hZ ?_
        refine EA.done (by kernel_rfl) ?_
        (repeat (first | refine EK.region ?_ | refine ER.done ?_ | refine EK.skip ?_ | refine EK.inBlock ?_ | refine ER.move rfl rfl rfl ?_ | refine ER.assign rfl rfl rfl ?_ | refine ER.add (kd := .i64) rfl rfl rfl rfl (i64_in (by omega) (by omega)) ?_ | refine EK.condF rfl ?_))
        exact EK.back (again (k + 1) _ _ (by omega) ⟨by omega, rfl, u3⟩) ⟨rfl, rfl, rfl, trivial⟩
      · have hE : leftE (nums R.log) R.val q = accL q.1 r.op (-1) r.arg r.new (R.val r.b) (R.val r.b) false := by unfold leftE; rw [hr, if_neg hb]
        rw [hE] at ly
        have y2 : hcell h3 ⟨y, 2, none⟩ = some (.int .i64 (-1)) := hcell_of ly rfl
        have y5 : hcell h3 ⟨y, 5, none⟩ = some (.int .i64 (R.val r.b)) := hcell_of ly rfl
        have y6 : hcell h3 ⟨y, 6, none⟩ = some (.int .i64 (R.val r.b)) := hcell_of ly rfl
        have y7 : hcell h3 ⟨y, 7, none⟩ = some (.bool false) := hcell_of ly rfl
        refine EK.regionAny (fun h' => h' = h3) ?_
        have hZ : h3 = h3 := rfl
        refine EA.tField 0 rfl (by kernel_rfl) rfl rfl rfl rfl hZ ?_
        refine EA.tLoad 1 rfl (by kernel_rfl) rfl rfl rfl rfl (fun _ hz => (by rw [hz]; exact y2)) hZ ?_
        refine EA.tCmpF 2 rfl (by kernel_rfl) rfl rfl rfl rfl rfl rfl (by first | (dsimp only [cmpP]; omega) | exact rfl | exact Int.le_refl _) hZ ?_
        refine EA.tMove 3 rfl (by kernel_rfl) rfl rfl rfl rfl hZ ?_
        refine EA.tField 4 rfl (by kernel_rfl) rfl rfl rfl rfl hZ ?_
        refine EA.tLoad 5 rfl (by kernel_rfl) rfl rfl rfl rfl (fun _ hz => (by rw [hz]; exact y2)) hZ ?_
        refine EA.tMove 6 rfl (by kernel_rfl) rfl rfl rfl rfl hZ ?_
        refine EA.tLen1 7 rfl (by kernel_rfl) rfl rfl rfl rfl hZ ?_
        refine EA.tCmpF 8 rfl (by kernel_rfl) rfl rfl rfl rfl rfl rfl (by first | (dsimp only [cmpP]; omega) | exact rfl | exact Int.le_refl _) hZ ?_
        refine EA.tPickF 9 rfl (by kernel_rfl) rfl rfl rfl rfl rfl hZ ?_
        refine EA.tMove 10 rfl (by kernel_rfl) rfl rfl rfl rfl hZ ?_
        refine EA.tField 11 rfl (by kernel_rfl) rfl rfl rfl rfl hZ ?_
        refine EA.tLoad 12 rfl (by kernel_rfl) rfl rfl rfl rfl (fun _ hz => (by rw [hz]; exact y2)) hZ ?_
        refine EA.tCmpF 13 rfl (by kernel_rfl) rfl rfl rfl rfl rfl rfl (by first | (dsimp only [cmpP]; omega) | exact rfl | exact Int.le_refl _) hZ ?_
        refine EA.tMove 14 rfl (by kernel_rfl) rfl rfl rfl rfl hZ ?_
        refine EA.takeNo 15 rfl (by kernel_rfl) rfl rfl rfl hZ ?_
        refine EA.takeNo 16 rfl (by kernel_rfl) rfl rfl rfl hZ ?_
        refine EA.takeNo 17 rfl (by kernel_rfl) rfl rfl rfl hZ ?_
        refine EA.takeNo 18 rfl (by kernel_rfl) rfl rfl rfl hZ ?_
        refine EA.takeNo 19 rfl (by kernel_rfl) rfl rfl rfl hZ ?_
        refine EA.takeNo 20 rfl (by kernel_rfl) rfl rfl rfl hZ ?_
        refine EA.takeNo 21 rfl (by kernel_rfl) rfl rfl rfl hZ ?_
        refine EA.takeNo 22 rfl (by kernel_rfl) rfl rfl rfl hZ ?_
        refine EA.tPickF 23 rfl (by kernel_rfl) rfl rfl rfl rfl rfl hZ ?_
        refine EA.tPickF 24 rfl (by kernel_rfl) rfl rfl rfl rfl rfl hZ ?_
        refine EA.tMove 25 rfl (by kernel_rfl) rfl rfl rfl rfl hZ ?_
        refine EA.tField 26 rfl (by kernel_rfl) rfl rfl rfl rfl hZ ?_
        refine EA.tLoad 27 rfl (by kernel_rfl) rfl rfl rfl rfl (fun _ hz => (by rw [hz]; exact y5)) hZ ?_
        refine EA.tField 28 rfl (by kernel_rfl) rfl rfl rfl rfl hZ ?_
        refine EA.tLoad 29 rfl (by kernel_rfl) rfl rfl rfl rfl (fun _ hz => (by rw [hz]; exact y6)) hZ ?_
        refine EA.tCmpF 30 rfl (by kernel_rfl) rfl rfl rfl rfl rfl rfl (by first | (dsimp only [cmpP]; omega) | exact rfl | exact Int.le_refl _) hZ ?_
        refine EA.tPickF 31 rfl (by kernel_rfl) rfl rfl rfl rfl rfl hZ ?_
        refine EA.tMove 32 rfl (by kernel_rfl) rfl rfl rfl rfl hZ ?_
        refine EA.tField 33 rfl (by kernel_rfl) rfl rfl rfl rfl hZ ?_
        refine EA.tLoad 34 rfl (by kernel_rfl) rfl rfl rfl rfl (fun _ hz => (by rw [hz]; exact y7)) hZ ?_
        refine EA.tPickF 35 rfl (by kernel_rfl) rfl rfl rfl rfl rfl hZ ?_
        refine EA.done (by kernel_rfl) ?_
        (repeat (first | refine EK.region ?_ | refine ER.done ?_ | refine EK.skip ?_ | refine EK.inBlock ?_ | refine ER.move rfl rfl rfl ?_ | refine ER.assign rfl rfl rfl ?_ | refine ER.add (kd := .i64) rfl rfl rfl rfl (i64_in (by omega) (by omega)) ?_ | refine EK.condF rfl ?_))
        exact EK.back (again (k + 1) _ _ (by omega) ⟨by omega, rfl, u3⟩) ⟨rfl, rfl, rfl, trivial⟩
    · obtain rfl : k = R.left.length := by omega
      clear again
      (repeat (first | refine EK.seq ?_ | refine EK.region ?_ | refine ER.done ?_ | refine ER.move rfl rfl rfl ?_ | refine ER.assign rfl rfl rfl ?_ | refine ER.nilCheck rfl rfl rfl ?_ | refine ER.fieldAddr rfl rfl rfl ?_ | refine ER.cmpF rfl rfl rfl rfl rfl (by first | (dsimp only [cmpP]; omega) | exact rfl | exact Int.le_refl _) ?_ | refine ER.len1 rfl rfl rfl ?_ | refine EK.condF rfl ?_ | refine EK.ret ?_ | refine EK.exit rfl ?_ | refine ER.load1 rfl rfl rfl (by assumption) ?_))
      exact EU.ret1 rfl rfl ⟨rfl, rfl, cv, u2.get row (fun x => x), upd_then up u2 (fun _ _ x => x.elim), fst.upd u2 (fun _ _ x => x), newc⟩
end
end
section
open Go Go.TJ Go.Conc Go.Proofs
section
variable {Γ : Type} {main : Bool} {S : Sit Γ} {δ : Ix Γ} {h h' : Hp} {R : Rec} {picks : List Int} {lL lW lY lV sP tv cv : Value} {last : Int} {C n most : Nat} {e : Int} {X : Us}
theorem RecOk.left_len (ok : RecOk X picks R) : R.left.length <= 64 := by
  have h2 := rise_len (n := R.nb) (l := R.left.map (·.1)) 0 (List.pairwise_map.2 ok.rise) (fun _ _ => Nat.zero_le _) (fun a ha => by
    obtain ⟨q, hq, rfl⟩ := List.mem_map.1 ha
    exact (ok.left q hq).1)
  rw [List.length_map] at h2
  have := ok.nb
  omega
theorem RecOk.rise_at (ok : RecOk X picks R) {k : Nat} {a b : Nat × Rq} (ha : R.left[k]? = some a) (hb : R.left[k + 1]? = some b) : a.1 < b.1 := by
  obtain ⟨_, _, h1⟩ := take_mid ha
  obtain ⟨_, _, h2⟩ := take_mid hb
  have := List.pairwise_iff_getElem.1 ok.rise k (k + 1) h1 h2 (by omega)
  rw [List.getElem?_eq_getElem h1] at ha
  rw [List.getElem?_eq_getElem h2] at hb
  cases ha; cases hb
  exact this
set_option maxHeartbeats 8000000 in
set_option maxRecDepth 8000 in
theorem shape_ok (ok : RecOk X picks R) (m : RecM R picks lL lW lY lV sP h) (hC : h[C]? = some (chkO R.e R.log.length lL lW lY lV sP R.most tv cv last)) :
    CallW Try.prog main S 80 #[ptr C] h δ (Ret (Det (.bool true) h δ)) := by
  have hlen := ok.len
  have hmost := ok.most
  have hnl := ok.left_len
  obtain ⟨aW, kW, eW⟩ := m.went.val
  obtain ⟨aY, kY, eY⟩ := m.rdy.val
  obtain ⟨aV, kV, eV⟩ := m.left.val
  subst eW eY eV
  have hrd := ok.rdy
  have hwl : (R.log.map (·.thr)).length = R.log.length := List.length_map _
  rw [hwl, hrd] at hC
  have d1 : hcell h ⟨C, 1, none⟩ = some (.int .i64 R.log.length) := hcell_of hC rfl
  have d3 : hcell h ⟨C, 3, none⟩ = some (.slice aW R.log.length kW) := hcell_of hC rfl
  have d4 : hcell h ⟨C, 4, none⟩ = some (.slice aY R.log.length kY) := hcell_of hC rfl
  have d5 : hcell h ⟨C, 5, none⟩ = some (.slice aV R.left.length kV) := hcell_of hC rfl
  have d6 : hcell h ⟨C, 6, none⟩ = some nilS := hcell_of hC rfl
  have d8 : hcell h ⟨C, 8, none⟩ = some (.int .i64 R.most) := hcell_of hC rfl
  refine CallW.start (n := 101) rfl rfl ?_
  (repeat (first | refine EK.seq ?_ | refine EK.region ?_ | refine ER.done ?_ | refine ER.assign rfl rfl rfl ?_))
  refine EK.regionAny (fun h' => h' = h) ?_
  have hZ : h = h := rfl
  refine EA.tMove 0 rfl (by kernel_rfl) rfl rfl rfl rfl hZ ?_
  refine EA.tNil 1 rfl (by kernel_rfl) rfl rfl rfl rfl hZ ?_
  refine EA.tField 2 rfl (by kernel_rfl) rfl rfl rfl rfl hZ ?_
  refine EA.tField 3 rfl (by kernel_rfl) rfl rfl rfl rfl hZ ?_
  refine EA.tLoad 4 rfl (by kernel_rfl) rfl rfl rfl rfl (fun _ hz => (by rw [hz]; exact d1)) hZ ?_
  refine EA.tMove 5 rfl (by kernel_rfl) rfl rfl rfl rfl hZ ?_
  refine EA.tNil 6 rfl (by kernel_rfl) rfl rfl rfl rfl hZ ?_
  refine EA.tField 7 rfl (by kernel_rfl) rfl rfl rfl rfl hZ ?_
  refine EA.tField 8 rfl (by kernel_rfl) rfl rfl rfl rfl hZ ?_
  refine EA.tLoad 9 rfl (by kernel_rfl) rfl rfl rfl rfl (fun _ hz => (by rw [hz]; exact d3)) hZ ?_
  refine EA.tLen1 10 rfl (by kernel_rfl) rfl rfl rfl rfl hZ ?_
  refine EA.tCmpF 11 rfl (by kernel_rfl) rfl rfl rfl rfl rfl rfl (by first | (dsimp only [cmpP]; omega) | exact rfl | exact Int.le_refl _) hZ ?_
  refine EA.tMove 12 rfl (by kernel_rfl) rfl rfl rfl rfl hZ ?_
  refine EA.tMove 13 rfl (by kernel_rfl) rfl rfl rfl rfl hZ ?_
  refine EA.tNil 14 rfl (by kernel_rfl) rfl rfl rfl rfl hZ ?_
  refine EA.tField 15 rfl (by kernel_rfl) rfl rfl rfl rfl hZ ?_
  refine EA.tField 16 rfl (by kernel_rfl) rfl rfl rfl rfl hZ ?_
  refine EA.tLoad 17 rfl (by kernel_rfl) rfl rfl rfl rfl (fun _ hz => (by rw [hz]; exact d1)) hZ ?_
  refine EA.tMove 18 rfl (by kernel_rfl) rfl rfl rfl rfl hZ ?_
  refine EA.tNil 19 rfl (by kernel_rfl) rfl rfl rfl rfl hZ ?_
  refine EA.tField 20 rfl (by kernel_rfl) rfl rfl rfl rfl hZ ?_
  refine EA.tField 21 rfl (by kernel_rfl) rfl rfl rfl rfl hZ ?_
  refine EA.tLoad 22 rfl (by kernel_rfl) rfl rfl rfl rfl (fun _ hz => (by rw [hz]; exact d4)) hZ ?_
  refine EA.tLen1 23 rfl (by kernel_rfl) rfl rfl rfl rfl hZ ?_
  refine EA.tCmpF 24 rfl (by kernel_rfl) rfl rfl rfl rfl rfl rfl (by first | (dsimp only [cmpP]; omega) | exact rfl | exact Int.le_refl _) hZ ?_
  refine EA.tPickF 25 rfl (by kernel_rfl) rfl rfl rfl rfl rfl hZ ?_
  refine EA.tMove 26 rfl (by kernel_rfl) rfl rfl rfl rfl hZ ?_
  refine EA.tMove 27 rfl (by kernel_rfl) rfl rfl rfl rfl hZ ?_
  refine EA.tNil 28 rfl (by kernel_rfl) rfl rfl rfl rfl hZ ?_
  refine EA.tField 29 rfl (by kernel_rfl) rfl rfl rfl rfl hZ ?_
  refine EA.tField 30 rfl (by kernel_rfl) rfl rfl rfl rfl hZ ?_
  refine EA.tLoad 31 rfl (by kernel_rfl) rfl rfl rfl rfl (fun _ hz => (by rw [hz]; exact d1)) hZ ?_
  refine EA.tMove 32 rfl (by kernel_rfl) rfl rfl rfl rfl hZ ?_
  refine EA.tNil 33 rfl (by kernel_rfl) rfl rfl rfl rfl hZ ?_
  refine EA.tField 34 rfl (by kernel_rfl) rfl rfl rfl rfl hZ ?_
  refine EA.tLoad 35 rfl (by kernel_rfl) rfl rfl rfl rfl (fun _ hz => (by rw [hz]; exact d8)) hZ ?_
  refine EA.tCmpF 36 rfl (by kernel_rfl) rfl rfl rfl rfl rfl rfl (by first | (dsimp only [cmpP]; omega) | exact rfl | exact Int.le_refl _) hZ ?_
  refine EA.tPickF 37 rfl (by kernel_rfl) rfl rfl rfl rfl rfl hZ ?_
  refine EA.done (by kernel_rfl) ?_
  clear hZ
  (repeat (first | refine EK.seq ?_ | refine EK.region ?_ | refine ER.done ?_ | refine EK.skip ?_ | refine EK.block ?_ | refine ER.assign rfl rfl rfl ?_ | refine EK.condF rfl ?_))
  refine EK.loopInv (fun k : Nat => [(3, .int .i64 k), (0, ptr C)]) (fun k h' δ' => 1 <= k /\ (k <= R.left.length \/ k = 1) /\ h' = h /\ δ' = δ) (fun k => R.left.length - k) 1 ⟨rfl, rfl, trivial⟩ ⟨Nat.le_refl _, .inr rfl, rfl, rfl⟩ ?_
  rintro k h2 δ2 ⟨hk1, hk, rfl, rfl⟩ again
  by_cases hin : k < R.left.length
  · obtain ⟨q, rfl⟩ : ∃ q, k = q + 1 := ⟨k - 1, by omega⟩
    obtain ⟨a, ha⟩ : ∃ a, R.left[q]? = some a := ⟨_, List.getElem?_eq_getElem (by omega)⟩
    obtain ⟨b, hb⟩ : ∃ b, R.left[q + 1]? = some b := ⟨_, List.getElem?_eq_getElem hin⟩
    have hab := ok.rise_at ha hb
    obtain ⟨bV, ea, row1, hz⟩ := slice_row (leftE_len (nums R.log) R.val) m.left ha
    subst ea
    obtain ⟨bV2, ea, row2, hz⟩ := slice_row (leftE_len (nums R.log) R.val) m.left hb
    injection ea with ea
    injection ea with ea
    subst ea
    have g1 : hcell h2 ⟨bV, 0 + (((q + 1 : Nat) : Int) - 1).toNat * 8 + 0, none⟩ = some (.int .i64 a.1) := by
      rw [show (((q + 1 : Nat) : Int) - 1).toNat = q by omega]; exact row1 0 _ rfl
    have g2 : hcell h2 ⟨bV, 0 + (q + 1) * 8 + 0, none⟩ = some (.int .i64 b.1) := row2 0 _ rfl
    (repeat (first | refine EK.seq ?_ | refine EK.region ?_ | refine ER.done ?_ | refine EK.skip ?_ | refine EK.block ?_ | refine ER.move rfl rfl rfl ?_ | refine ER.nilCheck rfl rfl rfl ?_ | refine ER.fieldAddr rfl rfl rfl ?_ | refine ER.load1 rfl rfl rfl (hcell_of (by assumption) rfl) ?_ | refine ER.cmpT rfl rfl rfl rfl rfl (by first | (dsimp only [cmpP]; omega) | exact rfl | exact Int.le_refl _) ?_ | refine ER.len1 rfl rfl rfl ?_ | refine EK.condT rfl ?_))
    refine EK.regionAny (fun h' => h' = h2) ?_
    have hZ : h2 = h2 := rfl
    refine EA.tMove 0 rfl (by kernel_rfl) rfl rfl rfl rfl hZ ?_
    refine EA.tNil 1 rfl (by kernel_rfl) rfl rfl rfl rfl hZ ?_
    refine EA.tField 2 rfl (by kernel_rfl) rfl rfl rfl rfl hZ ?_
    refine EA.tField 3 rfl (by kernel_rfl) rfl rfl rfl rfl hZ ?_
    refine EA.tLoad 4 rfl (by kernel_rfl) rfl rfl rfl rfl (fun _ hz => (by rw [hz]; exact d5)) hZ ?_
    refine EA.tMove 5 rfl (by kernel_rfl) rfl rfl rfl rfl hZ ?_
    refine EA.tIdxS 6 rfl (by kernel_rfl) rfl rfl rfl rfl rfl (by omega) (by omega) hZ ?_
    refine EA.tField 7 rfl (by kernel_rfl) rfl rfl rfl rfl hZ ?_
    refine EA.tLoad 8 rfl (by kernel_rfl) rfl rfl rfl rfl (fun _ hz => (by rw [hz]; exact g2)) hZ ?_
    refine EA.tMove 9 rfl (by kernel_rfl) rfl rfl rfl rfl hZ ?_
    refine EA.tNil 10 rfl (by kernel_rfl) rfl rfl rfl rfl hZ ?_
    refine EA.tField 11 rfl (by kernel_rfl) rfl rfl rfl rfl hZ ?_
    refine EA.tField 12 rfl (by kernel_rfl) rfl rfl rfl rfl hZ ?_
    refine EA.tLoad 13 rfl (by kernel_rfl) rfl rfl rfl rfl (fun _ hz => (by rw [hz]; exact d5)) hZ ?_
    refine EA.tMove 14 rfl (by kernel_rfl) rfl rfl rfl rfl hZ ?_
    refine EA.tSub (kd := .i64) 15 rfl (by kernel_rfl) rfl rfl rfl rfl rfl (i64_in (by omega) (by omega)) hZ ?_
    refine EA.tIdxS 16 rfl (by kernel_rfl) rfl rfl rfl rfl rfl (by omega) (by omega) hZ ?_
    refine EA.tField 17 rfl (by kernel_rfl) rfl rfl rfl rfl hZ ?_
    refine EA.tLoad 18 rfl (by kernel_rfl) rfl rfl rfl rfl (fun _ hz => (by rw [hz]; exact g1)) hZ ?_
    refine EA.tCmpF 19 rfl (by kernel_rfl) rfl rfl rfl rfl rfl rfl (by first | (dsimp only [cmpP]; omega) | exact rfl | exact Int.le_refl _) hZ ?_
    refine EA.done (by kernel_rfl) ?_
    clear hZ g1 g2
    (repeat (first | refine EK.region ?_ | refine ER.done ?_ | refine EK.skip ?_ | refine EK.inBlock ?_ | refine ER.move rfl rfl rfl ?_ | refine ER.assign rfl rfl rfl ?_ | refine ER.add (kd := .i64) rfl rfl rfl rfl (i64_in (by omega) (by omega)) ?_ | refine EK.condF rfl ?_))
    exact EK.back (again (q + 1 + 1) _ _ (by omega) ⟨by omega, .inl (by omega), rfl, rfl⟩) ⟨rfl, rfl, trivial⟩
  · clear again
    (repeat (first | refine EK.seq ?_ | refine EK.region ?_ | refine ER.done ?_ | refine EK.block ?_ | refine ER.move rfl rfl rfl ?_ | refine ER.assign rfl rfl rfl ?_ | refine ER.nilCheck rfl rfl rfl ?_ | refine ER.fieldAddr rfl rfl rfl ?_ | refine ER.load1 rfl rfl rfl (hcell_of (by assumption) rfl) ?_ | refine ER.cmpF rfl rfl rfl rfl rfl (by first | (dsimp only [cmpP]; omega) | exact rfl | exact Int.le_refl _) ?_ | refine ER.len1 rfl rfl rfl ?_ | refine EK.condF rfl ?_ | refine EK.exit rfl ?_))
    refine EK.loopInv (fun k : Nat => [(4, .int .i64 1), (0, ptr C)]) (fun k h' δ' => h' = h2 /\ δ' = δ2) (fun k => 0) 0 ⟨rfl, rfl, trivial⟩ ⟨rfl, rfl⟩ ?_
    rintro k h2 δ2 ⟨rfl, rfl⟩ -
    (repeat (first | refine EK.seq ?_ | refine EK.region ?_ | refine ER.done ?_ | refine ER.move rfl rfl rfl ?_ | refine ER.assign rfl rfl rfl ?_ | refine ER.nilCheck rfl rfl rfl ?_ | refine ER.fieldAddr rfl rfl rfl ?_ | refine ER.load1 rfl rfl rfl (hcell_of (by assumption) rfl) ?_ | refine ER.cmpF rfl rfl rfl rfl rfl (by first | (dsimp only [cmpP]; omega) | exact rfl | exact Int.le_refl _) ?_ | refine ER.len1 rfl rfl rfl ?_ | refine EK.condF rfl ?_ | refine EK.ret ?_ | refine EK.exit rfl ?_))
    exact EU.ret1 rfl rfl det
end
end
section
open Go Go.TJ Go.Conc Go.Proofs
theorem sliceO_two {h : Hp} {s s' : Value} {e e' sz sz' n n' : Nat} {cells cells' : List Value} (x : SliceO h s e sz n cells) (y : SliceO h s' e' sz' n' cells') (hne : e ≠ e') : ∀ b, blk s = some b -> blk s' ≠ some b := by
  intro b hb hb'
  obtain ⟨_, ⟨rfl, _⟩ | ⟨b1, cap, rest, rfl, h1, h2, h3⟩⟩ := y
  · cases hb'
  · cases hb'
    exact sliceO_ne x h3 hne _ hb rfl
structure ChkI (R : Rec) (lL lW lY lV sP : Value) (h0 : Hp) (C : Nat) (tv cv : Value) (last : Int) (thr : List Nat) (cl : List Int) (h : Hp) : Prop where
  up : Upd (fun _ => False) h0 h
  row : h[C]? = some (chkO R.e R.log.length lL lW lY lV sP R.most tv cv last)
  thr : SliceO h tv 3 1 thr.length (thr.map fun (n : Nat) => Value.int .i64 (n : Int))
  cel : SliceO h cv 2 1 cl.length (cl.map fun x => Value.int .i64 x)
  nC : h0.size <= C
  nt : ∀ b, blk tv = some b -> h0.size <= b
  nc : ∀ b, blk cv = some b -> h0.size <= b
def TI (R : Rec) (k : Nat) (thr : List Nat) : Prop := ∀ j t, thr[j]? = some t -> t <= R.log.length /\ ∀ i e, k <= i -> i < t -> R.log[i]? = some e -> e.thr ≠ j
theorem TI.mono {R : Rec} {k k' : Nat} {thr : List Nat} (x : TI R k thr) (hk : k <= k') : TI R k' thr := fun j t ht => ⟨(x j t ht).1, fun i e hi => (x j t ht).2 i e (by omega)⟩
theorem TI.set {R : Rec} {k j t : Nat} {thr : List Nat} (x : TI R k thr) (h1 : t <= R.log.length) (h2 : ∀ i e, k <= i -> i < t -> R.log[i]? = some e -> e.thr ≠ j) : TI R k (thr.set j t) := by
  intro j' t' ht
  by_cases e : j' = j
  · subst e
    have hlt : j' < thr.length := by have := (take_mid ht).2.2; simpa using this
    rw [List.getElem?_set_self hlt] at ht
    cases ht
    exact ⟨h1, h2⟩
  · rw [List.getElem?_set_ne (Ne.symm e)] at ht
    exact x j' t' ht
section
variable {R : Rec} {k j : Nat}
theorem mem_alive : j ∈ R.alive k ↔ j < R.nb /\ ((∃ q, q ∈ R.left /\ q.1 = j) \/ ∃ i e, k <= i /\ R.log[i]? = some e /\ e.thr = j) := by
  unfold Rec.alive
  rw [List.mem_filter, List.mem_range, Bool.or_eq_true, List.any_eq_true, List.any_eq_true]
  refine and_congr_right fun _ => or_congr ?_ ?_
  · constructor
    · rintro ⟨q, hq, e⟩; exact ⟨q, hq, by simpa using e⟩
    · rintro ⟨q, hq, e⟩; exact ⟨q, hq, by simpa using e⟩
  · constructor
    · rintro ⟨e, he, h⟩
      obtain ⟨i, hi, rfl⟩ := List.mem_iff_getElem.1 he
      have := List.getElem?_eq_getElem hi
      rw [List.getElem?_drop] at this
      exact ⟨k + i, _, by omega, this, by simpa using h⟩
    · rintro ⟨i, e, hi, he, h⟩
      refine ⟨e, List.mem_of_getElem? (i := i - k) ?_, by simpa using h⟩
      rw [List.getElem?_drop, show k + (i - k) = i by omega]
      exact he
theorem alive_at {i : Nat} {e : Ev} (hj : j < R.nb) (hi : k <= i) (he : R.log[i]? = some e) (h : e.thr = j) : j ∈ R.alive k := mem_alive.2 ⟨hj, .inr ⟨i, e, hi, he, h⟩⟩
end
section
variable {Γ : Type} {main : Bool} {S : Sit Γ} {δ : Ix Γ} {h h' h0 : Hp} {R : Rec} {picks : List Int} {lL lW lY lV sP tv cv : Value} {last : Int} {C n k j : Nat} {e : Int} {X : Us} {thr : List Nat} {cl : List Int}
theorem ChkI.upd0 (I : ChkI R lL lW lY lV sP h0 C tv cv last thr cl h) (u : Upd (fun _ => False) h h') : ChkI R lL lW lY lV sP h0 C tv cv last thr cl h' :=
  ⟨I.up.trans u, u.get I.row (fun x => x), I.thr.upd u (fun _ _ x => x), I.cel.upd u (fun _ _ x => x), I.nC, I.nt, I.nc⟩
theorem ChkI.other (I : ChkI R lL lW lY lV sP h0 C tv cv last thr cl h) {y : Nat} {vs : List Value} (hy : h[y]? = some (accO vs)) (hy0 : h0.size <= y) (o : Obj) : ChkI R lL lW lY lV sP h0 C tv cv last thr cl (h.setIfInBounds y o) := by
  have u : Upd (fun b => b = y) h (h.setIfInBounds y o) := Upd.set _ _ _ rfl
  have hyC : C ≠ y := fun e => by
    have := I.row
    rw [e, hy] at this
    injection this with this
    injection this with _ this _
    revert this; decide
  exact ⟨I.up.over u (fun b hb => by omega), u.get I.row hyC, I.thr.upd u (sliceO_ne I.thr hy (by decide)), I.cel.upd u (sliceO_ne I.cel hy (by decide)), I.nC, I.nt, I.nc⟩
theorem ChkI.setT {b cap : Nat} (I : ChkI R lL lW lY lV sP h0 C (.slice (some ⟨b, 0, none⟩) thr.length cap) cv last thr cl h) {j t : Nat} (hj : j < thr.length) : ChkI R lL lW lY lV sP h0 C (.slice (some ⟨b, 0, none⟩) thr.length cap) cv last (thr.set j t) cl (hset h ⟨b, 0 + j * 1, none⟩ (.int .i64 t)) := by
  have u : Upd (fun x => x = b) h (hset h ⟨b, 0 + j * 1, none⟩ (.int .i64 t)) := Upd.hset _ _ _ rfl
  have hb := I.nt b rfl
  have e1 : 0 + j * 1 = j := by omega
  refine ⟨I.up.over u (fun b' hb' => by omega), u.get I.row (fun e => sliceO_ne I.thr I.row (by decide) b rfl e.symm), ?_, I.cel.upd u (fun b' hb' e => sliceO_two I.thr I.cel (by decide) b rfl (by rw [<- e]; exact hb')), I.nC, I.nt, I.nc⟩
  have := I.thr.set (j := j) (by rw [List.length_map]; exact hj) (.int .i64 t)
  rw [e1, List.map_set, List.length_set]
  exact this
theorem acc_all {y : Nat} {vs : List Value} {h : Hp} (hl : vs.length = 8) (hy : h[y]? = some (accO vs)) : ∀ j, j < 8 -> (∃ u, hcell h ⟨y, 0 + j, none⟩ = some u) /\ hfroz h ⟨y, 0 + j, none⟩ = false /\ ¬ (NoS (Γ := Γ)).still δ.g ⟨y, 0 + j, none⟩ := fun j hj => by
  obtain ⟨v, hv⟩ : ∃ v, vs[j]? = some v := ⟨_, List.getElem?_eq_getElem (by omega)⟩
  refine ⟨⟨v, ?_⟩, hfroz_of hy, fun x => x⟩
  rw [Nat.zero_add]
  exact hcell_of hy (by simp only [List.getElem?_toArray]; exact hv)
set_option maxHeartbeats 8000000 in
set_option maxRecDepth 8000 in
theorem next_ok (ok : RecOk X picks R) (m : RecM R picks lL lW lY lV sP h0) (I : ChkI R lL lW lY lV sP h0 C tv cv last thr cl h) (hl : thr.length = R.nb) (ti : TI R k thr) (hj : j < R.nb) (hk : k <= R.log.length) :
    CallW Try.prog main (NoS (Γ := Γ)) 177 #[ptr C, .int .i64 j, .int .i64 k] h δ (Ret fun v h' δ' => δ' = δ /\ ∃ (thr' : List Nat) (t o c a n w x : Int) (f b : Bool), v = .tuple #[.agg (accL t o c a n w x f).toArray, .bool b] /\ (b = true ↔ j ∈ R.alive k) /\ (b = true -> 1 <= o /\ o <= 5 /\ -1 <= c /\ c < (nums R.log).length) /\
      thr'.length = R.nb /\ TI R k thr' /\ ChkI R lL lW lY lV sP h0 C tv cv last thr' cl h' /\ Upd (fun b => blk tv = some b) h h') := by
  have hlen := ok.len
  have hmost := ok.most
  have hnl := ok.left_len
  have hnb := ok.nb
  obtain ⟨aL, kL, eL⟩ := m.log.val
  obtain ⟨aV, kV, eV⟩ := m.left.val
  obtain ⟨aT, kT, eT⟩ := I.thr.val
  subst eL eV eT
  obtain ⟨t0, ht0⟩ : ∃ t0, thr[j]? = some t0 := ⟨_, List.getElem?_eq_getElem (by omega)⟩
  obtain ⟨ht1, ht2⟩ := ti j t0 ht0
  obtain ⟨bT, eT, cT, fT⟩ := slice_at I.thr ht0
  subst eT
  have hjl : j < thr.length := by omega
  obtain ⟨y, hy⟩ : ∃ y, y = h.size := ⟨_, rfl⟩
  have hy0 : h0.size <= y := by have := I.up.size; omega
  refine CallW.start (n := 109) rfl rfl ?_
  (repeat (first | refine EK.seq ?_ | refine EK.region ?_ | refine ER.done ?_ | refine ER.move rfl rfl rfl ?_ | refine ER.assign rfl rfl rfl ?_ | refine ER.nilCheck rfl rfl rfl ?_ | refine ER.fieldAddr rfl rfl rfl ?_ | refine ER.allocA rfl rfl ?_))
  refine ER.gen (fun h' => ChkI R (.slice aL R.log.length kL) lW lY (.slice aV R.left.length kV) sP h0 C (.slice (some ⟨bT, 0, none⟩) thr.length kT) cv last thr cl h' /\ Upd (fun _ => False) h h' /\ h'[y]? = some (accO [.int .i64 0, .int .i8 0, .int .i64 0, .int .i64 0, .int .i64 0, .int .i64 0, .int .i64 0, .bool false])) ⟨I.upd0 (Upd.push _ _), Upd.push _ _, by rw [hy]; exact get_push_new _ _⟩ ?_
  rw [<- hy]
  have hys : h.size <= y := by omega
  clear I cT fT hy
  rintro h1 ⟨I, u1, ly⟩
  obtain ⟨bT', eT, cT, fT⟩ := slice_at I.thr ht0
  injection eT with eT
  injection eT with eT
  subst eT
  have c9 : hcell h1 ⟨C, 9, none⟩ = some (.slice (some ⟨bT, 0, none⟩) thr.length kT) := hcell_of I.row rfl
  have c2 : hcell h1 ⟨C, 2, none⟩ = some (.slice aL R.log.length kL) := hcell_of I.row rfl
  obtain ⟨i0, hi0⟩ : ∃ i0, i0 = max k t0 := ⟨_, rfl⟩
  (repeat (first | refine ER.move rfl rfl rfl ?_ | refine ER.indexSl rfl rfl rfl rfl (by omega) (by omega) ?_ | refine ER.load1 rfl rfl rfl (by assumption) ?_))
  refine ER.max (r := (i0 : Int)) rfl rfl rfl rfl (by split <;> omega) ?_
  (repeat (first | refine ER.done ?_ | refine EK.block ?_ | refine ER.assign rfl rfl rfl ?_))
  refine EK.loopInv (fun i : Nat => [(8, .int .i64 i), (6, ptr y), (0, ptr C), (1, .int .i64 j)]) (fun i h' δ' => k <= i /\ i <= R.log.length /\ (∀ i' e, k <= i' -> i' < i -> R.log[i']? = some e -> e.thr ≠ j) /\ h' = h1 /\ δ' = δ) (fun i => R.log.length - i) i0 ⟨rfl, rfl, rfl, rfl, trivial⟩ ⟨by omega, by omega, fun i' e h1 h2 h3 => ht2 i' e h1 (by omega) h3, rfl, rfl⟩ ?_
  rintro i h2 δ2 ⟨hik, hil, hno, rfl, rfl⟩ again
  by_cases hin : i < R.log.length
  · obtain ⟨e, he⟩ : ∃ e, R.log[i]? = some e := ⟨_, List.getElem?_eq_getElem hin⟩
    obtain ⟨bL, ea, hrow, hz⟩ := slice_row (entL_len (nums R.log)) (m.log.upd I.up (fun _ _ x => x)) he
    subst ea
    have w0 : hcell h2 ⟨bL, 0 + i * 8 + 0, none⟩ = some (.int .i64 e.thr) := hrow 0 _ rfl
    have w1 : hcell h2 ⟨bL, 0 + i * 8 + 1, none⟩ = some (.int .i8 e.op) := hrow 1 _ rfl
    obtain ⟨w, i1, r, cw, hr, e1, ch2⟩ := ok.chain.inv he
    have hop1 : 1 <= e.op := by rw [e1]; exact hr.op1
    have hop2 : e.op <= 5 := by rw [e1]; exact hr.op2
    obtain ⟨-, i2, i3, -⟩ := idx_at he
    have hixl : (nums R.log).idxOf e.b < (nums R.log).length := by
      refine List.idxOf_lt_length_iff.2 ((nums_mem _ _).2 ⟨e, List.mem_of_getElem? he, rfl⟩)
    by_cases hej : e.thr = j
    · (repeat (first | refine EK.seq ?_ | refine EK.region ?_ | refine ER.done ?_ | refine EK.skip ?_ | refine EK.block ?_ | refine ER.move rfl rfl rfl ?_ | refine ER.nilCheck rfl rfl rfl ?_ | refine ER.fieldAddr rfl rfl rfl ?_ | refine ER.pickT rfl rfl rfl rfl ?_ | refine ER.cmpT rfl rfl rfl rfl rfl (by first | (dsimp only [cmpP]; omega) | exact rfl | exact Int.le_refl _) ?_ | refine ER.len1 rfl rfl rfl ?_ | refine ER.indexSl rfl rfl rfl rfl (by omega) (by omega) ?_ | refine EK.condT rfl ?_ | refine ER.load1 rfl rfl rfl (by assumption) ?_))
      refine ER.store1 rfl rfl rfl ⟨nofun, nofun⟩ ⟨_, cT⟩ (fT _) (fun x => x) ?_
      have I2 := I.setT (j := j) (t := i) hjl
      have row2 := hset_ne h2 ⟨bT, 0 + j * 1, none⟩ (.int .i64 i) (r := y) (fun e => sliceO_ne I.thr ly (by decide) bT rfl e)
      rw [ly] at row2
      have hrow2 : TJ.hrow (hset h2 ⟨bT, 0 + j * 1, none⟩ (.int .i64 i)) bL (0 + i * 8) (entL (nums R.log) e) := by
        obtain ⟨bL', ea, hrow2, -⟩ := slice_row (entL_len (nums R.log)) (m.log.upd I2.up (fun _ _ x => x)) he
        injection ea with ea
        injection ea with ea
        subst ea
        exact hrow2
      change ER _ _ _ _ _ _ _ _ _ _ (hset h2 ⟨bT, 0 + j * 1, none⟩ (.int .i64 i)) _ _
      have U2 : Upd (fun b => blk (.slice (some ⟨bT, 0, none⟩) thr.length kT) = some b) h (hset h2 ⟨bT, 0 + j * 1, none⟩ (.int .i64 i)) := upd_then (u1.mono (fun _ _ x => x.elim)) (Upd.hset (T := fun b => blk (.slice (some ⟨bT, 0, none⟩) thr.length kT) = some b) _ _ _ rfl) (fun _ _ x => x)
      generalize hset h2 ⟨bT, 0 + j * 1, none⟩ (.int .i64 i) = h3 at I2 row2 hrow2 U2 ⊢
      clear I c9 c2 ly cT fT hrow w0 w1 again
      have c2 : hcell h3 ⟨C, 2, none⟩ = some (.slice (some ⟨bL, 0, none⟩) R.log.length kL) := hcell_of I2.row rfl
      (repeat (first | refine EK.seq ?_ | refine EK.region ?_ | refine ER.done ?_ | refine ER.move rfl rfl rfl ?_ | refine ER.nilCheck rfl rfl rfl ?_ | refine ER.fieldAddr rfl rfl rfl ?_ | refine ER.indexSl rfl rfl rfl rfl (by omega) (by omega) ?_ | refine ER.load1 rfl rfl rfl (by assumption) ?_))
      refine ER.loadN (vs := entL (nums R.log) e) rfl rfl rfl rfl hrow2 ?_
      refine ER.storeN (vs := entL (nums R.log) e) rfl rfl rfl rfl (by simp [entL, accL, OneCell]) (acc_all rfl row2) ?_
      rw [row_set (c := [.int .i64 0, .int .i8 0, .int .i64 0, .int .i64 0, .int .i64 0, .int .i64 0, .int .i64 0, .bool false]) (vs := entL (nums R.log) e) row2 rfl]
      (repeat (first | refine ER.done ?_ | refine ER.assign rfl rfl rfl ?_ | refine EK.ret ?_))
      refine EU.retCell (vs := entL (nums R.log) e) rfl rfl rfl (hrow_block (rest := []) (by rw [List.append_nil]; exact get_set_same row2)) rfl ⟨rfl, thr.set j i, _, _, _, _, _, _, _, _, true, rfl, ⟨fun _ => alive_at hj hik he hej, fun _ => rfl⟩, fun _ => ⟨hop1, hop2, by omega, by omega⟩, by rw [List.length_set]; exact hl, ti.set hil hno, I2.other row2 hy0 _, upd_then U2 (Upd.set (T := fun b => b = y) _ _ _ rfl) (fun b hb e => by omega)⟩
    · (repeat (first | refine EK.seq ?_ | refine EK.region ?_ | refine ER.done ?_ | refine EK.skip ?_ | refine EK.block ?_ | refine EK.inBlock ?_ | refine ER.move rfl rfl rfl ?_ | refine ER.assign rfl rfl rfl ?_ | refine ER.nilCheck rfl rfl rfl ?_ | refine ER.fieldAddr rfl rfl rfl ?_ | refine ER.no rfl rfl ?_ | refine ER.pickF rfl rfl rfl rfl ?_ | refine ER.cmpT rfl rfl rfl rfl rfl (by first | (dsimp only [cmpP]; omega) | exact rfl | exact Int.le_refl _) ?_ | refine ER.cmpF rfl rfl rfl rfl rfl (by first | (dsimp only [cmpP]; omega) | exact rfl | exact Int.le_refl _) ?_ | refine ER.add (kd := .i64) rfl rfl rfl rfl (i64_in (by omega) (by omega)) ?_ | refine ER.len1 rfl rfl rfl ?_ | refine ER.indexSl rfl rfl rfl rfl (by omega) (by omega) ?_ | refine EK.condT rfl ?_ | refine EK.condF rfl ?_ | refine ER.load1 rfl rfl rfl (by assumption) ?_))
      exact EK.back (again (i + 1) _ _ (by omega) ⟨by omega, by omega, fun i' e' h1 h2 h3 => by
        by_cases e'' : i' = i
        · subst e''
          rw [he] at h3; cases h3; exact hej
        · exact hno i' e' h1 (by omega) h3, rfl, rfl⟩) ⟨rfl, rfl, rfl, rfl, trivial⟩
  · obtain rfl : i = R.log.length := by omega
    clear again hin
    (repeat (first | refine EK.seq ?_ | refine EK.region ?_ | refine ER.done ?_ | refine ER.move rfl rfl rfl ?_ | refine ER.nilCheck rfl rfl rfl ?_ | refine ER.fieldAddr rfl rfl rfl ?_ | refine ER.cmpF rfl rfl rfl rfl rfl (by first | (dsimp only [cmpP]; omega) | exact rfl | exact Int.le_refl _) ?_ | refine ER.len1 rfl rfl rfl ?_ | refine EK.condF rfl ?_ | refine EK.exit rfl ?_ | refine ER.load1 rfl rfl rfl (by assumption) ?_))
    refine EK.regionAnyL (fun h' => hcell h' ⟨C, 9, none⟩ = some (.slice (some ⟨bT, 0, none⟩) thr.length kT) /\ hcell h' ⟨C, 2, none⟩ = some (.slice aL R.log.length kL)) 12 ?_
    have hZ : _ /\ _ := And.intro c9 c2
    refine EA.tMove 0 rfl (by kernel_rfl) rfl rfl rfl rfl hZ ?_
    refine EA.tNil 1 rfl (by kernel_rfl) rfl rfl rfl rfl hZ ?_
    refine EA.tField 2 rfl (by kernel_rfl) rfl rfl rfl rfl hZ ?_
    refine EA.tLoad 3 rfl (by kernel_rfl) rfl rfl rfl rfl (fun _ hz => hz.1) hZ ?_
    refine EA.tMove 4 rfl (by kernel_rfl) rfl rfl rfl rfl hZ ?_
    refine EA.tMove 5 rfl (by kernel_rfl) rfl rfl rfl rfl hZ ?_
    refine EA.tNil 6 rfl (by kernel_rfl) rfl rfl rfl rfl hZ ?_
    refine EA.tField 7 rfl (by kernel_rfl) rfl rfl rfl rfl hZ ?_
    refine EA.tField 8 rfl (by kernel_rfl) rfl rfl rfl rfl hZ ?_
    refine EA.tLoad 9 rfl (by kernel_rfl) rfl rfl rfl rfl (fun _ hz => hz.2) hZ ?_
    refine EA.tLen1 10 rfl (by kernel_rfl) rfl rfl rfl rfl hZ ?_
    refine EA.val 11 rfl (by kernel_rfl) rfl rfl rfl (fun ρ Q X hρ hq => sem_indexSl (hρ _ _ rfl) (hρ _ _ rfl) (by omega) (by omega) hq) hZ ?_
    refine EA.unitL (h' := hset h2 ⟨bT, 0 + j * 1, none⟩ (.int .i64 R.log.length)) 12 rfl (by kernel_rfl) rfl rfl rfl (fun ρ Q X hρ hq => sem_store1 (hρ _ _ rfl) (hρ _ _ rfl) ⟨nofun, nofun⟩ ⟨_, cT⟩ (fT _) (fun x => x) hq) ?_
    refine EA.done (by kernel_rfl) ?_
    have I2 := I.setT (j := j) (t := R.log.length) hjl
    have row2 := hset_ne h2 ⟨bT, 0 + j * 1, none⟩ (.int .i64 R.log.length) (r := y) (fun e => sliceO_ne I.thr ly (by decide) bT rfl e)
    rw [ly] at row2
    have U2 : Upd (fun b => blk (.slice (some ⟨bT, 0, none⟩) thr.length kT) = some b) h (hset h2 ⟨bT, 0 + j * 1, none⟩ (.int .i64 R.log.length)) := upd_then (u1.mono (fun _ _ x => x.elim)) (Upd.hset (T := fun b => blk (.slice (some ⟨bT, 0, none⟩) thr.length kT) = some b) _ _ _ rfl) (fun _ _ x => x)
    generalize hset h2 ⟨bT, 0 + j * 1, none⟩ (.int .i64 R.log.length) = h3 at I2 row2 U2 ⊢
    clear hZ I c9 c2 ly cT fT
    have c5 : hcell h3 ⟨C, 5, none⟩ = some (.slice aV R.left.length kV) := hcell_of I2.row rfl
    (repeat (first | refine EK.seq ?_ | refine EK.region ?_ | refine ER.done ?_ | refine EK.block ?_ | refine ER.assign rfl rfl rfl ?_))
    refine EK.loopInv (fun i : Nat => [(9, .int .i64 i), (6, ptr y), (0, ptr C), (1, .int .i64 j)]) (fun i h' δ' => i <= R.left.length /\ (∀ i' q, i' < i -> R.left[i']? = some q -> q.1 ≠ j) /\ h' = h3 /\ δ' = δ2) (fun i => R.left.length - i) 0 ⟨rfl, rfl, rfl, rfl, trivial⟩ ⟨Nat.zero_le _, fun i' q h => by omega, rfl, rfl⟩ ?_
    rintro i h3 δ3 ⟨hil2, hno2, rfl, rfl⟩ again
    by_cases hin : i < R.left.length
    · obtain ⟨q, hq⟩ : ∃ q, R.left[i]? = some q := ⟨_, List.getElem?_eq_getElem hin⟩
      obtain ⟨bV, ea, hrow, hz⟩ := slice_row (leftE_len (nums R.log) R.val) (m.left.upd I2.up (fun _ _ x => x)) hq
      subst ea
      have w0 : hcell h3 ⟨bV, 0 + i * 8 + 0, none⟩ = some (.int .i64 q.1) := hrow 0 _ rfl
      obtain ⟨hqn, hqr⟩ := ok.left q (List.mem_of_getElem? hq)
      by_cases hej : q.1 = j
      · (repeat (first | refine EK.seq ?_ | refine EK.region ?_ | refine ER.done ?_ | refine EK.skip ?_ | refine EK.block ?_ | refine ER.move rfl rfl rfl ?_ | refine ER.nilCheck rfl rfl rfl ?_ | refine ER.fieldAddr rfl rfl rfl ?_ | refine ER.cmpT rfl rfl rfl rfl rfl (by first | (dsimp only [cmpP]; omega) | exact rfl | exact Int.le_refl _) ?_ | refine ER.len1 rfl rfl rfl ?_ | refine ER.indexSl rfl rfl rfl rfl (by omega) (by omega) ?_ | refine EK.condT rfl ?_ | refine ER.load1 rfl rfl rfl (by assumption) ?_))
        refine ER.loadN (vs := leftE (nums R.log) R.val q) rfl rfl rfl rfl hrow ?_
        refine ER.storeN (vs := leftE (nums R.log) R.val q) rfl rfl rfl rfl (by simp [leftE, accL, OneCell]) (acc_all rfl row2) ?_
        rw [row_set (c := [.int .i64 0, .int .i8 0, .int .i64 0, .int .i64 0, .int .i64 0, .int .i64 0, .int .i64 0, .bool false]) (vs := leftE (nums R.log) R.val q) row2 rfl]
        (repeat (first | refine ER.done ?_ | refine ER.assign rfl rfl rfl ?_ | refine EK.ret ?_))
        refine EU.retCell (vs := leftE (nums R.log) R.val q) rfl rfl rfl (hrow_block (rest := []) (by rw [List.append_nil]; exact get_set_same row2)) rfl ⟨rfl, thr.set j R.log.length, _, _, _, _, _, _, _, _, true, rfl, ⟨fun _ => mem_alive.2 ⟨hj, .inl ⟨q, List.mem_of_getElem? hq, hej⟩⟩, fun _ => rfl⟩, fun _ => ⟨hqr.op1, hqr.op2, ?_, ?_⟩, by rw [List.length_set]; exact hl, ti.set (Nat.le_refl _) hno, I2.other row2 hy0 _, upd_then U2 (Upd.set (T := fun b => b = y) _ _ _ rfl) (fun b hb e => by omega)⟩
        · split <;> omega
        · split
          · rename_i hb
            have := List.idxOf_lt_length_iff.2 hb
            omega
          · omega
      · (repeat (first | refine EK.seq ?_ | refine EK.region ?_ | refine ER.done ?_ | refine EK.skip ?_ | refine EK.block ?_ | refine EK.inBlock ?_ | refine ER.move rfl rfl rfl ?_ | refine ER.assign rfl rfl rfl ?_ | refine ER.nilCheck rfl rfl rfl ?_ | refine ER.fieldAddr rfl rfl rfl ?_ | refine ER.cmpT rfl rfl rfl rfl rfl (by first | (dsimp only [cmpP]; omega) | exact rfl | exact Int.le_refl _) ?_ | refine ER.cmpF rfl rfl rfl rfl rfl (by first | (dsimp only [cmpP]; omega) | exact rfl | exact Int.le_refl _) ?_ | refine ER.add (kd := .i64) rfl rfl rfl rfl (i64_in (by omega) (by omega)) ?_ | refine ER.len1 rfl rfl rfl ?_ | refine ER.indexSl rfl rfl rfl rfl (by omega) (by omega) ?_ | refine EK.condT rfl ?_ | refine EK.condF rfl ?_ | refine ER.load1 rfl rfl rfl (by assumption) ?_))
        exact EK.back (again (i + 1) _ _ (by omega) ⟨by omega, fun i' q' h1 h3 => by
          by_cases e'' : i' = i
          · subst e''
            rw [hq] at h3; cases h3; exact hej
          · exact hno2 i' q' (by omega) h3, rfl, rfl⟩) ⟨rfl, rfl, rfl, rfl, trivial⟩
    · obtain rfl : i = R.left.length := by omega
      clear again hin
      have hna : j ∉ R.alive k := fun hm => by
        obtain ⟨_, ⟨q, hq, e⟩ | ⟨i, e, h1, h2, h3⟩⟩ := mem_alive.1 hm
        · obtain ⟨i, hi⟩ := List.getElem?_of_mem hq
          exact hno2 i q (take_mid hi).2.2 hi e
        · exact hno i e h1 (take_mid h2).2.2 h2 h3
      (repeat (first | refine EK.seq ?_ | refine EK.region ?_ | refine ER.done ?_ | refine ER.move rfl rfl rfl ?_ | refine ER.nilCheck rfl rfl rfl ?_ | refine ER.fieldAddr rfl rfl rfl ?_ | refine ER.cmpF rfl rfl rfl rfl rfl (by first | (dsimp only [cmpP]; omega) | exact rfl | exact Int.le_refl _) ?_ | refine ER.len1 rfl rfl rfl ?_ | refine EK.condF rfl ?_ | refine EK.exit rfl ?_ | refine ER.load1 rfl rfl rfl (by assumption) ?_))
      refine ER.buildS (cells := #[.int .i64 0, .int .i8 0, .int .i64 0, .int .i64 0, .int .i64 0, .int .i64 0, .int .i64 0, .bool false]) rfl rfl rfl rfl ?_
      refine ER.storeN (vs := accL 0 0 0 0 0 0 0 false) rfl rfl rfl rfl (by simp [accL, OneCell]) (acc_all rfl row2) ?_
      rw [row_set (c := [.int .i64 0, .int .i8 0, .int .i64 0, .int .i64 0, .int .i64 0, .int .i64 0, .int .i64 0, .bool false]) (vs := accL 0 0 0 0 0 0 0 false) row2 rfl]
      (repeat (first | refine ER.done ?_ | refine ER.assign rfl rfl rfl ?_ | refine EK.ret ?_))
      exact EU.retCell (vs := accL 0 0 0 0 0 0 0 false) rfl rfl rfl (hrow_block (rest := []) (by rw [List.append_nil]; exact get_set_same row2)) rfl ⟨rfl, thr.set j R.log.length, _, _, _, _, _, _, _, _, false, rfl, ⟨fun e => (by cases e), fun e => absurd e hna⟩, fun e => (by cases e), by rw [List.length_set]; exact hl, ti.set (Nat.le_refl _) hno, I2.other row2 hy0 _, upd_then U2 (Upd.set (T := fun b => b = y) _ _ _ rfl) (fun b hb e => by omega)⟩
end
end
section
open Go Go.TJ Go.Conc Go.Proofs
abbrev Nme := Int × Int
def nmeL (n : Nme) : List Value := [.int .i64 n.1, .int .i64 n.2]
abbrev nmeV (n : Nme) : Value := .agg #[.int .i64 n.1, .int .i64 n.2]
theorem nmeL_len (n : Nme) : (nmeL n).length = 2 := rfl
structure WS where
  q : List (Bool × Nme)
  hs : List (Nme × Int)
  nv : Value
  gv : Value
  fv : Value
  hv : Value
  ov : Value
def lookN : List (Nme × Int) -> Nme -> Int
  | [], _ => 0
  | (m, v) :: l, n => if m = n then v else lookN l n
theorem lookN_at {n : Nme} : ∀ {l : List (Nme × Int)} {k : Nat} {v : Int}, (∀ j q, j < k -> l[j]? = some q -> q.1 ≠ n) -> l[k]? = some (n, v) -> lookN l n = v
  | [], _, _, _, h => by cases h
  | (m, w) :: l, 0, v, _, h => by
    injection (show some (m, w) = some (n, v) from h) with h
    injection h with h1 h2
    subst h1 h2
    exact if_pos rfl
  | (m, w) :: l, k + 1, v, h0, h => by
    have : m ≠ n := h0 0 _ (by omega) rfl
    unfold lookN
    rw [if_neg this]
    exact lookN_at (fun j q hj hq => h0 (j + 1) q (by omega) hq) h
theorem lookN_no {n : Nme} : ∀ {l : List (Nme × Int)}, (∀ q, q ∈ l -> q.1 ≠ n) -> lookN l n = 0
  | [], _ => rfl
  | (m, w) :: l, h => by
    unfold lookN
    rw [if_neg (h (m, w) (by simp))]
    exact lookN_no fun q hq => h q (by simp [hq])
abbrev wkL (e : Int) (n : Nat) (lL lW lY lV : Value) (s : WS) : List Value := [.int .i8 e, .int .i64 n, lL, lW, lY, lV, nilS, .bool false, s.nv, s.gv, s.fv, s.hv, s.ov]
abbrev wkO (e : Int) (n : Nat) (lL lW lY lV : Value) (s : WS) : Obj := .cells (wkL e n lL lW lY lV s).toArray 66 (0, 0)
abbrev wrO (W i : Nat) (out : Bool) (t : Nat) : Obj := .cells #[ptr W, .int .i64 i, .bool out, .int .i64 t] 60 (0, 0)
structure WkI (R : Rec) (nm : Nat -> Nme) (lL lW lY lV : Value) (h0 : Hp) (W : Nat) (F : List Int) (s : WS) (h : Hp) : Prop where
  up : Upd (fun _ => False) h0 h
  row : h[W]? = some (wkO R.e R.log.length lL lW lY lV s)
  nms : SliceO h s.nv 210 2 s.q.length (s.q.flatMap fun x => nmeL x.2)
  giv : SliceO h s.gv 4 1 s.q.length (s.q.map fun x => Value.bool x.1)
  fst : SliceO h s.fv 2 1 F.length (F.map fun x => Value.int .i64 x)
  hav : SliceO h s.hv 210 2 s.hs.length (s.hs.flatMap fun x => nmeL x.1)
  hol : SliceO h s.ov 2 1 s.hs.length (s.hs.map fun x => Value.int .i64 x.2)
  nW : h0.size <= W
  n1 : ∀ b, blk s.nv = some b -> h0.size <= b
  n2 : ∀ b, blk s.gv = some b -> h0.size <= b
  n3 : ∀ b, blk s.fv = some b -> h0.size <= b
  n4 : ∀ b, blk s.hv = some b -> h0.size <= b
  n5 : ∀ b, blk s.ov = some b -> h0.size <= b
  a1 : ∀ b, blk s.nv = some b -> blk s.hv ≠ some b
  a2 : ∀ b, blk s.fv = some b -> blk s.ov ≠ some b
def Named (R : Rec) (nm : Nat -> Nme) (q : List (Bool × Nme)) : Prop := q.length = (nums R.log).length /\ ∀ (j b : Nat) (x : Bool × Nme), (nums R.log)[j]? = some b -> q[j]? = some x -> x.1 = true -> x.2 = nm b
theorem Named.set {R : Rec} {nm : Nat -> Nme} {q : List (Bool × Nme)} (x : Named R nm q) {j b : Nat} (hb : (nums R.log)[j]? = some b) : Named R nm (q.set j (true, nm b)) := by
  refine ⟨by rw [List.length_set]; exact x.1, fun j' b' y hb' hy ht => ?_⟩
  by_cases e : j' = j
  · subst e
    have hlt : j' < q.length := by rw [x.1]; exact (take_mid hb).2.2
    rw [List.getElem?_set_self hlt] at hy
    rw [hb] at hb'
    cases hy; cases hb'; rfl
  · rw [List.getElem?_set_ne (Ne.symm e)] at hy
    exact x.2 j' b' y hb' hy ht
section
variable {R : Rec} {nm : Nat -> Nme} {lL lW lY lV : Value} {h0 h h' : Hp} {W : Nat} {F : List Int} {s : WS}
theorem WkI.upd0 (I : WkI R nm lL lW lY lV h0 W F s h) (u : Upd (fun _ => False) h h') : WkI R nm lL lW lY lV h0 W F s h' :=
  ⟨I.up.trans u, u.get I.row (fun x => x), I.nms.upd u (fun _ _ x => x), I.giv.upd u (fun _ _ x => x), I.fst.upd u (fun _ _ x => x), I.hav.upd u (fun _ _ x => x), I.hol.upd u (fun _ _ x => x), I.nW, I.n1, I.n2, I.n3, I.n4, I.n5, I.a1, I.a2⟩
theorem WkI.other (I : WkI R nm lL lW lY lV h0 W F s h) {y : Nat} {a : Array Value} {t : TypeId} (hy : h[y]? = some (.cells a t (0, 0))) (hy0 : h0.size <= y) (h1 : t ≠ 66) (h2 : t ≠ 210) (h3 : t ≠ 4) (h4 : t ≠ 2) (o : Obj) : WkI R nm lL lW lY lV h0 W F s (h.setIfInBounds y o) := by
  have u : Upd (fun b => b = y) h (h.setIfInBounds y o) := Upd.set _ _ _ rfl
  have hyW : W ≠ y := fun e => by
    have := I.row
    rw [e, hy] at this
    injection this with this
    injection this with _ this _
    exact h1 this
  exact ⟨I.up.over u (fun b hb => by omega), u.get I.row hyW, I.nms.upd u (sliceO_ne I.nms hy (Ne.symm h2)), I.giv.upd u (sliceO_ne I.giv hy (Ne.symm h3)), I.fst.upd u (sliceO_ne I.fst hy (Ne.symm h4)), I.hav.upd u (sliceO_ne I.hav hy (Ne.symm h2)), I.hol.upd u (sliceO_ne I.hol hy (Ne.symm h4)), I.nW, I.n1, I.n2, I.n3, I.n4, I.n5, I.a1, I.a2⟩
end
def ownFrom (R : Rec) (i t : Nat) : List Ev := ownOf i (R.log.drop t)
theorem ownFrom_zero (R : Rec) (i : Nat) : ownFrom R i 0 = ownOf i R.log := by unfold ownFrom; rw [List.drop_zero]
theorem ownFrom_end (R : Rec) (i : Nat) : ownFrom R i R.log.length = [] := by unfold ownFrom; rw [List.drop_eq_nil_of_le (Nat.le_refl _)]; rfl
theorem ownFrom_step {R : Rec} {i t : Nat} {e : Ev} (h : R.log[t]? = some e) : ownFrom R i t = if e.thr = i then e :: ownFrom R i (t + 1) else ownFrom R i (t + 1) := by
  unfold ownFrom
  have hk := (take_mid h).2.2
  rw [List.drop_eq_getElem_cons hk]
  have : R.log[t] = e := by
    have := List.getElem?_eq_getElem hk
    rw [h] at this
    injection this with this
    exact this.symm
  rw [this]
  unfold ownOf
  by_cases hc : e.thr = i
  · rw [if_pos hc, List.filter_cons_of_pos (by simpa using hc)]
  · rw [if_neg hc, List.filter_cons_of_neg (by simpa using hc)]
def PF (R : Rec) {A : Type} (i : Nat) (p : Pr A) : Prop := (∃ r k, (i, r) ∈ R.left /\ p = .step r k) \/ ((∀ q, q ∈ R.left -> q.1 ≠ i) /\ p = .done)
theorem PF.emit {R : Rec} {A : Type} {i : Nat} {p : Pr A} (x : PF R i p) : ∀ a k, p ≠ .emit a k := by
  rintro a k rfl
  rcases x with ⟨_, _, _, e⟩ | ⟨_, e⟩ <;> cases e
structure WAt (R : Rec) {A : Type} (pf : Pr A) (x W i : Nat) (p : Pr A) (l : List Ev) (o : List A) (h : Hp) : Prop where
  at_ : ∃ t, t <= R.log.length /\ ownFrom R i t = l /\ h[x]? = some (wrO W i false t)
  goes : Goes i p l o pf
structure WOut (R : Rec) (x W i : Nat) (h : Hp) : Prop where
  at_ : ∃ t, t <= R.log.length /\ ownFrom R i t = [] /\ h[x]? = some (wrO W i true t)
  left : ∃ r, (i, r) ∈ R.left
end
section
open Go Go.TJ Go.Conc Go.Proofs
section
variable {Γ : Type} {P : Program} {main : Bool} {S : Sit Γ} {f : FuncId} {n : Nat} {k : List Item} {env : Env} {ds : List Deferred} {h : Hp} {δ : Ix Γ} {R : Post Γ}
variable {ops : Array Oper} {l : List Oper} {d : Nat} {ty : TypeId} {pos : String} {af : Array Edge} {g : Option (Nat × Bool)} {Z : Hp -> Prop} {zz : Nat} {m : Nat} {listed l' : Array Bool}
theorem sem_eqA2 {t t2 : TypeId} {k1 k2 : IntKind} [EqI2 P t k1 k2] {x y : Operand} {a1 a2 b1 b2 : Int} {r : Bool} {ρ : Operand -> Value} {dst : Option Nat} {Q : Next -> Hp -> Ix Γ -> Prop} {X : Value -> Hp -> Ix Γ -> Prop} (hx : ρ x = .agg #[.int k1 a1, .int k2 a2]) (hy : ρ y = .agg #[.int k1 b1, .int k2 b2]) (hr : (a1 == b1 && a2 == b2) = r) (hq : Q (.value (.bool r)) h δ) : SemW P S (execOp ρ ⟨dst, .binOp .eql t x y t2, ty, pos, af, g⟩) h δ Q X :=
  semW_binOp (by
    rw [hx, hy]
    exact eqGuard_agg (by
      show SemW P S (Op.equal t _ _ >>= fun b => pure (Value.bool b)) h δ _ X
      exact semW_bind _ _ _ _ _ _ (semW_eqI2 (by rw [hr]; exact hq))))
theorem EA.tEqA2 (i : Nat) {t t2 : TypeId} {k1 k2 : IntKind} [EqI2 P t k1 k2] {x y : Operand} {a1 a2 b1 b2 : Int} {r : Bool} (hi : ops[i]? = some ⟨some d, .binOp .eql t x y t2, ty, pos, af, g⟩) (hs : takeB ops listed zz i = true) (hl : listed.setIfInBounds i true = l')
    (hd : Nat.blt d n = true) (hw : wantE ops env g = some true) (hx : ev env x = some (.agg #[.int k1 a1, .int k2 a2])) (hy : ev env y = some (.agg #[.int k1 b1, .int k2 b2])) (hr : (a1 == b1 && a2 == b2) = r) (hZ : Z h)
    (hn : EA P main S f n ops Z zz m l' k ((d, .bool r) :: env) ds h δ R) : EA P main S f n ops Z zz (m + 1) listed k env ds h δ R :=
  EA.take i hi hs hl hd hw (fun _ _ _ _ _ hρ _ hq => sem_eqA2 (hρ _ _ hx) (hρ _ _ hy) hr hq) hZ hn
theorem sem_field {xt : TypeId} {fs : Array Field} {fd : Field} {dd : TypeDesc} {j : Nat} {x : Operand} {cs : Array Value} {v : Value} {ρ : Operand -> Value} {dst : Option Nat} {Q : Next -> Hp -> Ix Γ -> Prop} {X : Value -> Hp -> Ix Γ -> Prop} (hu : P.underlying xt = some (.struct fs)) (hf : fs[j]? = some fd) (ht : P.underlying fd.type = some dd) (hs : (match dd with | .struct _ => true | .array _ _ => true | _ => false) = false) (hx : ρ x = .agg cs) (hv : cs[fd.offset]? = some v) (hq : Q (.value v) h δ) :
    SemW P S (execOp ρ ⟨dst, .field xt x j, ty, pos, af, g⟩) h δ Q X := by
  show SemW P S (Instr.field xt (ρ x) j >>= fun v => pure (.value v)) h δ Q X
  rw [hx]
  refine semW_bind _ _ _ _ _ _ ?_
  unfold Instr.field
  refine semW_underlying hu ?_
  simp only [hf]
  show SemW P S (part fd.type cs fd.offset) h δ _ X
  unfold part isAgg
  refine semW_bind _ _ _ _ _ _ ?_
  refine semW_underlying ht ?_
  cases dd <;> first | (simp at hs; done) | (simp only [hv]; exact hq)
theorem ER.field {xt : TypeId} {fs : Array Field} {fd : Field} {dd : TypeDesc} {j : Nat} {x : Operand} {cs : Array Value} {v : Value} (hu : P.underlying xt = some (.struct fs)) (hf : fs[j]? = some fd) (ht : P.underlying fd.type = some dd) (hs : (match dd with | .struct _ => true | .array _ _ => true | _ => false) = false)
    (hw : wantE ops env g = some true) (hd : Nat.blt d n = true) (hx : ev env x = some (.agg cs)) (hv : cs[fd.offset]? = some v) (hn : ER P main S f n ops l k ((d, v) :: env) ds h δ R) : ER P main S f n ops (⟨some d, .field xt x j, ty, pos, af, g⟩ :: l) k env ds h δ R :=
  ER.to hw hd (fun _ρ _Q _X hρ hq => sem_field hu hf ht hs (hρ _ _ hx) hv hq) hn
end
theorem nme_eq {a b : Nme} (h : a = b) : (a.1 == b.1 && a.2 == b.2) = true := by subst h; simp
theorem nme_ne {a b : Nme} (h : a ≠ b) : (a.1 == b.1 && a.2 == b.2) = false := by
  obtain ⟨a1, a2⟩ := a
  obtain ⟨b1, b2⟩ := b
  by_cases h1 : a1 = b1
  · by_cases h2 : a2 = b2
    · subst h1 h2; exact absurd rfl h
    · simp [h2]
  · simp [h1]
abbrev nmeO (n : Nme) : Obj := .cells #[.int .i64 n.1, .int .i64 n.2] 210 (0, 0)
section
variable {Γ : Type} {main : Bool} {S : Sit Γ} {δ : Ix Γ} {R : Rec} {nm : Nat -> Nme} {lL lW lY lV : Value} {h0 h h' : Hp} {W : Nat} {F : List Int} {s : WS}
set_option maxHeartbeats 4000000 in
set_option maxRecDepth 8000 in
theorem begins_ok {n : Nme} (I : WkI R nm lL lW lY lV h0 W F s h) (hl : s.hs.length <= 5000) :
    CallW Try.prog main S 181 #[ptr W, nmeV n] h δ (Ret fun v h' δ' => δ' = δ /\ v = .int .i64 (lookN s.hs n) /\ Upd (fun _ => False) h h') := by
  obtain ⟨q, hs, nv, gv, fv, hv, ov⟩ := s
  obtain ⟨aH, kH, eH⟩ := I.hav.val
  obtain ⟨aO, kO, eO⟩ := I.hol.val
  dsimp only at eH eO hl ⊢
  subst eH eO
  obtain ⟨y, hy⟩ : ∃ y, y = h.size := ⟨_, rfl⟩
  refine CallW.start (n := 31) rfl rfl ?_
  (repeat (first | refine EK.seq ?_ | refine EK.region ?_ | refine ER.done ?_ | refine EK.block ?_ | refine ER.assign rfl rfl rfl ?_ | refine ER.boxA rfl rfl rfl ?_))
  refine EK.gen (fun h' => WkI R nm lL lW lY lV h0 W F ⟨q, hs, nv, gv, fv, .slice aH hs.length kH, .slice aO hs.length kO⟩ h' /\ Upd (fun _ => False) h h' /\ h'[y]? = some (nmeO n)) ⟨I.upd0 (Upd.push _ _), Upd.push _ _, by rw [hy]; exact get_push_new _ _⟩ ?_
  rw [<- hy]
  clear I hy
  rintro h1 ⟨I, u1, ly⟩
  have c11 : hcell h1 ⟨W, 11, none⟩ = some (.slice aH hs.length kH) := hcell_of I.row rfl
  have c12 : hcell h1 ⟨W, 12, none⟩ = some (.slice aO hs.length kO) := hcell_of I.row rfl
  refine EK.loopInv (fun i : Nat => [(5, .int .i64 i), (0, ptr W), (3, ptr y)]) (fun i h' δ' => i <= hs.length /\ δ' = δ /\ h' = h1 /\ ∀ j q, j < i -> hs[j]? = some q -> q.1 ≠ n) (fun i => hs.length - i) 0 ⟨rfl, rfl, rfl, trivial⟩ ⟨Nat.zero_le _, rfl, rfl, fun j q hj => by omega⟩ ?_
  rintro i h2 δ2 ⟨hi, rfl, rfl, hno⟩ again
  by_cases hin : i < hs.length
  · obtain ⟨⟨m, v⟩, hq⟩ : ∃ x, hs[i]? = some x := ⟨_, List.getElem?_eq_getElem hin⟩
    obtain ⟨bH, ea, hrow, -⟩ := slice_row (f := fun x : Nme × Int => nmeL x.1) (fun _ => rfl) I.hav hq
    obtain ⟨bO, eb, cO, -⟩ := slice_at (f := fun x : Nme × Int => Value.int .i64 x.2) I.hol hq
    subst ea eb
    (repeat (first | refine EK.seq ?_ | refine EK.region ?_ | refine ER.done ?_ | refine EK.skip ?_ | refine EK.block ?_ | refine ER.move rfl rfl rfl ?_ | refine ER.nilCheck rfl rfl rfl ?_ | refine ER.fieldAddr rfl rfl rfl ?_ | refine ER.cmpT rfl rfl rfl rfl rfl (by first | (dsimp only [cmpP]; omega) | exact rfl | exact Int.le_refl _) ?_ | refine ER.len1 rfl rfl rfl ?_ | refine EK.condT rfl ?_ | refine ER.load1 rfl rfl rfl (by assumption) ?_))
    refine EK.regionAny (fun h' => h' = h2) ?_
    have hZ : h2 = h2 := rfl
    refine EA.tMove 0 rfl (by kernel_rfl) rfl rfl rfl rfl hZ ?_
    refine EA.tNil 1 rfl (by kernel_rfl) rfl rfl rfl rfl hZ ?_
    refine EA.tField 2 rfl (by kernel_rfl) rfl rfl rfl rfl hZ ?_
    refine EA.tLoad 3 rfl (by kernel_rfl) rfl rfl rfl rfl (fun _ hz => (by rw [hz]; exact c11)) hZ ?_
    refine EA.tMove 4 rfl (by kernel_rfl) rfl rfl rfl rfl hZ ?_
    refine EA.tIdxS 5 rfl (by kernel_rfl) rfl rfl rfl rfl rfl (by omega) (by omega) hZ ?_
    refine EA.tLoadN (vs := nmeL m) 6 rfl (by kernel_rfl) rfl rfl rfl rfl rfl (fun _ hz => by rw [hz]; exact hrow) hZ ?_
    refine EA.tLoadN (vs := nmeL n) 7 rfl (by kernel_rfl) rfl rfl rfl rfl rfl (fun _ hz => by rw [hz]; exact hrow_block (rest := []) (by rw [List.append_nil]; exact ly)) hZ ?_
    by_cases e : m = n
    · refine EA.tEqA2 8 rfl (by kernel_rfl) rfl rfl rfl rfl rfl (nme_eq e) hZ ?_
      refine EA.done (by kernel_rfl) ?_
      subst e
      rw [lookN_at hno hq]
      (repeat (first | refine EK.seq ?_ | refine EK.region ?_ | refine ER.done ?_ | refine ER.move rfl rfl rfl ?_ | refine ER.assign rfl rfl rfl ?_ | refine ER.nilCheck rfl rfl rfl ?_ | refine ER.fieldAddr rfl rfl rfl ?_ | refine ER.indexSl rfl rfl rfl rfl (by omega) (by omega) ?_ | refine EK.condT rfl ?_ | refine EK.ret ?_ | refine ER.load1 rfl rfl rfl (by assumption) ?_))
      exact EU.ret1 rfl rfl ⟨rfl, rfl, u1⟩
    · refine EA.tEqA2 8 rfl (by kernel_rfl) rfl rfl rfl rfl rfl (nme_ne e) hZ ?_
      refine EA.done (by kernel_rfl) ?_
      (repeat (first | refine EK.region ?_ | refine ER.done ?_ | refine EK.skip ?_ | refine EK.inBlock ?_ | refine ER.move rfl rfl rfl ?_ | refine ER.assign rfl rfl rfl ?_ | refine ER.add (kd := .i64) rfl rfl rfl rfl (i64_in (by omega) (by omega)) ?_ | refine EK.condF rfl ?_))
      exact EK.back (again (i + 1) _ _ (by omega) ⟨by omega, rfl, rfl, fun j q hj hjq => by
        by_cases e' : j = i
        · subst e'
          rw [hq] at hjq; cases hjq; exact e
        · exact hno j q (by omega) hjq⟩) ⟨rfl, rfl, rfl, trivial⟩
  · obtain rfl : i = hs.length := by omega
    rw [lookN_no fun q hq => by
      obtain ⟨j, hj, rfl⟩ := List.mem_iff_getElem.1 hq
      exact hno j _ hj (List.getElem?_eq_getElem hj)]
    (repeat (first | refine EK.seq ?_ | refine EK.region ?_ | refine ER.done ?_ | refine ER.move rfl rfl rfl ?_ | refine ER.assign rfl rfl rfl ?_ | refine ER.nilCheck rfl rfl rfl ?_ | refine ER.fieldAddr rfl rfl rfl ?_ | refine ER.cmpF rfl rfl rfl rfl rfl (by first | (dsimp only [cmpP]; omega) | exact rfl | exact Int.le_refl _) ?_ | refine ER.len1 rfl rfl rfl ?_ | refine EK.condF rfl ?_ | refine EK.ret ?_ | refine EK.exit rfl ?_ | refine ER.load1 rfl rfl rfl (by assumption) ?_))
    exact EU.ret1 rfl rfl ⟨rfl, rfl, u1⟩
end
end
section
open Go Go.TJ Go.Conc Go.Proofs
theorem nodup_at {l : List Nat} {i j a : Nat} (hn : l.Nodup) (h1 : l[i]? = some a) (h2 : l[j]? = some a) : i = j := by
  obtain ⟨l1, e1⟩ := List.getElem?_eq_some_iff.1 h1
  obtain ⟨l2, e2⟩ := List.getElem?_eq_some_iff.1 h2
  have hp := List.pairwise_iff_getElem.1 hn
  rcases Nat.lt_trichotomy i j with y | y | y
  · exact absurd (e1.trans e2.symm) (hp i j l1 l2 y)
  · exact y
  · exact absurd (e2.trans e1.symm) (hp j i l2 l1 y)
theorem names_set : ∀ (l : List (Bool × Nme)) (j : Nat) (g : Bool) (n : Nme), (l.set j (g, n)).flatMap (fun x => nmeL x.2) = ((l.flatMap fun x => nmeL x.2).set (0 + j * 2) (.int .i64 n.1)).set (0 + j * 2 + 1) (.int .i64 n.2)
  | [], j, g, n => by simp
  | c :: t, 0, g, n => rfl
  | c :: t, j + 1, g, n => by
    have ih := names_set t j g n
    rw [show 0 + (j + 1) * 2 + 1 = (0 + j * 2 + 1) + 1 + 1 by omega, show 0 + (j + 1) * 2 = (0 + j * 2) + 1 + 1 by omega]
    rw [List.set_cons_succ, List.flatMap_cons, List.flatMap_cons, ih]
    rfl
theorem names_len (l : List (Bool × Nme)) : (l.flatMap fun x => nmeL x.2).length = l.length * 2 := by
  induction l with
  | nil => rfl
  | cons c t ih => rw [List.flatMap_cons, List.length_append, ih, nmeL_len, List.length_cons]; omega
theorem given_set (l : List (Bool × Nme)) (j : Nat) (n : Nme) : ((l.set j (true, n)).map fun x => Value.bool x.1) = (l.map fun x => Value.bool x.1).set j (.bool true) := by rw [List.map_set]
section
variable {Γ : Type} {main : Bool} {S : Sit Γ} {δ : Ix Γ} {R : Rec} {nm : Nat -> Nme} {lL lW lY lV : Value} {h0 h h' : Hp} {W : Nat} {F : List Int} {s : WS} {q : List (Bool × Nme)} {hs : List (Nme × Int)} {nv gv fv hv ov : Value}
theorem WkI.setG {b k j : Nat} {m : Nme} {g : Bool} (I : WkI R nm lL lW lY lV h0 W F ⟨q, hs, nv, .slice (some ⟨b, 0, none⟩) q.length k, fv, hv, ov⟩ h) (hq : q[j]? = some (g, m)) :
    WkI R nm lL lW lY lV h0 W F ⟨q.set j (true, m), hs, nv, .slice (some ⟨b, 0, none⟩) q.length k, fv, hv, ov⟩ (hset h ⟨b, 0 + j * 1, none⟩ (.bool true)) := by
  have hj := (take_mid hq).2.2
  have u : Upd (fun x => x = b) h (hset h ⟨b, 0 + j * 1, none⟩ (.bool true)) := Upd.hset _ _ _ rfl
  have hb := I.n2 b rfl
  have e1 : 0 + j * 1 = j := by omega
  refine ⟨I.up.over u (fun b' hb' => by omega), u.get I.row (fun e => sliceO_ne I.giv I.row (by decide) b rfl e.symm), ?_, ?_, I.fst.upd u (fun b' hb' e => sliceO_two I.fst I.giv (by decide) b' hb' (by rw [e]; rfl)), I.hav.upd u (fun b' hb' e => sliceO_two I.hav I.giv (by decide) b' hb' (by rw [e]; rfl)), I.hol.upd u (fun b' hb' e => sliceO_two I.hol I.giv (by decide) b' hb' (by rw [e]; rfl)), I.nW, I.n1, I.n2, I.n3, I.n4, I.n5, I.a1, I.a2⟩
  · have := I.nms.upd u (fun b' hb' e => sliceO_two I.nms I.giv (by decide) b' hb' (by rw [e]; rfl))
    dsimp only at this ⊢
    rw [List.length_set]
    have e2 : ((q.set j (true, m)).flatMap fun x => nmeL x.2) = q.flatMap fun x => nmeL x.2 := by
      rw [List.flatMap_def, List.flatMap_def, List.map_set]
      congr 1
      refine List.ext_getElem? fun i => ?_
      by_cases e : i = j
      · subst e
        rw [List.getElem?_set_self (by simpa using hj), List.getElem?_map, hq]
        rfl
      · rw [List.getElem?_set_ne (Ne.symm e)]
    rw [e2]
    exact this
  · have := I.giv.set (j := j) (by rw [List.length_map]; exact hj) (.bool true)
    dsimp only at this ⊢
    rw [e1, given_set, List.length_set]
    exact this
theorem WkI.setN {b k j : Nat} {m n : Nme} {g : Bool} (I : WkI R nm lL lW lY lV h0 W F ⟨q, hs, .slice (some ⟨b, 0, none⟩) q.length k, gv, fv, hv, ov⟩ h) (hq : q[j]? = some (g, m)) :
    WkI R nm lL lW lY lV h0 W F ⟨q.set j (g, n), hs, .slice (some ⟨b, 0, none⟩) q.length k, gv, fv, hv, ov⟩ (hsetRow h b (0 + j * 2) (nmeL n)) := by
  have hj := (take_mid hq).2.2
  have u : Upd (fun x => x = b) h (hsetRow h b (0 + j * 2) (nmeL n)) := (Upd.hset (T := fun x => x = b) h ⟨b, 0 + j * 2, none⟩ _ rfl).trans (Upd.hset (T := fun x => x = b) _ ⟨b, 0 + j * 2 + 1, none⟩ _ rfl)
  have hb := I.n1 b rfl
  refine ⟨I.up.over u (fun b' hb' => by omega), u.get I.row (fun e => sliceO_ne I.nms I.row (by decide) b rfl e.symm), ?_, ?_, I.fst.upd u (fun b' hb' e => sliceO_two I.fst I.nms (by decide) b' hb' (by rw [e]; rfl)), I.hav.upd u (fun b' hb' e => I.a1 b rfl (by rw [<- e]; exact hb')), I.hol.upd u (fun b' hb' e => sliceO_two I.hol I.nms (by decide) b' hb' (by rw [e]; rfl)), I.nW, I.n1, I.n2, I.n3, I.n4, I.n5, I.a1, I.a2⟩
  · have l0 := names_len q
    have x1 := I.nms.set (j := 0 + j * 2) (by dsimp only; rw [l0]; omega) (.int .i64 n.1)
    have x2 := x1.set (j := 0 + j * 2 + 1) (by dsimp only; rw [List.length_set, l0]; omega) (.int .i64 n.2)
    dsimp only at x2 ⊢
    rw [names_set, List.length_set]
    exact x2
  · have := I.giv.upd u (fun b' hb' e => sliceO_two I.giv I.nms (by decide) b' hb' (by rw [e]; rfl))
    dsimp only at this ⊢
    rw [List.length_set, List.map_set]
    have e2 : (q.map fun x => Value.bool x.1).set j (.bool g) = q.map fun x => Value.bool x.1 := by
      refine List.ext_getElem? fun i => ?_
      by_cases e : i = j
      · subst e
        rw [List.getElem?_set_self (by simpa using hj), List.getElem?_map, hq]
        rfl
      · rw [List.getElem?_set_ne (Ne.symm e)]
    rw [e2]
    exact this
set_option maxHeartbeats 8000000 in
set_option maxRecDepth 8000 in
theorem is_ok {j b : Nat} (I : WkI R nm lL lW lY lV h0 W F s h) (hN : Named R nm s.q) (hb : (nums R.log)[j]? = some b) (hF : F[j]? = some (lookN s.hs (nm b))) (hinj : ∀ b', b' ∈ nums R.log -> nm b' = nm b -> b' = b) (hql : (nums R.log).length <= 65536) (hhl : s.hs.length <= 5000) :
    CallW Try.prog main (NoS (Γ := Γ)) 179 #[ptr W, .int .i64 j, nmeV (nm b)] h δ (Ret fun v h' δ' => δ' = δ /\ v = .bool true /\ WkI R nm lL lW lY lV h0 W F { s with q := s.q.set j (true, nm b) } h' /\ Upd (fun c => blk s.nv = some c \/ blk s.gv = some c) h h') := by
  obtain ⟨q, hs, nv, gv, fv, hv, ov⟩ := s
  obtain ⟨aN, kN, eN⟩ := I.nms.val
  obtain ⟨aG, kG, eG⟩ := I.giv.val
  obtain ⟨aF, kF, eF⟩ := I.fst.val
  dsimp only at eN eG eF hF hN hhl ⊢
  subst eN eG eF
  have hq0 := hN.1
  have hjl : j < q.length := by rw [hq0]; exact (take_mid hb).2.2
  obtain ⟨⟨g0, m0⟩, hx⟩ : ∃ x, q[j]? = some x := ⟨_, List.getElem?_eq_getElem hjl⟩
  have hFl : F.length <= 10000000 \/ True := .inr trivial
  obtain ⟨y, hy⟩ : ∃ y, y = h.size := ⟨_, rfl⟩
  obtain ⟨bG, eG, cG, fG⟩ := slice_at (f := fun x : Bool × Nme => Value.bool x.1) I.giv hx
  obtain ⟨bN, eN, rN, fN⟩ := slice_row (f := fun x : Bool × Nme => nmeL x.2) (fun _ => rfl) I.nms hx
  obtain ⟨bF, eF, cF, -⟩ := slice_at (f := fun x : Int => Value.int .i64 x) I.fst hF
  subst eG eN eF
  dsimp only at cG rN
  refine CallW.start (n := 86) rfl rfl ?_
  (repeat (first | refine EK.seq ?_ | refine EK.region ?_ | refine ER.done ?_ | refine ER.move rfl rfl rfl ?_ | refine ER.assign rfl rfl rfl ?_ | refine ER.nilCheck rfl rfl rfl ?_ | refine ER.fieldAddr rfl rfl rfl ?_ | refine ER.cmpF rfl rfl rfl rfl rfl (by first | (dsimp only [cmpP]; omega) | exact rfl | exact Int.le_refl _) ?_ | refine ER.boxA rfl rfl rfl ?_))
  refine ER.gen (fun h' => WkI R nm lL lW lY lV h0 W F ⟨q, hs, .slice (some ⟨bN, 0, none⟩) q.length kN, .slice (some ⟨bG, 0, none⟩) q.length kG, .slice (some ⟨bF, 0, none⟩) F.length kF, hv, ov⟩ h' /\ Upd (fun _ => False) h h' /\ h'[y]? = some (nmeO (nm b))) ⟨I.upd0 (Upd.push _ _), Upd.push _ _, by rw [hy]; exact get_push_new _ _⟩ ?_
  rw [<- hy]
  have hyl : h.size <= y := by omega
  have nN := I.nms.lt (b := bN) rfl
  have nG := I.giv.lt (b := bG) rfl
  clear I cG rN cF hy
  rintro h1 ⟨I, u1, ly⟩
  obtain ⟨bG', eG, cG, fG⟩ := slice_at (f := fun x : Bool × Nme => Value.bool x.1) I.giv hx
  obtain ⟨bN', eN, rN, fN⟩ := slice_row (f := fun x : Bool × Nme => nmeL x.2) (fun _ => rfl) I.nms hx
  obtain ⟨bF', eF, cF, -⟩ := slice_at (f := fun x : Int => Value.int .i64 x) I.fst hF
  injection eG with eG
  injection eG with eG
  injection eN with eN
  injection eN with eN
  injection eF with eF
  injection eF with eF
  subst eG eN eF
  dsimp only at cG rN
  have c8 : hcell h1 ⟨W, 8, none⟩ = some (.slice (some ⟨bN, 0, none⟩) q.length kN) := hcell_of I.row rfl
  have c9 : hcell h1 ⟨W, 9, none⟩ = some (.slice (some ⟨bG, 0, none⟩) q.length kG) := hcell_of I.row rfl
  have rY : TJ.hrow h1 y 0 (nmeL (nm b)) := hrow_block (rest := []) (by rw [List.append_nil]; exact ly)
  cases g0 with
  | true =>
    have em : m0 = nm b := hN.2 j b _ hb hx rfl
    subst em
    (repeat (first | refine EK.seq ?_ | refine EK.region ?_ | refine ER.done ?_ | refine EK.skip ?_ | refine ER.move rfl rfl rfl ?_ | refine ER.nilCheck rfl rfl rfl ?_ | refine ER.fieldAddr rfl rfl rfl ?_ | refine ER.pickF rfl rfl rfl rfl ?_ | refine ER.cmpF rfl rfl rfl rfl rfl (by first | (dsimp only [cmpP]; omega) | exact rfl | exact Int.le_refl _) ?_ | refine ER.len1 rfl rfl rfl ?_ | refine ER.indexSl rfl rfl rfl rfl (by omega) (by omega) ?_ | refine EK.condT rfl ?_ | refine EK.condF rfl ?_ | refine ER.load1 rfl rfl rfl (by assumption) ?_))
    refine EK.regionAny (fun h' => h' = h1) ?_
    have hZ : h1 = h1 := rfl
    refine EA.tMove 0 rfl (by kernel_rfl) rfl rfl rfl rfl hZ ?_
    refine EA.tNil 1 rfl (by kernel_rfl) rfl rfl rfl rfl hZ ?_
    refine EA.tField 2 rfl (by kernel_rfl) rfl rfl rfl rfl hZ ?_
    refine EA.tLoad 3 rfl (by kernel_rfl) rfl rfl rfl rfl (fun _ hz => (by rw [hz]; exact c8)) hZ ?_
    refine EA.tMove 4 rfl (by kernel_rfl) rfl rfl rfl rfl hZ ?_
    refine EA.tIdxS 5 rfl (by kernel_rfl) rfl rfl rfl rfl rfl (by omega) (by omega) hZ ?_
    refine EA.tLoadN (vs := nmeL (nm b)) 6 rfl (by kernel_rfl) rfl rfl rfl rfl rfl (fun _ hz => by rw [hz]; exact rN) hZ ?_
    refine EA.tLoadN (vs := nmeL (nm b)) 7 rfl (by kernel_rfl) rfl rfl rfl rfl rfl (fun _ hz => by rw [hz]; exact rY) hZ ?_
    refine EA.tEqA2 8 rfl (by kernel_rfl) rfl rfl rfl rfl rfl (nme_eq rfl) hZ ?_
    refine EA.tAssign 9 rfl (by kernel_rfl) rfl rfl rfl rfl hZ ?_
    refine EA.done (by kernel_rfl) ?_
    have eq : q.set j (true, nm b) = q := by
      refine List.ext_getElem? fun i => ?_
      by_cases e : i = j
      · subst e; rw [List.getElem?_set_self hjl, hx]
      · rw [List.getElem?_set_ne (Ne.symm e)]
    rw [eq]
    (repeat refine EK.ret ?_)
    exact EU.ret1 rfl rfl ⟨rfl, rfl, I, u1.mono (fun _ _ z => z.elim)⟩
  | false =>
    (repeat (first | refine EK.seq ?_ | refine EK.region ?_ | refine ER.done ?_ | refine EK.skip ?_ | refine EK.block ?_ | refine ER.move rfl rfl rfl ?_ | refine ER.assign rfl rfl rfl ?_ | refine ER.nilCheck rfl rfl rfl ?_ | refine ER.fieldAddr rfl rfl rfl ?_ | refine ER.pickF rfl rfl rfl rfl ?_ | refine ER.cmpF rfl rfl rfl rfl rfl (by first | (dsimp only [cmpP]; omega) | exact rfl | exact Int.le_refl _) ?_ | refine ER.len1 rfl rfl rfl ?_ | refine ER.indexSl rfl rfl rfl rfl (by omega) (by omega) ?_ | refine EK.condF rfl ?_ | refine ER.load1 rfl rfl rfl (by assumption) ?_))
    refine EK.loopInv (fun i : Nat => [(7, .int .i64 i), (5, ptr y), (0, ptr W), (1, .int .i64 j)]) (fun i h' δ' => δ' = δ /\ i <= q.length /\ h' = h1) (fun i => q.length - i) 0 ⟨rfl, rfl, rfl, rfl, trivial⟩ ⟨rfl, Nat.zero_le _, rfl⟩ ?_
    rintro i h2 δ2 ⟨rfl, hi, rfl⟩ again
    by_cases hin : i < q.length
    · obtain ⟨⟨g1, m1⟩, hx1⟩ : ∃ x, q[i]? = some x := ⟨_, List.getElem?_eq_getElem hin⟩
      obtain ⟨bG', eG, cG1, -⟩ := slice_at (f := fun x : Bool × Nme => Value.bool x.1) I.giv hx1
      obtain ⟨bN', eN, rN1, -⟩ := slice_row (f := fun x : Bool × Nme => nmeL x.2) (fun _ => rfl) I.nms hx1
      injection eG with eG
      injection eG with eG
      injection eN with eN
      injection eN with eN
      subst eG eN
      dsimp only at cG1 rN1
      (repeat (first | refine EK.seq ?_ | refine EK.region ?_ | refine ER.done ?_ | refine EK.skip ?_ | refine EK.block ?_ | refine ER.move rfl rfl rfl ?_ | refine ER.nilCheck rfl rfl rfl ?_ | refine ER.fieldAddr rfl rfl rfl ?_ | refine ER.cmpT rfl rfl rfl rfl rfl (by first | (dsimp only [cmpP]; omega) | exact rfl | exact Int.le_refl _) ?_ | refine ER.len1 rfl rfl rfl ?_ | refine EK.condT rfl ?_ | refine ER.load1 rfl rfl rfl (by assumption) ?_))
      refine EK.regionAny (fun h' => h' = h2) ?_
      have hZ : h2 = h2 := rfl
      refine EA.tMove 0 rfl (by kernel_rfl) rfl rfl rfl rfl hZ ?_
      refine EA.tNil 1 rfl (by kernel_rfl) rfl rfl rfl rfl hZ ?_
      refine EA.tField 2 rfl (by kernel_rfl) rfl rfl rfl rfl hZ ?_
      refine EA.tLoad 3 rfl (by kernel_rfl) rfl rfl rfl rfl (fun _ hz => (by rw [hz]; exact c9)) hZ ?_
      refine EA.tMove 4 rfl (by kernel_rfl) rfl rfl rfl rfl hZ ?_
      refine EA.tIdxS 5 rfl (by kernel_rfl) rfl rfl rfl rfl rfl (by omega) (by omega) hZ ?_
      refine EA.tLoad 6 rfl (by kernel_rfl) rfl rfl rfl rfl (fun _ hz => (by rw [hz]; exact cG1)) hZ ?_
      refine EA.tMove 7 rfl (by kernel_rfl) rfl rfl rfl rfl hZ ?_
      cases g1 with
      | false =>
        refine EA.takeNo 8 rfl (by kernel_rfl) rfl rfl rfl hZ ?_
        refine EA.takeNo 9 rfl (by kernel_rfl) rfl rfl rfl hZ ?_
        refine EA.takeNo 10 rfl (by kernel_rfl) rfl rfl rfl hZ ?_
        refine EA.takeNo 11 rfl (by kernel_rfl) rfl rfl rfl hZ ?_
        refine EA.takeNo 12 rfl (by kernel_rfl) rfl rfl rfl hZ ?_
        refine EA.takeNo 13 rfl (by kernel_rfl) rfl rfl rfl hZ ?_
        refine EA.takeNo 14 rfl (by kernel_rfl) rfl rfl rfl hZ ?_
        refine EA.takeNo 15 rfl (by kernel_rfl) rfl rfl rfl hZ ?_
        refine EA.takeNo 16 rfl (by kernel_rfl) rfl rfl rfl hZ ?_
        refine EA.tPickF 17 rfl (by kernel_rfl) rfl rfl rfl rfl rfl hZ ?_
        refine EA.done (by kernel_rfl) ?_
        (repeat (first | refine EK.region ?_ | refine ER.done ?_ | refine EK.skip ?_ | refine EK.inBlock ?_ | refine ER.move rfl rfl rfl ?_ | refine ER.assign rfl rfl rfl ?_ | refine ER.add (kd := .i64) rfl rfl rfl rfl (i64_in (by omega) (by omega)) ?_ | refine EK.condF rfl ?_))
        exact EK.back (again (i + 1) _ _ (by omega) ⟨rfl, by omega, rfl⟩) ⟨rfl, rfl, rfl, rfl, trivial⟩
      | true =>
        have hni : i < (nums R.log).length := by omega
        obtain ⟨b1, hb1⟩ : ∃ b1, (nums R.log)[i]? = some b1 := ⟨_, List.getElem?_eq_getElem hni⟩
        have em : m1 = nm b1 := hN.2 i b1 _ hb1 hx1 rfl
        subst em
        have hne : nm b1 ≠ nm b := fun e => by
          have e1 := hinj b1 (List.mem_of_getElem? hb1) e
          subst e1
          have hij : i ≠ j := fun e => by
            subst e
            rw [hx] at hx1
            cases hx1
          exact hij (nodup_at (nums_nodup R.log) hb1 hb)
        refine EA.tMove 8 rfl (by kernel_rfl) rfl rfl rfl rfl hZ ?_
        refine EA.tNil 9 rfl (by kernel_rfl) rfl rfl rfl rfl hZ ?_
        refine EA.tField 10 rfl (by kernel_rfl) rfl rfl rfl rfl hZ ?_
        refine EA.tLoad 11 rfl (by kernel_rfl) rfl rfl rfl rfl (fun _ hz => (by rw [hz]; exact c8)) hZ ?_
        refine EA.tMove 12 rfl (by kernel_rfl) rfl rfl rfl rfl hZ ?_
        refine EA.tIdxS 13 rfl (by kernel_rfl) rfl rfl rfl rfl rfl (by omega) (by omega) hZ ?_
        refine EA.tLoadN (vs := nmeL (nm b1)) 14 rfl (by kernel_rfl) rfl rfl rfl rfl rfl (fun _ hz => by rw [hz]; exact rN1) hZ ?_
        refine EA.tLoadN (vs := nmeL (nm b)) 15 rfl (by kernel_rfl) rfl rfl rfl rfl rfl (fun _ hz => by rw [hz]; exact rY) hZ ?_
        refine EA.tEqA2 16 rfl (by kernel_rfl) rfl rfl rfl rfl rfl (nme_ne hne) hZ ?_
        refine EA.tPickT 17 rfl (by kernel_rfl) rfl rfl rfl rfl rfl hZ ?_
        refine EA.done (by kernel_rfl) ?_
        (repeat (first | refine EK.region ?_ | refine ER.done ?_ | refine EK.skip ?_ | refine EK.inBlock ?_ | refine ER.move rfl rfl rfl ?_ | refine ER.assign rfl rfl rfl ?_ | refine ER.add (kd := .i64) rfl rfl rfl rfl (i64_in (by omega) (by omega)) ?_ | refine EK.condF rfl ?_))
        exact EK.back (again (i + 1) _ _ (by omega) ⟨rfl, by omega, rfl⟩) ⟨rfl, rfl, rfl, rfl, trivial⟩
    · obtain rfl : i = q.length := by omega
      clear again
      (repeat (first | refine EK.seq ?_ | refine EK.region ?_ | refine ER.done ?_ | refine ER.move rfl rfl rfl ?_ | refine ER.nilCheck rfl rfl rfl ?_ | refine ER.fieldAddr rfl rfl rfl ?_ | refine ER.cmpF rfl rfl rfl rfl rfl (by first | (dsimp only [cmpP]; omega) | exact rfl | exact Int.le_refl _) ?_ | refine ER.len1 rfl rfl rfl ?_ | refine ER.indexSl rfl rfl rfl rfl (by omega) (by omega) ?_ | refine EK.condF rfl ?_ | refine EK.exit rfl ?_ | refine ER.load1 rfl rfl rfl (by assumption) ?_))
      refine ER.store1 rfl rfl rfl ⟨nofun, nofun⟩ ⟨_, cG⟩ (fG _) (fun x => x) ?_
      have I2 := I.setG hx
      have ly2 := hset_ne h2 ⟨bG, 0 + j * 1, none⟩ (.bool true) (r := y) (fun e => by change bG = y at e; omega)
      rw [ly] at ly2
      have u2 : Upd (fun c => blk (.slice (some ⟨bN, 0, none⟩) q.length kN) = some c \/ blk (.slice (some ⟨bG, 0, none⟩) q.length kG) = some c) h (hset h2 ⟨bG, 0 + j * 1, none⟩ (.bool true)) := upd_then (u1.mono (fun _ _ z => z.elim)) (Upd.hset (T := fun c => blk (.slice (some ⟨bN, 0, none⟩) q.length kN) = some c \/ blk (.slice (some ⟨bG, 0, none⟩) q.length kG) = some c) _ _ _ (.inr rfl)) (fun _ _ z => z)
      change ER _ _ _ _ _ _ _ _ _ _ (hset h2 ⟨bG, 0 + j * 1, none⟩ (.bool true)) _ _
      generalize hset h2 ⟨bG, 0 + j * 1, none⟩ (.bool true) = h3 at I2 ly2 u2 ⊢
      clear I u1 ly c8 c9 rY cG rN cF fN
      have hx2 : (q.set j (true, m0))[j]? = some (true, m0) := List.getElem?_set_self hjl
      have lq : (q.set j (true, m0)).length = q.length := List.length_set
      have I2' : WkI R nm lL lW lY lV h0 W F ⟨q.set j (true, m0), hs, .slice (some ⟨bN, 0, none⟩) (q.set j (true, m0)).length kN, .slice (some ⟨bG, 0, none⟩) q.length kG, .slice (some ⟨bF, 0, none⟩) F.length kF, hv, ov⟩ h3 := by rw [lq]; exact I2
      obtain ⟨bN', eN, rN, fN⟩ := slice_row (f := fun x : Bool × Nme => nmeL x.2) (fun _ => rfl) I2'.nms hx2
      injection eN with eN
      injection eN with eN
      subst eN
      dsimp only at rN
      have c8 : hcell h3 ⟨W, 8, none⟩ = some (.slice (some ⟨bN, 0, none⟩) q.length kN) := hcell_of I2.row rfl
      have rY : TJ.hrow h3 y 0 (nmeL (nm b)) := hrow_block (rest := []) (by rw [List.append_nil]; exact ly2)
      (repeat (first | refine EK.seq ?_ | refine ER.done ?_))
      refine EK.regionAnyL (fun h' => h' = h3) 7 ?_
      have hZ : h3 = h3 := rfl
      refine EA.tMove 0 rfl (by kernel_rfl) rfl rfl rfl rfl hZ ?_
      refine EA.tNil 1 rfl (by kernel_rfl) rfl rfl rfl rfl hZ ?_
      refine EA.tField 2 rfl (by kernel_rfl) rfl rfl rfl rfl hZ ?_
      refine EA.tLoad 3 rfl (by kernel_rfl) rfl rfl rfl rfl (fun _ hz => (by rw [hz]; exact c8)) hZ ?_
      refine EA.tMove 4 rfl (by kernel_rfl) rfl rfl rfl rfl hZ ?_
      refine EA.tLoadN (vs := nmeL (nm b)) 5 rfl (by kernel_rfl) rfl rfl rfl rfl rfl (fun _ hz => by rw [hz]; exact rY) hZ ?_
      refine EA.val 6 rfl (by kernel_rfl) rfl rfl rfl (fun ρ Q X hρ hq => sem_indexSl (hρ _ _ rfl) (hρ _ _ rfl) (by omega) (by omega) hq) hZ ?_
      refine EA.unitL (h' := hsetRow h3 bN (0 + j * 2) (nmeL (nm b))) 7 rfl (by kernel_rfl) rfl rfl rfl (fun ρ Q X hρ hq => sem_storeN (vs := nmeL (nm b)) (hρ _ _ rfl) (hρ _ _ rfl) rfl (by simp [nmeL, OneCell]) (fun j' hj' => ⟨by
        rcases (show j' = 0 \/ j' = 1 by have h2 : j' < 2 := hj'; omega) with rfl | rfl
        · exact ⟨_, rN 0 _ rfl⟩
        · exact ⟨_, rN 1 _ rfl⟩, fN _, fun x => x⟩) hq) ?_
      refine EA.done (by kernel_rfl) ?_
      have I3 := I2'.setN (n := nm b) hx2
      rw [lq, List.set_set] at I3
      have u3 : Upd (fun x => x = bN) h3 (hsetRow h3 bN (0 + j * 2) (nmeL (nm b))) := (Upd.hset (T := fun x => x = bN) h3 ⟨bN, 0 + j * 2, none⟩ _ rfl).trans (Upd.hset (T := fun x => x = bN) _ ⟨bN, 0 + j * 2 + 1, none⟩ _ rfl)
      have ly3 := u3.get ly2 (fun e => by change y = bN at e; omega)
      have uu := upd_then u2 u3 (fun c _ e => .inl (by rw [e]; rfl))
      clear hZ I2 I2' u2 u3 ly2 c8 rY rN fN
      generalize hsetRow h3 bN (0 + j * 2) (nmeL (nm b)) = h4 at I3 ly3 uu ⊢
      have hjF := (take_mid hF).2.2
      obtain ⟨bF', eF, cF, -⟩ := slice_at (f := fun x : Int => Value.int .i64 x) I3.fst hF
      injection eF with eF
      injection eF with eF
      subst eF
      have c10 : hcell h4 ⟨W, 10, none⟩ = some (.slice (some ⟨bF, 0, none⟩) F.length kF) := hcell_of I3.row rfl
      have rY : TJ.hrow h4 y 0 (nmeL (nm b)) := hrow_block (rest := []) (by rw [List.append_nil]; exact ly3)
      (repeat refine EK.seq ?_)
      refine EK.regionAny (fun h' => hcell h' ⟨W, 10, none⟩ = some (.slice (some ⟨bF, 0, none⟩) F.length kF) /\ hcell h' ⟨bF, 0 + j * 1, none⟩ = some (.int .i64 (lookN hs (nm b))) /\ TJ.hrow h' y 0 (nmeL (nm b))) ?_
      have hZ : _ /\ _ /\ _ := And.intro c10 ⟨cF, rY⟩
      refine EA.tMove 0 rfl (by kernel_rfl) rfl rfl rfl rfl hZ ?_
      refine EA.tNil 1 rfl (by kernel_rfl) rfl rfl rfl rfl hZ ?_
      refine EA.tField 2 rfl (by kernel_rfl) rfl rfl rfl rfl hZ ?_
      refine EA.tLoad 3 rfl (by kernel_rfl) rfl rfl rfl rfl (fun _ hz => hz.1) hZ ?_
      refine EA.tMove 4 rfl (by kernel_rfl) rfl rfl rfl rfl hZ ?_
      refine EA.tIdxS 5 rfl (by kernel_rfl) rfl rfl rfl rfl rfl (by omega) (by omega) hZ ?_
      refine EA.tLoad 6 rfl (by kernel_rfl) rfl rfl rfl rfl (fun _ hz => hz.2.1) hZ ?_
      refine EA.tMove 7 rfl (by kernel_rfl) rfl rfl rfl rfl hZ ?_
      refine EA.tLoadN (vs := nmeL (nm b)) 8 rfl (by kernel_rfl) rfl rfl rfl rfl rfl (fun _ hz => hz.2.2) hZ ?_
      refine EA.callR 9 rfl (by kernel_rfl) rfl rfl rfl rfl rfl rfl (begins_ok I3 hhl) ?_
      rintro _ h5 δ5 ⟨rfl, rfl, u5⟩
      have hZ : _ /\ _ /\ _ := And.intro (u5.hcell hZ.1 (fun x => x)) ⟨u5.hcell hZ.2.1 (fun x => x), fun a v hv => u5.hcell (hZ.2.2 a v hv) (fun x => x)⟩
      refine ⟨hZ, ?_⟩
      refine EA.tCmpT 10 rfl (by kernel_rfl) rfl rfl rfl rfl rfl rfl (by first | (dsimp only [cmpP]; omega) | exact rfl | exact Int.le_refl _) hZ ?_
      refine EA.tAssign 11 rfl (by kernel_rfl) rfl rfl rfl rfl hZ ?_
      refine EA.done (by kernel_rfl) ?_
      (repeat refine EK.ret ?_)
      exact EU.ret1 rfl rfl ⟨rfl, rfl, I3.upd0 u5, uu.trans (u5.mono (fun _ _ z => z.elim))⟩
end
end
section
open Go Go.TJ Go.Conc Go.Proofs
abbrev acc0 : List Value := accL 0 0 0 0 0 0 0 false
section
variable {Γ : Type} {main : Bool} {S : Sit Γ} {δ : Ix Γ} {R : Rec} {nm : Nat -> Nme} {lL lW lY lV sP : Value} {h0 h h' : Hp} {W x i t : Nat} {F : List Int} {s : WS} {picks : List Int} {X : Us} {out : Bool}
set_option maxHeartbeats 8000000 in
set_option maxRecDepth 8000 in
theorem wnext_ok (m : RecM R picks lL lW lY lV sP h0) (hlen : R.log.length <= 65536) (I : WkI R nm lL lW lY lV h0 W F s h) (hx : h[x]? = some (wrO W i out t)) (hx0 : h0.size <= x) (ht : t <= R.log.length) :
    CallW Try.prog main (NoS (Γ := Γ)) 90 #[ptr x] h δ (Ret fun v h' δ' => δ' = δ /\ ∃ t', t' <= R.log.length /\ h'[x]? = some (wrO W i out t') /\ WkI R nm lL lW lY lV h0 W F s h' /\ Upd (fun b => b = x) h h' /\
      ((∃ e, ownFrom R i t = e :: ownFrom R i t' /\ e ∈ R.log /\ v = .tuple #[.agg (entL (nums R.log) e).toArray, .bool true]) \/ (ownFrom R i t = [] /\ ownFrom R i t' = [] /\ v = .tuple #[.agg acc0.toArray, .bool false]))) := by
  obtain ⟨aL, kL, eL⟩ := m.log.val
  subst eL
  obtain ⟨y, hy⟩ : ∃ y, y = h.size := ⟨_, rfl⟩
  have hxl := lt_of_get hx
  refine CallW.start (n := 49) rfl rfl ?_
  (repeat (first | refine EK.seq ?_ | refine EK.region ?_ | refine ER.done ?_ | refine EK.block ?_ | refine ER.assign rfl rfl rfl ?_ | refine ER.allocA rfl rfl ?_))
  refine EK.gen (fun h' => WkI R nm (.slice aL R.log.length kL) lW lY lV h0 W F s h' /\ Upd (fun b => b = x) h h' /\ h'[x]? = some (wrO W i out t) /\ h'[y]? = some (accO acc0) /\ y < h'.size) ⟨I.upd0 (Upd.push _ _), Upd.push _ _, get_push _ hx, by rw [hy]; exact get_push_new _ _, by rw [hy, Array.size_push]; omega⟩ ?_
  rw [<- hy]
  have hyx : y ≠ x := by omega
  have hys : h.size <= y := by omega
  have hy0 : h0.size <= y := by have := I.up.size; omega
  clear I hx hy hxl
  rintro h1 ⟨I, u1, hx, ly, hyl⟩
  refine EK.loopInv (fun _ : Nat => [(2, ptr y), (0, ptr x)]) (fun t1 h' δ' => δ' = δ /\ t1 <= R.log.length /\ ownFrom R i t = ownFrom R i t1 /\ WkI R nm (.slice aL R.log.length kL) lW lY lV h0 W F s h' /\ Upd (fun b => b = x) h h' /\ h'[x]? = some (wrO W i out t1) /\ h'[y]? = some (accO acc0) /\ y < h'.size) (fun t1 => R.log.length - t1) t ⟨rfl, rfl, trivial⟩ ⟨rfl, ht, rfl, I, u1, hx, ly, hyl⟩ ?_
  clear I u1 hx ly hyl ht
  rintro t1 h2 δ2 ⟨rfl, ht, hown, I, u2, hx, ly, hyl⟩ again
  have x0 : hcell h2 ⟨x, 0, none⟩ = some (ptr W) := hcell_of hx rfl
  have x1 : hcell h2 ⟨x, 1, none⟩ = some (.int .i64 i) := hcell_of hx rfl
  have x3 : hcell h2 ⟨x, 3, none⟩ = some (.int .i64 t1) := hcell_of hx rfl
  have c2 : hcell h2 ⟨W, 2, none⟩ = some (.slice aL R.log.length kL) := hcell_of I.row rfl
  (repeat refine EK.seq ?_)
  refine EK.regionAny (fun h' => h' = h2) ?_
  have hZ : h2 = h2 := rfl
  refine EA.tMove 0 rfl (by kernel_rfl) rfl rfl rfl rfl hZ ?_
  refine EA.tNil 1 rfl (by kernel_rfl) rfl rfl rfl rfl hZ ?_
  refine EA.tField 2 rfl (by kernel_rfl) rfl rfl rfl rfl hZ ?_
  refine EA.tLoad 3 rfl (by kernel_rfl) rfl rfl rfl rfl (fun _ hz => (by rw [hz]; exact x3)) hZ ?_
  refine EA.tMove 4 rfl (by kernel_rfl) rfl rfl rfl rfl hZ ?_
  refine EA.tNil 5 rfl (by kernel_rfl) rfl rfl rfl rfl hZ ?_
  refine EA.tField 6 rfl (by kernel_rfl) rfl rfl rfl rfl hZ ?_
  refine EA.tLoad 7 rfl (by kernel_rfl) rfl rfl rfl rfl (fun _ hz => (by rw [hz]; exact x0)) hZ ?_
  refine EA.tNil 8 rfl (by kernel_rfl) rfl rfl rfl rfl hZ ?_
  refine EA.tField 9 rfl (by kernel_rfl) rfl rfl rfl rfl hZ ?_
  refine EA.tField 10 rfl (by kernel_rfl) rfl rfl rfl rfl hZ ?_
  refine EA.tLoad 11 rfl (by kernel_rfl) rfl rfl rfl rfl (fun _ hz => (by rw [hz]; exact c2)) hZ ?_
  refine EA.tLen1 12 rfl (by kernel_rfl) rfl rfl rfl rfl hZ ?_
  by_cases hin : t1 < R.log.length
  · obtain ⟨e, he⟩ : ∃ e, R.log[t1]? = some e := ⟨_, List.getElem?_eq_getElem hin⟩
    obtain ⟨bL, ea, hrow, -⟩ := slice_row (entL_len (nums R.log)) (m.log.upd I.up (fun _ _ x => x)) he
    subst ea
    refine EA.tCmpT 13 rfl (by kernel_rfl) rfl rfl rfl rfl rfl rfl (by first | (dsimp only [cmpP]; omega) | exact rfl | exact Int.le_refl _) hZ ?_
    refine EA.done (by kernel_rfl) ?_
    clear hZ
    (repeat (first | refine EK.seq ?_ | refine EK.skip ?_ | refine EK.block ?_ | refine EK.condT rfl ?_))
    refine EK.regionAnyL (fun h' => hcell h' ⟨x, 0, none⟩ = some (ptr W) /\ hcell h' ⟨x, 3, none⟩ = some (.int .i64 t1) /\ hcell h' ⟨W, 2, none⟩ = some (.slice (some ⟨bL, 0, none⟩) R.log.length kL) /\ TJ.hrow h' bL (0 + t1 * 8) (entL (nums R.log) e)) 15 ?_
    have hZ : _ /\ _ /\ _ /\ _ := And.intro x0 ⟨x3, c2, hrow⟩
    refine EA.tMove 0 rfl (by kernel_rfl) rfl rfl rfl rfl hZ ?_
    refine EA.tNil 1 rfl (by kernel_rfl) rfl rfl rfl rfl hZ ?_
    refine EA.tField 2 rfl (by kernel_rfl) rfl rfl rfl rfl hZ ?_
    refine EA.tLoad 3 rfl (by kernel_rfl) rfl rfl rfl rfl (fun _ hz => hz.1) hZ ?_
    refine EA.tNil 4 rfl (by kernel_rfl) rfl rfl rfl rfl hZ ?_
    refine EA.tField 5 rfl (by kernel_rfl) rfl rfl rfl rfl hZ ?_
    refine EA.tField 6 rfl (by kernel_rfl) rfl rfl rfl rfl hZ ?_
    refine EA.tLoad 7 rfl (by kernel_rfl) rfl rfl rfl rfl (fun _ hz => hz.2.2.1) hZ ?_
    refine EA.tMove 8 rfl (by kernel_rfl) rfl rfl rfl rfl hZ ?_
    refine EA.tNil 9 rfl (by kernel_rfl) rfl rfl rfl rfl hZ ?_
    refine EA.tField 10 rfl (by kernel_rfl) rfl rfl rfl rfl hZ ?_
    refine EA.tLoad 11 rfl (by kernel_rfl) rfl rfl rfl rfl (fun _ hz => hz.2.1) hZ ?_
    refine EA.tIdxS 12 rfl (by kernel_rfl) rfl rfl rfl rfl rfl (by omega) (by omega) hZ ?_
    refine EA.tLoadN (vs := entL (nums R.log) e) 13 rfl (by kernel_rfl) rfl rfl rfl rfl rfl (fun _ hz => hz.2.2.2) hZ ?_
    have up := Upd.push (T := fun _ => False) h2 (.cells acc0.toArray 75)
    refine EA.val (v := ptr h2.size) (h' := h2.push (.cells acc0.toArray 75)) 14 rfl (by kernel_rfl) rfl rfl rfl (fun ρ Q X hρ hq => sem_allocA hq) ⟨up.hcell x0 (fun x => x), up.hcell x3 (fun x => x), up.hcell c2 (fun x => x), fun j v hv => up.hcell (hrow j v hv) (fun x => x)⟩ ?_
    refine EA.unitL (h' := h2.push (.cells (entL (nums R.log) e).toArray 75)) 15 rfl (by kernel_rfl) rfl rfl rfl (fun ρ Q X hρ hq => sem_storeN (vs := entL (nums R.log) e) (hρ _ _ rfl) (hρ _ _ rfl) rfl (by simp [entL, accL, OneCell]) (acc_all (vs := acc0) rfl (get_push_new _ _)) (by rw [hsetRow_push (c := acc0) (vs := entL (nums R.log) e) rfl]; exact hq)) ?_
    refine EA.done (by kernel_rfl) ?_
    clear hZ up
    obtain ⟨z, hz⟩ : ∃ z, z = h2.size := ⟨_, rfl⟩
    have hzx : z ≠ x := by have := lt_of_get hx; omega
    have hzy : z ≠ y := by omega
    refine EK.gen (fun h' => WkI R nm (.slice (some ⟨bL, 0, none⟩) R.log.length kL) lW lY lV h0 W F s h' /\ Upd (fun b => b = x) h h' /\ h'[x]? = some (wrO W i out t1) /\ h'[y]? = some (accO acc0) /\ h'[z]? = some (accO (entL (nums R.log) e))) ⟨I.upd0 (Upd.push _ _), u2.trans (Upd.push _ _), get_push _ hx, get_push _ ly, by rw [hz]; exact get_push_new _ _⟩ ?_
    rw [<- hz]
    clear I u2 hx ly hyl x0 x1 x3 c2 hrow hz
    rintro h3 ⟨I, u3, hx, ly, lz⟩
    have x3 : hcell h3 ⟨x, 3, none⟩ = some (.int .i64 t1) := hcell_of hx rfl
    (repeat (first | refine EK.seq ?_ | refine EK.region ?_ | refine ER.move rfl rfl rfl ?_ | refine ER.nilCheck rfl rfl rfl ?_ | refine ER.fieldAddr rfl rfl rfl ?_ | refine ER.load1 rfl rfl rfl (hcell_of (by assumption) rfl) ?_ | refine ER.add (kd := .i64) rfl rfl rfl rfl (i64_in (by omega) (by omega)) ?_))
    refine ER.store1 rfl rfl rfl ⟨nofun, nofun⟩ ⟨_, x3⟩ (hfroz_of hx) (fun x => x) ?_
    have e7 : hset h3 ⟨x, 3, none⟩ (.int .i64 (t1 + 1 : Nat)) = h3.setIfInBounds x (wrO W i out (t1 + 1)) := hset_block hx _
    have I4 := I.other hx hx0 (by decide) (by decide) (by decide) (by decide) (wrO W i out (t1 + 1))
    have u4 : Upd (fun b => b = x) h (h3.setIfInBounds x (wrO W i out (t1 + 1))) := u3.trans (Upd.set _ _ _ rfl)
    have hx4 : (h3.setIfInBounds x (wrO W i out (t1 + 1)))[x]? = some (wrO W i out (t1 + 1)) := get_set_same hx
    have ly4 : (h3.setIfInBounds x (wrO W i out (t1 + 1)))[y]? = some (accO acc0) := by rw [get_set_ne _ (Ne.symm hyx)]; exact ly
    have lz4 : (h3.setIfInBounds x (wrO W i out (t1 + 1)))[z]? = some (accO (entL (nums R.log) e)) := by rw [get_set_ne _ (Ne.symm hzx)]; exact lz
    rw [show ((t1 : Int) + 1) = ((t1 + 1 : Nat) : Int) by omega]
    change ER _ _ _ _ _ _ _ _ _ _ (hset h3 ⟨x, 3, none⟩ (.int .i64 (t1 + 1 : Nat))) _ _
    rw [e7]
    generalize h3.setIfInBounds x (wrO W i out (t1 + 1)) = h4 at I4 u4 hx4 ly4 lz4 ⊢
    clear e7 I u3 hx ly lz x3
    have z0 : hcell h4 ⟨z, 0, none⟩ = some (.int .i64 e.thr) := hcell_of lz4 rfl
    have x1 : hcell h4 ⟨x, 1, none⟩ = some (.int .i64 i) := hcell_of hx4 rfl
    (repeat (first | refine EK.seq ?_ | refine ER.done ?_))
    refine EK.regionAny (fun h' => h' = h4) ?_
    have hZ : h4 = h4 := rfl
    refine EA.tField 0 rfl (by kernel_rfl) rfl rfl rfl rfl hZ ?_
    refine EA.tLoad 1 rfl (by kernel_rfl) rfl rfl rfl rfl (fun _ hz => (by rw [hz]; exact z0)) hZ ?_
    refine EA.tMove 2 rfl (by kernel_rfl) rfl rfl rfl rfl hZ ?_
    refine EA.tNil 3 rfl (by kernel_rfl) rfl rfl rfl rfl hZ ?_
    refine EA.tField 4 rfl (by kernel_rfl) rfl rfl rfl rfl hZ ?_
    refine EA.tLoad 5 rfl (by kernel_rfl) rfl rfl rfl rfl (fun _ hz => (by rw [hz]; exact x1)) hZ ?_
    by_cases hei : e.thr = i
    · refine EA.tCmpT 6 rfl (by kernel_rfl) rfl rfl rfl rfl rfl rfl (by first | (dsimp only [cmpP]; omega) | exact rfl | exact Int.le_refl _) hZ ?_
      refine EA.done (by kernel_rfl) ?_
      rw [ownFrom_step he, if_pos hei] at hown
      clear hZ
      (repeat (first | refine EK.seq ?_ | refine EK.region ?_ | refine EK.condT rfl ?_))
      refine ER.loadN (vs := entL (nums R.log) e) rfl rfl rfl rfl (hrow_block (rest := []) (by rw [List.append_nil]; exact lz4)) ?_
      refine ER.storeN (vs := entL (nums R.log) e) rfl rfl rfl rfl (by simp [entL, accL, OneCell]) (acc_all rfl ly4) ?_
      rw [row_set (c := acc0) (vs := entL (nums R.log) e) ly4 rfl]
      (repeat (first | refine ER.done ?_ | refine ER.assign rfl rfl rfl ?_ | refine EK.ret ?_))
      refine EU.retCell (vs := entL (nums R.log) e) rfl rfl rfl (hrow_block (rest := []) (by rw [List.append_nil]; exact get_set_same ly4)) rfl ⟨rfl, t1 + 1, by omega, by rw [get_set_ne _ hyx]; exact hx4, I4.other ly4 hy0 (by decide) (by decide) (by decide) (by decide) _, upd_then u4 (Upd.set (T := fun b => b = y) _ _ _ rfl) (fun b hb e => by omega), .inl ⟨e, hown, List.mem_of_getElem? he, rfl⟩⟩
    · refine EA.tCmpF 6 rfl (by kernel_rfl) rfl rfl rfl rfl rfl rfl (by first | (dsimp only [cmpP]; omega) | exact rfl | exact Int.le_refl _) hZ ?_
      refine EA.done (by kernel_rfl) ?_
      rw [ownFrom_step he, if_neg hei] at hown
      clear hZ
      (repeat (first | refine EK.skip ?_ | refine EK.inBlock ?_ | refine EK.condF rfl ?_))
      exact EK.back (again (t1 + 1) _ _ (by omega) ⟨rfl, by omega, hown, I4, u4, hx4, ly4, lt_of_get ly4⟩) ⟨rfl, rfl, trivial⟩
  · obtain rfl : t1 = R.log.length := by omega
    refine EA.tCmpF 13 rfl (by kernel_rfl) rfl rfl rfl rfl rfl rfl (by first | (dsimp only [cmpP]; omega) | exact rfl | exact Int.le_refl _) hZ ?_
    refine EA.done (by kernel_rfl) ?_
    rw [ownFrom_end] at hown
    clear hZ
    (repeat (first | refine EK.seq ?_ | refine EK.region ?_ | refine EK.condF rfl ?_ | refine EK.exit rfl ?_))
    refine ER.buildS (cells := acc0.toArray) rfl rfl (by rfl) rfl ?_
    refine ER.storeN (vs := acc0) rfl rfl rfl rfl (by simp [accL, OneCell]) (acc_all rfl ly) ?_
    rw [row_set (c := acc0) (vs := acc0) ly rfl]
    (repeat (first | refine ER.done ?_ | refine ER.assign rfl rfl rfl ?_ | refine EK.ret ?_))
    refine EU.retCell (vs := acc0) rfl rfl rfl (hrow_block (rest := []) (by rw [List.append_nil]; exact get_set_same ly)) rfl ⟨rfl, R.log.length, Nat.le_refl _, by rw [get_set_ne _ hyx]; exact hx, I.other ly hy0 (by decide) (by decide) (by decide) (by decide) _, upd_then u2 (Upd.set (T := fun b => b = y) _ _ _ rfl) (fun b hb e => by omega), .inr ⟨hown, ownFrom_end _ _, rfl⟩⟩
set_option maxHeartbeats 8000000 in
set_option maxRecDepth 8000 in
theorem wleft_ok (m : RecM R picks lL lW lY lV sP h0) (hlen : R.left.length <= 65536) (I : WkI R nm lL lW lY lV h0 W F s h) (hx : h[x]? = some (wrO W i out t)) (_hx0 : h0.size <= x) :
    CallW Try.prog main (NoS (Γ := Γ)) 91 #[ptr x] h δ (Ret fun v h' δ' => δ' = δ /\ Upd (fun _ => False) h h' /\
      ((∃ q, q ∈ R.left /\ q.1 = i /\ v = .tuple #[.agg (leftE (nums R.log) R.val q).toArray, .bool true]) \/ ((∀ q, q ∈ R.left -> q.1 ≠ i) /\ v = .tuple #[.agg acc0.toArray, .bool false]))) := by
  obtain ⟨aV, kV, eV⟩ := m.left.val
  subst eV
  obtain ⟨y, hy⟩ : ∃ y, y = h.size := ⟨_, rfl⟩
  refine CallW.start (n := 47) rfl rfl ?_
  (repeat (first | refine EK.seq ?_ | refine EK.region ?_ | refine ER.done ?_ | refine EK.block ?_ | refine ER.assign rfl rfl rfl ?_ | refine ER.allocA rfl rfl ?_))
  refine EK.gen (fun h' => WkI R nm lL lW lY (.slice aV R.left.length kV) h0 W F s h' /\ Upd (fun _ => False) h h' /\ h'[x]? = some (wrO W i out t) /\ h'[y]? = some (accO acc0)) ⟨I.upd0 (Upd.push _ _), Upd.push _ _, get_push _ hx, by rw [hy]; exact get_push_new _ _⟩ ?_
  rw [<- hy]
  have hys : h.size <= y := by omega
  clear I hx hy
  rintro h1 ⟨I, u1, hx, ly⟩
  have x0 : hcell h1 ⟨x, 0, none⟩ = some (ptr W) := hcell_of hx rfl
  have x1 : hcell h1 ⟨x, 1, none⟩ = some (.int .i64 i) := hcell_of hx rfl
  have c5 : hcell h1 ⟨W, 5, none⟩ = some (.slice aV R.left.length kV) := hcell_of I.row rfl
  refine EK.loopInv (fun j : Nat => [(4, .int .i64 j), (2, ptr y), (0, ptr x)]) (fun j h' δ' => δ' = δ /\ j <= R.left.length /\ h' = h1 /\ ∀ j' q, j' < j -> R.left[j']? = some q -> q.1 ≠ i) (fun j => R.left.length - j) 0 ⟨rfl, rfl, rfl, trivial⟩ ⟨rfl, Nat.zero_le _, rfl, fun j' q hj => by omega⟩ ?_
  rintro j h2 δ2 ⟨rfl, hj, rfl, hno⟩ again
  by_cases hin : j < R.left.length
  · obtain ⟨q, hq⟩ : ∃ q, R.left[j]? = some q := ⟨_, List.getElem?_eq_getElem hin⟩
    obtain ⟨bV, ea, hrow, -⟩ := slice_row (leftE_len (nums R.log) R.val) (m.left.upd I.up (fun _ _ x => x)) hq
    subst ea
    have w0 : hcell h2 ⟨bV, 0 + j * 8 + 0, none⟩ = some (.int .i64 q.1) := hrow 0 _ rfl
    (repeat (first | refine EK.seq ?_ | refine EK.region ?_ | refine ER.done ?_ | refine EK.skip ?_ | refine EK.block ?_ | refine ER.move rfl rfl rfl ?_ | refine ER.nilCheck rfl rfl rfl ?_ | refine ER.fieldAddr rfl rfl rfl ?_ | refine ER.load1 rfl rfl rfl (hcell_of (by assumption) rfl) ?_ | refine ER.cmpT rfl rfl rfl rfl rfl (by first | (dsimp only [cmpP]; omega) | exact rfl | exact Int.le_refl _) ?_ | refine ER.len1 rfl rfl rfl ?_ | refine EK.condT rfl ?_ | refine ER.load1 rfl rfl rfl (by assumption) ?_))
    refine EK.regionAny (fun h' => h' = h2) ?_
    have hZ : h2 = h2 := rfl
    refine EA.tMove 0 rfl (by kernel_rfl) rfl rfl rfl rfl hZ ?_
    refine EA.tNil 1 rfl (by kernel_rfl) rfl rfl rfl rfl hZ ?_
    refine EA.tField 2 rfl (by kernel_rfl) rfl rfl rfl rfl hZ ?_
    refine EA.tLoad 3 rfl (by kernel_rfl) rfl rfl rfl rfl (fun _ hz => (by rw [hz]; exact x0)) hZ ?_
    refine EA.tNil 4 rfl (by kernel_rfl) rfl rfl rfl rfl hZ ?_
    refine EA.tField 5 rfl (by kernel_rfl) rfl rfl rfl rfl hZ ?_
    refine EA.tField 6 rfl (by kernel_rfl) rfl rfl rfl rfl hZ ?_
    refine EA.tLoad 7 rfl (by kernel_rfl) rfl rfl rfl rfl (fun _ hz => (by rw [hz]; exact c5)) hZ ?_
    refine EA.tMove 8 rfl (by kernel_rfl) rfl rfl rfl rfl hZ ?_
    refine EA.tIdxS 9 rfl (by kernel_rfl) rfl rfl rfl rfl rfl (by omega) (by omega) hZ ?_
    refine EA.tField 10 rfl (by kernel_rfl) rfl rfl rfl rfl hZ ?_
    refine EA.tLoad 11 rfl (by kernel_rfl) rfl rfl rfl rfl (fun _ hz => (by rw [hz]; exact w0)) hZ ?_
    refine EA.tMove 12 rfl (by kernel_rfl) rfl rfl rfl rfl hZ ?_
    refine EA.tNil 13 rfl (by kernel_rfl) rfl rfl rfl rfl hZ ?_
    refine EA.tField 14 rfl (by kernel_rfl) rfl rfl rfl rfl hZ ?_
    refine EA.tLoad 15 rfl (by kernel_rfl) rfl rfl rfl rfl (fun _ hz => (by rw [hz]; exact x1)) hZ ?_
    by_cases hqi : q.1 = i
    · refine EA.tCmpT 16 rfl (by kernel_rfl) rfl rfl rfl rfl rfl rfl (by first | (dsimp only [cmpP]; omega) | exact rfl | exact Int.le_refl _) hZ ?_
      refine EA.done (by kernel_rfl) ?_
      clear hZ
      (repeat (first | refine EK.seq ?_ | refine EK.region ?_ | refine ER.move rfl rfl rfl ?_ | refine ER.nilCheck rfl rfl rfl ?_ | refine ER.fieldAddr rfl rfl rfl ?_ | refine ER.load1 rfl rfl rfl (hcell_of (by assumption) rfl) ?_ | refine ER.indexSl rfl rfl rfl rfl (by omega) (by omega) ?_ | refine EK.condT rfl ?_ | refine ER.load1 rfl rfl rfl (by assumption) ?_))
      refine ER.loadN (vs := leftE (nums R.log) R.val q) rfl rfl rfl rfl hrow ?_
      refine ER.storeN (vs := leftE (nums R.log) R.val q) rfl rfl rfl rfl (by simp [leftE, accL, OneCell]) (acc_all rfl ly) ?_
      rw [row_set (c := acc0) (vs := leftE (nums R.log) R.val q) ly rfl]
      (repeat (first | refine ER.done ?_ | refine ER.assign rfl rfl rfl ?_ | refine EK.ret ?_))
      exact EU.retCell (vs := leftE (nums R.log) R.val q) rfl rfl rfl (hrow_block (rest := []) (by rw [List.append_nil]; exact get_set_same ly)) rfl ⟨rfl, upd_then u1 (Upd.set (T := fun b => b = y) _ _ _ rfl) (fun b hb e => by omega), .inl ⟨q, List.mem_of_getElem? hq, hqi, rfl⟩⟩
    · refine EA.tCmpF 16 rfl (by kernel_rfl) rfl rfl rfl rfl rfl rfl (by first | (dsimp only [cmpP]; omega) | exact rfl | exact Int.le_refl _) hZ ?_
      refine EA.done (by kernel_rfl) ?_
      clear hZ
      (repeat (first | refine EK.region ?_ | refine ER.done ?_ | refine EK.skip ?_ | refine EK.inBlock ?_ | refine ER.move rfl rfl rfl ?_ | refine ER.assign rfl rfl rfl ?_ | refine ER.add (kd := .i64) rfl rfl rfl rfl (i64_in (by omega) (by omega)) ?_ | refine EK.condF rfl ?_))
      exact EK.back (again (j + 1) _ _ (by omega) ⟨rfl, by omega, rfl, fun j' q' h1 h2 => by
        by_cases e : j' = j
        · subst e
          rw [hq] at h2; cases h2; exact hqi
        · exact hno j' q' (by omega) h2⟩) ⟨rfl, rfl, rfl, trivial⟩
  · obtain rfl : j = R.left.length := by omega
    (repeat (first | refine EK.seq ?_ | refine EK.region ?_ | refine ER.done ?_ | refine ER.move rfl rfl rfl ?_ | refine ER.nilCheck rfl rfl rfl ?_ | refine ER.fieldAddr rfl rfl rfl ?_ | refine ER.load1 rfl rfl rfl (hcell_of (by assumption) rfl) ?_ | refine ER.cmpF rfl rfl rfl rfl rfl (by first | (dsimp only [cmpP]; omega) | exact rfl | exact Int.le_refl _) ?_ | refine ER.len1 rfl rfl rfl ?_ | refine EK.condF rfl ?_ | refine EK.exit rfl ?_ | refine ER.load1 rfl rfl rfl (by assumption) ?_))
    refine ER.buildS (cells := acc0.toArray) rfl rfl (by rfl) rfl ?_
    refine ER.storeN (vs := acc0) rfl rfl rfl rfl (by simp [accL, OneCell]) (acc_all rfl ly) ?_
    rw [row_set (c := acc0) (vs := acc0) ly rfl]
    (repeat (first | refine ER.done ?_ | refine ER.assign rfl rfl rfl ?_ | refine EK.ret ?_))
    exact EU.retCell (vs := acc0) rfl rfl rfl (hrow_block (rest := []) (by rw [List.append_nil]; exact get_set_same ly)) rfl ⟨rfl, upd_then u1 (Upd.set (T := fun b => b = y) _ _ _ rfl) (fun b hb e => by omega), .inr ⟨fun q hq => by
      obtain ⟨j', hj', rfl⟩ := List.mem_iff_getElem.1 hq
      exact hno j' _ hj' (List.getElem?_eq_getElem hj'), rfl⟩⟩
set_option maxHeartbeats 1000000 in
theorem fell_ok {j : Int} (I : WkI R nm lL lW lY lV h0 W F s h) : CallW Try.prog main S 92 #[ptr W, .int .i64 j] h δ (Ret (Det (.bool false) h δ)) := by
  have c6 : hcell h ⟨W, 6, none⟩ = some nilS := hcell_of I.row rfl
  refine CallW.start (n := 26) rfl rfl ?_
  (repeat (first | refine EK.seq ?_ | refine EK.region ?_ | refine ER.done ?_ | refine EK.block ?_ | refine ER.assign rfl rfl rfl ?_))
  refine EK.loop ?_
  (repeat (first | refine EK.seq ?_ | refine EK.region ?_ | refine ER.done ?_ | refine ER.move rfl rfl rfl ?_ | refine ER.assign rfl rfl rfl ?_ | refine ER.nilCheck rfl rfl rfl ?_ | refine ER.fieldAddr rfl rfl rfl ?_ | refine ER.cmpF rfl rfl rfl rfl rfl (by first | (dsimp only [cmpP]; omega) | exact rfl | exact Int.le_refl _) ?_ | refine ER.len1 rfl rfl rfl ?_ | refine EK.condF rfl ?_ | refine EK.ret ?_ | refine EK.exit rfl ?_ | refine ER.load1 rfl rfl rfl (by assumption) ?_))
  exact EU.ret1 rfl rfl det
end
end
section
open Go Go.TJ Go.Conc Go.Proofs
structure WC (X : Us) (picks : List Int) (R : Rec) (nm : Nat -> Nme) (lL lW lY lV sP : Value) (h0 : Hp) (s : WS) : Prop where
  ok : RecOk X picks R
  m : RecM R picks lL lW lY lV sP h0
  inj : ∀ b b', X.isC b -> X.isC b' -> nm b = nm b' -> b = b'
  beg : ∀ b, X.isC b -> lookN s.hs (nm b) = R.v0 b
  hsl : s.hs.length <= 5000
def WAll (R : Rec) (nm : Nat -> Nme) (lL lW lY lV : Value) (h0 : Hp) (W : Nat) (s : WS) (h : Hp) : Prop := ∃ q, WkI R nm lL lW lY lV h0 W ((nums R.log).map R.v0) { s with q := q } h /\ Named R nm q
def WT (s : WS) (x b : Nat) : Prop := b = x \/ blk s.nv = some b \/ blk s.gv = some b
structure WIn (R : Rec) (nm : Nat -> Nme) (lL lW lY lV : Value) (h0 : Hp) (W : Nat) (s : WS) {A : Type} (pf : Pr A) (x i : Nat) (p : Pr A) (l : List Ev) (o : List A) (h : Hp) : Prop where
  all : WAll R nm lL lW lY lV h0 W s h
  at_ : WAt R pf x W i p l o h
  x0 : h0.size <= x
structure WOu (R : Rec) (nm : Nat -> Nme) (lL lW lY lV : Value) (h0 : Hp) (W : Nat) (s : WS) (x i : Nat) (h : Hp) : Prop where
  all : WAll R nm lL lW lY lV h0 W s h
  out : WOut R x W i h
  x0 : h0.size <= x
section
variable {Γ : Type} {main : Bool} {S : Sit Γ} {δ : Ix Γ} {R : Rec} {nm : Nat -> Nme} {lL lW lY lV sP : Value} {h0 h h' : Hp} {W x i t : Nat} {s : WS} {picks : List Int} {X : Us} {A : Type} {pf p : Pr A} {r : Rq} {k : Int -> Pr A} {l : List Ev} {o : List A}
theorem WAll.upd0 (a : WAll R nm lL lW lY lV h0 W s h) (u : Upd (fun _ => False) h h') : WAll R nm lL lW lY lV h0 W s h' := by
  obtain ⟨q, I, N⟩ := a
  exact ⟨q, I.upd0 u, N⟩
theorem WIn.upd0 (w : WIn R nm lL lW lY lV h0 W s pf x i p l o h) (u : Upd (fun _ => False) h h') : WIn R nm lL lW lY lV h0 W s pf x i p l o h' := by
  obtain ⟨a, ⟨⟨t, h1, h2, h3⟩, g⟩, x0⟩ := w
  exact ⟨a.upd0 u, ⟨⟨t, h1, h2, u.get h3 (fun x => x)⟩, g⟩, x0⟩
theorem WOu.upd0 (w : WOu R nm lL lW lY lV h0 W s x i h) (u : Upd (fun _ => False) h h') : WOu R nm lL lW lY lV h0 W s x i h' := by
  obtain ⟨a, ⟨⟨t, h1, h2, h3⟩, g⟩, x0⟩ := w
  exact ⟨a.upd0 u, ⟨⟨t, h1, h2, u.get h3 (fun x => x)⟩, g⟩, x0⟩
theorem WAll.lt (a : WAll R nm lL lW lY lV h0 W s h) : ∀ b, blk s.nv = some b \/ blk s.gv = some b -> b < h.size := by
  obtain ⟨q, I, N⟩ := a
  exact fun b hb => hb.elim I.nms.lt I.giv.lt
theorem WAll.ge (a : WAll R nm lL lW lY lV h0 W s h) : ∀ b, blk s.nv = some b \/ blk s.gv = some b -> h0.size <= b := by
  obtain ⟨q, I, N⟩ := a
  exact fun b hb => hb.elim (I.n1 b) (I.n2 b)
theorem WIn.wt (w : WIn R nm lL lW lY lV h0 W s pf x i p l o h) : ∀ b, WT s x b -> h0.size <= b /\ b < h.size := by
  obtain ⟨t, h1, h2, h3⟩ := w.at_.at_
  rintro b (rfl | hb)
  · exact ⟨w.x0, lt_of_get h3⟩
  · exact ⟨w.all.ge b hb, w.all.lt b hb⟩
theorem WOu.wt (w : WOu R nm lL lW lY lV h0 W s x i h) : ∀ b, WT s x b -> h0.size <= b /\ b < h.size := by
  obtain ⟨t, h1, h2, h3⟩ := w.out.at_
  rintro b (rfl | hb)
  · exact ⟨w.x0, lt_of_get h3⟩
  · exact ⟨w.all.ge b hb, w.all.lt b hb⟩
theorem WIn.cases (w : WIn R nm lL lW lY lV h0 W s pf x i (.step r k) l o h) : (∃ v l', l = evOf i r v :: l' /\ Goes i (k v) l' o pf) \/ (l = [] /\ o = [] /\ pf = .step r k) := by
  have g := w.at_.goes
  generalize hp : Pr.step r k = p at g
  cases g with
  | nil => exact .inr ⟨rfl, rfl, rfl⟩
  | emit => cases hp
  | step v g =>
    injection hp with h1 h2
    subst h1 h2
    exact .inl ⟨v, _, rfl, g⟩
theorem does_out {op : Int} {n : Nme} {a c : Value} (hx : h[x]? = some (wrO W i true t)) :
    CallW Try.prog main (NoS (Γ := Γ)) 154 #[ptr x, .int .i8 op, nmeV n, a, c] h δ (Ret fun v h' δ' => δ' = δ /\ v = .agg acc0.toArray /\ Upd (fun _ => False) h h') := by
  refine CallW.start (n := 122) rfl rfl ?_
  (repeat (first | refine EK.seq ?_ | refine EK.region ?_ | refine ER.done ?_ | refine ER.move rfl rfl rfl ?_ | refine ER.nilCheck rfl rfl rfl ?_ | refine ER.fieldAddr rfl rfl rfl ?_ | refine ER.boxA rfl rfl rfl ?_ | refine ER.allocA rfl rfl ?_))
  simp only [Array.size_push]
  have u0 : Upd (fun _ => False) h ((h.push (nmeO n)).push (accO acc0)) := (Upd.push _ _).trans (Upd.push _ _)
  have gx : ((h.push (nmeO n)).push (accO acc0))[x]? = some (wrO W i true t) := get_push _ (get_push _ hx)
  have gy : ((h.push (nmeO n)).push (accO acc0))[h.size + 1]? = some (accO acc0) := by
    have := get_push_new (h.push (nmeO n)) (accO acc0)
    rwa [Array.size_push] at this
  refine ER.gen (fun h' => Upd (fun _ => False) h h' /\ h'[x]? = some (wrO W i true t) /\ h'[h.size + 1]? = some (accO acc0)) ⟨u0, gx, gy⟩ ?_
  clear u0 gx gy
  rintro h1 ⟨u0, gx, gy⟩
  have x2 : hcell h1 ⟨x, 2, none⟩ = some (.bool true) := hcell_of gx rfl
  (repeat (first | refine EK.seq ?_ | refine EK.region ?_ | refine ER.done ?_ | refine ER.load1 rfl rfl rfl (hcell_of (by assumption) rfl) ?_ | refine EK.condT rfl ?_))
  refine ER.buildS (cells := acc0.toArray) rfl rfl (by rfl) rfl ?_
  refine ER.storeN (vs := acc0) rfl rfl rfl rfl (by simp [accL, OneCell]) (acc_all rfl gy) ?_
  rw [row_set (c := acc0) (vs := acc0) gy rfl]
  (repeat (first | refine ER.done ?_ | refine EK.ret ?_))
  exact EU.retCell1 (vs := acc0) rfl rfl rfl (hrow_block (rest := []) (by rw [List.append_nil]; exact get_set_same gy)) ⟨rfl, rfl, upd_then u0 (Upd.set (T := fun b => b = h.size + 1) _ _ _ rfl) (fun b hb e => by omega)⟩
end
end
end Go.Proofs.Ytcpcdnkemobneaa
