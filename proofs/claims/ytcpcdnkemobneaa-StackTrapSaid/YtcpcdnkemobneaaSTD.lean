/- Steps of the walk and of the plain law (GU to TrapLaw). Conditions: as each lemma says. -/
import Derived.Laws.BitsAllLaws
import Derived.Test.YtcpcdnkemobneaaSTC
namespace Go.Proofs.Ytcpcdnkemobneaa
section
open Go Go.TJ Go.Conc Go.Proofs
class HasE (X : Us) where
  E : Nat -> X.U -> X.U -> Prop
structure GC (A M : Type) where
  isC : Nat -> Prop
  P : Nat -> Pr A
  v0 : Nat -> Int
  Dom : M -> Nat -> Prop
  I : List (Nat × A) -> M -> Hp -> Prop
  JV : (Nat -> Int) -> Prop
def UsG {A M : Type} (c : GC A M) : Us where
  U := List (Nat × A) × M
  isC := c.isC
  Dom := fun u b => c.Dom u.2 b
  I := fun u h => c.I u.1 u.2 h
  J := fun l u v => (∃ S, GReach c.P c.v0 l u.1 S v) /\ c.JV v
  V := fun i u u' => toldOf i u'.1 = toldOf i u.1
  Q := fun i l s u => ∃ p, Goes i (c.P i) l (toldOf i u.1) p /\ (match s with | .born => toldOf i u.1 = [] | .stands r => ∃ k, p = .step r k | .over => p = .done)
instance {A M : Type} (c : GC A M) : HasE (UsG c) := ⟨fun i u u' => ∃ es : List A, (show List (Nat × A) × M from u').1 = (show List (Nat × A) × M from u).1 ++ es.map fun a => (i, a)⟩
section
variable {A M : Type} {c : GC A M} {i : Nat} {γ : GG (UsG c)} {u : (UsG c).U} {L : List (Nat × Obj)} {h : Hp}
theorem usG_ok (loc : ∀ g m h h', (∀ b, c.Dom m b -> h'[b]? = h[b]?) -> c.I g m h -> c.I g m h') (dis : ∀ m b, c.Dom m b -> ¬ c.isC b) : (UsG c).Ok where
  vrefl := fun _ _ => rfl
  vtrans := fun i a b d h1 h2 => (show toldOf i d.1 = toldOf i b.1 from h2).trans h1
  loc := fun u h h' hb I => loc u.1 u.2 h h' hb I
  stab := fun i l s u u' hv hq => by
    have hv' : toldOf i u'.1 = toldOf i u.1 := hv
    show ∃ p, Goes i (c.P i) l (toldOf i u'.1) p /\ _
    rw [hv']
    exact hq
  dis := fun u b hd hc => dis u.2 b hd hc
theorem usG_prog : Prog (UsG c) c.P (fun u i => toldOf i u.1) where
  Q := fun _ _ _ _ => Iff.rfl
  V := fun _i _u _u' hv => hv
theorem erefl {i : Nat} {u : (UsG c).U} : HasE.E (X := UsG c) i u u := ⟨[], by simp⟩
theorem acc_over' {U : Type} (p : PS U) (i : Nat) (h : p.st i = .over) : p.acc i = p := by
  unfold PS.acc; rw [h]
theorem usG_j (h0 : ∀ i, NoEm (c.P i)) (T : Thr (UsG c) i γ u L h) {p : Pr A} (hg : Goes i (c.P i) (ownOf i (γ.p.acc i).log) (toldOf i u.1) p) (hp : NoEm p) (he : HasE.E (X := UsG c) i γ.p.u u) (hv : c.JV (γ.p.acc i).val) : (UsG c).J (γ.p.acc i).log u (γ.p.acc i).val := by
  obtain ⟨⟨S, R⟩, -⟩ := T.J
  obtain ⟨es, he'⟩ := he
  have he : u.1 = γ.p.u.1 ++ es.map fun a => (i, a) := he'
  rw [he, toldOf_app, toldOf_own] at hg
  have stay : (γ.p.acc i) = γ.p -> (UsG c).J (γ.p.acc i).log u (γ.p.acc i).val := fun e => by
    rw [e] at hg hv ⊢
    have g1 := R.goes h0 i
    have e2 := (g1.1.det hg g1.2 hp).1
    have e3 : es = [] := List.append_cancel_left (e2.trans (List.append_nil _).symm)
    rw [e3] at he
    refine ⟨⟨S, ?_⟩, hv⟩
    show GReach c.P c.v0 γ.p.log u.1 S γ.p.val
    rw [he]; simpa using R
  obtain ⟨q, hq, hs⟩ := T.Q i
  cases hst : γ.p.st i with
  | born => exact stay (acc_born _ _ hst)
  | over => exact stay (acc_over' _ _ hst)
  | stands r =>
    rw [hst] at hs
    obtain ⟨k, rfl⟩ := hs
    rw [acc_stands _ _ hst] at hg hv ⊢
    have e1 : ownOf i (γ.p.log ++ [evOf i r (γ.p.val r.b)]) = ownOf i γ.p.log ++ [evOf i r (γ.p.val r.b)] := by simp [ownOf, evOf]
    dsimp only at hg hv ⊢
    rw [e1] at hg
    have R2 := R.next h0 hq hp hg
    refine ⟨⟨ut S i p, ?_⟩, hv⟩
    rw [<- he] at R2
    exact R2
end
end
section
open Go Go.TJ Go.Proofs
def itemsL (i : Nat) (B : Nat -> Nat) : List Value := (List.range i).flatMap fun j => [ptr (B (4 + 2 * j)), ptr (B (5 + 2 * j))]
theorem itemsL_len (B : Nat -> Nat) : ∀ i, (itemsL i B).length = i * 2
  | 0 => rfl
  | i + 1 => by
    have := itemsL_len B i
    unfold itemsL at *
    rw [List.range_succ, List.flatMap_append, List.length_append, this]
    simp; omega
theorem itemsL_succ (i : Nat) (B : Nat -> Nat) : itemsL (i + 1) B = itemsL i B ++ [ptr (B (4 + 2 * i)), ptr (B (5 + 2 * i))] := by
  unfold itemsL
  rw [List.range_succ, List.flatMap_append]
  simp
theorem itemsL_congr {i : Nat} {B B' : Nat -> Nat} (h : ∀ k, 4 <= k -> k < 4 + 2 * i -> B k = B' k) : itemsL i B = itemsL i B' := by
  unfold itemsL
  rw [List.flatMap_def, List.flatMap_def]
  congr 1
  refine List.map_congr_left fun j hj => ?_
  have := List.mem_range.mp hj
  rw [h _ (by omega) (by omega), h _ (by omega) (by omega)]
theorem itemsL_get {n : Nat} (B : Nat -> Nat) : ∀ {i : Nat}, i < n -> (itemsL n B)[2 * i]? = some (ptr (B (4 + 2 * i))) /\ (itemsL n B)[2 * i + 1]? = some (ptr (B (5 + 2 * i))) := by
  induction n with
  | zero => intro i hi; omega
  | succ n ih =>
    intro i hi
    rw [itemsL_succ]
    by_cases h : i < n
    · have h1 := itemsL_len B n
      rw [List.getElem?_append_left (by omega), List.getElem?_append_left (by omega)]
      exact ih h
    · obtain rfl : i = n := by omega
      have h1 := itemsL_len B i
      rw [List.getElem?_append_right (by omega), List.getElem?_append_right (by omega), h1, show 2 * i - i * 2 = 0 by omega, show 2 * i + 1 - i * 2 = 1 by omega]
      exact ⟨rfl, rfl⟩
def stkM (n : Nat) (B : Nat -> Nat) (v : Nat -> Int) : Mem Nat := ⟨fun k => k < 6 + 2 * n, B, fun k =>
  if k = 0 then .cells #[ptr (B 2), ptr (B 3), .slice (some ⟨B 1, 0, none⟩) (n + 1) (n + 1)] 224 (0, 0)
  else if k = 1 then .cells (itemsL (n + 1) B).toArray 228 (0, 0)
  else cellO (v k)⟩
structure NewS (h0 : Hp) (n : Nat) (M : Mem Nat) (h' : Hp) : Prop where
  upd : Upd (fun _ => False) h0 h'
  rep : Rep h' M
  ok : ∀ k, M.ok k ↔ k < 4
  o0 : M.O 0 = .cells #[ptr (M.B 2), ptr (M.B 3), .slice (some ⟨M.B 1, 0, none⟩) (n + 1) (n + 1)] 224 (0, 0)
  o1 : M.O 1 = .cells (List.replicate ((n + 1) * 2) (Value.pointer none)).toArray 228 (0, 0)
  o2 : M.O 2 = cellO 0
  o3 : M.O 3 = cellO 1
  above : ∀ k, M.ok k -> h0.size <= M.B k
structure NewSI (h0 : Hp) (n : Nat) (T B2 B3 B1 : Nat) (M : Mem Nat) (i : Nat) (h' : Hp) : Prop where
  upd : Upd (fun _ => False) h0 h'
  rep : Rep h' M
  ok : ∀ k, M.ok k ↔ k < 4 + 2 * i
  b : M.B 0 = T /\ M.B 1 = B1 /\ M.B 2 = B2 /\ M.B 3 = B3
  o0 : M.O 0 = .cells #[ptr B2, ptr B3, .slice (some ⟨B1, 0, none⟩) (n + 1) (n + 1)] 224 (0, 0)
  o1 : M.O 1 = .cells (itemsL i M.B ++ List.replicate ((n + 1 - i) * 2) (Value.pointer none)).toArray 228 (0, 0)
  o2 : M.O 2 = cellO 0
  o3 : M.O 3 = cellO 1
  on : ∀ j, j < i -> M.O (4 + 2 * j) = cellO (((j + 1) % (n + 1) : Nat) : Int) /\ M.O (5 + 2 * j) = cellO 0
  above : ∀ k, M.ok k -> h0.size <= M.B k
theorem NewSI.step {h0 : Hp} {n T B2 B3 B1 : Nat} {M : Mem Nat} {i : Nat} {h : Hp} {c : Int} (x : NewSI h0 n T B2 B3 B1 M i h) (hi : i < n + 1) (hc : c = (((i + 1) % (n + 1) : Nat) : Int)) :
    ∃ M', NewSI h0 n T B2 B3 B1 M' (i + 1) (hsetRow ((h.push (cellO c)).push (cellO 0)) B1 (0 + i * 2) [ptr h.size, ptr (h.size + 1)]) := by
  have r1 := ((x.rep.put (4 + 2 * i) (cellO c)).put (5 + 2 * i) (cellO 0))
  rw [Array.size_push] at r1
  obtain ⟨M1, hM1⟩ : ∃ M1 : Mem Nat, M1 = (M.put (4 + 2 * i) h.size (cellO c)).put (5 + 2 * i) (h.size + 1) (cellO 0) := ⟨_, rfl⟩
  rw [<- hM1] at r1
  have bOld : ∀ k, k < 4 + 2 * i -> M1.B k = M.B k /\ M1.O k = M.O k := fun k hk => by
    rw [hM1]
    show ut (ut M.B _ _) _ _ k = _ /\ ut (ut M.O _ _) _ _ k = _
    rw [ut_ne _ _ (by omega), ut_ne _ _ (by omega), ut_ne _ _ (by omega), ut_ne _ _ (by omega)]
    exact ⟨rfl, rfl⟩
  have bN : M1.B (4 + 2 * i) = h.size /\ M1.O (4 + 2 * i) = cellO c := by
    rw [hM1]
    show ut (ut M.B _ _) _ _ _ = _ /\ ut (ut M.O _ _) _ _ _ = _
    rw [ut_ne _ _ (by omega), ut_same, ut_ne _ _ (by omega), ut_same]
    exact ⟨rfl, rfl⟩
  have bV : M1.B (5 + 2 * i) = h.size + 1 /\ M1.O (5 + 2 * i) = cellO 0 := by
    rw [hM1]
    exact ⟨ut_same _ _ _, ut_same _ _ _⟩
  have ok1 : ∀ k, M1.ok k ↔ k < 4 + 2 * (i + 1) := fun k => by
    rw [hM1]
    show (k = _ \/ k = _ \/ M.ok k) ↔ _
    rw [x.ok]; omega
  have hlen : (itemsL i M.B).length = i * 2 := itemsL_len _ _
  have o1' : M1.O 1 = .cells (itemsL i M.B ++ List.replicate ((n + 1 - i) * 2) (Value.pointer none)).toArray 228 (0, 0) := (bOld 1 (by omega)).2.trans x.o1
  have hb1 : M1.B 1 = B1 := (bOld 1 (by omega)).1.trans x.b.2.1
  have hB1 : ((h.push (cellO c)).push (cellO 0))[B1]? = some (.cells (itemsL i M.B ++ List.replicate ((n + 1 - i) * 2) (Value.pointer none)).toArray 228 (0, 0)) := hb1 ▸ r1.get ((ok1 1).2 (by omega)) o1'
  have hsz := x.upd.size
  have hge : h0.size <= B1 := x.b.2.1 ▸ x.above 1 ((x.ok 1).2 (by omega))
  rw [hsetRow_block [ptr h.size, ptr (h.size + 1)] (0 + i * 2) _ _ hB1 (by simp [hlen]; omega)]
  obtain ⟨on, hon⟩ : ∃ on : Obj, on = .cells (List.take (0 + i * 2) (itemsL i M.B ++ List.replicate ((n + 1 - i) * 2) (Value.pointer none)) ++ [ptr h.size, ptr (h.size + 1)] ++ List.drop (0 + i * 2 + [ptr h.size, ptr (h.size + 1)].length) (itemsL i M.B ++ List.replicate ((n + 1 - i) * 2) (Value.pointer none))).toArray 228 (0, 0) := ⟨_, rfl⟩
  rw [<- hon]
  have r2 := r1.set ((ok1 1).2 (by omega)) on
  rw [hb1] at r2
  refine ⟨_, ((x.upd.trans ((Upd.push _ _).trans (Upd.push _ _))).over (Upd.set (T := fun b => b = B1) _ _ _ rfl) (fun b hb => by omega)), r2, ok1, ⟨(bOld 0 (by omega)).1.trans x.b.1, hb1, (bOld 2 (by omega)).1.trans x.b.2.2.1, (bOld 3 (by omega)).1.trans x.b.2.2.2⟩, ?_, ?_, ?_, ?_, fun j hj => ?_, fun k hk => ?_⟩
  · show ut M1.O 1 on 0 = _
    rw [ut_ne _ _ (by omega), (bOld 0 (by omega)).2]; exact x.o0
  · show ut M1.O 1 on 1 = Obj.cells (itemsL (i + 1) M1.B ++ List.replicate ((n + 1 - (i + 1)) * 2) (Value.pointer none)).toArray 228 (0, 0)
    rw [ut_same, hon, itemsL_succ, bN.1, bV.1, itemsL_congr (B := M1.B) (B' := M.B) (i := i) (fun k _ hk => (bOld k hk).1)]
    have hd : ∀ q, List.drop ((itemsL i M.B).length + 2) (itemsL i M.B ++ List.replicate q (Value.pointer none)) = List.replicate (q - 2) (Value.pointer none) := fun q => by
      rw [List.drop_append, List.drop_eq_nil_of_le (by omega), List.nil_append, Nat.add_sub_cancel_left, List.drop_replicate]
    rw [show 0 + i * 2 = (itemsL i M.B).length by omega, List.take_left' rfl]
    show Obj.cells (itemsL i M.B ++ [ptr h.size, ptr (h.size + 1)] ++ List.drop ((itemsL i M.B).length + 2) _).toArray _ _ = _
    rw [hd, show (n + 1 - i) * 2 - 2 = (n + 1 - (i + 1)) * 2 by omega]
  · show ut M1.O 1 on 2 = _
    rw [ut_ne _ _ (by omega), (bOld 2 (by omega)).2]; exact x.o2
  · show ut M1.O 1 on 3 = _
    rw [ut_ne _ _ (by omega), (bOld 3 (by omega)).2]; exact x.o3
  · show ut M1.O 1 on (4 + 2 * j) = _ /\ ut M1.O 1 on (5 + 2 * j) = _
    rw [ut_ne _ _ (by omega), ut_ne _ _ (by omega)]
    by_cases e : j = i
    · subst e; rw [bN.2, bV.2, hc]; exact ⟨rfl, rfl⟩
    · rw [(bOld (4 + 2 * j) (by omega)).2, (bOld (5 + 2 * j) (by omega)).2]; exact x.on j (by omega)
  · have hk' := (ok1 k).1 hk
    show h0.size <= M1.B k
    rcases (show k < 4 + 2 * i \/ k = 4 + 2 * i \/ k = 5 + 2 * i by omega) with h1 | h1 | h1
    · rw [(bOld k h1).1]; exact x.above k ((x.ok k).2 h1)
    · subst h1; rw [bN.1]; exact hsz
    · subst h1; rw [bV.1]; omega
structure RSS where
  i : Nat
  M : Mem Nat
theorem EA.gen {Γ : Type} {P : Program} {main : Bool} {S : Sit Γ} {f : FuncId} {n : Nat} {ops : Array Oper} {Z : Hp -> Prop} {z m : Nat} {listed : Array Bool} {k : List Item} {env : Env} {ds : List Deferred} {h : Hp} {δ : Ix Γ} {R : Post Γ} (F : Hp -> Prop) (hF : F h) (hn : ∀ h', F h' -> EA P main S f n ops Z z m listed k env ds h' δ R) : EA P main S f n ops Z z m listed k env ds h δ R := hn h hF
theorem news_of {h hh : Hp} {n b1 b2 b3 : Nat} (u : Upd (fun _ => False) h hh) (g1 : hh[b1]? = some (.cells (List.replicate ((n + 1) * 2) (Value.pointer none)).toArray 228 (0, 0))) (g2 : hh[b2]? = some (cellO 0)) (g3 : hh[b3]? = some (cellO 1)) (d : b1 ≠ b2 /\ b1 ≠ b3 /\ b2 ≠ b3) (l : h.size <= b1 /\ h.size <= b2 /\ h.size <= b3) :
    NewS h n ⟨fun k => k < 4, fun k => if k = 0 then hh.size else if k = 1 then b1 else if k = 2 then b2 else b3, fun k => if k = 0 then .cells #[ptr b2, ptr b3, .slice (some ⟨b1, 0, none⟩) (n + 1) (n + 1)] 224 (0, 0) else if k = 1 then .cells (List.replicate ((n + 1) * 2) (Value.pointer none)).toArray 228 (0, 0) else if k = 2 then cellO 0 else cellO 1⟩
      (hh.push (.cells #[ptr b2, ptr b3, .slice (some ⟨b1, 0, none⟩) (n + 1) (n + 1)] 224)) := by
  have l1 := lt_of_get g1
  have l2 := lt_of_get g2
  have l3 := lt_of_get g3
  have hs := u.size
  refine ⟨u.trans (Upd.push _ _), ⟨fun k hk => ?_, fun i j hi hj e => ?_⟩, fun k => Iff.rfl, rfl, rfl, rfl, rfl, fun k hk => ?_⟩
  · have hk' : k < 4 := hk
    rcases (show k = 0 \/ k = 1 \/ k = 2 \/ k = 3 by omega) with rfl | rfl | rfl | rfl
    · exact get_push_new _ _
    · exact get_push _ g1
    · exact get_push _ g2
    · exact get_push _ g3
  · have hi' : i < 4 := hi
    have hj' : j < 4 := hj
    dsimp only at e
    (repeat' split at e) <;> omega
  · have hk' : k < 4 := hk
    dsimp only
    (repeat' split) <;> omega
section
variable {Γ : Type} {main : Bool} {S : Sit Γ} {h : Hp} {δ : Ix Γ}
set_option maxRecDepth 8000 in
set_option maxHeartbeats 4000000 in
theorem stknew_ok {n : Nat} (hn1 : 1 <= n) (hn : n <= 4096) (hF : ∀ b o, h.size <= b -> ¬ S.still δ.g ⟨b, o, none⟩) :
    CallW Try.prog main S 25 #[.int .i64 n] h δ (Ret fun w h' δ' => δ' = δ /\ Upd (fun _ => False) h h' /\ ∃ B, w = .tuple #[ptr (B 0), .int .i64 0] /\ Rep h' (stkM n B fun k => if k = 2 then 0 else if k = 3 then 1 else if k % 2 = 0 then (((k - 4) / 2 + 1) % (n + 1) : Nat) else 0) /\ ∀ k, k < 6 + 2 * n -> h.size <= B k) := by
  refine CallW.start (n := 44) rfl rfl ?_
  (repeat (first | refine EK.seq ?_ | refine EK.region ?_ | refine ER.done ?_ | refine EK.skip ?_ | refine ER.move rfl rfl rfl ?_ | refine ER.assign rfl rfl rfl ?_ | refine ER.pickF rfl rfl rfl rfl ?_ | refine ER.cmpF rfl rfl rfl rfl rfl (by first | (dsimp only [cmpP]; omega) | exact rfl | exact Int.le_refl _) ?_ | refine EK.condF rfl ?_))
  refine EK.regionAnyM (fun M : Mem Nat => [(4, ptr (M.B 0)), (0, .int .i64 n)]) (fun M h' δ' => δ' = δ /\ NewS h n M h') (fun _ => True) 1000000 (fun fin => ?_) ?_
  · have hZ := trivial
    refine EA.tMove 2 rfl (by kernel_rfl) rfl rfl rfl rfl hZ ?_
    refine EA.tAdd (kd := .i64) 3 rfl (by kernel_rfl) rfl rfl rfl rfl rfl (i64_in (by omega) (by omega)) hZ ?_
    refine EA.alt2 0 4 (by kernel_rfl) ?_ ?_
    · refine EAi.callD rfl rfl rfl rfl rfl rfl rfl (cnewS (hF _ _ (Nat.le_refl _))) trivial ?_
      refine EA.alt2 1 4 (by kernel_rfl) ?_ ?_
      · refine EAi.callD rfl rfl rfl rfl rfl rfl rfl (cnewS (hF _ _ (by simp))) trivial ?_
        have p3 := push3 h (cellO 0) (cellO 1) (.cells (List.replicate ((n + 1) * 2) (Value.pointer none)).toArray 228)
        refine EA.val (v := .slice (some ⟨((h.push (cellO 0)).push (cellO 1)).size, 0, none⟩) (n + 1) (n + 1)) (h' := ((h.push (cellO 0)).push (cellO 1)).push (.cells (List.replicate ((n + 1) * 2) (Value.pointer none)).toArray 228)) 4 rfl (by kernel_rfl) rfl rfl rfl (fun ρ Q X hρ hq => sem_makeSlice2 (m := n + 1) (u := Value.pointer none) (hρ _ _ rfl) (hρ _ _ rfl) (by omega) (by omega) (by omega) rfl hq) trivial ?_
        simp only [Array.size_push]
        refine EA.gen (fun hh => Upd (fun _ => False) h hh /\ hh[h.size + 2]? = some (.cells (List.replicate ((n + 1) * 2) (Value.pointer none)).toArray 228 (0, 0)) /\ hh[h.size]? = some (cellO 0) /\ hh[h.size + 1]? = some (cellO 1)) ⟨p3.1, p3.2.2.2.2, p3.2.2.1, p3.2.2.2.1⟩ ?_
        rintro hh ⟨u, g1, g2, g3⟩
        refine EA.val (v := .agg #[ptr (h.size), ptr (h.size + 1), .slice (some ⟨h.size + 2, 0, none⟩) (n + 1) (n + 1)]) (h' := hh) 5 rfl (by kernel_rfl) rfl rfl rfl (fun ρ Q X hρ hq => sem_buildS hρ rfl rfl hq) trivial ?_
        refine EA.val (v := ptr hh.size) (h' := hh.push (.cells #[ptr (h.size), ptr (h.size + 1), .slice (some ⟨h.size + 2, 0, none⟩) (n + 1) (n + 1)] 224)) 6 rfl (by kernel_rfl) rfl rfl rfl (fun ρ Q X hρ hq => by
          show SemW _ _ (Instr.box _ (ρ _) >>= fun v => pure (.value v)) _ _ Q X
          rw [hρ _ (.agg #[ptr (h.size), ptr (h.size + 1), .slice (some ⟨h.size + 2, 0, none⟩) (n + 1) (n + 1)]) rfl]
          exact ⟨thawed, hq⟩) trivial ?_
        refine EA.tAssign 7 rfl (by kernel_rfl) rfl rfl rfl rfl hZ ?_
        refine EA.done (by kernel_rfl) ?_
        exact EK.sub (e := [(4, ptr hh.size), (0, .int .i64 n)]) ⟨rfl, rfl, trivial⟩ (fin _ _ _ ⟨rfl, news_of u g1 g2 g3 ⟨by omega, by omega, by omega⟩ ⟨by omega, by omega, by omega⟩⟩)
      · refine EAi.val (v := .slice (some ⟨(h.push (cellO 0)).size, 0, none⟩) (n + 1) (n + 1)) (h' := (h.push (cellO 0)).push (.cells (List.replicate ((n + 1) * 2) (Value.pointer none)).toArray 228)) rfl rfl rfl rfl (fun ρ Q X hρ hq => sem_makeSlice2 (m := n + 1) (u := Value.pointer none) (hρ _ _ rfl) (hρ _ _ rfl) (by omega) (by omega) (by omega) rfl hq) trivial ?_
        have p3 := push3 h (cellO 0) (.cells (List.replicate ((n + 1) * 2) (Value.pointer none)).toArray 228) (cellO 1)
        refine EA.callD 1 rfl (by kernel_rfl) rfl rfl rfl rfl rfl rfl (cnewS (hF _ _ (by simp; omega))) trivial ?_
        simp only [Array.size_push]
        refine EA.gen (fun hh => Upd (fun _ => False) h hh /\ hh[h.size + 1]? = some (.cells (List.replicate ((n + 1) * 2) (Value.pointer none)).toArray 228 (0, 0)) /\ hh[h.size]? = some (cellO 0) /\ hh[h.size + 2]? = some (cellO 1)) ⟨p3.1, p3.2.2.2.1, p3.2.2.1, p3.2.2.2.2⟩ ?_
        rintro hh ⟨u, g1, g2, g3⟩
        refine EA.val (v := .agg #[ptr (h.size), ptr (h.size + 2), .slice (some ⟨h.size + 1, 0, none⟩) (n + 1) (n + 1)]) (h' := hh) 5 rfl (by kernel_rfl) rfl rfl rfl (fun ρ Q X hρ hq => sem_buildS hρ rfl rfl hq) trivial ?_
        refine EA.val (v := ptr hh.size) (h' := hh.push (.cells #[ptr (h.size), ptr (h.size + 2), .slice (some ⟨h.size + 1, 0, none⟩) (n + 1) (n + 1)] 224)) 6 rfl (by kernel_rfl) rfl rfl rfl (fun ρ Q X hρ hq => by
          show SemW _ _ (Instr.box _ (ρ _) >>= fun v => pure (.value v)) _ _ Q X
          rw [hρ _ (.agg #[ptr (h.size), ptr (h.size + 2), .slice (some ⟨h.size + 1, 0, none⟩) (n + 1) (n + 1)]) rfl]
          exact ⟨thawed, hq⟩) trivial ?_
        refine EA.tAssign 7 rfl (by kernel_rfl) rfl rfl rfl rfl hZ ?_
        refine EA.done (by kernel_rfl) ?_
        exact EK.sub (e := [(4, ptr hh.size), (0, .int .i64 n)]) ⟨rfl, rfl, trivial⟩ (fin _ _ _ ⟨rfl, news_of u g1 g2 g3 ⟨by omega, by omega, by omega⟩ ⟨by omega, by omega, by omega⟩⟩)
    · refine EAi.val (v := .slice (some ⟨(h).size, 0, none⟩) (n + 1) (n + 1)) (h' := (h).push (.cells (List.replicate ((n + 1) * 2) (Value.pointer none)).toArray 228)) rfl rfl rfl rfl (fun ρ Q X hρ hq => sem_makeSlice2 (m := n + 1) (u := Value.pointer none) (hρ _ _ rfl) (hρ _ _ rfl) (by omega) (by omega) (by omega) rfl hq) trivial ?_
      have p3 := push3 h (.cells (List.replicate ((n + 1) * 2) (Value.pointer none)).toArray 228) (cellO 0) (cellO 1)
      refine EA.callD 0 rfl (by kernel_rfl) rfl rfl rfl rfl rfl rfl (cnewS (hF _ _ (by simp))) trivial ?_
      refine EA.callD 1 rfl (by kernel_rfl) rfl rfl rfl rfl rfl rfl (cnewS (hF _ _ (by simp; omega))) trivial ?_
      simp only [Array.size_push]
      refine EA.gen (fun hh => Upd (fun _ => False) h hh /\ hh[h.size]? = some (.cells (List.replicate ((n + 1) * 2) (Value.pointer none)).toArray 228 (0, 0)) /\ hh[h.size + 1]? = some (cellO 0) /\ hh[h.size + 2]? = some (cellO 1)) ⟨p3.1, p3.2.2.1, p3.2.2.2.1, p3.2.2.2.2⟩ ?_
      rintro hh ⟨u, g1, g2, g3⟩
      refine EA.val (v := .agg #[ptr (h.size + 1), ptr (h.size + 2), .slice (some ⟨h.size, 0, none⟩) (n + 1) (n + 1)]) (h' := hh) 5 rfl (by kernel_rfl) rfl rfl rfl (fun ρ Q X hρ hq => sem_buildS hρ rfl rfl hq) trivial ?_
      refine EA.val (v := ptr hh.size) (h' := hh.push (.cells #[ptr (h.size + 1), ptr (h.size + 2), .slice (some ⟨h.size, 0, none⟩) (n + 1) (n + 1)] 224)) 6 rfl (by kernel_rfl) rfl rfl rfl (fun ρ Q X hρ hq => by
        show SemW _ _ (Instr.box _ (ρ _) >>= fun v => pure (.value v)) _ _ Q X
        rw [hρ _ (.agg #[ptr (h.size + 1), ptr (h.size + 2), .slice (some ⟨h.size, 0, none⟩) (n + 1) (n + 1)]) rfl]
        exact ⟨thawed, hq⟩) trivial ?_
      refine EA.tAssign 7 rfl (by kernel_rfl) rfl rfl rfl rfl hZ ?_
      refine EA.done (by kernel_rfl) ?_
      exact EK.sub (e := [(4, ptr hh.size), (0, .int .i64 n)]) ⟨rfl, rfl, trivial⟩ (fin _ _ _ ⟨rfl, news_of u g1 g2 g3 ⟨by omega, by omega, by omega⟩ ⟨by omega, by omega, by omega⟩⟩)
  · rintro M h1 δ1 ⟨rfl, N⟩
    have okM : ∀ k, k < 4 -> M.ok k := fun k hk => (N.ok k).2 hk
    have x0 : NewSI h n (M.B 0) (M.B 2) (M.B 3) (M.B 1) M 0 h1 := ⟨N.upd, N.rep, fun k => by rw [N.ok], ⟨rfl, rfl, rfl, rfl⟩, N.o0, by rw [N.o1]; rfl, N.o2, N.o3, fun j hj => by omega, N.above⟩
    have cT : hcell h1 ⟨M.B 0, 2, none⟩ = some (.slice (some ⟨M.B 1, 0, none⟩) (n + 1) (n + 1)) := N.rep.cell (okM 0 (by omega)) N.o0 rfl
    clear okM N
    generalize M.B 0 = T at x0 cT ⊢
    generalize M.B 1 = B1 at x0 cT
    generalize M.B 2 = B2 at x0
    generalize M.B 3 = B3 at x0
    (repeat (first | refine EK.seq ?_ | refine EK.region ?_ | refine ER.done ?_ | refine EK.block ?_ | refine ER.move rfl rfl rfl ?_ | refine ER.nilCheck rfl rfl rfl ?_ | refine ER.fieldAddr rfl rfl rfl ?_ | refine ER.len1 rfl rfl rfl ?_ | refine ER.load1 rfl rfl rfl (by assumption) ?_))
    refine EK.loopInv (fun t : RSS => [(24, .int .i64 t.i), (23, .int .i64 ((n + 1 : Nat) : Int)), (4, ptr T), (0, .int .i64 n)]) (fun t h' δ' => δ' = δ1 /\ t.i <= n + 1 /\ NewSI h n T B2 B3 B1 t.M t.i h') (fun t => n + 1 - t.i) ⟨0, _⟩ ⟨rfl, rfl, rfl, rfl, trivial⟩ ⟨rfl, Nat.zero_le _, x0⟩ ?_
    clear x0 cT h1 M
    rintro ⟨i, M⟩ h1 δ ⟨hδ1, hi, x⟩ again
    dsimp only at hi x again ⊢
    subst hδ1
    have hsz := x.upd.size
    have cT : hcell h1 ⟨T, 2, none⟩ = some (.slice (some ⟨B1, 0, none⟩) (n + 1) (n + 1)) := x.b.1 ▸ x.rep.cell ((x.ok 0).2 (by omega)) x.o0 rfl
    by_cases hin : i < n + 1
    · (repeat (first | refine EK.seq ?_ | refine EK.region ?_ | refine ER.done ?_ | refine EK.skip ?_ | refine EK.block ?_ | refine ER.move rfl rfl rfl ?_ | refine ER.assign rfl rfl rfl ?_ | refine ER.cmpT rfl rfl rfl rfl rfl (by first | (dsimp only [cmpP]; omega) | exact rfl | exact Int.le_refl _) ?_ | refine EK.condT rfl ?_))
      have hrem : ((i : Int) + 1).tmod ((n : Int) + 1) = (((i + 1) % (n + 1) : Nat) : Int) := by
        rw [Int.tmod_eq_emod_of_nonneg (by omega)]; simp
      refine EK.regionAnyL (fun h' => hcell h' ⟨T, 2, none⟩ = some (.slice (some ⟨B1, 0, none⟩) (n + 1) (n + 1))) 15 ?_
      have hZ := cT
      refine EA.tMove 0 rfl (by kernel_rfl) rfl rfl rfl rfl hZ ?_
      refine EA.tNil 1 rfl (by kernel_rfl) rfl rfl rfl rfl hZ ?_
      refine EA.tField 2 rfl (by kernel_rfl) rfl rfl rfl rfl hZ ?_
      refine EA.tLoad 3 rfl (by kernel_rfl) rfl rfl rfl rfl (fun _ hz => hz) hZ ?_
      refine EA.tMove 4 rfl (by kernel_rfl) rfl rfl rfl rfl hZ ?_
      refine EA.tMove 5 rfl (by kernel_rfl) rfl rfl rfl rfl hZ ?_
      refine EA.tAdd (kd := .i64) 6 rfl (by kernel_rfl) rfl rfl rfl rfl rfl (i64_in (by omega) (by omega)) hZ ?_
      refine EA.tMove 7 rfl (by kernel_rfl) rfl rfl rfl rfl hZ ?_
      refine EA.tAdd (kd := .i64) 8 rfl (by kernel_rfl) rfl rfl rfl rfl rfl (i64_in (by omega) (by omega)) hZ ?_
      refine EA.tBinI (kd := .i64) (v := .int .i64 (((i + 1) % (n + 1) : Nat) : Int)) 9 rfl (by kernel_rfl) rfl rfl rfl rfl rfl ((Go.TJ.binOp_rem (by omega)).trans (by rw [hrem])) hZ ?_
      refine EA.callD 10 rfl (by kernel_rfl) rfl rfl rfl rfl rfl rfl (cnewS (hF _ _ hsz)) (hcell_push hZ) ?_
      refine EA.callD 11 rfl (by kernel_rfl) rfl rfl rfl rfl rfl rfl (cnewS (hF _ _ (by simp; omega))) (hcell_push (hcell_push hZ)) ?_
      have hZ := hcell_push (o := cellO 0) (hcell_push (o := cellO (((i + 1) % (n + 1) : Nat) : Int)) hZ)
      obtain ⟨M', x'⟩ := x.step hin rfl
      simp only [Array.size_push]
      refine EA.val (v := .agg #[ptr (h1.size + 1)]) 12 rfl (by kernel_rfl) rfl rfl rfl (fun ρ Q X hρ hq => sem_buildS hρ rfl rfl hq) hZ ?_
      refine EA.val (v := .agg #[ptr h1.size, ptr (h1.size + 1)]) 13 rfl (by kernel_rfl) rfl rfl rfl (fun ρ Q X hρ hq => sem_buildS hρ rfl rfl hq) hZ ?_
      have hB1 : h1[B1]? = some (.cells (itemsL i M.B ++ List.replicate ((n + 1 - i) * 2) (Value.pointer none)).toArray 228 (0, 0)) := x.b.2.1 ▸ x.rep.get ((x.ok 1).2 (by omega)) x.o1
      have hB2 := get_push (cellO 0) (get_push (cellO (((i + 1) % (n + 1) : Nat) : Int)) hB1)
      refine EA.val (v := .pointer (some ⟨B1, 0 + i * 2, none⟩)) 14 rfl (by kernel_rfl) rfl rfl rfl (fun ρ Q X hρ hq => sem_indexSl (hρ _ _ rfl) (hρ _ _ rfl) (by omega) (by omega) hq) hZ ?_
      have hcs : ∀ j, j < 2 -> (∃ u, hcell ((h1.push (cellO (((i + 1) % (n + 1) : Nat) : Int))).push (cellO 0)) ⟨B1, 0 + i * 2 + j, none⟩ = some u) /\ hfroz ((h1.push (cellO (((i + 1) % (n + 1) : Nat) : Int))).push (cellO 0)) ⟨B1, 0 + i * 2 + j, none⟩ = false /\ ¬ S.still δ.g ⟨B1, 0 + i * 2 + j, none⟩ := fun j hj => by
        refine ⟨?_, hfroz_of hB2, hF _ _ (x.b.2.1 ▸ x.above 1 ((x.ok 1).2 (by omega)))⟩
        have hl := itemsL_len M.B i
        exact ⟨(itemsL i M.B ++ List.replicate ((n + 1 - i) * 2) (Value.pointer none))[0 + i * 2 + j]'(by simp [hl]; omega), hcell_of hB2 (by simp)⟩
      refine EA.unitL (h' := hsetRow ((h1.push (cellO (((i + 1) % (n + 1) : Nat) : Int))).push (cellO 0)) B1 (0 + i * 2) [ptr h1.size, ptr (h1.size + 1)]) 15 rfl (by kernel_rfl) rfl rfl rfl (fun ρ Q X hρ hq => sem_storeN (vs := [ptr h1.size, ptr (h1.size + 1)]) (hρ _ _ rfl) (hρ _ _ rfl) rfl (by simp [OneCell]) hcs hq) ?_
      refine EA.done (by kernel_rfl) ?_
      (repeat (first | refine EK.region ?_ | refine ER.done ?_ | refine EK.inBlock ?_ | refine ER.move rfl rfl rfl ?_ | refine ER.add (kd := .i64) rfl rfl rfl rfl (i64_in (by omega) (by omega)) ?_))
      exact EK.back (again ⟨i + 1, M'⟩ _ _ (by dsimp only; omega) ⟨rfl, by dsimp only; omega, x'⟩) ⟨rfl, rfl, rfl, rfl, trivial⟩
    · obtain rfl : i = n + 1 := by omega
      clear again
      (repeat (first | refine EK.seq ?_ | refine EK.region ?_ | refine ER.done ?_ | refine ER.move rfl rfl rfl ?_ | refine ER.assign rfl rfl rfl ?_ | refine ER.cmpF rfl rfl rfl rfl rfl (by first | (dsimp only [cmpP]; omega) | exact rfl | exact Int.le_refl _) ?_ | refine EK.condF rfl ?_ | refine EK.ret ?_ | refine EK.exit rfl ?_))
      have okM : ∀ k, k < 6 + 2 * n -> M.ok k := fun k hk => (x.ok k).2 (by omega)
      refine EU.ret2 rfl rfl rfl ⟨rfl, x.upd, M.B, by rw [x.b.1], x.rep.congr (fun k hk => okM k hk) (fun _ _ => rfl) (fun k hk => ?_), fun k hk => x.above k (okM k hk)⟩
      have hk' : k < 6 + 2 * n := hk
      unfold stkM
      dsimp only
      obtain ⟨e0, e1, e2, e3⟩ := x.b
      rcases (show k = 0 \/ k = 1 \/ k = 2 \/ k = 3 \/ 4 <= k by omega) with rfl | rfl | rfl | rfl | h4
      · rw [if_pos rfl, x.o0, e1, e2, e3]
      · rw [if_neg (by decide), if_pos rfl, x.o1]; simp
      · rw [if_neg (by decide), if_neg (by decide), if_pos rfl, x.o2]
      · rw [if_neg (by decide), if_neg (by decide), if_neg (by decide), if_pos rfl, x.o3]
      · rw [if_neg (by omega), if_neg (by omega), if_neg (by omega), if_neg (by omega)]
        have hj := x.on ((k - 4) / 2) (by omega)
        by_cases hev : k % 2 = 0
        · rw [if_pos hev]
          have := hj.1
          rw [show 4 + 2 * ((k - 4) / 2) = k by omega] at this
          exact this.symm
        · rw [if_neg hev]
          have := hj.2
          rw [show 5 + 2 * ((k - 4) / 2) = k by omega] at this
          exact this.symm
end
end
section
open Go Go.TJ Go.Proofs
section
variable {h : Hp} {n : Nat} {B : Nat -> Nat} {v : Nat -> Int}
theorem stk_list (r : Rep h (stkM n B v)) : hcell h ⟨B 0, 0, none⟩ = some (ptr (B 2)) := r.cell (k := 0) (by show 0 < 6 + 2 * n; omega) rfl rfl
theorem stk_free (r : Rep h (stkM n B v)) : hcell h ⟨B 0, 1, none⟩ = some (ptr (B 3)) := r.cell (k := 0) (by show 0 < 6 + 2 * n; omega) rfl rfl
theorem stk_items (r : Rep h (stkM n B v)) : hcell h ⟨B 0, 2, none⟩ = some (.slice (some ⟨B 1, 0, none⟩) (n + 1) (n + 1)) := r.cell (k := 0) (by show 0 < 6 + 2 * n; omega) rfl rfl
theorem stk_next (r : Rep h (stkM n B v)) {k : Nat} (hk : k <= n) : hcell h ⟨B 1, 0 + k * 2, none⟩ = some (ptr (B (4 + 2 * k))) := r.cell (k := 1) (by show 1 < 6 + 2 * n; omega) rfl (by
  simp only [List.getElem?_toArray]
  rw [show 0 + k * 2 = 2 * k by omega]; exact (itemsL_get B (by omega)).1)
theorem stk_val (r : Rep h (stkM n B v)) {k : Nat} (hk : k <= n) : hcell h ⟨B 1, 0 + k * 2 + 1, none⟩ = some (ptr (B (5 + 2 * k))) := r.cell (k := 1) (by show 1 < 6 + 2 * n; omega) rfl (by
  simp only [List.getElem?_toArray]
  rw [show 0 + k * 2 + 1 = 2 * k + 1 by omega]; exact (itemsL_get B (by omega)).2)
theorem stk_cell (r : Rep h (stkM n B v)) {k : Nat} (h2 : 2 <= k) (hk : k < 6 + 2 * n) {x : Int} (hx : v k = x) : h[B k]? = some (cellO x) := r.get (k := k) hk (by
  show (if k = 0 then _ else if k = 1 then _ else cellO (v k)) = _
  rw [if_neg (by omega), if_neg (by omega), hx])
theorem stk_set (r : Rep h (stkM n B v)) {k : Nat} (h2 : 2 <= k) (hk : k < 6 + 2 * n) (x : Int) : Rep (h.setIfInBounds (B k) (cellO x)) (stkM n B (ut v k x)) := by
  refine (r.set (k := k) hk (cellO x)).congr (fun _ hk => hk) (fun _ _ => rfl) (fun j hj => ?_)
  show (stkM n B (ut v k x)).O j = ut (stkM n B v).O k (cellO x) j
  by_cases e : j = k
  · subst e
    rw [ut_same]
    show (if j = 0 then _ else if j = 1 then _ else cellO (ut v j x j)) = _
    rw [if_neg (by omega), if_neg (by omega), ut_same]
  · rw [ut_ne _ _ e]
    show (if j = 0 then _ else if j = 1 then _ else cellO (ut v k x j)) = (if j = 0 then _ else if j = 1 then _ else cellO (v j))
    by_cases k0 : j = 0
    · rw [if_pos k0, if_pos k0]
    · by_cases k1 : j = 1
      · rw [if_neg k0, if_pos k1, if_neg k0, if_pos k1]
      · rw [if_neg k0, if_neg k1, if_neg k0, if_neg k1, ut_ne _ _ e]
end
def laidZ (h k : Int) : Int := IntKind.i64.wrap (IntKind.i64.wrap (IntKind.i64.wrap (h - h % 65536) + k) + 65536)
theorem laidZ_mod {h k : Int} (h0 : 0 <= k) (h1 : k < 65536) : laidZ h k % 65536 = k := by
  unfold laidZ
  simp only [IntKind.wrap_i64]
  omega
section
variable {Γ : Type} {main : Bool} {S : Sit Γ} {h : Hp} {δ : Ix Γ} {n : Nat} {B : Nat -> Nat} {v : Nat -> Int}
theorem node_ok {x : Int} : CallW Try.prog main S 156 #[.int .i64 x] h δ (Ret (Det (.int .i64 (x % 65536)) h δ)) := by
  refine CallW.start (n := 6) rfl rfl ?_
  (repeat (first | refine EK.seq ?_ | refine EK.region ?_ | refine ER.done ?_ | refine ER.move rfl rfl rfl ?_ | refine ER.assign rfl rfl rfl ?_))
  refine ER.conv (r := x % 65536) rfl rfl rfl (by rw [IntKind.wrap_u16]) ?_
  refine ER.conv (r := x % 65536) rfl rfl rfl (i64_in (by omega) (by omega)) ?_
  (repeat (first | refine ER.done ?_ | refine ER.assign rfl rfl rfl ?_ | refine EK.ret ?_))
  exact EU.ret1 rfl rfl det
theorem laid_ok {x k : Int} : CallW Try.prog main S 157 #[.int .i64 x, .int .i64 k] h δ (Ret (Det (.int .i64 (laidZ x k)) h δ)) := by
  refine CallW.start (n := 12) rfl rfl ?_
  (repeat (first | refine EK.seq ?_ | refine EK.region ?_ | refine ER.done ?_ | refine ER.move rfl rfl rfl ?_ | refine ER.assign rfl rfl rfl ?_))
  refine ER.callD rfl rfl rfl rfl rfl node_ok ?_
  refine ER.sub' rfl rfl rfl rfl rfl ?_
  refine ER.move rfl rfl rfl ?_
  refine ER.add rfl rfl rfl rfl rfl ?_
  refine ER.add rfl rfl rfl rfl rfl ?_
  (repeat (first | refine ER.done ?_ | refine ER.assign rfl rfl rfl ?_ | refine EK.ret ?_))
  exact EU.ret1 rfl rfl ⟨rfl, rfl, rfl⟩
abbrev KFree (S : Sit Γ) (γ : Γ) (n : Nat) (B : Nat -> Nat) : Prop := ∀ k o, k < 6 + 2 * n -> ¬ S.still γ ⟨B k, o, none⟩
abbrev KOwn (n : Nat) (B : Nat -> Nat) : Nat -> Prop := fun b => ∃ k, k < 6 + 2 * n /\ b = B k
theorem get_none {c : Nat} (r : Rep h (stkM n B v)) (hc : c = 2 \/ c = 3) (hk : v c % 65536 = 0) : CallW Try.prog main S 94 #[ptr (B 0), .pointer none, ptr (B c)] h δ (Ret (Det (.int .i64 0) h δ)) := by
  refine CallW.start (n := 35) rfl rfl ?_
  (repeat (first | refine EK.seq ?_ | refine EK.region ?_ | refine ER.done ?_ | refine EK.block ?_ | refine ER.assign rfl rfl rfl ?_))
  refine EK.loop ?_
  (repeat (first | refine EK.seq ?_ | refine EK.region ?_ | refine EK.block ?_ | refine ER.move rfl rfl rfl ?_))
  refine ER.callD rfl rfl rfl rfl rfl (cload (stk_cell r (k := c) (by omega) (by omega) rfl)) ?_
  (repeat (first | refine EK.seq ?_ | refine EK.region ?_ | refine ER.done ?_ | refine ER.move rfl rfl rfl ?_ | refine ER.assign rfl rfl rfl ?_))
  refine ER.callD rfl rfl rfl rfl rfl node_ok ?_
  rw [hk]
  (repeat (first | refine EK.seq ?_ | refine EK.region ?_ | refine ER.done ?_ | refine ER.move rfl rfl rfl ?_ | refine ER.assign rfl rfl rfl ?_ | refine ER.no rfl rfl ?_ | refine ER.pickT rfl rfl rfl rfl ?_ | refine ER.cmpT rfl rfl rfl rfl rfl (by first | (dsimp only [cmpP]; omega) | exact rfl | exact Int.le_refl _) ?_ | refine EK.condT rfl ?_ | refine EK.ret ?_))
  exact EU.ret1 rfl rfl det
set_option maxRecDepth 8000 in
set_option maxHeartbeats 1000000 in
theorem get_some {c k : Nat} (r : Rep h (stkM n B v)) (hn : n <= 4096) (hc : c = 2 \/ c = 3) (hk : v c % 65536 = k) (hk1 : 1 <= k) (hkn : k <= n) (hS : KFree S δ.g n B) :
    CallW Try.prog main S 94 #[ptr (B 0), .pointer none, ptr (B c)] h δ (Ret fun w h' δ' => w = .int .i64 k /\ δ' = δ /\ Rep h' (stkM n B (ut v c (laidZ (v c) (v (4 + 2 * k))))) /\ Upd (KOwn n B) h h') := by
  have ci := stk_items r
  refine CallW.start (n := 35) rfl rfl ?_
  (repeat (first | refine EK.seq ?_ | refine EK.region ?_ | refine ER.done ?_ | refine EK.block ?_ | refine ER.assign rfl rfl rfl ?_))
  refine EK.loop ?_
  (repeat (first | refine EK.seq ?_ | refine EK.region ?_ | refine EK.block ?_ | refine ER.move rfl rfl rfl ?_))
  refine ER.callD rfl rfl rfl rfl rfl (cload (stk_cell r (k := c) (by omega) (by omega) rfl)) ?_
  (repeat (first | refine EK.seq ?_ | refine EK.region ?_ | refine ER.done ?_ | refine ER.move rfl rfl rfl ?_ | refine ER.assign rfl rfl rfl ?_))
  refine ER.callD rfl rfl rfl rfl rfl node_ok ?_
  rw [hk]
  (repeat (first | refine EK.seq ?_ | refine EK.region ?_ | refine ER.done ?_ | refine ER.move rfl rfl rfl ?_ | refine ER.assign rfl rfl rfl ?_ | refine ER.nilCheck rfl rfl rfl ?_ | refine ER.fieldAddr rfl rfl rfl ?_ | refine ER.cmpF rfl rfl rfl rfl rfl (by first | (dsimp only [cmpP]; omega) | exact rfl | exact Int.le_refl _) ?_ | refine ER.indexSl rfl rfl rfl rfl (by omega) (by omega) ?_ | refine ER.load1 rfl rfl rfl (by assumption) ?_))
  refine ER.load1 rfl rfl rfl (stk_next r hkn) ?_
  (repeat refine ER.move rfl rfl rfl ?_)
  refine ER.callD rfl rfl rfl rfl rfl (cload (stk_cell r (k := 4 + 2 * k) (by omega) (by omega) rfl)) ?_
  refine ER.callD rfl rfl rfl rfl rfl laid_ok ?_
  refine ER.callD rfl rfl rfl rfl rfl (ccas_yes (stk_cell r (k := c) (by omega) (by omega) rfl) (fun o => hS _ o (by omega))) ?_
  (repeat (first | refine EK.seq ?_ | refine EK.region ?_ | refine ER.done ?_ | refine ER.move rfl rfl rfl ?_ | refine ER.assign rfl rfl rfl ?_ | refine ER.pickF rfl rfl rfl rfl ?_ | refine EK.condT rfl ?_ | refine EK.ret ?_))
  exact EU.ret1 rfl rfl ⟨rfl, rfl, stk_set r (by omega) (by omega) _, Upd.set _ _ _ ⟨_, by omega, rfl⟩⟩
set_option maxRecDepth 8000 in
set_option maxHeartbeats 1000000 in
theorem lay_ok {c k : Nat} (r : Rep h (stkM n B v)) (_hn : n <= 4096) (hc : c = 2 \/ c = 3) (hk1 : 1 <= k) (hkn : k <= n) (hS : KFree S δ.g n B) :
    CallW Try.prog main S 96 #[ptr (B 0), .pointer none, ptr (B c), .int .i64 k] h δ (Ret fun _ h' δ' => δ' = δ /\ Rep h' (stkM n B (ut (ut v (4 + 2 * k) (v c % 65536)) c (laidZ (v c) k))) /\ Upd (KOwn n B) h h') := by
  have ci := stk_items r
  have cn := stk_next r hkn
  refine CallW.start (n := 31) rfl rfl ?_
  (repeat refine EK.block ?_)
  refine EK.loop ?_
  (repeat (first | refine EK.seq ?_ | refine EK.region ?_ | refine EK.block ?_ | refine ER.move rfl rfl rfl ?_))
  refine ER.callD rfl rfl rfl rfl rfl (cload (stk_cell r (k := c) (by omega) (by omega) rfl)) ?_
  (repeat (first | refine EK.seq ?_ | refine ER.done ?_ | refine ER.assign rfl rfl rfl ?_))
  refine EK.regionAny (fun h' => hcell h' ⟨B 0, 2, none⟩ = some (.slice (some ⟨B 1, 0, none⟩) (n + 1) (n + 1)) /\ hcell h' ⟨B 1, 0 + k * 2, none⟩ = some (ptr (B (4 + 2 * k)))) ?_
  have hZ := And.intro ci cn
  refine EA.tMove 0 rfl (by kernel_rfl) rfl rfl rfl rfl hZ ?_
  refine EA.tNil 1 rfl (by kernel_rfl) rfl rfl rfl rfl hZ ?_
  refine EA.tField 2 rfl (by kernel_rfl) rfl rfl rfl rfl hZ ?_
  refine EA.tLoad 3 rfl (by kernel_rfl) rfl rfl rfl rfl (fun _ hz => hz.1) hZ ?_
  refine EA.tMove 4 rfl (by kernel_rfl) rfl rfl rfl rfl hZ ?_
  refine EA.tIdxS 5 rfl (by kernel_rfl) rfl rfl rfl rfl rfl (by omega) (by omega) hZ ?_
  refine EA.tField 6 rfl (by kernel_rfl) rfl rfl rfl rfl hZ ?_
  refine EA.tLoad 7 rfl (by kernel_rfl) rfl rfl rfl rfl (fun _ hz => hz.2) hZ ?_
  refine EA.tMove 8 rfl (by kernel_rfl) rfl rfl rfl rfl hZ ?_
  refine EA.tMove 9 rfl (by kernel_rfl) rfl rfl rfl rfl hZ ?_
  refine EA.callD 10 rfl (by kernel_rfl) rfl rfl rfl rfl rfl rfl node_ok hZ ?_
  have r1 := stk_set r (k := 4 + 2 * k) (by omega) (by omega) (v c % 65536)
  refine EA.callD 11 rfl (by kernel_rfl) rfl rfl rfl rfl rfl rfl (cstore (stk_cell r (k := 4 + 2 * k) (by omega) (by omega) rfl) (fun o => hS _ o (by omega))) ⟨stk_items r1, stk_next r1 hkn⟩ ?_
  refine EA.done (by kernel_rfl) ?_
  have u1 := Upd.set (T := KOwn n B) h (B (4 + 2 * k)) (cellO (v c % 65536)) ⟨_, by omega, rfl⟩
  have e1 : ut v (4 + 2 * k) (v c % 65536) c = v c := ut_ne _ _ (by omega)
  generalize h.setIfInBounds (B (4 + 2 * k)) (cellO (v c % 65536)) = h1 at r1 u1 ⊢
  (repeat (first | refine EK.seq ?_ | refine EK.region ?_ | refine ER.move rfl rfl rfl ?_))
  refine ER.callD rfl rfl rfl rfl rfl laid_ok ?_
  refine ER.callD rfl rfl rfl rfl rfl (ccas_yes (stk_cell r1 (k := c) (by omega) (by omega) e1) (fun o => hS _ o (by omega))) ?_
  have r2 := stk_set r1 (k := c) (by omega) (by omega) (laidZ (v c) k)
  have u2 := Upd.set (T := KOwn n B) h1 (B c) (cellO (laidZ (v c) k)) ⟨_, by omega, rfl⟩
  (repeat (first | refine ER.done ?_ | refine EK.condT rfl ?_ | refine EK.ret ?_))
  exact EU.ret0 rfl ⟨rfl, r2, u1.trans u2⟩
structure SI (n : Nat) (v : Nat -> Int) (j : Nat) : Prop where
  top : v 2 % 65536 = j
  down : ∀ k, 1 <= k -> k <= j -> v (4 + 2 * k) = (k : Int) - 1
  fr : v 3 % 65536 = if j < n then (j : Int) + 1 else 0
  up : ∀ k, j < k -> k <= n -> v (4 + 2 * k) = if k < n then (k : Int) + 1 else 0
set_option maxRecDepth 8000 in
set_option maxHeartbeats 1000000 in
theorem kpush_ok {j : Nat} {x : Int} (r : Rep h (stkM n B v)) (hn : n <= 4096) (hj : j < n) (s : SI n v j) (hS : KFree S δ.g n B) :
    CallW Try.prog main S 27 #[ptr (B 0), .pointer none, .int .i64 x] h δ (Ret fun w h' δ' => w = .int .i64 0 /\ δ' = δ /\ (∃ v', Rep h' (stkM n B v') /\ SI n v' (j + 1) /\ v' (5 + 2 * (j + 1)) = x /\ ∀ k, k ≠ j + 1 -> v' (5 + 2 * k) = v (5 + 2 * k)) /\ Upd (KOwn n B) h h') := by
  have ci := stk_items r
  have cf := stk_free r
  have f1 := s.fr
  rw [if_pos hj] at f1
  refine CallW.start (n := 47) rfl rfl ?_
  (repeat (first | refine EK.seq ?_ | refine EK.region ?_ | refine ER.done ?_ | refine EK.skip ?_ | refine ER.move rfl rfl rfl ?_ | refine ER.assign rfl rfl rfl ?_ | refine ER.nilCheck rfl rfl rfl ?_ | refine ER.fieldAddr rfl rfl rfl ?_ | refine ER.eqV rfl rfl rfl rfl rfl ?_ | refine ER.pickF rfl rfl rfl rfl ?_ | refine ER.cmpF rfl rfl rfl rfl rfl (by first | (dsimp only [cmpP]; omega) | exact rfl | exact Int.le_refl _) ?_ | refine ER.len1 rfl rfl rfl ?_ | refine EK.condF rfl ?_ | refine ER.load1 rfl rfl rfl (by assumption) ?_))
  refine ER.callR rfl rfl rfl rfl rfl (get_some (c := 3) (k := j + 1) r hn (.inr rfl) (by rw [f1]; rfl) (by omega) (by omega) hS) ?_
  rintro _ h1 δ1 ⟨rfl, rfl, r1, u1⟩
  have hm := s.up (j + 1) (by omega) (by omega)
  generalize hf3 : laidZ (v 3) (v (4 + 2 * (j + 1))) = f3 at r1
  have f3m : f3 % 65536 = if j + 1 < n then ((j + 1 : Nat) : Int) + 1 else 0 := by
    rw [<- hf3, hm]
    split
    · rw [laidZ_mod (by omega) (by omega)]
    · rw [laidZ_mod (by omega) (by omega)]
  clear ci cf hf3
  have ci := stk_items r1
  have cv := stk_val r1 (k := j + 1) (by omega)
  (repeat (first | refine EK.seq ?_ | refine EK.region ?_ | refine ER.done ?_ | refine EK.skip ?_ | refine ER.move rfl rfl rfl ?_ | refine ER.assign rfl rfl rfl ?_ | refine ER.nilCheck rfl rfl rfl ?_ | refine ER.fieldAddr rfl rfl rfl ?_ | refine ER.cmpF rfl rfl rfl rfl rfl (by first | (dsimp only [cmpP]; omega) | exact rfl | exact Int.le_refl _) ?_ | refine ER.indexSl rfl rfl rfl rfl (by omega) (by omega) ?_ | refine EK.condF rfl ?_ | refine ER.load1 rfl rfl rfl (by assumption) ?_))
  refine ER.callD rfl rfl rfl rfl rfl (cstore (stk_cell r1 (k := 5 + 2 * (j + 1)) (by omega) (by omega) rfl) (fun o => hS _ o (by omega))) ?_
  have r2 := stk_set r1 (k := 5 + 2 * (j + 1)) (by omega) (by omega) x
  have u2 := Upd.set (T := KOwn n B) h1 (B (5 + 2 * (j + 1))) (cellO x) ⟨_, by omega, rfl⟩
  clear ci cv
  generalize h1.setIfInBounds (B (5 + 2 * (j + 1))) (cellO x) = h2 at r2 u2 ⊢
  have cl := stk_list r2
  (repeat (first | refine EK.seq ?_ | refine EK.region ?_ | refine ER.done ?_ | refine ER.move rfl rfl rfl ?_ | refine ER.nilCheck rfl rfl rfl ?_ | refine ER.fieldAddr rfl rfl rfl ?_ | refine ER.load1 rfl rfl rfl (by assumption) ?_))
  refine ER.callR rfl rfl rfl rfl rfl (lay_ok (c := 2) (k := j + 1) r2 hn (.inl rfl) (by omega) (by omega) hS) ?_
  rintro _ h3 δ3 ⟨rfl, r3, u3⟩
  (repeat (first | refine EK.seq ?_ | refine EK.region ?_ | refine ER.done ?_ | refine ER.assign rfl rfl rfl ?_ | refine EK.ret ?_))
  have e2 : ut (ut v 3 f3) (5 + 2 * (j + 1)) x 2 = v 2 := by rw [ut_ne _ _ (by omega), ut_ne _ _ (by omega)]
  rw [e2] at r3
  refine EU.ret1 rfl rfl ⟨rfl, rfl, ⟨_, r3, ⟨?_, fun k h1 h2 => ?_, ?_, fun k h1 h2 => ?_⟩, ?_, fun k hk => ?_⟩, (u1.trans u2).trans u3⟩
  · rw [ut_same, laidZ_mod (by omega) (by omega)]
  · rw [ut_ne _ _ (by omega)]
    by_cases e : k = j + 1
    · subst e; rw [ut_same, s.top]; omega
    · rw [ut_ne _ _ (by omega), ut_ne _ _ (by omega), ut_ne _ _ (by omega)]; exact s.down k h1 (by omega)
  · rw [ut_ne _ _ (by omega), ut_ne _ _ (by omega), ut_ne _ _ (by omega), ut_same]; exact f3m
  · rw [ut_ne _ _ (by omega), ut_ne _ _ (by omega), ut_ne _ _ (by omega), ut_ne _ _ (by omega)]; exact s.up k (by omega) h2
  · rw [ut_ne _ _ (by omega), ut_ne _ _ (by omega), ut_same]
  · rw [ut_ne _ _ (by omega), ut_ne _ _ (by omega), ut_ne _ _ (by omega), ut_ne _ _ (by omega)]
theorem kpush_full {x : Int} (r : Rep h (stkM n B v)) (hn1 : 1 <= n) (s : SI n v n) : CallW Try.prog main S 27 #[ptr (B 0), .pointer none, .int .i64 x] h δ (Ret (Det (.int .i64 12) h δ)) := by
  have ci := stk_items r
  have cf := stk_free r
  have f1 := s.fr
  rw [if_neg (by omega)] at f1
  refine CallW.start (n := 47) rfl rfl ?_
  (repeat (first | refine EK.seq ?_ | refine EK.region ?_ | refine ER.done ?_ | refine EK.skip ?_ | refine ER.move rfl rfl rfl ?_ | refine ER.assign rfl rfl rfl ?_ | refine ER.nilCheck rfl rfl rfl ?_ | refine ER.fieldAddr rfl rfl rfl ?_ | refine ER.eqV rfl rfl rfl rfl rfl ?_ | refine ER.pickF rfl rfl rfl rfl ?_ | refine ER.cmpF rfl rfl rfl rfl rfl (by first | (dsimp only [cmpP]; omega) | exact rfl | exact Int.le_refl _) ?_ | refine ER.len1 rfl rfl rfl ?_ | refine EK.condF rfl ?_ | refine ER.load1 rfl rfl rfl (by assumption) ?_))
  refine ER.callD rfl rfl rfl rfl rfl (get_none (c := 3) r (.inr rfl) f1) ?_
  (repeat (first | refine EK.seq ?_ | refine EK.region ?_ | refine ER.done ?_ | refine ER.move rfl rfl rfl ?_ | refine ER.assign rfl rfl rfl ?_ | refine ER.cmpT rfl rfl rfl rfl rfl (by first | (dsimp only [cmpP]; omega) | exact rfl | exact Int.le_refl _) ?_ | refine EK.condT rfl ?_ | refine EK.ret ?_))
  exact EU.ret1 rfl rfl det
set_option maxRecDepth 8000 in
set_option maxHeartbeats 1000000 in
theorem kpop_ok {j : Nat} {x : Int} (r : Rep h (stkM n B v)) (hn : n <= 4096) (hj1 : 1 <= j) (hj : j <= n) (s : SI n v j) (hx : v (5 + 2 * j) = x) (hS : KFree S δ.g n B) :
    CallW Try.prog main S 28 #[ptr (B 0), .pointer none] h δ (Ret fun w h' δ' => w = .tuple #[.int .i64 x, .bool true] /\ δ' = δ /\ (∃ v', Rep h' (stkM n B v') /\ SI n v' (j - 1) /\ ∀ k, v' (5 + 2 * k) = v (5 + 2 * k)) /\ Upd (KOwn n B) h h') := by
  have ci := stk_items r
  have cl := stk_list r
  refine CallW.start (n := 47) rfl rfl ?_
  (repeat (first | refine EK.seq ?_ | refine EK.region ?_ | refine ER.done ?_ | refine EK.skip ?_ | refine ER.move rfl rfl rfl ?_ | refine ER.assign rfl rfl rfl ?_ | refine ER.nilCheck rfl rfl rfl ?_ | refine ER.fieldAddr rfl rfl rfl ?_ | refine ER.eqV rfl rfl rfl rfl rfl ?_ | refine ER.pickF rfl rfl rfl rfl ?_ | refine ER.cmpF rfl rfl rfl rfl rfl (by first | (dsimp only [cmpP]; omega) | exact rfl | exact Int.le_refl _) ?_ | refine ER.len1 rfl rfl rfl ?_ | refine EK.condF rfl ?_ | refine ER.load1 rfl rfl rfl (by assumption) ?_))
  refine ER.callR rfl rfl rfl rfl rfl (get_some (c := 2) (k := j) r hn (.inl rfl) s.top (by omega) (by omega) hS) ?_
  rintro _ h1 δ1 ⟨rfl, rfl, r1, u1⟩
  have hm := s.down j (by omega) (by omega)
  generalize hf2 : laidZ (v 2) (v (4 + 2 * j)) = f2 at r1
  have f2m : f2 % 65536 = ((j - 1 : Nat) : Int) := by
    rw [<- hf2, hm, laidZ_mod (by omega) (by omega)]; omega
  clear ci cl hf2
  have ci := stk_items r1
  have cv := stk_val r1 (k := j) (by omega)
  have hx1 : ut v 2 f2 (5 + 2 * j) = x := by rw [ut_ne _ _ (by omega), hx]
  (repeat (first | refine EK.seq ?_ | refine EK.region ?_ | refine ER.done ?_ | refine EK.skip ?_ | refine ER.move rfl rfl rfl ?_ | refine ER.assign rfl rfl rfl ?_ | refine ER.nilCheck rfl rfl rfl ?_ | refine ER.fieldAddr rfl rfl rfl ?_ | refine ER.cmpF rfl rfl rfl rfl rfl (by first | (dsimp only [cmpP]; omega) | exact rfl | exact Int.le_refl _) ?_ | refine ER.indexSl rfl rfl rfl rfl (by omega) (by omega) ?_ | refine EK.condF rfl ?_ | refine ER.load1 rfl rfl rfl (by assumption) ?_))
  refine ER.callD rfl rfl rfl rfl rfl (cload (stk_cell r1 (k := 5 + 2 * j) (by omega) (by omega) hx1)) ?_
  have cf := stk_free r1
  (repeat (first | refine EK.seq ?_ | refine EK.region ?_ | refine ER.done ?_ | refine ER.move rfl rfl rfl ?_ | refine ER.assign rfl rfl rfl ?_ | refine ER.nilCheck rfl rfl rfl ?_ | refine ER.fieldAddr rfl rfl rfl ?_ | refine ER.load1 rfl rfl rfl (by assumption) ?_))
  refine ER.callR rfl rfl rfl rfl rfl (lay_ok (c := 3) (k := j) r1 hn (.inr rfl) (by omega) (by omega) hS) ?_
  rintro _ h3 δ3 ⟨rfl, r3, u3⟩
  (repeat (first | refine EK.seq ?_ | refine EK.region ?_ | refine ER.done ?_ | refine ER.move rfl rfl rfl ?_ | refine ER.assign rfl rfl rfl ?_ | refine EK.ret ?_))
  have e2 : ut v 2 f2 3 = v 3 := ut_ne _ _ (by omega)
  rw [e2] at r3
  refine EU.ret2 rfl rfl rfl ⟨rfl, rfl, ⟨_, r3, ⟨?_, fun k h1 h2 => ?_, ?_, fun k h1 h2 => ?_⟩, fun k => ?_⟩, u1.trans u3⟩
  · rw [ut_ne _ _ (by omega), ut_ne _ _ (by omega), ut_same]; exact f2m
  · rw [ut_ne _ _ (by omega), ut_ne _ _ (by omega), ut_ne _ _ (by omega)]; exact s.down k h1 (by omega)
  · rw [ut_same, laidZ_mod (by omega) (by omega), if_pos (by omega)]; omega
  · rw [ut_ne _ _ (by omega)]
    by_cases e : k = j
    · subst e; rw [ut_same, s.fr]
    · rw [ut_ne _ _ (by omega), ut_ne _ _ (by omega)]; exact s.up k (by omega) h2
  · rw [ut_ne _ _ (by omega), ut_ne _ _ (by omega), ut_ne _ _ (by omega)]
theorem kpop_empty (r : Rep h (stkM n B v)) (s : SI n v 0) : CallW Try.prog main S 28 #[ptr (B 0), .pointer none] h δ (Ret (Det (.tuple #[.int .i64 0, .bool false]) h δ)) := by
  have ci := stk_items r
  have cl := stk_list r
  refine CallW.start (n := 47) rfl rfl ?_
  (repeat (first | refine EK.seq ?_ | refine EK.region ?_ | refine ER.done ?_ | refine EK.skip ?_ | refine ER.move rfl rfl rfl ?_ | refine ER.assign rfl rfl rfl ?_ | refine ER.nilCheck rfl rfl rfl ?_ | refine ER.fieldAddr rfl rfl rfl ?_ | refine ER.eqV rfl rfl rfl rfl rfl ?_ | refine ER.pickF rfl rfl rfl rfl ?_ | refine ER.cmpF rfl rfl rfl rfl rfl (by first | (dsimp only [cmpP]; omega) | exact rfl | exact Int.le_refl _) ?_ | refine ER.len1 rfl rfl rfl ?_ | refine EK.condF rfl ?_ | refine ER.load1 rfl rfl rfl (by assumption) ?_))
  refine ER.callD rfl rfl rfl rfl rfl (get_none (c := 2) r (.inl rfl) s.top) ?_
  (repeat (first | refine EK.seq ?_ | refine EK.region ?_ | refine ER.done ?_ | refine ER.move rfl rfl rfl ?_ | refine ER.assign rfl rfl rfl ?_ | refine ER.cmpT rfl rfl rfl rfl rfl (by first | (dsimp only [cmpP]; omega) | exact rfl | exact Int.le_refl _) ?_ | refine EK.condT rfl ?_ | refine EK.ret ?_))
  exact EU.ret2 rfl rfl rfl det
theorem si_new {n : Nat} (hn1 : 1 <= n) (hn : n <= 4096) : SI n (fun k => if k = 2 then 0 else if k = 3 then 1 else if k % 2 = 0 then (((k - 4) / 2 + 1) % (n + 1) : Nat) else 0) 0 := by
  refine ⟨rfl, fun k h1 h2 => by omega, ?_, fun k h1 h2 => ?_⟩
  · have : 0 < n := by omega
    simp [this]
  · rw [if_neg (by omega), if_neg (by omega), if_pos (by omega), show (4 + 2 * k - 4) / 2 + 1 = k + 1 by omega]
    by_cases e : k < n
    · rw [if_pos e, Nat.mod_eq_of_lt (by omega)]; rfl
    · rw [if_neg e, show k + 1 = n + 1 by omega, Nat.mod_self]; rfl
set_option maxRecDepth 8000 in
set_option maxHeartbeats 4000000 in
theorem stkworks_ok {h : Hp} : CallW Try.prog main NoS 12 #[] h δ (Ret fun w h' δ' => w = .bool true /\ Upd (fun _ => False) h h' /\ δ' = δ) := by
  refine CallW.start (n := 65) rfl rfl ?_
  (repeat (first | refine EK.seq ?_ | refine EK.region ?_ | refine ER.done ?_ | refine ER.assign rfl rfl rfl ?_))
  refine ER.callR rfl rfl rfl rfl rfl (stknew_ok (n := 2) (by omega) (by omega) (fun _ _ _ x => x)) ?_
  rintro _ h1 δ1 ⟨rfl, u1, B, rfl, r1, ab⟩
  have own : ∀ b, KOwn 2 B b -> h.size <= b := fun b ⟨k, hk, e⟩ => e ▸ ab k hk
  have kf : KFree NoS δ1.g 2 B := fun _ _ _ x => x
  have s1 := si_new (n := 2) (by omega) (by omega)
  revert r1 s1
  generalize (fun k => if k = 2 then (0 : Int) else if k = 3 then 1 else if k % 2 = 0 then (((k - 4) / 2 + 1) % (2 + 1) : Nat) else 0) = v1
  intro r1 s1
  (repeat (first | refine EK.seq ?_ | refine EK.region ?_ | refine ER.done ?_ | refine ER.move rfl rfl rfl ?_ | refine ER.assign rfl rfl rfl ?_ | refine ER.eqV rfl rfl rfl rfl rfl ?_ | refine ER.pickF rfl rfl rfl rfl ?_ | refine ER.extract rfl rfl rfl rfl ?_ | refine ER.cmpF rfl rfl rfl rfl rfl (by first | (dsimp only [cmpP]; omega) | exact rfl | exact Int.le_refl _) ?_))
  refine ER.callR rfl rfl rfl rfl rfl (kpush_ok (j := 0) (x := 7) r1 (by omega) (by omega) s1 kf) ?_
  rintro _ h2 δ2 ⟨rfl, rfl, ⟨v2, r2, s2, x2, y2⟩, u2⟩
  replace u1 := u1.over u2 own
  (repeat (first | refine ER.move rfl rfl rfl ?_ | refine ER.pickF rfl rfl rfl rfl ?_ | refine ER.cmpF rfl rfl rfl rfl rfl (by first | (dsimp only [cmpP]; omega) | exact rfl | exact Int.le_refl _) ?_))
  refine ER.callR rfl rfl rfl rfl rfl (kpush_ok (j := 1) (x := 8) r2 (by omega) (by omega) s2 kf) ?_
  rintro _ h3 δ3 ⟨rfl, rfl, ⟨v3, r3, s3, x3, y3⟩, u3⟩
  replace u1 := u1.over u3 own
  (repeat (first | refine ER.move rfl rfl rfl ?_ | refine ER.pickF rfl rfl rfl rfl ?_ | refine ER.cmpF rfl rfl rfl rfl rfl (by first | (dsimp only [cmpP]; omega) | exact rfl | exact Int.le_refl _) ?_))
  refine ER.callD rfl rfl rfl rfl rfl (kpush_full r3 (by omega) s3) ?_
  (repeat (first | refine EK.seq ?_ | refine EK.region ?_ | refine ER.done ?_ | refine EK.skip ?_ | refine ER.move rfl rfl rfl ?_ | refine ER.pickF rfl rfl rfl rfl ?_ | refine ER.cmpF rfl rfl rfl rfl rfl (by first | (dsimp only [cmpP]; omega) | exact rfl | exact Int.le_refl _) ?_ | refine EK.condF rfl ?_))
  refine ER.callR rfl rfl rfl rfl rfl (kpop_ok (j := 2) (x := 8) r3 (by omega) (by omega) (by omega) s3 x3 kf) ?_
  rintro _ h4 δ4 ⟨rfl, rfl, ⟨v4, r4, s4, y4⟩, u4⟩
  replace u1 := u1.over u4 own
  (repeat (first | refine EK.seq ?_ | refine EK.region ?_ | refine ER.done ?_ | refine ER.move rfl rfl rfl ?_ | refine ER.assign rfl rfl rfl ?_ | refine ER.extract rfl rfl rfl rfl ?_))
  refine ER.callR rfl rfl rfl rfl rfl (kpop_ok (j := 1) (x := 7) r4 (by omega) (by omega) (by omega) s4 (by rw [y4, y3 1 (by omega)]; exact x2) kf) ?_
  rintro _ h5 δ5 ⟨rfl, rfl, ⟨v5, r5, s5, y5⟩, u5⟩
  replace u1 := u1.over u5 own
  (repeat (first | refine EK.seq ?_ | refine EK.region ?_ | refine ER.done ?_ | refine ER.move rfl rfl rfl ?_ | refine ER.assign rfl rfl rfl ?_ | refine ER.extract rfl rfl rfl rfl ?_))
  refine ER.callD rfl rfl rfl rfl rfl (kpop_empty r5 s5) ?_
  (repeat (first | refine EK.seq ?_ | refine EK.region ?_ | refine ER.done ?_ | refine ER.move rfl rfl rfl ?_ | refine ER.assign rfl rfl rfl ?_ | refine ER.notB rfl rfl rfl ?_ | refine ER.pickT rfl rfl rfl rfl ?_ | refine ER.extract rfl rfl rfl rfl ?_ | refine ER.cmpT rfl rfl rfl rfl rfl (by first | (dsimp only [cmpP]; omega) | exact rfl | exact Int.le_refl _) ?_ | refine EK.ret ?_))
  exact EU.ret1 rfl rfl ⟨rfl, u1, rfl⟩
end
end
section
open Go Go.TJ Go.Conc Go.Proofs
section
variable {A : Type}
def getP (B : Nat -> Nat) (c : Nat) (k : Int -> Pr A) : Nat -> Pr A
  | 0 => .done
  | n + 1 => .step ⟨1, B c, 0, 0⟩ fun h => if h % 65536 = 0 then k 0 else .step ⟨1, B (4 + 2 * (h % 65536).toNat), 0, 0⟩ fun m => .step ⟨3, B c, h, laidZ h m⟩ fun w => if w = h then k (h % 65536) else getP B c k n
def layP (B : Nat -> Nat) (c x : Nat) (k : Pr A) : Nat -> Pr A
  | 0 => .done
  | n + 1 => .step ⟨1, B c, 0, 0⟩ fun h => .step ⟨2, B (4 + 2 * x), h % 65536, 0⟩ fun _ => .step ⟨3, B c, h, laidZ h x⟩ fun w => if w = h then k else layP B c x k n
def pushP (B : Nat -> Nat) (v : Int) (k : Int -> Pr A) (f : Nat) : Pr A := getP B 3 (fun x => if x = 0 then k 12 else .step ⟨2, B (5 + 2 * x.toNat), v, 0⟩ fun _ => layP B 2 x.toNat (k 0) f) f
def popP (B : Nat -> Nat) (k : Int -> Bool -> Pr A) (f : Nat) : Pr A := getP B 2 (fun x => if x = 0 then k 0 false else .step ⟨1, B (5 + 2 * x.toNat), 0, 0⟩ fun v => layP B 3 x.toNat (k v true) f) f
end
structure StkH (n : Nat) (B : Nat -> Nat) (h : Hp) : Prop where
  o0 : h[B 0]? = some (.cells #[ptr (B 2), ptr (B 3), .slice (some ⟨B 1, 0, none⟩) (n + 1) (n + 1)] 224 (0, 0))
  o1 : h[B 1]? = some (.cells (itemsL (n + 1) B).toArray 228 (0, 0))
structure JStk (n : Nat) (B : Nat -> Nat) (v : Nat -> Int) : Prop where
  l : v (B 2) % 65536 <= n
  f : v (B 3) % 65536 <= n
  x : ∀ k, 1 <= k -> k <= n -> 0 <= v (B (4 + 2 * k)) /\ v (B (4 + 2 * k)) <= n
def Fine (n : Nat) (B : Nat -> Nat) (r : Rq) : Prop :=
  r.op = 1 \/ (r.op = 3 /\ (r.b = B 2 \/ r.b = B 3) /\ r.new % 65536 <= n) \/ (r.op = 2 /\ ∃ k, 1 <= k /\ k <= n /\ r.b = B (4 + 2 * k) /\ 0 <= r.arg /\ r.arg <= n) \/ (r.op = 2 /\ ∃ k, 1 <= k /\ k <= n /\ r.b = B (5 + 2 * k))
theorem JStk.fine {n : Nat} {B : Nat -> Nat} {v : Nat -> Int} {r : Rq} (inj : ∀ j k, 2 <= j -> j < 6 + 2 * n -> 2 <= k -> k < 6 + 2 * n -> B j = B k -> j = k) (J : JStk n B v) (f : Fine n B r) : JStk n B (ut v r.b (behind r.op (v r.b) r.arg r.new).1) := by
  rcases f with f | ⟨f, hb, hn⟩ | ⟨f, k, h1, h2, hb, h3, h4⟩ | ⟨f, k, h1, h2, hb⟩
  · have : (behind r.op (v r.b) r.arg r.new).1 = v r.b := by rw [f]; rfl
    rw [this, ut_self]; exact J
  · have e : (behind r.op (v r.b) r.arg r.new).1 = if v r.b = r.arg then r.new else v r.b := by rw [f]; unfold behind; by_cases h : v r.b = r.arg <;> simp [h]
    have hx : ∀ k, 1 <= k -> k <= n -> B (4 + 2 * k) ≠ r.b := fun k h1 h2 e => by
      rcases hb with hb | hb
      · have := inj (4 + 2 * k) 2 (by omega) (by omega) (by omega) (by omega) (e.trans hb); omega
      · have := inj (4 + 2 * k) 3 (by omega) (by omega) (by omega) (by omega) (e.trans hb); omega
    refine ⟨?_, ?_, fun k h1 h2 => by rw [ut_ne _ _ (hx k h1 h2)]; exact J.x k h1 h2⟩
    · by_cases e2 : B 2 = r.b
      · rw [e2, ut_same, e]
        split
        · exact hn
        · rw [<- e2]; exact J.l
      · rw [ut_ne _ _ e2]; exact J.l
    · by_cases e2 : B 3 = r.b
      · rw [e2, ut_same, e]
        split
        · exact hn
        · rw [<- e2]; exact J.f
      · rw [ut_ne _ _ e2]; exact J.f
  · have e : (behind r.op (v r.b) r.arg r.new).1 = r.arg := by rw [f]; rfl
    rw [e]
    refine ⟨?_, ?_, fun j j1 j2 => ?_⟩
    · rw [ut_ne _ _ (fun e => by have := inj 2 (4 + 2 * k) (by omega) (by omega) (by omega) (by omega) (e.trans hb); omega)]; exact J.l
    · rw [ut_ne _ _ (fun e => by have := inj 3 (4 + 2 * k) (by omega) (by omega) (by omega) (by omega) (e.trans hb); omega)]; exact J.f
    · by_cases e2 : B (4 + 2 * j) = r.b
      · rw [e2, ut_same]; exact ⟨h3, h4⟩
      · rw [ut_ne _ _ e2]; exact J.x j j1 j2
  · have e : (behind r.op (v r.b) r.arg r.new).1 = r.arg := by rw [f]; rfl
    rw [e]
    refine ⟨?_, ?_, fun j j1 j2 => ?_⟩
    · rw [ut_ne _ _ (fun e => by have := inj 2 (5 + 2 * k) (by omega) (by omega) (by omega) (by omega) (e.trans hb); omega)]; exact J.l
    · rw [ut_ne _ _ (fun e => by have := inj 3 (5 + 2 * k) (by omega) (by omega) (by omega) (by omega) (e.trans hb); omega)]; exact J.f
    · rw [ut_ne _ _ (fun e => by have := inj (4 + 2 * j) (5 + 2 * k) (by omega) (by omega) (by omega) (by omega) (e.trans hb); omega)]; exact J.x j j1 j2
section
variable {X : Us} [HasE X] {A : Type} {P : Nat -> Pr A} {told : X.U -> Nat -> List A} {n : Nat} {B : Nat -> Nat} {i : Nat} {γ γ' : GG X} {u : X.U} {L : List (Nat × Obj)} {h : Hp}
omit [HasE X] in
def PendS (n : Nat) (B : Nat -> Nat) (i : Nat) (γ : GG X) : Prop := γ.p.st i = .born \/ ∃ r, γ.p.st i = .stands r /\ Fine n B r
structure StkX (X : Us) [HasE X] {A : Type} (P : Nat -> Pr A) (told : X.U -> Nat -> List A) (n : Nat) (B : Nat -> Nat) : Prop where
  ok : X.Ok
  prog : Prog X P told
  cell : ∀ k, 2 <= k -> k < 6 + 2 * n -> k ≠ 4 -> k ≠ 5 -> X.isC (B k)
  mem : ∀ u h, X.I u h -> StkH n B h
  jv : ∀ l u v, X.J l u v -> JStk n B v
  j : ∀ {i : Nat} {γ : GG X} {u : X.U} {L : List (Nat × Obj)} {h : Hp} {r : Rq} {k : Int -> Pr A}, Thr X i γ u L h -> PendS n B i γ -> HasE.E (X := X) i γ.p.u u -> Goes i (P i) (ownOf i (γ.p.acc i).log) (told u i) (.step r k) -> X.J (γ.p.acc i).log u (γ.p.acc i).val
  er : ∀ i u, HasE.E (X := X) i u u
  hn1 : 1 <= n
  hn : n <= 4096
structure AtP (X : Us) [HasE X] {A : Type} (P : Nat -> Pr A) (told : X.U -> Nat -> List A) (n : Nat) (B : Nat -> Nat) (i : Nat) (γ : GG X) (u : X.U) (L : List (Nat × Obj)) (h : Hp) (p : Pr A) : Prop where
  thr : Thr X i γ u L h
  res : Res P told i γ u p
  pend : PendS n B i γ
  ext : HasE.E (X := X) i γ.p.u u
structure Nxt (X : Us) [HasE X] {A : Type} (P : Nat -> Pr A) (told : X.U -> Nat -> List A) (n : Nat) (B : Nat -> Nat) (i : Nat) (γ : GG X) (u : X.U) (L : List (Nat × Obj)) (γ' : GG X) (h' : Hp) (p : Pr A) : Prop where
  al : Along X i γ.p γ'.p
  at_ : AtP X P told n B i γ' γ'.p.u L h' p
  V : X.V i u γ'.p.u
  len : (ownOf i (γ.p.acc i).log).length < (ownOf i (γ'.p.acc i).log).length
theorem Nxt.trans {γ1 γ2 : GG X} {h1 h2 : Hp} {p1 p2 : Pr A} (hX : X.Ok) (a : Nxt X P told n B i γ u L γ1 h1 p1) (b : Nxt X P told n B i γ1 γ1.p.u L γ2 h2 p2) : Nxt X P told n B i γ u L γ2 h2 p2 :=
  ⟨a.al.trans b.al, b.at_, hX.vtrans _ _ _ _ a.V b.V, Nat.lt_trans a.len b.len⟩
theorem own_le {l : List Ev} : (ownOf i l).length <= l.length := List.length_filter_le _ _
theorem AtP.len {p : Pr A} (a : AtP X P told n B i γ u L h p) : (ownOf i (γ.p.acc i).log).length <= 65536 := by
  have h1 : (ownOf i (γ.p.acc i).log).length <= (γ.p.acc i).log.length := own_le
  have h2 : (γ.p.acc i).log.length <= γ.p.log.length + 1 := by
    unfold PS.acc
    split
    · simp
    · omega
  have := a.thr.len
  omega
theorem Nxt.of (K : StkX X P told n B) {r : Rq} {k : Int -> Pr A} {h' : Hp} (a : AtP X P told n B i γ u L h (.step r k)) (hf : Fine n B r) (T : Thr X i γ' γ'.p.u L h') (st : Stood X i γ u r γ') : Nxt X P told n B i γ u L γ' h' (k (γ'.p.val r.b)) /\ JStk n B γ'.p.val :=
  ⟨⟨st.al, ⟨T, a.res.did K.prog st, .inr ⟨r, st.st, hf⟩, K.er _ _⟩, st.V, by rw [st.after]; simp⟩, K.jv _ _ _ T.J⟩
theorem loadS (K : StkX X P told n B) {b : Nat} {k : Int -> Pr A} (a : AtP X P told n B i γ u L h (.step ⟨1, b, 0, 0⟩ k)) (hb : X.isC b) {t : Nat} (ht : t = γ.p.tb i) : CallW Try.prog false (SitT Try.prog (PX X) (i + 1)) 97 #[ptr b, ptr t] h ⟨0, γ⟩ (RetP (fun w h' δ' => ∃ γ' : GG X, δ' = ⟨0, γ'⟩ /\ w = .int .i64 (γ'.p.val b) /\ Nxt X P told n B i γ u L γ' h' (k (γ'.p.val b)) /\ JStk n B γ'.p.val) (Halt X i γ.p)) := by
  subst ht
  refine (cloadT K.ok a.thr hb (a.res.asks K.prog (K.j a.thr a.pend a.ext a.res))).conseqP ?_
  rintro w h' δ' ⟨γ', rfl, T, st, rfl⟩
  obtain ⟨x, y⟩ := Nxt.of K a (.inl rfl) T st
  exact ⟨γ', rfl, rfl, x, y⟩
theorem storeS (K : StkX X P told n B) {b : Nat} {v : Int} {k : Int -> Pr A} (a : AtP X P told n B i γ u L h (.step ⟨2, b, v, 0⟩ k)) (hb : X.isC b) (hf : Fine n B ⟨2, b, v, 0⟩) {t : Nat} (ht : t = γ.p.tb i) : CallW Try.prog false (SitT Try.prog (PX X) (i + 1)) 95 #[ptr b, ptr t, .int .i64 v] h ⟨0, γ⟩ (RetP (fun w h' δ' => ∃ γ' : GG X, δ' = ⟨0, γ'⟩ /\ w = .tuple #[] /\ Nxt X P told n B i γ u L γ' h' (k (γ'.p.val b)) /\ JStk n B γ'.p.val) (Halt X i γ.p)) := by
  subst ht
  refine (cstoreT K.ok a.thr hb (a.res.asks K.prog (K.j a.thr a.pend a.ext a.res))).conseqP ?_
  rintro w h' δ' ⟨γ', rfl, T, st, rfl⟩
  obtain ⟨x, y⟩ := Nxt.of K a hf T st
  exact ⟨γ', rfl, rfl, x, y⟩
theorem casS (K : StkX X P told n B) {b : Nat} {v c : Int} {k : Int -> Pr A} (a : AtP X P told n B i γ u L h (.step ⟨3, b, v, c⟩ k)) (hb : X.isC b) (hf : Fine n B ⟨3, b, v, c⟩) {t : Nat} (ht : t = γ.p.tb i) : CallW Try.prog false (SitT Try.prog (PX X) (i + 1)) 106 #[ptr b, ptr t, .int .i64 v, .int .i64 c] h ⟨0, γ⟩ (RetP (fun w h' δ' => ∃ γ' : GG X, δ' = ⟨0, γ'⟩ /\ w = .bool (decide (γ'.p.val b = v)) /\ Nxt X P told n B i γ u L γ' h' (k (γ'.p.val b)) /\ JStk n B γ'.p.val) (Halt X i γ.p)) := by
  subst ht
  refine (ccasT K.ok a.thr hb (a.res.asks K.prog (K.j a.thr a.pend a.ext a.res))).conseqP ?_
  rintro w h' δ' ⟨γ', rfl, T, st, rfl⟩
  obtain ⟨x, y⟩ := Nxt.of K a hf T st
  exact ⟨γ', rfl, rfl, x, y⟩
end
end
section
open Go Go.TJ Go.Conc Go.Proofs
section
variable {X : Us} [HasE X] {A : Type} {P : Nat -> Pr A} {told : X.U -> Nat -> List A} {n : Nat} {B : Nat -> Nat} {i : Nat} {γ γ' : GG X} {u : X.U} {L : List (Nat × Obj)} {h : Hp}
theorem StkH.item (s : StkH n B h) {k : Nat} (hk : k <= n) : hcell h ⟨B 1, 0 + k * 2, none⟩ = some (ptr (B (4 + 2 * k))) /\ hcell h ⟨B 1, 0 + k * 2 + 1, none⟩ = some (ptr (B (5 + 2 * k))) := by
  have := itemsL_get (n := n + 1) B (i := k) (by omega)
  rw [show 0 + k * 2 = 2 * k by omega]
  exact ⟨hcell_of s.o1 (by simp only [List.getElem?_toArray]; exact this.1), hcell_of s.o1 (by simp only [List.getElem?_toArray]; exact this.2)⟩
set_option maxRecDepth 8000 in
set_option maxHeartbeats 4000000 in
theorem get_T (K : StkX X P told n B) {c f : Nat} {k : Int -> Pr A} (a : AtP X P told n B i γ u L h (getP B c k f)) (hc : c = 2 \/ c = 3) (hf : 65536 < f + (ownOf i (γ.p.acc i).log).length) {t : Nat} (ht : t = γ.p.tb i) :
    CallW Try.prog false (SitT Try.prog (PX X) (i + 1)) 94 #[ptr (B 0), ptr t, ptr (B c)] h ⟨0, γ⟩ (RetP (fun w h' δ' => ∃ (γ' : GG X) (x : Nat), δ' = ⟨0, γ'⟩ /\ w = .int .i64 x /\ x <= n /\ Nxt X P told n B i γ u L γ' h' (k x)) (Halt X i γ.p)) := by
  subst ht
  have hn := K.hn
  refine CallW.start (n := 35) rfl rfl ?_
  (repeat (first | refine EK.seq ?_ | refine EK.region ?_ | refine ER.done ?_ | refine EK.block ?_ | refine ER.assign rfl rfl rfl ?_))
  refine EK.loopInv (fun _ : GG X × X.U × Nat => [(0, ptr (B 0)), (1, ptr (γ.p.tb i)), (2, ptr (B c))]) (fun q h' δ' => δ' = ⟨0, q.1⟩ /\ AtP X P told n B i q.1 q.2.1 L h' (getP B c k q.2.2) /\ Along X i γ.p q.1.p /\ X.V i u q.2.1 /\ (ownOf i (γ.p.acc i).log).length <= (ownOf i (q.1.p.acc i).log).length /\ 65536 < q.2.2 + (ownOf i (q.1.p.acc i).log).length) (fun q => q.2.2) (γ, u, f) ⟨rfl, rfl, rfl, trivial⟩ ⟨rfl, a, Along.refl _ _, K.ok.vrefl _ _, Nat.le_refl _, hf⟩ ?_
  clear a hf
  rintro ⟨γ1, u1, f1⟩ h1 δ1 ⟨hδ, a1, al, hV, hle, hf1⟩ again
  dsimp only at a1 al hV hle hf1 again hδ ⊢
  subst hδ
  have hl1 := a1.len
  obtain ⟨f2, rfl⟩ : ∃ f2, f1 = f2 + 1 := ⟨f1 - 1, by omega⟩
  have hbc : X.isC (B c) := K.cell c (by omega) (by omega) (by omega) (by omega)
  (repeat (first | refine EK.seq ?_ | refine EK.region ?_ | refine EK.block ?_ | refine ER.move rfl rfl rfl ?_))
  refine ER.callP rfl rfl rfl rfl rfl (loadS K a1 hbc al.tb.symm) (fun _ _ _ x => x.along al) ?_
  rintro _ h2 δ2 ⟨γ2, rfl, rfl, nx2, j2⟩
  generalize hv : γ2.p.val (B c) = v at nx2 ⊢
  have hvn : v % 65536 <= n := by
    rw [<- hv]
    rcases hc with rfl | rfl
    · exact j2.l
    · exact j2.f
  (repeat (first | refine EK.seq ?_ | refine EK.region ?_ | refine ER.done ?_ | refine ER.move rfl rfl rfl ?_ | refine ER.assign rfl rfl rfl ?_))
  refine ER.callD rfl rfl rfl rfl rfl node_ok ?_
  by_cases hz : v % 65536 = 0
  · rw [if_pos hz] at nx2
    rw [hz]
    (repeat (first | refine EK.seq ?_ | refine EK.region ?_ | refine ER.done ?_ | refine ER.move rfl rfl rfl ?_ | refine ER.assign rfl rfl rfl ?_ | refine ER.no rfl rfl ?_ | refine ER.pickT rfl rfl rfl rfl ?_ | refine ER.cmpT rfl rfl rfl rfl rfl (by first | (dsimp only [cmpP]; omega) | exact rfl | exact Int.le_refl _) ?_ | refine EK.condT rfl ?_ | refine EK.ret ?_))
    exact EU.ret1 rfl rfl ⟨γ2, 0, rfl, rfl, by omega, al.trans nx2.al, nx2.at_, K.ok.vtrans _ _ _ _ hV nx2.V, Nat.lt_of_le_of_lt hle nx2.len⟩
  · obtain ⟨kk, hk⟩ : ∃ kk : Nat, v % 65536 = kk := ⟨(v % 65536).toNat, by omega⟩
    rw [if_neg hz, hk, Int.toNat_natCast] at nx2
    rw [hk]
    have s2 := K.mem _ _ nx2.at_.thr.I
    have ci : hcell h2 ⟨B 0, 2, none⟩ = some (.slice (some ⟨B 1, 0, none⟩) (n + 1) (n + 1)) := hcell_of s2.o0 rfl
    have cn := (s2.item (k := kk) (by omega)).1
    have al2 := al.trans nx2.al
    clear s2
    (repeat (first | refine EK.seq ?_ | refine EK.region ?_ | refine ER.done ?_ | refine ER.move rfl rfl rfl ?_ | refine ER.assign rfl rfl rfl ?_ | refine ER.nilCheck rfl rfl rfl ?_ | refine ER.fieldAddr rfl rfl rfl ?_ | refine ER.cmpF rfl rfl rfl rfl rfl (by first | (dsimp only [cmpP]; omega) | exact rfl | exact Int.le_refl _) ?_ | refine ER.indexSl rfl rfl rfl rfl (by omega) (by omega) ?_ | refine ER.load1 rfl rfl rfl (by assumption) ?_))
    refine ER.callP rfl rfl rfl rfl rfl (loadS K nx2.at_ (K.cell (4 + 2 * kk) (by omega) (by omega) (by omega) (by omega)) al2.tb.symm) (fun _ _ _ x => x.along al2) ?_
    rintro _ h3 δ3 ⟨γ3, rfl, rfl, nx3, j3⟩
    obtain ⟨m1, m2⟩ := j3.x kk (by omega) (by omega)
    generalize γ3.p.val (B (4 + 2 * kk)) = m at nx3 m1 m2 ⊢
    have al3 := al2.trans nx3.al
    refine ER.callD rfl rfl rfl rfl rfl laid_ok ?_
    refine ER.callP rfl rfl rfl rfl rfl (casS K nx3.at_ hbc (.inr (.inl ⟨rfl, hc.imp (fun e => by rw [e]) (fun e => by rw [e]), by dsimp only; rw [laidZ_mod (by omega) (by omega)]; exact m2⟩)) al3.tb.symm) (fun _ _ _ x => x.along al3) ?_
    rintro _ h4 δ4 ⟨γ4, rfl, rfl, nx4, j4⟩
    have nx := (nx2.trans K.ok nx3).trans K.ok nx4
    have l2 := nx2.len
    have l3 := nx3.len
    have l4 := nx4.len
    by_cases hw : γ4.p.val (B c) = v
    · rw [if_pos hw] at nx
      rw [decide_eq_true hw]
      (repeat (first | refine EK.seq ?_ | refine EK.region ?_ | refine ER.done ?_ | refine ER.move rfl rfl rfl ?_ | refine ER.assign rfl rfl rfl ?_ | refine ER.pickF rfl rfl rfl rfl ?_ | refine EK.condT rfl ?_ | refine EK.ret ?_))
      exact EU.ret1 rfl rfl ⟨γ4, kk, rfl, rfl, by omega, al.trans nx.al, nx.at_, K.ok.vtrans _ _ _ _ hV nx.V, Nat.lt_of_le_of_lt hle nx.len⟩
    · rw [if_neg hw] at nx
      rw [decide_eq_false hw]
      (repeat (first | refine ER.done ?_ | refine EK.skip ?_ | refine EK.inBlock ?_ | refine ER.pickF rfl rfl rfl rfl ?_ | refine EK.condF rfl ?_))
      exact EK.back (again (γ4, γ4.p.u, f2) _ _ (by dsimp only; omega) ⟨rfl, nx.at_, al.trans nx.al, K.ok.vtrans _ _ _ _ hV nx.V, by dsimp only; omega, by dsimp only; omega⟩) ⟨rfl, rfl, rfl, trivial⟩
set_option maxRecDepth 8000 in
set_option maxHeartbeats 4000000 in
theorem lay_T (K : StkX X P told n B) {c f x : Nat} {k : Pr A} (a : AtP X P told n B i γ u L h (layP B c x k f)) (hc : c = 2 \/ c = 3) (hx1 : 1 <= x) (hxn : x <= n) (hf : 65536 < f + (ownOf i (γ.p.acc i).log).length) {t : Nat} (ht : t = γ.p.tb i) :
    CallW Try.prog false (SitT Try.prog (PX X) (i + 1)) 96 #[ptr (B 0), ptr t, ptr (B c), .int .i64 x] h ⟨0, γ⟩ (RetP (fun _ h' δ' => ∃ γ' : GG X, δ' = ⟨0, γ'⟩ /\ Nxt X P told n B i γ u L γ' h' k) (Halt X i γ.p)) := by
  subst ht
  have hn := K.hn
  refine CallW.start (n := 31) rfl rfl ?_
  (repeat refine EK.block ?_)
  refine EK.loopInv (fun _ : GG X × X.U × Nat => [(0, ptr (B 0)), (1, ptr (γ.p.tb i)), (2, ptr (B c)), (3, .int .i64 x)]) (fun q h' δ' => δ' = ⟨0, q.1⟩ /\ AtP X P told n B i q.1 q.2.1 L h' (layP B c x k q.2.2) /\ Along X i γ.p q.1.p /\ X.V i u q.2.1 /\ (ownOf i (γ.p.acc i).log).length <= (ownOf i (q.1.p.acc i).log).length /\ 65536 < q.2.2 + (ownOf i (q.1.p.acc i).log).length) (fun q => q.2.2) (γ, u, f) ⟨rfl, rfl, rfl, rfl, trivial⟩ ⟨rfl, a, Along.refl _ _, K.ok.vrefl _ _, Nat.le_refl _, hf⟩ ?_
  clear a hf
  rintro ⟨γ1, u1, f1⟩ h1 δ1 ⟨hδ, a1, al, hV, hle, hf1⟩ again
  dsimp only at a1 al hV hle hf1 again hδ ⊢
  subst hδ
  have hl1 := a1.len
  obtain ⟨f2, rfl⟩ : ∃ f2, f1 = f2 + 1 := ⟨f1 - 1, by omega⟩
  have hbc : X.isC (B c) := K.cell c (by omega) (by omega) (by omega) (by omega)
  (repeat (first | refine EK.seq ?_ | refine EK.region ?_ | refine EK.block ?_ | refine ER.move rfl rfl rfl ?_))
  refine ER.callP rfl rfl rfl rfl rfl (loadS K a1 hbc al.tb.symm) (fun _ _ _ x => x.along al) ?_
  rintro _ h2 δ2 ⟨γ2, rfl, rfl, nx2, j2⟩
  generalize hv : γ2.p.val (B c) = v at nx2 ⊢
  have hvn : v % 65536 <= n := by
    rw [<- hv]
    rcases hc with rfl | rfl
    · exact j2.l
    · exact j2.f
  have s2 := K.mem _ _ nx2.at_.thr.I
  have ci : hcell h2 ⟨B 0, 2, none⟩ = some (.slice (some ⟨B 1, 0, none⟩) (n + 1) (n + 1)) := hcell_of s2.o0 rfl
  have cn := (s2.item (k := x) hxn).1
  have al2 := al.trans nx2.al
  clear s2
  (repeat (first | refine EK.seq ?_ | refine ER.done ?_ | refine ER.assign rfl rfl rfl ?_))
  refine EK.regionAny (fun h' => hcell h' ⟨B 0, 2, none⟩ = some (.slice (some ⟨B 1, 0, none⟩) (n + 1) (n + 1)) /\ hcell h' ⟨B 1, 0 + x * 2, none⟩ = some (ptr (B (4 + 2 * x)))) ?_
  have hZ := And.intro ci cn
  refine EA.tMove 0 rfl (by kernel_rfl) rfl rfl rfl rfl hZ ?_
  refine EA.tNil 1 rfl (by kernel_rfl) rfl rfl rfl rfl hZ ?_
  refine EA.tField 2 rfl (by kernel_rfl) rfl rfl rfl rfl hZ ?_
  refine EA.tLoad 3 rfl (by kernel_rfl) rfl rfl rfl rfl (fun _ hz => hz.1) hZ ?_
  refine EA.tMove 4 rfl (by kernel_rfl) rfl rfl rfl rfl hZ ?_
  refine EA.tIdxS 5 rfl (by kernel_rfl) rfl rfl rfl rfl rfl (by omega) (by omega) hZ ?_
  refine EA.tField 6 rfl (by kernel_rfl) rfl rfl rfl rfl hZ ?_
  refine EA.tLoad 7 rfl (by kernel_rfl) rfl rfl rfl rfl (fun _ hz => hz.2) hZ ?_
  refine EA.tMove 8 rfl (by kernel_rfl) rfl rfl rfl rfl hZ ?_
  refine EA.tMove 9 rfl (by kernel_rfl) rfl rfl rfl rfl hZ ?_
  refine EA.callD 10 rfl (by kernel_rfl) rfl rfl rfl rfl rfl rfl node_ok hZ ?_
  refine eaCallP 11 rfl (by kernel_rfl) rfl rfl rfl rfl rfl rfl (storeS K nx2.at_ (K.cell (4 + 2 * x) (by omega) (by omega) (by omega) (by omega)) (.inr (.inr (.inl ⟨rfl, x, hx1, hxn, rfl, by dsimp only; omega, by dsimp only; omega⟩))) al2.tb.symm) (fun _ _ _ x => x.along al2) ?_
  rintro _ h3 δ3 ⟨γ3, rfl, rfl, nx3, j3⟩
  have s3 := K.mem _ _ nx3.at_.thr.I
  refine ⟨⟨hcell_of s3.o0 rfl, (s3.item (k := x) hxn).1⟩, ?_⟩
  refine EA.done (by kernel_rfl) ?_
  have al3 := al2.trans nx3.al
  clear s3 ci cn hZ
  (repeat (first | refine EK.seq ?_ | refine EK.region ?_ | refine ER.move rfl rfl rfl ?_))
  refine ER.callD rfl rfl rfl rfl rfl laid_ok ?_
  refine ER.callP rfl rfl rfl rfl rfl (casS K nx3.at_ hbc (.inr (.inl ⟨rfl, hc.imp (fun e => by rw [e]) (fun e => by rw [e]), by dsimp only; rw [laidZ_mod (by omega) (by omega)]; omega⟩)) al3.tb.symm) (fun _ _ _ x => x.along al3) ?_
  rintro _ h4 δ4 ⟨γ4, rfl, rfl, nx4, j4⟩
  have nx := (nx2.trans K.ok nx3).trans K.ok nx4
  have l2 := nx2.len
  have l3 := nx3.len
  have l4 := nx4.len
  by_cases hw : γ4.p.val (B c) = v
  · rw [if_pos hw] at nx
    rw [decide_eq_true hw]
    (repeat (first | refine ER.done ?_ | refine EK.condT rfl ?_ | refine EK.ret ?_))
    exact EU.ret0 rfl ⟨γ4, rfl, al.trans nx.al, nx.at_, K.ok.vtrans _ _ _ _ hV nx.V, Nat.lt_of_le_of_lt hle nx.len⟩
  · rw [if_neg hw] at nx
    rw [decide_eq_false hw]
    (repeat (first | refine ER.done ?_ | refine EK.skip ?_ | refine EK.inBlock ?_ | refine EK.condF rfl ?_))
    exact EK.back (again (γ4, γ4.p.u, f2) _ _ (by dsimp only; omega) ⟨rfl, nx.at_, al.trans nx.al, K.ok.vtrans _ _ _ _ hV nx.V, by dsimp only; omega, by dsimp only; omega⟩) ⟨rfl, rfl, rfl, rfl, trivial⟩
set_option maxRecDepth 8000 in
set_option maxHeartbeats 4000000 in
theorem push_T (K : StkX X P told n B) {f : Nat} {v : Int} {k : Int -> Pr A} (a : AtP X P told n B i γ u L h (pushP B v k f)) (hf : 65536 < f + (ownOf i (γ.p.acc i).log).length) {t : Nat} (ht : t = γ.p.tb i) :
    CallW Try.prog false (SitT Try.prog (PX X) (i + 1)) 27 #[ptr (B 0), ptr t, .int .i64 v] h ⟨0, γ⟩ (RetP (fun w h' δ' => ∃ (γ' : GG X) (e : Int), δ' = ⟨0, γ'⟩ /\ w = .int .i64 e /\ Nxt X P told n B i γ u L γ' h' (k e)) (Halt X i γ.p)) := by
  subst ht
  have hn := K.hn
  have s0 := K.mem _ _ a.thr.I
  have ci : hcell h ⟨B 0, 2, none⟩ = some (.slice (some ⟨B 1, 0, none⟩) (n + 1) (n + 1)) := hcell_of s0.o0 rfl
  have cf : hcell h ⟨B 0, 1, none⟩ = some (ptr (B 3)) := hcell_of s0.o0 rfl
  clear s0
  refine CallW.start (n := 47) rfl rfl ?_
  (repeat (first | refine EK.seq ?_ | refine EK.region ?_ | refine ER.done ?_ | refine EK.skip ?_ | refine ER.move rfl rfl rfl ?_ | refine ER.assign rfl rfl rfl ?_ | refine ER.nilCheck rfl rfl rfl ?_ | refine ER.fieldAddr rfl rfl rfl ?_ | refine ER.eqV rfl rfl rfl rfl rfl ?_ | refine ER.pickF rfl rfl rfl rfl ?_ | refine ER.cmpF rfl rfl rfl rfl rfl (by first | (dsimp only [cmpP]; omega) | exact rfl | exact Int.le_refl _) ?_ | refine ER.len1 rfl rfl rfl ?_ | refine EK.condF rfl ?_ | refine ER.load1 rfl rfl rfl (by assumption) ?_))
  refine ER.callP rfl rfl rfl rfl rfl (get_T K (c := 3) a (.inr rfl) hf rfl) (fun _ _ _ x => x) ?_
  rintro _ h1 δ1 ⟨γ1, x, rfl, rfl, hx, nx1⟩
  clear ci cf
  by_cases hx0 : x = 0
  · subst hx0
    (repeat (first | refine EK.seq ?_ | refine EK.region ?_ | refine ER.done ?_ | refine ER.move rfl rfl rfl ?_ | refine ER.assign rfl rfl rfl ?_ | refine ER.cmpT rfl rfl rfl rfl rfl (by first | (dsimp only [cmpP]; omega) | exact rfl | exact Int.le_refl _) ?_ | refine EK.condT rfl ?_ | refine EK.ret ?_))
    exact EU.ret1 rfl rfl ⟨γ1, 12, rfl, rfl, nx1⟩
  · have e0 : ¬ ((x : Int) = 0) := by omega
    rw [if_neg e0, Int.toNat_natCast] at nx1
    have s1 := K.mem _ _ nx1.at_.thr.I
    have ci : hcell h1 ⟨B 0, 2, none⟩ = some (.slice (some ⟨B 1, 0, none⟩) (n + 1) (n + 1)) := hcell_of s1.o0 rfl
    have cv := (s1.item (k := x) hx).2
    clear s1
    (repeat (first | refine EK.seq ?_ | refine EK.region ?_ | refine ER.done ?_ | refine EK.skip ?_ | refine ER.move rfl rfl rfl ?_ | refine ER.assign rfl rfl rfl ?_ | refine ER.nilCheck rfl rfl rfl ?_ | refine ER.fieldAddr rfl rfl rfl ?_ | refine ER.cmpF rfl rfl rfl rfl rfl (by first | (dsimp only [cmpP]; omega) | exact rfl | exact Int.le_refl _) ?_ | refine ER.indexSl rfl rfl rfl rfl (by omega) (by omega) ?_ | refine EK.condF rfl ?_ | refine ER.load1 rfl rfl rfl (by assumption) ?_))
    refine ER.callP rfl rfl rfl rfl rfl (storeS K nx1.at_ (K.cell (5 + 2 * x) (by omega) (by omega) (by omega) (by omega)) (.inr (.inr (.inr ⟨rfl, x, by omega, hx, rfl⟩))) nx1.al.tb.symm) (fun _ _ _ y => y.along nx1.al) ?_
    rintro _ h2 δ2 ⟨γ2, rfl, rfl, nx2, -⟩
    have nx12 := nx1.trans K.ok nx2
    have s2 := K.mem _ _ nx2.at_.thr.I
    have cl : hcell h2 ⟨B 0, 0, none⟩ = some (ptr (B 2)) := hcell_of s2.o0 rfl
    have l1 := nx1.len
    have l2 := nx2.len
    clear ci cv s2
    (repeat (first | refine EK.seq ?_ | refine EK.region ?_ | refine ER.done ?_ | refine ER.move rfl rfl rfl ?_ | refine ER.nilCheck rfl rfl rfl ?_ | refine ER.fieldAddr rfl rfl rfl ?_ | refine ER.load1 rfl rfl rfl (by assumption) ?_))
    refine ER.callP rfl rfl rfl rfl rfl (lay_T K (c := 2) (x := x) nx2.at_ (.inl rfl) (by omega) hx (by omega) nx12.al.tb.symm) (fun _ _ _ y => y.along nx12.al) ?_
    rintro _ h3 δ3 ⟨γ3, rfl, nx3⟩
    (repeat (first | refine EK.seq ?_ | refine EK.region ?_ | refine ER.done ?_ | refine ER.assign rfl rfl rfl ?_ | refine EK.ret ?_))
    exact EU.ret1 rfl rfl ⟨γ3, 0, rfl, rfl, nx12.trans K.ok nx3⟩
set_option maxRecDepth 8000 in
set_option maxHeartbeats 4000000 in
theorem pop_T (K : StkX X P told n B) {f : Nat} {k : Int -> Bool -> Pr A} (a : AtP X P told n B i γ u L h (popP B k f)) (hf : 65536 < f + (ownOf i (γ.p.acc i).log).length) {t : Nat} (ht : t = γ.p.tb i) :
    CallW Try.prog false (SitT Try.prog (PX X) (i + 1)) 28 #[ptr (B 0), ptr t] h ⟨0, γ⟩ (RetP (fun w h' δ' => ∃ (γ' : GG X) (v : Int) (e : Bool), δ' = ⟨0, γ'⟩ /\ w = .tuple #[.int .i64 v, .bool e] /\ Nxt X P told n B i γ u L γ' h' (k v e)) (Halt X i γ.p)) := by
  subst ht
  have hn := K.hn
  have s0 := K.mem _ _ a.thr.I
  have ci : hcell h ⟨B 0, 2, none⟩ = some (.slice (some ⟨B 1, 0, none⟩) (n + 1) (n + 1)) := hcell_of s0.o0 rfl
  have cl : hcell h ⟨B 0, 0, none⟩ = some (ptr (B 2)) := hcell_of s0.o0 rfl
  clear s0
  refine CallW.start (n := 47) rfl rfl ?_
  (repeat (first | refine EK.seq ?_ | refine EK.region ?_ | refine ER.done ?_ | refine EK.skip ?_ | refine ER.move rfl rfl rfl ?_ | refine ER.assign rfl rfl rfl ?_ | refine ER.nilCheck rfl rfl rfl ?_ | refine ER.fieldAddr rfl rfl rfl ?_ | refine ER.eqV rfl rfl rfl rfl rfl ?_ | refine ER.pickF rfl rfl rfl rfl ?_ | refine ER.cmpF rfl rfl rfl rfl rfl (by first | (dsimp only [cmpP]; omega) | exact rfl | exact Int.le_refl _) ?_ | refine ER.len1 rfl rfl rfl ?_ | refine EK.condF rfl ?_ | refine ER.load1 rfl rfl rfl (by assumption) ?_))
  refine ER.callP rfl rfl rfl rfl rfl (get_T K (c := 2) a (.inl rfl) hf rfl) (fun _ _ _ x => x) ?_
  rintro _ h1 δ1 ⟨γ1, x, rfl, rfl, hx, nx1⟩
  clear ci cl
  by_cases hx0 : x = 0
  · subst hx0
    (repeat (first | refine EK.seq ?_ | refine EK.region ?_ | refine ER.done ?_ | refine ER.move rfl rfl rfl ?_ | refine ER.assign rfl rfl rfl ?_ | refine ER.cmpT rfl rfl rfl rfl rfl (by first | (dsimp only [cmpP]; omega) | exact rfl | exact Int.le_refl _) ?_ | refine EK.condT rfl ?_ | refine EK.ret ?_))
    exact EU.ret2 rfl rfl rfl ⟨γ1, 0, false, rfl, rfl, nx1⟩
  · have e0 : ¬ ((x : Int) = 0) := by omega
    rw [if_neg e0, Int.toNat_natCast] at nx1
    have s1 := K.mem _ _ nx1.at_.thr.I
    have ci : hcell h1 ⟨B 0, 2, none⟩ = some (.slice (some ⟨B 1, 0, none⟩) (n + 1) (n + 1)) := hcell_of s1.o0 rfl
    have cv := (s1.item (k := x) hx).2
    clear s1
    (repeat (first | refine EK.seq ?_ | refine EK.region ?_ | refine ER.done ?_ | refine EK.skip ?_ | refine ER.move rfl rfl rfl ?_ | refine ER.assign rfl rfl rfl ?_ | refine ER.nilCheck rfl rfl rfl ?_ | refine ER.fieldAddr rfl rfl rfl ?_ | refine ER.cmpF rfl rfl rfl rfl rfl (by first | (dsimp only [cmpP]; omega) | exact rfl | exact Int.le_refl _) ?_ | refine ER.indexSl rfl rfl rfl rfl (by omega) (by omega) ?_ | refine EK.condF rfl ?_ | refine ER.load1 rfl rfl rfl (by assumption) ?_))
    refine ER.callP rfl rfl rfl rfl rfl (loadS K nx1.at_ (K.cell (5 + 2 * x) (by omega) (by omega) (by omega) (by omega)) nx1.al.tb.symm) (fun _ _ _ y => y.along nx1.al) ?_
    rintro _ h2 δ2 ⟨γ2, rfl, rfl, nx2, -⟩
    generalize γ2.p.val (B (5 + 2 * x)) = v at nx2 ⊢
    have nx12 := nx1.trans K.ok nx2
    have s2 := K.mem _ _ nx2.at_.thr.I
    have cf : hcell h2 ⟨B 0, 1, none⟩ = some (ptr (B 3)) := hcell_of s2.o0 rfl
    have l1 := nx1.len
    have l2 := nx2.len
    clear ci cv s2
    (repeat (first | refine EK.seq ?_ | refine EK.region ?_ | refine ER.done ?_ | refine ER.move rfl rfl rfl ?_ | refine ER.assign rfl rfl rfl ?_ | refine ER.nilCheck rfl rfl rfl ?_ | refine ER.fieldAddr rfl rfl rfl ?_ | refine ER.load1 rfl rfl rfl (by assumption) ?_))
    refine ER.callP rfl rfl rfl rfl rfl (lay_T K (c := 3) (x := x) nx2.at_ (.inr rfl) (by omega) hx (by omega) nx12.al.tb.symm) (fun _ _ _ y => y.along nx12.al) ?_
    rintro _ h3 δ3 ⟨γ3, rfl, nx3⟩
    (repeat (first | refine EK.seq ?_ | refine EK.region ?_ | refine ER.done ?_ | refine ER.move rfl rfl rfl ?_ | refine ER.assign rfl rfl rfl ?_ | refine EK.ret ?_))
    exact EU.ret2 rfl rfl rfl ⟨γ3, v, true, rfl, rfl, nx12.trans K.ok nx3⟩
end
end
section
open Go Go.TJ Go.Conc Go.Proofs
structure T1 (A : Type) where
  hN : Hp
  isC : Nat -> Prop
  ex : Nat -> Prop
  gB : Nat
  tG : TypeId
  e : TypeId
  sz : Nat
  enc : A -> List Value
  P : Nat -> Pr A
  v0 : Nat -> Int
  JV : (Nat -> Int) -> Prop
def T1.old {A : Type} (c : T1 A) (b : Nat) : Prop := b < c.hN.size /\ ¬ c.isC b /\ ¬ c.ex b
structure T1I {A : Type} (c : T1 A) (g : List (Nat × A)) (m : Value) (h : Hp) : Prop where
  old : ∀ b, c.old b -> b ≠ c.gB -> h[b]? = c.hN[b]?
  cell : h[c.gB]? = some (.cells #[m] c.tG (0, 0))
  sl : SliceO h m c.e c.sz g.length (g.flatMap fun x => c.enc x.2)
  new : ∀ b, blk m = some b -> ¬ c.old b /\ ¬ c.isC b
def gcL {A : Type} (c : T1 A) : GC A Value where
  isC := c.isC
  P := c.P
  v0 := c.v0
  Dom := fun m b => c.old b \/ (¬ c.isC b /\ blk m = some b)
  I := T1I c
  JV := c.JV
section
variable {A : Type} {c : T1 A} {g : List (Nat × A)} {m : Value} {h h' : Hp} {i : Nat} {a : A}
theorem SliceO.same1 {h h' : Hp} {s : Value} {e sz n : Nat} {cells : List Value} (x : SliceO h s e sz n cells) (hb : ∀ b, blk s = some b -> h'[b]? = h[b]?) : SliceO h' s e sz n cells := by
  refine ⟨x.1, x.2.imp id ?_⟩
  rintro ⟨b, cap, rest, rfl, h1, h2, h3⟩
  exact ⟨b, cap, rest, rfl, h1, h2, (hb b rfl).trans h3⟩
theorem gcL_ok (ok : c.old c.gB) : (UsG (gcL c)).Ok :=
  usG_ok (fun _g _m _h _h' hb I => ⟨fun b h1 h4 => (hb b (.inl h1)).trans (I.old b h1 h4), (hb _ (.inl ok)).trans I.cell, SliceO.same1 I.sl fun b hbb => hb b (.inr ⟨(I.new b hbb).2, hbb⟩), I.new⟩) (fun _m _b hd hc => hd.elim (fun y => y.2.1 hc) fun y => y.1 hc)
theorem T1I.oldlt (I : T1I c g m h) {b : Nat} (hb : c.old b) : b < h.size := by
  by_cases e : b = c.gB
  · rw [e]; exact lt_of_get I.cell
  · have := I.old b hb e
    rw [Array.getElem?_eq_getElem hb.1] at this
    exact lt_of_get this
theorem T1I.tell (ok : c.old c.gB) (I : T1I c g m h) {h1 : Hp} {s' : Value} (hC : ∀ b, c.isC b -> b < h.size) (up : Upd (fun b => blk m = some b) h h1) (sl : SliceO h1 s' c.e c.sz (g.length + 1) ((g.flatMap fun x => c.enc x.2) ++ c.enc a))
    (hb : ∀ b, blk s' = some b -> blk m = some b \/ h.size <= b) : T1I c (g ++ [(i, a)]) s' (hset h1 ⟨c.gB, 0, none⟩ s') := by
  have nT : ∀ b, blk m = some b -> b ≠ c.gB := fun b hbb e => (I.new b hbb).1 (e ▸ ok)
  have o1 := up.get I.cell (fun x => nT _ x rfl)
  have e1 : hset h1 ⟨c.gB, 0, none⟩ s' = h1.setIfInBounds c.gB (.cells #[s'] c.tG (0, 0)) := hset_block o1 _
  rw [e1]
  have u2 : Upd (fun b => b = c.gB) h1 (h1.setIfInBounds c.gB (.cells #[s'] c.tG (0, 0))) := Upd.set _ _ _ rfl
  have hs' : ∀ b, blk s' = some b -> ¬ c.old b /\ ¬ c.isC b := fun b hbb => by
    rcases hb b hbb with y | y
    · exact I.new b y
    · exact ⟨fun z => by have := I.oldlt z; omega, fun z => by have := hC b z; omega⟩
  refine ⟨fun b h1' h4 => ?_, get_set_same o1, ?_, hs'⟩
  · rw [get_set_ne _ (Ne.symm h4), up.2 b (I.oldlt h1') (fun x => (I.new b x).1 h1')]
    exact I.old b h1' h4
  · have := sl.upd u2 (fun b hbb e => (hs' b hbb).1 (e ▸ ok))
    simp only [List.length_append, List.length_singleton, List.flatMap_append, List.flatMap_cons, List.flatMap_nil, List.append_nil]
    exact this
section
variable {γ : GG (UsG (gcL c))} {u : (UsG (gcL c)).U} {L : List (Nat × Obj)}
theorem Thr.cl1 (T : Thr (UsG (gcL c)) i γ u L h) : ∀ b, c.isC b -> b < h.size := fun b hb => by
  obtain ⟨s, M, g⟩ := T.gi
  exact lt_of_get (g.cel b hb).1
theorem Thr.tell1 (ok : c.old c.gB) (T : Thr (UsG (gcL c)) i γ u [] h) {h1 : Hp} {s' : Value} (up : Upd (fun b => blk u.2 = some b) h h1) (sl : SliceO h1 s' c.e c.sz (u.1.length + 1) ((u.1.flatMap fun x => c.enc x.2) ++ c.enc a))
    (hb : ∀ b, blk s' = some b -> blk u.2 = some b \/ h.size <= b) : Thr (UsG (gcL c)) i γ (u.1 ++ [(i, a)], s') [] (hset h1 ⟨c.gB, 0, none⟩ s') := by
  have I : T1I c u.1 u.2 h := T.I
  have I2 := I.tell (i := i) ok T.cl1 up sl hb
  have oT : (hset h1 ⟨c.gB, 0, none⟩ s').size = h1.size := by rw [hset_size]
  let u' : (UsG (gcL c)).U := (u.1 ++ [(i, a)], s')
  show Thr (UsG (gcL c)) i γ u' [] _
  refine T.user (gcL_ok ok) (u' := u') (L' := []) ((up.mono (fun b _ x => Or.inl (Or.inr ⟨(I.new b x).2, x⟩))).trans (Upd.hset (T := fun b => (UsG (gcL c)).Dom u b \/ ∃ q, q ∈ ([] : List (Nat × Obj)) /\ q.1 = b) h1 ⟨c.gB, 0, none⟩ s' (.inl (.inl ok)))) ?_ (fun q hq => by cases hq) I2 (fun x hx => ?_)
  · rintro b (y | ⟨y1, y2⟩)
    · refine ⟨.inl (.inl y), ?_⟩
      have := I.oldlt y
      have := up.size
      omega
    · have y2' : blk s' = some b := y2
      refine ⟨?_, by rw [oT]; exact sl.lt y2'⟩
      rcases hb b y2' with z | z
      · exact .inl (.inr ⟨y1, z⟩)
      · exact .inr z
  · show toldOf x (u.1 ++ [(i, a)]) = toldOf x u.1
    rw [toldOf_app, show [(i, a)] = [a].map (fun a => (i, a)) from rfl, toldOf_other hx, List.append_nil]
end
end
end
section
open Go Go.TJ Go.Conc Go.Proofs
def tpopP (B : Nat -> Nat) (f : Nat) (k : Pr Int) : Pr Int := popP B (fun v is => if is then .emit v k else k) f
def trapP0 (B : Nat -> Nat) (f : Nat) : Pr Int := tpopP B f .done
def trapP1 (B : Nat -> Nat) (f : Nat) : Pr Int := tpopP B f (tpopP B f (pushP B 3 (fun e => if e = 0 then pushP B 4 (fun e => if e = 0 then .done else .emit (-1) .done) f else .emit (-1) .done) f))
def trapP (B : Nat -> Nat) (f : Nat) : Nat -> Pr Int
  | 0 => trapP0 B f
  | 1 => trapP1 B f
  | _ => .done
theorem getP_one {A : Type} {B : Nat -> Nat} {c : Nat} {k : Int -> Pr A} (hk : ∀ x, OneEm (k x)) : ∀ f, OneEm (getP B c k f)
  | 0 => trivial
  | f + 1 => fun h => by
    dsimp only
    split
    · exact hk 0
    · exact fun m w => by
        dsimp only
        split
        · exact hk _
        · exact getP_one hk f
theorem layP_one {A : Type} {B : Nat -> Nat} {c x : Nat} {k : Pr A} (hk : OneEm k) : ∀ f, OneEm (layP B c x k f)
  | 0 => trivial
  | f + 1 => fun h _ w => by
    dsimp only
    split
    · exact hk
    · exact layP_one hk f
theorem popP_one {A : Type} {B : Nat -> Nat} {k : Int -> Bool -> Pr A} (hk : ∀ v is, OneEm (k v is)) (f : Nat) : OneEm (popP B k f) := getP_one (fun x => by
  split
  · exact hk _ _
  · exact fun v => layP_one (hk _ _) f) f
theorem pushP_one {A : Type} {B : Nat -> Nat} {v : Int} {k : Int -> Pr A} (hk : ∀ e, OneEm (k e)) (f : Nat) : OneEm (pushP B v k f) := getP_one (fun x => by
  split
  · exact hk _
  · exact fun _ => layP_one (hk _) f) f
theorem popP_no {A : Type} {B : Nat -> Nat} {k : Int -> Bool -> Pr A} {f : Nat} : NoEm (popP B k f) := by
  unfold popP
  cases f <;> exact nofun
theorem pushP_no {A : Type} {B : Nat -> Nat} {v : Int} {k : Int -> Pr A} {f : Nat} : NoEm (pushP B v k f) := by
  unfold pushP
  cases f <;> exact nofun
theorem tpopP_one {B : Nat -> Nat} {f : Nat} {k : Pr Int} (h1 : NoEm k) (h2 : OneEm k) : OneEm (tpopP B f k) := popP_one (fun v is => by
  split
  · exact ⟨h1, h2⟩
  · exact h2) f
theorem trap_one {B : Nat -> Nat} {f : Nat} : ∀ i, OneEm (trapP B f i)
  | 0 => tpopP_one nofun trivial
  | 1 => tpopP_one popP_no (tpopP_one pushP_no (pushP_one (fun e => by
      split
      · exact pushP_one (fun e => by
          split
          · exact trivial
          · exact ⟨nofun, trivial⟩) f
      · exact ⟨nofun, trivial⟩) f))
  | _ + 2 => trivial
theorem trap_no {B : Nat -> Nat} {f : Nat} : ∀ i, NoEm (trapP B f i)
  | 0 => (popP_no : NoEm (popP B (fun v is => if is then .emit v .done else .done) f))
  | 1 => by show NoEm (trapP1 B f); unfold trapP1 tpopP; exact popP_no
  | _ + 2 => nofun
abbrev tldU {c : T1 Int} : (UsG (gcL c)).U -> Nat -> List Int := fun u i => toldOf i u.1
structure TEnv (c : T1 Int) (B : Nat -> Nat) (f sB fB : Nat) : Prop where
  g : c.old c.gB
  K : StkX (UsG (gcL c)) c.P tldU 2 B
  P : c.P = trapP B f
  hf : 65536 < f
  s : c.old sB /\ sB ≠ c.gB /\ c.hN[sB]? = some (.cells #[ptr (B 0)] 41 (0, 0))
  fn : c.old fB /\ fB ≠ c.gB /\ c.hN[fB]? = some (.cells #[.func (.func 29) #[] #[ptr sB, ptr c.gB]] 45 (0, 0))
  ty : c.tG = 64 /\ c.e = 2 /\ c.sz = 1 /\ c.enc = fun v => [.int .i64 v]
structure CallG (c : T1 Int) (B : Nat -> Nat) (i : Nat) (γ : GG (UsG (gcL c))) (γ' : GG (UsG (gcL c))) (u' : (UsG (gcL c)).U) (h' : Hp) (p : Pr Int) : Prop where
  al : Along (UsG (gcL c)) i γ.p γ'.p
  at_ : AtP (UsG (gcL c)) c.P tldU 2 B i γ' u' [] h' p
section
variable {c : T1 Int} {B : Nat -> Nat} {f sB fB : Nat} {i : Nat} {γ γ' : GG (UsG (gcL c))} {u : (UsG (gcL c)).U} {h h' : Hp}
set_option maxRecDepth 8000 in
set_option maxHeartbeats 4000000 in
theorem tpop_T (E : TEnv c B f sB fB) {k : Pr Int} (a : AtP (UsG (gcL c)) c.P tldU 2 B i γ u [] h (tpopP B f k)) {t : Nat} (ht : t = γ.p.tb i) :
    CallW Try.prog false (SitT Try.prog (PX (UsG (gcL c))) (i + 1)) 29 #[ptr t, ptr sB, ptr c.gB] h ⟨0, γ⟩ (RetP (fun w h' δ' => ∃ (γ' : GG (UsG (gcL c))) (u' : (UsG (gcL c)).U), δ' = ⟨0, γ'⟩ /\ w = .tuple #[] /\ CallG c B i γ γ' u' h' k) (Halt (UsG (gcL c)) i γ.p)) := by
  subst ht
  obtain ⟨etG, eE, esz, eenc⟩ := E.ty
  have hf := E.hf
  have I0 : T1I c u.1 u.2 h := a.thr.I
  have cs : hcell h ⟨sB, 0, none⟩ = some (ptr (B 0)) := hcell_of ((I0.old _ E.s.1 E.s.2.1).trans E.s.2.2) rfl
  refine CallW.start (n := 17) rfl rfl ?_
  (repeat (first | refine EK.seq ?_ | refine EK.region ?_ | refine ER.move rfl rfl rfl ?_ | refine ER.load1 rfl rfl rfl (by assumption) ?_))
  unfold tpopP at a
  refine ER.callP rfl rfl rfl rfl rfl (pop_T E.K a (by omega) rfl) (fun _ _ _ x => x) ?_
  clear cs I0
  rintro _ h1 δ1 ⟨γ1, v, is, rfl, rfl, nx⟩
  cases is with
  | false =>
    (repeat (first | refine EK.seq ?_ | refine EK.region ?_ | refine ER.done ?_ | refine EK.skip ?_ | refine ER.move rfl rfl rfl ?_ | refine ER.assign rfl rfl rfl ?_ | refine ER.extract rfl rfl rfl rfl ?_ | refine EK.condF rfl ?_))
    exact EK.done (EU.ret0 rfl ⟨γ1, γ1.p.u, rfl, rfl, nx.al, nx.at_⟩)
  | true =>
    have at1 : AtP (UsG (gcL c)) c.P tldU 2 B i γ1 γ1.p.u [] h1 (.emit v k) := nx.at_
    (repeat (first | refine EK.seq ?_ | refine EK.region ?_ | refine ER.done ?_ | refine ER.move rfl rfl rfl ?_ | refine ER.assign rfl rfl rfl ?_ | refine ER.extract rfl rfl rfl rfl ?_ | refine EK.condT rfl ?_))
    have T1' := at1.thr
    have I1 : T1I c γ1.p.u.1 γ1.p.u.2 h1 := T1'.I
    have hlen : γ1.p.u.1.length <= 65536 := by
      obtain ⟨⟨S, R⟩, -⟩ := T1'.J
      have h2 := (R.few (by show ∀ i, OneEm (c.P i); rw [E.P]; exact trap_one)).1
      have := T1'.len
      omega
    have sl := I1.sl
    rw [eE, esz, eenc] at sl
    have cg : hcell h1 ⟨c.gB, 0, none⟩ = some γ1.p.u.2 := hcell_of I1.cell rfl
    obtain ⟨aS, kS, eS⟩ := sl.val
    rw [eS] at cg
    (repeat (first | refine ER.move rfl rfl rfl ?_ | refine ER.load1 rfl rfl rfl (by assumption) ?_))
    refine ER.slice1 (sz := 1) (z := .int .i64 0) (cells := #[.int .i64 v]) rfl rfl rfl (by omega) (by omega) (by rfl) rfl ?_
    have u6 := Upd.push (T := fun _ => False) h1 (.cells #[.int .i64 v] 2)
    have T3 := T1'.upd0 E.K.ok u6
    have I3 : T1I c γ1.p.u.1 γ1.p.u.2 (h1.push (.cells #[.int .i64 v] 2)) := T3.I
    have sl3 := I3.sl
    rw [eE, esz, eenc, eS] at sl3
    refine ER.append1 (new := [.int .i64 v]) rfl rfl rfl rfl sl3 (get_push_new _ _) rfl (by simp [OneCell]) (by omega) (by omega) (by rfl) (fun b o hb => T3.free (.inl (.inr ⟨(I3.new b (by rw [eS]; exact hb)).2, by rw [eS]; exact hb⟩))) ?_
    generalize h1.push (.cells #[.int .i64 v] 2) = h3 at T3 I3 sl3 ⊢
    intro s7 h7 sl7 u7 hb7
    rw [<- eS] at u7 hb7
    have g7 := u7.get I3.cell (fun x => (I3.new _ x).1 E.g)
    obtain ⟨a7, k7, e7⟩ := sl7.val
    refine ER.store1 rfl rfl rfl (by rw [e7]; exact ⟨nofun, nofun⟩) ⟨_, hcell_of g7 rfl⟩ (hfroz_of g7) (T3.free (.inl (.inl E.g))) ?_
    have T5 := T3.tell1 (a := v) E.g u7 (by rw [eE, esz, eenc]; exact sl7) (fun b hb => (hb7 b hb).imp id (fun e => Nat.le_of_eq e.symm))
    (repeat refine ER.done ?_)
    refine EK.done (EU.ret0 rfl ⟨γ1, (γ1.p.u.1 ++ [(i, v)], s7), rfl, rfl, nx.al, ⟨T5, ?_, at1.pend, ⟨[v], rfl⟩⟩⟩)
    show Goes i (c.P i) (ownOf i (γ1.p.acc i).log) (toldOf i (γ1.p.u.1 ++ [(i, v)])) k
    rw [toldOf_app, show [(i, v)] = [v].map (fun a => (i, a)) from rfl, toldOf_own]
    exact Goes.tell at1.res
set_option maxRecDepth 8000 in
set_option maxHeartbeats 4000000 in
theorem tboth_T (E : TEnv c B f sB fB) (a : AtP (UsG (gcL c)) c.P tldU 2 B i γ u [] h (trapP1 B f)) {t : Nat} (ht : t = γ.p.tb i) :
    CallW Try.prog false (SitT Try.prog (PX (UsG (gcL c))) (i + 1)) 30 #[ptr t, ptr fB, ptr sB, ptr c.gB] h ⟨0, γ⟩ (RetP (fun w h' δ' => ∃ (γ' : GG (UsG (gcL c))) (u' : (UsG (gcL c)).U), δ' = ⟨0, γ'⟩ /\ w = .tuple #[] /\ CallG c B i γ γ' u' h' .done) (Halt (UsG (gcL c)) i γ.p)) := by
  subst ht
  obtain ⟨etG, eE, esz, eenc⟩ := E.ty
  have hf := E.hf
  have zs : ∀ {γ : GG (UsG (gcL c))} {u : (UsG (gcL c)).U} {L : List (Nat × Obj)} {h : Hp}, Thr (UsG (gcL c)) i γ u L h -> hcell h ⟨sB, 0, none⟩ = some (ptr (B 0)) := fun T => hcell_of (((T.I : T1I c _ _ _).old _ E.s.1 E.s.2.1).trans E.s.2.2) rfl
  have zf : ∀ {γ : GG (UsG (gcL c))} {u : (UsG (gcL c)).U} {L : List (Nat × Obj)} {h : Hp}, Thr (UsG (gcL c)) i γ u L h -> hcell h ⟨fB, 0, none⟩ = some (.func (.func 29) #[] #[ptr sB, ptr c.gB]) := fun T => hcell_of (((T.I : T1I c _ _ _).old _ E.fn.1 E.fn.2.1).trans E.fn.2.2) rfl
  have c1 := zf a.thr
  refine CallW.start (n := 24) rfl rfl ?_
  (repeat (first | refine EK.seq ?_ | refine EK.region ?_ | refine ER.move rfl rfl rfl ?_ | refine ER.load1 rfl rfl rfl (by assumption) ?_))
  unfold trapP1 at a
  refine ER.callP rfl rfl rfl rfl rfl (tpop_T E a rfl) (fun _ _ _ x => x) ?_
  clear c1 a
  rintro _ h1 δ1 ⟨γ1, u1, rfl, rfl, al1, at1⟩
  have c1 := zf at1.thr
  (repeat (first | refine EK.seq ?_ | refine EK.region ?_ | refine ER.done ?_ | refine ER.move rfl rfl rfl ?_ | refine ER.load1 rfl rfl rfl (by assumption) ?_))
  refine ER.callP rfl rfl rfl rfl rfl (tpop_T E at1 al1.tb.symm) (fun _ _ _ x => x.along al1) ?_
  clear c1 at1
  rintro _ h2 δ2 ⟨γ2, u2, rfl, rfl, al2, at2⟩
  have al02 := al1.trans al2
  have c2 := zs at2.thr
  (repeat (first | refine EK.seq ?_ | refine EK.region ?_ | refine ER.done ?_ | refine ER.move rfl rfl rfl ?_ | refine ER.load1 rfl rfl rfl (by assumption) ?_))
  refine ER.callP rfl rfl rfl rfl rfl (push_T E.K at2 (by omega) al02.tb.symm) (fun _ _ _ x => x.along al02) ?_
  clear c2 at2
  rintro _ h3 δ3 ⟨γ3, e3, rfl, rfl, nx3⟩
  have al03 := al02.trans nx3.al
  by_cases he3 : e3 = 0
  · have at3 := nx3.at_
    rw [if_pos he3] at at3
    subst he3
    have c3 := zs at3.thr
    (repeat (first | refine ER.move rfl rfl rfl ?_ | refine ER.cmpF rfl rfl rfl rfl rfl (by first | (dsimp only [cmpP]; omega) | exact rfl | exact Int.le_refl _) ?_ | refine ER.load1 rfl rfl rfl (by assumption) ?_))
    refine ER.callP rfl rfl rfl rfl rfl (push_T E.K at3 (by omega) al03.tb.symm) (fun _ _ _ x => x.along al03) ?_
    clear c3 at3
    rintro _ h4 δ4 ⟨γ1, e4, rfl, rfl, nx4⟩
    have al04 := al03.trans nx4.al
    by_cases he4 : e4 = 0
    · have at4 := nx4.at_
      rw [if_pos he4] at at4
      subst he4
      (repeat (first | refine ER.done ?_ | refine EK.skip ?_ | refine ER.pickF rfl rfl rfl rfl ?_ | refine ER.cmpF rfl rfl rfl rfl rfl (by first | (dsimp only [cmpP]; omega) | exact rfl | exact Int.le_refl _) ?_ | refine EK.condF rfl ?_))
      exact EK.done (EU.ret0 rfl ⟨γ1, γ1.p.u, rfl, rfl, al04, at4⟩)
    · have at1 := nx4.at_
      rw [if_neg he4] at at1
      clear nx4 nx3
      revert at1 al04
      generalize h4 = h1
      intro al04 at1
      (repeat (first | refine EK.region ?_ | refine ER.done ?_ | refine ER.pickF rfl rfl rfl rfl ?_ | refine ER.cmpT rfl rfl rfl rfl rfl (by first | (dsimp only [cmpP]; omega) | exact rfl | exact Int.le_refl _) ?_ | refine EK.condT rfl ?_))
      have T1' := at1.thr
      have I1 : T1I c γ1.p.u.1 γ1.p.u.2 h1 := T1'.I
      have hlen : γ1.p.u.1.length <= 65536 := by
        obtain ⟨⟨S, R⟩, -⟩ := T1'.J
        have h2 := (R.few (by show ∀ i, OneEm (c.P i); rw [E.P]; exact trap_one)).1
        have := T1'.len
        omega
      have sl := I1.sl
      rw [eE, esz, eenc] at sl
      have cg : hcell h1 ⟨c.gB, 0, none⟩ = some γ1.p.u.2 := hcell_of I1.cell rfl
      obtain ⟨aS, kS, eS⟩ := sl.val
      rw [eS] at cg
      (repeat refine ER.load1 rfl rfl rfl (by assumption) ?_)
      refine ER.slice1 (sz := 1) (z := .int .i64 0) (cells := #[.int .i64 (-1)]) rfl rfl rfl (by omega) (by omega) (by rfl) rfl ?_
      have u6 := Upd.push (T := fun _ => False) h1 (.cells #[.int .i64 (-1)] 2)
      have T3 := T1'.upd0 E.K.ok u6
      have I3 : T1I c γ1.p.u.1 γ1.p.u.2 (h1.push (.cells #[.int .i64 (-1)] 2)) := T3.I
      have sl3 := I3.sl
      rw [eE, esz, eenc, eS] at sl3
      refine ER.append1 (new := [.int .i64 (-1)]) rfl rfl rfl rfl sl3 (get_push_new _ _) rfl (by simp [OneCell]) (by omega) (by omega) (by rfl) (fun b o hb => T3.free (.inl (.inr ⟨(I3.new b (by rw [eS]; exact hb)).2, by rw [eS]; exact hb⟩))) ?_
      generalize h1.push (.cells #[.int .i64 (-1)] 2) = h3 at T3 I3 sl3 ⊢
      intro s7 h7 sl7 u7 hb7
      rw [<- eS] at u7 hb7
      have g7 := u7.get I3.cell (fun x => (I3.new _ x).1 E.g)
      obtain ⟨a7, k7, e7⟩ := sl7.val
      refine ER.store1 rfl rfl rfl (by rw [e7]; exact ⟨nofun, nofun⟩) ⟨_, hcell_of g7 rfl⟩ (hfroz_of g7) (T3.free (.inl (.inl E.g))) ?_
      have T5 := T3.tell1 (a := (-1)) E.g u7 (by rw [eE, esz, eenc]; exact sl7) (fun b hb => (hb7 b hb).imp id (fun e => Nat.le_of_eq e.symm))
      (repeat refine ER.done ?_)
      refine EK.done (EU.ret0 rfl ⟨γ1, (γ1.p.u.1 ++ [(i, -1)], s7), rfl, rfl, al04, ⟨T5, ?_, at1.pend, ⟨[-1], rfl⟩⟩⟩)
      show Goes i (c.P i) (ownOf i (γ1.p.acc i).log) (toldOf i (γ1.p.u.1 ++ [(i, -1)])) .done
      rw [toldOf_app, show [(i, (-1 : Int))] = [-1].map (fun a => (i, a)) from rfl, toldOf_own]
      exact Goes.tell at1.res
  · have at1 := nx3.at_
    rw [if_neg he3] at at1
    clear nx3
    revert at1 al03
    generalize h3 = h1, γ3 = γ1
    intro al03 at1
    (repeat (first | refine EK.region ?_ | refine ER.done ?_ | refine ER.move rfl rfl rfl ?_ | refine ER.no rfl rfl ?_ | refine ER.pickT rfl rfl rfl rfl ?_ | refine ER.cmpT rfl rfl rfl rfl rfl (by first | (dsimp only [cmpP]; omega) | exact rfl | exact Int.le_refl _) ?_ | refine EK.condT rfl ?_))
    have T1' := at1.thr
    have I1 : T1I c γ1.p.u.1 γ1.p.u.2 h1 := T1'.I
    have hlen : γ1.p.u.1.length <= 65536 := by
      obtain ⟨⟨S, R⟩, -⟩ := T1'.J
      have h2 := (R.few (by show ∀ i, OneEm (c.P i); rw [E.P]; exact trap_one)).1
      have := T1'.len
      omega
    have sl := I1.sl
    rw [eE, esz, eenc] at sl
    have cg : hcell h1 ⟨c.gB, 0, none⟩ = some γ1.p.u.2 := hcell_of I1.cell rfl
    obtain ⟨aS, kS, eS⟩ := sl.val
    rw [eS] at cg
    (repeat refine ER.load1 rfl rfl rfl (by assumption) ?_)
    refine ER.slice1 (sz := 1) (z := .int .i64 0) (cells := #[.int .i64 (-1)]) rfl rfl rfl (by omega) (by omega) (by rfl) rfl ?_
    have u6 := Upd.push (T := fun _ => False) h1 (.cells #[.int .i64 (-1)] 2)
    have T3 := T1'.upd0 E.K.ok u6
    have I3 : T1I c γ1.p.u.1 γ1.p.u.2 (h1.push (.cells #[.int .i64 (-1)] 2)) := T3.I
    have sl3 := I3.sl
    rw [eE, esz, eenc, eS] at sl3
    refine ER.append1 (new := [.int .i64 (-1)]) rfl rfl rfl rfl sl3 (get_push_new _ _) rfl (by simp [OneCell]) (by omega) (by omega) (by rfl) (fun b o hb => T3.free (.inl (.inr ⟨(I3.new b (by rw [eS]; exact hb)).2, by rw [eS]; exact hb⟩))) ?_
    generalize h1.push (.cells #[.int .i64 (-1)] 2) = h3 at T3 I3 sl3 ⊢
    intro s7 h7 sl7 u7 hb7
    rw [<- eS] at u7 hb7
    have g7 := u7.get I3.cell (fun x => (I3.new _ x).1 E.g)
    obtain ⟨a7, k7, e7⟩ := sl7.val
    refine ER.store1 rfl rfl rfl (by rw [e7]; exact ⟨nofun, nofun⟩) ⟨_, hcell_of g7 rfl⟩ (hfroz_of g7) (T3.free (.inl (.inl E.g))) ?_
    have T5 := T3.tell1 (a := (-1)) E.g u7 (by rw [eE, esz, eenc]; exact sl7) (fun b hb => (hb7 b hb).imp id (fun e => Nat.le_of_eq e.symm))
    (repeat refine ER.done ?_)
    refine EK.done (EU.ret0 rfl ⟨γ1, (γ1.p.u.1 ++ [(i, -1)], s7), rfl, rfl, al03, ⟨T5, ?_, at1.pend, ⟨[-1], rfl⟩⟩⟩)
    show Goes i (c.P i) (ownOf i (γ1.p.acc i).log) (toldOf i (γ1.p.u.1 ++ [(i, -1)])) .done
    rw [toldOf_app, show [(i, (-1 : Int))] = [-1].map (fun a => (i, a)) from rfl, toldOf_own]
    exact Goes.tell at1.res
theorem tover {p : Pr Int} (E : TEnv c B f sB fB) (_al : Along (UsG (gcL c)) i γ.p γ'.p) (a : AtP (UsG (gcL c)) c.P tldU 2 B i γ' u [] h p) (hp : p = .done) (hv : ∀ {γ : GG (UsG (gcL c))} {u : (UsG (gcL c)).U} {L : List (Nat × Obj)} {h : Hp}, Thr (UsG (gcL c)) i γ u L h -> PendS 2 B i γ -> c.JV (γ.p.acc i).val) : (UsG (gcL c)).J (γ'.p.acc i).log u (γ'.p.acc i).val := by
  subst hp
  exact usG_j (c := gcL c) (by show ∀ i, NoEm (c.P i); rw [E.P]; exact trap_no) a.thr a.res nofun a.ext (hv a.thr a.pend)
end
end
section
open Go Go.TJ Go.Conc Go.Proofs
section
variable {A : Type}
theorem Goes.split {i : Nat} {P q : Pr A} {l2 : List Ev} : ∀ {l1 : List Ev} {o : List A}, Goes i P (l1 ++ l2) o q -> ∃ o1 o2 m, Goes i P l1 o1 m /\ Goes i m l2 o2 q /\ o = o1 ++ o2 := by
  intro l1 o g
  generalize hl : l1 ++ l2 = l at g
  induction g generalizing l1 with
  | nil p =>
    obtain ⟨rfl, rfl⟩ := List.append_eq_nil_iff.1 hl
    exact ⟨[], [], p, .nil _, .nil _, rfl⟩
  | emit _ ih =>
    obtain ⟨o1, o2, m, h1, h2, rfl⟩ := ih hl
    exact ⟨_, _, m, .emit h1, h2, rfl⟩
  | @step r k q l o w g' ih =>
    cases l1 with
    | nil =>
      have e : l2 = evOf i r w :: l := hl
      subst e
      exact ⟨[], o, _, .nil _, .step w g', rfl⟩
    | cons e l1 =>
      injection hl with h1 h2
      subst h1
      obtain ⟨o1, o2, m, g1, g2, rfl⟩ := ih h2
      exact ⟨_, _, m, .step w g1, g2, rfl⟩
theorem Goes.first {i : Nat} {P q : Pr A} {l : List Ev} {o : List A} (g : Goes i P l o q) (hl : l ≠ []) : ∃ r k, (Go.Proofs.Ytcpcdnkemobneaa.norm P).2 = Pr.step r k := by
  induction g with
  | nil => exact absurd rfl hl
  | emit _ ih => exact ih hl
  | step => exact ⟨_, _, rfl⟩
def asks : Pr A -> Bool
  | .step _ _ => true
  | _ => false
def aliveS (nb : Nat) (S : Nat -> Pr A) : List Nat := (List.range nb).filter fun j => asks (S j)
inductive Sched (P : Nat -> Pr A) (v0 : Nat -> Int) (picks : List Int) (nb : Nat) : List Ev -> List (Nat × A) -> (Nat -> Pr A) -> (Nat -> Int) -> Prop
  | init : Sched P v0 picks nb [] [] P v0
  | step {l : List Ev} {g : List (Nat × A)} {S : Nat -> Pr A} {v : Nat -> Int} {i : Nat} {r : Rq} {k : Int -> Pr A} : Sched P v0 picks nb l g S v -> S i = .step r k -> i = pickOf picks (l.map (·.thr)) (aliveS nb S) ->
      Sched P v0 picks nb (l ++ [evOf i r (v r.b)]) (g ++ (norm (k (v r.b))).1.map fun a => (i, a)) (ut S i (norm (k (v r.b))).2) (ut v r.b (behind r.op (v r.b) r.arg r.new).1)
variable {P : Nat -> Pr A} {v0 v : Nat -> Int} {l : List Ev} {g : List (Nat × A)} {S : Nat -> Pr A} {picks : List Int} {nb : Nat}
theorem sched_of {X : Us} {told : X.U -> Nat -> List A} {p : PS X.U} (h0 : ∀ i, NoEm (P i)) (pr : Prog X P told) (R : Reg X v0 picks nb p) (hQ : ∀ x, X.Q x (ownOf x p.log) (p.st x) p.u) : ∀ {l : List Ev} {g : List (Nat × A)} {S : Nat -> Pr A} {v : Nat -> Int}, GReach P v0 l g S v -> ∀ l', p.log = l ++ l' -> Sched P v0 picks nb l g S v := by
  have al : ∀ {l : List Ev} {g : List (Nat × A)} {S : Nat -> Pr A} {v : Nat -> Int}, GReach P v0 l g S v -> ∀ l', p.log = l ++ l' -> aliveAt p l.length = aliveS nb S := by
    intro l g S v x l' hl
    unfold aliveAt aliveS
    rw [R.num]
    refine List.filter_congr fun j hj => ?_
    have hj := List.mem_range.1 hj
    rw [hl, List.drop_left]
    obtain ⟨g1, g2⟩ := x.goes h0 j
    obtain ⟨q, hq, hs⟩ := (pr.Q _ _ _ _).1 (hQ j)
    have own : ownOf j p.log = ownOf j l ++ ownOf j l' := by rw [hl]; simp [ownOf]
    rw [own] at hq
    by_cases hn : ownOf j l' = []
    · have none : l'.any (fun e => e.thr == j) = false := by
        rw [List.any_eq_false]
        intro e he
        have := List.filter_eq_nil_iff.1 hn e he
        simpa using this
      rw [hn, List.append_nil] at hq
      rw [none, Bool.or_false]
      rcases R.alive j hj with ⟨a1, r, a2, -⟩ | ⟨a1, a2⟩
      · rw [a2] at hs
        obtain ⟨k, rfl⟩ := hs
        have := (hq.det g1 nofun g2).2
        rw [a1, this]; rfl
      · rw [a2] at hs
        subst hs
        have := (hq.det g1 nofun g2).2
        rw [a1, this]; rfl
    · obtain ⟨o1, o2, m, m1, m2, -⟩ := hq.split
      have m3 := m1.norm
      have e1 := (m3.det g1 (norm_no _) g2).2
      obtain ⟨r, k, e2⟩ := m2.first hn
      rw [e1, e2]
      have some : l'.any (fun e => e.thr == j) = true := by
        obtain ⟨e, he⟩ := List.exists_mem_of_ne_nil _ hn
        obtain ⟨h1, h2⟩ := List.mem_filter.1 he
        exact List.any_eq_true.2 ⟨e, h1, h2⟩
      rw [some, Bool.or_true]
      rfl
  intro l g S v x
  induction x with
  | init => exact fun _ _ => .init
  | @step l g S v i r k x hS ih =>
    intro l' hl
    have hl2 : p.log = l ++ (evOf i r (v r.b) :: l') := by rw [hl]; simp
    have s := ih _ hl2
    refine .step s hS ?_
    have hk : p.log[l.length]? = some (evOf i r (v r.b)) := by rw [hl2]; simp
    obtain ⟨-, h2, -⟩ := R.turns l.length _ hk
    rw [al x _ hl2] at h2
    rw [hl2, List.take_left] at h2
    exact h2
def simS (picks : List Int) (nb : Nat) (s : List Ev × List (Nat × A) × (Nat -> Pr A) × (Nat -> Int)) : List Ev × List (Nat × A) × (Nat -> Pr A) × (Nat -> Int) :=
  match s.2.2.1 (pickOf picks (s.1.map (·.thr)) (aliveS nb s.2.2.1)) with
  | .step r k => (s.1 ++ [evOf (pickOf picks (s.1.map (·.thr)) (aliveS nb s.2.2.1)) r (s.2.2.2 r.b)], s.2.1 ++ (norm (k (s.2.2.2 r.b))).1.map (fun a => (pickOf picks (s.1.map (·.thr)) (aliveS nb s.2.2.1), a)), ut s.2.2.1 (pickOf picks (s.1.map (·.thr)) (aliveS nb s.2.2.1)) (norm (k (s.2.2.2 r.b))).2, ut s.2.2.2 r.b (behind r.op (s.2.2.2 r.b) r.arg r.new).1)
  | _ => s
def simN (picks : List Int) (nb : Nat) : Nat -> List Ev × List (Nat × A) × (Nat -> Pr A) × (Nat -> Int) -> List Ev × List (Nat × A) × (Nat -> Pr A) × (Nat -> Int)
  | 0, s => s
  | n + 1, s => simS picks nb (simN picks nb n s)
theorem Sched.sim (x : Sched P v0 picks nb l g S v) : simN picks nb l.length ([], [], P, v0) = (l, g, S, v) := by
  induction x with
  | init => rfl
  | @step l g S v i r k x hS hi ih =>
    rw [List.length_append, List.length_singleton]
    show simS picks nb (simN picks nb l.length ([], [], P, v0)) = _
    rw [ih]
    unfold simS
    dsimp only
    rw [<- hi, hS]
theorem alive_none {nb : Nat} (hnb : 0 < nb) (h : aliveS nb S = []) (went : List Nat) : ∀ r k, S (pickOf picks went (aliveS nb S)) ≠ .step r k := by
  rw [h]
  have e : pickOf picks went [] = 0 := by
    unfold pickOf placed roundOf
    split <;> simp
  rw [e]
  intro r k hr
  have := List.filter_eq_nil_iff.1 h 0 (List.mem_range.2 hnb)
  rw [hr] at this
  exact this rfl
theorem Sched.stay (x : Sched P v0 picks nb l g S v) (hnb : 0 < nb) (h : aliveS nb S = []) : ∀ m, simN picks nb (l.length + m) ([], [], P, v0) = (l, g, S, v)
  | 0 => x.sim
  | m + 1 => by
    show simS picks nb (simN picks nb (l.length + m) ([], [], P, v0)) = _
    rw [x.stay hnb h m]
    unfold simS
    dsimp only
    have := alive_none (picks := picks) hnb h (l.map (·.thr))
    split
    · rename_i r k e; exact absurd e (this r k)
    · rfl
def mapPr (B : Nat -> Nat) : Pr A -> Pr A
  | .done => .done
  | .emit a k => .emit a (mapPr B k)
  | .step r k => .step { r with b := B r.b } fun z => mapPr B (k z)
theorem norm_map {B : Nat -> Nat} : ∀ p : Pr A, norm (mapPr B p) = ((norm p).1, mapPr B (norm p).2)
  | .done => rfl
  | .step _ _ => rfl
  | .emit a k => by
    show (a :: (norm (mapPr B k)).1, (norm (mapPr B k)).2) = _
    rw [norm_map k]; rfl
theorem asks_map {B : Nat -> Nat} (p : Pr A) : asks (mapPr B p) = asks p := by cases p <;> rfl
theorem Sched.unmap {B : Nat -> Nat} (inj : ∀ j k, B j = B k -> j = k) {Q : Nat -> Pr A} (x : Sched (fun i => mapPr B (Q i)) v0 picks nb l g S v) : ∃ l' S', Sched Q (fun k => v0 (B k)) picks nb l' g S' (fun k => v (B k)) /\ S = (fun i => mapPr B (S' i)) /\ l = l'.map fun e => { e with b := B e.b } := by
  generalize hP : (fun i => mapPr B (Q i)) = P at x
  induction x with
  | init => exact ⟨[], Q, .init, hP.symm, rfl⟩
  | @step l g S v i r k x hS hi ih =>
    obtain ⟨l', S', y, rfl, rfl⟩ := ih
    have hS2 : mapPr B (S' i) = .step r k := hS
    cases hq : S' i with
    | done => rw [hq] at hS2; cases hS2
    | emit a q => rw [hq] at hS2; cases hS2
    | step r' k' =>
      rw [hq] at hS2
      injection hS2 with h1 h2
      subst h1 h2
      have ha : aliveS nb (fun i => mapPr B (S' i)) = aliveS nb S' := by
        unfold aliveS
        exact List.filter_congr fun j _ => asks_map _
      have ht : (l'.map fun e => { e with b := B e.b }).map (·.thr) = l'.map (·.thr) := by simp
      rw [ha, ht] at hi
      have s2 := Sched.step y hq hi
      refine ⟨l' ++ [evOf i r' (v (B r'.b))], ut S' i (norm (k' (v (B r'.b)))).2, ?_, ?_, ?_⟩
      · dsimp only
        rw [norm_map]
        have e4 : (fun q => ut v (B r'.b) (behind r'.op (v (B r'.b)) r'.arg r'.new).1 (B q)) = ut (fun q => v (B q)) r'.b (behind r'.op (v (B r'.b)) r'.arg r'.new).1 := by
          funext q
          by_cases e : q = r'.b
          · subst e; rw [ut_same, ut_same]
          · rw [ut_ne _ _ e, ut_ne _ _ (fun h => e (inj _ _ h))]
        rw [e4]
        exact s2
      · funext j
        dsimp only
        rw [norm_map]
        by_cases e : j = i
        · subst e; rw [ut_same, ut_same]
        · rw [ut_ne _ _ e, ut_ne _ _ e]
      · rw [List.map_append]; rfl
end
end
section
open Go Go.TJ Go.Conc Go.Proofs
def pushV (v : Nat -> Int) (k : Nat) (x : Int) : Nat -> Int := ut (ut (ut (ut v 3 (laidZ (v 3) (v (4 + 2 * k)))) (5 + 2 * k) x) (4 + 2 * k) (v 2 % 65536)) 2 (laidZ (v 2) k)
section
variable {Γ : Type} {main : Bool} {S : Sit Γ} {h : Hp} {δ : Ix Γ} {n : Nat} {B : Nat -> Nat} {v : Nat -> Int}
set_option maxRecDepth 8000 in
set_option maxHeartbeats 1000000 in
theorem kpushX {k : Nat} {x : Int} (r : Rep h (stkM n B v)) (hn : n <= 4096) (hk : v 3 % 65536 = k) (hk1 : 1 <= k) (hkn : k <= n) (hS : KFree S δ.g n B) :
    CallW Try.prog main S 27 #[ptr (B 0), .pointer none, .int .i64 x] h δ (Ret fun w h' δ' => w = .int .i64 0 /\ δ' = δ /\ Rep h' (stkM n B (pushV v k x)) /\ Upd (KOwn n B) h h') := by
  have ci := stk_items r
  have cf := stk_free r
  refine CallW.start (n := 47) rfl rfl ?_
  (repeat (first | refine EK.seq ?_ | refine EK.region ?_ | refine ER.done ?_ | refine EK.skip ?_ | refine ER.move rfl rfl rfl ?_ | refine ER.assign rfl rfl rfl ?_ | refine ER.nilCheck rfl rfl rfl ?_ | refine ER.fieldAddr rfl rfl rfl ?_ | refine ER.eqV rfl rfl rfl rfl rfl ?_ | refine ER.pickF rfl rfl rfl rfl ?_ | refine ER.cmpF rfl rfl rfl rfl rfl (by first | (dsimp only [cmpP]; omega) | exact rfl | exact Int.le_refl _) ?_ | refine ER.len1 rfl rfl rfl ?_ | refine EK.condF rfl ?_ | refine ER.load1 rfl rfl rfl (by assumption) ?_))
  refine ER.callR rfl rfl rfl rfl rfl (get_some (c := 3) (k := k) r hn (.inr rfl) hk hk1 hkn hS) ?_
  rintro _ h1 δ1 ⟨rfl, rfl, r1, u1⟩
  clear ci cf
  have ci := stk_items r1
  have cv := stk_val r1 (k := k) hkn
  (repeat (first | refine EK.seq ?_ | refine EK.region ?_ | refine ER.done ?_ | refine EK.skip ?_ | refine ER.move rfl rfl rfl ?_ | refine ER.assign rfl rfl rfl ?_ | refine ER.nilCheck rfl rfl rfl ?_ | refine ER.fieldAddr rfl rfl rfl ?_ | refine ER.cmpF rfl rfl rfl rfl rfl (by first | (dsimp only [cmpP]; omega) | exact rfl | exact Int.le_refl _) ?_ | refine ER.indexSl rfl rfl rfl rfl (by omega) (by omega) ?_ | refine EK.condF rfl ?_ | refine ER.load1 rfl rfl rfl (by assumption) ?_))
  refine ER.callD rfl rfl rfl rfl rfl (cstore (stk_cell r1 (k := 5 + 2 * k) (by omega) (by omega) rfl) (fun o => hS _ o (by omega))) ?_
  have r2 := stk_set r1 (k := 5 + 2 * k) (by omega) (by omega) x
  have u2 := Upd.set (T := KOwn n B) h1 (B (5 + 2 * k)) (cellO x) ⟨_, by omega, rfl⟩
  clear ci cv
  generalize h1.setIfInBounds (B (5 + 2 * k)) (cellO x) = h2 at r2 u2 ⊢
  have cl := stk_list r2
  (repeat (first | refine EK.seq ?_ | refine EK.region ?_ | refine ER.done ?_ | refine ER.move rfl rfl rfl ?_ | refine ER.nilCheck rfl rfl rfl ?_ | refine ER.fieldAddr rfl rfl rfl ?_ | refine ER.load1 rfl rfl rfl (by assumption) ?_))
  refine ER.callR rfl rfl rfl rfl rfl (lay_ok (c := 2) (k := k) r2 hn (.inl rfl) hk1 hkn hS) ?_
  rintro _ h3 δ3 ⟨rfl, r3, u3⟩
  (repeat (first | refine EK.seq ?_ | refine EK.region ?_ | refine ER.done ?_ | refine ER.assign rfl rfl rfl ?_ | refine EK.ret ?_))
  have e2 : ut (ut v 3 (laidZ (v 3) (v (4 + 2 * k)))) (5 + 2 * k) x 2 = v 2 := by rw [ut_ne _ _ (by omega), ut_ne _ _ (by omega)]
  rw [e2] at r3
  exact EU.ret1 rfl rfl ⟨rfl, rfl, r3, (u1.trans u2).trans u3⟩
end
def v0T : Nat -> Int := fun k => if k = 2 then 131074 else if k = 3 then 131072 else if k = 6 then 0 else if k = 7 then 1 else if k = 8 then 1 else if k = 9 then 2 else if k = 4 then 1 else 0
def vNewT : Nat -> Int := fun k => if k = 2 then 0 else if k = 3 then 1 else if k % 2 = 0 then (((k - 4) / 2 + 1) % (2 + 1) : Nat) else 0
theorem v0T_eq : ∀ k, k < 10 -> 2 <= k -> pushV (pushV vNewT 1 1) 2 2 k = v0T k := by decide
theorem getP_map {A : Type} {B : Nat -> Nat} {c : Nat} {k : Int -> Pr A} : ∀ f, mapPr B (getP id c k f) = getP B c (fun x => mapPr B (k x)) f
  | 0 => rfl
  | f + 1 => by
    unfold getP
    show Pr.step _ _ = _
    congr 1
    funext h
    dsimp only
    split
    · rfl
    · show Pr.step _ _ = _
      congr 1
      funext m
      show Pr.step _ _ = _
      congr 1
      funext w
      dsimp only
      split
      · rfl
      · exact getP_map f
theorem layP_map {A : Type} {B : Nat -> Nat} {c x : Nat} {k : Pr A} : ∀ f, mapPr B (layP id c x k f) = layP B c x (mapPr B k) f
  | 0 => rfl
  | f + 1 => by
    unfold layP
    show Pr.step _ _ = _
    congr 1
    funext h
    show Pr.step _ _ = _
    congr 1
    funext m
    show Pr.step _ _ = _
    congr 1
    funext w
    dsimp only
    split
    · rfl
    · exact layP_map f
theorem popP_map {A : Type} {B : Nat -> Nat} {k : Int -> Bool -> Pr A} {f : Nat} : mapPr B (popP id k f) = popP B (fun v is => mapPr B (k v is)) f := by
  unfold popP
  rw [getP_map]
  congr 1
  funext x
  split
  · rfl
  · show Pr.step _ _ = _
    congr 1
    funext v
    exact layP_map f
theorem pushP_map {A : Type} {B : Nat -> Nat} {v : Int} {k : Int -> Pr A} {f : Nat} : mapPr B (pushP id v k f) = pushP B v (fun e => mapPr B (k e)) f := by
  unfold pushP
  rw [getP_map]
  congr 1
  funext x
  split
  · rfl
  · show Pr.step _ _ = _
    congr 1
    funext v
    exact layP_map f
theorem tpopP_map {B : Nat -> Nat} {f : Nat} {k : Pr Int} : mapPr B (tpopP id f k) = tpopP B f (mapPr B k) := by
  unfold tpopP
  rw [popP_map]
  congr 1
  funext v is
  cases is <;> rfl
theorem trap_map {B : Nat -> Nat} {f : Nat} : (fun i => mapPr B (trapP id f i)) = trapP B f := by
  funext i
  match i with
  | 0 => exact tpopP_map
  | 1 =>
    show mapPr B (tpopP id f (tpopP id f (pushP id 3 _ f))) = _
    rw [tpopP_map, tpopP_map, pushP_map]
    show tpopP B f (tpopP B f (pushP B 3 _ f)) = trapP1 B f
    unfold trapP1
    congr 3
    funext e
    split
    · rw [pushP_map]
      congr 1
      funext e
      split <;> rfl
    · rfl
  | i + 2 => rfl
def picksT : List Int := [0, 0] ++ List.replicate 30 1
def endT : List Ev × List (Nat × Int) × (Nat -> Pr Int) × (Nat -> Int) := simN picksT 2 200 ([], [], trapP id 65537, v0T)
end
section
open Go Go.TJ Go.Conc Go.Proofs
set_option maxRecDepth 100000 in
theorem endT_g : endT.2.1 = [(1, 2), (1, 1), (0, 4)] := by kernel_rfl
set_option maxRecDepth 100000 in
set_option maxRecDepth 100000 in
theorem endT_len : Nat.blt endT.1.length 200 = true := by kernel_rfl
set_option maxRecDepth 100000 in
theorem endT_fail : (endT.1.filter fun e => e.thr == 0 && (e.op == 3 && !e.ok)).length = 1 := by kernel_rfl
set_option maxRecDepth 100000 in
theorem endT_v : endT.2.2.2 2 % 65536 = 1 /\ endT.2.2.2 6 = 0 /\ endT.2.2.2 3 % 65536 = 2 /\ endT.2.2.2 8 = 0 /\ endT.2.2.2 7 = 3 := ⟨by kernel_rfl, by kernel_rfl, by kernel_rfl, by kernel_rfl, by kernel_rfl⟩
theorem end_of {B : Nat -> Nat} (inj : ∀ j k, B j = B k -> j = k) {X : Us} {told : X.U -> Nat -> List Int} {v0 : Nat -> Int} (hv0 : (fun k => v0 (B k)) = v0T) {p : PS X.U} (pr : Prog X (trapP B 65537) told) (R : Reg X v0 picksT 2 p) (hQ : ∀ x, X.Q x (ownOf x p.log) (p.st x) p.u) (how : (p.live 2 = [] /\ p.log.length <= 200) \/ (p.live 2 ≠ [] /\ p.log.length = 200)) {g : List (Nat × Int)} {S : Nat -> Pr Int} {v : Nat -> Int} (hG : GReach (trapP B 65537) v0 p.log g S v) :
    g = endT.2.1 /\ (fun k => v (B k)) = endT.2.2.2 /\ p.log = endT.1.map (fun e => { e with b := B e.b }) /\ p.live 2 = [] := by
  have s1 := sched_of (nb := 2) trap_no pr R hQ hG [] (by simp)
  rw [<- trap_map] at s1
  obtain ⟨l', S', s2, hS, hl⟩ := s1.unmap inj
  rw [hv0] at s2
  have hlen : p.log.length = l'.length := by rw [hl]; simp
  have key : simN picksT 2 200 ([], [], trapP id 65537, v0T) = (l', g, S', fun k => v (B k)) := by
    rcases how with ⟨h1, h2⟩ | ⟨h1, h2⟩
    · have ha : aliveS 2 S' = [] := by
        have e1 : aliveS 2 S = aliveS 2 S' := by
          rw [hS]; unfold aliveS; exact List.filter_congr fun j _ => asks_map _
        rw [<- e1]
        refine List.filter_eq_nil_iff.2 fun j hj => ?_
        have hj := List.mem_range.1 hj
        obtain ⟨q, hq, hs⟩ := (pr.Q _ _ _ _).1 (hQ j)
        have g1 := hG.goes trap_no j
        rcases R.alive j hj with ⟨a1, -⟩ | ⟨a1, a2⟩
        · have : j ∈ p.live 2 := mem_live.2 ⟨hj, a1⟩
          rw [h1] at this; cases this
        · rw [a2] at hs
          subst hs
          have := (hq.det g1.1 nofun g1.2).2
          rw [this]; simp [asks]
      have := s2.stay (by decide) ha (200 - l'.length)
      rw [show l'.length + (200 - l'.length) = 200 by omega] at this
      exact this
    · have := s2.sim
      rw [show l'.length = 200 by omega] at this
      exact this
  have e1 : endT = (l', g, S', fun k => v (B k)) := key
  have n1 : l'.length < 200 := by
    have := endT_len
    rw [e1] at this
    exact Nat.le_of_ble_eq_true this
  refine ⟨by rw [e1], by rw [e1], by rw [e1]; exact hl, ?_⟩
  rcases how with ⟨h1, h2⟩ | ⟨h1, h2⟩
  · exact h1
  · omega
end
section
open Go Go.TJ Go.Conc Go.Proofs
def isCT (B : Nat -> Nat) (b : Nat) : Prop := ∃ k, 2 <= k /\ k < 10 /\ k ≠ 4 /\ k ≠ 5 /\ b = B k
abbrev popF (sB gB : Nat) : Value := .func (.func 29) #[] #[ptr sB, ptr gB]
abbrev bothF (fB sB gB : Nat) : Value := .func (.func 30) #[] #[ptr fB, ptr sB, ptr gB]
structure TPre (B : Nat -> Nat) (v1 : Nat -> Int) (hN : Hp) (sB gB fB : Nat) (pv bv : Value) : Prop where
  rep : Rep hN (stkM 2 B v1)
  inj : ∀ j k, B j = B k -> j = k
  v1 : ∀ k, k < 10 -> 2 <= k -> v1 k = v0T k
  s : hN[sB]? = some (.cells #[ptr (B 0)] 41 (0, 0))
  g : hN[gB]? = some (.cells #[nilS] 64 (0, 0))
  f : hN[fB]? = some (.cells #[popF sB gB] 45 (0, 0))
  bods : SliceO hN bv 45 1 2 [popF sB gB, bothF fB sB gB]
  fb : blk bv ≠ some fB
  pk : SliceO hN pv 3 1 32 (picksT.map fun x => .int .i64 x)
def tcT (B : Nat -> Nat) (v0 : Nat -> Int) (hN : Hp) (gB : Nat) (pv bv : Value) : T1 Int where
  hN := hN
  isC := isCT B
  ex := fun b => blk bv = some b \/ blk pv = some b
  gB := gB
  tG := 64
  e := 2
  sz := 1
  enc := fun v => [.int .i64 v]
  P := trapP B 65537
  v0 := v0
  JV := JStk 2 B
section
variable {B : Nat -> Nat} {v1 v0 : Nat -> Int} {hN : Hp} {sB gB fB : Nat} {pv bv : Value}
theorem TPre.cell (x : TPre B v1 hN sB gB fB pv bv) {k : Nat} (h2 : 2 <= k) (hk : k < 10) : hN[B k]? = some (cellO (v0T k)) := stk_cell x.rep h2 hk (x.v1 k hk h2)
theorem TPre.notC (x : TPre B v1 hN sB gB fB pv bv) {y : Nat} {a : Array Value} {t : TypeId} (hy : hN[y]? = some (.cells a t (0, 0))) (ht : t ≠ 317) : ¬ isCT B y := by
  rintro ⟨k, h2, hk, -, -, rfl⟩
  rw [x.cell h2 hk] at hy
  injection hy with hy
  injection hy with _ hy _
  exact ht hy.symm
theorem TPre.old (x : TPre B v1 hN sB gB fB pv bv) {y : Nat} {a : Array Value} {t : TypeId} (hy : hN[y]? = some (.cells a t (0, 0))) (ht : t ≠ 317) (h1 : blk bv ≠ some y) (h2 : t ≠ 3) : (tcT B v0 hN gB pv bv).old y :=
  ⟨lt_of_get hy, x.notC hy ht, fun e => e.elim (fun e => h1 e) (fun e => sliceO_ne x.pk hy (Ne.symm h2) y e rfl)⟩
theorem TPre.nb (x : TPre B v1 hN sB gB fB pv bv) {y : Nat} {a : Array Value} {t : TypeId} (hy : hN[y]? = some (.cells a t (0, 0))) (h1 : t ≠ 45) : blk bv ≠ some y := fun e => sliceO_ne x.bods hy (Ne.symm h1) y e rfl
theorem TPre.neG (x : TPre B v1 hN sB gB fB pv bv) {y : Nat} {a : Array Value} {t : TypeId} (hy : hN[y]? = some (.cells a t (0, 0))) (ht : t ≠ 64) : y ≠ gB := fun e => by
  rw [e, x.g] at hy
  injection hy with hy
  injection hy with _ hy _
  exact ht hy.symm
theorem jstkT (hv0 : (fun k => v0 (B k)) = v0T) : JStk 2 B v0 := by
  have e : ∀ k, v0 (B k) = v0T k := fun k => congrFun hv0 k
  refine ⟨?_, ?_, fun k h1 h2 => ?_⟩
  · rw [e]; decide
  · rw [e]; decide
  · rw [e]
    rcases (show k = 1 \/ k = 2 by omega) with rfl | rfl <;> decide
theorem tpend (x : TPre B v1 hN sB gB fB pv bv) {i : Nat} {γ : GG (UsG (gcL (tcT B v0 hN gB pv bv)))} {u : (UsG (gcL (tcT B v0 hN gB pv bv))).U} {L : List (Nat × Obj)} {h : Hp} (T : Thr (UsG (gcL (tcT B v0 hN gB pv bv))) i γ u L h) (pd : PendS 2 B i γ) : JStk 2 B (γ.p.acc i).val := by
  have hJ : JStk 2 B γ.p.val := T.J.2
  rcases pd with hb | ⟨r, hr, hfine⟩
  · rw [acc_born _ _ hb]; exact hJ
  · rw [acc_stands _ _ hr]
    exact hJ.fine (fun j k _ _ _ _ e => x.inj j k e) hfine
theorem tenv_of (x : TPre B v1 hN sB gB fB pv bv) : TEnv (tcT B v0 hN gB pv bv) B 65537 sB fB := by
  have hg : (tcT B v0 hN gB pv bv).old gB := x.old x.g (by decide) (x.nb x.g (by decide)) (by decide)
  have o0 : hN[B 0]? = some (.cells #[ptr (B 2), ptr (B 3), .slice (some ⟨B 1, 0, none⟩) (2 + 1) (2 + 1)] 224 (0, 0)) := x.rep.get (k := 0) (show 0 < 6 + 2 * 2 by omega) rfl
  have o1 : hN[B 1]? = some (.cells (itemsL (2 + 1) B).toArray 228 (0, 0)) := x.rep.get (k := 1) (show 1 < 6 + 2 * 2 by omega) rfl
  refine ⟨hg, ⟨gcL_ok hg, usG_prog, fun k h1 h2 h3 h4 => ⟨k, h1, h2, h3, h4, rfl⟩, fun u h I => ?_, fun l u v hJ => hJ.2, fun T pd ext g => usG_j (c := gcL (tcT B v0 hN gB pv bv)) trap_no T g nofun ext (tpend x T pd), fun i u => erefl, by omega, by omega⟩, rfl, by decide, ⟨x.old x.s (by decide) (x.nb x.s (by decide)) (by decide), x.neG x.s (by decide), x.s⟩, ⟨x.old x.f (by decide) x.fb (by decide), x.neG x.f (by decide), x.f⟩, rfl, rfl, rfl, rfl⟩
  have I' : T1I (tcT B v0 hN gB pv bv) u.1 u.2 h := I
  exact ⟨(I'.old _ (x.old o0 (by decide) (x.nb o0 (by decide)) (by decide)) (x.neG o0 (by decide))).trans o0, (I'.old _ (x.old o1 (by decide) (x.nb o1 (by decide)) (by decide)) (x.neG o1 (by decide))).trans o1⟩
end
end
end Go.Proofs.Ytcpcdnkemobneaa
namespace Go.TJ
section
open Go Go.Conc
open Go.ConcN (sumTo upd sumTo_upd upd_ne upd_same)
def SwS (P : Program) : Sit Nat where
  still := fun _ _ => False
  yld g h δ Y := δ.d = 0 /\ ∃ (Γ' : Type) (X : Proto Γ') (γ : Γ'), X.Ok /\ X.num γ = δ.g /\ δ.g = 1 /\
    Runs P true (SitM P X) (fun g' h' δ' => δ'.d = 0 /\ (∀ i, i ≠ 0 -> i < X.num δ'.g -> X.ch δ'.g i = none) /\ Y g' h' ⟨0, X.num δ'.g⟩) g h ⟨0, γ⟩
theorem CallW.sw {P : Program} {Γ' : Type} {X : Proto Γ'} (hX : X.Ok) {γ : Γ'} (h1 : X.num γ = 1) {f : FuncId} {args : Array Value} {h : Hp} {R : Post Nat} (hc : CallW P true (SitM P X) f args h ⟨0, γ⟩ fun r h' δ' => δ'.d = 0 /\ (∀ i, i ≠ 0 -> i < X.num δ'.g -> X.ch δ'.g i = none) /\ R r h' ⟨0, X.num δ'.g⟩) : CallW P true (SwS P) f args h ⟨0, 1⟩ R := by
  intro kind hk cs
  refine .hands (fun g' h' δ' => Left P f kind cs R g' h' δ') (fun g' h' δ' y => .stop y) ⟨rfl, Γ', X, γ, hX, h1, rfl, (hc kind hk cs).mono ?_⟩
  rintro g' h' δ' ⟨a, todo, mode, fn, h1, h2, h3, ⟨h5, v, h6, h7, h8, h9⟩ | ⟨c, h5, h7, h8, h9⟩⟩
  · exact ⟨h7, h8, a, todo, mode, fn, h1, h2, h3, .inl ⟨h5, v, h6, h9⟩⟩
  · exact ⟨h7, h8, a, todo, mode, fn, h1, h2, h3, .inr ⟨c, h5, h9⟩⟩
def PN : Proto Nat where
  num n := n
  ch _ _ := none
  cells _ _ _ := none
  R _ _ _ := True
  Pass _ _ _ := True
section
variable {P : Program}
theorem lk_none {h : Nat} {n : Nat} {I : Nat -> Option Wait} (hI : ∀ i, i ≠ h -> I i = none) : Lk P PN h n I n :=
  ⟨rfl, fun i hi _ => (by rw [hI i hi]; rfl), fun i W hi e => (by rw [hI i hi] at e; cases e), fun i W hi _ e => (by rw [hI i hi] at e; cases e)⟩
theorem lk_end {Γ' : Type} {X : Proto Γ'} {γ : Γ'} {I : Nat -> Option Wait} {T : Trace} {gs : Array Goroutine} {w : World} {q : Nat -> Nat} (F : Fr P 0 I T gs w q) (L : Lk P X 0 γ I gs.size) (hch : ∀ i, i ≠ 0 -> i < X.num γ -> X.ch γ i = none) : ∀ i, i ≠ 0 -> I i = none := fun i hi => by
  cases e : I i with
  | none => rfl
  | some V =>
    have hlt := F.room i hi (by rw [e]; rfl)
    have h1 := L.ch i hi hlt
    rw [hch i hi (by rw [L.num]; exact hlt), e] at h1
    cases h1
theorem company_sw {Stop : Goroutine -> Hp -> Ix Nat -> Prop} {g : Goroutine} {hp : Hp} {δ : Ix Nat} (H : Runs P true (SwS P) Stop g hp δ) :
    ∀ {I : Nat -> Option Wait} {T : Trace} {gs : Array Goroutine} {w : World} {q : Nat -> Nat} {sl : Option (Nat × Nat)}, w.heap = hp -> Fr P 0 I T gs w q -> (∀ i, i ≠ 0 -> I i = none) -> gs.size = δ.g -> gs[0]? = some g -> Deaf T 0 = δ.d ->
    ∃ (N : Nat) (gs' : Array Goroutine) (g' : Goroutine) (w' : World) (sl' : Option (Nat × Nat)) (T' : Trace) (q' : Nat -> Nat) (δ' : Ix Nat) (I' : Nat -> Option Wait),
      runNT P N (crowd gs w sl) T = (.next (crowd gs' w' sl'), T') /\ gs'[0]? = some g' /\ Fr P 0 I' T' gs' w' q' /\ (∀ i, i ≠ 0 -> I' i = none) /\ Deaf T' 0 = δ'.d /\ Same w w' /\ Stop g' w'.heap δ' := by
  induction H with
  | stop hs =>
    intro I T gs w q sl hw F hI hn hg hd
    subst hw
    exact ⟨0, gs, _, w, sl, T, q, _, I, rfl, hg, F, hI, hd, Same.refl _, hs⟩
  | step Y _ hst ih =>
    intro I T gs w q sl hw F hI hn hg hd
    subst hw
    obtain ⟨N, gs', g', w', sl', T', q', δ', h1, h2, h3, h4, h5, h6, h7, h8⟩ := step_run (X := PN) (i := 0) (by rfl) (S := SwS P) (funext fun n => funext fun a => propext ⟨fun x => x.elim, fun ⟨j, _, _, x, _⟩ => by cases x⟩) (sl := sl) F (by rw [hn]; exact lk_none hI) hg hd hst
    obtain ⟨N₂, gs₂, g₂, w₂, sl₂, T₂, q₂, δ₂, I', k1, k3, k5, k6, k7, k8, k9⟩ := ih _ _ _ h8 (sl := sl') rfl h4 hI (by rw [h5, h2]; exact hn) h3 h6
    exact ⟨N + N₂, gs₂, g₂, w₂, sl₂, T₂, q₂, δ₂, I', runNT_then h1 k1, k3, k5, k6, k7, h7.trans k8, k9⟩
  | @hands g hp δ Y _ hY ih =>
    intro I T gs w q sl hw F hI hn hg hd
    subst hw
    obtain ⟨hd0, Γ', X, γ, hX, e1, e2, hrun⟩ := hY
    obtain ⟨N, gs', g', w', sl', T', q', δ', I', h1, h2, h3, h4, h5, h6, h7, h8, h9⟩ := company hX hrun (sl := sl) rfl F ⟨by rw [e1, hn], fun i hi hlt => by omega, fun i W hi e => (by rw [hI i hi] at e; cases e), fun i W hi _ e => (by rw [hI i hi] at e; cases e)⟩ hg (hd.trans hd0)
    obtain ⟨N₂, gs₂, g₂, w₂, sl₂, T₂, q₂, δ₂, I₂, k1, k3, k5, k6, k7, k8, k9⟩ := ih _ _ _ h9 (sl := sl') rfl h3 (lk_end h3 h4 h8) h4.num.symm h2 (h5.trans h7)
    exact ⟨N + N₂, gs₂, g₂, w₂, sl₂, T₂, q₂, δ₂, I₂, runNT_then h1 k1, k3, k5, k6, k7, h6.trans k8, k9⟩
theorem sw_run {f : FuncId} {args : Array Value} {W : World} {R : Value -> Hp -> Prop} (hini : P.inits.idxOf? f = none)
    (hc : CallW P true (SwS P) f args W.heap ⟨0, 1⟩ fun
      | .ret v, h', δ' => δ'.d = 0 /\ R v h'
      | .pan _, _, _ => False) :
    ∃ M last o w' t', runNT P (M + 1) (solo (G (Frame.enter P f args .normal) []) W) #[] = (.ended o w', t') /\ runN P M (solo (G (Frame.enter P f args .normal) []) W) = .next last /\ step P last = .ended o w' /\
      Conc.Good P (fun v W' => R v W'.heap /\ Same W W') last o w' t' := by
  obtain ⟨N, gs, g', w, sl, T, q, δ, I, hr, hg, F, hI, hd, hs, a, todo, mode, fn, rfl, hda, hf, hend⟩ := company_sw (hc .normal (by simp) []) (sl := none) (w := W) rfl (fr_one P _ W) (fun i _ => rfl) rfl rfl rfl
  rcases hend with ⟨rfl, v, hv, hd0, hR⟩ | ⟨_, _, hp⟩
  · obtain ⟨N₂, gs₂, d, d', sl₂, sl₃, T₂, q₂, hr₂, hst, hsz, ha₂, F₂, hd₂⟩ := F.picked (sl := sl) hg rfl
    obtain ⟨es, hrun, hes⟩ := hv (w.at d') rfl
    have hend := stepG_last (w := w.at d') (todo := todo) hda hf hini hrun
    have hrt := runT_many_ended (P := P) (sl := sl₃) (i := 0) ha₂ hend
    have hops : ∀ op ∈ MemOp.ofEvents 0 f (G { (fb f .normal).at a todo with mode := .returning } []).frame.place (seen P f es), op.g = 0 := fun op hop => by obtain ⟨e, _, rfl⟩ := Go.Conc.mem_ofEvents hop; rfl
    have hTr : Tr 0 (loOf 0 I) (stOf I) (T₂ ++ MemOp.ofEvents 0 f (G { (fb f .normal).at a todo with mode := .returning } []).frame.place (seen P f es)) :=
      F₂.tr.own (fun x => x.1 rfl) hops fun op hop b hb g hg' hS => by
        have := hg'.2
        rw [hI g hg'.1] at this
        cases this
    refine ⟨N + N₂, _, .done v, w.at d', _, runNT_succ_end (runNT_then hr hr₂) (hst.trans hrt), runN_of_runNT _ _ _ _ _ (runNT_then hr hr₂), ?_, v, rfl, ⟨hR, hs.trans (same_at w d')⟩, hTr.clean, tr_over hTr hI, ⟨fun x hx => ?_, rfl⟩, fun j x hx hj => ?_⟩
    · rw [step, hst, hrt]
    · obtain ⟨j, hj⟩ := List.mem_iff_getElem?.1 hx
      rw [List.getElem?_drop] at hj
      have hid := F₂.idle (1 + j) x (by omega) (by simpa [crowd] using hj)
      rw [hI _ (by omega)] at hid
      exact ⟨_, hid.2.leaves⟩
    · have hid := F₂.idle j x hj hx
      rw [hI j hj] at hid
      refine ⟨q₂ j, ?_⟩
      have e : (T₂ ++ MemOp.ofEvents 0 f (G { (fb f .normal).at a todo with mode := .returning } []).frame.place (seen P f es)).deaf j (T₂ ++ MemOp.ofEvents 0 f (G { (fb f .normal).at a todo with mode := .returning } []).frame.place (seen P f es)).size = Deaf T₂ j :=
        Deaf_other T₂ (g := j) (g' := 0) (Ne.symm hj) _ hops
      rw [show (G { (fb f .normal).at a todo with mode := .returning } []).frame.fn = f from rfl, e]
      exact hid.2.hears _
  · exact hp.elim
end
end
end Go.TJ
namespace Go.Proofs.Ytcpcdnkemobneaa
section
open Go Go.TJ Go.Conc Go.Proofs
section
variable {B : Nat -> Nat} {v1 v0 : Nat -> Int} {hN : Hp} {sB gB fB : Nat} {pv bv : Value}
theorem tbody0 (x : TPre B v1 hN sB gB fB pv bv) : Body (UsG (gcL (tcT B v0 hN gB pv bv))) 0 29 #[ptr sB, ptr gB] := by
  intro h γ T hb ho
  have E := tenv_of (v0 := v0) x
  have ht : toldOf 0 γ.p.u.1 = [] := by
    obtain ⟨p, -, hp⟩ := T.Q 0
    rw [hb] at hp
    exact hp
  have a0 : AtP (UsG (gcL (tcT B v0 hN gB pv bv))) (trapP B 65537) tldU 2 B 0 γ γ.p.u [] h (tpopP B 65537 .done) := ⟨T, Res.born E.K.prog T hb ho ht, .inl hb, erefl⟩
  refine (tpop_T E a0 rfl).conseqP ?_
  rintro w h' δ' ⟨γ', u', rfl, -, al, at_⟩
  exact ⟨γ', u', [], rfl, al, at_.thr, Res.over E.K.prog at_.res, tover E al at_ rfl (fun T pd => tpend x T pd)⟩
theorem tbody1 (x : TPre B v1 hN sB gB fB pv bv) : Body (UsG (gcL (tcT B v0 hN gB pv bv))) 1 30 #[ptr fB, ptr sB, ptr gB] := by
  intro h γ T hb ho
  have E := tenv_of (v0 := v0) x
  have ht : toldOf 1 γ.p.u.1 = [] := by
    obtain ⟨p, -, hp⟩ := T.Q 1
    rw [hb] at hp
    exact hp
  have a0 : AtP (UsG (gcL (tcT B v0 hN gB pv bv))) (trapP B 65537) tldU 2 B 1 γ γ.p.u [] h (trapP1 B 65537) := ⟨T, Res.born E.K.prog T hb ho ht, .inl hb, erefl⟩
  refine (tboth_T E a0 rfl).conseqP ?_
  rintro w h' δ' ⟨γ', u', rfl, -, al, at_⟩
  exact ⟨γ', u', [], rfl, al, at_.thr, Res.over E.K.prog at_.res, tover E al at_ rfl (fun T pd => tpend x T pd)⟩
def logT (B : Nat -> Nat) : List Ev := endT.1.map fun e => { e with b := B e.b }
set_option maxRecDepth 8000 in
set_option maxHeartbeats 4000000 in
theorem trun_ok (x : TPre B v1 hN sB gB fB pv bv) (hv0 : (fun k => v0 (B k)) = v0T) :
    CallW Try.prog true (SwS Try.prog) 17 #[pv, .int .i64 200, bv] hN ⟨0, 1⟩ (Ret fun v h' δ' => (∃ m, δ' = ⟨0, m⟩) /\ ∃ (lL lW lY lV gv : Value), v = .agg (repL 1 (logT B).length lL lW lY lV).toArray /\ SliceO h' lL 75 8 (logT B).length ((logT B).flatMap (entL (nums (logT B)))) /\
      (∃ a k, lW = .slice a (logT B).length k) /\ (∃ a n k, lY = .slice a n k) /\ (∃ a n k, lV = .slice a n k) /\
      h'[gB]? = some (.cells #[gv] 64 (0, 0)) /\ SliceO h' gv 2 1 3 [.int .i64 2, .int .i64 1, .int .i64 4] /\ h'[sB]? = some (.cells #[ptr (B 0)] 41 (0, 0)) /\ Rep h' (stkM 2 B endT.2.2.2) /\ hN.size <= h'.size /\ ∀ b, b < hN.size -> ¬ isCT B b -> b ≠ gB -> blk bv ≠ some b -> blk pv ≠ some b -> h'[b]? = hN[b]?) := by
  have E := tenv_of (v0 := v0) x
  have hX : (UsG (gcL (tcT B v0 hN gB pv bv))).Ok := E.K.ok
  let u0 : (UsG (gcL (tcT B v0 hN gB pv bv))).U := ([], nilS)
  have hnD : ∀ c, (UsG (gcL (tcT B v0 hN gB pv bv))).Dom u0 c -> (tcT B v0 hN gB pv bv).old c := fun c hc => hc.elim id (fun ⟨_, e⟩ => by cases e)
  have hI0 : T1I (tcT B v0 hN gB pv bv) [] nilS hN := ⟨fun b _ _ => rfl, x.g, SliceO.nil, fun b e => by cases e⟩
  have hv : ∀ k, v0 (B k) = v0T k := fun k => congrFun hv0 k
  have hrun := runG (X := UsG (gcL (tcT B v0 hN gB pv bv))) (γ := ⟨psZ 0 0 v0 u0, psZ 0 0 v0 u0, hN, fun _ => False, 0⟩) (h := hN) hX (v0 := v0) (u0 := u0) (picks := picksT) (m := 200) (bods := [(29, #[ptr sB, ptr gB]), (30, #[ptr fB, ptr sB, ptr gB])]) (sP := pv) (sB := bv) rfl (by decide) (by decide)
    (fun b hb => by
      obtain ⟨k, h2, hk, -, -, rfl⟩ := hb
      rw [hv k]; exact x.cell h2 hk)
    (fun b hb => (hnD b hb).1) hI0 ⟨⟨_, .init⟩, jstkT hv0⟩ (fun i => ⟨_, .nil _, rfl⟩) (show 2 <= 64 by decide)
    x.bods
    (fun c hc => ⟨fun ⟨k, h2, hk, _, _, e⟩ => sliceO_ne x.bods (x.cell h2 hk) (by decide) c hc e, fun hd => (hnD c hd).2.2 (.inl hc)⟩)
    (SliceO.rds x.pk)
    (fun _ c hc => ⟨fun ⟨k, h2, hk, _, _, e⟩ => sliceO_ne x.pk (x.cell h2 hk) (by decide) c hc e, fun hd => (hnD c hd).2.2 (.inr hc)⟩)
    (fun k q hq => by
      match k, hq with
      | 0, hq => obtain rfl := Option.some.inj hq; exact ⟨inferInstance, tbody0 x⟩
      | 1, hq => obtain rfl := Option.some.inj hq; exact ⟨inferInstance, tbody1 x⟩
      | k + 2, hq => cases hq)
  refine CallW.sw (px_ok hX) rfl (hrun.mono ?_)
  rintro (v | ps) h' δ' y
  · obtain ⟨γ', p, e, lL, lW, lY, lV, rfl, h1, h2, rfl, En, up⟩ := y
    refine ⟨rfl, h2, ⟨_, rfl⟩, ?_⟩
    have En' : Ended (UsG (gcL (tcT B v0 hN gB pv bv))) v0 picksT 2 200 p e lL lW lY lV h' := En
    obtain ⟨⟨S, G⟩, -⟩ := En'.J
    have how : (p.live 2 = [] /\ p.log.length <= 200) \/ (p.live 2 ≠ [] /\ p.log.length = 200) := En'.how.imp (fun z => z.2) (fun z => z.2)
    obtain ⟨e1, e2, e3, e4⟩ := end_of x.inj hv0 usG_prog En'.reg En'.Q how G
    have ee : e = 1 := by
      rcases En'.how with z | z
      · exact z.1
      · exact absurd e4 z.2.1
    subst ee
    have I : T1I (tcT B v0 hN gB pv bv) p.u.1 p.u.2 h' := En'.I
    have e3' : p.log = logT B := e3
    have hlog := En'.log
    rw [e3'] at hlog ⊢
    have hw := En'.went
    have hr := En'.rdy
    have hl := En'.left
    obtain ⟨aw, kw, ew⟩ := hw.val
    obtain ⟨ay, ky, ey⟩ := hr.val
    obtain ⟨av, kv, ev⟩ := hl.val
    have lw : p.went.length = (logT B).length := by rw [En'.reg.went, e3']; simp
    rw [lw] at ew
    have sl := I.sl
    rw [e1, endT_g] at sl
    have old2 : ∀ {y : Nat} {a : Array Value} {t : TypeId}, hN[y]? = some (.cells a t (0, 0)) -> t ≠ 317 -> t ≠ 45 -> t ≠ 3 -> t ≠ 64 -> h'[y]? = some (.cells a t (0, 0)) := fun hy h1 h2 h3 h4 => (I.old _ (x.old hy h1 (x.nb hy h2) h3) (x.neG hy h4)).trans hy
    have o0 : hN[B 0]? = some (.cells #[ptr (B 2), ptr (B 3), .slice (some ⟨B 1, 0, none⟩) (2 + 1) (2 + 1)] 224 (0, 0)) := x.rep.get (k := 0) (show 0 < 6 + 2 * 2 by omega) rfl
    have o1 : hN[B 1]? = some (.cells (itemsL (2 + 1) B).toArray 228 (0, 0)) := x.rep.get (k := 1) (show 1 < 6 + 2 * 2 by omega) rfl
    have ov : ∀ k, p.val (B k) = endT.2.2.2 k := fun k => congrFun e2 k
    have node0 : ∀ k, k = 4 \/ k = 5 -> h'[B k]? = some (cellO (endT.2.2.2 k)) := fun k hk => by
      have hc := x.cell (k := k) (by omega) (by omega)
      have e5 : endT.2.2.2 k = v0T k := by rcases hk with rfl | rfl <;> kernel_rfl
      rw [e5]
      refine (I.old _ ⟨lt_of_get hc, fun ⟨j, _, _, j4, j5, e⟩ => ?_, fun e => e.elim (fun e => sliceO_ne x.bods hc (by decide) _ e rfl) (fun e => sliceO_ne x.pk hc (by decide) _ e rfl)⟩ (x.neG hc (by decide))).trans hc
      have := x.inj _ _ e
      omega
    refine ⟨lL, lW, lY, lV, p.u.2, rfl, hlog, ⟨aw, kw, ew⟩, ⟨ay, _, ky, ey⟩, ⟨av, _, kv, ev⟩, I.cell, sl, old2 x.s (by decide) (by decide) (by decide) (by decide), ⟨fun k hk => ?_, x.rep.inj⟩, up.size, fun b b1 b2 b3 b4 b5 => I.old b ⟨b1, b2, fun e => e.elim b4 b5⟩ b3⟩
    have hk' : k < 10 := hk
    show h'[B k]? = some (if k = 0 then _ else if k = 1 then _ else cellO (endT.2.2.2 k))
    by_cases k0 : k = 0
    · subst k0; rw [if_pos rfl]; exact old2 o0 (by decide) (by decide) (by decide) (by decide)
    · by_cases k1 : k = 1
      · subst k1; rw [if_neg k0, if_pos rfl]; exact old2 o1 (by decide) (by decide) (by decide) (by decide)
      · rw [if_neg k0, if_neg k1]
        by_cases k4 : k = 4 \/ k = 5
        · exact node0 k k4
        · have := En'.cel (B k) ⟨k, by omega, hk', fun e => k4 (.inl e), fun e => k4 (.inr e), rfl⟩
          rw [this, ov k]
  · exact y.elim
end
end
section
open Go Go.TJ Go.Conc Go.Proofs
theorem take_mid {α : Type} {l : List α} {k : Nat} {a : α} (h : l[k]? = some a) : l.take (k + 1) = l.take k ++ [a] /\ l = l.take (k + 1) ++ l.drop (k + 1) /\ k < l.length := by
  have hk : k < l.length := by
    rcases Nat.lt_or_ge k l.length with y | y
    · exact y
    · rw [List.getElem?_eq_none y] at h; cases h
  refine ⟨?_, (List.take_append_drop _ _).symm, hk⟩
  rw [List.take_add_one, h]; rfl
section
variable {X : Us} {v0 v v' : Nat -> Int} {l : List Ev}
theorem Chain.inv (c : Chain X v0 l v) {k : Nat} {e : Ev} (h : l[k]? = some e) : ∃ (w : Nat -> Int) (i : Nat) (r : Rq), Chain X v0 (l.take k) w /\ RqOk X r /\ e = evOf i r (w r.b) /\ Chain X v0 (l.take (k + 1)) (ut w r.b (behind r.op (w r.b) r.arg r.new).1) := by
  induction c with
  | nil => cases h
  | @snoc l v i r c hr ih =>
    rcases Nat.lt_trichotomy k l.length with y | y | y
    · rw [List.getElem?_append_left y] at h
      rw [List.take_append_of_le_length (by omega), List.take_append_of_le_length (by omega)]
      exact ih h
    · subst y
      rw [List.getElem?_append_right (Nat.le_refl _), Nat.sub_self] at h
      obtain rfl : evOf i r (v r.b) = e := by simpa using h
      rw [List.take_left, List.take_of_length_le (by simp)]
      exact ⟨v, i, r, c, hr, rfl, .snoc i r c hr⟩
    · rw [List.getElem?_eq_none (by simp; omega)] at h; cases h
theorem Chain.det (c : Chain X v0 l v) : ∀ {v'}, Chain X v0 l v' -> v' = v := by
  induction c with
  | nil =>
    intro v' c'
    generalize hl : ([] : List Ev) = l' at c'
    cases c' with
    | nil => rfl
    | snoc => simp at hl
  | @snoc l v i r c hr ih =>
    intro v' c'
    generalize hl : l ++ [evOf i r (v r.b)] = l' at c'
    cases c' with
    | nil => simp at hl
    | @snoc l2 w i2 r2 c2 hr2 =>
      obtain ⟨h1, h2⟩ := List.append_inj' hl rfl
      subst h1
      have := ih c2
      subst this
      have h3 : evOf i r (w r.b) = evOf i2 r2 (w r2.b) := by simpa using h2
      have hb : r.b = r2.b := congrArg Ev.b h3
      have ho : r.op = r2.op := congrArg Ev.op h3
      have ha : r.arg = r2.arg := congrArg Ev.arg h3
      have hn : r.new = r2.new := congrArg Ev.new h3
      rw [hb, ho, ha, hn]
theorem Chain.first (c : Chain X v0 l v) {b : Nat} (h : b ∉ nums l) : v b = v0 b := by
  induction c with
  | nil => rfl
  | @snoc l v i r c hr ih =>
    rw [nums_snoc] at h
    have hb : b ≠ r.b := fun e => by
      subst e
      split at h
      · rename_i y; exact h y
      · exact h (by simp [evOf])
    rw [ut_ne _ _ hb]
    refine ih fun y => h ?_
    split
    · exact y
    · exact List.mem_append_left _ y
theorem Chain.cell (c : Chain X v0 l v) {b : Nat} (h : b ∈ nums l) : X.isC b := by
  induction c with
  | nil => cases h
  | @snoc l v i r c hr ih =>
    rw [nums_snoc] at h
    split at h
    · exact ih h
    · rcases List.mem_append.1 h with y | y
      · exact ih y
      · rw [List.mem_singleton.1 y]; exact hr.cell
end
structure Rec where
  nb : Nat
  most : Nat
  e : Int
  log : List Ev
  rdy : List Nat
  left : List (Nat × Rq)
  v0 : Nat -> Int
  val : Nat -> Int
def Rec.alive (R : Rec) (k : Nat) : List Nat := (List.range R.nb).filter (fun j => R.left.any (fun q => q.1 == j) || (R.log.drop k).any (fun e => e.thr == j))
structure RecOk (X : Us) (picks : List Int) (R : Rec) : Prop where
  nb : R.nb <= 64
  most : R.most <= 65536
  len : R.log.length <= R.most
  rdy : R.rdy.length = R.log.length
  chain : Chain X R.v0 R.log R.val
  left : ∀ q, q ∈ R.left -> q.1 < R.nb /\ RqOk X q.2
  rise : R.left.Pairwise fun a b => a.1 < b.1
  turns : ∀ (k : Nat) (e : Ev), R.log[k]? = some e -> R.rdy[k]? = some (R.alive k).length /\ e.thr = pickOf picks ((R.log.take k).map (·.thr)) (R.alive k) /\ e.thr ∈ R.alive k
  how : (R.e = 1 /\ R.left = []) \/ (R.e = 2 /\ R.left ≠ [] /\ R.log.length = R.most)
def leftE (ns : List Nat) (v : Nat -> Int) (q : Nat × Rq) : List Value := accL q.1 q.2.op (if q.2.b ∈ ns then (ns.idxOf q.2.b : Int) else -1) q.2.arg q.2.new (v q.2.b) (v q.2.b) false
structure RecM (R : Rec) (picks : List Int) (lL lW lY lV sP : Value) (h : Hp) : Prop where
  log : SliceO h lL 75 8 R.log.length (R.log.flatMap (entL (nums R.log)))
  went : SliceO h lW 3 1 (R.log.map (·.thr)).length ((R.log.map (·.thr)).map fun (n : Nat) => Value.int .i64 (n : Int))
  rdy : SliceO h lY 3 1 R.rdy.length (R.rdy.map fun (n : Nat) => Value.int .i64 (n : Int))
  left : SliceO h lV 75 8 R.left.length (R.left.flatMap (leftE (nums R.log) R.val))
  picks : RdS h sP (picks.map fun x => .int .i64 x)
theorem RecM.upd {R : Rec} {picks : List Int} {lL lW lY lV sP : Value} {h h' : Hp} (m : RecM R picks lL lW lY lV sP h) (u : Upd (fun _ => False) h h') : RecM R picks lL lW lY lV sP h' :=
  ⟨m.log.upd u (fun _ _ x => x), m.went.upd u (fun _ _ x => x), m.rdy.upd u (fun _ _ x => x), m.left.upd u (fun _ _ x => x), m.picks.upd u (fun _ _ _ x => x)⟩
def rqOf : Ph -> Rq
  | .stands r => r
  | _ => ⟨0, 0, 0, 0⟩
def recOf {U : Type} (p : PS U) (v0 : Nat -> Int) (nb most : Nat) (e : Int) : Rec := ⟨nb, most, e, p.log, p.rdy, (p.live nb).map fun j => (j, rqOf (p.st j)), v0, p.val⟩
theorem recOf_alive {U : Type} {p : PS U} {v0 : Nat -> Int} {nb most : Nat} {e : Int} (hn : p.num = nb) (k : Nat) : (recOf p v0 nb most e).alive k = aliveAt p k := by
  unfold Rec.alive aliveAt recOf
  rw [hn]
  refine List.filter_congr fun j hj => ?_
  have hj' : j < nb := List.mem_range.1 hj
  have : (List.map (fun j => (j, rqOf (p.st j))) (p.live nb)).any (fun q => q.1 == j) = !p.gone j := by
    rw [List.any_map]
    cases hg : p.gone j
    · refine List.any_eq_true.2 ⟨j, mem_live.2 ⟨hj', hg⟩, by simp⟩
    · refine List.any_eq_false.2 fun x hx => ?_
      obtain ⟨_, hx2⟩ := mem_live.1 hx
      have : x ≠ j := fun e => by rw [e, hg] at hx2; cases hx2
      simpa using this
  dsimp only
  rw [this]
theorem Ended.record {X : Us} {v0 : Nat -> Int} {picks : List Int} {nb most : Nat} {p : PS X.U} {e : Int} {lL lW lY lV _sP : Value} {h : Hp} (E : Ended X v0 picks nb most p e lL lW lY lV h) (hnb : nb <= 64) (hm : most <= 65536) : RecOk X picks (recOf p v0 nb most e) := by
  have rg := E.reg
  have hlen : p.log.length <= most := by
    rcases E.how with ⟨-, -, h⟩ | ⟨-, -, h⟩
    · exact h
    · exact Nat.le_of_eq h
  have st : ∀ j, j < nb -> p.gone j = false -> ∃ r, p.st j = .stands r /\ RqOk X r := fun j hj hg => by
    rcases rg.alive j hj with ⟨_, r, h1, h2⟩ | ⟨h1, _⟩
    · exact ⟨r, h1, h2⟩
    · rw [hg] at h1; cases h1
  refine ⟨hnb, hm, hlen, rg.rdy, rg.chain, fun q hq => ?_, ?_, fun k ev hk => ?_, ?_⟩
  · obtain ⟨j, hj, rfl⟩ := List.mem_map.1 hq
    obtain ⟨h1, h2⟩ := mem_live.1 hj
    obtain ⟨r, h3, h4⟩ := st j h1 h2
    exact ⟨h1, by show RqOk X (rqOf (p.st j)); rw [h3]; exact h4⟩
  · show (List.map _ (p.live nb)).Pairwise _
    rw [List.pairwise_map]
    unfold PS.live
    exact List.Pairwise.filter _ List.pairwise_lt_range
  · rw [recOf_alive rg.num]
    exact rg.turns k ev hk
  · rcases E.how with ⟨h1, h2, -⟩ | ⟨h1, h2, h3⟩
    · exact .inl ⟨h1, by show List.map _ (p.live nb) = []; rw [h2]; rfl⟩
    · exact .inr ⟨h1, fun e => h2 (List.map_eq_nil_iff.1 e), h3⟩
theorem Ended.mem {X : Us} {v0 : Nat -> Int} {picks : List Int} {nb most : Nat} {p : PS X.U} {e : Int} {lL lW lY lV sP : Value} {h : Hp} (E : Ended X v0 picks nb most p e lL lW lY lV h) (hP : RdS h sP (picks.map fun x => .int .i64 x)) : RecM (recOf p v0 nb most e) picks lL lW lY lV sP h := by
  have rg := E.reg
  refine ⟨E.log, by have := E.went; rw [rg.went] at this; exact this, E.rdy, ?_, hP⟩
  have e1 : (p.live nb).flatMap (leftL p (nums p.log)) = ((p.live nb).map fun j => (j, rqOf (p.st j))).flatMap (leftE (nums p.log) p.val) := by
    rw [List.flatMap_map]
    have : ∀ l : List Nat, (∀ j, j ∈ l -> j ∈ p.live nb) -> l.flatMap (leftL p (nums p.log)) = l.flatMap fun a => leftE (nums p.log) p.val (a, rqOf (p.st a)) := fun l => by
      induction l with
      | nil => intro _; rfl
      | cons j l ih =>
        intro hl
        obtain ⟨h1, h2⟩ := mem_live.1 (hl j (by simp))
        have : ∃ r, p.st j = .stands r := by
          rcases rg.alive j h1 with ⟨_, r, h1, _⟩ | ⟨h1, _⟩
          · exact ⟨r, h1⟩
          · rw [h2] at h1; cases h1
        obtain ⟨r, hr⟩ := this
        rw [List.flatMap_cons, List.flatMap_cons, ih (fun x hx => hl x (by simp [hx]))]
        congr 1
        unfold leftL leftE
        rw [hr]
        rfl
    exact this _ fun _ x => x
  have := E.left
  rw [e1] at this
  show SliceO h lV _ 8 ((p.live nb).map fun j => (j, rqOf (p.st j))).length _
  rw [List.length_map]
  exact this
theorem flat_at {α : Type} {c : Nat} {f : α -> List Value} (hf : ∀ a, (f a).length = c) : ∀ {l : List α} {k : Nat} {a : α}, l[k]? = some a -> ∀ j, j < c -> (l.flatMap f)[k * c + j]? = (f a)[j]?
  | [], _, _, h, _, _ => by cases h
  | x :: l, 0, a, h, j, hj => by
    obtain rfl : x = a := by simpa using h
    rw [List.flatMap_cons, Nat.zero_mul, Nat.zero_add, List.getElem?_append_left (by rw [hf]; exact hj)]
  | x :: l, k + 1, a, h, j, hj => by
    rw [List.flatMap_cons, List.getElem?_append_right (by rw [hf, Nat.succ_mul]; omega), hf, show (k + 1) * c + j - c = k * c + j by rw [Nat.succ_mul]; omega]
    exact flat_at hf (by simpa using h) j hj
theorem slice_row {h : Hp} {a : Option Addr} {n cap e c : Nat} {α : Type} {f : α -> List Value} (hf : ∀ a, (f a).length = c) {l : List α} (x : SliceO h (.slice a n cap) e c l.length (l.flatMap f)) {k : Nat} {q : α} (hk : l[k]? = some q) :
    ∃ b, a = some ⟨b, 0, none⟩ /\ hrow h b (0 + k * c) (f q) /\ ∀ o, hfroz h ⟨b, o, none⟩ = false := by
  obtain ⟨_, _, hlt⟩ := take_mid hk
  obtain ⟨b, cap', e1, hc, hz⟩ := x.cell (by omega)
  injection e1 with e1 _ _
  refine ⟨b, e1, fun j v hv => ?_, hz⟩
  have hj : j < c := by
    rcases Nat.lt_or_ge j c with y | y
    · exact y
    · rw [List.getElem?_eq_none (by rw [hf]; exact y)] at hv; cases hv
  rw [Nat.zero_add]
  exact hc _ _ ((flat_at hf hk j hj).trans hv)
abbrev chkL (e : Int) (n : Nat) (lL lW lY lV sP : Value) (most : Nat) (tv cv : Value) (last : Int) : List Value := [.int .i8 e, .int .i64 n, lL, lW, lY, lV, nilS, sP, .int .i64 most, tv, cv, .int .i64 last]
abbrev chkO (e : Int) (n : Nat) (lL lW lY lV sP : Value) (most : Nat) (tv cv : Value) (last : Int) : Obj := .cells (chkL e n lL lW lY lV sP most tv cv last).toArray 208 (0, 0)
end
section
open Go Go.TJ Go.Conc Go.Proofs
section
variable {Γ : Type} {main : Bool} {S : Sit Γ} {δ : Ix Γ} {h : Hp}
end
end
section
open Go Go.TJ Go.Conc Go.Proofs
section
variable {Γ : Type} {main : Bool} {δ : Ix Γ} {h h' : Hp} {R : Rec} {picks : List Int} {lL lW lY lV sP tv cv : Value} {last : Int} {C n most : Nat} {e : Int} {X : Us}
structure MemI (R : Rec) (h : Hp) (C : Nat) (lL lW lY lV sP tv : Value) (last : Int) (n : Nat) (k : Nat) (v : Nat -> Int) (nv cv : Value) (h' : Hp) : Prop where
  upd : Upd (fun b => b = C) h h'
  row : h'[C]? = some (chkO R.e n lL lW lY lV sP R.most tv cv last)
  now : SliceO h' nv 2 1 (nums (R.log.take k)).length ((nums (R.log.take k)).map fun b => Value.int .i64 (v b))
  fst : SliceO h' cv 2 1 (nums (R.log.take k)).length ((nums (R.log.take k)).map fun b => Value.int .i64 (R.v0 b))
  newn : ∀ b, blk nv = some b -> h.size <= b
  newc : ∀ b, blk cv = some b -> h.size <= b
  ne : ∀ b, blk nv = some b -> blk cv ≠ some b
end
end
section
open Go Go.TJ Go.Conc Go.Proofs
section
variable {Γ : Type} {main : Bool} {S : Sit Γ} {δ : Ix Γ} {h h' : Hp} {R : Rec} {picks : List Int} {lL lW lY lV sP tv cv : Value} {last : Int} {C n most : Nat} {e : Int} {X : Us}
end
end
section
open Go Go.TJ Go.Conc Go.Proofs
structure ChkI (R : Rec) (lL lW lY lV sP : Value) (h0 : Hp) (C : Nat) (tv cv : Value) (last : Int) (thr : List Nat) (cl : List Int) (h : Hp) : Prop where
  up : Upd (fun _ => False) h0 h
  row : h[C]? = some (chkO R.e R.log.length lL lW lY lV sP R.most tv cv last)
  thr : SliceO h tv 3 1 thr.length (thr.map fun (n : Nat) => Value.int .i64 (n : Int))
  cel : SliceO h cv 2 1 cl.length (cl.map fun x => Value.int .i64 x)
  nC : h0.size <= C
  nt : ∀ b, blk tv = some b -> h0.size <= b
  nc : ∀ b, blk cv = some b -> h0.size <= b
def TI (R : Rec) (k : Nat) (thr : List Nat) : Prop := ∀ j t, thr[j]? = some t -> t <= R.log.length /\ ∀ i e, k <= i -> i < t -> R.log[i]? = some e -> e.thr ≠ j
theorem TI.mono {R : Rec} {k k' : Nat} {thr : List Nat} (x : TI R k thr) (hk : k <= k') : TI R k' thr := fun j t ht => ⟨(x j t ht).1, fun i e hi => (x j t ht).2 i e (by omega)⟩
theorem TI.set {R : Rec} {k j t : Nat} {thr : List Nat} (x : TI R k thr) (h1 : t <= R.log.length) (h2 : ∀ i e, k <= i -> i < t -> R.log[i]? = some e -> e.thr ≠ j) : TI R k (thr.set j t) := by
  intro j' t' ht
  by_cases e : j' = j
  · subst e
    have hlt : j' < thr.length := by have := (take_mid ht).2.2; simpa using this
    rw [List.getElem?_set_self hlt] at ht
    cases ht
    exact ⟨h1, h2⟩
  · rw [List.getElem?_set_ne (Ne.symm e)] at ht
    exact x j' t' ht
section
variable {R : Rec} {k j : Nat}
end
section
variable {Γ : Type} {main : Bool} {S : Sit Γ} {δ : Ix Γ} {h h' h0 : Hp} {R : Rec} {picks : List Int} {lL lW lY lV sP tv cv : Value} {last : Int} {C n k j : Nat} {e : Int} {X : Us} {thr : List Nat} {cl : List Int}
theorem ChkI.upd0 (I : ChkI R lL lW lY lV sP h0 C tv cv last thr cl h) (u : Upd (fun _ => False) h h') : ChkI R lL lW lY lV sP h0 C tv cv last thr cl h' :=
  ⟨I.up.trans u, u.get I.row (fun x => x), I.thr.upd u (fun _ _ x => x), I.cel.upd u (fun _ _ x => x), I.nC, I.nt, I.nc⟩
theorem ChkI.other (I : ChkI R lL lW lY lV sP h0 C tv cv last thr cl h) {y : Nat} {vs : List Value} (hy : h[y]? = some (accO vs)) (hy0 : h0.size <= y) (o : Obj) : ChkI R lL lW lY lV sP h0 C tv cv last thr cl (h.setIfInBounds y o) := by
  have u : Upd (fun b => b = y) h (h.setIfInBounds y o) := Upd.set _ _ _ rfl
  have hyC : C ≠ y := fun e => by
    have := I.row
    rw [e, hy] at this
    injection this with this
    injection this with _ this _
    revert this; decide
  exact ⟨I.up.over u (fun b hb => by omega), u.get I.row hyC, I.thr.upd u (sliceO_ne I.thr hy (by decide)), I.cel.upd u (sliceO_ne I.cel hy (by decide)), I.nC, I.nt, I.nc⟩
end
end
section
open Go Go.TJ Go.Conc Go.Proofs
section
variable {Γ : Type} {main : Bool} {S : Sit Γ} {δ : Ix Γ} {h h' h0 : Hp} {R : Rec} {picks : List Int} {lL lW lY lV sP tv cv : Value} {last : Int} {C n k j : Nat} {e : Int} {X : Us} {thr : List Nat} {cl : List Int}
end
end
section
open Go Go.TJ Go.Conc Go.Proofs
section
variable {Γ : Type} {main : Bool} {S : Sit Γ} {δ : Ix Γ} {h h' h0 : Hp} {R : Rec} {picks : List Int} {lL lW lY lV sP tv cv : Value} {last : Int} {C n k j : Nat} {e : Int} {X : Us} {thr : List Nat} {cl : List Int}
end
end
section
open Go Go.TJ Go.Conc Go.Proofs
section
variable {Γ : Type} {main : Bool} {S : Sit Γ} {δ : Ix Γ} {h h' h0 : Hp} {R : Rec} {picks : List Int} {lL lW lY lV sP tv cv : Value} {X : Us}
end
end
section
open Go Go.TJ Go.Conc Go.Proofs
theorem exists_inj {n : Nat} (B : Nat -> Nat) (m : Nat) (inj : ∀ j k, j < n -> k < n -> B j = B k -> j = k) (lt : ∀ k, k < n -> B k < m) : ∃ B' : Nat -> Nat, (∀ k, k < n -> B' k = B k) /\ ∀ j k, B' j = B' k -> j = k := by
  refine ⟨fun k => if k < n then B k else m + k, fun k hk => if_pos hk, fun j k e => ?_⟩
  dsimp only at e
  by_cases hj : j < n <;> by_cases hk : k < n
  · rw [if_pos hj, if_pos hk] at e; exact inj j k hj hk e
  · rw [if_pos hj, if_neg hk] at e; have := lt j hj; omega
  · rw [if_neg hj, if_pos hk] at e; have := lt k hk; omega
  · rw [if_neg hj, if_neg hk] at e; omega
theorem exists_back {B : Nat -> Nat} (inj : ∀ j k, B j = B k -> j = k) : ∃ idx : Nat -> Nat, ∀ k, idx (B k) = k := by
  classical
  refine ⟨fun b => if h : ∃ k, B k = b then Classical.choose h else 0, fun k => ?_⟩
  have h : ∃ j, B j = B k := ⟨k, rfl⟩
  simp only [dif_pos h]
  exact inj _ _ (Classical.choose_spec h)
def failE (e : Ev) : Bool := e.thr == 0 && (e.op == 3 && !e.ok)
def failN (l : List Ev) : Nat := (l.filter failE).length
theorem failN_snoc {l : List Ev} {e : Ev} : failN (l ++ [e]) = failN l + if failE e then 1 else 0 := by
  unfold failN
  rw [List.filter_append, List.length_append]
  cases h : failE e <;> simp [h]
theorem failN_logT {B : Nat -> Nat} : failN (logT B) = 1 := by
  unfold failN logT
  rw [List.filter_map]
  rw [List.length_map]
  exact endT_fail
theorem si_end : SI 2 endT.2.2.2 1 := by
  obtain ⟨e2, e6, e3, e8, -⟩ := endT_v
  generalize endT.2.2.2 = v at e2 e6 e3 e8 ⊢
  refine ⟨e2, fun k h1 h2 => ?_, ?_, fun k h1 h2 => ?_⟩
  · obtain rfl : k = 1 := by omega
    exact e6
  · rw [e3]; rfl
  · obtain rfl : k = 2 := by omega
    exact e8
theorem trun2_ok {B : Nat -> Nat} {v1 v0 : Nat -> Int} {hN : Hp} {sB gB fB : Nat} {pv bv : Value} (x : TPre B v1 hN sB gB fB pv bv) (hv0 : (fun k => v0 (B k)) = v0T) :
    CallW Try.prog true (SwS Try.prog) 17 #[pv, .int .i64 200, bv] hN ⟨0, 1⟩ (Ret fun v h' δ' => (∃ m, δ' = ⟨0, m⟩) /\ ∃ (lL lW lY lV gv : Value) (lg : List Ev) (vE : Nat -> Int), failN lg = 1 /\ lg.length < 200 /\ SI 2 vE 1 /\ vE 7 = 3 /\ v = .agg (repL 1 lg.length lL lW lY lV).toArray /\ SliceO h' lL 75 8 lg.length (lg.flatMap (entL (nums lg))) /\
      (∃ a k, lW = .slice a lg.length k) /\ (∃ a n k, lY = .slice a n k) /\ (∃ a n k, lV = .slice a n k) /\
      h'[gB]? = some (.cells #[gv] 64 (0, 0)) /\ SliceO h' gv 2 1 3 [.int .i64 2, .int .i64 1, .int .i64 4] /\ h'[sB]? = some (.cells #[ptr (B 0)] 41 (0, 0)) /\ Rep h' (stkM 2 B vE) /\ hN.size <= h'.size /\ ∀ b, b < hN.size -> ¬ isCT B b -> b ≠ gB -> blk bv ≠ some b -> blk pv ≠ some b -> h'[b]? = hN[b]?) := by
  refine (trun_ok x hv0).mono ?_
  rintro (v | p) h' δ' y
  · obtain ⟨m, lL, lW, lY, lV, gv, z⟩ := y
    refine ⟨m, lL, lW, lY, lV, gv, logT B, endT.2.2.2, failN_logT, ?_, si_end, endT_v.2.2.2.2, z⟩
    unfold logT
    rw [List.length_map]
    have := endT_len
    generalize endT.1.length = q at this ⊢
    exact Nat.le_of_ble_eq_true this
  · exact y.elim
set_option maxRecDepth 8000 in
set_option maxHeartbeats 40000000 in
theorem straplaw_ok {h : Hp} : CallW Try.prog true (SwS Try.prog) 5 #[] h ⟨0, 1⟩ (Ret fun v h' δ' => δ'.d = 0 /\ v = .bool true /\ Upd (fun _ => False) h h') := by
  have no : ∀ a, ¬ (SwS Try.prog).still 1 a := fun a x => x
  refine CallW.start (n := 131) rfl rfl ?_
  (repeat (first | refine EK.seq ?_ | refine EK.region ?_ | refine ER.done ?_ | refine ER.assign rfl rfl rfl ?_))
  refine ER.callR rfl rfl rfl rfl rfl (stkworks_ok.noS no) ?_
  rintro _ h1 δ1 ⟨rfl, u1, rfl⟩
  (repeat (first | refine EK.seq ?_ | refine EK.region ?_ | refine ER.done ?_ | refine EK.skip ?_ | refine ER.notB rfl rfl rfl ?_ | refine EK.condF rfl ?_))
  refine ER.callR rfl rfl rfl rfl rfl ((stknew_ok (n := 2) (by omega) (by omega) (fun _ _ _ x => x)).noS no) ?_
  rintro _ h2 δ2 ⟨rfl, u2, B0, rfl, r2, ab0⟩
  have uu := u1.trans u2
  obtain ⟨B, hB, inj⟩ := exists_inj B0 h2.size (fun j k hj hk e => r2.inj j k hj hk e) (fun k hk => r2.lt (k := k) hk)
  have ab : ∀ k, k < 10 -> h.size <= B k := fun k hk => by rw [hB k hk]; exact Nat.le_trans u1.size (ab0 k hk)
  have lt2 : ∀ k, k < 10 -> B k < h2.size := fun k hk => by rw [hB k hk]; exact r2.lt (k := k) hk
  replace r2 : Rep h2 (stkM 2 B vNewT) := by
    refine r2.congr (fun k hk => hk) hB (fun k hk => ?_)
    have hk' : k < 10 := hk
    show (if k = 0 then _ else if k = 1 then _ else _) = (if k = 0 then _ else if k = 1 then _ else _)
    by_cases k0 : k = 0
    · rw [if_pos k0, if_pos k0, hB 2 (by omega), hB 3 (by omega), hB 1 (by omega)]
    · by_cases k1 : k = 1
      · rw [if_neg k0, if_pos k1, if_neg k0, if_pos k1]
        show Obj.cells (itemsL 3 B).toArray _ _ = Obj.cells (itemsL 3 B0).toArray _ _
        have : itemsL 3 B = itemsL 3 B0 := by
          show [ptr (B (4 + 2 * 0)), ptr (B (5 + 2 * 0)), ptr (B (4 + 2 * 1)), ptr (B (5 + 2 * 1)), ptr (B (4 + 2 * 2)), ptr (B (5 + 2 * 2))] = [ptr (B0 (4 + 2 * 0)), ptr (B0 (5 + 2 * 0)), ptr (B0 (4 + 2 * 1)), ptr (B0 (5 + 2 * 1)), ptr (B0 (4 + 2 * 2)), ptr (B0 (5 + 2 * 2))]
          rw [hB (4 + 2 * 0) (by omega), hB (5 + 2 * 0) (by omega), hB (4 + 2 * 1) (by omega), hB (5 + 2 * 1) (by omega), hB (4 + 2 * 2) (by omega), hB (5 + 2 * 2) (by omega)]
        rw [this]
      · rw [if_neg k0, if_neg k1, if_neg k0, if_neg k1]; rfl
  rw [<- hB 0 (by omega)]
  clear ab0 hB u1 u2
  have own : ∀ b, KOwn 2 B b -> h.size <= b := fun b ⟨k, hk, e⟩ => e ▸ ab k hk
  (repeat (first | refine ER.move rfl rfl rfl ?_ | refine ER.extract rfl rfl rfl rfl ?_ | refine ER.alloc rfl rfl ?_))
  refine ER.storeNew rfl rfl rfl rfl ⟨nofun, nofun⟩ (no _) ?_
  obtain ⟨sB, hsB⟩ : ∃ sB, sB = h2.size := ⟨_, rfl⟩
  refine ER.gen (fun h' => Upd (fun _ => False) h2 h' /\ h'[sB]? = some (.cells #[ptr (B 0)] 41 (0, 0))) ⟨Upd.push _ _, by rw [hsB]; exact get_push_new _ _⟩ ?_
  rw [<- hsB]
  rintro h3 ⟨u3, gs⟩
  have r3 := r2.upd0 u3
  have hh2 := uu.size
  have nsB : ∀ k, k < 10 -> B k ≠ sB := fun k hk => by have := lt2 k hk; omega
  have nown : ∀ {y : Nat}, h2.size <= y -> ¬ KOwn 2 B y := fun {y} hy ⟨k, hk, e⟩ => by have := lt2 k hk; omega
  replace uu := uu.trans u3
  clear u3 r2
  have cs : hcell h3 ⟨sB, 0, none⟩ = some (ptr (B 0)) := hcell_of gs rfl
  (repeat (first | refine EK.seq ?_ | refine EK.region ?_ | refine ER.done ?_ | refine ER.move rfl rfl rfl ?_ | refine ER.assign rfl rfl rfl ?_ | refine ER.load1 rfl rfl rfl (hcell_of (by assumption) rfl) ?_ | refine ER.cmpF rfl rfl rfl rfl rfl (by first | (dsimp only [cmpP]; omega) | exact rfl | exact Int.le_refl _) ?_))
  refine ER.callR rfl rfl rfl rfl rfl ((kpushX (k := 1) (x := 1) r3 (by omega) (by decide) (by omega) (by omega) (fun _ _ _ x => x)).noS no) ?_
  rintro _ h4 δ4 ⟨rfl, rfl, r4, u4⟩
  replace gs := u4.get gs (nown (by omega))
  replace uu := uu.over u4 own
  have s4 := u4.size
  clear cs u4 r3
  have cs : hcell h4 ⟨sB, 0, none⟩ = some (ptr (B 0)) := hcell_of gs rfl
  (repeat (first | refine ER.move rfl rfl rfl ?_ | refine ER.load1 rfl rfl rfl (hcell_of (by assumption) rfl) ?_ | refine ER.pickF rfl rfl rfl rfl ?_ | refine ER.cmpF rfl rfl rfl rfl rfl (by first | (dsimp only [cmpP]; omega) | exact rfl | exact Int.le_refl _) ?_))
  refine ER.callR rfl rfl rfl rfl rfl ((kpushX (k := 2) (x := 2) r4 (by omega) (by decide) (by omega) (by omega) (fun _ _ _ x => x)).noS no) ?_
  rintro _ h5 δ5 ⟨rfl, rfl, r5, u5⟩
  replace gs := u5.get gs (nown (by omega))
  replace uu := uu.over u5 own
  have s5 := u5.size
  have hs3 : sB < h5.size := lt_of_get gs
  clear cs u5 r4
  (repeat (first | refine EK.seq ?_ | refine ER.done ?_))
  (repeat (first | refine EK.seq ?_ | refine EK.region ?_ | refine ER.done ?_ | refine EK.skip ?_ | refine ER.pickF rfl rfl rfl rfl ?_ | refine ER.cmpF rfl rfl rfl rfl rfl (by first | (dsimp only [cmpP]; omega) | exact rfl | exact Int.le_refl _) ?_ | refine ER.alloc rfl rfl ?_ | refine EK.condF rfl ?_))
  obtain ⟨gB, hgB⟩ : ∃ gB, gB = h5.size := ⟨_, rfl⟩
  refine ER.gen (fun h' => Upd (fun _ => False) h5 h' /\ h'[gB]? = some (.cells #[nilS] 64 (0, 0))) ⟨Upd.push _ _, by rw [hgB]; exact get_push_new _ _⟩ ?_
  rw [<- hgB]
  rintro h6 ⟨u6, gg⟩
  replace gs := u6.get gs (fun x => x)
  have r6 := r5.upd0 u6
  replace uu := uu.trans u6
  have s6 := u6.size
  have hg6 : gB < h6.size := lt_of_get gg
  clear u6 r5
  refine ER.makeFunc (fv := #[]) (cv := #[ptr sB, ptr gB]) rfl rfl (fun ρ hρ => ⟨map_ofL hρ (vs := []) rfl, map_ofL hρ (vs := [ptr sB, ptr gB]) rfl⟩) ?_
  (repeat refine ER.alloc rfl rfl ?_)
  refine ER.storeNew rfl rfl rfl rfl ⟨nofun, nofun⟩ (no _) ?_
  obtain ⟨fB, hfB⟩ : ∃ fB, fB = h6.size := ⟨_, rfl⟩
  refine ER.gen (fun h' => Upd (fun _ => False) h6 h' /\ h'[fB]? = some (.cells #[popF sB gB] 45 (0, 0))) ⟨Upd.push _ _, by rw [hfB]; exact get_push_new _ _⟩ ?_
  rw [<- hfB]
  rintro h7 ⟨u7, gf⟩
  replace gs := u7.get gs (fun x => x)
  replace gg := u7.get gg (fun x => x)
  have r7 := r6.upd0 u7
  replace uu := uu.trans u7
  have s7 := u7.size
  have hf7 : fB < h7.size := lt_of_get gf
  clear u7 r6
  (repeat (first | refine EK.seq ?_ | refine EK.region ?_ | refine ER.done ?_))
  refine ER.sliceN (z := .int .i64 0) (cells := #[.int .i64 0, .int .i64 0]) rfl rfl rfl (by omega) (by omega) (by kernel_rfl) ?_
  obtain ⟨pB, hpB⟩ : ∃ pB, pB = h7.size := ⟨_, rfl⟩
  have u8 := Upd.push (T := fun _ => False) h7 (.cells #[.int .i64 0, .int .i64 0] 3)
  have sl0 : SliceO (h7.push (.cells #[.int .i64 0, .int .i64 0] 3)) (.slice (some ⟨pB, 0, none⟩) 2 2) 3 1 (2 + 0) (([0, 0] ++ List.replicate 0 1 : List Int).map fun x => .int .i64 x) := ⟨rfl, .inr ⟨pB, 2, [], rfl, Nat.le_refl _, rfl, by rw [hpB]; exact get_push_new _ _⟩⟩
  rw [<- hpB]
  (repeat (first | refine EK.seq ?_ | refine EK.region ?_ | refine ER.done ?_ | refine EK.block ?_ | refine ER.assign rfl rfl rfl ?_))
  refine EK.loopInv (fun q : Nat × Value => [(6, .int .i64 q.1), (5, q.2), (4, ptr fB), (3, ptr gB), (1, ptr sB), (0, .bool false)]) (fun q h' δ' => δ' = ⟨0, 1⟩ /\ q.1 <= 30 /\ SliceO h' q.2 3 1 (2 + q.1) (([0, 0] ++ List.replicate q.1 1 : List Int).map fun x => .int .i64 x) /\ Upd (fun b => h7.size <= b) h7 h' /\ ∀ b, blk q.2 = some b -> h7.size <= b) (fun q => 30 - q.1) (0, .slice (some ⟨pB, 0, none⟩) 2 2) ⟨rfl, rfl, rfl, rfl, rfl, rfl, trivial⟩ ⟨rfl, Nat.zero_le _, sl0, u8.mono (fun _ _ z => z.elim), fun b hb => by have e : some pB = some b := hb; injection e with e; omega⟩ ?_
  clear sl0 u8 hpB
  rintro ⟨i, s⟩ h8 δ8 ⟨hδ, hi, sl, u8, hb⟩ again
  dsimp only at hδ hi sl u8 hb again ⊢
  subst hδ
  by_cases hin : i < 30
  · obtain ⟨a5, k5, e5⟩ := sl.val
    rw [e5] at sl
    subst e5
    (repeat (first | refine EK.seq ?_ | refine EK.region ?_ | refine ER.done ?_ | refine EK.skip ?_ | refine EK.block ?_ | refine ER.move rfl rfl rfl ?_ | refine ER.cmpT rfl rfl rfl rfl rfl (by first | (dsimp only [cmpP]; omega) | exact rfl | exact Int.le_refl _) ?_ | refine EK.condT rfl ?_))
    refine ER.slice1 (sz := 1) (z := .int .i64 0) (cells := #[.int .i64 1]) rfl rfl rfl (by omega) (by omega) (by rfl) rfl ?_
    have u9 := Upd.push (T := fun _ => False) h8 (.cells #[.int .i64 1] 3)
    have hh8 := u8.size
    refine ER.append1 (new := [.int .i64 1]) rfl rfl rfl rfl (sl.upd u9 (fun _ _ z => z)) (get_push_new _ _) rfl (by simp [OneCell]) (by omega) (by omega) (by rfl) (fun _ _ _ => no _) ?_
    intro s9 h9 sl9 u10 hb9
    have e6 : ((([0, 0] ++ List.replicate i 1 : List Int).map fun x => Value.int .i64 x) ++ [.int .i64 1]) = (([0, 0] ++ List.replicate (i + 1) 1 : List Int).map fun x => Value.int .i64 x) := by
      rw [List.replicate_succ']; simp
    rw [e6] at sl9
    (repeat (first | refine EK.region ?_ | refine ER.done ?_ | refine EK.inBlock ?_ | refine ER.move rfl rfl rfl ?_ | refine ER.assign rfl rfl rfl ?_ | refine ER.add (kd := .i64) rfl rfl rfl rfl (i64_in (by omega) (by omega)) ?_))
    exact EK.back (again (i + 1, s9) _ _ (by dsimp only; omega) ⟨rfl, by dsimp only; omega, sl9, (u8.trans (u9.mono (fun _ _ z => z.elim))).trans (u10.mono (fun b _ e => hb b e)), fun b e => by
      rcases hb9 b e with z | z
      · exact hb b z
      · rw [Array.size_push] at z; omega⟩) ⟨rfl, rfl, rfl, rfl, rfl, rfl, trivial⟩
  · obtain rfl : i = 30 := by omega
    clear again hin hi
    have nb7 : ∀ b, b < h7.size -> ¬ h7.size <= b := fun b hb => by omega
    have gs8 := u8.get gs (by omega)
    have gg8 := u8.get gg (by omega)
    have gf8 := u8.get gf (by omega)
    have r8 : Rep h8 (stkM 2 B (pushV (pushV vNewT 1 1) 2 2)) := r7.upd u8 (fun k hk e => by have := r7.lt hk; omega)
    have uu8 := uu.over u8 (fun b e => Nat.le_trans uu.size e)
    have cf : hcell h8 ⟨fB, 0, none⟩ = some (popF sB gB) := hcell_of gf8 rfl
    (repeat (first | refine EK.seq ?_ | refine EK.region ?_ | refine ER.done ?_ | refine ER.move rfl rfl rfl ?_ | refine ER.assign rfl rfl rfl ?_ | refine ER.load1 rfl rfl rfl (hcell_of (by assumption) rfl) ?_ | refine ER.cmpF rfl rfl rfl rfl rfl (by first | (dsimp only [cmpP]; omega) | exact rfl | exact Int.le_refl _) ?_ | refine EK.condF rfl ?_ | refine EK.exit rfl ?_))
    refine ER.makeFunc (fv := #[]) (cv := #[ptr fB, ptr sB, ptr gB]) rfl rfl (fun ρ hρ => ⟨map_ofL hρ (vs := []) rfl, map_ofL hρ (vs := [ptr fB, ptr sB, ptr gB]) rfl⟩) ?_
    refine ER.sliceN (z := .nilFunc) (cells := #[popF sB gB, bothF fB sB gB]) rfl rfl rfl (by omega) (by omega) (by kernel_rfl) ?_
    have u9 := Upd.push (T := fun _ => False) h8 (.cells #[popF sB gB, bothF fB sB gB] 45)
    have gb9 := get_push_new h8 (.cells #[popF sB gB, bothF fB sB gB] 45)
    have hh8 := u8.size
    have pre : TPre B (pushV (pushV vNewT 1 1) 2 2) (h8.push (.cells #[popF sB gB, bothF fB sB gB] 45)) sB gB fB s (.slice (some ⟨h8.size, 0, none⟩) 2 2) :=
      ⟨r8.upd0 u9, inj, v0T_eq, u9.get gs8 (fun x => x), u9.get gg8 (fun x => x), u9.get gf8 (fun x => x), ⟨rfl, .inr ⟨h8.size, 2, [], rfl, Nat.le_refl _, rfl, gb9⟩⟩, fun e => by
        have e' : some h8.size = some fB := e
        injection e' with e'
        omega, sl.upd u9 (fun _ _ z => z)⟩
    obtain ⟨idx, hidx⟩ := exists_back inj
    refine ER.callR rfl rfl rfl rfl rfl (trun2_ok pre (v0 := fun b => v0T (idx b)) (funext fun k => by rw [hidx k])) ?_
    rintro _ h10 δ10 ⟨⟨m, rfl⟩, lL, lW, lY, lV, gv, lg, vE, fN, hN, hSI, v7, rfl, hlog, ⟨aw, kw, ew⟩, ⟨ay, ny, ky, ey⟩, ⟨av, nv, kv, ev⟩, gg10, slg, gs10, r10, sz10, keep⟩
    have uu10 : Upd (fun _ => False) h h10 := by
      have w9 := uu8.trans u9
      refine ⟨Nat.le_trans w9.size sz10, fun b hb' _ => ?_⟩
      have hb8 : b < h8.size := Nat.lt_of_lt_of_le hb' uu8.size
      have hh := uu.size
      refine (keep b (by rw [Array.size_push]; omega) (fun ⟨k, _, hk, _, _, e⟩ => by have := ab k hk; omega) (by omega) (fun e => by
        have e' : some h8.size = some b := e
        injection e' with e'
        omega) (fun e => by have := hb b e; omega)).trans (w9.2 b hb' (fun x => x))
    have no7 : ∀ a, ¬ (SwS Try.prog).still m a := fun a x => x
    obtain ⟨aL, kL, eL⟩ := hlog.val
    rw [eL] at hlog
    subst eL ew ey ev
    clear keep pre u8 u9 gb9 sl gs8 gg8 gf8 r8 uu8 uu gs gg gf r7 hb cf
    (repeat refine ER.allocA rfl rfl ?_)
    refine ER.storeN (vs := repL 1 lg.length (.slice aL lg.length kL) (.slice aw lg.length kw) (.slice ay ny ky) (.slice av nv kv)) rfl rfl rfl rfl (by simp [OneCell]) (fun j hj => ⟨?_, hfroz_of (get_push_new _ _), no7 _⟩) ?_
    · have hj' : j < 7 := hj
      rcases (show j = 0 \/ j = 1 \/ j = 2 \/ j = 3 \/ j = 4 \/ j = 5 \/ j = 6 by omega) with rfl | rfl | rfl | rfl | rfl | rfl | rfl <;> exact ⟨_, hcell_of (get_push_new _ _) rfl⟩
    rw [hsetRow_push (c := [.int .i8 0, .int .i64 0, nilS, nilS, nilS, nilS, nilS]) (vs := repL 1 lg.length (.slice aL lg.length kL) (.slice aw lg.length kw) (.slice ay ny ky) (.slice av nv kv)) rfl]
    obtain ⟨rB, hrB⟩ : ∃ rB, rB = h10.size := ⟨_, rfl⟩
    refine ER.gen (fun h' => Upd (fun _ => False) h10 h' /\ h'[rB]? = some (.cells (repL 1 lg.length (.slice aL lg.length kL) (.slice aw lg.length kw) (.slice ay ny ky) (.slice av nv kv)).toArray 49 (0, 0))) ⟨Upd.push _ _, by rw [hrB]; exact get_push_new _ _⟩ ?_
    rw [<- hrB]
    clear hrB
    rintro h11 ⟨v11, gr⟩
    replace gg10 := v11.get gg10 (fun x => x)
    replace gs10 := v11.get gs10 (fun x => x)
    replace slg := slg.upd v11 (fun _ _ z => z)
    replace hlog := hlog.upd v11 (fun _ _ z => z)
    replace r10 := r10.upd0 v11
    replace uu10 := uu10.trans v11
    clear v11 sz10 h10
    (repeat (first | refine EK.seq ?_ | refine EK.region ?_ | refine ER.done ?_ | refine EK.block ?_ | refine ER.assign rfl rfl rfl ?_))
    refine EK.loopInv (fun i : Nat => [(9, .int .i64 i), (8, ptr rB), (7, .int .i64 (failN (lg.take i) : Nat)), (3, ptr gB), (1, ptr sB), (0, .bool false)]) (fun i h' δ' => δ' = ⟨0, m⟩ /\ h' = h11 /\ i <= lg.length) (fun i => lg.length - i) 0 ⟨rfl, rfl, rfl, rfl, rfl, rfl, trivial⟩ ⟨rfl, rfl, Nat.zero_le _⟩ ?_
    rintro i h12 δ12 ⟨rfl, rfl, hi⟩ again
    have cL : hcell h12 ⟨rB, 2, none⟩ = some (.slice aL lg.length kL) := hcell_of gr rfl
    by_cases hin : i < lg.length
    · obtain ⟨e, he⟩ : ∃ e, lg[i]? = some e := ⟨_, List.getElem?_eq_getElem hin⟩
      obtain ⟨bL, eaL, hrow, -⟩ := slice_row (f := entL (nums lg)) (fun _ => rfl) hlog he
      subst eaL
      have c0 : hcell h12 ⟨bL, 0 + i * 8 + 0, none⟩ = some (.int .i64 e.thr) := hrow 0 _ rfl
      have c1 : hcell h12 ⟨bL, 0 + i * 8 + 1, none⟩ = some (.int .i8 e.op) := hrow 1 _ rfl
      have c7 : hcell h12 ⟨bL, 0 + i * 8 + 7, none⟩ = some (.bool e.ok) := hrow 7 _ rfl
      have nx := failN_snoc (l := lg.take i) (e := e)
      have et : lg.take (i + 1) = lg.take i ++ [e] := by rw [List.take_add_one, he]; rfl
      rw [<- et] at nx
      have fl : failN (lg.take i) <= i := by
        unfold failN
        exact Nat.le_trans (List.length_filter_le _ _) (by rw [List.length_take]; omega)
      generalize failN (lg.take i) = w at nx fl again ⊢
      clear et hrow
      by_cases f0 : e.thr = 0
      · have f0' : (e.thr : Int) = 0 := by omega
        by_cases f1 : e.op = 3
        · cases f7 : e.ok with
          | true =>
            rw [f7] at c7
            have ef : failE e = false := by simp [failE, f7]
            rw [ef] at nx
            (repeat (first | refine EK.seq ?_ | refine EK.region ?_ | refine ER.done ?_ | refine EK.skip ?_ | refine EK.block ?_ | refine EK.inBlock ?_ | refine ER.move rfl rfl rfl ?_ | refine ER.assign rfl rfl rfl ?_ | refine ER.fieldAddr rfl rfl rfl ?_ | refine ER.load1 rfl rfl rfl (hcell_of (by assumption) rfl) ?_ | refine ER.notB rfl rfl rfl ?_ | refine ER.pickT rfl rfl rfl rfl ?_ | refine ER.cmpT rfl rfl rfl rfl rfl (by first | (dsimp only [cmpP]; omega) | exact rfl | exact Int.le_refl _) ?_ | refine ER.add (kd := .i64) rfl rfl rfl rfl (i64_in (by omega) (by omega)) ?_ | refine ER.len1 rfl rfl rfl ?_ | refine ER.indexSl rfl rfl rfl rfl (by omega) (by omega) ?_ | refine EK.condT rfl ?_ | refine EK.condF rfl ?_ | refine ER.load1 rfl rfl rfl (by assumption) ?_))
            have ag := again (i + 1) _ _ (by omega) ⟨rfl, rfl, by omega⟩
            simp only [Bool.false_eq_true, if_false, Nat.add_zero] at nx
            rw [nx] at ag
            exact EK.back ag ⟨rfl, rfl, rfl, rfl, rfl, rfl, trivial⟩
          | false =>
            rw [f7] at c7
            have ef : failE e = true := by simp [failE, f0, f1, f7]
            rw [ef] at nx
            (repeat (first | refine EK.seq ?_ | refine EK.region ?_ | refine ER.done ?_ | refine EK.skip ?_ | refine EK.block ?_ | refine EK.inBlock ?_ | refine ER.move rfl rfl rfl ?_ | refine ER.assign rfl rfl rfl ?_ | refine ER.fieldAddr rfl rfl rfl ?_ | refine ER.load1 rfl rfl rfl (hcell_of (by assumption) rfl) ?_ | refine ER.notB rfl rfl rfl ?_ | refine ER.pickT rfl rfl rfl rfl ?_ | refine ER.cmpT rfl rfl rfl rfl rfl (by first | (dsimp only [cmpP]; omega) | exact rfl | exact Int.le_refl _) ?_ | refine ER.add (kd := .i64) rfl rfl rfl rfl (i64_in (by omega) (by omega)) ?_ | refine ER.len1 rfl rfl rfl ?_ | refine ER.indexSl rfl rfl rfl rfl (by omega) (by omega) ?_ | refine EK.condT rfl ?_ | refine ER.load1 rfl rfl rfl (by assumption) ?_))
            have ag := again (i + 1) _ _ (by omega) ⟨rfl, rfl, by omega⟩
            rw [if_pos rfl] at nx
            rw [nx] at ag
            exact EK.back ag ⟨rfl, rfl, rfl, rfl, rfl, rfl, trivial⟩
        · have ef : failE e = false := by simp [failE, f1]
          rw [ef] at nx
          (repeat (first | refine EK.seq ?_ | refine EK.region ?_ | refine ER.done ?_ | refine EK.skip ?_ | refine EK.block ?_ | refine EK.inBlock ?_ | refine ER.move rfl rfl rfl ?_ | refine ER.assign rfl rfl rfl ?_ | refine ER.fieldAddr rfl rfl rfl ?_ | refine ER.load1 rfl rfl rfl (hcell_of (by assumption) rfl) ?_ | refine ER.no rfl rfl ?_ | refine ER.pickT rfl rfl rfl rfl ?_ | refine ER.pickF rfl rfl rfl rfl ?_ | refine ER.cmpT rfl rfl rfl rfl rfl (by first | (dsimp only [cmpP]; omega) | exact rfl | exact Int.le_refl _) ?_ | refine ER.cmpF rfl rfl rfl rfl rfl (by first | (dsimp only [cmpP]; omega) | exact rfl | exact Int.le_refl _) ?_ | refine ER.add (kd := .i64) rfl rfl rfl rfl (i64_in (by omega) (by omega)) ?_ | refine ER.len1 rfl rfl rfl ?_ | refine ER.indexSl rfl rfl rfl rfl (by omega) (by omega) ?_ | refine EK.condT rfl ?_ | refine EK.condF rfl ?_ | refine ER.load1 rfl rfl rfl (by assumption) ?_))
          have ag := again (i + 1) _ _ (by omega) ⟨rfl, rfl, by omega⟩
          simp only [Bool.false_eq_true, if_false, Nat.add_zero] at nx
          rw [nx] at ag
          exact EK.back ag ⟨rfl, rfl, rfl, rfl, rfl, rfl, trivial⟩
      · have ef : failE e = false := by simp [failE, f0]
        rw [ef] at nx
        (repeat (first | refine EK.seq ?_ | refine EK.region ?_ | refine ER.done ?_ | refine EK.skip ?_ | refine EK.block ?_ | refine EK.inBlock ?_ | refine ER.move rfl rfl rfl ?_ | refine ER.assign rfl rfl rfl ?_ | refine ER.fieldAddr rfl rfl rfl ?_ | refine ER.load1 rfl rfl rfl (hcell_of (by assumption) rfl) ?_ | refine ER.no rfl rfl ?_ | refine ER.pickF rfl rfl rfl rfl ?_ | refine ER.cmpT rfl rfl rfl rfl rfl (by first | (dsimp only [cmpP]; omega) | exact rfl | exact Int.le_refl _) ?_ | refine ER.cmpF rfl rfl rfl rfl rfl (by first | (dsimp only [cmpP]; omega) | exact rfl | exact Int.le_refl _) ?_ | refine ER.add (kd := .i64) rfl rfl rfl rfl (i64_in (by omega) (by omega)) ?_ | refine ER.len1 rfl rfl rfl ?_ | refine ER.indexSl rfl rfl rfl rfl (by omega) (by omega) ?_ | refine EK.condT rfl ?_ | refine EK.condF rfl ?_ | refine ER.load1 rfl rfl rfl (by assumption) ?_))
        have ag := again (i + 1) _ _ (by omega) ⟨rfl, rfl, by omega⟩
        simp only [Bool.false_eq_true, if_false, Nat.add_zero] at nx
        rw [nx] at ag
        exact EK.back ag ⟨rfl, rfl, rfl, rfl, rfl, rfl, trivial⟩
    · obtain rfl : i = lg.length := by omega
      rw [List.take_length, fN]
      clear again hin cL
      have cs : hcell h12 ⟨sB, 0, none⟩ = some (ptr (B 0)) := hcell_of gs10 rfl
      have nk : ∀ {y : Nat} {a : Array Value} {t : TypeId}, h12[y]? = some (.cells a t (0, 0)) -> t ≠ 224 -> t ≠ 228 -> t ≠ 317 -> ¬ KOwn 2 B y := fun {y a t} hy t1 t2 t3 ⟨k, hk, e⟩ => by
        have h1 : h12[B k]? = some (if k = 0 then _ else if k = 1 then _ else _) := r10.has k hk
        rw [<- e, hy] at h1
        by_cases k0 : k = 0
        · rw [if_pos k0] at h1
          injection h1 with h1
          injection h1 with _ h1 _
          exact t1 h1
        · by_cases k1 : k = 1
          · rw [if_neg k0, if_pos k1] at h1
            injection h1 with h1
            injection h1 with _ h1 _
            exact t2 h1
          · rw [if_neg k0, if_neg k1] at h1
            injection h1 with h1
            injection h1 with _ h1 _
            exact t3 h1
      obtain ⟨-, ⟨-, q⟩ | ⟨bG, capG, restG, rfl, -, -, gG⟩⟩ := slg
      · cases q
      have n1 := nk gs10 (by decide) (by decide) (by decide)
      have n2 := nk gg10 (by decide) (by decide) (by decide)
      have n3 := nk gr (by decide) (by decide) (by decide)
      have n4 := nk gG (by decide) (by decide) (by decide)
      (repeat (first | refine EK.seq ?_ | refine EK.region ?_ | refine ER.done ?_ | refine ER.move rfl rfl rfl ?_ | refine ER.fieldAddr rfl rfl rfl ?_ | refine ER.load1 rfl rfl rfl (hcell_of (by assumption) rfl) ?_ | refine ER.cmpF rfl rfl rfl rfl rfl (by first | (dsimp only [cmpP]; omega) | exact rfl | exact Int.le_refl _) ?_ | refine ER.len1 rfl rfl rfl ?_ | refine EK.condF rfl ?_ | refine EK.exit rfl ?_))
      refine ER.callR rfl rfl rfl rfl rfl ((kpop_ok (j := 1) (x := 3) r10 (by omega) (by omega) (by omega) hSI v7 (fun _ _ _ x => x)).noS no7) ?_
      rintro _ h13 δ13 ⟨rfl, rfl, ⟨v2, r13, s13, -⟩, u13⟩
      replace gs10 := u13.get gs10 n1
      replace gg10 := u13.get gg10 n2
      replace gr := u13.get gr n3
      replace gG := u13.get gG n4
      replace uu10 := uu10.over u13 own
      clear cs u13 r10 hSI v7 nk
      have cs : hcell h13 ⟨sB, 0, none⟩ = some (ptr (B 0)) := hcell_of gs10 rfl
      (repeat (first | refine EK.seq ?_ | refine EK.region ?_ | refine ER.done ?_ | refine ER.move rfl rfl rfl ?_ | refine ER.assign rfl rfl rfl ?_ | refine ER.load1 rfl rfl rfl (hcell_of (by assumption) rfl) ?_ | refine ER.extract rfl rfl rfl rfl ?_))
      refine ER.callD rfl rfl rfl rfl rfl ((kpop_empty r13 s13).noS no7) ?_
      clear cs r13 s13
      have cg : hcell h13 ⟨gB, 0, none⟩ = some (.slice (some ⟨bG, 0, none⟩) 3 capG) := hcell_of gg10 rfl
      have ce : hcell h13 ⟨rB, 0, none⟩ = some (.int .i8 1) := hcell_of gr rfl
      have d0 : hcell h13 ⟨bG, 0 + 0 * 1, none⟩ = some (.int .i64 2) := hcell_of gG rfl
      have d1 : hcell h13 ⟨bG, 0 + 1 * 1, none⟩ = some (.int .i64 1) := hcell_of gG rfl
      have d2 : hcell h13 ⟨bG, 0 + 2 * 1, none⟩ = some (.int .i64 4) := hcell_of gG rfl
      (repeat (first | refine EK.seq ?_ | refine EK.region ?_ | refine ER.done ?_ | refine ER.move rfl rfl rfl ?_ | refine ER.assign rfl rfl rfl ?_ | refine ER.fieldAddr rfl rfl rfl ?_ | refine ER.load1 rfl rfl rfl (hcell_of (by assumption) rfl) ?_ | refine ER.notB rfl rfl rfl ?_ | refine ER.pickT rfl rfl rfl rfl ?_ | refine ER.extract rfl rfl rfl rfl ?_ | refine ER.cmpT rfl rfl rfl rfl rfl (by first | (dsimp only [cmpP]; omega) | exact rfl | exact Int.le_refl _) ?_ | refine ER.len1 rfl rfl rfl ?_ | refine ER.indexSl rfl rfl rfl rfl (by omega) (by omega) ?_ | refine EK.ret ?_))
      exact EU.ret1 rfl rfl ⟨rfl, rfl, uu10⟩
end
end Go.Proofs.Ytcpcdnkemobneaa
