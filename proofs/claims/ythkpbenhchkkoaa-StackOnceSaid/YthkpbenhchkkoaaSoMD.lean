/- Steps of the walk and of the plain law (H to SoM). Conditions: as each lemma says. -/
import Derived.Laws.BitsAllLaws
import Derived.Test.YthkpbenhchkkoaaSoMC
namespace Go.Proofs.Ythkpbenhchkkoaa
section
open Go Go.TJ Go.Conc Go.Proofs
section
variable {A : Type}
inductive GR (P : Nat -> Pr A) (v0 : Nat -> Int) : List Ev -> List (Nat × A) -> (Nat -> Pr A) -> (Nat -> Int) -> Prop
  | init : GR P v0 [] [] P v0
  | tell {l : List Ev} {g : List (Nat × A)} {S : Nat -> Pr A} {v : Nat -> Int} (i : Nat) : GR P v0 l g S v ->
      GR P v0 l (g ++ (norm (S i)).1.map fun a => (i, a)) (ut S i (norm (S i)).2) v
  | step {l : List Ev} {g : List (Nat × A)} {S : Nat -> Pr A} {v : Nat -> Int} {i : Nat} {r : Rq} {k : Int -> Pr A} : GR P v0 l g S v -> S i = .step r k ->
      GR P v0 (l ++ [evOf i r (v r.b)]) (g ++ (norm (k (v r.b))).1.map fun a => (i, a)) (ut S i (norm (k (v r.b))).2) (ut v r.b (behind r.op (v r.b) r.arg r.new).1)
variable {P : Nat -> Pr A} {v0 v : Nat -> Int} {l : List Ev} {g : List (Nat × A)} {S : Nat -> Pr A}
theorem norm_self : ∀ {p : Pr A}, (norm p).1 = [] -> (norm p).2 = p
  | .done, _ => rfl
  | .step _ _, _ => rfl
  | .emit _ _, h => by cases h
theorem GR.goes (x : GR P v0 l g S v) : ∀ i, Goes i (P i) (ownOf i l) (toldOf i g) (S i) := by
  induction x with
  | init => exact fun i => .nil _
  | @tell l g S v i _ ih =>
    intro j
    by_cases e : j = i
    · subst e
      rw [ut_same, toldOf_app, toldOf_own]
      exact (ih j).norm
    · rw [ut_ne _ _ e, toldOf_app, toldOf_other e, List.append_nil]
      exact ih j
  | @step l g S v i r k _ hS ih =>
    intro j
    by_cases e : j = i
    · subst e
      have g1 := ih j
      rw [hS] at g1
      have g2 := (g1.access (v r.b)).norm
      rw [ut_same, toldOf_app, toldOf_own]
      have : ownOf j (l ++ [evOf j r (v r.b)]) = ownOf j l ++ [evOf j r (v r.b)] := by simp [ownOf, evOf]
      rw [this]
      exact g2
    · rw [ut_ne _ _ e, toldOf_app, toldOf_other e, List.append_nil]
      have : ownOf j (l ++ [evOf i r (v r.b)]) = ownOf j l := by simp [ownOf, evOf, Ne.symm e]
      rw [this]
      exact ih j
theorem GR.left (x : GR P v0 l g S v) {i : Nat} {p : Pr A} (h : Goes i (P i) (ownOf i l) (toldOf i g) p) (hp : NoEm p) : S i = p := by
  obtain ⟨e1, e2⟩ := h.det (x.goes i).norm hp (norm_no _)
  have e3 : (norm (S i)).1 = [] := List.append_cancel_left (e1.trans (List.append_nil _).symm)
  exact (norm_self e3).symm.trans e2
theorem GR.next (x : GR P v0 l g S v) {i : Nat} {r : Rq} {k : Int -> Pr A} (h1 : Goes i (P i) (ownOf i l) (toldOf i g) (.step r k)) {es : List A} {p : Pr A} (hp : NoEm p) (h2 : Goes i (P i) (ownOf i l ++ [evOf i r (v r.b)]) (toldOf i g ++ es) p) :
    GR P v0 (l ++ [evOf i r (v r.b)]) (g ++ es.map fun a => (i, a)) (ut S i p) (ut v r.b (behind r.op (v r.b) r.arg r.new).1) := by
  have e1 : S i = .step r k := x.left h1 nofun
  have g2 := (h1.access (v r.b)).norm
  obtain ⟨e2, e3⟩ := g2.det h2 (norm_no _) hp
  have e4 : es = (norm (k (v r.b))).1 := List.append_cancel_left e2
  rw [e4, e3]
  exact .step x e1
theorem GR.first (x : GR P v0 l g S v) {i : Nat} {es : List A} {p : Pr A} (hp : NoEm p) (h2 : Goes i (P i) (ownOf i l) (toldOf i g ++ es) p) :
    GR P v0 l (g ++ es.map fun a => (i, a)) (ut S i p) v := by
  obtain ⟨e2, e3⟩ := ((x.goes i).norm).det h2 (norm_no _) hp
  have e4 : es = (norm (S i)).1 := List.append_cancel_left e2
  rw [e4, e3]
  exact .tell i x
def Within : Nat -> Pr A -> Prop
  | _, .done => True
  | n, .emit _ k => Within n k
  | n, .step _ k => ∃ m, n = m + 1 /\ ∀ w, Within m (k w)
theorem Within.mono {n m : Nat} : ∀ {p : Pr A}, Within n p -> n <= m -> Within m p := by
  intro p
  induction p generalizing n m with
  | done => exact fun _ _ => by unfold Within; trivial
  | emit a k ih => exact fun h hm => ih (n := n) h hm
  | step r k ih =>
    rintro ⟨n', rfl, h⟩ hm
    exact ⟨m - 1, by omega, fun w => ih w (h w) (by omega)⟩
theorem Within.goes {i n : Nat} {p q : Pr A} {l : List Ev} {o : List A} (g : Goes i p l o q) : Within n p -> l.length <= n := by
  induction g generalizing n with
  | nil p => exact fun _ => Nat.zero_le _
  | emit _ ih => exact fun h => ih h
  | step w _ ih =>
    rintro ⟨m, rfl, h⟩
    have := ih (h w)
    simp only [List.length_cons]
    omega
end
def UsN {A M : Type} (c : GC A M) : Us where
  U := List (Nat × A) × M
  isC := c.isC
  Dom := fun u b => c.Dom u.2 b
  I := fun u h => c.I u.1 u.2 h
  J := fun l u v => (∃ S, GR c.P c.v0 l u.1 S v) /\ c.JV v
  V := fun i u u' => ∃ es : List (Nat × A), u'.1 = u.1 ++ es /\ ∀ x, x ∈ es -> x.1 ≠ i
  Q := fun i l s u => ∃ p, Goes i (c.P i) l (toldOf i u.1) p /\ (match s with | .born => toldOf i u.1 = [] | .stands r => ∃ k, p = .step r k | .over => p = .done)
instance {A M : Type} (c : GC A M) : HasE (UsN c) := ⟨fun i u u' => ∃ es : List A, (show List (Nat × A) × M from u').1 = (show List (Nat × A) × M from u).1 ++ es.map fun a => (i, a)⟩
section
variable {A M : Type} {c : GC A M} {i : Nat} {γ : GG (UsN c)} {u : (UsN c).U} {L : List (Nat × Obj)} {h : Hp}
theorem toldOf_none {i : Nat} {es : List (Nat × A)} (h : ∀ x, x ∈ es -> x.1 ≠ i) : toldOf i es = [] := by
  unfold toldOf
  rw [List.filter_eq_nil_iff.2 (fun x hx => by simpa using h x hx)]
  rfl
theorem usN_told {u u' : (UsN c).U} (hv : (UsN c).V i u u') : toldOf i u'.1 = toldOf i u.1 := by
  obtain ⟨es, e, h⟩ := hv
  rw [e, toldOf_app, toldOf_none h, List.append_nil]
theorem usN_ok (loc : ∀ g m h h', (∀ b, c.Dom m b -> h'[b]? = h[b]?) -> c.I g m h -> c.I g m h') (dis : ∀ m b, c.Dom m b -> ¬ c.isC b) : (UsN c).Ok where
  vrefl := fun _ _ => ⟨[], (List.append_nil _).symm, fun _ hx => by cases hx⟩
  vtrans := fun i a b d h1 h2 => by
    obtain ⟨e1, q1, n1⟩ := h1
    obtain ⟨e2, q2, n2⟩ := h2
    exact ⟨e1 ++ e2, by rw [q2, q1, List.append_assoc], fun x hx => (List.mem_append.1 hx).elim (n1 x) (n2 x)⟩
  loc := fun u h h' hb I => loc u.1 u.2 h h' hb I
  stab := fun i l s u u' hv hq => by
    have hv' : toldOf i u'.1 = toldOf i u.1 := usN_told hv
    show ∃ p, Goes i (c.P i) l (toldOf i u'.1) p /\ _
    rw [hv']
    exact hq
  dis := fun u b hd hc => dis u.2 b hd hc
theorem usN_prog : Prog (UsN c) c.P (fun u i => toldOf i u.1) where
  Q := fun _ _ _ _ => Iff.rfl
  V := fun _i _u _u' hv => usN_told hv
theorem nrefl {i : Nat} {u : (UsN c).U} : HasE.E (X := UsN c) i u u := ⟨[], by simp⟩
theorem usN_reach (T : Thr (UsN c) i γ u L h) {p : Pr A} (hg : Goes i (c.P i) (ownOf i (γ.p.acc i).log) (toldOf i u.1) p) (he : HasE.E (X := UsN c) i γ.p.u u) : ∃ S, GR c.P c.v0 (γ.p.acc i).log (u.1 ++ (norm p).1.map fun a => (i, a)) (ut S i (norm p).2) (γ.p.acc i).val := by
  obtain ⟨⟨S, R⟩, -⟩ := T.J
  obtain ⟨es, he'⟩ := he
  have he : u.1 = γ.p.u.1 ++ es.map fun a => (i, a) := he'
  replace hg := hg.norm
  have e0 : u.1 ++ (norm p).1.map (fun a => (i, a)) = γ.p.u.1 ++ (es ++ (norm p).1).map fun a => (i, a) := by rw [he, List.map_append, List.append_assoc]
  rw [he, toldOf_app, toldOf_own, List.append_assoc] at hg
  rw [e0]
  generalize es ++ (norm p).1 = es' at hg ⊢
  have np := norm_no p
  generalize (norm p).2 = p' at hg np ⊢
  have stay : (γ.p.acc i) = γ.p -> ∃ S, GR c.P c.v0 (γ.p.acc i).log (γ.p.u.1 ++ es'.map fun a => (i, a)) (ut S i p') (γ.p.acc i).val := fun e => by
    rw [e] at hg ⊢
    exact ⟨S, R.first np hg⟩
  obtain ⟨q, hq, hs⟩ := T.Q i
  cases hst : γ.p.st i with
  | born => exact stay (acc_born _ _ hst)
  | over => exact stay (acc_over' _ _ hst)
  | stands r =>
    rw [hst] at hs
    obtain ⟨k, rfl⟩ := hs
    rw [acc_stands _ _ hst] at hg ⊢
    have e1 : ownOf i (γ.p.log ++ [evOf i r (γ.p.val r.b)]) = ownOf i γ.p.log ++ [evOf i r (γ.p.val r.b)] := by simp [ownOf, evOf]
    dsimp only at hg ⊢
    rw [e1] at hg
    exact ⟨S, R.next hq np hg⟩
theorem usN_j (T : Thr (UsN c) i γ u L h) {p : Pr A} (hg : Goes i (c.P i) (ownOf i (γ.p.acc i).log) (toldOf i u.1) p) (hp : NoEm p) (he : HasE.E (X := UsN c) i γ.p.u u) (hv : c.JV (γ.p.acc i).val) : (UsN c).J (γ.p.acc i).log u (γ.p.acc i).val := by
  obtain ⟨S, R⟩ := usN_reach T hg he
  have e1 : (norm p) = ([], p) := norm_of_no hp
  rw [e1] at R
  have e2 : u.1 ++ ([] : List A).map (fun a => (i, a)) = u.1 := by simp
  rw [e2] at R
  exact ⟨⟨_, R⟩, hv⟩
end
end
section
open Go Go.TJ Go.Proofs
def itemsL (i : Nat) (B : Nat -> Nat) : List Value := (List.range i).flatMap fun j => [ptr (B (4 + 2 * j)), ptr (B (5 + 2 * j))]
theorem itemsL_len (B : Nat -> Nat) : ∀ i, (itemsL i B).length = i * 2
  | 0 => rfl
  | i + 1 => by
    have := itemsL_len B i
    unfold itemsL at *
    rw [List.range_succ, List.flatMap_append, List.length_append, this]
    simp; omega
theorem itemsL_succ (i : Nat) (B : Nat -> Nat) : itemsL (i + 1) B = itemsL i B ++ [ptr (B (4 + 2 * i)), ptr (B (5 + 2 * i))] := by
  unfold itemsL
  rw [List.range_succ, List.flatMap_append]
  simp
theorem itemsL_congr {i : Nat} {B B' : Nat -> Nat} (h : ∀ k, 4 <= k -> k < 4 + 2 * i -> B k = B' k) : itemsL i B = itemsL i B' := by
  unfold itemsL
  rw [List.flatMap_def, List.flatMap_def]
  congr 1
  refine List.map_congr_left fun j hj => ?_
  have := List.mem_range.mp hj
  rw [h _ (by omega) (by omega), h _ (by omega) (by omega)]
theorem itemsL_get {n : Nat} (B : Nat -> Nat) : ∀ {i : Nat}, i < n -> (itemsL n B)[2 * i]? = some (ptr (B (4 + 2 * i))) /\ (itemsL n B)[2 * i + 1]? = some (ptr (B (5 + 2 * i))) := by
  induction n with
  | zero => intro i hi; omega
  | succ n ih =>
    intro i hi
    rw [itemsL_succ]
    by_cases h : i < n
    · have h1 := itemsL_len B n
      rw [List.getElem?_append_left (by omega), List.getElem?_append_left (by omega)]
      exact ih h
    · obtain rfl : i = n := by omega
      have h1 := itemsL_len B i
      rw [List.getElem?_append_right (by omega), List.getElem?_append_right (by omega), h1, show 2 * i - i * 2 = 0 by omega, show 2 * i + 1 - i * 2 = 1 by omega]
      exact ⟨rfl, rfl⟩
def stkM (n : Nat) (B : Nat -> Nat) (v : Nat -> Int) : Mem Nat := ⟨fun k => k < 6 + 2 * n, B, fun k =>
  if k = 0 then .cells #[ptr (B 2), ptr (B 3), .slice (some ⟨B 1, 0, none⟩) (n + 1) (n + 1)] 105 (0, 0)
  else if k = 1 then .cells (itemsL (n + 1) B).toArray 109 (0, 0)
  else cellO (v k)⟩
structure NewS (h0 : Hp) (n : Nat) (M : Mem Nat) (h' : Hp) : Prop where
  upd : Upd (fun _ => False) h0 h'
  rep : Rep h' M
  ok : ∀ k, M.ok k ↔ k < 4
  o0 : M.O 0 = .cells #[ptr (M.B 2), ptr (M.B 3), .slice (some ⟨M.B 1, 0, none⟩) (n + 1) (n + 1)] 105 (0, 0)
  o1 : M.O 1 = .cells (List.replicate ((n + 1) * 2) (Value.pointer none)).toArray 109 (0, 0)
  o2 : M.O 2 = cellO 0
  o3 : M.O 3 = cellO 1
  above : ∀ k, M.ok k -> h0.size <= M.B k
structure NewSI (h0 : Hp) (n : Nat) (T B2 B3 B1 : Nat) (M : Mem Nat) (i : Nat) (h' : Hp) : Prop where
  upd : Upd (fun _ => False) h0 h'
  rep : Rep h' M
  ok : ∀ k, M.ok k ↔ k < 4 + 2 * i
  b : M.B 0 = T /\ M.B 1 = B1 /\ M.B 2 = B2 /\ M.B 3 = B3
  o0 : M.O 0 = .cells #[ptr B2, ptr B3, .slice (some ⟨B1, 0, none⟩) (n + 1) (n + 1)] 105 (0, 0)
  o1 : M.O 1 = .cells (itemsL i M.B ++ List.replicate ((n + 1 - i) * 2) (Value.pointer none)).toArray 109 (0, 0)
  o2 : M.O 2 = cellO 0
  o3 : M.O 3 = cellO 1
  on : ∀ j, j < i -> M.O (4 + 2 * j) = cellO (((j + 1) % (n + 1) : Nat) : Int) /\ M.O (5 + 2 * j) = cellO 0
  above : ∀ k, M.ok k -> h0.size <= M.B k
theorem NewSI.step {h0 : Hp} {n T B2 B3 B1 : Nat} {M : Mem Nat} {i : Nat} {h : Hp} {c : Int} (x : NewSI h0 n T B2 B3 B1 M i h) (hi : i < n + 1) (hc : c = (((i + 1) % (n + 1) : Nat) : Int)) :
    ∃ M', NewSI h0 n T B2 B3 B1 M' (i + 1) (hsetRow ((h.push (cellO c)).push (cellO 0)) B1 (0 + i * 2) [ptr h.size, ptr (h.size + 1)]) := by
  have r1 := ((x.rep.put (4 + 2 * i) (cellO c)).put (5 + 2 * i) (cellO 0))
  rw [Array.size_push] at r1
  obtain ⟨M1, hM1⟩ : ∃ M1 : Mem Nat, M1 = (M.put (4 + 2 * i) h.size (cellO c)).put (5 + 2 * i) (h.size + 1) (cellO 0) := ⟨_, rfl⟩
  rw [<- hM1] at r1
  have bOld : ∀ k, k < 4 + 2 * i -> M1.B k = M.B k /\ M1.O k = M.O k := fun k hk => by
    rw [hM1]
    show ut (ut M.B _ _) _ _ k = _ /\ ut (ut M.O _ _) _ _ k = _
    rw [ut_ne _ _ (by omega), ut_ne _ _ (by omega), ut_ne _ _ (by omega), ut_ne _ _ (by omega)]
    exact ⟨rfl, rfl⟩
  have bN : M1.B (4 + 2 * i) = h.size /\ M1.O (4 + 2 * i) = cellO c := by
    rw [hM1]
    show ut (ut M.B _ _) _ _ _ = _ /\ ut (ut M.O _ _) _ _ _ = _
    rw [ut_ne _ _ (by omega), ut_same, ut_ne _ _ (by omega), ut_same]
    exact ⟨rfl, rfl⟩
  have bV : M1.B (5 + 2 * i) = h.size + 1 /\ M1.O (5 + 2 * i) = cellO 0 := by
    rw [hM1]
    exact ⟨ut_same _ _ _, ut_same _ _ _⟩
  have ok1 : ∀ k, M1.ok k ↔ k < 4 + 2 * (i + 1) := fun k => by
    rw [hM1]
    show (k = _ \/ k = _ \/ M.ok k) ↔ _
    rw [x.ok]; omega
  have hlen : (itemsL i M.B).length = i * 2 := itemsL_len _ _
  have o1' : M1.O 1 = .cells (itemsL i M.B ++ List.replicate ((n + 1 - i) * 2) (Value.pointer none)).toArray 109 (0, 0) := (bOld 1 (by omega)).2.trans x.o1
  have hb1 : M1.B 1 = B1 := (bOld 1 (by omega)).1.trans x.b.2.1
  have hB1 : ((h.push (cellO c)).push (cellO 0))[B1]? = some (.cells (itemsL i M.B ++ List.replicate ((n + 1 - i) * 2) (Value.pointer none)).toArray 109 (0, 0)) := hb1 ▸ r1.get ((ok1 1).2 (by omega)) o1'
  have hsz := x.upd.size
  have hge : h0.size <= B1 := x.b.2.1 ▸ x.above 1 ((x.ok 1).2 (by omega))
  rw [hsetRow_block [ptr h.size, ptr (h.size + 1)] (0 + i * 2) _ _ hB1 (by simp [hlen]; omega)]
  obtain ⟨on, hon⟩ : ∃ on : Obj, on = .cells (List.take (0 + i * 2) (itemsL i M.B ++ List.replicate ((n + 1 - i) * 2) (Value.pointer none)) ++ [ptr h.size, ptr (h.size + 1)] ++ List.drop (0 + i * 2 + [ptr h.size, ptr (h.size + 1)].length) (itemsL i M.B ++ List.replicate ((n + 1 - i) * 2) (Value.pointer none))).toArray 109 (0, 0) := ⟨_, rfl⟩
  rw [<- hon]
  have r2 := r1.set ((ok1 1).2 (by omega)) on
  rw [hb1] at r2
  refine ⟨_, ((x.upd.trans ((Upd.push _ _).trans (Upd.push _ _))).over (Upd.set (T := fun b => b = B1) _ _ _ rfl) (fun b hb => by omega)), r2, ok1, ⟨(bOld 0 (by omega)).1.trans x.b.1, hb1, (bOld 2 (by omega)).1.trans x.b.2.2.1, (bOld 3 (by omega)).1.trans x.b.2.2.2⟩, ?_, ?_, ?_, ?_, fun j hj => ?_, fun k hk => ?_⟩
  · show ut M1.O 1 on 0 = _
    rw [ut_ne _ _ (by omega), (bOld 0 (by omega)).2]; exact x.o0
  · show ut M1.O 1 on 1 = Obj.cells (itemsL (i + 1) M1.B ++ List.replicate ((n + 1 - (i + 1)) * 2) (Value.pointer none)).toArray 109 (0, 0)
    rw [ut_same, hon, itemsL_succ, bN.1, bV.1, itemsL_congr (B := M1.B) (B' := M.B) (i := i) (fun k _ hk => (bOld k hk).1)]
    have hd : ∀ q, List.drop ((itemsL i M.B).length + 2) (itemsL i M.B ++ List.replicate q (Value.pointer none)) = List.replicate (q - 2) (Value.pointer none) := fun q => by
      rw [List.drop_append, List.drop_eq_nil_of_le (by omega), List.nil_append, Nat.add_sub_cancel_left, List.drop_replicate]
    rw [show 0 + i * 2 = (itemsL i M.B).length by omega, List.take_left' rfl]
    show Obj.cells (itemsL i M.B ++ [ptr h.size, ptr (h.size + 1)] ++ List.drop ((itemsL i M.B).length + 2) _).toArray _ _ = _
    rw [hd, show (n + 1 - i) * 2 - 2 = (n + 1 - (i + 1)) * 2 by omega]
  · show ut M1.O 1 on 2 = _
    rw [ut_ne _ _ (by omega), (bOld 2 (by omega)).2]; exact x.o2
  · show ut M1.O 1 on 3 = _
    rw [ut_ne _ _ (by omega), (bOld 3 (by omega)).2]; exact x.o3
  · show ut M1.O 1 on (4 + 2 * j) = _ /\ ut M1.O 1 on (5 + 2 * j) = _
    rw [ut_ne _ _ (by omega), ut_ne _ _ (by omega)]
    by_cases e : j = i
    · subst e; rw [bN.2, bV.2, hc]; exact ⟨rfl, rfl⟩
    · rw [(bOld (4 + 2 * j) (by omega)).2, (bOld (5 + 2 * j) (by omega)).2]; exact x.on j (by omega)
  · have hk' := (ok1 k).1 hk
    show h0.size <= M1.B k
    rcases (show k < 4 + 2 * i \/ k = 4 + 2 * i \/ k = 5 + 2 * i by omega) with h1 | h1 | h1
    · rw [(bOld k h1).1]; exact x.above k ((x.ok k).2 h1)
    · subst h1; rw [bN.1]; exact hsz
    · subst h1; rw [bV.1]; omega
structure RSS where
  i : Nat
  M : Mem Nat
theorem EA.gen {Γ : Type} {P : Program} {main : Bool} {S : Sit Γ} {f : FuncId} {n : Nat} {ops : Array Oper} {Z : Hp -> Prop} {z m : Nat} {listed : Array Bool} {k : List Item} {env : Env} {ds : List Deferred} {h : Hp} {δ : Ix Γ} {R : Post Γ} (F : Hp -> Prop) (hF : F h) (hn : ∀ h', F h' -> EA P main S f n ops Z z m listed k env ds h' δ R) : EA P main S f n ops Z z m listed k env ds h δ R := hn h hF
theorem news_of {h hh : Hp} {n b1 b2 b3 : Nat} (u : Upd (fun _ => False) h hh) (g1 : hh[b1]? = some (.cells (List.replicate ((n + 1) * 2) (Value.pointer none)).toArray 109 (0, 0))) (g2 : hh[b2]? = some (cellO 0)) (g3 : hh[b3]? = some (cellO 1)) (d : b1 ≠ b2 /\ b1 ≠ b3 /\ b2 ≠ b3) (l : h.size <= b1 /\ h.size <= b2 /\ h.size <= b3) :
    NewS h n ⟨fun k => k < 4, fun k => if k = 0 then hh.size else if k = 1 then b1 else if k = 2 then b2 else b3, fun k => if k = 0 then .cells #[ptr b2, ptr b3, .slice (some ⟨b1, 0, none⟩) (n + 1) (n + 1)] 105 (0, 0) else if k = 1 then .cells (List.replicate ((n + 1) * 2) (Value.pointer none)).toArray 109 (0, 0) else if k = 2 then cellO 0 else cellO 1⟩
      (hh.push (.cells #[ptr b2, ptr b3, .slice (some ⟨b1, 0, none⟩) (n + 1) (n + 1)] 105)) := by
  have l1 := lt_of_get g1
  have l2 := lt_of_get g2
  have l3 := lt_of_get g3
  have hs := u.size
  refine ⟨u.trans (Upd.push _ _), ⟨fun k hk => ?_, fun i j hi hj e => ?_⟩, fun k => Iff.rfl, rfl, rfl, rfl, rfl, fun k hk => ?_⟩
  · have hk' : k < 4 := hk
    rcases (show k = 0 \/ k = 1 \/ k = 2 \/ k = 3 by omega) with rfl | rfl | rfl | rfl
    · exact get_push_new _ _
    · exact get_push _ g1
    · exact get_push _ g2
    · exact get_push _ g3
  · have hi' : i < 4 := hi
    have hj' : j < 4 := hj
    dsimp only at e
    (repeat' split at e) <;> omega
  · have hk' : k < 4 := hk
    dsimp only
    (repeat' split) <;> omega
section
variable {Γ : Type} {main : Bool} {S : Sit Γ} {h : Hp} {δ : Ix Γ}
set_option maxRecDepth 8000 in
set_option maxHeartbeats 4000000 in
theorem stknew_ok {n : Nat} (hn1 : 1 <= n) (hn : n <= 4096) (hF : ∀ b o, h.size <= b -> ¬ S.still δ.g ⟨b, o, none⟩) :
    CallW Try.prog main S 8 #[.int .i64 n] h δ (Ret fun w h' δ' => δ' = δ /\ Upd (fun _ => False) h h' /\ ∃ B, w = .tuple #[ptr (B 0), .int .i64 0] /\ Rep h' (stkM n B fun k => if k = 2 then 0 else if k = 3 then 1 else if k % 2 = 0 then (((k - 4) / 2 + 1) % (n + 1) : Nat) else 0) /\ ∀ k, k < 6 + 2 * n -> h.size <= B k) := by
  refine CallW.start (n := 44) rfl rfl ?_
  (repeat (first | refine EK.seq ?_ | refine EK.region ?_ | refine ER.done ?_ | refine EK.skip ?_ | refine ER.move rfl rfl rfl ?_ | refine ER.assign rfl rfl rfl ?_ | refine ER.pickF rfl rfl rfl rfl ?_ | refine ER.cmpF rfl rfl rfl rfl rfl (by first | (dsimp only [cmpP]; omega) | exact rfl | exact Int.le_refl _) ?_ | refine EK.condF rfl ?_))
  refine EK.regionAnyM (fun M : Mem Nat => [(4, ptr (M.B 0)), (0, .int .i64 n)]) (fun M h' δ' => δ' = δ /\ NewS h n M h') (fun _ => True) 1000000 (fun fin => ?_) ?_
  · have hZ := trivial
    refine EA.tMove 2 rfl (by kernel_rfl) rfl rfl rfl rfl hZ ?_
    refine EA.tAdd (kd := .i64) 3 rfl (by kernel_rfl) rfl rfl rfl rfl rfl (i64_in (by omega) (by omega)) hZ ?_
    refine EA.alt2 0 4 (by kernel_rfl) ?_ ?_
    · refine EAi.callD rfl rfl rfl rfl rfl rfl rfl (cnewS (hF _ _ (Nat.le_refl _))) trivial ?_
      refine EA.alt2 1 4 (by kernel_rfl) ?_ ?_
      · refine EAi.callD rfl rfl rfl rfl rfl rfl rfl (cnewS (hF _ _ (by simp))) trivial ?_
        have p3 := push3 h (cellO 0) (cellO 1) (.cells (List.replicate ((n + 1) * 2) (Value.pointer none)).toArray 109)
        refine EA.val (v := .slice (some ⟨((h.push (cellO 0)).push (cellO 1)).size, 0, none⟩) (n + 1) (n + 1)) (h' := ((h.push (cellO 0)).push (cellO 1)).push (.cells (List.replicate ((n + 1) * 2) (Value.pointer none)).toArray 109)) 4 rfl (by kernel_rfl) rfl rfl rfl (fun ρ Q X hρ hq => sem_makeSlice2 (m := n + 1) (u := Value.pointer none) (hρ _ _ rfl) (hρ _ _ rfl) (by omega) (by omega) (by omega) rfl hq) trivial ?_
        simp only [Array.size_push]
        refine EA.gen (fun hh => Upd (fun _ => False) h hh /\ hh[h.size + 2]? = some (.cells (List.replicate ((n + 1) * 2) (Value.pointer none)).toArray 109 (0, 0)) /\ hh[h.size]? = some (cellO 0) /\ hh[h.size + 1]? = some (cellO 1)) ⟨p3.1, p3.2.2.2.2, p3.2.2.1, p3.2.2.2.1⟩ ?_
        rintro hh ⟨u, g1, g2, g3⟩
        refine EA.val (v := .agg #[ptr (h.size), ptr (h.size + 1), .slice (some ⟨h.size + 2, 0, none⟩) (n + 1) (n + 1)]) (h' := hh) 5 rfl (by kernel_rfl) rfl rfl rfl (fun ρ Q X hρ hq => sem_buildS hρ rfl rfl hq) trivial ?_
        refine EA.val (v := ptr hh.size) (h' := hh.push (.cells #[ptr (h.size), ptr (h.size + 1), .slice (some ⟨h.size + 2, 0, none⟩) (n + 1) (n + 1)] 105)) 6 rfl (by kernel_rfl) rfl rfl rfl (fun ρ Q X hρ hq => by
          show SemW _ _ (Instr.box _ (ρ _) >>= fun v => pure (.value v)) _ _ Q X
          rw [hρ _ (.agg #[ptr (h.size), ptr (h.size + 1), .slice (some ⟨h.size + 2, 0, none⟩) (n + 1) (n + 1)]) rfl]
          exact ⟨thawed, hq⟩) trivial ?_
        refine EA.tAssign 7 rfl (by kernel_rfl) rfl rfl rfl rfl hZ ?_
        refine EA.done (by kernel_rfl) ?_
        exact EK.sub (e := [(4, ptr hh.size), (0, .int .i64 n)]) ⟨rfl, rfl, trivial⟩ (fin _ _ _ ⟨rfl, news_of u g1 g2 g3 ⟨by omega, by omega, by omega⟩ ⟨by omega, by omega, by omega⟩⟩)
      · refine EAi.val (v := .slice (some ⟨(h.push (cellO 0)).size, 0, none⟩) (n + 1) (n + 1)) (h' := (h.push (cellO 0)).push (.cells (List.replicate ((n + 1) * 2) (Value.pointer none)).toArray 109)) rfl rfl rfl rfl (fun ρ Q X hρ hq => sem_makeSlice2 (m := n + 1) (u := Value.pointer none) (hρ _ _ rfl) (hρ _ _ rfl) (by omega) (by omega) (by omega) rfl hq) trivial ?_
        have p3 := push3 h (cellO 0) (.cells (List.replicate ((n + 1) * 2) (Value.pointer none)).toArray 109) (cellO 1)
        refine EA.callD 1 rfl (by kernel_rfl) rfl rfl rfl rfl rfl rfl (cnewS (hF _ _ (by simp; omega))) trivial ?_
        simp only [Array.size_push]
        refine EA.gen (fun hh => Upd (fun _ => False) h hh /\ hh[h.size + 1]? = some (.cells (List.replicate ((n + 1) * 2) (Value.pointer none)).toArray 109 (0, 0)) /\ hh[h.size]? = some (cellO 0) /\ hh[h.size + 2]? = some (cellO 1)) ⟨p3.1, p3.2.2.2.1, p3.2.2.1, p3.2.2.2.2⟩ ?_
        rintro hh ⟨u, g1, g2, g3⟩
        refine EA.val (v := .agg #[ptr (h.size), ptr (h.size + 2), .slice (some ⟨h.size + 1, 0, none⟩) (n + 1) (n + 1)]) (h' := hh) 5 rfl (by kernel_rfl) rfl rfl rfl (fun ρ Q X hρ hq => sem_buildS hρ rfl rfl hq) trivial ?_
        refine EA.val (v := ptr hh.size) (h' := hh.push (.cells #[ptr (h.size), ptr (h.size + 2), .slice (some ⟨h.size + 1, 0, none⟩) (n + 1) (n + 1)] 105)) 6 rfl (by kernel_rfl) rfl rfl rfl (fun ρ Q X hρ hq => by
          show SemW _ _ (Instr.box _ (ρ _) >>= fun v => pure (.value v)) _ _ Q X
          rw [hρ _ (.agg #[ptr (h.size), ptr (h.size + 2), .slice (some ⟨h.size + 1, 0, none⟩) (n + 1) (n + 1)]) rfl]
          exact ⟨thawed, hq⟩) trivial ?_
        refine EA.tAssign 7 rfl (by kernel_rfl) rfl rfl rfl rfl hZ ?_
        refine EA.done (by kernel_rfl) ?_
        exact EK.sub (e := [(4, ptr hh.size), (0, .int .i64 n)]) ⟨rfl, rfl, trivial⟩ (fin _ _ _ ⟨rfl, news_of u g1 g2 g3 ⟨by omega, by omega, by omega⟩ ⟨by omega, by omega, by omega⟩⟩)
    · refine EAi.val (v := .slice (some ⟨(h).size, 0, none⟩) (n + 1) (n + 1)) (h' := (h).push (.cells (List.replicate ((n + 1) * 2) (Value.pointer none)).toArray 109)) rfl rfl rfl rfl (fun ρ Q X hρ hq => sem_makeSlice2 (m := n + 1) (u := Value.pointer none) (hρ _ _ rfl) (hρ _ _ rfl) (by omega) (by omega) (by omega) rfl hq) trivial ?_
      have p3 := push3 h (.cells (List.replicate ((n + 1) * 2) (Value.pointer none)).toArray 109) (cellO 0) (cellO 1)
      refine EA.callD 0 rfl (by kernel_rfl) rfl rfl rfl rfl rfl rfl (cnewS (hF _ _ (by simp))) trivial ?_
      refine EA.callD 1 rfl (by kernel_rfl) rfl rfl rfl rfl rfl rfl (cnewS (hF _ _ (by simp; omega))) trivial ?_
      simp only [Array.size_push]
      refine EA.gen (fun hh => Upd (fun _ => False) h hh /\ hh[h.size]? = some (.cells (List.replicate ((n + 1) * 2) (Value.pointer none)).toArray 109 (0, 0)) /\ hh[h.size + 1]? = some (cellO 0) /\ hh[h.size + 2]? = some (cellO 1)) ⟨p3.1, p3.2.2.1, p3.2.2.2.1, p3.2.2.2.2⟩ ?_
      rintro hh ⟨u, g1, g2, g3⟩
      refine EA.val (v := .agg #[ptr (h.size + 1), ptr (h.size + 2), .slice (some ⟨h.size, 0, none⟩) (n + 1) (n + 1)]) (h' := hh) 5 rfl (by kernel_rfl) rfl rfl rfl (fun ρ Q X hρ hq => sem_buildS hρ rfl rfl hq) trivial ?_
      refine EA.val (v := ptr hh.size) (h' := hh.push (.cells #[ptr (h.size + 1), ptr (h.size + 2), .slice (some ⟨h.size, 0, none⟩) (n + 1) (n + 1)] 105)) 6 rfl (by kernel_rfl) rfl rfl rfl (fun ρ Q X hρ hq => by
        show SemW _ _ (Instr.box _ (ρ _) >>= fun v => pure (.value v)) _ _ Q X
        rw [hρ _ (.agg #[ptr (h.size + 1), ptr (h.size + 2), .slice (some ⟨h.size, 0, none⟩) (n + 1) (n + 1)]) rfl]
        exact ⟨thawed, hq⟩) trivial ?_
      refine EA.tAssign 7 rfl (by kernel_rfl) rfl rfl rfl rfl hZ ?_
      refine EA.done (by kernel_rfl) ?_
      exact EK.sub (e := [(4, ptr hh.size), (0, .int .i64 n)]) ⟨rfl, rfl, trivial⟩ (fin _ _ _ ⟨rfl, news_of u g1 g2 g3 ⟨by omega, by omega, by omega⟩ ⟨by omega, by omega, by omega⟩⟩)
  · rintro M h1 δ1 ⟨rfl, N⟩
    have okM : ∀ k, k < 4 -> M.ok k := fun k hk => (N.ok k).2 hk
    have x0 : NewSI h n (M.B 0) (M.B 2) (M.B 3) (M.B 1) M 0 h1 := ⟨N.upd, N.rep, fun k => by rw [N.ok], ⟨rfl, rfl, rfl, rfl⟩, N.o0, by rw [N.o1]; rfl, N.o2, N.o3, fun j hj => by omega, N.above⟩
    have cT : hcell h1 ⟨M.B 0, 2, none⟩ = some (.slice (some ⟨M.B 1, 0, none⟩) (n + 1) (n + 1)) := N.rep.cell (okM 0 (by omega)) N.o0 rfl
    clear okM N
    generalize M.B 0 = T at x0 cT ⊢
    generalize M.B 1 = B1 at x0 cT
    generalize M.B 2 = B2 at x0
    generalize M.B 3 = B3 at x0
    (repeat (first | refine EK.seq ?_ | refine EK.region ?_ | refine ER.done ?_ | refine EK.block ?_ | refine ER.move rfl rfl rfl ?_ | refine ER.nilCheck rfl rfl rfl ?_ | refine ER.fieldAddr rfl rfl rfl ?_ | refine ER.len1 rfl rfl rfl ?_ | refine ER.load1 rfl rfl rfl (by assumption) ?_))
    refine EK.loopInv (fun t : RSS => [(24, .int .i64 t.i), (23, .int .i64 ((n + 1 : Nat) : Int)), (4, ptr T), (0, .int .i64 n)]) (fun t h' δ' => δ' = δ1 /\ t.i <= n + 1 /\ NewSI h n T B2 B3 B1 t.M t.i h') (fun t => n + 1 - t.i) ⟨0, _⟩ ⟨rfl, rfl, rfl, rfl, trivial⟩ ⟨rfl, Nat.zero_le _, x0⟩ ?_
    clear x0 cT h1 M
    rintro ⟨i, M⟩ h1 δ ⟨hδ1, hi, x⟩ again
    dsimp only at hi x again ⊢
    subst hδ1
    have hsz := x.upd.size
    have cT : hcell h1 ⟨T, 2, none⟩ = some (.slice (some ⟨B1, 0, none⟩) (n + 1) (n + 1)) := x.b.1 ▸ x.rep.cell ((x.ok 0).2 (by omega)) x.o0 rfl
    by_cases hin : i < n + 1
    · (repeat (first | refine EK.seq ?_ | refine EK.region ?_ | refine ER.done ?_ | refine EK.skip ?_ | refine EK.block ?_ | refine ER.move rfl rfl rfl ?_ | refine ER.assign rfl rfl rfl ?_ | refine ER.cmpT rfl rfl rfl rfl rfl (by first | (dsimp only [cmpP]; omega) | exact rfl | exact Int.le_refl _) ?_ | refine EK.condT rfl ?_))
      have hrem : ((i : Int) + 1).tmod ((n : Int) + 1) = (((i + 1) % (n + 1) : Nat) : Int) := by
        rw [Int.tmod_eq_emod_of_nonneg (by omega)]; simp
      refine EK.regionAnyL (fun h' => hcell h' ⟨T, 2, none⟩ = some (.slice (some ⟨B1, 0, none⟩) (n + 1) (n + 1))) 15 ?_
      have hZ := cT
      refine EA.tMove 0 rfl (by kernel_rfl) rfl rfl rfl rfl hZ ?_
      refine EA.tNil 1 rfl (by kernel_rfl) rfl rfl rfl rfl hZ ?_
      refine EA.tField 2 rfl (by kernel_rfl) rfl rfl rfl rfl hZ ?_
      refine EA.tLoad 3 rfl (by kernel_rfl) rfl rfl rfl rfl (fun _ hz => hz) hZ ?_
      refine EA.tMove 4 rfl (by kernel_rfl) rfl rfl rfl rfl hZ ?_
      refine EA.tMove 5 rfl (by kernel_rfl) rfl rfl rfl rfl hZ ?_
      refine EA.tAdd (kd := .i64) 6 rfl (by kernel_rfl) rfl rfl rfl rfl rfl (i64_in (by omega) (by omega)) hZ ?_
      refine EA.tMove 7 rfl (by kernel_rfl) rfl rfl rfl rfl hZ ?_
      refine EA.tAdd (kd := .i64) 8 rfl (by kernel_rfl) rfl rfl rfl rfl rfl (i64_in (by omega) (by omega)) hZ ?_
      refine EA.tBinI (kd := .i64) (v := .int .i64 (((i + 1) % (n + 1) : Nat) : Int)) 9 rfl (by kernel_rfl) rfl rfl rfl rfl rfl ((Go.TJ.binOp_rem (by omega)).trans (by rw [hrem])) hZ ?_
      refine EA.callD 10 rfl (by kernel_rfl) rfl rfl rfl rfl rfl rfl (cnewS (hF _ _ hsz)) (hcell_push hZ) ?_
      refine EA.callD 11 rfl (by kernel_rfl) rfl rfl rfl rfl rfl rfl (cnewS (hF _ _ (by simp; omega))) (hcell_push (hcell_push hZ)) ?_
      have hZ := hcell_push (o := cellO 0) (hcell_push (o := cellO (((i + 1) % (n + 1) : Nat) : Int)) hZ)
      obtain ⟨M', x'⟩ := x.step hin rfl
      simp only [Array.size_push]
      refine EA.val (v := .agg #[ptr (h1.size + 1)]) 12 rfl (by kernel_rfl) rfl rfl rfl (fun ρ Q X hρ hq => sem_buildS hρ rfl rfl hq) hZ ?_
      refine EA.val (v := .agg #[ptr h1.size, ptr (h1.size + 1)]) 13 rfl (by kernel_rfl) rfl rfl rfl (fun ρ Q X hρ hq => sem_buildS hρ rfl rfl hq) hZ ?_
      have hB1 : h1[B1]? = some (.cells (itemsL i M.B ++ List.replicate ((n + 1 - i) * 2) (Value.pointer none)).toArray 109 (0, 0)) := x.b.2.1 ▸ x.rep.get ((x.ok 1).2 (by omega)) x.o1
      have hB2 := get_push (cellO 0) (get_push (cellO (((i + 1) % (n + 1) : Nat) : Int)) hB1)
      refine EA.val (v := .pointer (some ⟨B1, 0 + i * 2, none⟩)) 14 rfl (by kernel_rfl) rfl rfl rfl (fun ρ Q X hρ hq => sem_indexSl (hρ _ _ rfl) (hρ _ _ rfl) (by omega) (by omega) hq) hZ ?_
      have hcs : ∀ j, j < 2 -> (∃ u, hcell ((h1.push (cellO (((i + 1) % (n + 1) : Nat) : Int))).push (cellO 0)) ⟨B1, 0 + i * 2 + j, none⟩ = some u) /\ hfroz ((h1.push (cellO (((i + 1) % (n + 1) : Nat) : Int))).push (cellO 0)) ⟨B1, 0 + i * 2 + j, none⟩ = false /\ ¬ S.still δ.g ⟨B1, 0 + i * 2 + j, none⟩ := fun j hj => by
        refine ⟨?_, hfroz_of hB2, hF _ _ (x.b.2.1 ▸ x.above 1 ((x.ok 1).2 (by omega)))⟩
        have hl := itemsL_len M.B i
        exact ⟨(itemsL i M.B ++ List.replicate ((n + 1 - i) * 2) (Value.pointer none))[0 + i * 2 + j]'(by simp [hl]; omega), hcell_of hB2 (by simp)⟩
      refine EA.unitL (h' := hsetRow ((h1.push (cellO (((i + 1) % (n + 1) : Nat) : Int))).push (cellO 0)) B1 (0 + i * 2) [ptr h1.size, ptr (h1.size + 1)]) 15 rfl (by kernel_rfl) rfl rfl rfl (fun ρ Q X hρ hq => sem_storeN (vs := [ptr h1.size, ptr (h1.size + 1)]) (hρ _ _ rfl) (hρ _ _ rfl) rfl (by simp [OneCell]) hcs hq) ?_
      refine EA.done (by kernel_rfl) ?_
      (repeat (first | refine EK.region ?_ | refine ER.done ?_ | refine EK.inBlock ?_ | refine ER.move rfl rfl rfl ?_ | refine ER.add (kd := .i64) rfl rfl rfl rfl (i64_in (by omega) (by omega)) ?_))
      exact EK.back (again ⟨i + 1, M'⟩ _ _ (by dsimp only; omega) ⟨rfl, by dsimp only; omega, x'⟩) ⟨rfl, rfl, rfl, rfl, trivial⟩
    · obtain rfl : i = n + 1 := by omega
      clear again
      (repeat (first | refine EK.seq ?_ | refine EK.region ?_ | refine ER.done ?_ | refine ER.move rfl rfl rfl ?_ | refine ER.assign rfl rfl rfl ?_ | refine ER.cmpF rfl rfl rfl rfl rfl (by first | (dsimp only [cmpP]; omega) | exact rfl | exact Int.le_refl _) ?_ | refine EK.condF rfl ?_ | refine EK.ret ?_ | refine EK.exit rfl ?_))
      have okM : ∀ k, k < 6 + 2 * n -> M.ok k := fun k hk => (x.ok k).2 (by omega)
      refine EU.ret2 rfl rfl rfl ⟨rfl, x.upd, M.B, by rw [x.b.1], x.rep.congr (fun k hk => okM k hk) (fun _ _ => rfl) (fun k hk => ?_), fun k hk => x.above k (okM k hk)⟩
      have hk' : k < 6 + 2 * n := hk
      unfold stkM
      dsimp only
      obtain ⟨e0, e1, e2, e3⟩ := x.b
      rcases (show k = 0 \/ k = 1 \/ k = 2 \/ k = 3 \/ 4 <= k by omega) with rfl | rfl | rfl | rfl | h4
      · rw [if_pos rfl, x.o0, e1, e2, e3]
      · rw [if_neg (by decide), if_pos rfl, x.o1]; simp
      · rw [if_neg (by decide), if_neg (by decide), if_pos rfl, x.o2]
      · rw [if_neg (by decide), if_neg (by decide), if_neg (by decide), if_pos rfl, x.o3]
      · rw [if_neg (by omega), if_neg (by omega), if_neg (by omega), if_neg (by omega)]
        have hj := x.on ((k - 4) / 2) (by omega)
        by_cases hev : k % 2 = 0
        · rw [if_pos hev]
          have := hj.1
          rw [show 4 + 2 * ((k - 4) / 2) = k by omega] at this
          exact this.symm
        · rw [if_neg hev]
          have := hj.2
          rw [show 5 + 2 * ((k - 4) / 2) = k by omega] at this
          exact this.symm
end
end
section
open Go Go.TJ Go.Proofs
section
variable {h : Hp} {n : Nat} {B : Nat -> Nat} {v : Nat -> Int}
theorem stk_list (r : Rep h (stkM n B v)) : hcell h ⟨B 0, 0, none⟩ = some (ptr (B 2)) := r.cell (k := 0) (by show 0 < 6 + 2 * n; omega) rfl rfl
theorem stk_free (r : Rep h (stkM n B v)) : hcell h ⟨B 0, 1, none⟩ = some (ptr (B 3)) := r.cell (k := 0) (by show 0 < 6 + 2 * n; omega) rfl rfl
theorem stk_items (r : Rep h (stkM n B v)) : hcell h ⟨B 0, 2, none⟩ = some (.slice (some ⟨B 1, 0, none⟩) (n + 1) (n + 1)) := r.cell (k := 0) (by show 0 < 6 + 2 * n; omega) rfl rfl
theorem stk_next (r : Rep h (stkM n B v)) {k : Nat} (hk : k <= n) : hcell h ⟨B 1, 0 + k * 2, none⟩ = some (ptr (B (4 + 2 * k))) := r.cell (k := 1) (by show 1 < 6 + 2 * n; omega) rfl (by
  simp only [List.getElem?_toArray]
  rw [show 0 + k * 2 = 2 * k by omega]; exact (itemsL_get B (by omega)).1)
theorem stk_val (r : Rep h (stkM n B v)) {k : Nat} (hk : k <= n) : hcell h ⟨B 1, 0 + k * 2 + 1, none⟩ = some (ptr (B (5 + 2 * k))) := r.cell (k := 1) (by show 1 < 6 + 2 * n; omega) rfl (by
  simp only [List.getElem?_toArray]
  rw [show 0 + k * 2 + 1 = 2 * k + 1 by omega]; exact (itemsL_get B (by omega)).2)
theorem stk_cell (r : Rep h (stkM n B v)) {k : Nat} (h2 : 2 <= k) (hk : k < 6 + 2 * n) {x : Int} (hx : v k = x) : h[B k]? = some (cellO x) := r.get (k := k) hk (by
  show (if k = 0 then _ else if k = 1 then _ else cellO (v k)) = _
  rw [if_neg (by omega), if_neg (by omega), hx])
theorem stk_set (r : Rep h (stkM n B v)) {k : Nat} (h2 : 2 <= k) (hk : k < 6 + 2 * n) (x : Int) : Rep (h.setIfInBounds (B k) (cellO x)) (stkM n B (ut v k x)) := by
  refine (r.set (k := k) hk (cellO x)).congr (fun _ hk => hk) (fun _ _ => rfl) (fun j hj => ?_)
  show (stkM n B (ut v k x)).O j = ut (stkM n B v).O k (cellO x) j
  by_cases e : j = k
  · subst e
    rw [ut_same]
    show (if j = 0 then _ else if j = 1 then _ else cellO (ut v j x j)) = _
    rw [if_neg (by omega), if_neg (by omega), ut_same]
  · rw [ut_ne _ _ e]
    show (if j = 0 then _ else if j = 1 then _ else cellO (ut v k x j)) = (if j = 0 then _ else if j = 1 then _ else cellO (v j))
    by_cases k0 : j = 0
    · rw [if_pos k0, if_pos k0]
    · by_cases k1 : j = 1
      · rw [if_neg k0, if_pos k1, if_neg k0, if_pos k1]
      · rw [if_neg k0, if_neg k1, if_neg k0, if_neg k1, ut_ne _ _ e]
end
def laidZ (h k : Int) : Int := IntKind.i64.wrap (IntKind.i64.wrap (IntKind.i64.wrap (h - h % 65536) + k) + 65536)
theorem laidZ_mod {h k : Int} (h0 : 0 <= k) (h1 : k < 65536) : laidZ h k % 65536 = k := by
  unfold laidZ
  simp only [IntKind.wrap_i64]
  omega
section
variable {Γ : Type} {main : Bool} {S : Sit Γ} {h : Hp} {δ : Ix Γ} {n : Nat} {B : Nat -> Nat} {v : Nat -> Int}
theorem node_ok {x : Int} : CallW Try.prog main S 61 #[.int .i64 x] h δ (Ret (Det (.int .i64 (x % 65536)) h δ)) := by
  refine CallW.start (n := 6) rfl rfl ?_
  (repeat (first | refine EK.seq ?_ | refine EK.region ?_ | refine ER.done ?_ | refine ER.move rfl rfl rfl ?_ | refine ER.assign rfl rfl rfl ?_))
  refine ER.conv (r := x % 65536) rfl rfl rfl (by rw [IntKind.wrap_u16]) ?_
  refine ER.conv (r := x % 65536) rfl rfl rfl (i64_in (by omega) (by omega)) ?_
  (repeat (first | refine ER.done ?_ | refine ER.assign rfl rfl rfl ?_ | refine EK.ret ?_))
  exact EU.ret1 rfl rfl det
theorem laid_ok {x k : Int} : CallW Try.prog main S 62 #[.int .i64 x, .int .i64 k] h δ (Ret (Det (.int .i64 (laidZ x k)) h δ)) := by
  refine CallW.start (n := 12) rfl rfl ?_
  (repeat (first | refine EK.seq ?_ | refine EK.region ?_ | refine ER.done ?_ | refine ER.move rfl rfl rfl ?_ | refine ER.assign rfl rfl rfl ?_))
  refine ER.callD rfl rfl rfl rfl rfl node_ok ?_
  refine ER.sub' rfl rfl rfl rfl rfl ?_
  refine ER.move rfl rfl rfl ?_
  refine ER.add rfl rfl rfl rfl rfl ?_
  refine ER.add rfl rfl rfl rfl rfl ?_
  (repeat (first | refine ER.done ?_ | refine ER.assign rfl rfl rfl ?_ | refine EK.ret ?_))
  exact EU.ret1 rfl rfl ⟨rfl, rfl, rfl⟩
abbrev KFree (S : Sit Γ) (γ : Γ) (n : Nat) (B : Nat -> Nat) : Prop := ∀ k o, k < 6 + 2 * n -> ¬ S.still γ ⟨B k, o, none⟩
abbrev KOwn (n : Nat) (B : Nat -> Nat) : Nat -> Prop := fun b => ∃ k, k < 6 + 2 * n /\ b = B k
theorem get_none {c : Nat} (r : Rep h (stkM n B v)) (hc : c = 2 \/ c = 3) (hk : v c % 65536 = 0) : CallW Try.prog main S 32 #[ptr (B 0), .pointer none, ptr (B c)] h δ (Ret (Det (.int .i64 0) h δ)) := by
  refine CallW.start (n := 35) rfl rfl ?_
  (repeat (first | refine EK.seq ?_ | refine EK.region ?_ | refine ER.done ?_ | refine EK.block ?_ | refine ER.assign rfl rfl rfl ?_))
  refine EK.loop ?_
  (repeat (first | refine EK.seq ?_ | refine EK.region ?_ | refine EK.block ?_ | refine ER.move rfl rfl rfl ?_))
  refine ER.callD rfl rfl rfl rfl rfl (cload (stk_cell r (k := c) (by omega) (by omega) rfl)) ?_
  (repeat (first | refine EK.seq ?_ | refine EK.region ?_ | refine ER.done ?_ | refine ER.move rfl rfl rfl ?_ | refine ER.assign rfl rfl rfl ?_))
  refine ER.callD rfl rfl rfl rfl rfl node_ok ?_
  rw [hk]
  (repeat (first | refine EK.seq ?_ | refine EK.region ?_ | refine ER.done ?_ | refine ER.move rfl rfl rfl ?_ | refine ER.assign rfl rfl rfl ?_ | refine ER.no rfl rfl ?_ | refine ER.pickT rfl rfl rfl rfl ?_ | refine ER.cmpT rfl rfl rfl rfl rfl (by first | (dsimp only [cmpP]; omega) | exact rfl | exact Int.le_refl _) ?_ | refine EK.condT rfl ?_ | refine EK.ret ?_))
  exact EU.ret1 rfl rfl det
set_option maxRecDepth 8000 in
set_option maxHeartbeats 1000000 in
theorem get_some {c k : Nat} (r : Rep h (stkM n B v)) (hn : n <= 4096) (hc : c = 2 \/ c = 3) (hk : v c % 65536 = k) (hk1 : 1 <= k) (hkn : k <= n) (hS : KFree S δ.g n B) :
    CallW Try.prog main S 32 #[ptr (B 0), .pointer none, ptr (B c)] h δ (Ret fun w h' δ' => w = .int .i64 k /\ δ' = δ /\ Rep h' (stkM n B (ut v c (laidZ (v c) (v (4 + 2 * k))))) /\ Upd (KOwn n B) h h') := by
  have ci := stk_items r
  refine CallW.start (n := 35) rfl rfl ?_
  (repeat (first | refine EK.seq ?_ | refine EK.region ?_ | refine ER.done ?_ | refine EK.block ?_ | refine ER.assign rfl rfl rfl ?_))
  refine EK.loop ?_
  (repeat (first | refine EK.seq ?_ | refine EK.region ?_ | refine EK.block ?_ | refine ER.move rfl rfl rfl ?_))
  refine ER.callD rfl rfl rfl rfl rfl (cload (stk_cell r (k := c) (by omega) (by omega) rfl)) ?_
  (repeat (first | refine EK.seq ?_ | refine EK.region ?_ | refine ER.done ?_ | refine ER.move rfl rfl rfl ?_ | refine ER.assign rfl rfl rfl ?_))
  refine ER.callD rfl rfl rfl rfl rfl node_ok ?_
  rw [hk]
  (repeat (first | refine EK.seq ?_ | refine EK.region ?_ | refine ER.done ?_ | refine ER.move rfl rfl rfl ?_ | refine ER.assign rfl rfl rfl ?_ | refine ER.nilCheck rfl rfl rfl ?_ | refine ER.fieldAddr rfl rfl rfl ?_ | refine ER.cmpF rfl rfl rfl rfl rfl (by first | (dsimp only [cmpP]; omega) | exact rfl | exact Int.le_refl _) ?_ | refine ER.indexSl rfl rfl rfl rfl (by omega) (by omega) ?_ | refine ER.load1 rfl rfl rfl (by assumption) ?_))
  refine ER.load1 rfl rfl rfl (stk_next r hkn) ?_
  (repeat refine ER.move rfl rfl rfl ?_)
  refine ER.callD rfl rfl rfl rfl rfl (cload (stk_cell r (k := 4 + 2 * k) (by omega) (by omega) rfl)) ?_
  refine ER.callD rfl rfl rfl rfl rfl laid_ok ?_
  refine ER.callD rfl rfl rfl rfl rfl (ccas_yes (stk_cell r (k := c) (by omega) (by omega) rfl) (fun o => hS _ o (by omega))) ?_
  (repeat (first | refine EK.seq ?_ | refine EK.region ?_ | refine ER.done ?_ | refine ER.move rfl rfl rfl ?_ | refine ER.assign rfl rfl rfl ?_ | refine ER.pickF rfl rfl rfl rfl ?_ | refine EK.condT rfl ?_ | refine EK.ret ?_))
  exact EU.ret1 rfl rfl ⟨rfl, rfl, stk_set r (by omega) (by omega) _, Upd.set _ _ _ ⟨_, by omega, rfl⟩⟩
set_option maxRecDepth 8000 in
set_option maxHeartbeats 1000000 in
theorem lay_ok {c k : Nat} (r : Rep h (stkM n B v)) (_hn : n <= 4096) (hc : c = 2 \/ c = 3) (hk1 : 1 <= k) (hkn : k <= n) (hS : KFree S δ.g n B) :
    CallW Try.prog main S 34 #[ptr (B 0), .pointer none, ptr (B c), .int .i64 k] h δ (Ret fun _ h' δ' => δ' = δ /\ Rep h' (stkM n B (ut (ut v (4 + 2 * k) (v c % 65536)) c (laidZ (v c) k))) /\ Upd (KOwn n B) h h') := by
  have ci := stk_items r
  have cn := stk_next r hkn
  refine CallW.start (n := 31) rfl rfl ?_
  (repeat refine EK.block ?_)
  refine EK.loop ?_
  (repeat (first | refine EK.seq ?_ | refine EK.region ?_ | refine EK.block ?_ | refine ER.move rfl rfl rfl ?_))
  refine ER.callD rfl rfl rfl rfl rfl (cload (stk_cell r (k := c) (by omega) (by omega) rfl)) ?_
  (repeat (first | refine EK.seq ?_ | refine ER.done ?_ | refine ER.assign rfl rfl rfl ?_))
  refine EK.regionAny (fun h' => hcell h' ⟨B 0, 2, none⟩ = some (.slice (some ⟨B 1, 0, none⟩) (n + 1) (n + 1)) /\ hcell h' ⟨B 1, 0 + k * 2, none⟩ = some (ptr (B (4 + 2 * k)))) ?_
  have hZ := And.intro ci cn
  refine EA.tMove 0 rfl (by kernel_rfl) rfl rfl rfl rfl hZ ?_
  refine EA.tNil 1 rfl (by kernel_rfl) rfl rfl rfl rfl hZ ?_
  refine EA.tField 2 rfl (by kernel_rfl) rfl rfl rfl rfl hZ ?_
  refine EA.tLoad 3 rfl (by kernel_rfl) rfl rfl rfl rfl (fun _ hz => hz.1) hZ ?_
  refine EA.tMove 4 rfl (by kernel_rfl) rfl rfl rfl rfl hZ ?_
  refine EA.tIdxS 5 rfl (by kernel_rfl) rfl rfl rfl rfl rfl (by omega) (by omega) hZ ?_
  refine EA.tField 6 rfl (by kernel_rfl) rfl rfl rfl rfl hZ ?_
  refine EA.tLoad 7 rfl (by kernel_rfl) rfl rfl rfl rfl (fun _ hz => hz.2) hZ ?_
  refine EA.tMove 8 rfl (by kernel_rfl) rfl rfl rfl rfl hZ ?_
  refine EA.tMove 9 rfl (by kernel_rfl) rfl rfl rfl rfl hZ ?_
  refine EA.callD 10 rfl (by kernel_rfl) rfl rfl rfl rfl rfl rfl node_ok hZ ?_
  have r1 := stk_set r (k := 4 + 2 * k) (by omega) (by omega) (v c % 65536)
  refine EA.callD 11 rfl (by kernel_rfl) rfl rfl rfl rfl rfl rfl (cstore (stk_cell r (k := 4 + 2 * k) (by omega) (by omega) rfl) (fun o => hS _ o (by omega))) ⟨stk_items r1, stk_next r1 hkn⟩ ?_
  refine EA.done (by kernel_rfl) ?_
  have u1 := Upd.set (T := KOwn n B) h (B (4 + 2 * k)) (cellO (v c % 65536)) ⟨_, by omega, rfl⟩
  have e1 : ut v (4 + 2 * k) (v c % 65536) c = v c := ut_ne _ _ (by omega)
  generalize h.setIfInBounds (B (4 + 2 * k)) (cellO (v c % 65536)) = h1 at r1 u1 ⊢
  (repeat (first | refine EK.seq ?_ | refine EK.region ?_ | refine ER.move rfl rfl rfl ?_))
  refine ER.callD rfl rfl rfl rfl rfl laid_ok ?_
  refine ER.callD rfl rfl rfl rfl rfl (ccas_yes (stk_cell r1 (k := c) (by omega) (by omega) e1) (fun o => hS _ o (by omega))) ?_
  have r2 := stk_set r1 (k := c) (by omega) (by omega) (laidZ (v c) k)
  have u2 := Upd.set (T := KOwn n B) h1 (B c) (cellO (laidZ (v c) k)) ⟨_, by omega, rfl⟩
  (repeat (first | refine ER.done ?_ | refine EK.condT rfl ?_ | refine EK.ret ?_))
  exact EU.ret0 rfl ⟨rfl, r2, u1.trans u2⟩
structure SI (n : Nat) (v : Nat -> Int) (j : Nat) : Prop where
  top : v 2 % 65536 = j
  down : ∀ k, 1 <= k -> k <= j -> v (4 + 2 * k) = (k : Int) - 1
  fr : v 3 % 65536 = if j < n then (j : Int) + 1 else 0
  up : ∀ k, j < k -> k <= n -> v (4 + 2 * k) = if k < n then (k : Int) + 1 else 0
set_option maxRecDepth 8000 in
set_option maxHeartbeats 1000000 in
theorem kpush_ok {j : Nat} {x : Int} (r : Rep h (stkM n B v)) (hn : n <= 4096) (hj : j < n) (s : SI n v j) (hS : KFree S δ.g n B) :
    CallW Try.prog main S 10 #[ptr (B 0), .pointer none, .int .i64 x] h δ (Ret fun w h' δ' => w = .int .i64 0 /\ δ' = δ /\ (∃ v', Rep h' (stkM n B v') /\ SI n v' (j + 1) /\ v' (5 + 2 * (j + 1)) = x /\ ∀ k, k ≠ j + 1 -> v' (5 + 2 * k) = v (5 + 2 * k)) /\ Upd (KOwn n B) h h') := by
  have ci := stk_items r
  have cf := stk_free r
  have f1 := s.fr
  rw [if_pos hj] at f1
  refine CallW.start (n := 47) rfl rfl ?_
  (repeat (first | refine EK.seq ?_ | refine EK.region ?_ | refine ER.done ?_ | refine EK.skip ?_ | refine ER.move rfl rfl rfl ?_ | refine ER.assign rfl rfl rfl ?_ | refine ER.nilCheck rfl rfl rfl ?_ | refine ER.fieldAddr rfl rfl rfl ?_ | refine ER.eqV rfl rfl rfl rfl rfl ?_ | refine ER.pickF rfl rfl rfl rfl ?_ | refine ER.cmpF rfl rfl rfl rfl rfl (by first | (dsimp only [cmpP]; omega) | exact rfl | exact Int.le_refl _) ?_ | refine ER.len1 rfl rfl rfl ?_ | refine EK.condF rfl ?_ | refine ER.load1 rfl rfl rfl (by assumption) ?_))
  refine ER.callR rfl rfl rfl rfl rfl (get_some (c := 3) (k := j + 1) r hn (.inr rfl) (by rw [f1]; rfl) (by omega) (by omega) hS) ?_
  rintro _ h1 δ1 ⟨rfl, rfl, r1, u1⟩
  have hm := s.up (j + 1) (by omega) (by omega)
  generalize hf3 : laidZ (v 3) (v (4 + 2 * (j + 1))) = f3 at r1
  have f3m : f3 % 65536 = if j + 1 < n then ((j + 1 : Nat) : Int) + 1 else 0 := by
    rw [<- hf3, hm]
    split
    · rw [laidZ_mod (by omega) (by omega)]
    · rw [laidZ_mod (by omega) (by omega)]
  clear ci cf hf3
  have ci := stk_items r1
  have cv := stk_val r1 (k := j + 1) (by omega)
  (repeat (first | refine EK.seq ?_ | refine EK.region ?_ | refine ER.done ?_ | refine EK.skip ?_ | refine ER.move rfl rfl rfl ?_ | refine ER.assign rfl rfl rfl ?_ | refine ER.nilCheck rfl rfl rfl ?_ | refine ER.fieldAddr rfl rfl rfl ?_ | refine ER.cmpF rfl rfl rfl rfl rfl (by first | (dsimp only [cmpP]; omega) | exact rfl | exact Int.le_refl _) ?_ | refine ER.indexSl rfl rfl rfl rfl (by omega) (by omega) ?_ | refine EK.condF rfl ?_ | refine ER.load1 rfl rfl rfl (by assumption) ?_))
  refine ER.callD rfl rfl rfl rfl rfl (cstore (stk_cell r1 (k := 5 + 2 * (j + 1)) (by omega) (by omega) rfl) (fun o => hS _ o (by omega))) ?_
  have r2 := stk_set r1 (k := 5 + 2 * (j + 1)) (by omega) (by omega) x
  have u2 := Upd.set (T := KOwn n B) h1 (B (5 + 2 * (j + 1))) (cellO x) ⟨_, by omega, rfl⟩
  clear ci cv
  generalize h1.setIfInBounds (B (5 + 2 * (j + 1))) (cellO x) = h2 at r2 u2 ⊢
  have cl := stk_list r2
  (repeat (first | refine EK.seq ?_ | refine EK.region ?_ | refine ER.done ?_ | refine ER.move rfl rfl rfl ?_ | refine ER.nilCheck rfl rfl rfl ?_ | refine ER.fieldAddr rfl rfl rfl ?_ | refine ER.load1 rfl rfl rfl (by assumption) ?_))
  refine ER.callR rfl rfl rfl rfl rfl (lay_ok (c := 2) (k := j + 1) r2 hn (.inl rfl) (by omega) (by omega) hS) ?_
  rintro _ h3 δ3 ⟨rfl, r3, u3⟩
  (repeat (first | refine EK.seq ?_ | refine EK.region ?_ | refine ER.done ?_ | refine ER.assign rfl rfl rfl ?_ | refine EK.ret ?_))
  have e2 : ut (ut v 3 f3) (5 + 2 * (j + 1)) x 2 = v 2 := by rw [ut_ne _ _ (by omega), ut_ne _ _ (by omega)]
  rw [e2] at r3
  refine EU.ret1 rfl rfl ⟨rfl, rfl, ⟨_, r3, ⟨?_, fun k h1 h2 => ?_, ?_, fun k h1 h2 => ?_⟩, ?_, fun k hk => ?_⟩, (u1.trans u2).trans u3⟩
  · rw [ut_same, laidZ_mod (by omega) (by omega)]
  · rw [ut_ne _ _ (by omega)]
    by_cases e : k = j + 1
    · subst e; rw [ut_same, s.top]; omega
    · rw [ut_ne _ _ (by omega), ut_ne _ _ (by omega), ut_ne _ _ (by omega)]; exact s.down k h1 (by omega)
  · rw [ut_ne _ _ (by omega), ut_ne _ _ (by omega), ut_ne _ _ (by omega), ut_same]; exact f3m
  · rw [ut_ne _ _ (by omega), ut_ne _ _ (by omega), ut_ne _ _ (by omega), ut_ne _ _ (by omega)]; exact s.up k (by omega) h2
  · rw [ut_ne _ _ (by omega), ut_ne _ _ (by omega), ut_same]
  · rw [ut_ne _ _ (by omega), ut_ne _ _ (by omega), ut_ne _ _ (by omega), ut_ne _ _ (by omega)]
theorem kpush_full {x : Int} (r : Rep h (stkM n B v)) (hn1 : 1 <= n) (s : SI n v n) : CallW Try.prog main S 10 #[ptr (B 0), .pointer none, .int .i64 x] h δ (Ret (Det (.int .i64 12) h δ)) := by
  have ci := stk_items r
  have cf := stk_free r
  have f1 := s.fr
  rw [if_neg (by omega)] at f1
  refine CallW.start (n := 47) rfl rfl ?_
  (repeat (first | refine EK.seq ?_ | refine EK.region ?_ | refine ER.done ?_ | refine EK.skip ?_ | refine ER.move rfl rfl rfl ?_ | refine ER.assign rfl rfl rfl ?_ | refine ER.nilCheck rfl rfl rfl ?_ | refine ER.fieldAddr rfl rfl rfl ?_ | refine ER.eqV rfl rfl rfl rfl rfl ?_ | refine ER.pickF rfl rfl rfl rfl ?_ | refine ER.cmpF rfl rfl rfl rfl rfl (by first | (dsimp only [cmpP]; omega) | exact rfl | exact Int.le_refl _) ?_ | refine ER.len1 rfl rfl rfl ?_ | refine EK.condF rfl ?_ | refine ER.load1 rfl rfl rfl (by assumption) ?_))
  refine ER.callD rfl rfl rfl rfl rfl (get_none (c := 3) r (.inr rfl) f1) ?_
  (repeat (first | refine EK.seq ?_ | refine EK.region ?_ | refine ER.done ?_ | refine ER.move rfl rfl rfl ?_ | refine ER.assign rfl rfl rfl ?_ | refine ER.cmpT rfl rfl rfl rfl rfl (by first | (dsimp only [cmpP]; omega) | exact rfl | exact Int.le_refl _) ?_ | refine EK.condT rfl ?_ | refine EK.ret ?_))
  exact EU.ret1 rfl rfl det
set_option maxRecDepth 8000 in
set_option maxHeartbeats 1000000 in
theorem kpop_ok {j : Nat} {x : Int} (r : Rep h (stkM n B v)) (hn : n <= 4096) (hj1 : 1 <= j) (hj : j <= n) (s : SI n v j) (hx : v (5 + 2 * j) = x) (hS : KFree S δ.g n B) :
    CallW Try.prog main S 11 #[ptr (B 0), .pointer none] h δ (Ret fun w h' δ' => w = .tuple #[.int .i64 x, .bool true] /\ δ' = δ /\ (∃ v', Rep h' (stkM n B v') /\ SI n v' (j - 1) /\ ∀ k, v' (5 + 2 * k) = v (5 + 2 * k)) /\ Upd (KOwn n B) h h') := by
  have ci := stk_items r
  have cl := stk_list r
  refine CallW.start (n := 47) rfl rfl ?_
  (repeat (first | refine EK.seq ?_ | refine EK.region ?_ | refine ER.done ?_ | refine EK.skip ?_ | refine ER.move rfl rfl rfl ?_ | refine ER.assign rfl rfl rfl ?_ | refine ER.nilCheck rfl rfl rfl ?_ | refine ER.fieldAddr rfl rfl rfl ?_ | refine ER.eqV rfl rfl rfl rfl rfl ?_ | refine ER.pickF rfl rfl rfl rfl ?_ | refine ER.cmpF rfl rfl rfl rfl rfl (by first | (dsimp only [cmpP]; omega) | exact rfl | exact Int.le_refl _) ?_ | refine ER.len1 rfl rfl rfl ?_ | refine EK.condF rfl ?_ | refine ER.load1 rfl rfl rfl (by assumption) ?_))
  refine ER.callR rfl rfl rfl rfl rfl (get_some (c := 2) (k := j) r hn (.inl rfl) s.top (by omega) (by omega) hS) ?_
  rintro _ h1 δ1 ⟨rfl, rfl, r1, u1⟩
  have hm := s.down j (by omega) (by omega)
  generalize hf2 : laidZ (v 2) (v (4 + 2 * j)) = f2 at r1
  have f2m : f2 % 65536 = ((j - 1 : Nat) : Int) := by
    rw [<- hf2, hm, laidZ_mod (by omega) (by omega)]; omega
  clear ci cl hf2
  have ci := stk_items r1
  have cv := stk_val r1 (k := j) (by omega)
  have hx1 : ut v 2 f2 (5 + 2 * j) = x := by rw [ut_ne _ _ (by omega), hx]
  (repeat (first | refine EK.seq ?_ | refine EK.region ?_ | refine ER.done ?_ | refine EK.skip ?_ | refine ER.move rfl rfl rfl ?_ | refine ER.assign rfl rfl rfl ?_ | refine ER.nilCheck rfl rfl rfl ?_ | refine ER.fieldAddr rfl rfl rfl ?_ | refine ER.cmpF rfl rfl rfl rfl rfl (by first | (dsimp only [cmpP]; omega) | exact rfl | exact Int.le_refl _) ?_ | refine ER.indexSl rfl rfl rfl rfl (by omega) (by omega) ?_ | refine EK.condF rfl ?_ | refine ER.load1 rfl rfl rfl (by assumption) ?_))
  refine ER.callD rfl rfl rfl rfl rfl (cload (stk_cell r1 (k := 5 + 2 * j) (by omega) (by omega) hx1)) ?_
  have cf := stk_free r1
  (repeat (first | refine EK.seq ?_ | refine EK.region ?_ | refine ER.done ?_ | refine ER.move rfl rfl rfl ?_ | refine ER.assign rfl rfl rfl ?_ | refine ER.nilCheck rfl rfl rfl ?_ | refine ER.fieldAddr rfl rfl rfl ?_ | refine ER.load1 rfl rfl rfl (by assumption) ?_))
  refine ER.callR rfl rfl rfl rfl rfl (lay_ok (c := 3) (k := j) r1 hn (.inr rfl) (by omega) (by omega) hS) ?_
  rintro _ h3 δ3 ⟨rfl, r3, u3⟩
  (repeat (first | refine EK.seq ?_ | refine EK.region ?_ | refine ER.done ?_ | refine ER.move rfl rfl rfl ?_ | refine ER.assign rfl rfl rfl ?_ | refine EK.ret ?_))
  have e2 : ut v 2 f2 3 = v 3 := ut_ne _ _ (by omega)
  rw [e2] at r3
  refine EU.ret2 rfl rfl rfl ⟨rfl, rfl, ⟨_, r3, ⟨?_, fun k h1 h2 => ?_, ?_, fun k h1 h2 => ?_⟩, fun k => ?_⟩, u1.trans u3⟩
  · rw [ut_ne _ _ (by omega), ut_ne _ _ (by omega), ut_same]; exact f2m
  · rw [ut_ne _ _ (by omega), ut_ne _ _ (by omega), ut_ne _ _ (by omega)]; exact s.down k h1 (by omega)
  · rw [ut_same, laidZ_mod (by omega) (by omega), if_pos (by omega)]; omega
  · rw [ut_ne _ _ (by omega)]
    by_cases e : k = j
    · subst e; rw [ut_same, s.fr]
    · rw [ut_ne _ _ (by omega), ut_ne _ _ (by omega)]; exact s.up k (by omega) h2
  · rw [ut_ne _ _ (by omega), ut_ne _ _ (by omega), ut_ne _ _ (by omega)]
theorem kpop_empty (r : Rep h (stkM n B v)) (s : SI n v 0) : CallW Try.prog main S 11 #[ptr (B 0), .pointer none] h δ (Ret (Det (.tuple #[.int .i64 0, .bool false]) h δ)) := by
  have ci := stk_items r
  have cl := stk_list r
  refine CallW.start (n := 47) rfl rfl ?_
  (repeat (first | refine EK.seq ?_ | refine EK.region ?_ | refine ER.done ?_ | refine EK.skip ?_ | refine ER.move rfl rfl rfl ?_ | refine ER.assign rfl rfl rfl ?_ | refine ER.nilCheck rfl rfl rfl ?_ | refine ER.fieldAddr rfl rfl rfl ?_ | refine ER.eqV rfl rfl rfl rfl rfl ?_ | refine ER.pickF rfl rfl rfl rfl ?_ | refine ER.cmpF rfl rfl rfl rfl rfl (by first | (dsimp only [cmpP]; omega) | exact rfl | exact Int.le_refl _) ?_ | refine ER.len1 rfl rfl rfl ?_ | refine EK.condF rfl ?_ | refine ER.load1 rfl rfl rfl (by assumption) ?_))
  refine ER.callD rfl rfl rfl rfl rfl (get_none (c := 2) r (.inl rfl) s.top) ?_
  (repeat (first | refine EK.seq ?_ | refine EK.region ?_ | refine ER.done ?_ | refine ER.move rfl rfl rfl ?_ | refine ER.assign rfl rfl rfl ?_ | refine ER.cmpT rfl rfl rfl rfl rfl (by first | (dsimp only [cmpP]; omega) | exact rfl | exact Int.le_refl _) ?_ | refine EK.condT rfl ?_ | refine EK.ret ?_))
  exact EU.ret2 rfl rfl rfl det
theorem si_new {n : Nat} (hn1 : 1 <= n) (hn : n <= 4096) : SI n (fun k => if k = 2 then 0 else if k = 3 then 1 else if k % 2 = 0 then (((k - 4) / 2 + 1) % (n + 1) : Nat) else 0) 0 := by
  refine ⟨rfl, fun k h1 h2 => by omega, ?_, fun k h1 h2 => ?_⟩
  · have : 0 < n := by omega
    simp [this]
  · rw [if_neg (by omega), if_neg (by omega), if_pos (by omega), show (4 + 2 * k - 4) / 2 + 1 = k + 1 by omega]
    by_cases e : k < n
    · rw [if_pos e, Nat.mod_eq_of_lt (by omega)]; rfl
    · rw [if_neg e, show k + 1 = n + 1 by omega, Nat.mod_self]; rfl
set_option maxRecDepth 8000 in
set_option maxHeartbeats 4000000 in
theorem stkworks_ok {h : Hp} : CallW Try.prog main NoS 6 #[] h δ (Ret fun w h' δ' => w = .bool true /\ Upd (fun _ => False) h h' /\ δ' = δ) := by
  refine CallW.start (n := 65) rfl rfl ?_
  (repeat (first | refine EK.seq ?_ | refine EK.region ?_ | refine ER.done ?_ | refine ER.assign rfl rfl rfl ?_))
  refine ER.callR rfl rfl rfl rfl rfl (stknew_ok (n := 2) (by omega) (by omega) (fun _ _ _ x => x)) ?_
  rintro _ h1 δ1 ⟨rfl, u1, B, rfl, r1, ab⟩
  have own : ∀ b, KOwn 2 B b -> h.size <= b := fun b ⟨k, hk, e⟩ => e ▸ ab k hk
  have kf : KFree NoS δ1.g 2 B := fun _ _ _ x => x
  have s1 := si_new (n := 2) (by omega) (by omega)
  revert r1 s1
  generalize (fun k => if k = 2 then (0 : Int) else if k = 3 then 1 else if k % 2 = 0 then (((k - 4) / 2 + 1) % (2 + 1) : Nat) else 0) = v1
  intro r1 s1
  (repeat (first | refine EK.seq ?_ | refine EK.region ?_ | refine ER.done ?_ | refine ER.move rfl rfl rfl ?_ | refine ER.assign rfl rfl rfl ?_ | refine ER.eqV rfl rfl rfl rfl rfl ?_ | refine ER.pickF rfl rfl rfl rfl ?_ | refine ER.extract rfl rfl rfl rfl ?_ | refine ER.cmpF rfl rfl rfl rfl rfl (by first | (dsimp only [cmpP]; omega) | exact rfl | exact Int.le_refl _) ?_))
  refine ER.callR rfl rfl rfl rfl rfl (kpush_ok (j := 0) (x := 7) r1 (by omega) (by omega) s1 kf) ?_
  rintro _ h2 δ2 ⟨rfl, rfl, ⟨v2, r2, s2, x2, y2⟩, u2⟩
  replace u1 := u1.over u2 own
  (repeat (first | refine ER.move rfl rfl rfl ?_ | refine ER.pickF rfl rfl rfl rfl ?_ | refine ER.cmpF rfl rfl rfl rfl rfl (by first | (dsimp only [cmpP]; omega) | exact rfl | exact Int.le_refl _) ?_))
  refine ER.callR rfl rfl rfl rfl rfl (kpush_ok (j := 1) (x := 8) r2 (by omega) (by omega) s2 kf) ?_
  rintro _ h3 δ3 ⟨rfl, rfl, ⟨v3, r3, s3, x3, y3⟩, u3⟩
  replace u1 := u1.over u3 own
  (repeat (first | refine ER.move rfl rfl rfl ?_ | refine ER.pickF rfl rfl rfl rfl ?_ | refine ER.cmpF rfl rfl rfl rfl rfl (by first | (dsimp only [cmpP]; omega) | exact rfl | exact Int.le_refl _) ?_))
  refine ER.callD rfl rfl rfl rfl rfl (kpush_full r3 (by omega) s3) ?_
  (repeat (first | refine EK.seq ?_ | refine EK.region ?_ | refine ER.done ?_ | refine EK.skip ?_ | refine ER.move rfl rfl rfl ?_ | refine ER.pickF rfl rfl rfl rfl ?_ | refine ER.cmpF rfl rfl rfl rfl rfl (by first | (dsimp only [cmpP]; omega) | exact rfl | exact Int.le_refl _) ?_ | refine EK.condF rfl ?_))
  refine ER.callR rfl rfl rfl rfl rfl (kpop_ok (j := 2) (x := 8) r3 (by omega) (by omega) (by omega) s3 x3 kf) ?_
  rintro _ h4 δ4 ⟨rfl, rfl, ⟨v4, r4, s4, y4⟩, u4⟩
  replace u1 := u1.over u4 own
  (repeat (first | refine EK.seq ?_ | refine EK.region ?_ | refine ER.done ?_ | refine ER.move rfl rfl rfl ?_ | refine ER.assign rfl rfl rfl ?_ | refine ER.extract rfl rfl rfl rfl ?_))
  refine ER.callR rfl rfl rfl rfl rfl (kpop_ok (j := 1) (x := 7) r4 (by omega) (by omega) (by omega) s4 (by rw [y4, y3 1 (by omega)]; exact x2) kf) ?_
  rintro _ h5 δ5 ⟨rfl, rfl, ⟨v5, r5, s5, y5⟩, u5⟩
  replace u1 := u1.over u5 own
  (repeat (first | refine EK.seq ?_ | refine EK.region ?_ | refine ER.done ?_ | refine ER.move rfl rfl rfl ?_ | refine ER.assign rfl rfl rfl ?_ | refine ER.extract rfl rfl rfl rfl ?_))
  refine ER.callD rfl rfl rfl rfl rfl (kpop_empty r5 s5) ?_
  (repeat (first | refine EK.seq ?_ | refine EK.region ?_ | refine ER.done ?_ | refine ER.move rfl rfl rfl ?_ | refine ER.assign rfl rfl rfl ?_ | refine ER.notB rfl rfl rfl ?_ | refine ER.pickT rfl rfl rfl rfl ?_ | refine ER.extract rfl rfl rfl rfl ?_ | refine ER.cmpT rfl rfl rfl rfl rfl (by first | (dsimp only [cmpP]; omega) | exact rfl | exact Int.le_refl _) ?_ | refine EK.ret ?_))
  exact EU.ret1 rfl rfl ⟨rfl, u1, rfl⟩
end
end
section
open Go Go.TJ Go.Conc Go.Proofs
section
variable {A : Type}
def getP (B : Nat -> Nat) (c : Nat) (k : Int -> Pr A) : Nat -> Pr A
  | 0 => .done
  | n + 1 => .step ⟨1, B c, 0, 0⟩ fun h => if h % 65536 = 0 then k 0 else .step ⟨1, B (4 + 2 * (h % 65536).toNat), 0, 0⟩ fun m => .step ⟨3, B c, h, laidZ h m⟩ fun w => if w = h then k (h % 65536) else getP B c k n
def layP (B : Nat -> Nat) (c x : Nat) (k : Pr A) : Nat -> Pr A
  | 0 => .done
  | n + 1 => .step ⟨1, B c, 0, 0⟩ fun h => .step ⟨2, B (4 + 2 * x), h % 65536, 0⟩ fun _ => .step ⟨3, B c, h, laidZ h x⟩ fun w => if w = h then k else layP B c x k n
def pushP (B : Nat -> Nat) (v : Int) (k : Int -> Pr A) (f : Nat) : Pr A := getP B 3 (fun x => if x = 0 then k 12 else .step ⟨2, B (5 + 2 * x.toNat), v, 0⟩ fun _ => layP B 2 x.toNat (k 0) f) f
def popP (B : Nat -> Nat) (k : Int -> Bool -> Pr A) (f : Nat) : Pr A := getP B 2 (fun x => if x = 0 then k 0 false else .step ⟨1, B (5 + 2 * x.toNat), 0, 0⟩ fun v => layP B 3 x.toNat (k v true) f) f
end
structure StkH (n : Nat) (B : Nat -> Nat) (h : Hp) : Prop where
  o0 : h[B 0]? = some (.cells #[ptr (B 2), ptr (B 3), .slice (some ⟨B 1, 0, none⟩) (n + 1) (n + 1)] 105 (0, 0))
  o1 : h[B 1]? = some (.cells (itemsL (n + 1) B).toArray 109 (0, 0))
structure JStk (n : Nat) (B : Nat -> Nat) (v : Nat -> Int) : Prop where
  l : v (B 2) % 65536 <= n
  f : v (B 3) % 65536 <= n
  x : ∀ k, 1 <= k -> k <= n -> 0 <= v (B (4 + 2 * k)) /\ v (B (4 + 2 * k)) <= n
def Fine (n : Nat) (B : Nat -> Nat) (r : Rq) : Prop :=
  r.op = 1 \/ (r.op = 3 /\ (r.b = B 2 \/ r.b = B 3) /\ r.new % 65536 <= n) \/ (r.op = 2 /\ ∃ k, 1 <= k /\ k <= n /\ r.b = B (4 + 2 * k) /\ 0 <= r.arg /\ r.arg <= n) \/ (r.op = 2 /\ ∃ k, 1 <= k /\ k <= n /\ r.b = B (5 + 2 * k))
theorem JStk.fine {n : Nat} {B : Nat -> Nat} {v : Nat -> Int} {r : Rq} (inj : ∀ j k, 2 <= j -> j < 6 + 2 * n -> 2 <= k -> k < 6 + 2 * n -> B j = B k -> j = k) (J : JStk n B v) (f : Fine n B r) : JStk n B (ut v r.b (behind r.op (v r.b) r.arg r.new).1) := by
  rcases f with f | ⟨f, hb, hn⟩ | ⟨f, k, h1, h2, hb, h3, h4⟩ | ⟨f, k, h1, h2, hb⟩
  · have : (behind r.op (v r.b) r.arg r.new).1 = v r.b := by rw [f]; rfl
    rw [this, ut_self]; exact J
  · have e : (behind r.op (v r.b) r.arg r.new).1 = if v r.b = r.arg then r.new else v r.b := by rw [f]; unfold behind; by_cases h : v r.b = r.arg <;> simp [h]
    have hx : ∀ k, 1 <= k -> k <= n -> B (4 + 2 * k) ≠ r.b := fun k h1 h2 e => by
      rcases hb with hb | hb
      · have := inj (4 + 2 * k) 2 (by omega) (by omega) (by omega) (by omega) (e.trans hb); omega
      · have := inj (4 + 2 * k) 3 (by omega) (by omega) (by omega) (by omega) (e.trans hb); omega
    refine ⟨?_, ?_, fun k h1 h2 => by rw [ut_ne _ _ (hx k h1 h2)]; exact J.x k h1 h2⟩
    · by_cases e2 : B 2 = r.b
      · rw [e2, ut_same, e]
        split
        · exact hn
        · rw [<- e2]; exact J.l
      · rw [ut_ne _ _ e2]; exact J.l
    · by_cases e2 : B 3 = r.b
      · rw [e2, ut_same, e]
        split
        · exact hn
        · rw [<- e2]; exact J.f
      · rw [ut_ne _ _ e2]; exact J.f
  · have e : (behind r.op (v r.b) r.arg r.new).1 = r.arg := by rw [f]; rfl
    rw [e]
    refine ⟨?_, ?_, fun j j1 j2 => ?_⟩
    · rw [ut_ne _ _ (fun e => by have := inj 2 (4 + 2 * k) (by omega) (by omega) (by omega) (by omega) (e.trans hb); omega)]; exact J.l
    · rw [ut_ne _ _ (fun e => by have := inj 3 (4 + 2 * k) (by omega) (by omega) (by omega) (by omega) (e.trans hb); omega)]; exact J.f
    · by_cases e2 : B (4 + 2 * j) = r.b
      · rw [e2, ut_same]; exact ⟨h3, h4⟩
      · rw [ut_ne _ _ e2]; exact J.x j j1 j2
  · have e : (behind r.op (v r.b) r.arg r.new).1 = r.arg := by rw [f]; rfl
    rw [e]
    refine ⟨?_, ?_, fun j j1 j2 => ?_⟩
    · rw [ut_ne _ _ (fun e => by have := inj 2 (5 + 2 * k) (by omega) (by omega) (by omega) (by omega) (e.trans hb); omega)]; exact J.l
    · rw [ut_ne _ _ (fun e => by have := inj 3 (5 + 2 * k) (by omega) (by omega) (by omega) (by omega) (e.trans hb); omega)]; exact J.f
    · rw [ut_ne _ _ (fun e => by have := inj (4 + 2 * j) (5 + 2 * k) (by omega) (by omega) (by omega) (by omega) (e.trans hb); omega)]; exact J.x j j1 j2
section
variable {X : Us} [HasE X] {A : Type} {P : Nat -> Pr A} {told : X.U -> Nat -> List A} {n : Nat} {B : Nat -> Nat} {i : Nat} {γ γ' : GG X} {u : X.U} {L : List (Nat × Obj)} {h : Hp}
omit [HasE X] in
def PendS (n : Nat) (B : Nat -> Nat) (i : Nat) (γ : GG X) : Prop := γ.p.st i = .born \/ ∃ r, γ.p.st i = .stands r /\ Fine n B r
structure StkX (X : Us) [HasE X] {A : Type} (P : Nat -> Pr A) (told : X.U -> Nat -> List A) (n : Nat) (B : Nat -> Nat) : Prop where
  ok : X.Ok
  prog : Prog X P told
  cell : ∀ k, 2 <= k -> k < 6 + 2 * n -> k ≠ 4 -> k ≠ 5 -> X.isC (B k)
  mem : ∀ u h, X.I u h -> StkH n B h
  jv : ∀ l u v, X.J l u v -> JStk n B v
  j : ∀ {i : Nat} {γ : GG X} {u : X.U} {L : List (Nat × Obj)} {h : Hp} {r : Rq} {k : Int -> Pr A}, Thr X i γ u L h -> PendS n B i γ -> HasE.E (X := X) i γ.p.u u -> Goes i (P i) (ownOf i (γ.p.acc i).log) (told u i) (.step r k) -> X.J (γ.p.acc i).log u (γ.p.acc i).val
  er : ∀ i u, HasE.E (X := X) i u u
  hn1 : 1 <= n
  hn : n <= 4096
structure AtP (X : Us) [HasE X] {A : Type} (P : Nat -> Pr A) (told : X.U -> Nat -> List A) (n : Nat) (B : Nat -> Nat) (i : Nat) (γ : GG X) (u : X.U) (L : List (Nat × Obj)) (h : Hp) (p : Pr A) : Prop where
  thr : Thr X i γ u L h
  res : Res P told i γ u p
  pend : PendS n B i γ
  ext : HasE.E (X := X) i γ.p.u u
structure Nxt (X : Us) [HasE X] {A : Type} (P : Nat -> Pr A) (told : X.U -> Nat -> List A) (n : Nat) (B : Nat -> Nat) (i : Nat) (γ : GG X) (u : X.U) (L : List (Nat × Obj)) (γ' : GG X) (h' : Hp) (p : Pr A) : Prop where
  al : Along X i γ.p γ'.p
  at_ : AtP X P told n B i γ' γ'.p.u L h' p
  V : X.V i u γ'.p.u
  len : (ownOf i (γ.p.acc i).log).length < (ownOf i (γ'.p.acc i).log).length
theorem Nxt.trans {γ1 γ2 : GG X} {h1 h2 : Hp} {p1 p2 : Pr A} (hX : X.Ok) (a : Nxt X P told n B i γ u L γ1 h1 p1) (b : Nxt X P told n B i γ1 γ1.p.u L γ2 h2 p2) : Nxt X P told n B i γ u L γ2 h2 p2 :=
  ⟨a.al.trans b.al, b.at_, hX.vtrans _ _ _ _ a.V b.V, Nat.lt_trans a.len b.len⟩
theorem own_le {l : List Ev} : (ownOf i l).length <= l.length := List.length_filter_le _ _
theorem AtP.len {p : Pr A} (a : AtP X P told n B i γ u L h p) : (ownOf i (γ.p.acc i).log).length <= 65536 := by
  have h1 : (ownOf i (γ.p.acc i).log).length <= (γ.p.acc i).log.length := own_le
  have h2 : (γ.p.acc i).log.length <= γ.p.log.length + 1 := by
    unfold PS.acc
    split
    · simp
    · omega
  have := a.thr.len
  omega
theorem Nxt.of (K : StkX X P told n B) {r : Rq} {k : Int -> Pr A} {h' : Hp} (a : AtP X P told n B i γ u L h (.step r k)) (hf : Fine n B r) (T : Thr X i γ' γ'.p.u L h') (st : Stood X i γ u r γ') : Nxt X P told n B i γ u L γ' h' (k (γ'.p.val r.b)) /\ JStk n B γ'.p.val :=
  ⟨⟨st.al, ⟨T, a.res.did K.prog st, .inr ⟨r, st.st, hf⟩, K.er _ _⟩, st.V, by rw [st.after]; simp⟩, K.jv _ _ _ T.J⟩
theorem loadS (K : StkX X P told n B) {b : Nat} {k : Int -> Pr A} (a : AtP X P told n B i γ u L h (.step ⟨1, b, 0, 0⟩ k)) (hb : X.isC b) {t : Nat} (ht : t = γ.p.tb i) : CallW Try.prog false (SitT Try.prog (PX X) (i + 1)) 35 #[ptr b, ptr t] h ⟨0, γ⟩ (RetP (fun w h' δ' => ∃ γ' : GG X, δ' = ⟨0, γ'⟩ /\ w = .int .i64 (γ'.p.val b) /\ Nxt X P told n B i γ u L γ' h' (k (γ'.p.val b)) /\ JStk n B γ'.p.val) (Halt X i γ.p)) := by
  subst ht
  refine (cloadT K.ok a.thr hb (a.res.asks K.prog (K.j a.thr a.pend a.ext a.res))).conseqP ?_
  rintro w h' δ' ⟨γ', rfl, T, st, rfl⟩
  obtain ⟨x, y⟩ := Nxt.of K a (.inl rfl) T st
  exact ⟨γ', rfl, rfl, x, y⟩
theorem storeS (K : StkX X P told n B) {b : Nat} {v : Int} {k : Int -> Pr A} (a : AtP X P told n B i γ u L h (.step ⟨2, b, v, 0⟩ k)) (hb : X.isC b) (hf : Fine n B ⟨2, b, v, 0⟩) {t : Nat} (ht : t = γ.p.tb i) : CallW Try.prog false (SitT Try.prog (PX X) (i + 1)) 33 #[ptr b, ptr t, .int .i64 v] h ⟨0, γ⟩ (RetP (fun w h' δ' => ∃ γ' : GG X, δ' = ⟨0, γ'⟩ /\ w = .tuple #[] /\ Nxt X P told n B i γ u L γ' h' (k (γ'.p.val b)) /\ JStk n B γ'.p.val) (Halt X i γ.p)) := by
  subst ht
  refine (cstoreT K.ok a.thr hb (a.res.asks K.prog (K.j a.thr a.pend a.ext a.res))).conseqP ?_
  rintro w h' δ' ⟨γ', rfl, T, st, rfl⟩
  obtain ⟨x, y⟩ := Nxt.of K a hf T st
  exact ⟨γ', rfl, rfl, x, y⟩
theorem casS (K : StkX X P told n B) {b : Nat} {v c : Int} {k : Int -> Pr A} (a : AtP X P told n B i γ u L h (.step ⟨3, b, v, c⟩ k)) (hb : X.isC b) (hf : Fine n B ⟨3, b, v, c⟩) {t : Nat} (ht : t = γ.p.tb i) : CallW Try.prog false (SitT Try.prog (PX X) (i + 1)) 41 #[ptr b, ptr t, .int .i64 v, .int .i64 c] h ⟨0, γ⟩ (RetP (fun w h' δ' => ∃ γ' : GG X, δ' = ⟨0, γ'⟩ /\ w = .bool (decide (γ'.p.val b = v)) /\ Nxt X P told n B i γ u L γ' h' (k (γ'.p.val b)) /\ JStk n B γ'.p.val) (Halt X i γ.p)) := by
  subst ht
  refine (ccasT K.ok a.thr hb (a.res.asks K.prog (K.j a.thr a.pend a.ext a.res))).conseqP ?_
  rintro w h' δ' ⟨γ', rfl, T, st, rfl⟩
  obtain ⟨x, y⟩ := Nxt.of K a hf T st
  exact ⟨γ', rfl, rfl, x, y⟩
end
end
section
open Go Go.TJ Go.Conc Go.Proofs
def sumT (f : Nat -> Int) : Nat -> Int
  | 0 => 0
  | n + 1 => sumT f n + f n
theorem sumT_congr {f g : Nat -> Int} : ∀ {n : Nat}, (∀ j, j < n -> f j = g j) -> sumT f n = sumT g n
  | 0, _ => rfl
  | n + 1, h => by
    show sumT f n + f n = sumT g n + g n
    rw [sumT_congr (n := n) fun j hj => h j (by omega), h n (by omega)]
theorem sumT_le {f f' d : Nat -> Int} {i : Nat} : ∀ {n : Nat}, (∀ j, j < n -> j ≠ i -> f' j <= f j + d j) -> sumT f' n <= sumT f n + sumT d n + (if i < n then f' i - f i - d i else 0)
  | 0, _ => by simp [sumT]
  | n + 1, h => by
    have ih := sumT_le (n := n) (f := f) (f' := f') (d := d) (i := i) fun j hj => h j (by omega)
    show sumT f' n + f' n <= sumT f n + f n + (sumT d n + d n) + _
    by_cases e : n = i
    · subst e
      rw [if_neg (by omega)] at ih
      rw [if_pos (by omega)]
      omega
    · have := h n (by omega) e
      by_cases q : i < n
      · rw [if_pos q] at ih
        rw [if_pos (by omega)]
        omega
      · rw [if_neg q] at ih
        rw [if_neg (by omega)]
        omega
theorem sumT_zero : ∀ {n : Nat}, sumT (fun _ => 0) n = 0
  | 0 => rfl
  | n + 1 => by show sumT _ n + 0 = 0; rw [sumT_zero]; rfl
theorem sumT_set {f f' : Nat -> Int} {i n : Nat} (hi : i < n) (h : ∀ j, j < n -> j ≠ i -> f' j = f j) : sumT f' n = sumT f n - f i + f' i := by
  have h1 := sumT_le (f := f) (f' := f') (d := fun _ => 0) (i := i) (n := n) fun j hj hne => by rw [h j hj hne]; omega
  have h2 := sumT_le (f := f') (f' := f) (d := fun _ => 0) (i := i) (n := n) fun j hj hne => by rw [h j hj hne]; omega
  rw [if_pos hi, sumT_zero] at h1 h2
  omega
theorem sumT_nn {f : Nat -> Int} : ∀ {n : Nat}, (∀ j, j < n -> 0 <= f j) -> 0 <= sumT f n
  | 0, _ => Int.le_refl _
  | n + 1, h => by
    have := sumT_nn (n := n) fun j hj => h j (by omega)
    have := h n (by omega)
    show 0 <= sumT f n + f n
    omega
theorem sumT_up {f : Nat -> Int} {b : Int} : ∀ {n : Nat}, (∀ j, j < n -> f j <= b) -> sumT f n <= n * b
  | 0, _ => by simp [sumT]
  | n + 1, h => by
    have := sumT_up (n := n) fun j hj => h j (by omega)
    have := h n (by omega)
    show sumT f n + f n <= ((n + 1 : Nat) : Int) * b
    rw [show ((n + 1 : Nat) : Int) = (n : Int) + 1 by omega, Int.add_mul, Int.one_mul]
    omega
theorem sumT_one {f : Nat -> Int} {i n : Nat} (hi : i < n) (h : ∀ j, j < n -> 0 <= f j) : f i <= sumT f n := by
  have := sumT_set (f := f) (f' := fun j => if j = i then 0 else f j) hi fun j _ hne => if_neg hne
  have h2 := sumT_nn (f := fun j => if j = i then 0 else f j) (n := n) fun j hj => by
    split
    · exact Int.le_refl _
    · exact h j hj
  rw [if_pos rfl] at this
  omega
def fmT {A : Type} (f : Nat -> Option A) (n : Nat) : List A := (List.range n).filterMap f
theorem fmT_succ {A : Type} {f : Nat -> Option A} {n : Nat} : fmT f (n + 1) = fmT f n ++ (f n).toList := by
  unfold fmT
  rw [List.range_succ, List.filterMap_append]
  congr 1
theorem fmT_congr {A : Type} {f g : Nat -> Option A} {n : Nat} (h : ∀ j, j < n -> f j = g j) : fmT f n = fmT g n := by
  induction n with
  | zero => rfl
  | succ n ih => rw [fmT_succ, fmT_succ, ih fun j hj => h j (by omega), h n (by omega)]
theorem fmT_add {A : Type} {f f' : Nat -> Option A} {i n : Nat} {y : A} (hi : i < n) (h0 : f i = none) (h1 : f' i = some y) (h : ∀ j, j < n -> j ≠ i -> f' j = f j) : (fmT f' n).Perm (y :: fmT f n) := by
  induction n with
  | zero => omega
  | succ n ih =>
    rw [fmT_succ, fmT_succ]
    by_cases e : n = i
    · subst e
      rw [h0, h1, fmT_congr (g := f) fun j hj => h j (by omega) (by omega)]
      simp only [Option.toList_some, Option.toList_none, List.append_nil]
      exact List.perm_append_comm
    · rw [h n (by omega) e]
      exact (ih (by omega) fun j hj hne => h j (by omega) hne).append_right _
theorem fmT_mem {A : Type} {f : Nat -> Option A} {n : Nat} {y : A} : y ∈ fmT f n ↔ ∃ i, i < n /\ f i = some y := by
  unfold fmT
  simp [List.mem_filterMap]
inductive SE where
  | bpush (v : Int)
  | pushed (v e : Int)
  | bpop
  | popped (y : Int) (is : Bool)
structure SS where
  there : List Int
  last : List Int
  busy : Int
  begun : Int
  when : Nat -> Int
  alone : Nat -> Bool
  was : Nat -> Int
def SS.z : SS := ⟨[], [], 0, 0, fun _ => 0, fun _ => false, fun _ => 0⟩
def SS.begin (s : SS) (i : Nat) : SS := { s with busy := s.busy + 1, begun := s.begun + 1, when := ut s.when i (s.begun + 1), alone := ut s.alone i (decide (s.busy + 1 = 1)), was := ut s.was i s.there.length }
def sstep (s : SS) : Nat × SE -> SS
  | (i, .bpush v) => { s.begin i with there := s.there ++ [v] }
  | (_, .pushed v e) => if e = 0 then { s with last := s.last ++ [v], busy := s.busy - 1 } else { s with there := s.there.erase v, busy := s.busy - 1 }
  | (i, .bpop) => s.begin i
  | (_, .popped y is) => if is then { s with there := s.there.erase y, last := s.last.dropLast, busy := s.busy - 1 } else { s with busy := s.busy - 1 }
theorem sstep_full {s : SS} {i : Nat} {v : Int} : sstep s (i, .pushed v 12) = { s with there := s.there.erase v, busy := s.busy - 1 } := by simp [sstep]
theorem sstep_in {s : SS} {i : Nat} {v : Int} : sstep s (i, .pushed v 0) = { s with last := s.last ++ [v], busy := s.busy - 1 } := by simp [sstep]
theorem sstep_out {s : SS} {i : Nat} {y : Int} : sstep s (i, .popped y true) = { s with there := s.there.erase y, last := s.last.dropLast, busy := s.busy - 1 } := by simp [sstep]
def sfold (g : List (Nat × SE)) : SS := g.foldl sstep SS.z
theorem sfold_snoc {g : List (Nat × SE)} {x : Nat × SE} : sfold (g ++ [x]) = sstep (sfold g) x := by unfold sfold; rw [List.foldl_append]; rfl
def sok (n : Int) (lone : Bool) (s : SS) : Nat × SE -> Prop
  | (_, .bpush v) => v ∉ s.there
  | (i, .pushed v e) => (e = 0 \/ e = 12) /\ v ∈ s.there /\ (s.alone i = true -> s.when i = s.begun -> (e = 0 ↔ s.was i < n))
  | (_, .bpop) => True
  | (i, .popped y is) => (is = true -> y ∈ s.there /\ (lone = true -> s.last.getLast? = some y)) /\ (s.alone i = true -> s.when i = s.begun -> (is = true ↔ 0 < s.was i))
def sokl (n : Int) (lone : Bool) (g : List (Nat × SE)) : Prop := ∀ g1 x g2, g = g1 ++ x :: g2 -> sok n lone (sfold g1) x
theorem sokl_snoc {n : Int} {lone : Bool} {g : List (Nat × SE)} {x : Nat × SE} (h : sokl n lone g) (hx : sok n lone (sfold g) x) : sokl n lone (g ++ [x]) := by
  intro g1 y g2 e
  rcases List.eq_nil_or_concat g2 with rfl | ⟨g3, z, rfl⟩
  · obtain ⟨e1, e2⟩ := List.append_inj' e rfl
    injection e2 with e2 _
    subst e1 e2
    exact hx
  · rw [List.concat_eq_append, <- List.cons_append, <- List.append_assoc] at e
    obtain ⟨e1, e2⟩ := List.append_inj' e rfl
    exact h g1 y g3 e1
section
variable (B : Nat -> Nat) (F : Nat)
def valN (i k : Nat) : Int := 1000 * (i : Int) + k + 1
def stP (i : Nat) : List Bool -> Nat -> Pr SE
  | [], _ => .done
  | true :: l, k => .emit (.bpush (valN i k)) (pushP B (valN i k) (fun e => .emit (.pushed (valN i k) e) (stP i l (k + 1))) F)
  | false :: l, k => .emit .bpop (popP B (fun y is => .emit (.popped y is) (stP i l (k + 1))) F)
structure CL where
  l : List Bool
  k : Nat
  push : Bool
def CL.gc (c : CL) : Nat := if c.push then 3 else 2
def CL.lc (c : CL) : Nat := if c.push then 2 else 3
inductive SC where
  | fin (k : Nat)
  | raw (l : List Bool) (k : Nat)
  | g0 (c : CL) (f : Nat)
  | g1 (c : CL) (f : Nat) (h : Int)
  | g2 (c : CL) (f : Nat) (h m : Int)
  | vl (c : CL) (x : Nat) (y : Int)
  | l0 (c : CL) (x : Nat) (y : Int) (f : Nat)
  | l1 (c : CL) (x : Nat) (y : Int) (f : Nat) (h : Int)
  | l2 (c : CL) (x : Nat) (y : Int) (f : Nat) (h : Int)
def kE (i : Nat) (c : CL) (e : Int) : Pr SE := .emit (.pushed (valN i c.k) e) (stP B F i c.l (c.k + 1))
def kP (i : Nat) (c : CL) (y : Int) (is : Bool) : Pr SE := .emit (.popped y is) (stP B F i c.l (c.k + 1))
def kL (i : Nat) (c : CL) (y : Int) : Pr SE := if c.push then kE B F i c 0 else kP B F i c y true
def kV (i : Nat) (c : CL) (x : Nat) : Pr SE := if c.push then .step ⟨2, B (5 + 2 * x), valN i c.k, 0⟩ fun _ => layP B 2 x (kE B F i c 0) F else .step ⟨1, B (5 + 2 * x), 0, 0⟩ fun v => layP B 3 x (kP B F i c v true) F
def kG (i : Nat) (c : CL) (x : Int) : Pr SE := if x = 0 then (if c.push then kE B F i c 12 else kP B F i c 0 false) else kV B F i c x.toNat
def sRes (i : Nat) : SC -> Pr SE
  | .fin _ => .done
  | .raw l k => stP B F i l k
  | .g0 c f => getP B c.gc (kG B F i c) f
  | .g1 c f h => .step ⟨1, B (4 + 2 * (h % 65536).toNat), 0, 0⟩ fun m => .step ⟨3, B c.gc, h, laidZ h m⟩ fun w => if w = h then kG B F i c (h % 65536) else getP B c.gc (kG B F i c) f
  | .g2 c f h m => .step ⟨3, B c.gc, h, laidZ h m⟩ fun w => if w = h then kG B F i c (h % 65536) else getP B c.gc (kG B F i c) f
  | .vl c x _ => kV B F i c x
  | .l0 c x y f => layP B c.lc x (kL B F i c y) f
  | .l1 c x y f h => .step ⟨2, B (4 + 2 * x), h % 65536, 0⟩ fun _ => .step ⟨3, B c.lc, h, laidZ h x⟩ fun w => if w = h then kL B F i c y else layP B c.lc x (kL B F i c y) f
  | .l2 c x y f h => .step ⟨3, B c.lc, h, laidZ h x⟩ fun w => if w = h then kL B F i c y else layP B c.lc x (kL B F i c y) f
def snext : List Bool -> Nat -> SC
  | [], k => .fin k
  | b :: l, k => .g0 ⟨l, k, b⟩ F
def stell (i : Nat) : List Bool -> Nat -> List SE
  | [], _ => []
  | true :: _, k => [.bpush (valN i k)]
  | false :: _, _ => [.bpop]
end
theorem stP_push {B : Nat -> Nat} {F i k : Nat} {l : List Bool} : pushP B (valN i k) (fun e => .emit (.pushed (valN i k) e) (stP B F i l (k + 1))) F = getP B 3 (kG B F i ⟨l, k, true⟩) F := by
  unfold pushP
  congr 1
theorem stP_pop {B : Nat -> Nat} {F i k : Nat} {l : List Bool} : popP B (fun y is => .emit (.popped y is) (stP B F i l (k + 1))) F = getP B 2 (kG B F i ⟨l, k, false⟩) F := by
  unfold popP
  congr 1
theorem norm_get {B : Nat -> Nat} {c F : Nat} {k : Int -> Pr SE} : norm (getP B c k F) = ([], getP B c k F) := by
  cases F <;> rfl
theorem norm_stP {B : Nat -> Nat} {F i : Nat} : ∀ (l : List Bool) (k : Nat), norm (stP B F i l k) = (stell i l k, sRes B F i (snext F l k))
  | [], _ => rfl
  | true :: l, k => by
    unfold stP norm
    rw [stP_push, norm_get]
    rfl
  | false :: l, k => by
    unfold stP norm
    rw [stP_pop, norm_get]
    rfl
theorem norm_kE {B : Nat -> Nat} {F i : Nat} {c : CL} {e : Int} : norm (kE B F i c e) = (.pushed (valN i c.k) e :: stell i c.l (c.k + 1), sRes B F i (snext F c.l (c.k + 1))) := by
  unfold kE norm
  rw [norm_stP]
theorem norm_kP {B : Nat -> Nat} {F i : Nat} {c : CL} {y : Int} {is : Bool} : norm (kP B F i c y is) = (.popped y is :: stell i c.l (c.k + 1), sRes B F i (snext F c.l (c.k + 1))) := by
  unfold kP norm
  rw [norm_stP]
end
section
open Go Go.TJ Go.Conc Go.Proofs
structure SP where
  n : Nat
  F : Nat
  B : Nat -> Nat
  sc : List (List Bool)
def SP.T (c : SP) : Nat := c.sc.length
def SP.lone (c : SP) : Bool := c.sc.length == 1
def SP.P (c : SP) (i : Nat) : Pr SE := match c.sc[i]? with | some l => stP c.B c.F i l 0 | none => .done
def SP.N (c : SP) : Int := sumT (fun j => ((c.sc.getD j []).length : Int)) c.T
structure SP.Ok (c : SP) : Prop where
  inj : ∀ j k, c.B j = c.B k -> j = k
  n1 : 1 <= c.n
  n2 : c.n <= 4096
  T8 : c.T <= 8
  len : ∀ l, l ∈ c.sc -> l.length <= 400
  F : 65537 <= c.F
  N : c.N <= 400
def hdN : List Nat -> Int
  | [] => 0
  | x :: _ => x
def Chn (B : Nat -> Nat) (v : Nat -> Int) : List Nat -> Prop
  | [] => True
  | x :: r => v (B (4 + 2 * x)) = hdN r /\ Chn B v r
theorem Chn.congr {B : Nat -> Nat} {v v' : Nat -> Int} : ∀ {l : List Nat}, (∀ x, x ∈ l -> v' (B (4 + 2 * x)) = v (B (4 + 2 * x))) -> Chn B v l -> Chn B v' l
  | [], _, _ => trivial
  | x :: r, h, ⟨h1, h2⟩ => ⟨(h x List.mem_cons_self).trans h1, h2.congr fun y hy => h y (List.mem_cons_of_mem _ hy)⟩
section
variable (v : Nat -> Int) (B : Nat -> Nat)
def icS : SC -> Int
  | .fin _ => 0
  | .raw _ _ => 0
  | _ => 1
def hnS : SC -> Option Nat
  | .vl _ x _ => some x
  | .l0 _ x _ _ => some x
  | .l1 _ x _ _ _ => some x
  | .l2 _ x _ _ _ => some x
  | _ => none
def tvC (i : Nat) (c : CL) (y : Option Int) : Option Int := if c.push then some (valN i c.k) else y
def tvS (i : Nat) : SC -> Option Int
  | .fin _ => none
  | .raw _ _ => none
  | .g0 c _ => tvC i c none
  | .g1 c _ _ => tvC i c none
  | .g2 c _ _ _ => tvC i c none
  | .vl c _ y => tvC i c (some y)
  | .l0 c _ y _ => tvC i c (some y)
  | .l1 c _ y _ _ => tvC i c (some y)
  | .l2 c _ y _ _ => tvC i c (some y)
def nxS : SC -> Nat
  | .fin k => k
  | .raw _ k => k
  | .g0 c _ => c.k + 1
  | .g1 c _ _ => c.k + 1
  | .g2 c _ _ _ => c.k + 1
  | .vl c _ _ => c.k + 1
  | .l0 c _ _ _ => c.k + 1
  | .l1 c _ _ _ _ => c.k + 1
  | .l2 c _ _ _ _ => c.k + 1
def bsS : SC -> Int
  | .fin _ => 0
  | .raw l _ => 7 * l.length
  | .g0 c _ => 7 + 7 * c.l.length
  | .g1 c _ _ => 6 + 7 * c.l.length
  | .g2 c _ _ _ => 5 + 7 * c.l.length
  | .vl c _ _ => 4 + 7 * c.l.length
  | .l0 c _ _ _ => 3 + 7 * c.l.length
  | .l1 c _ _ _ _ => 2 + 7 * c.l.length
  | .l2 c _ _ _ _ => 1 + 7 * c.l.length
def rsS : SC -> Int
  | .fin _ => 0
  | .raw l _ => 21 * l.length
  | .g0 c _ => 21 + 21 * c.l.length
  | .g1 c _ _ => 21 + 21 * c.l.length
  | .g2 c _ _ _ => 21 + 21 * c.l.length
  | .vl c _ _ => 14 + 21 * c.l.length
  | .l0 c _ _ _ => 14 + 21 * c.l.length
  | .l1 c _ _ _ _ => 14 + 21 * c.l.length
  | .l2 c _ _ _ _ => 14 + 21 * c.l.length
def ylC (c : CL) (g : Bool) : Int := if c.push = g then 0 else 1
def ylS : SC -> Int
  | .fin _ => 0
  | .raw (false :: _) _ => 1
  | .raw _ _ => 0
  | .g0 c _ => ylC c true
  | .g1 c _ _ => ylC c true
  | .g2 c _ _ _ => ylC c true
  | .vl c _ _ => ylC c false
  | .l0 c _ _ _ => ylC c false
  | .l1 c _ _ _ _ => ylC c false
  | .l2 c _ _ _ _ => ylC c false
def stC (X : Nat) (h : Int) : Int := if v (B X) = h then 0 else 1
def slS : SC -> Int
  | .g1 c _ h => stC v B c.gc h
  | .g2 c _ h _ => stC v B c.gc h
  | .l1 c _ _ _ h => stC v B c.lc h
  | .l2 c _ _ _ h => stC v B c.lc h
  | _ => 0
end
structure SA where
  tg : Nat -> Int
  ch : Nat -> List Nat
  s : SS
structure TH (v : Nat -> Int) (B : Nat -> Nat) (a : SA) (X : Nat) (h : Int) : Prop where
  p : 0 <= h
  o : h = v (B X) \/ h / 65536 < a.tg X
structure CK (c : SP) (a : SA) (i : Nat) (q : CL) (k : Bool) : Prop where
  kk : q.k + 1 + q.l.length <= 400
  ww : a.s.when i <= a.s.begun
  ii : i < c.T
  W : a.s.alone i = true -> a.s.when i = a.s.begun -> if k then (if q.push then a.s.was i < c.n else 0 < a.s.was i) else a.s.was i = (a.ch 2).length
def TS (c : SP) (v : Nat -> Int) (a : SA) (len : Int) (i : Nat) : SC -> Prop
  | .fin k => k <= 400
  | .raw l k => l ≠ [] /\ k + l.length <= 400 /\ i < c.T
  | .g0 q f => CK c a i q false /\ c.F <= f + len
  | .g1 q f h => CK c a i q false /\ c.F <= f + len /\ TH v c.B a q.gc h /\ h % 65536 ≠ 0
  | .g2 q f h m => CK c a i q false /\ c.F <= f + len /\ TH v c.B a q.gc h /\ h % 65536 ≠ 0 /\ (h = v (c.B q.gc) -> ∀ x r, a.ch q.gc = x :: r -> m = hdN r)
  | .vl q x y => CK c a i q true /\ (q.push = false -> y = v (c.B (5 + 2 * x)))
  | .l0 q x y f => CK c a i q true /\ c.F <= f + len /\ (q.push = true -> v (c.B (5 + 2 * x)) = valN i q.k)
  | .l1 q x y f h => CK c a i q true /\ c.F <= f + len /\ (q.push = true -> v (c.B (5 + 2 * x)) = valN i q.k) /\ TH v c.B a q.lc h
  | .l2 q x y f h => CK c a i q true /\ c.F <= f + len /\ (q.push = true -> v (c.B (5 + 2 * x)) = valN i q.k) /\ TH v c.B a q.lc h /\ v (c.B (4 + 2 * x)) = h % 65536
def lastS : SC -> List Int
  | .vl q _ y => if q.push then [] else [y]
  | .l0 q _ y _ => if q.push then [] else [y]
  | .l1 q _ y _ _ => if q.push then [] else [y]
  | .l2 q _ y _ _ => if q.push then [] else [y]
  | _ => []
def meas (c : SP) (v : Nat -> Int) (k : Nat -> SC) : Int :=
  2 * sumT (fun j => bsS (k j)) c.T + 6 * sumT (fun j => slS v c.B (k j)) c.T + 3 * sumT (fun j => rsS (k j)) c.T + 3 * (16 + sumT (fun j => ylS (k j)) c.T * (sumT (fun j => ylS (k j)) c.T - 8))
structure SInv (c : SP) (l : List Ev) (g : List (Nat × SE)) (S : Nat -> Pr SE) (v : Nat -> Int) (a : SA) (k : Nat -> SC) : Prop where
  res : ∀ i, S i = sRes c.B c.F i (k i)
  out : ∀ i, c.T <= i -> ∃ q, k i = .fin q
  s : a.s = sfold g
  cel : ∀ X, X = 2 \/ X = 3 -> v (c.B X) = 65536 * a.tg X + hdN (a.ch X) /\ 0 <= a.tg X /\ a.tg X <= l.length /\ Chn c.B v (a.ch X)
  np : (a.ch 2 ++ a.ch 3 ++ fmT (fun j => hnS (k j)) c.T).Perm (List.range' 1 c.n)
  vp : a.s.there.Perm ((a.ch 2).map (fun x => v (c.B (5 + 2 * x))) ++ fmT (fun j => tvS j (k j)) c.T)
  nd : a.s.there.Nodup
  old : ∀ y, y ∈ a.s.there -> ∃ j q : Nat, y = valN j q /\ q < nxS (k j)
  T : ∀ i, TS c v a l.length i (k i)
  busy : a.s.busy = sumT (fun j => icS (k j)) c.T
  bg : a.s.begun = sumT (fun j => (nxS (k j) : Int)) c.T
  al : ∀ i, icS (k i) = 1 -> a.s.alone i = true -> a.s.when i = a.s.begun -> ∀ j, j ≠ i -> icS (k j) = 0
  lone : c.T = 1 -> a.s.last = ((a.ch 2).map fun x => v (c.B (5 + 2 * x))).reverse ++ lastS (k 0)
  meas : meas c v k + 2 * l.length <= 77 * c.N + 48
  ok : sokl c.n c.lone g
structure Lv (c : SP) (v v' : Nat -> Int) (a a' : SA) (len len' : Int) (i j : Nat) (x : SC) : Prop where
  len : len <= len'
  was : a'.s.was j = a.s.was j
  when : a'.s.when j = a.s.when j
  alone : a'.s.alone j = a.s.alone j
  begun : a.s.begun <= a'.s.begun
  tg : ∀ X, X = 2 \/ X = 3 -> (v' (c.B X) = v (c.B X) /\ a'.tg X = a.tg X /\ a'.ch X = a.ch X) \/ (v (c.B X) / 65536 < a'.tg X /\ a.tg X <= a'.tg X /\ v' (c.B X) / 65536 = a'.tg X)
  own : ∀ y, hnS x = some y -> v' (c.B (4 + 2 * y)) = v (c.B (4 + 2 * y)) /\ v' (c.B (5 + 2 * y)) = v (c.B (5 + 2 * y))
  al : icS x = 1 -> ¬ (a'.s.alone j = true /\ a'.s.when j = a'.s.begun)
theorem gc_or (q : CL) : q.gc = 2 \/ q.gc = 3 := by
  unfold CL.gc; split <;> simp
theorem lc_or (q : CL) : q.lc = 2 \/ q.lc = 3 := by
  unfold CL.lc; split <;> simp
theorem TH.mono {c : SP} {v v' : Nat -> Int} {a a' : SA} {X : Nat} {h : Int} (t : TH v c.B a X h) (g : (v' (c.B X) = v (c.B X) /\ a'.tg X = a.tg X /\ a'.ch X = a.ch X) \/ (v (c.B X) / 65536 < a'.tg X /\ a.tg X <= a'.tg X /\ v' (c.B X) / 65536 = a'.tg X)) :
    TH v' c.B a' X h := by
  refine ⟨t.p, ?_⟩
  rcases g with ⟨g1, g2, -⟩ | ⟨g1, g2, -⟩
  · rw [g1, g2]; exact t.o
  · rcases t.o with e | e
    · rw [e]; exact .inr g1
    · exact .inr (by omega)
theorem TS.mono {c : SP} {v v' : Nat -> Int} {a a' : SA} {len len' : Int} {i j : Nat} {x : SC} (L : Lv c v v' a a' len len' i j x) (t : TS c v a len j x) : TS c v' a' len' j x := by
  have ck : ∀ {q : CL} {b : Bool}, icS x = 1 -> CK c a j q b -> CK c a' j q b := fun hx t => ⟨t.kk, by rw [L.when]; exact Int.le_trans t.ww L.begun, t.ii, fun h1 h2 => absurd ⟨h1, h2⟩ (L.al hx)⟩
  have hl := L.len
  cases x with
  | fin k => exact t
  | raw l k => exact t
  | g0 q f => exact ⟨ck rfl t.1, by have := t.2; omega⟩
  | g1 q f h =>
    obtain ⟨t1, t2, t3, t4⟩ := t
    exact ⟨ck rfl t1, by omega, t3.mono (L.tg _ (gc_or q)), t4⟩
  | g2 q f h m =>
    obtain ⟨t1, t2, t3, t4, t5⟩ := t
    refine ⟨ck rfl t1, by omega, t3.mono (L.tg _ (gc_or q)), t4, fun e => ?_⟩
    rcases L.tg _ (gc_or q) with ⟨g1, g2, g3⟩ | ⟨g1, g2, g3⟩
    · rw [g3]; exact t5 (by rw [e, g1])
    · exfalso
      rw [<- e] at g3
      rcases t3.o with e' | e'
      · rw [e'] at g3; omega
      · omega
  | vl q x y =>
    obtain ⟨t1, t2⟩ := t
    exact ⟨ck rfl t1, fun h => by rw [(L.own x rfl).2]; exact t2 h⟩
  | l0 q x y f =>
    obtain ⟨t1, t2, t3⟩ := t
    exact ⟨ck rfl t1, by omega, fun h => by rw [(L.own x rfl).2]; exact t3 h⟩
  | l1 q x y f h =>
    obtain ⟨t1, t2, t3, t4⟩ := t
    exact ⟨ck rfl t1, by omega, fun h => by rw [(L.own x rfl).2]; exact t3 h, t4.mono (L.tg _ (lc_or q))⟩
  | l2 q x y f h =>
    obtain ⟨t1, t2, t3, t4, t5⟩ := t
    exact ⟨ck rfl t1, by omega, fun h => by rw [(L.own x rfl).2]; exact t3 h, t4.mono (L.tg _ (lc_or q)), by rw [(L.own x rfl).1]; exact t5⟩
end
section
open Go Go.TJ Go.Conc Go.Proofs
theorem fmT_inj {A : Type} {f : Nat -> Option A} {y : A} {i j : Nat} : ∀ {n : Nat}, (fmT f n).Nodup -> f i = some y -> f j = some y -> i < n -> j < n -> i = j
  | 0, _, _, _, h, _ => by omega
  | n + 1, nd, hi, hj, h1, h2 => by
    rw [fmT_succ] at nd
    obtain ⟨n1, n2, n3⟩ := List.nodup_append.1 nd
    by_cases e1 : i = n
    · by_cases e2 : j = n
      · omega
      · subst e1
        exact absurd rfl (n3 y (fmT_mem.2 ⟨j, by omega, hj⟩) y (by rw [hi]; simp))
    · by_cases e2 : j = n
      · subst e2
        exact absurd rfl (n3 y (fmT_mem.2 ⟨i, by omega, hi⟩) y (by rw [hj]; simp))
      · exact fmT_inj n1 hi hj (by omega) (by omega)
theorem fmT_ut {A : Type} {f : Nat -> SC -> Option A} {k : Nat -> SC} {i n : Nat} {x : SC} (h : f i x = f i (k i)) : fmT (fun j => f j (ut k i x j)) n = fmT (fun j => f j (k j)) n := by
  refine fmT_congr fun j _ => ?_
  by_cases e : j = i
  · subst e; rw [ut_same]; exact h
  · rw [ut_ne _ _ e]
theorem sumT_ut {f : SC -> Int} {k : Nat -> SC} {i n : Nat} {x : SC} (hi : i < n) : sumT (fun j => f (ut k i x j)) n = sumT (fun j => f (k j)) n - f (k i) + f x := by
  have := sumT_set (f := fun j => f (k j)) (f' := fun j => f (ut k i x j)) hi fun j _ hne => by rw [ut_ne _ _ hne]
  rw [ut_same] at this
  exact this
section
variable {c : SP} {l : List Ev} {g : List (Nat × SE)} {S : Nat -> Pr SE} {v v' : Nat -> Int} {a : SA} {k : Nat -> SC} {i : Nat}
theorem bs_nn : ∀ x : SC, 0 <= bsS x /\ 0 <= rsS x /\ 0 <= ylS x /\ ylS x <= 1 /\ 0 <= slS v c.B x /\ slS v c.B x <= 1 := by
  have yc : ∀ q b, 0 <= ylC q b /\ ylC q b <= 1 := fun q b => by unfold ylC; split <;> omega
  have sc : ∀ X h, 0 <= stC v c.B X h /\ stC v c.B X h <= 1 := fun X h => by unfold stC; split <;> omega
  intro x
  cases x with
  | fin q => simp only [bsS, rsS, ylS, slS]; omega
  | raw l q =>
    rcases l with - | ⟨b, l⟩
    · simp only [bsS, rsS, ylS, slS, List.length_nil]; omega
    · cases b <;> (simp only [bsS, rsS, ylS, slS]; omega)
  | g0 q _ => have := yc q true; simp only [bsS, rsS, ylS, slS]; omega
  | g1 q _ h => have := yc q true; have := sc q.gc h; simp only [bsS, rsS, ylS, slS]; omega
  | g2 q _ h _ => have := yc q true; have := sc q.gc h; simp only [bsS, rsS, ylS, slS]; omega
  | vl q _ _ => have := yc q false; simp only [bsS, rsS, ylS, slS]; omega
  | l0 q _ _ _ => have := yc q false; simp only [bsS, rsS, ylS, slS]; omega
  | l1 q _ _ _ h => have := yc q false; have := sc q.lc h; simp only [bsS, rsS, ylS, slS]; omega
  | l2 q _ _ _ h => have := yc q false; have := sc q.lc h; simp only [bsS, rsS, ylS, slS]; omega
theorem quad_nn {Y : Int} : 0 <= 16 + Y * (Y - 8) := by
  have h : 16 + Y * (Y - 8) = (Y - 4) * (Y - 4) := by
    simp only [Int.sub_mul, Int.mul_sub]
    omega
  rw [h]
  rcases Int.le_total 0 (Y - 4) with q | q
  · exact Int.mul_nonneg q q
  · rw [<- Int.neg_mul_neg]
    exact Int.mul_nonneg (by omega) (by omega)
theorem meas_nn : 0 <= meas c v k := by
  have h1 := sumT_nn (f := fun j => bsS (k j)) (n := c.T) fun j _ => (bs_nn (c := c) (v := v) (k j)).1
  have h2 := sumT_nn (f := fun j => rsS (k j)) (n := c.T) fun j _ => (bs_nn (c := c) (v := v) (k j)).2.1
  have h3 := sumT_nn (f := fun j => slS v c.B (k j)) (n := c.T) fun j _ => (bs_nn (c := c) (v := v) (k j)).2.2.2.2.1
  have h4 := quad_nn (Y := sumT (fun j => ylS (k j)) c.T)
  unfold meas
  omega
theorem SInv.short (ok : c.Ok) (I : SInv c l g S v a k) : (l.length : Int) <= 15424 := by
  have h1 := I.meas
  have h2 := meas_nn (c := c) (v := v) (k := k)
  have h3 := ok.N
  omega
theorem SInv.cell (ok : c.Ok) (I : SInv c l g S v a k) {X : Nat} (hX : X = 2 \/ X = 3) : v (c.B X) % 65536 = hdN (a.ch X) /\ v (c.B X) / 65536 = a.tg X /\ 0 <= hdN (a.ch X) /\ hdN (a.ch X) <= c.n /\ ∀ y, y ∈ a.ch X -> 1 <= y /\ y <= c.n := by
  obtain ⟨h1, h2, h3, -⟩ := I.cel X hX
  have hmem : ∀ y, y ∈ a.ch X -> 1 <= y /\ y <= c.n := fun y hy => by
    have : y ∈ List.range' 1 c.n := (I.np.mem_iff).1 (by
      rcases hX with rfl | rfl
      · simp [hy]
      · simp [hy])
    have := List.mem_range'_1.1 this
    omega
  have hh : 0 <= hdN (a.ch X) /\ hdN (a.ch X) <= c.n := by
    cases e : a.ch X with
    | nil => exact ⟨Int.le_refl _, by show (0 : Int) <= c.n; omega⟩
    | cons x r =>
      have := hmem x (by rw [e]; exact List.mem_cons_self)
      show 0 <= (x : Int) /\ (x : Int) <= c.n
      omega
  have := ok.n2
  refine ⟨by omega, by omega, hh.1, hh.2, hmem⟩
theorem SInv.held (I : SInv c l g S v a k) (hi : i < c.T) {x : Nat} (hx : hnS (k i) = some x) : 1 <= x /\ x <= c.n /\ x ∉ a.ch 2 /\ x ∉ a.ch 3 /\ ∀ j, j ≠ i -> hnS (k j) ≠ some x := by
  have nd : (a.ch 2 ++ a.ch 3 ++ fmT (fun j => hnS (k j)) c.T).Nodup := I.np.nodup_iff.2 List.nodup_range'
  have hm : x ∈ fmT (fun j => hnS (k j)) c.T := fmT_mem.2 ⟨i, hi, hx⟩
  have hr : x ∈ List.range' 1 c.n := (I.np.mem_iff).1 (List.mem_append_right _ hm)
  have hr := List.mem_range'_1.1 hr
  obtain ⟨n1, n2, n3⟩ := List.nodup_append.1 nd
  refine ⟨by omega, by omega, fun h => n3 x (List.mem_append_left _ h) x hm rfl, fun h => n3 x (List.mem_append_right _ h) x hm rfl, fun j hj h => ?_⟩
  by_cases hjT : j < c.T
  · exact hj (fmT_inj n2 h hx hjT hi)
  · obtain ⟨q, hq⟩ := I.out j (by omega)
    rw [hq] at h; cases h
theorem SInv.quiet (I : SInv c l g S v a k) (hi : i < c.T) {x' : SC} {e : Ev} (hx : icS (k i) = 1) (hx' : icS x' = 1) (hnx : nxS x' = nxS (k i)) (hhn : hnS x' = hnS (k i)) (htv : tvS i x' = tvS i (k i)) (hyl : ylS x' = ylS (k i)) (hla : lastS x' = lastS (k i))
    (h2 : ∀ X, X = 2 \/ X = 3 -> v' (c.B X) = v (c.B X)) (hc : ∀ y, y ∈ a.ch 2 \/ y ∈ a.ch 3 -> v' (c.B (4 + 2 * y)) = v (c.B (4 + 2 * y)) /\ v' (c.B (5 + 2 * y)) = v (c.B (5 + 2 * y))) (ho : ∀ j, j ≠ i -> ∀ y, hnS (k j) = some y -> v' (c.B (4 + 2 * y)) = v (c.B (4 + 2 * y)) /\ v' (c.B (5 + 2 * y)) = v (c.B (5 + 2 * y)))
    (t : TS c v' a (l.length + 1) i x') (hm : 2 * (bsS x' - bsS (k i)) + 6 * (slS v' c.B x' - slS v c.B (k i)) + 3 * (rsS x' - rsS (k i)) + 2 <= 0) : SInv c (l ++ [e]) g (ut S i (sRes c.B c.F i x')) v' a (ut k i x') := by
  have hl : (((l ++ [e]).length : Nat) : Int) = l.length + 1 := by simp
  have hmap : (a.ch 2).map (fun x => v' (c.B (5 + 2 * x))) = (a.ch 2).map (fun x => v (c.B (5 + 2 * x))) := List.map_congr_left fun y hy => (hc y (.inl hy)).2
  refine ⟨fun j => ?_, fun j hj => ?_, I.s, fun X hX => ?_, ?_, ?_, I.nd, fun y hy => ?_, fun j => ?_, ?_, ?_, fun j h1 h3 h4 j' hj' => ?_, fun h1 => ?_, ?_, I.ok⟩
  · by_cases q : j = i
    · subst q; rw [ut_same, ut_same]
    · rw [ut_ne _ _ q, ut_ne _ _ q]; exact I.res j
  · rw [ut_ne _ _ (by omega)]; exact I.out j hj
  · obtain ⟨c1, c2, c3, c4⟩ := I.cel X hX
    refine ⟨by rw [h2 X hX]; exact c1, c2, by omega, c4.congr fun y hy => (hc y ?_).1⟩
    rcases hX with rfl | rfl
    · exact .inl hy
    · exact .inr hy
  · rw [fmT_ut (f := fun _ => hnS) hhn]; exact I.np
  · rw [fmT_ut (f := tvS) htv, hmap]; exact I.vp
  · obtain ⟨j, q, e1, e2⟩ := I.old y hy
    refine ⟨j, q, e1, ?_⟩
    by_cases e3 : j = i
    · subst e3; rw [ut_same, hnx]; exact e2
    · rw [ut_ne _ _ e3]; exact e2
  · rw [hl]
    by_cases q : j = i
    · subst q; rw [ut_same]; exact t
    · rw [ut_ne _ _ q]
      refine (I.T j).mono (i := i) ⟨by omega, rfl, rfl, rfl, Int.le_refl _, fun X hX => .inl ⟨h2 X hX, rfl, rfl⟩, ho j q, fun h3 ⟨h4, h5⟩ => ?_⟩
      have := I.al j h3 h4 h5 i (Ne.symm q)
      omega
  · rw [sumT_ut (f := icS) hi, hx, hx', I.busy]; omega
  · rw [sumT_ut (f := fun x => (nxS x : Int)) hi, hnx, I.bg]; omega
  · have same : ∀ j, icS (ut k i x' j) = icS (k j) := fun j => by
      by_cases q : j = i
      · subst q; rw [ut_same, hx, hx']
      · rw [ut_ne _ _ q]
    rw [same] at h1 ⊢
    exact I.al j h1 h3 h4 j' hj'
  · have : lastS (ut k i x' 0) = lastS (k 0) := by
      by_cases q : 0 = i
      · subst q; rw [ut_same, hla]
      · rw [ut_ne _ _ q]
    rw [this, hmap]
    exact I.lone h1
  · have hI := I.meas
    have e1 := sumT_ut (f := bsS) (k := k) (x := x') hi
    have e2 := sumT_ut (f := rsS) (k := k) (x := x') hi
    have e3 := sumT_ut (f := ylS) (k := k) (x := x') hi
    have e4 : sumT (fun j => slS v' c.B (ut k i x' j)) c.T = sumT (fun j => slS v c.B (k j)) c.T - slS v c.B (k i) + slS v' c.B x' := by
      have := sumT_set (f := fun j => slS v c.B (k j)) (f' := fun j => slS v' c.B (ut k i x' j)) hi fun j _ hne => by
        rw [ut_ne _ _ hne]
        have hs : ∀ X h, X = 2 \/ X = 3 -> stC v' c.B X h = stC v c.B X h := fun X h hX => by unfold stC; rw [h2 X hX]
        cases k j with
        | g1 q f h => exact hs _ _ (gc_or q)
        | g2 q f h m => exact hs _ _ (gc_or q)
        | l1 q x y f h => exact hs _ _ (lc_or q)
        | l2 q x y f h => exact hs _ _ (lc_or q)
        | _ => rfl
      rw [ut_same] at this
      exact this
    rw [hyl] at e3
    unfold Go.Proofs.Ythkpbenhchkkoaa.meas at hI ⊢
    rw [e1, e2, e4, show sumT (fun j => ylS (ut k i x' j)) c.T = sumT (fun j => ylS (k j)) c.T by omega, hl]
    omega
end
end
section
open Go Go.TJ Go.Conc Go.Proofs
theorem bh1 {w x y : Int} : (behind 1 w x y).1 = w := rfl
theorem bh2 {w x y : Int} : (behind 2 w x y).1 = x := rfl
theorem bh3 {w x y : Int} : (behind 3 w x y).1 = if w = x then y else w := by
  unfold behind
  by_cases h : w = x <;> simp [h]
section
variable {c : SP} {l : List Ev} {g : List (Nat × SE)} {S : Nat -> Pr SE} {v v' : Nat -> Int} {a : SA} {k : Nat -> SC} {i : Nat}
theorem norm_lay {B : Nat -> Nat} {X x F : Nat} {p : Pr SE} : norm (layP B X x p F) = ([], layP B X x p F) := by
  cases F <;> rfl
theorem norm_sRes {x : SC} (h : icS x = 1) : norm (sRes c.B c.F i x) = ([], sRes c.B c.F i x) := by
  cases x with
  | fin => cases h
  | raw => cases h
  | g0 q f => exact norm_get
  | vl q x y =>
    show norm (kV c.B c.F i q x) = ([], kV c.B c.F i q x)
    unfold kV
    split <;> rfl
  | l0 q x y f => exact norm_lay
  | _ => rfl
def Onw (c : SP) (l : List Ev) (g : List (Nat × SE)) (S : Nat -> Pr SE) (v : Nat -> Int) (i : Nat) (r : Rq) (kk : Int -> Pr SE) : Prop :=
  ∃ a' k', SInv c (l ++ [evOf i r (v r.b)]) (g ++ (norm (kk (v r.b))).1.map fun e => (i, e)) (ut S i (norm (kk (v r.b))).2) (ut v r.b (behind r.op (v r.b) r.arg r.new).1) a' k'
theorem Onw.of {r : Rq} {kk : Int -> Pr SE} {x' : SC} (hx' : icS x' = 1) (hp : kk (v r.b) = sRes c.B c.F i x') (hv : ut v r.b (behind r.op (v r.b) r.arg r.new).1 = v') {a' : SA} {k' : Nat -> SC} (I : SInv c (l ++ [evOf i r (v r.b)]) g (ut S i (sRes c.B c.F i x')) v' a' k') : Onw c l g S v i r kk := by
  refine ⟨a', k', ?_⟩
  rw [hp, norm_sRes hx', hv]
  simpa using I
theorem SInv.quiet1 (I : SInv c l g S v a k) (hi : i < c.T) {x' : SC} {r : Rq} {kk : Int -> Pr SE} (hr : ut v r.b (behind r.op (v r.b) r.arg r.new).1 = v) (hp : kk (v r.b) = sRes c.B c.F i x') (hx : icS (k i) = 1) (hx' : icS x' = 1) (hnx : nxS x' = nxS (k i)) (hhn : hnS x' = hnS (k i)) (htv : tvS i x' = tvS i (k i)) (hyl : ylS x' = ylS (k i)) (hla : lastS x' = lastS (k i))
    (t : TS c v a (l.length + 1) i x') (hm : 2 * (bsS x' - bsS (k i)) + 6 * (slS v c.B x' - slS v c.B (k i)) + 3 * (rsS x' - rsS (k i)) + 2 <= 0) : Onw c l g S v i r kk :=
  Onw.of hx' hp hr (I.quiet hi hx hx' hnx hhn htv hyl hla (fun _ _ => rfl) (fun _ _ => ⟨rfl, rfl⟩) (fun _ _ _ _ => ⟨rfl, rfl⟩) t hm)
theorem CK.up {q : CL} {b : Bool} (t : CK c a i q b) : CK c a i q b := t
theorem step_g1 (ok : c.Ok) (I : SInv c l g S v a k) {q : CL} {f : Nat} {h : Int} (hk : k i = .g1 q f h) {r : Rq} {kk : Int -> Pr SE} (hS : S i = .step r kk) : Onw c l g S v i r kk := by
  have t := I.T i
  rw [hk] at t
  obtain ⟨t1, t2, t3, t4⟩ := t
  have hR := I.res i
  rw [hS, hk] at hR
  injection hR with h1 h2
  subst h1 h2
  refine I.quiet1 t1.ii (x' := .g2 q f h (v (c.B (4 + 2 * (h % 65536).toNat)))) (by rw [bh1, ut_self]) rfl (by rw [hk]; rfl) rfl (by rw [hk]; rfl) (by rw [hk]; rfl) (by rw [hk]; rfl) (by rw [hk]; rfl) (by rw [hk]; rfl) ⟨t1, by omega, t3, t4, fun e x r' hx => ?_⟩ (by rw [hk]; simp only [bsS, rsS, slS]; omega)
  obtain ⟨c1, c2, c3, c4, c5⟩ := I.cell ok (gc_or q)
  obtain ⟨-, -, -, d⟩ := I.cel _ (gc_or q)
  rw [hx] at c1 d
  have e1 : (h % 65536).toNat = x := by
    rw [e, c1]
    show ((x : Int)).toNat = x
    omega
  rw [e1]
  exact d.1
theorem step_l1 (I : SInv c l g S v a k) (ok : c.Ok) {q : CL} {x f : Nat} {y h : Int} (hk : k i = .l1 q x y f h) {r : Rq} {kk : Int -> Pr SE} (hS : S i = .step r kk) : Onw c l g S v i r kk := by
  have t := I.T i
  rw [hk] at t
  obtain ⟨t1, t2, t3, t4⟩ := t
  have hR := I.res i
  rw [hS, hk] at hR
  injection hR with h1 h2
  subst h1 h2
  obtain ⟨x1, x2, x3, x4, x5⟩ := I.held t1.ii (x := x) (by rw [hk]; rfl)
  have ne : ∀ y, y ≠ x -> ut v (c.B (4 + 2 * x)) (h % 65536) (c.B (4 + 2 * y)) = v (c.B (4 + 2 * y)) /\ ut v (c.B (4 + 2 * x)) (h % 65536) (c.B (5 + 2 * y)) = v (c.B (5 + 2 * y)) := fun y hy => ⟨ut_ne _ _ fun e => by have := ok.inj _ _ e; omega, ut_ne _ _ fun e => by have := ok.inj _ _ e; omega⟩
  have two : ∀ X, X = 2 \/ X = 3 -> ut v (c.B (4 + 2 * x)) (h % 65536) (c.B X) = v (c.B X) := fun X hX => ut_ne _ _ fun e => by have := ok.inj _ _ e; omega
  have n5 : ut v (c.B (4 + 2 * x)) (h % 65536) (c.B (5 + 2 * x)) = v (c.B (5 + 2 * x)) := ut_ne _ _ fun e => by have := ok.inj _ _ e; omega
  refine Onw.of (x' := .l2 q x y f h) rfl rfl rfl (I.quiet t1.ii (by rw [hk]; rfl) rfl (by rw [hk]; rfl) (by rw [hk]; rfl) (by rw [hk]; rfl) (by rw [hk]; rfl) (by rw [hk]; rfl) two (fun y hy => ne y ?_) (fun j hj y hy => ne y ?_) ⟨t1, by omega, fun hp => ?_, t4.mono (.inl ⟨two _ (lc_or q), rfl, rfl⟩), ut_same _ _ _⟩ ?_)
  · rintro rfl
    exact hy.elim x3 x4
  · rintro rfl
    exact x5 j hj hy
  · show ut v (c.B (4 + 2 * x)) (h % 65536) (c.B (5 + 2 * x)) = _
    rw [n5]; exact t3 hp
  · rw [hk]
    simp only [bsS, rsS, slS]
    have : stC (ut v (c.B (4 + 2 * x)) (behind 2 (v (c.B (4 + 2 * x))) (h % 65536) 0).1) c.B q.lc h = stC v c.B q.lc h := by
      unfold stC
      rw [bh2, two _ (lc_or q)]
    rw [this]
    omega
theorem step_vl (ok : c.Ok) (I : SInv c l g S v a k) {q : CL} {x : Nat} {y : Int} (hk : k i = .vl q x y) {r : Rq} {kk : Int -> Pr SE} (hS : S i = .step r kk) : Onw c l g S v i r kk := by
  have t := I.T i
  rw [hk] at t
  obtain ⟨t1, t2⟩ := t
  have hR := I.res i
  rw [hS, hk] at hR
  change _ = kV c.B c.F i q x at hR
  unfold kV at hR
  have hF := ok.F
  obtain ⟨x1, x2, x3, x4, x5⟩ := I.held t1.ii (x := x) (by rw [hk]; rfl)
  by_cases hp : q.push = true
  · rw [if_pos hp] at hR
    injection hR with h1 h2
    subst h1 h2
    have ne : ∀ y, y ≠ x -> ut v (c.B (5 + 2 * x)) (valN i q.k) (c.B (4 + 2 * y)) = v (c.B (4 + 2 * y)) /\ ut v (c.B (5 + 2 * x)) (valN i q.k) (c.B (5 + 2 * y)) = v (c.B (5 + 2 * y)) := fun y hy => ⟨ut_ne _ _ fun e => by have := ok.inj _ _ e; omega, ut_ne _ _ fun e => by have := ok.inj _ _ e; omega⟩
    have two : ∀ X, X = 2 \/ X = 3 -> ut v (c.B (5 + 2 * x)) (valN i q.k) (c.B X) = v (c.B X) := fun X hX => ut_ne _ _ fun e => by have := ok.inj _ _ e; omega
    refine Onw.of (x' := .l0 q x y c.F) rfl ?_ rfl (I.quiet t1.ii (by rw [hk]; rfl) rfl (by rw [hk]; rfl) (by rw [hk]; rfl) (by rw [hk]; rfl) (by rw [hk]; rfl) (by rw [hk]; rfl) two (fun y hy => ne y ?_) (fun j hj y hy => ne y ?_) ⟨t1, by omega, fun _ => ut_same _ _ _⟩ ?_)
    · show layP c.B 2 x (kE c.B c.F i q 0) c.F = layP c.B q.lc x (kL c.B c.F i q y) c.F
      unfold CL.lc kL
      rw [if_pos hp, if_pos hp]
    · rintro rfl
      exact hy.elim x3 x4
    · rintro rfl
      exact x5 j hj hy
    · rw [hk]
      simp only [bsS, rsS, slS]
      omega
  · rw [if_neg hp] at hR
    injection hR with h1 h2
    subst h1 h2
    have hp' : q.push = false := by simpa using hp
    have ey := t2 hp'
    refine I.quiet1 t1.ii (x' := .l0 q x y c.F) (by rw [bh1, ut_self]) ?_ (by rw [hk]; rfl) rfl (by rw [hk]; rfl) (by rw [hk]; rfl) (by rw [hk]; rfl) (by rw [hk]; rfl) (by rw [hk]; rfl) ⟨t1, by omega, fun h => absurd h hp⟩ (by rw [hk]; simp only [bsS, rsS, slS]; omega)
    show layP c.B 3 x (kP c.B c.F i q (v (c.B (5 + 2 * x))) true) c.F = layP c.B q.lc x (kL c.B c.F i q y) c.F
    unfold CL.lc kL
    rw [if_neg hp, if_neg hp, <- ey]
theorem step_l0 (ok : c.Ok) (I : SInv c l g S v a k) {q : CL} {x f : Nat} {y : Int} (hk : k i = .l0 q x y f) {r : Rq} {kk : Int -> Pr SE} (hS : S i = .step r kk) : Onw c l g S v i r kk := by
  have t := I.T i
  rw [hk] at t
  obtain ⟨t1, t2, t3⟩ := t
  have hsh := I.short ok
  have hF := ok.F
  obtain ⟨f', rfl⟩ : ∃ f', f = f' + 1 := ⟨f - 1, by omega⟩
  have hR := I.res i
  rw [hS, hk] at hR
  change _ = layP c.B q.lc x (kL c.B c.F i q y) (f' + 1) at hR
  unfold layP at hR
  injection hR with h1 h2
  subst h1 h2
  obtain ⟨c1, c2, c3, c4, c5⟩ := I.cell ok (lc_or q)
  obtain ⟨d1, d2, -, -⟩ := I.cel _ (lc_or q)
  refine I.quiet1 t1.ii (x' := .l1 q x y f' (v (c.B q.lc))) (by rw [bh1, ut_self]) rfl (by rw [hk]; rfl) rfl (by rw [hk]; rfl) (by rw [hk]; rfl) (by rw [hk]; rfl) (by rw [hk]; rfl) (by rw [hk]; rfl) ⟨t1, by omega, t3, by omega, .inl rfl⟩ ?_
  rw [hk]
  simp only [bsS, rsS, slS, stC]
  rw [if_pos trivial]
  omega
theorem step_g0 (ok : c.Ok) (I : SInv c l g S v a k) {q : CL} {f : Nat} (hk : k i = .g0 q f) (hne : a.ch q.gc ≠ []) {r : Rq} {kk : Int -> Pr SE} (hS : S i = .step r kk) : Onw c l g S v i r kk := by
  have t := I.T i
  rw [hk] at t
  obtain ⟨t1, t2⟩ := t
  have hsh := I.short ok
  have hF := ok.F
  obtain ⟨f', rfl⟩ : ∃ f', f = f' + 1 := ⟨f - 1, by omega⟩
  have hR := I.res i
  rw [hS, hk] at hR
  change _ = getP c.B q.gc (kG c.B c.F i q) (f' + 1) at hR
  unfold getP at hR
  injection hR with h1 h2
  subst h1 h2
  obtain ⟨c1, c2, c3, c4, c5⟩ := I.cell ok (gc_or q)
  obtain ⟨d1, d2, -, -⟩ := I.cel _ (gc_or q)
  have hz : v (c.B q.gc) % 65536 ≠ 0 := by
    rw [c1]
    cases e : a.ch q.gc with
    | nil => exact absurd e hne
    | cons x r =>
      have := c5 x (by rw [e]; exact List.mem_cons_self)
      show (x : Int) ≠ 0
      omega
  refine I.quiet1 t1.ii (x' := .g1 q f' (v (c.B q.gc))) (by rw [bh1, ut_self]) ?_ (by rw [hk]; rfl) rfl (by rw [hk]; rfl) (by rw [hk]; rfl) (by rw [hk]; rfl) (by rw [hk]; rfl) (by rw [hk]; rfl) ⟨t1, by omega, ⟨by omega, .inl rfl⟩, hz⟩ ?_
  · dsimp only
    rw [if_neg hz]
    rfl
  · rw [hk]
    simp only [bsS, rsS, slS, stC]
    rw [if_pos trivial]
    omega
theorem step_g2f (I : SInv c l g S v a k) {q : CL} {f : Nat} {h m : Int} (hk : k i = .g2 q f h m) (hne : v (c.B q.gc) ≠ h) {r : Rq} {kk : Int -> Pr SE} (hS : S i = .step r kk) : Onw c l g S v i r kk := by
  have t := I.T i
  rw [hk] at t
  obtain ⟨t1, t2, t3, t4, t5⟩ := t
  have hR := I.res i
  rw [hS, hk] at hR
  injection hR with h1 h2
  subst h1 h2
  refine I.quiet1 t1.ii (x' := .g0 q f) ?_ ?_ (by rw [hk]; rfl) rfl (by rw [hk]; rfl) (by rw [hk]; rfl) (by rw [hk]; rfl) (by rw [hk]; rfl) (by rw [hk]; rfl) ⟨t1, by omega⟩ ?_
  · dsimp only
    rw [bh3, if_neg hne, ut_self]
  · dsimp only
    rw [if_neg hne]
    rfl
  · rw [hk]
    simp only [bsS, rsS, slS, stC]
    rw [if_neg hne]
    omega
theorem step_l2f (I : SInv c l g S v a k) {q : CL} {x f : Nat} {y h : Int} (hk : k i = .l2 q x y f h) (hne : v (c.B q.lc) ≠ h) {r : Rq} {kk : Int -> Pr SE} (hS : S i = .step r kk) : Onw c l g S v i r kk := by
  have t := I.T i
  rw [hk] at t
  obtain ⟨t1, t2, t3, t4, t5⟩ := t
  have hR := I.res i
  rw [hS, hk] at hR
  injection hR with h1 h2
  subst h1 h2
  refine I.quiet1 t1.ii (x' := .l0 q x y f) ?_ ?_ (by rw [hk]; rfl) rfl (by rw [hk]; rfl) (by rw [hk]; rfl) (by rw [hk]; rfl) (by rw [hk]; rfl) (by rw [hk]; rfl) ⟨t1, by omega, t3⟩ ?_
  · dsimp only
    rw [bh3, if_neg hne, ut_self]
  · dsimp only
    rw [if_neg hne]
    rfl
  · rw [hk]
    simp only [bsS, rsS, slS, stC]
    rw [if_neg hne]
    omega
end
end
section
open Go Go.TJ Go.Conc Go.Proofs
section
variable {c : SP} {l : List Ev} {g : List (Nat × SE)} {S : Nat -> Pr SE} {v v' : Nat -> Int} {a : SA} {k : Nat -> SC} {i : Nat}
theorem TS.ww {len : Int} {j : Nat} {x : SC} (t : TS c v a len j x) (h : icS x = 1) : a.s.when j <= a.s.begun := by
  cases x with
  | fin => cases h
  | raw => cases h
  | g0 => exact t.1.ww
  | g1 => exact t.1.ww
  | g2 => exact t.1.ww
  | vl => exact t.1.ww
  | l0 => exact t.1.ww
  | l1 => exact t.1.ww
  | l2 => exact t.1.ww
theorem ic_or (x : SC) : icS x = 0 \/ icS x = 1 := by
  cases x <;> simp [icS]
theorem tv_none {j : Nat} {x : SC} (h : icS x = 0) : tvS j x = none /\ hnS x = none /\ lastS x = [] := by
  cases x with
  | fin => exact ⟨rfl, rfl, rfl⟩
  | raw => exact ⟨rfl, rfl, rfl⟩
  | _ => cases h
theorem fmT_none {A : Type} {f : Nat -> Option A} : ∀ {n : Nat}, (∀ j, j < n -> f j = none) -> fmT f n = []
  | 0, _ => rfl
  | n + 1, h => by rw [fmT_succ, fmT_none (n := n) fun j hj => h j (by omega), h n (by omega)]; rfl
theorem idle_all (I : SInv c l g S v a k) (hb : a.s.busy = 0) (j : Nat) : icS (k j) = 0 := by
  by_cases hj : j < c.T
  · have h1 := sumT_one (f := fun j => icS (k j)) hj fun j _ => by rcases ic_or (k j) with e | e <;> omega
    have h2 := I.busy
    rcases ic_or (k j) with e | e <;> omega
  · obtain ⟨q, hq⟩ := I.out j (by omega)
    rw [hq]; rfl
theorem SInv.begin' (I : SInv c l g S v a k) {b : Bool} {l' : List Bool} {q : Nat} (hk : k i = .raw (b :: l') q) {th : List Int} {ev : SE} (hs : { a.s.begin i with there := th } = sfold (g ++ [(i, ev)])) (vp : th.Perm ((a.ch 2).map (fun x => v (c.B (5 + 2 * x))) ++ fmT (fun j => tvS j (ut k i (.g0 ⟨l', q, b⟩ c.F) j)) c.T)) (nd : th.Nodup)
    (old : ∀ y, y ∈ th -> ∃ j q' : Nat, y = valN j q' /\ q' < nxS (ut k i (.g0 ⟨l', q, b⟩ c.F) j)) (hok : sok c.n c.lone (sfold g) (i, ev)) :
    SInv c l (g ++ [(i, ev)]) (ut S i (sRes c.B c.F i (.g0 ⟨l', q, b⟩ c.F))) v { a with s := { a.s.begin i with there := th } } (ut k i (.g0 ⟨l', q, b⟩ c.F)) := by
  have t := I.T i
  rw [hk] at t
  obtain ⟨-, t2, hi⟩ := t
  simp only [List.length_cons] at t2
  have ick : icS (k i) = 0 := by rw [hk]; rfl
  have bz : a.s.alone i = a.s.alone i -> decide (a.s.busy + 1 = 1) = true -> a.s.busy = 0 := fun _ h => by have := of_decide_eq_true h; omega
  refine ⟨fun j => ?_, fun j hj => ?_, hs, I.cel, ?_, vp, nd, old, fun j => ?_, ?_, ?_, fun j h1 h2 h3 j' hj' => ?_, fun h1 => ?_, ?_, sokl_snoc I.ok hok⟩
  · by_cases e : j = i
    · subst e; rw [ut_same, ut_same]
    · rw [ut_ne _ _ e, ut_ne _ _ e]; exact I.res j
  · rw [ut_ne _ _ (by omega)]; exact I.out j hj
  · have := fmT_ut (f := fun _ => hnS) (k := k) (i := i) (n := c.T) (x := .g0 ⟨l', q, b⟩ c.F) (by rw [hk]; rfl)
    rw [this]; exact I.np
  · by_cases e : j = i
    · subst e
      rw [ut_same]
      refine ⟨⟨by show q + 1 + l'.length <= 400; omega, ?_, hi, fun h1 h2 => ?_⟩, by show (c.F : Int) <= c.F + _; omega⟩
      · show ut a.s.when j (a.s.begun + 1) j <= a.s.begun + 1
        rw [ut_same]; exact Int.le_refl _
      · show ut a.s.was j a.s.there.length j = (a.ch 2).length
        rw [ut_same]
        have h1' : ut a.s.alone j (decide (a.s.busy + 1 = 1)) j = true := h1
        rw [ut_same] at h1'
        have hb := bz rfl h1'
        have hl := I.vp.length_eq
        rw [List.length_append, List.length_map, fmT_none fun j' _ => (tv_none (idle_all I hb j')).1] at hl
        rw [hl]; simp
    · rw [ut_ne _ _ e]
      refine (I.T j).mono (i := i) ⟨Int.le_refl _, ut_ne _ _ e, ut_ne _ _ e, ut_ne _ _ e, ?_, fun X _ => .inl ⟨rfl, rfl, rfl⟩, fun _ _ => ⟨rfl, rfl⟩, fun h1 ⟨h2, h3⟩ => ?_⟩
      · show a.s.begun <= a.s.begun + 1; omega
      · have h3' : ut a.s.when i (a.s.begun + 1) j = a.s.begun + 1 := h3
        rw [ut_ne _ _ e] at h3'
        have := (I.T j).ww h1
        omega
  · show a.s.busy + 1 = _
    rw [sumT_ut (f := icS) hi, ick, I.busy]
    show _ = _ - 0 + 1
    omega
  · show a.s.begun + 1 = _
    rw [sumT_ut (f := fun x => (nxS x : Int)) hi, hk, I.bg]
    show _ = _ - (q : Int) + ((q + 1 : Nat) : Int)
    omega
  · have h2' : ut a.s.alone i (decide (a.s.busy + 1 = 1)) j = true := h2
    have h3' : ut a.s.when i (a.s.begun + 1) j = a.s.begun + 1 := h3
    by_cases e : j = i
    · subst e
      rw [ut_same] at h2'
      rw [ut_ne _ _ hj']
      exact idle_all I (bz rfl h2') j'
    · rw [ut_ne _ _ e] at h1 h3'
      have := (I.T j).ww h1
      omega
  · have e : lastS (ut k i (.g0 ⟨l', q, b⟩ c.F) 0) = lastS (k 0) := by
      by_cases e : 0 = i
      · subst e; rw [ut_same, hk]; rfl
      · rw [ut_ne _ _ e]
    rw [e]; exact I.lone h1
  · have hI := I.meas
    have e1 := sumT_ut (f := bsS) (k := k) (x := .g0 ⟨l', q, b⟩ c.F) hi
    have e2 := sumT_ut (f := rsS) (k := k) (x := .g0 ⟨l', q, b⟩ c.F) hi
    have e3 := sumT_ut (f := ylS) (k := k) (x := .g0 ⟨l', q, b⟩ c.F) hi
    have e4 := sumT_ut (f := slS v c.B) (k := k) (x := .g0 ⟨l', q, b⟩ c.F) hi
    rw [hk] at e1 e2 e3 e4
    have y : ylS (.raw (b :: l') q) = ylS (.g0 ⟨l', q, b⟩ c.F) := by cases b <;> rfl
    rw [y] at e3
    have b1 : bsS (.g0 ⟨l', q, b⟩ c.F) = bsS (.raw (b :: l') q) := by simp only [bsS, List.length_cons]; omega
    have b2 : rsS (.g0 ⟨l', q, b⟩ c.F) = rsS (.raw (b :: l') q) := by simp only [rsS, List.length_cons]; omega
    have b4 : slS v c.B (.g0 ⟨l', q, b⟩ c.F) = slS v c.B (.raw (b :: l') q) := rfl
    rw [b1] at e1
    rw [b2] at e2
    rw [b4] at e4
    unfold Go.Proofs.Ythkpbenhchkkoaa.meas at hI ⊢
    rw [show sumT (fun j => ylS (ut k i (.g0 ⟨l', q, b⟩ c.F) j)) c.T = sumT (fun j => ylS (k j)) c.T by omega]
    omega
def xE (l : List Bool) (q : Nat) : SC := match l with | [] => .fin q | b :: l' => .raw (b :: l') q
theorem sRes_xE {l : List Bool} {q : Nat} : sRes c.B c.F i (xE l q) = stP c.B c.F i l q := by
  cases l <;> rfl
theorem SInv.goon {l' : List Bool} {q : Nat} (I : SInv c l g (ut S i (stP c.B c.F i l' q)) v a (ut k i (xE l' q))) : ∃ a' k', SInv c l (g ++ (stell i l' q).map fun e => (i, e)) (ut S i (sRes c.B c.F i (snext c.F l' q))) v a' k' := by
  rcases l' with - | ⟨b, l'⟩
  · refine ⟨a, ut k i (xE [] q), ?_⟩
    rw [show (stell i ([] : List Bool) q).map (fun e => (i, e)) = [] from rfl, List.append_nil]
    exact I
  · have hk : ut k i (xE (b :: l') q) i = .raw (b :: l') q := ut_same _ _ _
    have t := I.T i
    rw [hk] at t
    obtain ⟨-, t2, hi⟩ := t
    simp only [List.length_cons] at t2
    have hu : ∀ p, ut (ut S i (stP c.B c.F i (b :: l') q)) i p = ut S i p := fun p => ut_ut _ _ _ _
    generalize hkk : ut k i (xE (b :: l') q) = kk at I hk
    cases b with
    | true =>
      have nw : valN i q ∉ a.s.there := fun hm => by
        obtain ⟨j, q', e1, e2⟩ := I.old _ hm
        have hnx : ∀ x, TS c v a l.length j x -> nxS x <= 400 := fun x t => by
          cases x with
          | fin k => exact t
          | raw l k => have := t.2.1; show k <= 400; omega
          | g0 p f => have := t.1.kk; show p.k + 1 <= 400; omega
          | g1 p f h => have := t.1.kk; show p.k + 1 <= 400; omega
          | g2 p f h m => have := t.1.kk; show p.k + 1 <= 400; omega
          | vl p x y => have := t.1.kk; show p.k + 1 <= 400; omega
          | l0 p x y f => have := t.1.kk; show p.k + 1 <= 400; omega
          | l1 p x y f h => have := t.1.kk; show p.k + 1 <= 400; omega
          | l2 p x y f h => have := t.1.kk; show p.k + 1 <= 400; omega
        have := hnx _ (I.T j)
        unfold valN at e1
        have ej : j = i := by omega
        subst ej
        rw [hk] at e2
        have e2' : q' < q := e2
        omega
      have r := I.begin' hk (th := a.s.there ++ [valN i q]) (ev := .bpush (valN i q)) (by rw [sfold_snoc, <- I.s]; rfl) ?_ (List.nodup_append.2 ⟨I.nd, by simp, fun x hx y hy => by rw [List.mem_singleton.1 hy]; exact fun e => nw (e ▸ hx)⟩) (fun y hy => ?_) (by rw [<- I.s]; exact nw)
      · rw [hu] at r
        exact ⟨_, _, r⟩
      · have p1 := fmT_add (f := fun j => tvS j (kk j)) (f' := fun j => tvS j (ut kk i (.g0 ⟨l', q, true⟩ c.F) j)) (n := c.T) (y := valN i q) hi (by rw [hk]; rfl) (by rw [ut_same]; rfl) fun j _ hne => by rw [ut_ne _ _ hne]
        refine (List.perm_append_comm).trans ?_
        refine ((I.vp.cons (valN i q))).trans ?_
        refine List.perm_middle.symm.trans ?_
        exact p1.symm.append_left _
      · rcases List.mem_append.1 hy with h | h
        · obtain ⟨j, q', e1, e2⟩ := I.old _ h
          refine ⟨j, q', e1, ?_⟩
          by_cases e : j = i
          · subst e
            rw [hk] at e2
            rw [ut_same]
            have e2' : q' < q := e2
            show q' < q + 1
            omega
          · rw [ut_ne _ _ e]; exact e2
        · refine ⟨i, q, List.mem_singleton.1 h, ?_⟩
          rw [ut_same]; show q < q + 1; omega
    | false =>
      have r := I.begin' hk (th := a.s.there) (ev := .bpop) (by rw [sfold_snoc, <- I.s]; rfl) (by rw [fmT_ut (f := tvS) (by rw [hk]; rfl)]; exact I.vp) I.nd (fun y hy => ?_) trivial
      · rw [hu] at r
        exact ⟨_, _, r⟩
      · obtain ⟨j, q', e1, e2⟩ := I.old _ hy
        refine ⟨j, q', e1, ?_⟩
        by_cases e : j = i
        · subst e
          rw [hk] at e2
          rw [ut_same]
          have e2' : q' < q := e2
          show q' < q + 1
          omega
        · rw [ut_ne _ _ e]; exact e2
theorem q_up {Y : Int} : (Y + 1) * (Y + 1 - 8) = Y * (Y - 8) + 2 * Y - 7 := by
  simp only [Int.add_mul, Int.mul_add, Int.mul_sub, Int.one_mul, Int.mul_one]
  omega
theorem q_dn {Y : Int} : (Y - 1) * (Y - 1 - 8) = Y * (Y - 8) - 2 * Y + 9 := by
  simp only [Int.sub_mul, Int.mul_sub, Int.one_mul, Int.mul_one]
  omega
theorem meas_cas (ok : c.Ok) (hi : i < c.T) {X : Nat} (hX : X = 2 \/ X = 3) (hv : ∀ X', X' = 2 \/ X' = 3 -> X' ≠ X -> v' (c.B X') = v (c.B X')) {x' : SC} (hy : ylS (k i) = if X = 2 then 1 else 0) (hsl : slS v c.B (k i) = 0) (hsl' : slS v' c.B x' = 0) (hm : 2 * (bsS x' - bsS (k i)) + 3 * (rsS x' - rsS (k i)) <= if ylS x' = ylS (k i) then -44 else -23) : meas c v' (ut k i x') + 2 <= meas c v k := by
  have e1 := sumT_ut (f := bsS) (k := k) (x := x') hi
  have e2 := sumT_ut (f := rsS) (k := k) (x := x') hi
  have e3 := sumT_ut (f := ylS) (k := k) (x := x') hi
  have yn := fun j => (bs_nn (c := c) (v := v) (k j)).2.2.1
  have y1 := fun j => (bs_nn (c := c) (v := v) (k j)).2.2.2.1
  have hT := ok.T8
  have Y0 := sumT_nn (f := fun j => ylS (k j)) (n := c.T) fun j _ => yn j
  have Y1 := sumT_up (f := fun j => ylS (k j)) (b := 1) (n := c.T) fun j _ => y1 j
  have Yi := sumT_one (f := fun j => ylS (k j)) hi fun j _ => yn j
  have hyx := (bs_nn (c := c) (v := v) x').2.2
  have hst : ∀ X' h, 0 <= stC v c.B X' h /\ stC v' c.B X' h <= 1 := fun X' h => by unfold stC; constructor <;> split <;> omega
  have hsm : ∀ X' h, X' = 2 \/ X' = 3 -> X' ≠ X -> stC v' c.B X' h = stC v c.B X' h := fun X' h h1 h2 => by unfold stC; rw [hv X' h1 h2]
  have D : sumT (fun j => slS v' c.B (ut k i x' j)) c.T <= sumT (fun j => slS v c.B (k j)) c.T + (if X = 2 then sumT (fun j => ylS (k j)) c.T - 1 else c.T - 1 - sumT (fun j => ylS (k j)) c.T) := by
    rcases hX with rfl | rfl
    · have h := sumT_le (f := fun j => slS v c.B (k j)) (f' := fun j => slS v' c.B (ut k i x' j)) (d := fun j => ylS (k j)) (i := i) (n := c.T) fun j _ hne => by
        rw [ut_ne _ _ hne]
        cases hkj : k j with
        | g1 q f h =>
          have := hst q.gc h
          simp only [slS, ylS, ylC]
          by_cases e : q.gc = 2
          · have : q.push ≠ true := fun e' => by unfold CL.gc at e; rw [if_pos e'] at e; omega
            rw [if_neg this]; omega
          · rw [hsm _ _ (gc_or q) e]; split <;> omega
        | g2 q f h m =>
          have := hst q.gc h
          simp only [slS, ylS, ylC]
          by_cases e : q.gc = 2
          · have : q.push ≠ true := fun e' => by unfold CL.gc at e; rw [if_pos e'] at e; omega
            rw [if_neg this]; omega
          · rw [hsm _ _ (gc_or q) e]; split <;> omega
        | l1 q x y f h =>
          have := hst q.lc h
          simp only [slS, ylS, ylC]
          by_cases e : q.lc = 2
          · have : q.push ≠ false := fun e' => by unfold CL.lc at e; rw [e'] at e; simp at e
            rw [if_neg this]; omega
          · rw [hsm _ _ (lc_or q) e]; split <;> omega
        | l2 q x y f h =>
          have := hst q.lc h
          simp only [slS, ylS, ylC]
          by_cases e : q.lc = 2
          · have : q.push ≠ false := fun e' => by unfold CL.lc at e; rw [e'] at e; simp at e
            rw [if_neg this]; omega
          · rw [hsm _ _ (lc_or q) e]; split <;> omega
        | fin q => simp only [slS, ylS]; omega
        | raw l q =>
          have := (bs_nn (c := c) (v := v) (.raw l q)).2.2.1
          simp only [slS]; omega
        | g0 q f =>
          have := (bs_nn (c := c) (v := v) (.g0 q f)).2.2.1
          simp only [slS]; omega
        | vl q x y =>
          have := (bs_nn (c := c) (v := v) (.vl q x y)).2.2.1
          simp only [slS]; omega
        | l0 q x y f =>
          have := (bs_nn (c := c) (v := v) (.l0 q x y f)).2.2.1
          simp only [slS]; omega
      rw [if_pos hi, ut_same, hsl', hsl, hy] at h
      rw [if_pos rfl] at h ⊢
      omega
    · have h := sumT_le (f := fun j => slS v c.B (k j)) (f' := fun j => slS v' c.B (ut k i x' j)) (d := fun j => 1 - ylS (k j)) (i := i) (n := c.T) fun j _ hne => by
        rw [ut_ne _ _ hne]
        cases hkj : k j with
        | g1 q f h =>
          have := hst q.gc h
          simp only [slS, ylS, ylC]
          by_cases e : q.gc = 3
          · have : q.push = true := by unfold CL.gc at e; by_cases e' : q.push = true; exact e'; rw [if_neg e'] at e; omega
            rw [if_pos this]; omega
          · rw [hsm _ _ (gc_or q) e]; split <;> omega
        | g2 q f h m =>
          have := hst q.gc h
          simp only [slS, ylS, ylC]
          by_cases e : q.gc = 3
          · have : q.push = true := by unfold CL.gc at e; by_cases e' : q.push = true; exact e'; rw [if_neg e'] at e; omega
            rw [if_pos this]; omega
          · rw [hsm _ _ (gc_or q) e]; split <;> omega
        | l1 q x y f h =>
          have := hst q.lc h
          simp only [slS, ylS, ylC]
          by_cases e : q.lc = 3
          · have : q.push = false := by unfold CL.lc at e; by_cases e' : q.push = true; rw [if_pos e'] at e; omega; simpa using e'
            rw [if_pos this]; omega
          · rw [hsm _ _ (lc_or q) e]; split <;> omega
        | l2 q x y f h =>
          have := hst q.lc h
          simp only [slS, ylS, ylC]
          by_cases e : q.lc = 3
          · have : q.push = false := by unfold CL.lc at e; by_cases e' : q.push = true; rw [if_pos e'] at e; omega; simpa using e'
            rw [if_pos this]; omega
          · rw [hsm _ _ (lc_or q) e]; split <;> omega
        | fin q => simp only [slS, ylS]; omega
        | raw l q =>
          have := (bs_nn (c := c) (v := v) (.raw l q)).2.2.2.1
          simp only [slS]; omega
        | g0 q f =>
          have := (bs_nn (c := c) (v := v) (.g0 q f)).2.2.2.1
          simp only [slS]; omega
        | vl q x y =>
          have := (bs_nn (c := c) (v := v) (.vl q x y)).2.2.2.1
          simp only [slS]; omega
        | l0 q x y f =>
          have := (bs_nn (c := c) (v := v) (.l0 q x y f)).2.2.2.1
          simp only [slS]; omega
      have h1 : sumT (fun j => 1 - ylS (k j)) c.T = c.T - sumT (fun j => ylS (k j)) c.T := by
        have : ∀ n : Nat, sumT (fun j => 1 - ylS (k j)) n = n - sumT (fun j => ylS (k j)) n := fun n => by
          induction n with
          | zero => rfl
          | succ n ih =>
            show sumT _ n + (1 - ylS (k n)) = ((n + 1 : Nat) : Int) - (sumT (fun j => ylS (k j)) n + ylS (k n))
            rw [ih]; omega
        exact this c.T
      rw [if_pos hi, ut_same, hsl', hsl, hy, h1] at h
      rw [if_neg (by decide)] at h ⊢
      omega
  unfold meas
  rw [e1, e2]
  by_cases hs : ylS x' = ylS (k i)
  · rw [if_pos hs] at hm
    rw [show sumT (fun j => ylS (ut k i x' j)) c.T = sumT (fun j => ylS (k j)) c.T by omega]
    rcases hX with rfl | rfl
    · rw [if_pos rfl] at D; omega
    · rw [if_neg (by decide)] at D hy; omega
  · rw [if_neg hs] at hm
    rcases hX with rfl | rfl
    · rw [if_pos rfl] at D hy
      rw [show sumT (fun j => ylS (ut k i x' j)) c.T = sumT (fun j => ylS (k j)) c.T - 1 by omega, q_dn]
      omega
    · rw [if_neg (by decide)] at D hy
      rw [show sumT (fun j => ylS (ut k i x' j)) c.T = sumT (fun j => ylS (k j)) c.T + 1 by omega, q_up]
      omega
end
end
section
open Go Go.TJ Go.Conc Go.Proofs
theorem perm_p2 {A : Type} {x : A} {r H H' : List A} (h : H'.Perm (x :: H)) : (r ++ H').Perm (x :: r ++ H) := (h.append_left r).trans List.perm_middle
theorem perm_p3 {A : Type} {x : A} {a r H H' : List A} (h : H'.Perm (x :: H)) : (a ++ r ++ H').Perm (a ++ (x :: r) ++ H) := by
  rw [List.append_assoc, List.append_assoc]
  exact (perm_p2 h).append_left a
theorem perm_q3 {A : Type} {x : A} {a r H H' : List A} (h : H'.Perm (x :: H)) : (r ++ a ++ H').Perm (x :: r ++ a ++ H) := by
  have := perm_p2 (r := r ++ a) h
  simpa using this
section
variable {c : SP} {l : List Ev} {g g' : List (Nat × SE)} {S : Nat -> Pr SE} {v v' : Nat -> Int} {a a' : SA} {k : Nat -> SC} {i : Nat}
theorem SInv.shift (I : SInv c l g S v a k) (hi : i < c.T) (hx : icS (k i) = 1) {x' : SC} {e : Ev} (hnx : nxS x' = nxS (k i)) (hw : a'.s.was = a.s.was) (hwh : a'.s.when = a.s.when) (hal : a'.s.alone = a.s.alone) (hbg : a'.s.begun = a.s.begun) (hbusy : a'.s.busy = a.s.busy - 1 + icS x') (s : a'.s = sfold g')
    (cel : ∀ X, X = 2 \/ X = 3 -> v' (c.B X) = 65536 * a'.tg X + hdN (a'.ch X) /\ 0 <= a'.tg X /\ a'.tg X <= l.length + 1 /\ Chn c.B v' (a'.ch X)) (np : (a'.ch 2 ++ a'.ch 3 ++ fmT (fun j => hnS (ut k i x' j)) c.T).Perm (List.range' 1 c.n)) (vp : a'.s.there.Perm ((a'.ch 2).map (fun x => v' (c.B (5 + 2 * x))) ++ fmT (fun j => tvS j (ut k i x' j)) c.T)) (nd : a'.s.there.Nodup) (sub : ∀ y, y ∈ a'.s.there -> y ∈ a.s.there)
    (t : TS c v' a' (l.length + 1) i x') (tg : ∀ X, X = 2 \/ X = 3 -> (v' (c.B X) = v (c.B X) /\ a'.tg X = a.tg X /\ a'.ch X = a.ch X) \/ (v (c.B X) / 65536 < a'.tg X /\ a.tg X <= a'.tg X /\ v' (c.B X) / 65536 = a'.tg X)) (ho : ∀ j, j ≠ i -> ∀ y, hnS (k j) = some y -> v' (c.B (4 + 2 * y)) = v (c.B (4 + 2 * y)) /\ v' (c.B (5 + 2 * y)) = v (c.B (5 + 2 * y)))
    (lone : c.T = 1 -> a'.s.last = ((a'.ch 2).map fun x => v' (c.B (5 + 2 * x))).reverse ++ lastS x') (hm : Go.Proofs.Ythkpbenhchkkoaa.meas c v' (ut k i x') + 2 <= Go.Proofs.Ythkpbenhchkkoaa.meas c v k) (ok : sokl c.n c.lone g') : SInv c (l ++ [e]) g' (ut S i (sRes c.B c.F i x')) v' a' (ut k i x') := by
  have hl : (((l ++ [e]).length : Nat) : Int) = l.length + 1 := by simp
  refine ⟨fun j => ?_, fun j hj => ?_, s, fun X hX => by rw [hl]; exact cel X hX, np, vp, nd, fun y hy => ?_, fun j => ?_, ?_, ?_, fun j h1 h3 h4 j' hj' => ?_, fun h1 => ?_, ?_, ok⟩
  · by_cases q : j = i
    · subst q; rw [ut_same, ut_same]
    · rw [ut_ne _ _ q, ut_ne _ _ q]; exact I.res j
  · rw [ut_ne _ _ (by omega)]; exact I.out j hj
  · obtain ⟨j, q, e1, e2⟩ := I.old y (sub y hy)
    refine ⟨j, q, e1, ?_⟩
    by_cases e3 : j = i
    · subst e3; rw [ut_same, hnx]; exact e2
    · rw [ut_ne _ _ e3]; exact e2
  · rw [hl]
    by_cases q : j = i
    · subst q; rw [ut_same]; exact t
    · rw [ut_ne _ _ q]
      refine (I.T j).mono (i := i) ⟨by omega, by rw [hw], by rw [hwh], by rw [hal], by rw [hbg]; exact Int.le_refl _, tg, ho j q, fun h3 ⟨h4, h5⟩ => ?_⟩
      rw [hal] at h4
      rw [hwh, hbg] at h5
      have := I.al j h3 h4 h5 i (Ne.symm q)
      omega
  · rw [sumT_ut (f := icS) hi, hx, hbusy, I.busy]
  · rw [sumT_ut (f := fun x => (nxS x : Int)) hi, hnx, hbg, I.bg]; omega
  · rw [hal] at h3
    rw [hwh, hbg] at h4
    by_cases q : j = i
    · subst q
      rw [ut_ne _ _ hj']
      exact I.al j hx h3 h4 j' hj'
    · rw [ut_ne _ _ q] at h1
      have := I.al j h1 h3 h4 i (Ne.symm q)
      omega
  · have h0 : i = 0 := by omega
    subst h0
    rw [ut_same]
    exact lone h1
  · have hI := I.meas
    rw [hl]
    omega
theorem meas_end (ok : c.Ok) (hi : i < c.T) {x' : SC} (hsl : slS v c.B (k i) = 0) (hsl' : slS v c.B x' = 0) (hm : 2 * (bsS x' - bsS (k i)) + 3 * (rsS x' - rsS (k i)) <= -30) : meas c v (ut k i x') + 2 <= meas c v k := by
  have e1 := sumT_ut (f := bsS) (k := k) (x := x') hi
  have e2 := sumT_ut (f := rsS) (k := k) (x := x') hi
  have e3 := sumT_ut (f := ylS) (k := k) (x := x') hi
  have e4 := sumT_ut (f := slS v c.B) (k := k) (x := x') hi
  have yn := fun j => (bs_nn (c := c) (v := v) (k j)).2.2.1
  have y1 := fun j => (bs_nn (c := c) (v := v) (k j)).2.2.2.1
  have yn' := fun j => (bs_nn (c := c) (v := v) (ut k i x' j)).2.2.1
  have y1' := fun j => (bs_nn (c := c) (v := v) (ut k i x' j)).2.2.2.1
  have hT := ok.T8
  have Y0 := sumT_nn (f := fun j => ylS (k j)) (n := c.T) fun j _ => yn j
  have Y1 := sumT_up (f := fun j => ylS (k j)) (b := 1) (n := c.T) fun j _ => y1 j
  have Z0 := sumT_nn (f := fun j => ylS (ut k i x' j)) (n := c.T) fun j _ => yn' j
  have Z1 := sumT_up (f := fun j => ylS (ut k i x' j)) (b := 1) (n := c.T) fun j _ => y1' j
  have hyx := (bs_nn (c := c) (v := v) x').2.2
  have hyi := yn i
  have hyi1 := y1 i
  unfold meas
  rw [e1, e2, e4]
  rcases (show ylS x' - ylS (k i) = 0 \/ ylS x' - ylS (k i) = 1 \/ ylS x' - ylS (k i) = -1 by omega) with h | h | h
  · rw [show sumT (fun j => ylS (ut k i x' j)) c.T = sumT (fun j => ylS (k j)) c.T by omega]
    omega
  · rw [show sumT (fun j => ylS (ut k i x' j)) c.T = sumT (fun j => ylS (k j)) c.T + 1 by omega] at Z1 ⊢
    rw [q_up]
    omega
  · rw [show sumT (fun j => ylS (ut k i x' j)) c.T = sumT (fun j => ylS (k j)) c.T - 1 by omega] at Z0 ⊢
    rw [q_dn]
    omega
theorem xE_facts {l' : List Bool} {q : Nat} : icS (xE l' q) = 0 /\ nxS (xE l' q) = q /\ bsS (xE l' q) = 7 * l'.length /\ rsS (xE l' q) = 21 * l'.length /\ slS v c.B (xE l' q) = 0 := by
  cases l' with
  | nil => exact ⟨rfl, rfl, rfl, rfl, rfl⟩
  | cons b l' => exact ⟨rfl, rfl, rfl, rfl, rfl⟩
theorem xE_TS {l' : List Bool} {q : Nat} {len : Int} (h1 : q + l'.length <= 400) (hi : i < c.T) : TS c v a len i (xE l' q) := by
  cases l' with
  | nil => exact h1
  | cons b l' => exact ⟨nofun, h1, hi⟩
theorem Onw.ends {r : Rq} {kk : Int -> Pr SE} {q : CL} {ev : SE} (hp : norm (kk (v r.b)) = (ev :: stell i q.l (q.k + 1), sRes c.B c.F i (snext c.F q.l (q.k + 1)))) (hv : ut v r.b (behind r.op (v r.b) r.arg r.new).1 = v') (I : SInv c (l ++ [evOf i r (v r.b)]) (g ++ [(i, ev)]) (ut S i (sRes c.B c.F i (xE q.l (q.k + 1)))) v' a' (ut k i (xE q.l (q.k + 1)))) : Onw c l g S v i r kk := by
  unfold Onw
  rw [hp, hv]
  rw [sRes_xE] at I
  obtain ⟨a2, k2, I2⟩ := I.goon
  exact ⟨a2, k2, by simpa only [List.map_cons, List.append_assoc, List.singleton_append] using I2⟩
theorem step_g0z (ok : c.Ok) (I : SInv c l g S v a k) {q : CL} {f : Nat} (hk : k i = .g0 q f) (hz : a.ch q.gc = []) {r : Rq} {kk : Int -> Pr SE} (hS : S i = .step r kk) : Onw c l g S v i r kk := by
  have t := I.T i
  rw [hk] at t
  obtain ⟨t1, t2⟩ := t
  have hi := t1.ii
  have hsh := I.short ok
  have hF := ok.F
  obtain ⟨f', rfl⟩ : ∃ f', f = f' + 1 := ⟨f - 1, by omega⟩
  have hR := I.res i
  rw [hS, hk] at hR
  change _ = getP c.B q.gc (kG c.B c.F i q) (f' + 1) at hR
  unfold getP at hR
  injection hR with h1 h2
  subst h1 h2
  obtain ⟨c1, c2, c3, c4, c5⟩ := I.cell ok (gc_or q)
  have hz' : v (c.B q.gc) % 65536 = 0 := by rw [c1, hz]; rfl
  have hx : icS (k i) = 1 := by rw [hk]; rfl
  obtain ⟨xf1, xf2, xf3, xf4, xf5⟩ := xE_facts (c := c) (v := v) (l' := q.l) (q := q.k + 1)
  have hm : meas c v (ut k i (xE q.l (q.k + 1))) + 2 <= meas c v k := meas_end ok hi (by rw [hk]; rfl) xf5 (by rw [hk, xf3, xf4]; simp only [bsS, rsS]; omega)
  have np : (a.ch 2 ++ a.ch 3 ++ fmT (fun j => hnS (ut k i (xE q.l (q.k + 1)) j)) c.T).Perm (List.range' 1 c.n) := by
    rw [fmT_ut (f := fun _ => hnS) (by rw [hk]; exact (tv_none (j := i) xf1).2.1)]; exact I.np
  have hv : ut v (c.B q.gc) (behind 1 (v (c.B q.gc)) 0 0).1 = v := by rw [bh1, ut_self]
  have cel : ∀ X, X = 2 \/ X = 3 -> v (c.B X) = 65536 * a.tg X + hdN (a.ch X) /\ 0 <= a.tg X /\ a.tg X <= l.length + 1 /\ Chn c.B v (a.ch X) := fun X hX => by
    obtain ⟨z1, z2, z3, z4⟩ := I.cel X hX
    exact ⟨z1, z2, by omega, z4⟩
  have hlen := I.np.length_eq
  rw [List.length_append, List.length_append, List.length_range'] at hlen
  have hsW := t1.W
  rw [if_neg (by decide)] at hsW
  by_cases hp : q.push = true
  · have g3 : q.gc = 3 := by unfold CL.gc; rw [if_pos hp]
    have tvi : tvS i (k i) = some (valN i q.k) := by rw [hk]; show tvC i q none = _; unfold tvC; rw [if_pos hp]
    have p1 := fmT_add (f := fun j => tvS j (ut k i (xE q.l (q.k + 1)) j)) (f' := fun j => tvS j (k j)) (n := c.T) hi (by rw [ut_same]; exact (tv_none xf1).1) tvi fun j _ hne => by rw [ut_ne _ _ hne]
    have p2 := I.vp.trans (perm_p2 (r := (a.ch 2).map fun x => v (c.B (5 + 2 * x))) p1)
    refine Onw.ends (ev := .pushed (valN i q.k) 12) (q := q) (v' := v) ?_ hv (I.shift (a' := { a with s := { a.s with there := a.s.there.erase (valN i q.k), busy := a.s.busy - 1 } }) hi hx (by rw [hk, xf2]; rfl) rfl rfl rfl rfl (by rw [xf1]; show a.s.busy - 1 = a.s.busy - 1 + 0; omega) ?_ cel np ?_ (I.nd.erase _) (fun y hy => List.mem_of_mem_erase hy) (xE_TS (by have := t1.kk; omega) hi) (fun X _ => .inl ⟨rfl, rfl, rfl⟩) (fun _ _ _ _ => ⟨rfl, rfl⟩) (fun h => ?_) hm (sokl_snoc I.ok ?_))
    · dsimp only
      rw [if_pos hz']
      unfold kG
      rw [if_pos rfl, if_pos hp, norm_kE]
    · rw [sfold_snoc, <- I.s]; exact sstep_full.symm
    · have := p2.erase (valN i q.k)
      rwa [List.cons_append, List.erase_cons_head] at this
    · have := I.lone h
      have h0 : i = 0 := by have := hi; omega
      subst h0
      rw [hk] at this
      rw [(tv_none (j := 0) xf1).2.2]
      exact this
    · rw [<- I.s]
      refine ⟨.inr rfl, p2.mem_iff.2 (by simp), fun h3 h4 => ⟨fun e => absurd e (by decide), fun e => ?_⟩⟩
      have hw := hsW h3 h4
      have hno : fmT (fun j => hnS (k j)) c.T = [] := fmT_none fun j _ => by
        by_cases e : j = i
        · subst e; rw [hk]; rfl
        · exact (tv_none (j := j) (I.al i hx h3 h4 j e)).2.1
      rw [hno, <- g3, hz] at hlen
      simp only [List.length_nil] at hlen
      omega
  · have hp' : q.push = false := by simpa using hp
    have g2 : q.gc = 2 := by unfold CL.gc; rw [if_neg hp]
    have tvi : tvS i (xE q.l (q.k + 1)) = tvS i (k i) := by
      rw [(tv_none xf1).1, hk]
      show none = tvC i q none
      unfold tvC
      rw [if_neg hp]
    refine Onw.ends (ev := .popped 0 false) (q := q) (v' := v) ?_ hv (I.shift (a' := { a with s := { a.s with busy := a.s.busy - 1 } }) hi hx (by rw [hk, xf2]; rfl) rfl rfl rfl rfl (by rw [xf1]; show a.s.busy - 1 = a.s.busy - 1 + 0; omega) ?_ cel np ?_ I.nd (fun y hy => hy) (xE_TS (by have := t1.kk; omega) hi) (fun X _ => .inl ⟨rfl, rfl, rfl⟩) (fun _ _ _ _ => ⟨rfl, rfl⟩) (fun h => ?_) hm (sokl_snoc I.ok ?_))
    · dsimp only
      rw [if_pos hz']
      unfold kG
      rw [if_pos rfl, if_neg hp, norm_kP]
    · rw [sfold_snoc, <- I.s]; rfl
    · rw [fmT_ut (f := tvS) tvi]; exact I.vp
    · have := I.lone h
      have h0 : i = 0 := by have := hi; omega
      subst h0
      rw [hk] at this
      rw [(tv_none (j := 0) xf1).2.2]
      exact this
    · rw [<- I.s]
      refine ⟨fun e => (by cases e), fun h3 h4 => ⟨fun e => (by cases e), fun e => ?_⟩⟩
      have hw := hsW h3 h4
      rw [<- g2, hz] at hw
      simp only [List.length_nil] at hw
      omega
theorem step_g2 (ok : c.Ok) (I : SInv c l g S v a k) {q : CL} {f : Nat} {h m : Int} (hk : k i = .g2 q f h m) (he : v (c.B q.gc) = h) {r : Rq} {kk : Int -> Pr SE} (hS : S i = .step r kk) : Onw c l g S v i r kk := by
  have t := I.T i
  rw [hk] at t
  obtain ⟨t1, t2, t3, t4, t5⟩ := t
  have hi := t1.ii
  have hR := I.res i
  rw [hS, hk] at hR
  injection hR with h1 h2
  subst h1 h2
  have hx : icS (k i) = 1 := by rw [hk]; rfl
  obtain ⟨c1, c2, c3, c4, c5⟩ := I.cell ok (gc_or q)
  obtain ⟨d1, d2, d3, d4⟩ := I.cel _ (gc_or q)
  have hsh := I.short ok
  have hn2 := ok.n2
  obtain ⟨x, r', hch⟩ : ∃ x r', a.ch q.gc = x :: r' := by
    cases e : a.ch q.gc with
    | nil => rw [e] at c1; rw [<- he] at t4; exact absurd c1 t4
    | cons x r' => exact ⟨x, r', rfl⟩
  have hx1 := c5 x (by rw [hch]; exact List.mem_cons_self)
  rw [hch] at c1 d1 d4
  change _ = (x : Int) at c1
  change _ = 65536 * a.tg q.gc + (x : Int) at d1
  have hm := t5 he.symm x r' hch
  have hr' : 0 <= hdN r' /\ hdN r' <= c.n := by
    cases r' with
    | nil => exact ⟨Int.le_refl _, by show (0 : Int) <= c.n; omega⟩
    | cons y r'' =>
      have := c5 y (by rw [hch]; simp)
      show 0 <= (y : Int) /\ (y : Int) <= c.n
      omega
  have hlz : laidZ h m = 65536 * (a.tg q.gc + 1) + hdN r' := by
    rw [<- he, d1, hm]
    unfold laidZ
    simp only [IntKind.wrap_i64]
    omega
  have hx0 : (h % 65536).toNat = x := by rw [<- he, c1]; omega
  have hv : ut v (c.B q.gc) (behind 3 (v (c.B q.gc)) h (laidZ h m)).1 = ut v (c.B q.gc) (laidZ h m) := by rw [bh3, if_pos he]
  have n4 : ∀ y z, ut v (c.B q.gc) z (c.B (4 + 2 * y)) = v (c.B (4 + 2 * y)) := fun y z => ut_ne _ _ fun e => by have := ok.inj _ _ e; have := gc_or q; omega
  have n5 : ∀ y z, ut v (c.B q.gc) z (c.B (5 + 2 * y)) = v (c.B (5 + 2 * y)) := fun y z => ut_ne _ _ fun e => by have := ok.inj _ _ e; have := gc_or q; omega
  have oth : ∀ X, X ≠ q.gc -> ∀ z, ut v (c.B q.gc) z (c.B X) = v (c.B X) := fun X hX z => ut_ne _ _ fun e => hX (ok.inj _ _ e)
  have hmap : ∀ z (L : List Nat), L.map (fun x => ut v (c.B q.gc) z (c.B (5 + 2 * x))) = L.map (fun x => v (c.B (5 + 2 * x))) := fun z L => List.map_congr_left fun y _ => n5 y z
  generalize hy : v (c.B (5 + 2 * x)) = y
  have hhn := fmT_add (f := fun j => hnS (k j)) (f' := fun j => hnS (ut k i (.vl q x y) j)) (n := c.T) (y := x) hi (by rw [hk]; rfl) (by rw [ut_same]; rfl) fun j _ hne => by rw [ut_ne _ _ hne]
  have cel : ∀ X, X = 2 \/ X = 3 -> ut v (c.B q.gc) (laidZ h m) (c.B X) = 65536 * ut a.tg q.gc (a.tg q.gc + 1) X + hdN (ut a.ch q.gc r' X) /\ 0 <= ut a.tg q.gc (a.tg q.gc + 1) X /\ ut a.tg q.gc (a.tg q.gc + 1) X <= l.length + 1 /\ Chn c.B (ut v (c.B q.gc) (laidZ h m)) (ut a.ch q.gc r' X) := fun X hX => by
    by_cases e : X = q.gc
    · subst e
      rw [ut_same, ut_same, ut_same]
      exact ⟨hlz, by omega, by omega, d4.2.congr fun y _ => n4 y _⟩
    · rw [oth X e, ut_ne _ _ e, ut_ne _ _ e]
      obtain ⟨z1, z2, z3, z4⟩ := I.cel X hX
      exact ⟨z1, z2, by omega, z4.congr fun y _ => n4 y _⟩
  have tg : ∀ X, X = 2 \/ X = 3 -> (ut v (c.B q.gc) (laidZ h m) (c.B X) = v (c.B X) /\ ut a.tg q.gc (a.tg q.gc + 1) X = a.tg X /\ ut a.ch q.gc r' X = a.ch X) \/ (v (c.B X) / 65536 < ut a.tg q.gc (a.tg q.gc + 1) X /\ a.tg X <= ut a.tg q.gc (a.tg q.gc + 1) X /\ ut v (c.B q.gc) (laidZ h m) (c.B X) / 65536 = ut a.tg q.gc (a.tg q.gc + 1) X) := fun X hX => by
    by_cases e : X = q.gc
    · subst e
      rw [ut_same, ut_same]
      exact .inr ⟨by omega, by omega, by rw [hlz]; omega⟩
    · exact .inl ⟨oth X e _, ut_ne _ _ e, ut_ne _ _ e⟩
  have hR' : (if v (c.B q.gc) = h then kG c.B c.F i q (h % 65536) else getP c.B q.gc (kG c.B c.F i q) f) = sRes c.B c.F i (.vl q x y) := by
    rw [if_pos he]
    unfold kG
    rw [if_neg t4, hx0]
    rfl
  have hsW := t1.W
  rw [if_neg (by decide)] at hsW
  have hlen := I.np.length_eq
  rw [List.length_append, List.length_append, List.length_range'] at hlen
  by_cases hp : q.push = true
  · have g3 : q.gc = 3 := by unfold CL.gc; rw [if_pos hp]
    have tvs : tvS i (.vl q x y) = tvS i (k i) := by
      rw [hk]
      show tvC i q _ = tvC i q _
      unfold tvC
      rw [if_pos hp, if_pos hp]
    have c2' : ut a.ch q.gc r' 2 = a.ch 2 := ut_ne _ _ (by omega)
    have c3' : ut a.ch q.gc r' 3 = r' := by rw [g3, ut_same]
    have ch3 : a.ch 3 = x :: r' := by rw [<- g3]; exact hch
    refine Onw.of (x' := .vl q x y) rfl hR' hv (I.shift (a' := { a with tg := ut a.tg q.gc (a.tg q.gc + 1), ch := ut a.ch q.gc r' }) hi hx (by rw [hk]; rfl) rfl rfl rfl rfl (by show a.s.busy = a.s.busy - 1 + 1; omega) I.s cel ?_ ?_ I.nd (fun y hy => hy) ⟨⟨t1.kk, t1.ww, hi, fun h3 h4 => ?_⟩, fun h => absurd h (by rw [hp]; decide)⟩ tg (fun _ _ y _ => ⟨n4 y _, n5 y _⟩) (fun hT => ?_) ?_ I.ok)
    · show (ut a.ch q.gc r' 2 ++ ut a.ch q.gc r' 3 ++ _).Perm _
      rw [c2', c3']
      refine (perm_p3 hhn).trans ?_
      rw [<- ch3]
      exact I.np
    · show a.s.there.Perm ((ut a.ch q.gc r' 2).map _ ++ _)
      rw [c2', hmap, fmT_ut (f := tvS) tvs]
      exact I.vp
    · rw [if_pos rfl, if_pos hp]
      have hw := hsW h3 h4
      rw [ch3, List.length_cons] at hlen
      show a.s.was i < c.n
      omega
    · show a.s.last = ((ut a.ch q.gc r' 2).map _).reverse ++ _
      rw [c2', hmap, I.lone hT]
      have h0 : i = 0 := by omega
      subst h0
      rw [hk]
      show _ ++ [] = _ ++ if q.push then [] else [y]
      rw [if_pos hp]
    · refine meas_cas ok hi (X := 3) (.inr rfl) (fun X hX hne => oth X (by rw [g3]; exact hne) _) ?_ ?_ rfl ?_
      · rw [hk]
        show ylC q true = _
        unfold ylC
        rw [if_pos hp]; rfl
      · rw [hk]
        show stC v c.B q.gc h = 0
        unfold stC
        rw [if_pos he]
      · rw [hk]
        have : ylS (.vl q x y) ≠ ylS (.g2 q f h m) := by
          show ylC q false ≠ ylC q true
          unfold ylC
          rw [if_pos hp, if_neg (by rw [hp]; decide)]
          decide
        rw [if_neg this]
        simp only [bsS, rsS]
        omega
  · have hp' : q.push = false := by simpa using hp
    have g2 : q.gc = 2 := by unfold CL.gc; rw [if_neg hp]
    have c2' : ut a.ch q.gc r' 2 = r' := by rw [g2, ut_same]
    have c3' : ut a.ch q.gc r' 3 = a.ch 3 := ut_ne _ _ (by omega)
    have ch2 : a.ch 2 = x :: r' := by rw [<- g2]; exact hch
    have htv := fmT_add (f := fun j => tvS j (k j)) (f' := fun j => tvS j (ut k i (.vl q x y) j)) (n := c.T) (y := y) hi (by rw [hk]; show tvC i q none = none; unfold tvC; rw [if_neg hp]) (by rw [ut_same]; show tvC i q (some y) = some y; unfold tvC; rw [if_neg hp]) fun j _ hne => by rw [ut_ne _ _ hne]
    refine Onw.of (x' := .vl q x y) rfl hR' hv (I.shift (a' := { a with tg := ut a.tg q.gc (a.tg q.gc + 1), ch := ut a.ch q.gc r' }) hi hx (by rw [hk]; rfl) rfl rfl rfl rfl (by show a.s.busy = a.s.busy - 1 + 1; omega) I.s cel ?_ ?_ I.nd (fun y hy => hy) ⟨⟨t1.kk, t1.ww, hi, fun h3 h4 => ?_⟩, fun _ => by rw [n5, hy]⟩ tg (fun _ _ y _ => ⟨n4 y _, n5 y _⟩) (fun hT => ?_) ?_ I.ok)
    · show (ut a.ch q.gc r' 2 ++ ut a.ch q.gc r' 3 ++ _).Perm _
      rw [c2', c3']
      refine (perm_q3 hhn).trans ?_
      rw [<- ch2]
      exact I.np
    · show a.s.there.Perm ((ut a.ch q.gc r' 2).map _ ++ _)
      rw [c2', hmap]
      refine I.vp.trans ?_
      rw [ch2, List.map_cons, hy]
      exact (perm_p2 htv).symm
    · rw [if_pos rfl, if_neg hp]
      have hw := hsW h3 h4
      rw [ch2, List.length_cons] at hw
      show 0 < a.s.was i
      omega
    · show a.s.last = ((ut a.ch q.gc r' 2).map _).reverse ++ _
      rw [c2', hmap, I.lone hT, ch2, List.map_cons, List.reverse_cons, hy]
      have h0 : i = 0 := by omega
      subst h0
      rw [hk]
      show _ ++ [] = _ ++ if q.push then [] else [y]
      rw [if_neg hp, List.append_nil]
    · refine meas_cas ok hi (X := 2) (.inl rfl) (fun X hX hne => oth X (by rw [g2]; exact hne) _) ?_ ?_ rfl ?_
      · rw [hk]
        show ylC q true = _
        unfold ylC
        rw [if_neg hp]; rfl
      · rw [hk]
        show stC v c.B q.gc h = 0
        unfold stC
        rw [if_pos he]
      · rw [hk]
        have : ylS (.vl q x y) ≠ ylS (.g2 q f h m) := by
          show ylC q false ≠ ylC q true
          unfold ylC
          rw [if_neg hp, if_pos hp']
          decide
        rw [if_neg this]
        simp only [bsS, rsS]
        omega
end
end
section
open Go Go.TJ Go.Conc Go.Proofs
section
variable {c : SP} {l : List Ev} {g g' : List (Nat × SE)} {S : Nat -> Pr SE} {v v' : Nat -> Int} {a a' : SA} {k : Nat -> SC} {i : Nat}
theorem step_l2 (ok : c.Ok) (I : SInv c l g S v a k) {q : CL} {x f : Nat} {y h : Int} (hk : k i = .l2 q x y f h) (he : v (c.B q.lc) = h) {r : Rq} {kk : Int -> Pr SE} (hS : S i = .step r kk) : Onw c l g S v i r kk := by
  have t := I.T i
  rw [hk] at t
  obtain ⟨t1, t2, t3, t4, t5⟩ := t
  have hi := t1.ii
  have hR := I.res i
  rw [hS, hk] at hR
  injection hR with h1 h2
  subst h1 h2
  have hx : icS (k i) = 1 := by rw [hk]; rfl
  obtain ⟨c1, c2, c3, c4, c5⟩ := I.cell ok (lc_or q)
  obtain ⟨d1, d2, d3, d4⟩ := I.cel _ (lc_or q)
  have hsh := I.short ok
  have hn2 := ok.n2
  obtain ⟨x1, x2, x3, x4, x5⟩ := I.held hi (x := x) (by rw [hk]; rfl)
  have hlz : laidZ h x = 65536 * (a.tg q.lc + 1) + x := by
    rw [<- he, d1]
    unfold laidZ
    simp only [IntKind.wrap_i64]
    omega
  have hv : ut v (c.B q.lc) (behind 3 (v (c.B q.lc)) h (laidZ h x)).1 = ut v (c.B q.lc) (laidZ h x) := by rw [bh3, if_pos he]
  have n4 : ∀ y z, ut v (c.B q.lc) z (c.B (4 + 2 * y)) = v (c.B (4 + 2 * y)) := fun y z => ut_ne _ _ fun e => by have := ok.inj _ _ e; have := lc_or q; omega
  have n5 : ∀ y z, ut v (c.B q.lc) z (c.B (5 + 2 * y)) = v (c.B (5 + 2 * y)) := fun y z => ut_ne _ _ fun e => by have := ok.inj _ _ e; have := lc_or q; omega
  have oth : ∀ X, X ≠ q.lc -> ∀ z, ut v (c.B q.lc) z (c.B X) = v (c.B X) := fun X hX z => ut_ne _ _ fun e => hX (ok.inj _ _ e)
  have hmap : ∀ z (L : List Nat), L.map (fun x => ut v (c.B q.lc) z (c.B (5 + 2 * x))) = L.map (fun x => v (c.B (5 + 2 * x))) := fun z L => List.map_congr_left fun y _ => n5 y z
  obtain ⟨xf1, xf2, xf3, xf4, xf5⟩ := xE_facts (c := c) (v := ut v (c.B q.lc) (laidZ h x)) (l' := q.l) (q := q.k + 1)
  obtain ⟨xt1, xt2, xt3⟩ := tv_none (j := i) xf1
  have hhn := fmT_add (f := fun j => hnS (ut k i (xE q.l (q.k + 1)) j)) (f' := fun j => hnS (k j)) (n := c.T) (y := x) hi (by rw [ut_same]; exact xt2) (by rw [hk]; rfl) fun j _ hne => by rw [ut_ne _ _ hne]
  have cel : ∀ X, X = 2 \/ X = 3 -> ut v (c.B q.lc) (laidZ h x) (c.B X) = 65536 * ut a.tg q.lc (a.tg q.lc + 1) X + hdN (ut a.ch q.lc (x :: a.ch q.lc) X) /\ 0 <= ut a.tg q.lc (a.tg q.lc + 1) X /\ ut a.tg q.lc (a.tg q.lc + 1) X <= l.length + 1 /\ Chn c.B (ut v (c.B q.lc) (laidZ h x)) (ut a.ch q.lc (x :: a.ch q.lc) X) := fun X hX => by
    by_cases e : X = q.lc
    · subst e
      rw [ut_same, ut_same, ut_same]
      exact ⟨hlz, by omega, by omega, by rw [n4, t5, <- he, c1], d4.congr fun y _ => n4 y _⟩
    · rw [oth X e, ut_ne _ _ e, ut_ne _ _ e]
      obtain ⟨z1, z2, z3, z4⟩ := I.cel X hX
      exact ⟨z1, z2, by omega, z4.congr fun y _ => n4 y _⟩
  have tg : ∀ X, X = 2 \/ X = 3 -> (ut v (c.B q.lc) (laidZ h x) (c.B X) = v (c.B X) /\ ut a.tg q.lc (a.tg q.lc + 1) X = a.tg X /\ ut a.ch q.lc (x :: a.ch q.lc) X = a.ch X) \/ (v (c.B X) / 65536 < ut a.tg q.lc (a.tg q.lc + 1) X /\ a.tg X <= ut a.tg q.lc (a.tg q.lc + 1) X /\ ut v (c.B q.lc) (laidZ h x) (c.B X) / 65536 = ut a.tg q.lc (a.tg q.lc + 1) X) := fun X hX => by
    by_cases e : X = q.lc
    · subst e
      rw [ut_same, ut_same]
      exact .inr ⟨by omega, by omega, by rw [hlz]; omega⟩
    · exact .inl ⟨oth X e _, ut_ne _ _ e, ut_ne _ _ e⟩
  have hsW := t1.W
  rw [if_pos rfl] at hsW
  have hsl : slS v c.B (k i) = 0 := by
    rw [hk]
    show stC v c.B q.lc h = 0
    unfold stC
    rw [if_pos he]
  have hbr : 2 * (bsS (xE q.l (q.k + 1)) - bsS (k i)) + 3 * (rsS (xE q.l (q.k + 1)) - rsS (k i)) = -44 := by
    rw [hk, xf3, xf4]
    simp only [bsS, rsS]
    omega
  have hbr' : 2 * (bsS (xE q.l (q.k + 1)) - bsS (k i)) + 3 * (rsS (xE q.l (q.k + 1)) - rsS (k i)) <= if ylS (xE q.l (q.k + 1)) = ylS (k i) then -44 else -23 := by
    rw [hbr]; split <;> omega
  by_cases hp : q.push = true
  · have g2 : q.lc = 2 := by unfold CL.lc; rw [if_pos hp]
    have c2' : ut a.ch q.lc (x :: a.ch q.lc) 2 = x :: a.ch 2 := by rw [g2, ut_same]
    have c3' : ut a.ch q.lc (x :: a.ch q.lc) 3 = a.ch 3 := ut_ne _ _ (by omega)
    have hval := t3 hp
    have htv := fmT_add (f := fun j => tvS j (ut k i (xE q.l (q.k + 1)) j)) (f' := fun j => tvS j (k j)) (n := c.T) (y := valN i q.k) hi (by rw [ut_same]; exact xt1) (by rw [hk]; show tvC i q _ = _; unfold tvC; rw [if_pos hp]) fun j _ hne => by rw [ut_ne _ _ hne]
    have p2 := I.vp.trans (perm_p2 (r := (a.ch 2).map fun x => v (c.B (5 + 2 * x))) htv)
    refine Onw.ends (ev := .pushed (valN i q.k) 0) (q := q) ?_ hv (I.shift (a' := { tg := ut a.tg q.lc (a.tg q.lc + 1), ch := ut a.ch q.lc (x :: a.ch q.lc), s := { a.s with last := a.s.last ++ [valN i q.k], busy := a.s.busy - 1 } }) hi hx (by rw [hk, xf2]; rfl) rfl rfl rfl rfl (by rw [xf1]; show a.s.busy - 1 = a.s.busy - 1 + 0; omega) ?_ cel ?_ ?_ I.nd (fun y hy => hy) (xE_TS (by have := t1.kk; omega) hi) tg (fun _ _ y _ => ⟨n4 y _, n5 y _⟩) (fun hT => ?_) ?_ (sokl_snoc I.ok ?_))
    · show norm (if v (c.B q.lc) = h then kL c.B c.F i q y else _) = _
      rw [if_pos he]
      unfold kL
      rw [if_pos hp, norm_kE]
    · rw [sfold_snoc, <- I.s]; exact sstep_in.symm
    · show (ut a.ch q.lc (x :: a.ch q.lc) 2 ++ ut a.ch q.lc (x :: a.ch q.lc) 3 ++ _).Perm _
      rw [c2', c3']
      exact (perm_q3 hhn).symm.trans I.np
    · show a.s.there.Perm ((ut a.ch q.lc (x :: a.ch q.lc) 2).map _ ++ _)
      rw [c2', hmap, List.map_cons, hval]
      exact p2
    · show a.s.last ++ [valN i q.k] = ((ut a.ch q.lc (x :: a.ch q.lc) 2).map _).reverse ++ _
      rw [c2', hmap, List.map_cons, hval, List.reverse_cons, xt3, List.append_nil, I.lone hT]
      have h0 : i = 0 := by omega
      subst h0
      rw [hk]
      show (_ ++ if q.push then [] else [y]) ++ _ = _
      rw [if_pos hp, List.append_nil]
    · refine meas_cas ok hi (X := 2) (.inl rfl) (fun X hX hne => oth X (by rw [g2]; exact hne) _) ?_ hsl xf5 hbr'
      rw [hk]
      show ylC q false = _
      unfold ylC
      rw [if_neg (by rw [hp]; decide)]; rfl
    · rw [<- I.s]
      refine ⟨.inl rfl, p2.mem_iff.2 (by simp), fun h3 h4 => ⟨fun _ => ?_, fun _ => rfl⟩⟩
      have := hsW h3 h4
      rwa [if_pos hp] at this
  · have hp' : q.push = false := by simpa using hp
    have g3 : q.lc = 3 := by unfold CL.lc; rw [if_neg hp]
    have c2' : ut a.ch q.lc (x :: a.ch q.lc) 2 = a.ch 2 := ut_ne _ _ (by omega)
    have c3' : ut a.ch q.lc (x :: a.ch q.lc) 3 = x :: a.ch 3 := by rw [g3, ut_same]
    have htv := fmT_add (f := fun j => tvS j (ut k i (xE q.l (q.k + 1)) j)) (f' := fun j => tvS j (k j)) (n := c.T) (y := y) hi (by rw [ut_same]; exact xt1) (by rw [hk]; show tvC i q _ = _; unfold tvC; rw [if_neg hp]) fun j _ hne => by rw [ut_ne _ _ hne]
    have p2 := I.vp.trans (perm_p2 (r := (a.ch 2).map fun x => v (c.B (5 + 2 * x))) htv)
    have hlast : c.T = 1 -> a.s.last = ((a.ch 2).map fun x => v (c.B (5 + 2 * x))).reverse ++ [y] := fun hT => by
      rw [I.lone hT]
      have h0 : i = 0 := by omega
      subst h0
      rw [hk]
      show (_ ++ if q.push then [] else [y]) = _
      rw [if_neg hp]
    refine Onw.ends (ev := .popped y true) (q := q) ?_ hv (I.shift (a' := { tg := ut a.tg q.lc (a.tg q.lc + 1), ch := ut a.ch q.lc (x :: a.ch q.lc), s := { a.s with there := a.s.there.erase y, last := a.s.last.dropLast, busy := a.s.busy - 1 } }) hi hx (by rw [hk, xf2]; rfl) rfl rfl rfl rfl (by rw [xf1]; show a.s.busy - 1 = a.s.busy - 1 + 0; omega) ?_ cel ?_ ?_ (I.nd.erase _) (fun y hy => List.mem_of_mem_erase hy) (xE_TS (by have := t1.kk; omega) hi) tg (fun _ _ y _ => ⟨n4 y _, n5 y _⟩) (fun hT => ?_) ?_ (sokl_snoc I.ok ?_))
    · show norm (if v (c.B q.lc) = h then kL c.B c.F i q y else _) = _
      rw [if_pos he]
      unfold kL
      rw [if_neg hp, norm_kP]
    · rw [sfold_snoc, <- I.s]; exact sstep_out.symm
    · show (ut a.ch q.lc (x :: a.ch q.lc) 2 ++ ut a.ch q.lc (x :: a.ch q.lc) 3 ++ _).Perm _
      rw [c2', c3']
      exact (perm_p3 hhn).symm.trans I.np
    · show (a.s.there.erase y).Perm ((ut a.ch q.lc (x :: a.ch q.lc) 2).map _ ++ _)
      rw [c2', hmap]
      have := p2.erase y
      rwa [List.cons_append, List.erase_cons_head] at this
    · show a.s.last.dropLast = ((ut a.ch q.lc (x :: a.ch q.lc) 2).map _).reverse ++ _
      rw [c2', hmap, xt3, List.append_nil, hlast hT, List.dropLast_concat]
    · refine meas_cas ok hi (X := 3) (.inr rfl) (fun X hX hne => oth X (by rw [g3]; exact hne) _) ?_ hsl xf5 hbr'
      rw [hk]
      show ylC q false = _
      unfold ylC
      rw [if_pos hp']; rfl
    · rw [<- I.s]
      refine ⟨fun _ => ⟨p2.mem_iff.2 (by simp), fun hl => ?_⟩, fun h3 h4 => ⟨fun _ => ?_, fun _ => rfl⟩⟩
      · have hT : c.T = 1 := by simpa [SP.lone, SP.T] using hl
        rw [hlast hT]; simp
      · have := hsW h3 h4
        rwa [if_neg hp] at this
structure S0 (c : SP) (v0 : Nat -> Int) : Prop where
  l : v0 (c.B 2) = 0
  f : v0 (c.B 3) = 1
  x : ∀ k, 1 <= k -> k <= c.n -> v0 (c.B (4 + 2 * k)) = if k < c.n then (k : Int) + 1 else 0
theorem chn0 {v0 : Nat -> Int} (z : S0 c v0) : ∀ (m k : Nat), 1 <= k -> k + m = c.n + 1 -> Chn c.B v0 (List.range' k m)
  | 0, _, _, _ => trivial
  | m + 1, k, h1, h2 => by
    refine ⟨?_, chn0 z m (k + 1) (by omega) (by omega)⟩
    rw [z.x k h1 (by omega)]
    cases m with
    | zero => rw [if_neg (by omega)]; rfl
    | succ m => rw [if_pos (by omega)]; show (k : Int) + 1 = ((k + 1 : Nat) : Int); omega
theorem sinv_all (ok : c.Ok) {v0 : Nat -> Int} (z : S0 c v0) (R : GR c.P v0 l g S v) : ∃ a k, SInv c l g S v a k := by
  induction R with
  | init =>
    have hk : ∀ i, ∃ x : SC, c.P i = sRes c.B c.F i x /\ (∀ l', c.sc[i]? = some l' -> x = xE l' 0) /\ (c.sc[i]? = none -> x = .fin 0) := fun i => by
      unfold SP.P
      cases e : c.sc[i]? with
      | none => exact ⟨.fin 0, rfl, fun l' h => (by cases h), fun _ => rfl⟩
      | some l' => exact ⟨xE l' 0, sRes_xE.symm, fun l'' h => (by injection h with h; rw [h]), fun h => (by cases h)⟩
    have hc := Classical.axiomOfChoice hk
    obtain ⟨k0, hk0⟩ := hc
    have out : ∀ i, c.T <= i -> k0 i = .fin 0 := fun i hi => (hk0 i).2.2 (List.getElem?_eq_none hi)
    have idle : ∀ i, icS (k0 i) = 0 := fun i => by
      cases e : c.sc[i]? with
      | none => rw [(hk0 i).2.2 e]; rfl
      | some l' => rw [(hk0 i).2.1 l' e]; exact (xE_facts (c := c) (v := v0)).1
    have hb : ∀ j, j < c.T -> bsS (k0 j) = 7 * ((c.sc.getD j []).length : Int) /\ rsS (k0 j) = 21 * ((c.sc.getD j []).length : Int) /\ slS v0 c.B (k0 j) = 0 := fun j hj => by
      have e : c.sc[j]? = some c.sc[j] := List.getElem?_eq_getElem hj
      obtain ⟨-, -, f3, f4, f5⟩ := xE_facts (c := c) (v := v0) (l' := c.sc[j]) (q := 0)
      rw [(hk0 j).2.1 _ e, List.getD_eq_getElem?_getD, e]
      exact ⟨f3, f4, f5⟩
    have hmul : ∀ (z : Int) (n : Nat), sumT (fun j => z * ((c.sc.getD j []).length : Int)) n = z * sumT (fun j => ((c.sc.getD j []).length : Int)) n := fun z n => by
      induction n with
      | zero => simp [sumT]
      | succ n ih =>
        show sumT _ n + z * _ = z * (sumT _ n + _)
        rw [ih, Int.mul_add]
    refine ⟨⟨fun _ => 0, fun X => if X = 3 then List.range' 1 c.n else [], SS.z⟩, k0, fun i => (hk0 i).1, fun i hi => ⟨0, out i hi⟩, rfl, fun X hX => ?_, ?_, ?_, List.nodup_nil, fun y hy => (by cases hy), fun i => ?_, ?_, ?_, fun i h => by have := idle i; omega, fun _ => ?_, ?_, fun g1 x g2 e => by cases g1 <;> cases e⟩
    · rcases hX with rfl | rfl
      · exact ⟨by rw [z.l]; rfl, Int.le_refl _, by show (0 : Int) <= _; simp, trivial⟩
      · have h1 := ok.n1
        refine ⟨?_, Int.le_refl _, by show (0 : Int) <= _; simp, chn0 z c.n 1 (by omega) (by omega)⟩
        rw [z.f]
        show (1 : Int) = 65536 * 0 + hdN (List.range' 1 c.n)
        obtain ⟨m, hm⟩ : ∃ m, c.n = m + 1 := ⟨c.n - 1, by omega⟩
        rw [hm]; rfl
    · rw [fmT_none fun j _ => (tv_none (j := j) (idle j)).2.1]
      show ([] ++ List.range' 1 c.n ++ []).Perm _
      simp
    · rw [fmT_none fun j _ => (tv_none (j := j) (idle j)).1]
      exact List.Perm.refl _
    · by_cases hi : i < c.T
      · have e : c.sc[i]? = some c.sc[i] := List.getElem?_eq_getElem hi
        rw [(hk0 i).2.1 _ e]
        exact xE_TS (by have := ok.len _ (List.getElem_mem hi); omega) hi
      · rw [out i (by omega)]; show 0 <= 400; omega
    · rw [sumT_congr (g := fun _ => 0) fun j _ => idle j, sumT_zero]; rfl
    · rw [sumT_congr (g := fun _ => 0) fun j hj => by rw [(hk0 j).2.1 _ (List.getElem?_eq_getElem hj), (xE_facts (c := c) (v := v0)).2.1]; rfl, sumT_zero]; rfl
    · rw [(tv_none (j := 0) (idle 0)).2.2]; rfl
    · have e1 := sumT_congr (n := c.T) (f := fun j => bsS (k0 j)) (g := fun j => 7 * ((c.sc.getD j []).length : Int)) fun j hj => (hb j hj).1
      have e2 := sumT_congr (n := c.T) (f := fun j => rsS (k0 j)) (g := fun j => 21 * ((c.sc.getD j []).length : Int)) fun j hj => (hb j hj).2.1
      have e3 := sumT_congr (n := c.T) (f := fun j => slS v0 c.B (k0 j)) (g := fun _ => 0) fun j hj => (hb j hj).2.2
      have yn := fun j => (bs_nn (c := c) (v := v0) (k0 j)).2.2.1
      have y1 := fun j => (bs_nn (c := c) (v := v0) (k0 j)).2.2.2.1
      have hT := ok.T8
      have Y0 := sumT_nn (f := fun j => ylS (k0 j)) (n := c.T) fun j _ => yn j
      have Y1 := sumT_up (f := fun j => ylS (k0 j)) (b := 1) (n := c.T) fun j _ => y1 j
      have hq : sumT (fun j => ylS (k0 j)) c.T * (sumT (fun j => ylS (k0 j)) c.T - 8) <= 0 := Int.mul_nonpos_of_nonneg_of_nonpos Y0 (by omega)
      have hN : c.N = sumT (fun j => ((c.sc.getD j []).length : Int)) c.T := rfl
      unfold meas
      rw [e1, e2, e3, hmul, hmul, sumT_zero, <- hN]
      simp only [List.length_nil]
      omega
  | @tell l g S v i _ ih =>
    obtain ⟨a, k, I⟩ := ih
    by_cases hr : ∃ b l' q, k i = .raw (b :: l') q
    · obtain ⟨b, l', q, hk⟩ := hr
      have e1 : ut S i (stP c.B c.F i (b :: l') q) = S := by
        have : S i = stP c.B c.F i (b :: l') q := by rw [I.res i, hk]; rfl
        rw [<- this, ut_self]
      have e2 : ut k i (xE (b :: l') q) = k := by
        have : k i = xE (b :: l') q := hk
        rw [<- this, ut_self]
      rw [show S i = stP c.B c.F i (b :: l') q by rw [I.res i, hk]; rfl, norm_stP]
      exact SInv.goon (l' := b :: l') (q := q) (by rw [e1, e2]; exact I)
    · have hn : norm (S i) = ([], S i) := by
        rw [I.res i]
        rcases ic_or (k i) with h | h
        · cases hk : k i with
          | fin q => rfl
          | raw l' q =>
            rcases l' with - | ⟨b, l'⟩
            · rfl
            · exact absurd ⟨b, l', q, hk⟩ hr
          | _ => rw [hk] at h; cases h
        · exact norm_sRes h
      rw [hn]
      refine ⟨a, k, ?_⟩
      rw [ut_self]
      simpa using I
  | @step l g S v i r kk _ hS ih =>
    obtain ⟨a, k, I⟩ := ih
    cases hk : k i with
    | fin q =>
      have := I.res i
      rw [hS, hk] at this; cases this
    | raw l' q =>
      have := I.res i
      rw [hS, hk] at this
      rcases l' with - | ⟨b, l'⟩
      · cases this
      · cases b <;> cases this
    | g0 q f =>
      by_cases hz : a.ch q.gc = []
      · exact step_g0z ok I hk hz hS
      · exact step_g0 ok I hk hz hS
    | g1 q f h => exact step_g1 ok I hk hS
    | g2 q f h m =>
      by_cases he : v (c.B q.gc) = h
      · exact step_g2 ok I hk he hS
      · exact step_g2f I hk he hS
    | vl q x y => exact step_vl ok I hk hS
    | l0 q x y f => exact step_l0 ok I hk hS
    | l1 q x y f h => exact step_l1 I ok hk hS
    | l2 q x y f h =>
      by_cases he : v (c.B q.lc) = h
      · exact step_l2 ok I hk he hS
      · exact step_l2f I hk he hS
end
end
section
open Go Go.TJ Go.Conc Go.Proofs
def KeyI (es : Array MapEntry) (l : List Int) : Prop := es.toList.map (fun e => (e.key, e.val)) = l.map (fun y => (Value.int .i64 y, Value.int .i64 1))
theorem KeyI.nil : KeyI #[] [] := rfl
theorem KeyI.push {es : Array MapEntry} {l : List Int} (hk : KeyI es l) (y : Int) (c : Nat) : KeyI (es.push { key := .int .i64 y, val := .int .i64 1, born := c }) (l ++ [y]) := by
  unfold KeyI at *
  simp [hk]
theorem KeyI.size {es : Array MapEntry} {l : List Int} (hk : KeyI es l) : es.size = l.length := by
  have := congrArg List.length hk
  simpa using this
theorem map_eraseIdx' {A C : Type} {f : A -> C} : ∀ (l : List A) (i : Nat), (l.eraseIdx i).map f = (l.map f).eraseIdx i
  | [], _ => rfl
  | _ :: _, 0 => rfl
  | x :: l, i + 1 => by
    show f x :: (l.eraseIdx i).map f = f x :: (l.map f).eraseIdx i
    rw [map_eraseIdx' l i]
theorem KeyI.erase {es : Array MapEntry} {l : List Int} (hk : KeyI es l) (y : Int) (hy : y ∈ l) : KeyI (es.eraseIdxIfInBounds (l.idxOf y)) (l.erase y) := by
  have hlt : l.idxOf y < es.size := by rw [hk.size]; exact List.idxOf_lt_length_iff.2 hy
  unfold KeyI at *
  rw [Array.eraseIdxIfInBounds, dif_pos hlt, Array.toList_eraseIdx, List.erase_eq_eraseIdx_of_idxOf (i := l.idxOf y) rfl, map_eraseIdx', map_eraseIdx', hk]
section
variable {Γ : Type} {P : Program} {S : Sit Γ} {h : Hp} {δ : Ix Γ}
theorem findNow_i {y : Int} : ∀ (es : List MapEntry) (l : List Int) (i : Nat), es.map (fun e => (e.key, e.val)) = l.map (fun y => (Value.int .i64 y, Value.int .i64 1)) -> Instr.findNow (.int .i64) (.int .i64 y) es i = some (if y ∈ l then some (i + l.idxOf y, .int .i64 1) else none)
  | [], [], _, _ => by simp [Instr.findNow]
  | [], _ :: _, _, hl => by cases hl
  | _ :: _, [], _, hl => by cases hl
  | e :: es, z :: l, i, hl => by
    injection hl with h1 h2
    injection h1 with h3 h4
    unfold Instr.findNow
    rw [h3, h4]
    have hs : Instr.sameNow (.int .i64) (.int .i64 y) (.int .i64 z) = some (y == z) := by simp [Instr.sameNow]
    rw [hs]
    by_cases e : y = z
    · subst e
      simp
    · have e' : (y == z) = false := by simpa using e
      have e2 : (z == y) = false := by simpa using Ne.symm e
      rw [e']
      dsimp only
      rw [findNow_i es l (i + 1) h2]
      by_cases m : y ∈ l
      · rw [if_pos m, if_pos (List.mem_cons_of_mem _ m), List.idxOf_cons, e2]
        simp only [cond_false]
        rw [show i + 1 + l.idxOf y = i + (l.idxOf y + 1) by omega]
      · rw [if_neg m, if_neg (by simp [e, m])]
theorem semW_findI {kt : TypeId} (hu : P.underlying kt = some (.int .i64)) {es : Array MapEntry} {l : List Int} {y : Int} (hk : KeyI es l) {Q : Option (Nat × Value) -> Hp -> Ix Γ -> Prop} {X : Value -> Hp -> Ix Γ -> Prop} (hq : Q (if y ∈ l then some (l.idxOf y, .int .i64 1) else none) h δ) : SemW P S (Instr.findKey kt (.int .i64 y) es.toList) h δ Q X := by
  unfold Instr.findKey
  refine semW_underlying hu ?_
  rw [findNow_i es.toList l 0 hk, Nat.zero_add]
  exact hq
theorem semW_checkI {kt : TypeId} (hu : P.underlying kt = some (.int .i64)) {b : Bool} {v : Value} {Q : Unit -> Hp -> Ix Γ -> Prop} {X : Value -> Hp -> Ix Γ -> Prop} (hq : Q () h δ) : SemW P S (Instr.checkKey b 10000 kt v) h δ Q X := by
  show SemW P S (Instr.checkKey b (9999 + 1) kt v) h δ Q X
  unfold Instr.checkKey
  refine semW_underlying hu ?_
  exact hq
theorem semW_lookI {t kt et : TypeId} (ht : P.underlying t = some (.map kt et)) (hu : P.underlying kt = some (.int .i64)) {r c : Nat} {es : Array MapEntry} {l : List Int} {y : Int} (hr : h[r]? = some (.map es c)) (hk : KeyI es l) (hy : y ∈ l) {Q : Value -> Hp -> Ix Γ -> Prop} {X : Value -> Hp -> Ix Γ -> Prop} (hq : Q (.int .i64 1) h δ) :
    SemW P S (Instr.lookup t (.map (some r)) (.int .i64 y) false) h δ Q X := by
  unfold Instr.lookup
  refine semW_underlying ht ?_
  refine ⟨_, hr, nofun, ?_⟩
  refine semW_pureBind (a := Obj.map es c) ?_
  refine semW_pureBind (a := es) ?_
  refine semW_bind _ _ _ _ _ _ (semW_checkI hu ?_)
  refine semW_bind _ _ _ _ _ _ (semW_findI hu hk ?_)
  rw [if_pos hy]
  exact hq
theorem semW_newI {t kt et : TypeId} (ht : P.underlying t = some (.map kt et)) (hu : P.underlying kt = some (.int .i64)) {r c : Nat} {es : Array MapEntry} {l : List Int} {y : Int} {v : Value} (hr : h[r]? = some (.map es c)) (hk : KeyI es l) (hy : y ∉ l) {Q : Unit -> Hp -> Ix Γ -> Prop} {X : Value -> Hp -> Ix Γ -> Prop}
    (hq : Q () (h.setIfInBounds r (.map (es.push { key := .int .i64 y, val := v, born := c }) (c + 1))) δ) : SemW P S (Instr.mapUpdate t (.map (some r)) (.int .i64 y) v) h δ Q X := by
  unfold Instr.mapUpdate
  refine semW_underlying ht ?_
  refine ⟨_, hr, nofun, ?_⟩
  refine semW_pureBind (a := Obj.map es c) ?_
  refine semW_bind _ _ _ _ _ _ (semW_checkI hu ?_)
  refine semW_bind _ _ _ _ _ _ (semW_findI hu hk ?_)
  rw [if_neg hy]
  exact ⟨rfl, nofun, ⟨_, hr, nofun, rfl⟩, hq⟩
theorem semW_delI {t kt kt' et ty : TypeId} (ht : P.underlying t = some (.map kt et)) (hu : P.underlying kt = some (.int .i64)) {r c : Nat} {es : Array MapEntry} {l : List Int} {y : Int} (hr : h[r]? = some (.map es c)) (hk : KeyI es l) (hy : y ∈ l) {Q : Value -> Hp -> Ix Γ -> Prop} {X : Value -> Hp -> Ix Γ -> Prop}
    (hq : Q (.tuple #[]) (h.setIfInBounds r (.map (es.eraseIdxIfInBounds (l.idxOf y)) c)) δ) : SemW P S (Builtin.delete_ #[t, kt'] ty #[.map (some r), .int .i64 y]) h δ Q X := by
  unfold Builtin.delete_
  refine semW_underlying ht ?_
  refine semW_bind _ _ _ _ _ _ ?_
  refine ⟨_, hr, nofun, ?_⟩
  refine semW_pureBind (a := Obj.map es c) ?_
  refine semW_bind _ _ _ _ _ _ (semW_checkI hu ?_)
  refine semW_bind _ _ _ _ _ _ (semW_findI hu hk ?_)
  rw [if_pos hy]
  exact ⟨rfl, nofun, ⟨_, hr, nofun, rfl⟩, hq⟩
end
section
variable {Γ : Type} {P : Program} {main : Bool} {S : Sit Γ} {f : FuncId} {n : Nat} {k : List Item} {env : Env} {ds : List Deferred} {h : Hp} {δ : Ix Γ} {R : Post Γ}
variable {ops : Array Oper} {l : List Oper} {d : Nat} {ty : TypeId} {pos : String} {af : Array Edge} {g : Option (Nat × Bool)}
theorem ER.lookI {t kt et : TypeId} [ht : Und P t (.map kt et)] [hu : Und P kt (.int .i64)] {x y : Operand} {r c : Nat} {es : Array MapEntry} {ls : List Int} {z : Int}
    (hw : wantE ops env g = some true) (hd : Nat.blt d n = true) (hx : ev env x = some (.map (some r))) (hy : ev env y = some (.int .i64 z)) (hr : h[r]? = some (.map es c)) (hk : KeyI es ls) (hz : z ∈ ls)
    (hn : ER P main S f n ops l k ((d, .int .i64 1) :: env) ds h δ R) : ER P main S f n ops (⟨some d, .lookup t x y false, ty, pos, af, g⟩ :: l) k env ds h δ R :=
  ER.to hw hd (fun ρ Q X hρ hq => by
    show SemW P S (Instr.lookup t (ρ x) (ρ y) false >>= fun v => pure (.value v)) h δ Q X
    rw [hρ x _ hx, hρ y _ hy]
    exact semW_bind _ _ _ _ _ _ (semW_lookI ht.out hu.out hr hk hz hq)) hn
theorem ER.newI {t kt et : TypeId} [ht : Und P t (.map kt et)] [hu : Und P kt (.int .i64)] {x y q : Operand} {r c : Nat} {es : Array MapEntry} {ls : List Int} {z : Int} {v : Value}
    (hw : wantE ops env g = some true) (hx : ev env x = some (.map (some r))) (hy : ev env y = some (.int .i64 z)) (hq : ev env q = some v) (hr : h[r]? = some (.map es c)) (hk : KeyI es ls) (hz : z ∉ ls)
    (hn : ER P main S f n ops l k env ds (h.setIfInBounds r (.map (es.push { key := .int .i64 z, val := v, born := c }) (c + 1))) δ R) : ER P main S f n ops (⟨none, .mapUpdate t x y q, ty, pos, af, g⟩ :: l) k env ds h δ R :=
  ER.toU hw (fun ρ Q X hρ hq' => by
    show SemW P S (Instr.mapUpdate t (ρ x) (ρ y) (ρ q) >>= fun _ => pure .skip) h δ Q X
    rw [hρ x _ hx, hρ y _ hy, hρ q _ hq]
    exact semW_bind _ _ _ _ _ _ (semW_newI ht.out hu.out hr hk hz hq')) hn
theorem ER.delI {t kt kt' et : TypeId} [ht : Und P t (.map kt et)] [hu : Und P kt (.int .i64)] {x y : Operand} {r c : Nat} {es : Array MapEntry} {ls : List Int} {z : Int}
    (hw : wantE ops env g = some true) (hx : ev env x = some (.map (some r))) (hy : ev env y = some (.int .i64 z)) (hr : h[r]? = some (.map es c)) (hk : KeyI es ls) (hz : z ∈ ls)
    (hn : ER P main S f n ops l k env ds (h.setIfInBounds r (.map (es.eraseIdxIfInBounds (ls.idxOf z)) c)) δ R) : ER P main S f n ops (⟨none, .call { callee := .builtin .delete, args := #[x, y], argTypes := #[t, kt'] }, ty, pos, af, g⟩ :: l) k env ds h δ R :=
  ER.unit (Q := fun h' δ' => h' = h.setIfInBounds r (.map (es.eraseIdxIfInBounds (ls.idxOf z)) c) /\ δ' = δ) hw (fun ρ hρ => sem_builtin (vs := #[.map (some r), .int .i64 z]) (by simp [hρ x _ hx, hρ y _ hy]) fun cs => by
    show SemW P S (Builtin.delete_ #[t, kt'] ty #[.map (some r), .int .i64 z] >>= fun v => pure (Next.value v)) h δ _ _
    exact semW_bind _ _ _ _ _ _ (semW_delI ht.out hu.out hr hk hz ⟨.inr ⟨_, rfl⟩, rfl, rfl⟩)) (by rintro _ _ ⟨rfl, rfl⟩; exact hn)
end
end
section
open Go Go.TJ Go.Conc Go.Proofs
section
variable {X : Us} [HasE X] {A : Type} {P : Nat -> Pr A} {told : X.U -> Nat -> List A} {n : Nat} {B : Nat -> Nat} {i : Nat} {γ γ' : GG X} {u : X.U} {L : List (Nat × Obj)} {h : Hp}
theorem StkH.item (s : StkH n B h) {k : Nat} (hk : k <= n) : hcell h ⟨B 1, 0 + k * 2, none⟩ = some (ptr (B (4 + 2 * k))) /\ hcell h ⟨B 1, 0 + k * 2 + 1, none⟩ = some (ptr (B (5 + 2 * k))) := by
  have := itemsL_get (n := n + 1) B (i := k) (by omega)
  rw [show 0 + k * 2 = 2 * k by omega]
  exact ⟨hcell_of s.o1 (by simp only [List.getElem?_toArray]; exact this.1), hcell_of s.o1 (by simp only [List.getElem?_toArray]; exact this.2)⟩
set_option maxRecDepth 8000 in
set_option maxHeartbeats 4000000 in
theorem get_T (K : StkX X P told n B) {c f : Nat} {k : Int -> Pr A} (a : AtP X P told n B i γ u L h (getP B c k f)) (hc : c = 2 \/ c = 3) (hf : 65536 < f + (ownOf i (γ.p.acc i).log).length) {t : Nat} (ht : t = γ.p.tb i) :
    CallW Try.prog false (SitT Try.prog (PX X) (i + 1)) 32 #[ptr (B 0), ptr t, ptr (B c)] h ⟨0, γ⟩ (RetP (fun w h' δ' => ∃ (γ' : GG X) (x : Nat), δ' = ⟨0, γ'⟩ /\ w = .int .i64 x /\ x <= n /\ Nxt X P told n B i γ u L γ' h' (k x)) (Halt X i γ.p)) := by
  subst ht
  have hn := K.hn
  refine CallW.start (n := 35) rfl rfl ?_
  (repeat (first | refine EK.seq ?_ | refine EK.region ?_ | refine ER.done ?_ | refine EK.block ?_ | refine ER.assign rfl rfl rfl ?_))
  refine EK.loopInv (fun _ : GG X × X.U × Nat => [(0, ptr (B 0)), (1, ptr (γ.p.tb i)), (2, ptr (B c))]) (fun q h' δ' => δ' = ⟨0, q.1⟩ /\ AtP X P told n B i q.1 q.2.1 L h' (getP B c k q.2.2) /\ Along X i γ.p q.1.p /\ X.V i u q.2.1 /\ (ownOf i (γ.p.acc i).log).length <= (ownOf i (q.1.p.acc i).log).length /\ 65536 < q.2.2 + (ownOf i (q.1.p.acc i).log).length) (fun q => q.2.2) (γ, u, f) ⟨rfl, rfl, rfl, trivial⟩ ⟨rfl, a, Along.refl _ _, K.ok.vrefl _ _, Nat.le_refl _, hf⟩ ?_
  clear a hf
  rintro ⟨γ1, u1, f1⟩ h1 δ1 ⟨hδ, a1, al, hV, hle, hf1⟩ again
  dsimp only at a1 al hV hle hf1 again hδ ⊢
  subst hδ
  have hl1 := a1.len
  obtain ⟨f2, rfl⟩ : ∃ f2, f1 = f2 + 1 := ⟨f1 - 1, by omega⟩
  have hbc : X.isC (B c) := K.cell c (by omega) (by omega) (by omega) (by omega)
  (repeat (first | refine EK.seq ?_ | refine EK.region ?_ | refine EK.block ?_ | refine ER.move rfl rfl rfl ?_))
  refine ER.callP rfl rfl rfl rfl rfl (loadS K a1 hbc al.tb.symm) (fun _ _ _ x => x.along al) ?_
  rintro _ h2 δ2 ⟨γ2, rfl, rfl, nx2, j2⟩
  generalize hv : γ2.p.val (B c) = v at nx2 ⊢
  have hvn : v % 65536 <= n := by
    rw [<- hv]
    rcases hc with rfl | rfl
    · exact j2.l
    · exact j2.f
  (repeat (first | refine EK.seq ?_ | refine EK.region ?_ | refine ER.done ?_ | refine ER.move rfl rfl rfl ?_ | refine ER.assign rfl rfl rfl ?_))
  refine ER.callD rfl rfl rfl rfl rfl node_ok ?_
  by_cases hz : v % 65536 = 0
  · rw [if_pos hz] at nx2
    rw [hz]
    (repeat (first | refine EK.seq ?_ | refine EK.region ?_ | refine ER.done ?_ | refine ER.move rfl rfl rfl ?_ | refine ER.assign rfl rfl rfl ?_ | refine ER.no rfl rfl ?_ | refine ER.pickT rfl rfl rfl rfl ?_ | refine ER.cmpT rfl rfl rfl rfl rfl (by first | (dsimp only [cmpP]; omega) | exact rfl | exact Int.le_refl _) ?_ | refine EK.condT rfl ?_ | refine EK.ret ?_))
    exact EU.ret1 rfl rfl ⟨γ2, 0, rfl, rfl, by omega, al.trans nx2.al, nx2.at_, K.ok.vtrans _ _ _ _ hV nx2.V, Nat.lt_of_le_of_lt hle nx2.len⟩
  · obtain ⟨kk, hk⟩ : ∃ kk : Nat, v % 65536 = kk := ⟨(v % 65536).toNat, by omega⟩
    rw [if_neg hz, hk, Int.toNat_natCast] at nx2
    rw [hk]
    have s2 := K.mem _ _ nx2.at_.thr.I
    have ci : hcell h2 ⟨B 0, 2, none⟩ = some (.slice (some ⟨B 1, 0, none⟩) (n + 1) (n + 1)) := hcell_of s2.o0 rfl
    have cn := (s2.item (k := kk) (by omega)).1
    have al2 := al.trans nx2.al
    clear s2
    (repeat (first | refine EK.seq ?_ | refine EK.region ?_ | refine ER.done ?_ | refine ER.move rfl rfl rfl ?_ | refine ER.assign rfl rfl rfl ?_ | refine ER.nilCheck rfl rfl rfl ?_ | refine ER.fieldAddr rfl rfl rfl ?_ | refine ER.cmpF rfl rfl rfl rfl rfl (by first | (dsimp only [cmpP]; omega) | exact rfl | exact Int.le_refl _) ?_ | refine ER.indexSl rfl rfl rfl rfl (by omega) (by omega) ?_ | refine ER.load1 rfl rfl rfl (by assumption) ?_))
    refine ER.callP rfl rfl rfl rfl rfl (loadS K nx2.at_ (K.cell (4 + 2 * kk) (by omega) (by omega) (by omega) (by omega)) al2.tb.symm) (fun _ _ _ x => x.along al2) ?_
    rintro _ h3 δ3 ⟨γ3, rfl, rfl, nx3, j3⟩
    obtain ⟨m1, m2⟩ := j3.x kk (by omega) (by omega)
    generalize γ3.p.val (B (4 + 2 * kk)) = m at nx3 m1 m2 ⊢
    have al3 := al2.trans nx3.al
    refine ER.callD rfl rfl rfl rfl rfl laid_ok ?_
    refine ER.callP rfl rfl rfl rfl rfl (casS K nx3.at_ hbc (.inr (.inl ⟨rfl, hc.imp (fun e => by rw [e]) (fun e => by rw [e]), by dsimp only; rw [laidZ_mod (by omega) (by omega)]; exact m2⟩)) al3.tb.symm) (fun _ _ _ x => x.along al3) ?_
    rintro _ h4 δ4 ⟨γ4, rfl, rfl, nx4, j4⟩
    have nx := (nx2.trans K.ok nx3).trans K.ok nx4
    have l2 := nx2.len
    have l3 := nx3.len
    have l4 := nx4.len
    by_cases hw : γ4.p.val (B c) = v
    · rw [if_pos hw] at nx
      rw [decide_eq_true hw]
      (repeat (first | refine EK.seq ?_ | refine EK.region ?_ | refine ER.done ?_ | refine ER.move rfl rfl rfl ?_ | refine ER.assign rfl rfl rfl ?_ | refine ER.pickF rfl rfl rfl rfl ?_ | refine EK.condT rfl ?_ | refine EK.ret ?_))
      exact EU.ret1 rfl rfl ⟨γ4, kk, rfl, rfl, by omega, al.trans nx.al, nx.at_, K.ok.vtrans _ _ _ _ hV nx.V, Nat.lt_of_le_of_lt hle nx.len⟩
    · rw [if_neg hw] at nx
      rw [decide_eq_false hw]
      (repeat (first | refine ER.done ?_ | refine EK.skip ?_ | refine EK.inBlock ?_ | refine ER.pickF rfl rfl rfl rfl ?_ | refine EK.condF rfl ?_))
      exact EK.back (again (γ4, γ4.p.u, f2) _ _ (by dsimp only; omega) ⟨rfl, nx.at_, al.trans nx.al, K.ok.vtrans _ _ _ _ hV nx.V, by dsimp only; omega, by dsimp only; omega⟩) ⟨rfl, rfl, rfl, trivial⟩
set_option maxRecDepth 8000 in
set_option maxHeartbeats 4000000 in
theorem lay_T (K : StkX X P told n B) {c f x : Nat} {k : Pr A} (a : AtP X P told n B i γ u L h (layP B c x k f)) (hc : c = 2 \/ c = 3) (hx1 : 1 <= x) (hxn : x <= n) (hf : 65536 < f + (ownOf i (γ.p.acc i).log).length) {t : Nat} (ht : t = γ.p.tb i) :
    CallW Try.prog false (SitT Try.prog (PX X) (i + 1)) 34 #[ptr (B 0), ptr t, ptr (B c), .int .i64 x] h ⟨0, γ⟩ (RetP (fun _ h' δ' => ∃ γ' : GG X, δ' = ⟨0, γ'⟩ /\ Nxt X P told n B i γ u L γ' h' k) (Halt X i γ.p)) := by
  subst ht
  have hn := K.hn
  refine CallW.start (n := 31) rfl rfl ?_
  (repeat refine EK.block ?_)
  refine EK.loopInv (fun _ : GG X × X.U × Nat => [(0, ptr (B 0)), (1, ptr (γ.p.tb i)), (2, ptr (B c)), (3, .int .i64 x)]) (fun q h' δ' => δ' = ⟨0, q.1⟩ /\ AtP X P told n B i q.1 q.2.1 L h' (layP B c x k q.2.2) /\ Along X i γ.p q.1.p /\ X.V i u q.2.1 /\ (ownOf i (γ.p.acc i).log).length <= (ownOf i (q.1.p.acc i).log).length /\ 65536 < q.2.2 + (ownOf i (q.1.p.acc i).log).length) (fun q => q.2.2) (γ, u, f) ⟨rfl, rfl, rfl, rfl, trivial⟩ ⟨rfl, a, Along.refl _ _, K.ok.vrefl _ _, Nat.le_refl _, hf⟩ ?_
  clear a hf
  rintro ⟨γ1, u1, f1⟩ h1 δ1 ⟨hδ, a1, al, hV, hle, hf1⟩ again
  dsimp only at a1 al hV hle hf1 again hδ ⊢
  subst hδ
  have hl1 := a1.len
  obtain ⟨f2, rfl⟩ : ∃ f2, f1 = f2 + 1 := ⟨f1 - 1, by omega⟩
  have hbc : X.isC (B c) := K.cell c (by omega) (by omega) (by omega) (by omega)
  (repeat (first | refine EK.seq ?_ | refine EK.region ?_ | refine EK.block ?_ | refine ER.move rfl rfl rfl ?_))
  refine ER.callP rfl rfl rfl rfl rfl (loadS K a1 hbc al.tb.symm) (fun _ _ _ x => x.along al) ?_
  rintro _ h2 δ2 ⟨γ2, rfl, rfl, nx2, j2⟩
  generalize hv : γ2.p.val (B c) = v at nx2 ⊢
  have hvn : v % 65536 <= n := by
    rw [<- hv]
    rcases hc with rfl | rfl
    · exact j2.l
    · exact j2.f
  have s2 := K.mem _ _ nx2.at_.thr.I
  have ci : hcell h2 ⟨B 0, 2, none⟩ = some (.slice (some ⟨B 1, 0, none⟩) (n + 1) (n + 1)) := hcell_of s2.o0 rfl
  have cn := (s2.item (k := x) hxn).1
  have al2 := al.trans nx2.al
  clear s2
  (repeat (first | refine EK.seq ?_ | refine ER.done ?_ | refine ER.assign rfl rfl rfl ?_))
  refine EK.regionAny (fun h' => hcell h' ⟨B 0, 2, none⟩ = some (.slice (some ⟨B 1, 0, none⟩) (n + 1) (n + 1)) /\ hcell h' ⟨B 1, 0 + x * 2, none⟩ = some (ptr (B (4 + 2 * x)))) ?_
  have hZ := And.intro ci cn
  refine EA.tMove 0 rfl (by kernel_rfl) rfl rfl rfl rfl hZ ?_
  refine EA.tNil 1 rfl (by kernel_rfl) rfl rfl rfl rfl hZ ?_
  refine EA.tField 2 rfl (by kernel_rfl) rfl rfl rfl rfl hZ ?_
  refine EA.tLoad 3 rfl (by kernel_rfl) rfl rfl rfl rfl (fun _ hz => hz.1) hZ ?_
  refine EA.tMove 4 rfl (by kernel_rfl) rfl rfl rfl rfl hZ ?_
  refine EA.tIdxS 5 rfl (by kernel_rfl) rfl rfl rfl rfl rfl (by omega) (by omega) hZ ?_
  refine EA.tField 6 rfl (by kernel_rfl) rfl rfl rfl rfl hZ ?_
  refine EA.tLoad 7 rfl (by kernel_rfl) rfl rfl rfl rfl (fun _ hz => hz.2) hZ ?_
  refine EA.tMove 8 rfl (by kernel_rfl) rfl rfl rfl rfl hZ ?_
  refine EA.tMove 9 rfl (by kernel_rfl) rfl rfl rfl rfl hZ ?_
  refine EA.callD 10 rfl (by kernel_rfl) rfl rfl rfl rfl rfl rfl node_ok hZ ?_
  refine eaCallP 11 rfl (by kernel_rfl) rfl rfl rfl rfl rfl rfl (storeS K nx2.at_ (K.cell (4 + 2 * x) (by omega) (by omega) (by omega) (by omega)) (.inr (.inr (.inl ⟨rfl, x, hx1, hxn, rfl, by dsimp only; omega, by dsimp only; omega⟩))) al2.tb.symm) (fun _ _ _ x => x.along al2) ?_
  rintro _ h3 δ3 ⟨γ3, rfl, rfl, nx3, j3⟩
  have s3 := K.mem _ _ nx3.at_.thr.I
  refine ⟨⟨hcell_of s3.o0 rfl, (s3.item (k := x) hxn).1⟩, ?_⟩
  refine EA.done (by kernel_rfl) ?_
  have al3 := al2.trans nx3.al
  clear s3 ci cn hZ
  (repeat (first | refine EK.seq ?_ | refine EK.region ?_ | refine ER.move rfl rfl rfl ?_))
  refine ER.callD rfl rfl rfl rfl rfl laid_ok ?_
  refine ER.callP rfl rfl rfl rfl rfl (casS K nx3.at_ hbc (.inr (.inl ⟨rfl, hc.imp (fun e => by rw [e]) (fun e => by rw [e]), by dsimp only; rw [laidZ_mod (by omega) (by omega)]; omega⟩)) al3.tb.symm) (fun _ _ _ x => x.along al3) ?_
  rintro _ h4 δ4 ⟨γ4, rfl, rfl, nx4, j4⟩
  have nx := (nx2.trans K.ok nx3).trans K.ok nx4
  have l2 := nx2.len
  have l3 := nx3.len
  have l4 := nx4.len
  by_cases hw : γ4.p.val (B c) = v
  · rw [if_pos hw] at nx
    rw [decide_eq_true hw]
    (repeat (first | refine ER.done ?_ | refine EK.condT rfl ?_ | refine EK.ret ?_))
    exact EU.ret0 rfl ⟨γ4, rfl, al.trans nx.al, nx.at_, K.ok.vtrans _ _ _ _ hV nx.V, Nat.lt_of_le_of_lt hle nx.len⟩
  · rw [if_neg hw] at nx
    rw [decide_eq_false hw]
    (repeat (first | refine ER.done ?_ | refine EK.skip ?_ | refine EK.inBlock ?_ | refine EK.condF rfl ?_))
    exact EK.back (again (γ4, γ4.p.u, f2) _ _ (by dsimp only; omega) ⟨rfl, nx.at_, al.trans nx.al, K.ok.vtrans _ _ _ _ hV nx.V, by dsimp only; omega, by dsimp only; omega⟩) ⟨rfl, rfl, rfl, rfl, trivial⟩
set_option maxRecDepth 8000 in
set_option maxHeartbeats 4000000 in
theorem push_T (K : StkX X P told n B) {f : Nat} {v : Int} {k : Int -> Pr A} (a : AtP X P told n B i γ u L h (pushP B v k f)) (hf : 65536 < f + (ownOf i (γ.p.acc i).log).length) {t : Nat} (ht : t = γ.p.tb i) :
    CallW Try.prog false (SitT Try.prog (PX X) (i + 1)) 10 #[ptr (B 0), ptr t, .int .i64 v] h ⟨0, γ⟩ (RetP (fun w h' δ' => ∃ (γ' : GG X) (e : Int), δ' = ⟨0, γ'⟩ /\ w = .int .i64 e /\ Nxt X P told n B i γ u L γ' h' (k e)) (Halt X i γ.p)) := by
  subst ht
  have hn := K.hn
  have s0 := K.mem _ _ a.thr.I
  have ci : hcell h ⟨B 0, 2, none⟩ = some (.slice (some ⟨B 1, 0, none⟩) (n + 1) (n + 1)) := hcell_of s0.o0 rfl
  have cf : hcell h ⟨B 0, 1, none⟩ = some (ptr (B 3)) := hcell_of s0.o0 rfl
  clear s0
  refine CallW.start (n := 47) rfl rfl ?_
  (repeat (first | refine EK.seq ?_ | refine EK.region ?_ | refine ER.done ?_ | refine EK.skip ?_ | refine ER.move rfl rfl rfl ?_ | refine ER.assign rfl rfl rfl ?_ | refine ER.nilCheck rfl rfl rfl ?_ | refine ER.fieldAddr rfl rfl rfl ?_ | refine ER.eqV rfl rfl rfl rfl rfl ?_ | refine ER.pickF rfl rfl rfl rfl ?_ | refine ER.cmpF rfl rfl rfl rfl rfl (by first | (dsimp only [cmpP]; omega) | exact rfl | exact Int.le_refl _) ?_ | refine ER.len1 rfl rfl rfl ?_ | refine EK.condF rfl ?_ | refine ER.load1 rfl rfl rfl (by assumption) ?_))
  refine ER.callP rfl rfl rfl rfl rfl (get_T K (c := 3) a (.inr rfl) hf rfl) (fun _ _ _ x => x) ?_
  rintro _ h1 δ1 ⟨γ1, x, rfl, rfl, hx, nx1⟩
  clear ci cf
  by_cases hx0 : x = 0
  · subst hx0
    (repeat (first | refine EK.seq ?_ | refine EK.region ?_ | refine ER.done ?_ | refine ER.move rfl rfl rfl ?_ | refine ER.assign rfl rfl rfl ?_ | refine ER.cmpT rfl rfl rfl rfl rfl (by first | (dsimp only [cmpP]; omega) | exact rfl | exact Int.le_refl _) ?_ | refine EK.condT rfl ?_ | refine EK.ret ?_))
    exact EU.ret1 rfl rfl ⟨γ1, 12, rfl, rfl, nx1⟩
  · have e0 : ¬ ((x : Int) = 0) := by omega
    rw [if_neg e0, Int.toNat_natCast] at nx1
    have s1 := K.mem _ _ nx1.at_.thr.I
    have ci : hcell h1 ⟨B 0, 2, none⟩ = some (.slice (some ⟨B 1, 0, none⟩) (n + 1) (n + 1)) := hcell_of s1.o0 rfl
    have cv := (s1.item (k := x) hx).2
    clear s1
    (repeat (first | refine EK.seq ?_ | refine EK.region ?_ | refine ER.done ?_ | refine EK.skip ?_ | refine ER.move rfl rfl rfl ?_ | refine ER.assign rfl rfl rfl ?_ | refine ER.nilCheck rfl rfl rfl ?_ | refine ER.fieldAddr rfl rfl rfl ?_ | refine ER.cmpF rfl rfl rfl rfl rfl (by first | (dsimp only [cmpP]; omega) | exact rfl | exact Int.le_refl _) ?_ | refine ER.indexSl rfl rfl rfl rfl (by omega) (by omega) ?_ | refine EK.condF rfl ?_ | refine ER.load1 rfl rfl rfl (by assumption) ?_))
    refine ER.callP rfl rfl rfl rfl rfl (storeS K nx1.at_ (K.cell (5 + 2 * x) (by omega) (by omega) (by omega) (by omega)) (.inr (.inr (.inr ⟨rfl, x, by omega, hx, rfl⟩))) nx1.al.tb.symm) (fun _ _ _ y => y.along nx1.al) ?_
    rintro _ h2 δ2 ⟨γ2, rfl, rfl, nx2, -⟩
    have nx12 := nx1.trans K.ok nx2
    have s2 := K.mem _ _ nx2.at_.thr.I
    have cl : hcell h2 ⟨B 0, 0, none⟩ = some (ptr (B 2)) := hcell_of s2.o0 rfl
    have l1 := nx1.len
    have l2 := nx2.len
    clear ci cv s2
    (repeat (first | refine EK.seq ?_ | refine EK.region ?_ | refine ER.done ?_ | refine ER.move rfl rfl rfl ?_ | refine ER.nilCheck rfl rfl rfl ?_ | refine ER.fieldAddr rfl rfl rfl ?_ | refine ER.load1 rfl rfl rfl (by assumption) ?_))
    refine ER.callP rfl rfl rfl rfl rfl (lay_T K (c := 2) (x := x) nx2.at_ (.inl rfl) (by omega) hx (by omega) nx12.al.tb.symm) (fun _ _ _ y => y.along nx12.al) ?_
    rintro _ h3 δ3 ⟨γ3, rfl, nx3⟩
    (repeat (first | refine EK.seq ?_ | refine EK.region ?_ | refine ER.done ?_ | refine ER.assign rfl rfl rfl ?_ | refine EK.ret ?_))
    exact EU.ret1 rfl rfl ⟨γ3, 0, rfl, rfl, nx12.trans K.ok nx3⟩
set_option maxRecDepth 8000 in
set_option maxHeartbeats 4000000 in
theorem pop_T (K : StkX X P told n B) {f : Nat} {k : Int -> Bool -> Pr A} (a : AtP X P told n B i γ u L h (popP B k f)) (hf : 65536 < f + (ownOf i (γ.p.acc i).log).length) {t : Nat} (ht : t = γ.p.tb i) :
    CallW Try.prog false (SitT Try.prog (PX X) (i + 1)) 11 #[ptr (B 0), ptr t] h ⟨0, γ⟩ (RetP (fun w h' δ' => ∃ (γ' : GG X) (v : Int) (e : Bool), δ' = ⟨0, γ'⟩ /\ w = .tuple #[.int .i64 v, .bool e] /\ Nxt X P told n B i γ u L γ' h' (k v e)) (Halt X i γ.p)) := by
  subst ht
  have hn := K.hn
  have s0 := K.mem _ _ a.thr.I
  have ci : hcell h ⟨B 0, 2, none⟩ = some (.slice (some ⟨B 1, 0, none⟩) (n + 1) (n + 1)) := hcell_of s0.o0 rfl
  have cl : hcell h ⟨B 0, 0, none⟩ = some (ptr (B 2)) := hcell_of s0.o0 rfl
  clear s0
  refine CallW.start (n := 47) rfl rfl ?_
  (repeat (first | refine EK.seq ?_ | refine EK.region ?_ | refine ER.done ?_ | refine EK.skip ?_ | refine ER.move rfl rfl rfl ?_ | refine ER.assign rfl rfl rfl ?_ | refine ER.nilCheck rfl rfl rfl ?_ | refine ER.fieldAddr rfl rfl rfl ?_ | refine ER.eqV rfl rfl rfl rfl rfl ?_ | refine ER.pickF rfl rfl rfl rfl ?_ | refine ER.cmpF rfl rfl rfl rfl rfl (by first | (dsimp only [cmpP]; omega) | exact rfl | exact Int.le_refl _) ?_ | refine ER.len1 rfl rfl rfl ?_ | refine EK.condF rfl ?_ | refine ER.load1 rfl rfl rfl (by assumption) ?_))
  refine ER.callP rfl rfl rfl rfl rfl (get_T K (c := 2) a (.inl rfl) hf rfl) (fun _ _ _ x => x) ?_
  rintro _ h1 δ1 ⟨γ1, x, rfl, rfl, hx, nx1⟩
  clear ci cl
  by_cases hx0 : x = 0
  · subst hx0
    (repeat (first | refine EK.seq ?_ | refine EK.region ?_ | refine ER.done ?_ | refine ER.move rfl rfl rfl ?_ | refine ER.assign rfl rfl rfl ?_ | refine ER.cmpT rfl rfl rfl rfl rfl (by first | (dsimp only [cmpP]; omega) | exact rfl | exact Int.le_refl _) ?_ | refine EK.condT rfl ?_ | refine EK.ret ?_))
    exact EU.ret2 rfl rfl rfl ⟨γ1, 0, false, rfl, rfl, nx1⟩
  · have e0 : ¬ ((x : Int) = 0) := by omega
    rw [if_neg e0, Int.toNat_natCast] at nx1
    have s1 := K.mem _ _ nx1.at_.thr.I
    have ci : hcell h1 ⟨B 0, 2, none⟩ = some (.slice (some ⟨B 1, 0, none⟩) (n + 1) (n + 1)) := hcell_of s1.o0 rfl
    have cv := (s1.item (k := x) hx).2
    clear s1
    (repeat (first | refine EK.seq ?_ | refine EK.region ?_ | refine ER.done ?_ | refine EK.skip ?_ | refine ER.move rfl rfl rfl ?_ | refine ER.assign rfl rfl rfl ?_ | refine ER.nilCheck rfl rfl rfl ?_ | refine ER.fieldAddr rfl rfl rfl ?_ | refine ER.cmpF rfl rfl rfl rfl rfl (by first | (dsimp only [cmpP]; omega) | exact rfl | exact Int.le_refl _) ?_ | refine ER.indexSl rfl rfl rfl rfl (by omega) (by omega) ?_ | refine EK.condF rfl ?_ | refine ER.load1 rfl rfl rfl (by assumption) ?_))
    refine ER.callP rfl rfl rfl rfl rfl (loadS K nx1.at_ (K.cell (5 + 2 * x) (by omega) (by omega) (by omega) (by omega)) nx1.al.tb.symm) (fun _ _ _ y => y.along nx1.al) ?_
    rintro _ h2 δ2 ⟨γ2, rfl, rfl, nx2, -⟩
    generalize γ2.p.val (B (5 + 2 * x)) = v at nx2 ⊢
    have nx12 := nx1.trans K.ok nx2
    have s2 := K.mem _ _ nx2.at_.thr.I
    have cf : hcell h2 ⟨B 0, 1, none⟩ = some (ptr (B 3)) := hcell_of s2.o0 rfl
    have l1 := nx1.len
    have l2 := nx2.len
    clear ci cv s2
    (repeat (first | refine EK.seq ?_ | refine EK.region ?_ | refine ER.done ?_ | refine ER.move rfl rfl rfl ?_ | refine ER.assign rfl rfl rfl ?_ | refine ER.nilCheck rfl rfl rfl ?_ | refine ER.fieldAddr rfl rfl rfl ?_ | refine ER.load1 rfl rfl rfl (by assumption) ?_))
    refine ER.callP rfl rfl rfl rfl rfl (lay_T K (c := 3) (x := x) nx2.at_ (.inr rfl) (by omega) hx (by omega) nx12.al.tb.symm) (fun _ _ _ y => y.along nx12.al) ?_
    rintro _ h3 δ3 ⟨γ3, rfl, nx3⟩
    (repeat (first | refine EK.seq ?_ | refine EK.region ?_ | refine ER.done ?_ | refine ER.move rfl rfl rfl ?_ | refine ER.assign rfl rfl rfl ?_ | refine EK.ret ?_))
    exact EU.ret2 rfl rfl rfl ⟨γ3, v, true, rfl, rfl, nx12.trans K.ok nx3⟩
end
end
section
open Go Go.TJ Go.Conc Go.Proofs
theorem sfold_app {g es : List (Nat × SE)} : sfold (g ++ es) = es.foldl sstep (sfold g) := by unfold sfold; rw [List.foldl_append]
theorem sstep_other {s : SS} {x : Nat × SE} {i : Nat} (h : x.1 ≠ i) : (sstep s x).when i = s.when i /\ (sstep s x).alone i = s.alone i /\ (sstep s x).was i = s.was i := by
  obtain ⟨j, e⟩ := x
  have hb : (s.begin j).when i = s.when i /\ (s.begin j).alone i = s.alone i /\ (s.begin j).was i = s.was i := ⟨ut_ne _ _ (Ne.symm h), ut_ne _ _ (Ne.symm h), ut_ne _ _ (Ne.symm h)⟩
  cases e with
  | bpush v => exact hb
  | bpop => exact hb
  | pushed v e =>
    show (if e = 0 then _ else _ : SS).when i = _ /\ (if e = 0 then _ else _ : SS).alone i = _ /\ (if e = 0 then _ else _ : SS).was i = _
    by_cases q : e = 0
    · rw [if_pos q]; exact ⟨rfl, rfl, rfl⟩
    · rw [if_neg q]; exact ⟨rfl, rfl, rfl⟩
  | popped y is => cases is <;> exact ⟨rfl, rfl, rfl⟩
theorem sfold_other {g : List (Nat × SE)} {i : Nat} : ∀ {es : List (Nat × SE)}, (∀ x, x ∈ es -> x.1 ≠ i) -> (sfold (g ++ es)).when i = (sfold g).when i /\ (sfold (g ++ es)).alone i = (sfold g).alone i /\ (sfold (g ++ es)).was i = (sfold g).was i := by
  intro es
  rw [sfold_app]
  generalize sfold g = s
  induction es generalizing s with
  | nil => exact fun _ => ⟨rfl, rfl, rfl⟩
  | cons x es ih =>
    intro h
    obtain ⟨i1, i2, i3⟩ := ih (sstep s x) (fun y hy => h y (List.mem_cons_of_mem _ hy))
    obtain ⟨j1, j2, j3⟩ := sstep_other (s := s) (h x List.mem_cons_self)
    exact ⟨i1.trans j1, i2.trans j2, i3.trans j3⟩
structure SCnt (s : SS) : Prop where
  b : 0 <= s.begun
  l : s.last.length + s.busy <= s.begun
theorem sstep_cnt {s : SS} {x : Nat × SE} (c : SCnt s) : SCnt (sstep s x) /\ s.begun <= (sstep s x).begun /\ (sstep s x).busy <= s.busy + 1 /\ s.busy <= (sstep s x).busy + 1 := by
  obtain ⟨c1, c2⟩ := c
  obtain ⟨i, e⟩ := x
  cases e with
  | bpush v => exact ⟨⟨by show 0 <= s.begun + 1; omega, by show (s.last.length : Int) + (s.busy + 1) <= s.begun + 1; omega⟩, by show s.begun <= s.begun + 1; omega, Int.le_refl _, by show s.busy <= s.busy + 1 + 1; omega⟩
  | bpop => exact ⟨⟨by show 0 <= s.begun + 1; omega, by show (s.last.length : Int) + (s.busy + 1) <= s.begun + 1; omega⟩, by show s.begun <= s.begun + 1; omega, Int.le_refl _, by show s.busy <= s.busy + 1 + 1; omega⟩
  | pushed v e =>
    show SCnt (if e = 0 then _ else _) /\ _ <= (if e = 0 then _ else _ : SS).begun /\ (if e = 0 then _ else _ : SS).busy <= _ /\ _ <= (if e = 0 then _ else _ : SS).busy + 1
    by_cases q : e = 0
    · rw [if_pos q]
      refine ⟨⟨c1, ?_⟩, Int.le_refl _, by show s.busy - 1 <= s.busy + 1; omega, by show s.busy <= s.busy - 1 + 1; omega⟩
      show ((s.last ++ [v]).length : Int) + (s.busy - 1) <= s.begun
      rw [List.length_append, List.length_singleton]; omega
    · rw [if_neg q]
      exact ⟨⟨c1, by show (s.last.length : Int) + (s.busy - 1) <= s.begun; omega⟩, Int.le_refl _, by show s.busy - 1 <= s.busy + 1; omega, by show s.busy <= s.busy - 1 + 1; omega⟩
  | popped y is =>
    cases is with
    | false => exact ⟨⟨c1, by show (s.last.length : Int) + (s.busy - 1) <= s.begun; omega⟩, Int.le_refl _, by show s.busy - 1 <= s.busy + 1; omega, by show s.busy <= s.busy - 1 + 1; omega⟩
    | true =>
      refine ⟨⟨c1, ?_⟩, Int.le_refl _, by show s.busy - 1 <= s.busy + 1; omega, by show s.busy <= s.busy - 1 + 1; omega⟩
      show (s.last.dropLast.length : Int) + (s.busy - 1) <= s.begun
      rw [List.length_dropLast]; omega
theorem sfold_cnt {g es : List (Nat × SE)} (c : SCnt (sfold g)) : SCnt (sfold (g ++ es)) /\ (sfold g).begun <= (sfold (g ++ es)).begun /\ (sfold (g ++ es)).busy <= (sfold g).busy + es.length /\ (sfold g).busy <= (sfold (g ++ es)).busy + es.length := by
  rw [sfold_app]
  generalize sfold g = s at c ⊢
  induction es generalizing s with
  | nil => exact ⟨c, Int.le_refl _, by simp, by simp⟩
  | cons x es ih =>
    obtain ⟨c1, c2, c3, c4⟩ := sstep_cnt (x := x) c
    obtain ⟨d1, d2, d3, d4⟩ := ih _ c1
    refine ⟨d1, Int.le_trans c2 d2, ?_, ?_⟩
    · show _ <= s.busy + ((es.length + 1 : Nat) : Int)
      have : ((x :: es).foldl sstep s) = es.foldl sstep (sstep s x) := rfl
      rw [this]; omega
    · show s.busy <= _ + ((es.length + 1 : Nat) : Int)
      have : ((x :: es).foldl sstep s) = es.foldl sstep (sstep s x) := rfl
      rw [this]; omega
theorem scnt {g : List (Nat × SE)} : SCnt (sfold g) := (sfold_cnt (g := []) (es := g) ⟨Int.le_refl _, Int.le_refl _⟩).1
inductive SNm where
  | busy | begun | map | stk | wrong
  deriving DecidableEq
structure QS where
  busy : Int
  begun : Int
  es : Array MapEntry
  cl : Nat
  stk : Value
def sO (q : QS) : SNm -> Obj
  | .busy => .cells #[.int .i64 q.busy] 3 (0, 0)
  | .begun => .cells #[.int .i64 q.begun] 3 (0, 0)
  | .map => .map q.es q.cl
  | .stk => .cells #[q.stk] 34 (0, 0)
  | .wrong => .cells #[.bool false] 4 (0, 0)
def sM (D : SNm -> Nat) (q : QS) : Mem SNm := ⟨fun _ => True, D, sO q⟩
abbrev MV := Value × Array MapEntry × Nat
def QS.of (s : SS) (m : MV) : QS := ⟨s.busy, s.begun, m.2.1, m.2.2, m.1⟩
section
variable {h : Hp} {D : SNm -> Nat} {q q' : QS}
theorem swrite (r : Rep h (sM D q)) (k : SNm) {c : Array Value} {e : TypeId} {f : Nat × Nat} (ho : sO q k = .cells c e f) (i : Nat) (v : Value) (h1 : sO q' k = .cells (c.setIfInBounds i v) e f) (h2 : ∀ j, j ≠ k -> sO q' j = sO q j) : Rep (hset h ⟨D k, i, none⟩ v) (sM D q') := by
  refine (r.hset (k := k) trivial ho i v).congr (fun _ x => x) (fun _ _ => rfl) fun j _ => ?_
  show sO q' j = ut (sO q) k _ j
  by_cases e : j = k
  · subst e; rw [ut_same]; exact h1
  · rw [ut_ne _ _ e]; exact h2 j e
theorem swriteM (r : Rep h (sM D q)) (es : Array MapEntry) (cl : Nat) : Rep (h.setIfInBounds (D .map) (.map es cl)) (sM D { q with es := es, cl := cl }) := by
  refine (r.set (k := .map) trivial (.map es cl)).congr (fun _ x => x) (fun _ _ => rfl) fun j _ => ?_
  show sO { q with es := es, cl := cl } j = ut (sO q) .map _ j
  by_cases e : j = .map
  · subst e; rw [ut_same]; rfl
  · rw [ut_ne _ _ e]
    cases j <;> first | rfl | exact absurd rfl e
theorem scell (r : Rep h (sM D q)) (k : SNm) {c : Array Value} {e : TypeId} {f : Nat × Nat} (ho : sO q k = .cells c e f) {i : Nat} {v : Value} (hv : c[i]? = some v) : hcell h ⟨D k, i, none⟩ = some v := r.cell (k := k) trivial ho hv
theorem sfroz (r : Rep h (sM D q)) (k : SNm) {c : Array Value} {e : TypeId} (ho : sO q k = .cells c e (0, 0)) {i : Nat} : hfroz h ⟨D k, i, none⟩ = false := hfroz_of (r.get (k := k) trivial ho)
theorem smap (r : Rep h (sM D q)) : h[D .map]? = some (.map q.es q.cl) := r.get (k := .map) trivial rfl
end
structure S1 where
  c : SP
  hN : Hp
  ex : Nat -> Prop
  D : SNm -> Nat
  v0 : Nat -> Int
def S1.isC (d : S1) (b : Nat) : Prop := ∃ k, 2 <= k /\ k < 6 + 2 * d.c.n /\ k ≠ 4 /\ k ≠ 5 /\ b = d.c.B k
def S1.old (d : S1) (b : Nat) : Prop := b < d.hN.size /\ ¬ d.isC b /\ ¬ d.ex b /\ ∀ k, b ≠ d.D k
structure SMI (d : S1) (g : List (Nat × SE)) (m : MV) (h : Hp) : Prop where
  old : ∀ b, d.old b -> h[b]? = d.hN[b]?
  rep : Rep h (sM d.D (QS.of (sfold g) m))
  key : KeyI m.2.1 (sfold g).there
  sl : SliceO h m.1 2 1 (sfold g).last.length ((sfold g).last.map fun x => .int .i64 x)
  new : ∀ b, blk m.1 = some b -> ¬ d.old b /\ ¬ d.isC b /\ ∀ k, b ≠ d.D k
def gcS (d : S1) : GC SE MV where
  isC := d.isC
  P := d.c.P
  v0 := d.v0
  Dom := fun m b => d.old b \/ (∃ k, b = d.D k) \/ (¬ d.isC b /\ blk m.1 = some b)
  I := SMI d
  JV := JStk d.c.n d.c.B
abbrev XS (d : S1) : Us := UsN (gcS d)
abbrev stold (d : S1) : (XS d).U -> Nat -> List SE := fun u i => toldOf i u.1
section
variable {d : S1} {g : List (Nat × SE)} {m m' : MV} {h h' : Hp} {i : Nat} {γ γ' : GG (XS d)} {u : (XS d).U}
theorem SliceO.same3 {h h' : Hp} {s : Value} {e sz n : Nat} {cells : List Value} (x : SliceO h s e sz n cells) (hb : ∀ b, blk s = some b -> h'[b]? = h[b]?) : SliceO h' s e sz n cells := by
  refine ⟨x.1, x.2.imp id ?_⟩
  rintro ⟨b, cap, rest, rfl, h1, h2, h3⟩
  exact ⟨b, cap, rest, rfl, h1, h2, (hb b rfl).trans h3⟩
theorem gcS_ok (hD : ∀ k, ¬ d.isC (d.D k)) : (XS d).Ok :=
  usN_ok (fun _g _m _h _h' hb I => ⟨fun b h1 => (hb b (.inl h1)).trans (I.old b h1), ⟨fun k hk => (hb _ (.inr (.inl ⟨k, rfl⟩))).trans (I.rep.has k hk), I.rep.inj⟩, I.key, SliceO.same3 I.sl fun b hbb => hb b (.inr (.inr ⟨(I.new b hbb).2.1, hbb⟩)), I.new⟩)
    (fun _m _b hd hc => hd.elim (fun y => y.2.1 hc) fun y => y.elim (fun ⟨k, e⟩ => hD k (e ▸ hc)) fun y => y.1 hc)
theorem SMI.oldlt (I : SMI d g m h) {b : Nat} (hb : d.old b) : b < h.size := by
  have := I.old b hb
  rw [Array.getElem?_eq_getElem hb.1] at this
  exact lt_of_get this
theorem scl {L : List (Nat × Obj)} (T : Thr (XS d) i γ u L h) : ∀ b, d.isC b -> b < h.size := fun b hb => by
  obtain ⟨s, M, g⟩ := T.gi
  exact lt_of_get (g.cel b hb).1
theorem sput (hD : ∀ k, ¬ d.isC (d.D k)) (T : Thr (XS d) i γ u [] h) {a : SE} (up : Upd (fun b => (∃ k, b = d.D k) \/ blk u.2.1 = some b) h h') (rep : Rep h' (sM d.D (QS.of (sfold (u.1 ++ [(i, a)])) m'))) (key : KeyI m'.2.1 (sfold (u.1 ++ [(i, a)])).there)
    (sl : SliceO h' m'.1 2 1 (sfold (u.1 ++ [(i, a)])).last.length ((sfold (u.1 ++ [(i, a)])).last.map fun x => .int .i64 x)) (hb : ∀ b, blk m'.1 = some b -> blk u.2.1 = some b \/ h.size <= b) : Thr (XS d) i γ (u.1 ++ [(i, a)], m') [] h' := by
  have I : SMI d u.1 u.2 h := T.I
  let u' : (XS d).U := (u.1 ++ [(i, a)], m')
  have hs := up.size
  have hnew : ∀ b, blk m'.1 = some b -> ¬ d.old b /\ ¬ d.isC b /\ ∀ k, b ≠ d.D k := fun b hbb => by
    rcases hb b hbb with y | y
    · exact I.new b y
    · exact ⟨fun z => by have := I.oldlt z; omega, fun z => by have := scl T b z; omega, fun k e => by have := I.rep.lt (k := k) trivial; change d.D k < _ at this; omega⟩
  show Thr (XS d) i γ u' [] _
  refine T.user (gcS_ok hD) (u' := u') (L' := []) (up.mono fun b _ x => .inl (.inr (x.imp id fun y => ⟨(I.new b y).2.1, y⟩))) (fun b hb' => ?_) (fun q hq => by cases hq) ⟨fun b h1 => ?_, rep, key, sl, hnew⟩ fun x hx => ⟨[(i, a)], rfl, fun y hy => by rw [List.mem_singleton.1 hy]; exact Ne.symm hx⟩
  · rcases hb' with y | ⟨k, e⟩ | ⟨y1, y2⟩
    · exact ⟨.inl (.inl y), by have := I.oldlt y; omega⟩
    · refine ⟨.inl (.inr (.inl ⟨k, e⟩)), ?_⟩
      have := rep.lt (k := k) trivial
      change d.D k < _ at this
      omega
    · refine ⟨?_, SliceO.lt sl y2⟩
      rcases hb b y2 with z | z
      · exact .inl (.inr (.inr ⟨y1, z⟩))
      · exact .inr z
  · rw [up.2 b (I.oldlt h1) (fun x => x.elim (fun ⟨k, e⟩ => h1.2.2.2 k e) fun x => (I.new b x).1 h1)]
    exact I.old b h1
end
abbrev SCal := Int × Int
structure ScrO (base : Nat) (h : Hp) (scv : Value) (sc : List (List SCal)) : Prop where
  val : ∃ a k, scv = .slice a sc.length k
  big : sc.length <= 1000000000000000 /\ ∀ l, l ∈ sc -> l.length <= 1000000000000000
  row : ∀ i l, sc[i]? = some l -> ∃ b o k a' k', scv = .slice (some ⟨b, o, none⟩) sc.length k /\ b < base /\ TJ.hcell h ⟨b, o + i * 1, none⟩ = some (.slice a' l.length k') /\
    ∀ j q, l[j]? = some q -> ∃ b' o', a' = some ⟨b', o', none⟩ /\ b' < base /\ TJ.hcell h ⟨b', o' + j * 2, none⟩ = some (.int .i64 q.1)
theorem hcell_sameO {h h' : Hp} {a : Addr} {v : Value} (hc : TJ.hcell h a = some v) (hb : h'[a.block]? = h[a.block]?) : TJ.hcell h' a = some v := by
  unfold TJ.hcell at hc ⊢
  rw [hb]; exact hc
theorem ScrO.low {base : Nat} {h h' : Hp} {scv : Value} {sc : List (List SCal)} (x : ScrO base h scv sc) (hb : ∀ b, b < base -> h'[b]? = h[b]?) : ScrO base h' scv sc := by
  refine ⟨x.val, x.big, fun i l hl => ?_⟩
  obtain ⟨b, o, k, a', k', e1, e2, e3, e4⟩ := x.row i l hl
  refine ⟨b, o, k, a', k', e1, e2, hcell_sameO e3 (hb _ e2), fun j q hq => ?_⟩
  obtain ⟨b', o', f1, f2, f3⟩ := e4 j q hq
  exact ⟨b', o', f1, f2, hcell_sameO f3 (hb _ f2)⟩
structure SEn (d : S1) (base bp bs bt : Nat) (scv pS : Value) (sc : List (List SCal)) : Prop where
  ok : d.c.Ok
  hD : ∀ k, ¬ d.isC (d.D k)
  K : StkX (XS d) d.c.P (stold d) d.c.n d.c.B
  z : S0 d.c d.v0
  p : d.old bp /\ d.hN[bp]? = some (.cells #[.int .i64 d.c.n, scv, pS] 27 (0, 0))
  s : d.old bs /\ d.hN[bs]? = some (.cells #[ptr (d.c.B 0)] 29 (0, 0))
  t : d.old bt /\ d.hN[bt]? = some (.cells #[.map (some (d.D .map))] 33 (0, 0))
  scr : ScrO base d.hN scv sc
  low : ∀ b, b < base -> d.old b
  sc : d.c.sc = sc.map fun l => l.map fun q => decide (q.1 = 0)
structure SNo (d : S1) (base bp bs bt : Nat) (scv pS : Value) (sc : List (List SCal)) (h : Hp) : Prop where
  p : h[bp]? = some (.cells #[.int .i64 d.c.n, scv, pS] 27 (0, 0))
  s : hcell h ⟨bs, 0, none⟩ = some (ptr (d.c.B 0))
  t : hcell h ⟨bt, 0, none⟩ = some (.map (some (d.D .map)))
  scr : ScrO base h scv sc
section
variable {d : S1} {base bp bs bt : Nat} {scv pS : Value} {sc : List (List SCal)} {h h' : Hp} {i : Nat} {γ γ' : GG (XS d)} {u : (XS d).U}
theorem SEn.now (E : SEn d base bp bs bt scv pS sc) {h' : Hp} (hh : ∀ b, d.old b -> h'[b]? = d.hN[b]?) : SNo d base bp bs bt scv pS sc h' :=
  ⟨(hh _ E.p.1).trans E.p.2, hcell_of ((hh _ E.s.1).trans E.s.2) rfl, hcell_of ((hh _ E.t.1).trans E.t.2) rfl, E.scr.low fun b hb => hh b (E.low b hb)⟩
theorem slaw (E : SEn d base bp bs bt scv pS sc) {p : Pr SE} (a : AtP (XS d) d.c.P (stold d) d.c.n d.c.B i γ u [] h p) :
    sokl d.c.n d.c.lone (u.1 ++ (norm p).1.map fun e => (i, e)) /\ 0 <= (sfold u.1).begun /\ (sfold u.1).begun <= 3300 /\ (sfold u.1).last.length + (sfold u.1).busy <= (sfold u.1).begun /\ -((norm p).1.length : Int) <= (sfold u.1).busy /\ (sfold u.1).busy <= 8 + (norm p).1.length := by
  obtain ⟨S, R⟩ := usN_reach a.thr a.res a.ext
  obtain ⟨A, k, I⟩ := sinv_all E.ok E.z R
  obtain ⟨c1, c2, c3, c4⟩ := sfold_cnt (es := (norm p).1.map fun e => (i, e)) (scnt (g := u.1))
  have hT := E.ok.T8
  have hb := I.bg
  have hu := I.busy
  have nx : ∀ j, j < d.c.T -> (nxS (k j) : Int) <= 400 := fun j _ => by
    have t := I.T j
    cases hk : k j with
    | fin q => rw [hk] at t; have : q <= 400 := t; show (q : Int) <= 400; omega
    | raw l q => rw [hk] at t; have := t.2.1; show (q : Int) <= 400; omega
    | g0 q f => rw [hk] at t; have := t.1.kk; show ((q.k + 1 : Nat) : Int) <= 400; omega
    | g1 q f h => rw [hk] at t; have := t.1.kk; show ((q.k + 1 : Nat) : Int) <= 400; omega
    | g2 q f h m => rw [hk] at t; have := t.1.kk; show ((q.k + 1 : Nat) : Int) <= 400; omega
    | vl q x y => rw [hk] at t; have := t.1.kk; show ((q.k + 1 : Nat) : Int) <= 400; omega
    | l0 q x y f => rw [hk] at t; have := t.1.kk; show ((q.k + 1 : Nat) : Int) <= 400; omega
    | l1 q x y f h => rw [hk] at t; have := t.1.kk; show ((q.k + 1 : Nat) : Int) <= 400; omega
    | l2 q x y f h => rw [hk] at t; have := t.1.kk; show ((q.k + 1 : Nat) : Int) <= 400; omega
  have s1 := sumT_up (f := fun j => (nxS (k j) : Int)) (b := 400) nx
  have s2 := sumT_up (f := fun j => icS (k j)) (b := 1) (n := d.c.T) fun j _ => by rcases ic_or (k j) with e | e <;> omega
  have s3 := sumT_nn (f := fun j => icS (k j)) (n := d.c.T) fun j _ => by rcases ic_or (k j) with e | e <;> omega
  rw [I.s] at hb hu
  rw [List.length_map] at c3 c4
  refine ⟨I.ok, scnt.b, by omega, scnt.l, by omega, by omega⟩
theorem snext' (E : SEn d base bp bs bt scv pS sc) {e : SE} {k : Pr SE} (a : AtP (XS d) d.c.P (stold d) d.c.n d.c.B i γ u [] h (.emit e k)) :
    sok d.c.n d.c.lone (sfold u.1) (i, e) := by
  obtain ⟨l1, l2⟩ := slaw E a
  exact l1 u.1 (i, e) ((norm k).1.map fun e => (i, e)) rfl
theorem stells {e : SE} {k : Pr SE} (a : AtP (XS d) d.c.P (stold d) d.c.n d.c.B i γ u [] h (.emit e k)) {m : MV} {h' : Hp} (T : Thr (XS d) i γ (u.1 ++ [(i, e)], m) [] h') : AtP (XS d) d.c.P (stold d) d.c.n d.c.B i γ (u.1 ++ [(i, e)], m) [] h' k := by
  refine ⟨T, ?_, a.pend, ?_⟩
  · have := a.res.tell
    show Goes i _ _ (toldOf i (u.1 ++ [(i, e)])) k
    rw [toldOf_app, show [(i, e)] = [e].map (fun a => (i, a)) from rfl, toldOf_own]
    exact this
  · obtain ⟨es, he⟩ := a.ext
    refine ⟨es ++ [e], ?_⟩
    have he' : u.1 = γ.p.u.1 ++ es.map fun a => (i, a) := he
    show u.1 ++ [(i, e)] = _
    rw [he', List.map_append, List.append_assoc]; rfl
end
end
end Go.Proofs.Ythkpbenhchkkoaa
