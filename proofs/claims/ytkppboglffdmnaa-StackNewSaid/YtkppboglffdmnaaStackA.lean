/- Package stack: New. Conditions: as the lemmas say. -/
import Derived.Test.YtkppboglffdmnaaBase
import Derived.Test.YtkppboglffdmnaaTjM
import Derived.Test.YtkppboglffdmnaaTjI
namespace Go.Proofs.Ytkppboglffdmnaa
open Go Go.TJ Go.Proofs

/-- The items' cells: numbers 0 .. i - 1 hold their two cells. -/
def itemsL (i : Nat) (B : Nat → Nat) : List Value := (List.range i).flatMap fun j => [ptr (B (4 + 2 * j)), ptr (B (5 + 2 * j))]
theorem itemsL_len (B : Nat → Nat) : ∀ i, (itemsL i B).length = i * 2
  | 0 => rfl
  | i + 1 => by
    have := itemsL_len B i
    unfold itemsL at *
    rw [List.range_succ, List.flatMap_append, List.length_append, this]
    simp; omega
theorem itemsL_succ (i : Nat) (B : Nat → Nat) : itemsL (i + 1) B = itemsL i B ++ [ptr (B (4 + 2 * i)), ptr (B (5 + 2 * i))] := by
  unfold itemsL
  rw [List.range_succ, List.flatMap_append]
  simp
theorem itemsL_congr {i : Nat} {B B' : Nat → Nat} (h : ∀ k, 4 ≤ k → k < 4 + 2 * i → B k = B' k) : itemsL i B = itemsL i B' := by
  unfold itemsL
  rw [List.flatMap_def, List.flatMap_def]
  congr 1
  refine List.map_congr_left fun j hj => ?_
  have := List.mem_range.mp hj
  rw [h _ (by omega) (by omega), h _ (by omega) (by omega)]
theorem itemsL_get {n : Nat} (B : Nat → Nat) : ∀ {i : Nat}, i < n → (itemsL n B)[2 * i]? = some (ptr (B (4 + 2 * i))) ∧ (itemsL n B)[2 * i + 1]? = some (ptr (B (5 + 2 * i))) := by
  induction n with
  | zero => intro i hi; omega
  | succ n ih =>
    intro i hi
    rw [itemsL_succ]
    by_cases h : i < n
    · have h1 := itemsL_len B n
      rw [List.getElem?_append_left (by omega), List.getElem?_append_left (by omega)]
      exact ih h
    · obtain rfl : i = n := by omega
      have h1 := itemsL_len B i
      rw [List.getElem?_append_right (by omega), List.getElem?_append_right (by omega), h1, show 2 * i - i * 2 = 0 by omega, show 2 * i + 1 - i * 2 = 1 by omega]
      exact ⟨rfl, rfl⟩

/-- A stack's memory: 0: the struct, 1: its items' block, 2: the list, 3: the free ones, 4 + 2 k and 5 + 2 k: what follows node k, and its value. -/
def stkM (n : Nat) (B : Nat → Nat) (v : Nat → Int) : Mem Nat := ⟨fun k => k < 6 + 2 * n, B, fun k =>
  if k = 0 then .cells #[ptr (B 2), ptr (B 3), .slice (some ⟨B 1, 0, none⟩) (n + 1) (n + 1)] 79 (0, 0)
  else if k = 1 then .cells (itemsL (n + 1) B).toArray 221 (0, 0)
  else cellO (v k)⟩

/-- New, behind its first steps. -/
structure NewS (h0 : Hp) (n : Nat) (M : Mem Nat) (h' : Hp) : Prop where
  upd : Upd (fun _ => False) h0 h'
  rep : Rep h' M
  ok : ∀ k, M.ok k ↔ k < 4
  o0 : M.O 0 = .cells #[ptr (M.B 2), ptr (M.B 3), .slice (some ⟨M.B 1, 0, none⟩) (n + 1) (n + 1)] 79 (0, 0)
  o1 : M.O 1 = .cells (List.replicate ((n + 1) * 2) (Value.pointer none)).toArray 221 (0, 0)
  o2 : M.O 2 = cellO 0
  o3 : M.O 3 = cellO 1
  above : ∀ k, M.ok k → h0.size ≤ M.B k

/-- New under way: i items are there. -/
structure NewSI (h0 : Hp) (n : Nat) (T B2 B3 B1 : Nat) (M : Mem Nat) (i : Nat) (h' : Hp) : Prop where
  upd : Upd (fun _ => False) h0 h'
  rep : Rep h' M
  ok : ∀ k, M.ok k ↔ k < 4 + 2 * i
  b : M.B 0 = T ∧ M.B 1 = B1 ∧ M.B 2 = B2 ∧ M.B 3 = B3
  o0 : M.O 0 = .cells #[ptr B2, ptr B3, .slice (some ⟨B1, 0, none⟩) (n + 1) (n + 1)] 79 (0, 0)
  o1 : M.O 1 = .cells (itemsL i M.B ++ List.replicate ((n + 1 - i) * 2) (Value.pointer none)).toArray 221 (0, 0)
  o2 : M.O 2 = cellO 0
  o3 : M.O 3 = cellO 1
  on : ∀ j, j < i → M.O (4 + 2 * j) = cellO (((j + 1) % (n + 1) : Nat) : Int) ∧ M.O (5 + 2 * j) = cellO 0
  above : ∀ k, M.ok k → h0.size ≤ M.B k

theorem NewSI.step {h0 : Hp} {n T B2 B3 B1 : Nat} {M : Mem Nat} {i : Nat} {h : Hp} {c : Int} (x : NewSI h0 n T B2 B3 B1 M i h) (hi : i < n + 1) (hc : c = (((i + 1) % (n + 1) : Nat) : Int)) :
    ∃ M', NewSI h0 n T B2 B3 B1 M' (i + 1) (hsetRow ((h.push (cellO c)).push (cellO 0)) B1 (0 + i * 2) [ptr h.size, ptr (h.size + 1)]) := by
  have r1 := ((x.rep.put (4 + 2 * i) (cellO c)).put (5 + 2 * i) (cellO 0))
  rw [Array.size_push] at r1
  obtain ⟨M1, hM1⟩ : ∃ M1 : Mem Nat, M1 = (M.put (4 + 2 * i) h.size (cellO c)).put (5 + 2 * i) (h.size + 1) (cellO 0) := ⟨_, rfl⟩
  rw [← hM1] at r1
  have bOld : ∀ k, k < 4 + 2 * i → M1.B k = M.B k ∧ M1.O k = M.O k := fun k hk => by
    rw [hM1]
    show ut (ut M.B _ _) _ _ k = _ ∧ ut (ut M.O _ _) _ _ k = _
    rw [ut_ne _ _ (by omega), ut_ne _ _ (by omega), ut_ne _ _ (by omega), ut_ne _ _ (by omega)]
    exact ⟨rfl, rfl⟩
  have bN : M1.B (4 + 2 * i) = h.size ∧ M1.O (4 + 2 * i) = cellO c := by
    rw [hM1]
    show ut (ut M.B _ _) _ _ _ = _ ∧ ut (ut M.O _ _) _ _ _ = _
    rw [ut_ne _ _ (by omega), ut_same, ut_ne _ _ (by omega), ut_same]
    exact ⟨rfl, rfl⟩
  have bV : M1.B (5 + 2 * i) = h.size + 1 ∧ M1.O (5 + 2 * i) = cellO 0 := by
    rw [hM1]
    exact ⟨ut_same _ _ _, ut_same _ _ _⟩
  have ok1 : ∀ k, M1.ok k ↔ k < 4 + 2 * (i + 1) := fun k => by
    rw [hM1]
    show (k = _ ∨ k = _ ∨ M.ok k) ↔ _
    rw [x.ok]; omega
  have hlen : (itemsL i M.B).length = i * 2 := itemsL_len _ _
  have o1' : M1.O 1 = .cells (itemsL i M.B ++ List.replicate ((n + 1 - i) * 2) (Value.pointer none)).toArray 221 (0, 0) := (bOld 1 (by omega)).2.trans x.o1
  have hb1 : M1.B 1 = B1 := (bOld 1 (by omega)).1.trans x.b.2.1
  have hB1 : ((h.push (cellO c)).push (cellO 0))[B1]? = some (.cells (itemsL i M.B ++ List.replicate ((n + 1 - i) * 2) (Value.pointer none)).toArray 221 (0, 0)) := hb1 ▸ r1.get ((ok1 1).2 (by omega)) o1'
  have hsz := x.upd.size
  have hge : h0.size ≤ B1 := x.b.2.1 ▸ x.above 1 ((x.ok 1).2 (by omega))
  rw [hsetRow_block [ptr h.size, ptr (h.size + 1)] (0 + i * 2) _ _ hB1 (by simp [hlen]; omega)]
  obtain ⟨on, hon⟩ : ∃ on : Obj, on = .cells (List.take (0 + i * 2) (itemsL i M.B ++ List.replicate ((n + 1 - i) * 2) (Value.pointer none)) ++ [ptr h.size, ptr (h.size + 1)] ++ List.drop (0 + i * 2 + [ptr h.size, ptr (h.size + 1)].length) (itemsL i M.B ++ List.replicate ((n + 1 - i) * 2) (Value.pointer none))).toArray 221 (0, 0) := ⟨_, rfl⟩
  rw [← hon]
  have r2 := r1.set ((ok1 1).2 (by omega)) on
  rw [hb1] at r2
  refine ⟨_, ((x.upd.trans ((Upd.push _ _).trans (Upd.push _ _))).over (Upd.set (T := fun b => b = B1) _ _ _ rfl) (fun b hb => by omega)), r2, ok1, ⟨(bOld 0 (by omega)).1.trans x.b.1, hb1, (bOld 2 (by omega)).1.trans x.b.2.2.1, (bOld 3 (by omega)).1.trans x.b.2.2.2⟩, ?_, ?_, ?_, ?_, fun j hj => ?_, fun k hk => ?_⟩
  · show ut M1.O 1 on 0 = _
    rw [ut_ne _ _ (by omega), (bOld 0 (by omega)).2]; exact x.o0
  · show ut M1.O 1 on 1 = Obj.cells (itemsL (i + 1) M1.B ++ List.replicate ((n + 1 - (i + 1)) * 2) (Value.pointer none)).toArray 221 (0, 0)
    rw [ut_same, hon, itemsL_succ, bN.1, bV.1, itemsL_congr (B := M1.B) (B' := M.B) (i := i) (fun k _ hk => (bOld k hk).1)]
    have hd : ∀ q, List.drop ((itemsL i M.B).length + 2) (itemsL i M.B ++ List.replicate q (Value.pointer none)) = List.replicate (q - 2) (Value.pointer none) := fun q => by
      rw [List.drop_append, List.drop_eq_nil_of_le (by omega), List.nil_append, Nat.add_sub_cancel_left, List.drop_replicate]
    rw [show 0 + i * 2 = (itemsL i M.B).length by omega, List.take_left' rfl]
    show Obj.cells (itemsL i M.B ++ [ptr h.size, ptr (h.size + 1)] ++ List.drop ((itemsL i M.B).length + 2) _).toArray _ _ = _
    rw [hd, show (n + 1 - i) * 2 - 2 = (n + 1 - (i + 1)) * 2 by omega]
  · show ut M1.O 1 on 2 = _
    rw [ut_ne _ _ (by omega), (bOld 2 (by omega)).2]; exact x.o2
  · show ut M1.O 1 on 3 = _
    rw [ut_ne _ _ (by omega), (bOld 3 (by omega)).2]; exact x.o3
  · show ut M1.O 1 on (4 + 2 * j) = _ ∧ ut M1.O 1 on (5 + 2 * j) = _
    rw [ut_ne _ _ (by omega), ut_ne _ _ (by omega)]
    by_cases e : j = i
    · subst e; rw [bN.2, bV.2, hc]; exact ⟨rfl, rfl⟩
    · rw [(bOld (4 + 2 * j) (by omega)).2, (bOld (5 + 2 * j) (by omega)).2]; exact x.on j (by omega)
  · have hk' := (ok1 k).1 hk
    show h0.size ≤ M1.B k
    rcases (show k < 4 + 2 * i ∨ k = 4 + 2 * i ∨ k = 5 + 2 * i by omega) with h1 | h1 | h1
    · rw [(bOld k h1).1]; exact x.above k ((x.ok k).2 h1)
    · subst h1; rw [bN.1]; exact hsz
    · subst h1; rw [bV.1]; omega

structure RSS where
  i : Nat
  M : Mem Nat

theorem EA.gen {Γ : Type} {P : Program} {main : Bool} {S : Sit Γ} {f : FuncId} {n : Nat} {ops : Array Oper} {Z : Hp → Prop} {z m : Nat} {listed : Array Bool} {k : List Item} {env : Env} {ds : List Deferred} {h : Hp} {δ : Ix Γ} {R : Post Γ} (F : Hp → Prop) (hF : F h) (hn : ∀ h', F h' → EA P main S f n ops Z z m listed k env ds h' δ R) : EA P main S f n ops Z z m listed k env ds h δ R := hn h hF

theorem news_of {h hh : Hp} {n b1 b2 b3 : Nat} (u : Upd (fun _ => False) h hh) (g1 : hh[b1]? = some (.cells (List.replicate ((n + 1) * 2) (Value.pointer none)).toArray 221 (0, 0))) (g2 : hh[b2]? = some (cellO 0)) (g3 : hh[b3]? = some (cellO 1)) (d : b1 ≠ b2 ∧ b1 ≠ b3 ∧ b2 ≠ b3) (l : h.size ≤ b1 ∧ h.size ≤ b2 ∧ h.size ≤ b3) :
    NewS h n ⟨fun k => k < 4, fun k => if k = 0 then hh.size else if k = 1 then b1 else if k = 2 then b2 else b3, fun k => if k = 0 then .cells #[ptr b2, ptr b3, .slice (some ⟨b1, 0, none⟩) (n + 1) (n + 1)] 79 (0, 0) else if k = 1 then .cells (List.replicate ((n + 1) * 2) (Value.pointer none)).toArray 221 (0, 0) else if k = 2 then cellO 0 else cellO 1⟩
      (hh.push (.cells #[ptr b2, ptr b3, .slice (some ⟨b1, 0, none⟩) (n + 1) (n + 1)] 79)) := by
  have l1 := lt_of_get g1
  have l2 := lt_of_get g2
  have l3 := lt_of_get g3
  have hs := u.size
  refine ⟨u.trans (Upd.push _ _), ⟨fun k hk => ?_, fun i j hi hj e => ?_⟩, fun k => Iff.rfl, rfl, rfl, rfl, rfl, fun k hk => ?_⟩
  · have hk' : k < 4 := hk
    rcases (show k = 0 ∨ k = 1 ∨ k = 2 ∨ k = 3 by omega) with rfl | rfl | rfl | rfl
    · exact get_push_new _ _
    · exact get_push _ g1
    · exact get_push _ g2
    · exact get_push _ g3
  · have hi' : i < 4 := hi
    have hj' : j < 4 := hj
    dsimp only at e
    (repeat' split at e) <;> omega
  · have hk' : k < 4 := hk
    dsimp only
    (repeat' split) <;> omega

section
variable {Γ : Type} {main : Bool} {S : Sit Γ} {h : Hp} {δ : Ix Γ}

theorem stknew_bad {n : Int} (hn : n < 1 ∨ 4096 < n) : CallW Try.prog main S 28 #[.int .i64 n] h δ (Ret (Det (.tuple #[.pointer none, .int .i64 1]) h δ)) := by
  refine CallW.start (n := 44) rfl rfl ?_
  by_cases a : n < 1
  · (repeat (first | refine EK.seq ?_ | refine EK.region ?_ | refine ER.done ?_ | refine EK.skip ?_ | refine EK.block ?_ | refine EK.inBlock ?_ | refine ER.move rfl rfl rfl ?_ | refine ER.assign rfl rfl rfl ?_ | refine ER.nilCheck rfl rfl rfl ?_ | refine ER.fieldAddr rfl rfl rfl ?_ | refine ER.load1 rfl rfl rfl (hcell_of (by assumption) rfl) ?_ | refine ER.no rfl rfl ?_ | refine ER.noU rfl ?_ | refine ER.eqV rfl rfl rfl rfl rfl ?_ | refine ER.neqV rfl rfl rfl rfl rfl ?_ | refine ER.eqA rfl rfl rfl rfl rfl ?_ | refine ER.neqA rfl rfl rfl rfl rfl ?_ | refine ER.notB rfl rfl rfl ?_ | refine ER.pickT rfl rfl rfl rfl ?_ | refine ER.pickF rfl rfl rfl rfl ?_ | refine ER.extract rfl rfl rfl rfl ?_ | refine ER.cmpT rfl rfl rfl rfl rfl (by first | (dsimp only [cmpP]; omega) | exact rfl | exact Int.le_refl _) ?_ | refine ER.cmpF rfl rfl rfl rfl rfl (by first | (dsimp only [cmpP]; omega) | exact rfl | exact Int.le_refl _) ?_ | refine ER.boxA rfl rfl rfl ?_ | refine ER.box rfl rfl rfl ?_ | refine ER.allocA rfl rfl ?_ | refine ER.alloc rfl rfl ?_ | refine ER.add (kd := .i64) rfl rfl rfl rfl (i64_in (by omega) (by omega)) ?_ | refine ER.sub' (kd := .i64) rfl rfl rfl rfl (i64_in (by omega) (by omega)) ?_ | refine ER.mul (kd := .i64) rfl rfl rfl rfl (i64_in (by omega) (by omega)) ?_ | refine ER.rem (kd := .i64) rfl rfl rfl rfl (by decide) rfl ?_ | refine ER.indexArr rfl rfl rfl rfl (by omega) (by omega) ?_ | refine ER.len1 rfl rfl rfl ?_ | refine ER.indexSl rfl rfl rfl rfl (by omega) (by omega) ?_ | refine EK.condT rfl ?_ | refine EK.condF rfl ?_ | refine EK.ret ?_ | refine EK.exit rfl ?_ | refine ER.load1 rfl rfl rfl (by assumption) ?_ | refine EK.scope ?_ | refine EK.inScope ?_ | refine EK.label ?_))
    exact EU.ret2 rfl rfl rfl det
  · have a2 : 4096 < n := by omega
    (repeat (first | refine EK.seq ?_ | refine EK.region ?_ | refine ER.done ?_ | refine EK.skip ?_ | refine EK.block ?_ | refine EK.inBlock ?_ | refine ER.move rfl rfl rfl ?_ | refine ER.assign rfl rfl rfl ?_ | refine ER.nilCheck rfl rfl rfl ?_ | refine ER.fieldAddr rfl rfl rfl ?_ | refine ER.load1 rfl rfl rfl (hcell_of (by assumption) rfl) ?_ | refine ER.no rfl rfl ?_ | refine ER.noU rfl ?_ | refine ER.eqV rfl rfl rfl rfl rfl ?_ | refine ER.neqV rfl rfl rfl rfl rfl ?_ | refine ER.eqA rfl rfl rfl rfl rfl ?_ | refine ER.neqA rfl rfl rfl rfl rfl ?_ | refine ER.notB rfl rfl rfl ?_ | refine ER.pickT rfl rfl rfl rfl ?_ | refine ER.pickF rfl rfl rfl rfl ?_ | refine ER.extract rfl rfl rfl rfl ?_ | refine ER.cmpT rfl rfl rfl rfl rfl (by first | (dsimp only [cmpP]; omega) | exact rfl | exact Int.le_refl _) ?_ | refine ER.cmpF rfl rfl rfl rfl rfl (by first | (dsimp only [cmpP]; omega) | exact rfl | exact Int.le_refl _) ?_ | refine ER.boxA rfl rfl rfl ?_ | refine ER.box rfl rfl rfl ?_ | refine ER.allocA rfl rfl ?_ | refine ER.alloc rfl rfl ?_ | refine ER.add (kd := .i64) rfl rfl rfl rfl (i64_in (by omega) (by omega)) ?_ | refine ER.sub' (kd := .i64) rfl rfl rfl rfl (i64_in (by omega) (by omega)) ?_ | refine ER.mul (kd := .i64) rfl rfl rfl rfl (i64_in (by omega) (by omega)) ?_ | refine ER.rem (kd := .i64) rfl rfl rfl rfl (by decide) rfl ?_ | refine ER.indexArr rfl rfl rfl rfl (by omega) (by omega) ?_ | refine ER.len1 rfl rfl rfl ?_ | refine ER.indexSl rfl rfl rfl rfl (by omega) (by omega) ?_ | refine EK.condT rfl ?_ | refine EK.condF rfl ?_ | refine EK.ret ?_ | refine EK.exit rfl ?_ | refine ER.load1 rfl rfl rfl (by assumption) ?_ | refine EK.scope ?_ | refine EK.inScope ?_ | refine EK.label ?_))
    exact EU.ret2 rfl rfl rfl det


set_option maxRecDepth 8000 in
set_option maxHeartbeats 4000000 in
theorem stknew_ok {n : Nat} (hn1 : 1 ≤ n) (hn : n ≤ 4096) (hF : ∀ b o, h.size ≤ b → ¬ S.still δ.g ⟨b, o, none⟩) :
    CallW Try.prog main S 28 #[.int .i64 n] h δ (Ret fun w h' δ' => δ' = δ ∧ Upd (fun _ => False) h h' ∧ ∃ B, w = .tuple #[ptr (B 0), .int .i64 0] ∧ Rep h' (stkM n B fun k => if k = 2 then 0 else if k = 3 then 1 else if k % 2 = 0 then (((k - 4) / 2 + 1) % (n + 1) : Nat) else 0) ∧ ∀ k, k < 6 + 2 * n → h.size ≤ B k) := by
  refine CallW.start (n := 44) rfl rfl ?_
  (repeat (first | refine EK.seq ?_ | refine EK.region ?_ | refine ER.done ?_ | refine EK.skip ?_ | refine EK.block ?_ | refine EK.inBlock ?_ | refine ER.move rfl rfl rfl ?_ | refine ER.assign rfl rfl rfl ?_ | refine ER.nilCheck rfl rfl rfl ?_ | refine ER.fieldAddr rfl rfl rfl ?_ | refine ER.load1 rfl rfl rfl (hcell_of (by assumption) rfl) ?_ | refine ER.no rfl rfl ?_ | refine ER.noU rfl ?_ | refine ER.eqV rfl rfl rfl rfl rfl ?_ | refine ER.neqV rfl rfl rfl rfl rfl ?_ | refine ER.eqA rfl rfl rfl rfl rfl ?_ | refine ER.neqA rfl rfl rfl rfl rfl ?_ | refine ER.notB rfl rfl rfl ?_ | refine ER.pickT rfl rfl rfl rfl ?_ | refine ER.pickF rfl rfl rfl rfl ?_ | refine ER.extract rfl rfl rfl rfl ?_ | refine ER.cmpT rfl rfl rfl rfl rfl (by first | (dsimp only [cmpP]; omega) | exact rfl | exact Int.le_refl _) ?_ | refine ER.cmpF rfl rfl rfl rfl rfl (by first | (dsimp only [cmpP]; omega) | exact rfl | exact Int.le_refl _) ?_ | refine ER.boxA rfl rfl rfl ?_ | refine ER.box rfl rfl rfl ?_ | refine ER.allocA rfl rfl ?_ | refine ER.alloc rfl rfl ?_ | refine ER.add (kd := .i64) rfl rfl rfl rfl (i64_in (by omega) (by omega)) ?_ | refine ER.sub' (kd := .i64) rfl rfl rfl rfl (i64_in (by omega) (by omega)) ?_ | refine ER.mul (kd := .i64) rfl rfl rfl rfl (i64_in (by omega) (by omega)) ?_ | refine ER.rem (kd := .i64) rfl rfl rfl rfl (by decide) rfl ?_ | refine ER.indexArr rfl rfl rfl rfl (by omega) (by omega) ?_ | refine ER.len1 rfl rfl rfl ?_ | refine ER.indexSl rfl rfl rfl rfl (by omega) (by omega) ?_ | refine EK.condT rfl ?_ | refine EK.condF rfl ?_ | refine EK.ret ?_ | refine EK.exit rfl ?_ | refine ER.load1 rfl rfl rfl (by assumption) ?_ | refine EK.scope ?_ | refine EK.inScope ?_ | refine EK.label ?_))
  refine EK.regionAnyM (fun M : Mem Nat => [(4, ptr (M.B 0)), (0, .int .i64 n)]) (fun M h' δ' => δ' = δ ∧ NewS h n M h') (fun _ => True) 1000000 (fun fin => ?_) ?_
  · have hZ := trivial
    (first | refine EA.tMove 2 rfl (by kernel_rfl) (by kernel_rfl) (by kernel_rfl) rfl rfl rfl rfl hZ ?_ | refine EA.tAssign 2 rfl (by kernel_rfl) (by kernel_rfl) (by kernel_rfl) rfl rfl rfl rfl hZ ?_ | refine EA.tNil 2 rfl (by kernel_rfl) (by kernel_rfl) (by kernel_rfl) rfl rfl rfl rfl hZ ?_ | refine EA.tField 2 rfl (by kernel_rfl) (by kernel_rfl) (by kernel_rfl) rfl rfl rfl rfl hZ ?_ | refine EA.tNot 2 rfl (by kernel_rfl) (by kernel_rfl) (by kernel_rfl) rfl rfl rfl rfl hZ ?_ | refine EA.tAdd (kd := .i64) 2 rfl (by kernel_rfl) (by kernel_rfl) (by kernel_rfl) rfl rfl rfl rfl rfl (i64_in (by omega) (by omega)) hZ ?_ | refine EA.tSub (kd := .i64) 2 rfl (by kernel_rfl) (by kernel_rfl) (by kernel_rfl) rfl rfl rfl rfl rfl (i64_in (by omega) (by omega)) hZ ?_ | refine EA.tIdxA 2 rfl (by kernel_rfl) (by kernel_rfl) (by kernel_rfl) rfl rfl rfl rfl rfl (by omega) (by omega) hZ ?_ | refine EA.tIdxS 2 rfl (by kernel_rfl) (by kernel_rfl) (by kernel_rfl) rfl rfl rfl rfl rfl (by omega) (by omega) hZ ?_ | refine EA.tLen1 2 rfl (by kernel_rfl) (by kernel_rfl) (by kernel_rfl) rfl rfl rfl rfl hZ ?_ | refine EA.takeNo 2 rfl (by kernel_rfl) (by kernel_rfl) (by kernel_rfl) rfl rfl rfl hZ ?_ | refine EA.tPickT 2 rfl (by kernel_rfl) (by kernel_rfl) (by kernel_rfl) rfl rfl rfl rfl rfl hZ ?_ | refine EA.tPickF 2 rfl (by kernel_rfl) (by kernel_rfl) (by kernel_rfl) rfl rfl rfl rfl rfl hZ ?_ | refine EA.tCmpT 2 rfl (by kernel_rfl) (by kernel_rfl) (by kernel_rfl) rfl rfl rfl rfl rfl rfl (by first | (dsimp only [cmpP]; omega) | exact rfl | exact Int.le_refl _) hZ ?_ | refine EA.tCmpF 2 rfl (by kernel_rfl) (by kernel_rfl) (by kernel_rfl) rfl rfl rfl rfl rfl rfl (by first | (dsimp only [cmpP]; omega) | exact rfl | exact Int.le_refl _) hZ ?_ | refine EA.tMul (kd := .i64) 2 rfl (by kernel_rfl) (by kernel_rfl) (by kernel_rfl) rfl rfl rfl rfl rfl (i64_in (by omega) (by omega)) hZ ?_)
    (first | refine EA.tMove 3 rfl (by kernel_rfl) (by kernel_rfl) (by kernel_rfl) rfl rfl rfl rfl hZ ?_ | refine EA.tAssign 3 rfl (by kernel_rfl) (by kernel_rfl) (by kernel_rfl) rfl rfl rfl rfl hZ ?_ | refine EA.tNil 3 rfl (by kernel_rfl) (by kernel_rfl) (by kernel_rfl) rfl rfl rfl rfl hZ ?_ | refine EA.tField 3 rfl (by kernel_rfl) (by kernel_rfl) (by kernel_rfl) rfl rfl rfl rfl hZ ?_ | refine EA.tNot 3 rfl (by kernel_rfl) (by kernel_rfl) (by kernel_rfl) rfl rfl rfl rfl hZ ?_ | refine EA.tAdd (kd := .i64) 3 rfl (by kernel_rfl) (by kernel_rfl) (by kernel_rfl) rfl rfl rfl rfl rfl (i64_in (by omega) (by omega)) hZ ?_ | refine EA.tSub (kd := .i64) 3 rfl (by kernel_rfl) (by kernel_rfl) (by kernel_rfl) rfl rfl rfl rfl rfl (i64_in (by omega) (by omega)) hZ ?_ | refine EA.tIdxA 3 rfl (by kernel_rfl) (by kernel_rfl) (by kernel_rfl) rfl rfl rfl rfl rfl (by omega) (by omega) hZ ?_ | refine EA.tIdxS 3 rfl (by kernel_rfl) (by kernel_rfl) (by kernel_rfl) rfl rfl rfl rfl rfl (by omega) (by omega) hZ ?_ | refine EA.tLen1 3 rfl (by kernel_rfl) (by kernel_rfl) (by kernel_rfl) rfl rfl rfl rfl hZ ?_ | refine EA.takeNo 3 rfl (by kernel_rfl) (by kernel_rfl) (by kernel_rfl) rfl rfl rfl hZ ?_ | refine EA.tPickT 3 rfl (by kernel_rfl) (by kernel_rfl) (by kernel_rfl) rfl rfl rfl rfl rfl hZ ?_ | refine EA.tPickF 3 rfl (by kernel_rfl) (by kernel_rfl) (by kernel_rfl) rfl rfl rfl rfl rfl hZ ?_ | refine EA.tCmpT 3 rfl (by kernel_rfl) (by kernel_rfl) (by kernel_rfl) rfl rfl rfl rfl rfl rfl (by first | (dsimp only [cmpP]; omega) | exact rfl | exact Int.le_refl _) hZ ?_ | refine EA.tCmpF 3 rfl (by kernel_rfl) (by kernel_rfl) (by kernel_rfl) rfl rfl rfl rfl rfl rfl (by first | (dsimp only [cmpP]; omega) | exact rfl | exact Int.le_refl _) hZ ?_ | refine EA.tMul (kd := .i64) 3 rfl (by kernel_rfl) (by kernel_rfl) (by kernel_rfl) rfl rfl rfl rfl rfl (i64_in (by omega) (by omega)) hZ ?_)
    refine EA.alt2 0 4 (by kernel_rfl) ?_ ?_
    · refine EAi.callD rfl rfl rfl rfl rfl rfl rfl (cnewS (hF _ _ (Nat.le_refl _))) trivial ?_
      refine EA.alt2 1 4 (by kernel_rfl) ?_ ?_
      · refine EAi.callD rfl rfl rfl rfl rfl rfl rfl (cnewS (hF _ _ (by simp))) trivial ?_
        have p3 := push3 h (cellO 0) (cellO 1) (.cells (List.replicate ((n + 1) * 2) (Value.pointer none)).toArray 221)
        refine EA.val (v := .slice (some ⟨((h.push (cellO 0)).push (cellO 1)).size, 0, none⟩) (n + 1) (n + 1)) (h' := ((h.push (cellO 0)).push (cellO 1)).push (.cells (List.replicate ((n + 1) * 2) (Value.pointer none)).toArray 221)) 4 rfl (by kernel_rfl) rfl rfl rfl (fun ρ Q X hρ hq => sem_makeSlice2 (m := n + 1) (u := Value.pointer none) (hρ _ _ rfl) (hρ _ _ rfl) (by omega) (by omega) (by omega) rfl hq) trivial ?_
        simp only [Array.size_push]
        refine EA.gen (fun hh => Upd (fun _ => False) h hh ∧ hh[h.size + 2]? = some (.cells (List.replicate ((n + 1) * 2) (Value.pointer none)).toArray 221 (0, 0)) ∧ hh[h.size]? = some (cellO 0) ∧ hh[h.size + 1]? = some (cellO 1)) ⟨p3.1, p3.2.2.2.2, p3.2.2.1, p3.2.2.2.1⟩ ?_
        rintro hh ⟨u, g1, g2, g3⟩
        refine EA.val (v := .agg #[ptr (h.size), ptr (h.size + 1), .slice (some ⟨h.size + 2, 0, none⟩) (n + 1) (n + 1)]) (h' := hh) 5 rfl (by kernel_rfl) rfl rfl rfl (fun ρ Q X hρ hq => sem_buildS hρ rfl rfl hq) trivial ?_
        refine EA.val (v := ptr hh.size) (h' := hh.push (.cells #[ptr (h.size), ptr (h.size + 1), .slice (some ⟨h.size + 2, 0, none⟩) (n + 1) (n + 1)] 79)) 6 rfl (by kernel_rfl) rfl rfl rfl (fun ρ Q X hρ hq => by
          show SemW _ _ (Instr.box _ (ρ _) >>= fun v => pure (.value v)) _ _ Q X
          rw [hρ _ (.agg #[ptr (h.size), ptr (h.size + 1), .slice (some ⟨h.size + 2, 0, none⟩) (n + 1) (n + 1)]) rfl]
          exact ⟨thawed, hq⟩) trivial ?_
        (first | refine EA.tMove 7 rfl (by kernel_rfl) (by kernel_rfl) (by kernel_rfl) rfl rfl rfl rfl hZ ?_ | refine EA.tAssign 7 rfl (by kernel_rfl) (by kernel_rfl) (by kernel_rfl) rfl rfl rfl rfl hZ ?_ | refine EA.tNil 7 rfl (by kernel_rfl) (by kernel_rfl) (by kernel_rfl) rfl rfl rfl rfl hZ ?_ | refine EA.tField 7 rfl (by kernel_rfl) (by kernel_rfl) (by kernel_rfl) rfl rfl rfl rfl hZ ?_ | refine EA.tNot 7 rfl (by kernel_rfl) (by kernel_rfl) (by kernel_rfl) rfl rfl rfl rfl hZ ?_ | refine EA.tAdd (kd := .i64) 7 rfl (by kernel_rfl) (by kernel_rfl) (by kernel_rfl) rfl rfl rfl rfl rfl (i64_in (by omega) (by omega)) hZ ?_ | refine EA.tSub (kd := .i64) 7 rfl (by kernel_rfl) (by kernel_rfl) (by kernel_rfl) rfl rfl rfl rfl rfl (i64_in (by omega) (by omega)) hZ ?_ | refine EA.tIdxA 7 rfl (by kernel_rfl) (by kernel_rfl) (by kernel_rfl) rfl rfl rfl rfl rfl (by omega) (by omega) hZ ?_ | refine EA.tIdxS 7 rfl (by kernel_rfl) (by kernel_rfl) (by kernel_rfl) rfl rfl rfl rfl rfl (by omega) (by omega) hZ ?_ | refine EA.tLen1 7 rfl (by kernel_rfl) (by kernel_rfl) (by kernel_rfl) rfl rfl rfl rfl hZ ?_ | refine EA.takeNo 7 rfl (by kernel_rfl) (by kernel_rfl) (by kernel_rfl) rfl rfl rfl hZ ?_ | refine EA.tPickT 7 rfl (by kernel_rfl) (by kernel_rfl) (by kernel_rfl) rfl rfl rfl rfl rfl hZ ?_ | refine EA.tPickF 7 rfl (by kernel_rfl) (by kernel_rfl) (by kernel_rfl) rfl rfl rfl rfl rfl hZ ?_ | refine EA.tCmpT 7 rfl (by kernel_rfl) (by kernel_rfl) (by kernel_rfl) rfl rfl rfl rfl rfl rfl (by first | (dsimp only [cmpP]; omega) | exact rfl | exact Int.le_refl _) hZ ?_ | refine EA.tCmpF 7 rfl (by kernel_rfl) (by kernel_rfl) (by kernel_rfl) rfl rfl rfl rfl rfl rfl (by first | (dsimp only [cmpP]; omega) | exact rfl | exact Int.le_refl _) hZ ?_ | refine EA.tMul (kd := .i64) 7 rfl (by kernel_rfl) (by kernel_rfl) (by kernel_rfl) rfl rfl rfl rfl rfl (i64_in (by omega) (by omega)) hZ ?_)
        refine EA.done (by kernel_rfl) ?_
        exact EK.sub (e := [(4, ptr hh.size), (0, .int .i64 n)]) ⟨rfl, rfl, trivial⟩ (fin _ _ _ ⟨rfl, news_of u g1 g2 g3 ⟨by omega, by omega, by omega⟩ ⟨by omega, by omega, by omega⟩⟩)
      · refine EAi.val (v := .slice (some ⟨(h.push (cellO 0)).size, 0, none⟩) (n + 1) (n + 1)) (h' := (h.push (cellO 0)).push (.cells (List.replicate ((n + 1) * 2) (Value.pointer none)).toArray 221)) rfl rfl rfl rfl (fun ρ Q X hρ hq => sem_makeSlice2 (m := n + 1) (u := Value.pointer none) (hρ _ _ rfl) (hρ _ _ rfl) (by omega) (by omega) (by omega) rfl hq) trivial ?_
        have p3 := push3 h (cellO 0) (.cells (List.replicate ((n + 1) * 2) (Value.pointer none)).toArray 221) (cellO 1)
        refine EA.callD 1 rfl (by kernel_rfl) rfl rfl rfl rfl rfl rfl (cnewS (hF _ _ (by simp; omega))) trivial ?_
        simp only [Array.size_push]
        refine EA.gen (fun hh => Upd (fun _ => False) h hh ∧ hh[h.size + 1]? = some (.cells (List.replicate ((n + 1) * 2) (Value.pointer none)).toArray 221 (0, 0)) ∧ hh[h.size]? = some (cellO 0) ∧ hh[h.size + 2]? = some (cellO 1)) ⟨p3.1, p3.2.2.2.1, p3.2.2.1, p3.2.2.2.2⟩ ?_
        rintro hh ⟨u, g1, g2, g3⟩
        refine EA.val (v := .agg #[ptr (h.size), ptr (h.size + 2), .slice (some ⟨h.size + 1, 0, none⟩) (n + 1) (n + 1)]) (h' := hh) 5 rfl (by kernel_rfl) rfl rfl rfl (fun ρ Q X hρ hq => sem_buildS hρ rfl rfl hq) trivial ?_
        refine EA.val (v := ptr hh.size) (h' := hh.push (.cells #[ptr (h.size), ptr (h.size + 2), .slice (some ⟨h.size + 1, 0, none⟩) (n + 1) (n + 1)] 79)) 6 rfl (by kernel_rfl) rfl rfl rfl (fun ρ Q X hρ hq => by
          show SemW _ _ (Instr.box _ (ρ _) >>= fun v => pure (.value v)) _ _ Q X
          rw [hρ _ (.agg #[ptr (h.size), ptr (h.size + 2), .slice (some ⟨h.size + 1, 0, none⟩) (n + 1) (n + 1)]) rfl]
          exact ⟨thawed, hq⟩) trivial ?_
        (first | refine EA.tMove 7 rfl (by kernel_rfl) (by kernel_rfl) (by kernel_rfl) rfl rfl rfl rfl hZ ?_ | refine EA.tAssign 7 rfl (by kernel_rfl) (by kernel_rfl) (by kernel_rfl) rfl rfl rfl rfl hZ ?_ | refine EA.tNil 7 rfl (by kernel_rfl) (by kernel_rfl) (by kernel_rfl) rfl rfl rfl rfl hZ ?_ | refine EA.tField 7 rfl (by kernel_rfl) (by kernel_rfl) (by kernel_rfl) rfl rfl rfl rfl hZ ?_ | refine EA.tNot 7 rfl (by kernel_rfl) (by kernel_rfl) (by kernel_rfl) rfl rfl rfl rfl hZ ?_ | refine EA.tAdd (kd := .i64) 7 rfl (by kernel_rfl) (by kernel_rfl) (by kernel_rfl) rfl rfl rfl rfl rfl (i64_in (by omega) (by omega)) hZ ?_ | refine EA.tSub (kd := .i64) 7 rfl (by kernel_rfl) (by kernel_rfl) (by kernel_rfl) rfl rfl rfl rfl rfl (i64_in (by omega) (by omega)) hZ ?_ | refine EA.tIdxA 7 rfl (by kernel_rfl) (by kernel_rfl) (by kernel_rfl) rfl rfl rfl rfl rfl (by omega) (by omega) hZ ?_ | refine EA.tIdxS 7 rfl (by kernel_rfl) (by kernel_rfl) (by kernel_rfl) rfl rfl rfl rfl rfl (by omega) (by omega) hZ ?_ | refine EA.tLen1 7 rfl (by kernel_rfl) (by kernel_rfl) (by kernel_rfl) rfl rfl rfl rfl hZ ?_ | refine EA.takeNo 7 rfl (by kernel_rfl) (by kernel_rfl) (by kernel_rfl) rfl rfl rfl hZ ?_ | refine EA.tPickT 7 rfl (by kernel_rfl) (by kernel_rfl) (by kernel_rfl) rfl rfl rfl rfl rfl hZ ?_ | refine EA.tPickF 7 rfl (by kernel_rfl) (by kernel_rfl) (by kernel_rfl) rfl rfl rfl rfl rfl hZ ?_ | refine EA.tCmpT 7 rfl (by kernel_rfl) (by kernel_rfl) (by kernel_rfl) rfl rfl rfl rfl rfl rfl (by first | (dsimp only [cmpP]; omega) | exact rfl | exact Int.le_refl _) hZ ?_ | refine EA.tCmpF 7 rfl (by kernel_rfl) (by kernel_rfl) (by kernel_rfl) rfl rfl rfl rfl rfl rfl (by first | (dsimp only [cmpP]; omega) | exact rfl | exact Int.le_refl _) hZ ?_ | refine EA.tMul (kd := .i64) 7 rfl (by kernel_rfl) (by kernel_rfl) (by kernel_rfl) rfl rfl rfl rfl rfl (i64_in (by omega) (by omega)) hZ ?_)
        refine EA.done (by kernel_rfl) ?_
        exact EK.sub (e := [(4, ptr hh.size), (0, .int .i64 n)]) ⟨rfl, rfl, trivial⟩ (fin _ _ _ ⟨rfl, news_of u g1 g2 g3 ⟨by omega, by omega, by omega⟩ ⟨by omega, by omega, by omega⟩⟩)
    · refine EAi.val (v := .slice (some ⟨(h).size, 0, none⟩) (n + 1) (n + 1)) (h' := (h).push (.cells (List.replicate ((n + 1) * 2) (Value.pointer none)).toArray 221)) rfl rfl rfl rfl (fun ρ Q X hρ hq => sem_makeSlice2 (m := n + 1) (u := Value.pointer none) (hρ _ _ rfl) (hρ _ _ rfl) (by omega) (by omega) (by omega) rfl hq) trivial ?_
      have p3 := push3 h (.cells (List.replicate ((n + 1) * 2) (Value.pointer none)).toArray 221) (cellO 0) (cellO 1)
      refine EA.callD 0 rfl (by kernel_rfl) rfl rfl rfl rfl rfl rfl (cnewS (hF _ _ (by simp))) trivial ?_
      refine EA.callD 1 rfl (by kernel_rfl) rfl rfl rfl rfl rfl rfl (cnewS (hF _ _ (by simp; omega))) trivial ?_
      simp only [Array.size_push]
      refine EA.gen (fun hh => Upd (fun _ => False) h hh ∧ hh[h.size]? = some (.cells (List.replicate ((n + 1) * 2) (Value.pointer none)).toArray 221 (0, 0)) ∧ hh[h.size + 1]? = some (cellO 0) ∧ hh[h.size + 2]? = some (cellO 1)) ⟨p3.1, p3.2.2.1, p3.2.2.2.1, p3.2.2.2.2⟩ ?_
      rintro hh ⟨u, g1, g2, g3⟩
      refine EA.val (v := .agg #[ptr (h.size + 1), ptr (h.size + 2), .slice (some ⟨h.size, 0, none⟩) (n + 1) (n + 1)]) (h' := hh) 5 rfl (by kernel_rfl) rfl rfl rfl (fun ρ Q X hρ hq => sem_buildS hρ rfl rfl hq) trivial ?_
      refine EA.val (v := ptr hh.size) (h' := hh.push (.cells #[ptr (h.size + 1), ptr (h.size + 2), .slice (some ⟨h.size, 0, none⟩) (n + 1) (n + 1)] 79)) 6 rfl (by kernel_rfl) rfl rfl rfl (fun ρ Q X hρ hq => by
        show SemW _ _ (Instr.box _ (ρ _) >>= fun v => pure (.value v)) _ _ Q X
        rw [hρ _ (.agg #[ptr (h.size + 1), ptr (h.size + 2), .slice (some ⟨h.size, 0, none⟩) (n + 1) (n + 1)]) rfl]
        exact ⟨thawed, hq⟩) trivial ?_
      (first | refine EA.tMove 7 rfl (by kernel_rfl) (by kernel_rfl) (by kernel_rfl) rfl rfl rfl rfl hZ ?_ | refine EA.tAssign 7 rfl (by kernel_rfl) (by kernel_rfl) (by kernel_rfl) rfl rfl rfl rfl hZ ?_ | refine EA.tNil 7 rfl (by kernel_rfl) (by kernel_rfl) (by kernel_rfl) rfl rfl rfl rfl hZ ?_ | refine EA.tField 7 rfl (by kernel_rfl) (by kernel_rfl) (by kernel_rfl) rfl rfl rfl rfl hZ ?_ | refine EA.tNot 7 rfl (by kernel_rfl) (by kernel_rfl) (by kernel_rfl) rfl rfl rfl rfl hZ ?_ | refine EA.tAdd (kd := .i64) 7 rfl (by kernel_rfl) (by kernel_rfl) (by kernel_rfl) rfl rfl rfl rfl rfl (i64_in (by omega) (by omega)) hZ ?_ | refine EA.tSub (kd := .i64) 7 rfl (by kernel_rfl) (by kernel_rfl) (by kernel_rfl) rfl rfl rfl rfl rfl (i64_in (by omega) (by omega)) hZ ?_ | refine EA.tIdxA 7 rfl (by kernel_rfl) (by kernel_rfl) (by kernel_rfl) rfl rfl rfl rfl rfl (by omega) (by omega) hZ ?_ | refine EA.tIdxS 7 rfl (by kernel_rfl) (by kernel_rfl) (by kernel_rfl) rfl rfl rfl rfl rfl (by omega) (by omega) hZ ?_ | refine EA.tLen1 7 rfl (by kernel_rfl) (by kernel_rfl) (by kernel_rfl) rfl rfl rfl rfl hZ ?_ | refine EA.takeNo 7 rfl (by kernel_rfl) (by kernel_rfl) (by kernel_rfl) rfl rfl rfl hZ ?_ | refine EA.tPickT 7 rfl (by kernel_rfl) (by kernel_rfl) (by kernel_rfl) rfl rfl rfl rfl rfl hZ ?_ | refine EA.tPickF 7 rfl (by kernel_rfl) (by kernel_rfl) (by kernel_rfl) rfl rfl rfl rfl rfl hZ ?_ | refine EA.tCmpT 7 rfl (by kernel_rfl) (by kernel_rfl) (by kernel_rfl) rfl rfl rfl rfl rfl rfl (by first | (dsimp only [cmpP]; omega) | exact rfl | exact Int.le_refl _) hZ ?_ | refine EA.tCmpF 7 rfl (by kernel_rfl) (by kernel_rfl) (by kernel_rfl) rfl rfl rfl rfl rfl rfl (by first | (dsimp only [cmpP]; omega) | exact rfl | exact Int.le_refl _) hZ ?_ | refine EA.tMul (kd := .i64) 7 rfl (by kernel_rfl) (by kernel_rfl) (by kernel_rfl) rfl rfl rfl rfl rfl (i64_in (by omega) (by omega)) hZ ?_)
      refine EA.done (by kernel_rfl) ?_
      exact EK.sub (e := [(4, ptr hh.size), (0, .int .i64 n)]) ⟨rfl, rfl, trivial⟩ (fin _ _ _ ⟨rfl, news_of u g1 g2 g3 ⟨by omega, by omega, by omega⟩ ⟨by omega, by omega, by omega⟩⟩)
  · rintro M h1 δ1 ⟨rfl, N⟩
    have okM : ∀ k, k < 4 → M.ok k := fun k hk => (N.ok k).2 hk
    have x0 : NewSI h n (M.B 0) (M.B 2) (M.B 3) (M.B 1) M 0 h1 := ⟨N.upd, N.rep, fun k => by rw [N.ok], ⟨rfl, rfl, rfl, rfl⟩, N.o0, by rw [N.o1]; rfl, N.o2, N.o3, fun j hj => by omega, N.above⟩
    have cT : hcell h1 ⟨M.B 0, 2, none⟩ = some (.slice (some ⟨M.B 1, 0, none⟩) (n + 1) (n + 1)) := N.rep.cell (okM 0 (by omega)) N.o0 rfl
    clear okM N
    generalize M.B 0 = T at x0 cT ⊢
    generalize M.B 1 = B1 at x0 cT
    generalize M.B 2 = B2 at x0
    generalize M.B 3 = B3 at x0
    (repeat (first | refine EK.seq ?_ | refine EK.region ?_ | refine ER.done ?_ | refine EK.skip ?_ | refine EK.block ?_ | refine EK.inBlock ?_ | refine ER.move rfl rfl rfl ?_ | refine ER.assign rfl rfl rfl ?_ | refine ER.nilCheck rfl rfl rfl ?_ | refine ER.fieldAddr rfl rfl rfl ?_ | refine ER.load1 rfl rfl rfl (hcell_of (by assumption) rfl) ?_ | refine ER.no rfl rfl ?_ | refine ER.noU rfl ?_ | refine ER.eqV rfl rfl rfl rfl rfl ?_ | refine ER.neqV rfl rfl rfl rfl rfl ?_ | refine ER.eqA rfl rfl rfl rfl rfl ?_ | refine ER.neqA rfl rfl rfl rfl rfl ?_ | refine ER.notB rfl rfl rfl ?_ | refine ER.pickT rfl rfl rfl rfl ?_ | refine ER.pickF rfl rfl rfl rfl ?_ | refine ER.extract rfl rfl rfl rfl ?_ | refine ER.cmpT rfl rfl rfl rfl rfl (by first | (dsimp only [cmpP]; omega) | exact rfl | exact Int.le_refl _) ?_ | refine ER.cmpF rfl rfl rfl rfl rfl (by first | (dsimp only [cmpP]; omega) | exact rfl | exact Int.le_refl _) ?_ | refine ER.boxA rfl rfl rfl ?_ | refine ER.box rfl rfl rfl ?_ | refine ER.allocA rfl rfl ?_ | refine ER.alloc rfl rfl ?_ | refine ER.add (kd := .i64) rfl rfl rfl rfl (i64_in (by omega) (by omega)) ?_ | refine ER.sub' (kd := .i64) rfl rfl rfl rfl (i64_in (by omega) (by omega)) ?_ | refine ER.mul (kd := .i64) rfl rfl rfl rfl (i64_in (by omega) (by omega)) ?_ | refine ER.rem (kd := .i64) rfl rfl rfl rfl (by decide) rfl ?_ | refine ER.indexArr rfl rfl rfl rfl (by omega) (by omega) ?_ | refine ER.len1 rfl rfl rfl ?_ | refine ER.indexSl rfl rfl rfl rfl (by omega) (by omega) ?_ | refine EK.condT rfl ?_ | refine EK.condF rfl ?_ | refine EK.ret ?_ | refine EK.exit rfl ?_ | refine ER.load1 rfl rfl rfl (by assumption) ?_ | refine EK.scope ?_ | refine EK.inScope ?_ | refine EK.label ?_))
    refine EK.loopInv (fun t : RSS => [(24, .int .i64 t.i), (23, .int .i64 ((n + 1 : Nat) : Int)), (4, ptr T), (0, .int .i64 n)]) (fun t h' δ' => δ' = δ1 ∧ t.i ≤ n + 1 ∧ NewSI h n T B2 B3 B1 t.M t.i h') (fun t => n + 1 - t.i) ⟨0, _⟩ ⟨rfl, rfl, rfl, rfl, trivial⟩ ⟨rfl, Nat.zero_le _, x0⟩ ?_
    clear x0 cT h1 M
    rintro ⟨i, M⟩ h1 δ ⟨hδ1, hi, x⟩ again
    dsimp only at hi x again ⊢
    subst hδ1
    have hsz := x.upd.size
    have cT : hcell h1 ⟨T, 2, none⟩ = some (.slice (some ⟨B1, 0, none⟩) (n + 1) (n + 1)) := x.b.1 ▸ x.rep.cell ((x.ok 0).2 (by omega)) x.o0 rfl
    by_cases hin : i < n + 1
    · (repeat (first | refine EK.seq ?_ | refine EK.region ?_ | refine ER.done ?_ | refine EK.skip ?_ | refine EK.block ?_ | refine EK.inBlock ?_ | refine ER.move rfl rfl rfl ?_ | refine ER.assign rfl rfl rfl ?_ | refine ER.nilCheck rfl rfl rfl ?_ | refine ER.fieldAddr rfl rfl rfl ?_ | refine ER.load1 rfl rfl rfl (hcell_of (by assumption) rfl) ?_ | refine ER.no rfl rfl ?_ | refine ER.noU rfl ?_ | refine ER.eqV rfl rfl rfl rfl rfl ?_ | refine ER.neqV rfl rfl rfl rfl rfl ?_ | refine ER.eqA rfl rfl rfl rfl rfl ?_ | refine ER.neqA rfl rfl rfl rfl rfl ?_ | refine ER.notB rfl rfl rfl ?_ | refine ER.pickT rfl rfl rfl rfl ?_ | refine ER.pickF rfl rfl rfl rfl ?_ | refine ER.extract rfl rfl rfl rfl ?_ | refine ER.cmpT rfl rfl rfl rfl rfl (by first | (dsimp only [cmpP]; omega) | exact rfl | exact Int.le_refl _) ?_ | refine ER.cmpF rfl rfl rfl rfl rfl (by first | (dsimp only [cmpP]; omega) | exact rfl | exact Int.le_refl _) ?_ | refine ER.boxA rfl rfl rfl ?_ | refine ER.box rfl rfl rfl ?_ | refine ER.allocA rfl rfl ?_ | refine ER.alloc rfl rfl ?_ | refine ER.add (kd := .i64) rfl rfl rfl rfl (i64_in (by omega) (by omega)) ?_ | refine ER.sub' (kd := .i64) rfl rfl rfl rfl (i64_in (by omega) (by omega)) ?_ | refine ER.mul (kd := .i64) rfl rfl rfl rfl (i64_in (by omega) (by omega)) ?_ | refine ER.rem (kd := .i64) rfl rfl rfl rfl (by decide) rfl ?_ | refine ER.indexArr rfl rfl rfl rfl (by omega) (by omega) ?_ | refine ER.len1 rfl rfl rfl ?_ | refine ER.indexSl rfl rfl rfl rfl (by omega) (by omega) ?_ | refine EK.condT rfl ?_ | refine EK.condF rfl ?_ | refine EK.ret ?_ | refine EK.exit rfl ?_ | refine ER.load1 rfl rfl rfl (by assumption) ?_ | refine EK.scope ?_ | refine EK.inScope ?_ | refine EK.label ?_))
      have hrem : ((i : Int) + 1).tmod ((n : Int) + 1) = (((i + 1) % (n + 1) : Nat) : Int) := by
        rw [Int.tmod_eq_emod_of_nonneg (by omega)]; simp
      refine EK.regionAnyL (fun h' => hcell h' ⟨T, 2, none⟩ = some (.slice (some ⟨B1, 0, none⟩) (n + 1) (n + 1))) 15 ?_
      have hZ := cT
      (first | refine EA.tMove 0 rfl (by kernel_rfl) (by kernel_rfl) (by kernel_rfl) rfl rfl rfl rfl hZ ?_ | refine EA.tAssign 0 rfl (by kernel_rfl) (by kernel_rfl) (by kernel_rfl) rfl rfl rfl rfl hZ ?_ | refine EA.tNil 0 rfl (by kernel_rfl) (by kernel_rfl) (by kernel_rfl) rfl rfl rfl rfl hZ ?_ | refine EA.tField 0 rfl (by kernel_rfl) (by kernel_rfl) (by kernel_rfl) rfl rfl rfl rfl hZ ?_ | refine EA.tNot 0 rfl (by kernel_rfl) (by kernel_rfl) (by kernel_rfl) rfl rfl rfl rfl hZ ?_ | refine EA.tAdd (kd := .i64) 0 rfl (by kernel_rfl) (by kernel_rfl) (by kernel_rfl) rfl rfl rfl rfl rfl (i64_in (by omega) (by omega)) hZ ?_ | refine EA.tSub (kd := .i64) 0 rfl (by kernel_rfl) (by kernel_rfl) (by kernel_rfl) rfl rfl rfl rfl rfl (i64_in (by omega) (by omega)) hZ ?_ | refine EA.tIdxA 0 rfl (by kernel_rfl) (by kernel_rfl) (by kernel_rfl) rfl rfl rfl rfl rfl (by omega) (by omega) hZ ?_ | refine EA.tIdxS 0 rfl (by kernel_rfl) (by kernel_rfl) (by kernel_rfl) rfl rfl rfl rfl rfl (by omega) (by omega) hZ ?_ | refine EA.tLen1 0 rfl (by kernel_rfl) (by kernel_rfl) (by kernel_rfl) rfl rfl rfl rfl hZ ?_ | refine EA.takeNo 0 rfl (by kernel_rfl) (by kernel_rfl) (by kernel_rfl) rfl rfl rfl hZ ?_ | refine EA.tPickT 0 rfl (by kernel_rfl) (by kernel_rfl) (by kernel_rfl) rfl rfl rfl rfl rfl hZ ?_ | refine EA.tPickF 0 rfl (by kernel_rfl) (by kernel_rfl) (by kernel_rfl) rfl rfl rfl rfl rfl hZ ?_ | refine EA.tCmpT 0 rfl (by kernel_rfl) (by kernel_rfl) (by kernel_rfl) rfl rfl rfl rfl rfl rfl (by first | (dsimp only [cmpP]; omega) | exact rfl | exact Int.le_refl _) hZ ?_ | refine EA.tCmpF 0 rfl (by kernel_rfl) (by kernel_rfl) (by kernel_rfl) rfl rfl rfl rfl rfl rfl (by first | (dsimp only [cmpP]; omega) | exact rfl | exact Int.le_refl _) hZ ?_ | refine EA.tMul (kd := .i64) 0 rfl (by kernel_rfl) (by kernel_rfl) (by kernel_rfl) rfl rfl rfl rfl rfl (i64_in (by omega) (by omega)) hZ ?_)
      (first | refine EA.tMove 1 rfl (by kernel_rfl) (by kernel_rfl) (by kernel_rfl) rfl rfl rfl rfl hZ ?_ | refine EA.tAssign 1 rfl (by kernel_rfl) (by kernel_rfl) (by kernel_rfl) rfl rfl rfl rfl hZ ?_ | refine EA.tNil 1 rfl (by kernel_rfl) (by kernel_rfl) (by kernel_rfl) rfl rfl rfl rfl hZ ?_ | refine EA.tField 1 rfl (by kernel_rfl) (by kernel_rfl) (by kernel_rfl) rfl rfl rfl rfl hZ ?_ | refine EA.tNot 1 rfl (by kernel_rfl) (by kernel_rfl) (by kernel_rfl) rfl rfl rfl rfl hZ ?_ | refine EA.tAdd (kd := .i64) 1 rfl (by kernel_rfl) (by kernel_rfl) (by kernel_rfl) rfl rfl rfl rfl rfl (i64_in (by omega) (by omega)) hZ ?_ | refine EA.tSub (kd := .i64) 1 rfl (by kernel_rfl) (by kernel_rfl) (by kernel_rfl) rfl rfl rfl rfl rfl (i64_in (by omega) (by omega)) hZ ?_ | refine EA.tIdxA 1 rfl (by kernel_rfl) (by kernel_rfl) (by kernel_rfl) rfl rfl rfl rfl rfl (by omega) (by omega) hZ ?_ | refine EA.tIdxS 1 rfl (by kernel_rfl) (by kernel_rfl) (by kernel_rfl) rfl rfl rfl rfl rfl (by omega) (by omega) hZ ?_ | refine EA.tLen1 1 rfl (by kernel_rfl) (by kernel_rfl) (by kernel_rfl) rfl rfl rfl rfl hZ ?_ | refine EA.takeNo 1 rfl (by kernel_rfl) (by kernel_rfl) (by kernel_rfl) rfl rfl rfl hZ ?_ | refine EA.tPickT 1 rfl (by kernel_rfl) (by kernel_rfl) (by kernel_rfl) rfl rfl rfl rfl rfl hZ ?_ | refine EA.tPickF 1 rfl (by kernel_rfl) (by kernel_rfl) (by kernel_rfl) rfl rfl rfl rfl rfl hZ ?_ | refine EA.tCmpT 1 rfl (by kernel_rfl) (by kernel_rfl) (by kernel_rfl) rfl rfl rfl rfl rfl rfl (by first | (dsimp only [cmpP]; omega) | exact rfl | exact Int.le_refl _) hZ ?_ | refine EA.tCmpF 1 rfl (by kernel_rfl) (by kernel_rfl) (by kernel_rfl) rfl rfl rfl rfl rfl rfl (by first | (dsimp only [cmpP]; omega) | exact rfl | exact Int.le_refl _) hZ ?_ | refine EA.tMul (kd := .i64) 1 rfl (by kernel_rfl) (by kernel_rfl) (by kernel_rfl) rfl rfl rfl rfl rfl (i64_in (by omega) (by omega)) hZ ?_)
      (first | refine EA.tMove 2 rfl (by kernel_rfl) (by kernel_rfl) (by kernel_rfl) rfl rfl rfl rfl hZ ?_ | refine EA.tAssign 2 rfl (by kernel_rfl) (by kernel_rfl) (by kernel_rfl) rfl rfl rfl rfl hZ ?_ | refine EA.tNil 2 rfl (by kernel_rfl) (by kernel_rfl) (by kernel_rfl) rfl rfl rfl rfl hZ ?_ | refine EA.tField 2 rfl (by kernel_rfl) (by kernel_rfl) (by kernel_rfl) rfl rfl rfl rfl hZ ?_ | refine EA.tNot 2 rfl (by kernel_rfl) (by kernel_rfl) (by kernel_rfl) rfl rfl rfl rfl hZ ?_ | refine EA.tAdd (kd := .i64) 2 rfl (by kernel_rfl) (by kernel_rfl) (by kernel_rfl) rfl rfl rfl rfl rfl (i64_in (by omega) (by omega)) hZ ?_ | refine EA.tSub (kd := .i64) 2 rfl (by kernel_rfl) (by kernel_rfl) (by kernel_rfl) rfl rfl rfl rfl rfl (i64_in (by omega) (by omega)) hZ ?_ | refine EA.tIdxA 2 rfl (by kernel_rfl) (by kernel_rfl) (by kernel_rfl) rfl rfl rfl rfl rfl (by omega) (by omega) hZ ?_ | refine EA.tIdxS 2 rfl (by kernel_rfl) (by kernel_rfl) (by kernel_rfl) rfl rfl rfl rfl rfl (by omega) (by omega) hZ ?_ | refine EA.tLen1 2 rfl (by kernel_rfl) (by kernel_rfl) (by kernel_rfl) rfl rfl rfl rfl hZ ?_ | refine EA.takeNo 2 rfl (by kernel_rfl) (by kernel_rfl) (by kernel_rfl) rfl rfl rfl hZ ?_ | refine EA.tPickT 2 rfl (by kernel_rfl) (by kernel_rfl) (by kernel_rfl) rfl rfl rfl rfl rfl hZ ?_ | refine EA.tPickF 2 rfl (by kernel_rfl) (by kernel_rfl) (by kernel_rfl) rfl rfl rfl rfl rfl hZ ?_ | refine EA.tCmpT 2 rfl (by kernel_rfl) (by kernel_rfl) (by kernel_rfl) rfl rfl rfl rfl rfl rfl (by first | (dsimp only [cmpP]; omega) | exact rfl | exact Int.le_refl _) hZ ?_ | refine EA.tCmpF 2 rfl (by kernel_rfl) (by kernel_rfl) (by kernel_rfl) rfl rfl rfl rfl rfl rfl (by first | (dsimp only [cmpP]; omega) | exact rfl | exact Int.le_refl _) hZ ?_ | refine EA.tMul (kd := .i64) 2 rfl (by kernel_rfl) (by kernel_rfl) (by kernel_rfl) rfl rfl rfl rfl rfl (i64_in (by omega) (by omega)) hZ ?_)
      refine EA.tLoad 3 rfl (by kernel_rfl) (by kernel_rfl) (by kernel_rfl) rfl rfl rfl rfl (fun _ hz => hz) hZ ?_
      (first | refine EA.tMove 4 rfl (by kernel_rfl) (by kernel_rfl) (by kernel_rfl) rfl rfl rfl rfl hZ ?_ | refine EA.tAssign 4 rfl (by kernel_rfl) (by kernel_rfl) (by kernel_rfl) rfl rfl rfl rfl hZ ?_ | refine EA.tNil 4 rfl (by kernel_rfl) (by kernel_rfl) (by kernel_rfl) rfl rfl rfl rfl hZ ?_ | refine EA.tField 4 rfl (by kernel_rfl) (by kernel_rfl) (by kernel_rfl) rfl rfl rfl rfl hZ ?_ | refine EA.tNot 4 rfl (by kernel_rfl) (by kernel_rfl) (by kernel_rfl) rfl rfl rfl rfl hZ ?_ | refine EA.tAdd (kd := .i64) 4 rfl (by kernel_rfl) (by kernel_rfl) (by kernel_rfl) rfl rfl rfl rfl rfl (i64_in (by omega) (by omega)) hZ ?_ | refine EA.tSub (kd := .i64) 4 rfl (by kernel_rfl) (by kernel_rfl) (by kernel_rfl) rfl rfl rfl rfl rfl (i64_in (by omega) (by omega)) hZ ?_ | refine EA.tIdxA 4 rfl (by kernel_rfl) (by kernel_rfl) (by kernel_rfl) rfl rfl rfl rfl rfl (by omega) (by omega) hZ ?_ | refine EA.tIdxS 4 rfl (by kernel_rfl) (by kernel_rfl) (by kernel_rfl) rfl rfl rfl rfl rfl (by omega) (by omega) hZ ?_ | refine EA.tLen1 4 rfl (by kernel_rfl) (by kernel_rfl) (by kernel_rfl) rfl rfl rfl rfl hZ ?_ | refine EA.takeNo 4 rfl (by kernel_rfl) (by kernel_rfl) (by kernel_rfl) rfl rfl rfl hZ ?_ | refine EA.tPickT 4 rfl (by kernel_rfl) (by kernel_rfl) (by kernel_rfl) rfl rfl rfl rfl rfl hZ ?_ | refine EA.tPickF 4 rfl (by kernel_rfl) (by kernel_rfl) (by kernel_rfl) rfl rfl rfl rfl rfl hZ ?_ | refine EA.tCmpT 4 rfl (by kernel_rfl) (by kernel_rfl) (by kernel_rfl) rfl rfl rfl rfl rfl rfl (by first | (dsimp only [cmpP]; omega) | exact rfl | exact Int.le_refl _) hZ ?_ | refine EA.tCmpF 4 rfl (by kernel_rfl) (by kernel_rfl) (by kernel_rfl) rfl rfl rfl rfl rfl rfl (by first | (dsimp only [cmpP]; omega) | exact rfl | exact Int.le_refl _) hZ ?_ | refine EA.tMul (kd := .i64) 4 rfl (by kernel_rfl) (by kernel_rfl) (by kernel_rfl) rfl rfl rfl rfl rfl (i64_in (by omega) (by omega)) hZ ?_)
      (first | refine EA.tMove 5 rfl (by kernel_rfl) (by kernel_rfl) (by kernel_rfl) rfl rfl rfl rfl hZ ?_ | refine EA.tAssign 5 rfl (by kernel_rfl) (by kernel_rfl) (by kernel_rfl) rfl rfl rfl rfl hZ ?_ | refine EA.tNil 5 rfl (by kernel_rfl) (by kernel_rfl) (by kernel_rfl) rfl rfl rfl rfl hZ ?_ | refine EA.tField 5 rfl (by kernel_rfl) (by kernel_rfl) (by kernel_rfl) rfl rfl rfl rfl hZ ?_ | refine EA.tNot 5 rfl (by kernel_rfl) (by kernel_rfl) (by kernel_rfl) rfl rfl rfl rfl hZ ?_ | refine EA.tAdd (kd := .i64) 5 rfl (by kernel_rfl) (by kernel_rfl) (by kernel_rfl) rfl rfl rfl rfl rfl (i64_in (by omega) (by omega)) hZ ?_ | refine EA.tSub (kd := .i64) 5 rfl (by kernel_rfl) (by kernel_rfl) (by kernel_rfl) rfl rfl rfl rfl rfl (i64_in (by omega) (by omega)) hZ ?_ | refine EA.tIdxA 5 rfl (by kernel_rfl) (by kernel_rfl) (by kernel_rfl) rfl rfl rfl rfl rfl (by omega) (by omega) hZ ?_ | refine EA.tIdxS 5 rfl (by kernel_rfl) (by kernel_rfl) (by kernel_rfl) rfl rfl rfl rfl rfl (by omega) (by omega) hZ ?_ | refine EA.tLen1 5 rfl (by kernel_rfl) (by kernel_rfl) (by kernel_rfl) rfl rfl rfl rfl hZ ?_ | refine EA.takeNo 5 rfl (by kernel_rfl) (by kernel_rfl) (by kernel_rfl) rfl rfl rfl hZ ?_ | refine EA.tPickT 5 rfl (by kernel_rfl) (by kernel_rfl) (by kernel_rfl) rfl rfl rfl rfl rfl hZ ?_ | refine EA.tPickF 5 rfl (by kernel_rfl) (by kernel_rfl) (by kernel_rfl) rfl rfl rfl rfl rfl hZ ?_ | refine EA.tCmpT 5 rfl (by kernel_rfl) (by kernel_rfl) (by kernel_rfl) rfl rfl rfl rfl rfl rfl (by first | (dsimp only [cmpP]; omega) | exact rfl | exact Int.le_refl _) hZ ?_ | refine EA.tCmpF 5 rfl (by kernel_rfl) (by kernel_rfl) (by kernel_rfl) rfl rfl rfl rfl rfl rfl (by first | (dsimp only [cmpP]; omega) | exact rfl | exact Int.le_refl _) hZ ?_ | refine EA.tMul (kd := .i64) 5 rfl (by kernel_rfl) (by kernel_rfl) (by kernel_rfl) rfl rfl rfl rfl rfl (i64_in (by omega) (by omega)) hZ ?_)
      (first | refine EA.tMove 6 rfl (by kernel_rfl) (by kernel_rfl) (by kernel_rfl) rfl rfl rfl rfl hZ ?_ | refine EA.tAssign 6 rfl (by kernel_rfl) (by kernel_rfl) (by kernel_rfl) rfl rfl rfl rfl hZ ?_ | refine EA.tNil 6 rfl (by kernel_rfl) (by kernel_rfl) (by kernel_rfl) rfl rfl rfl rfl hZ ?_ | refine EA.tField 6 rfl (by kernel_rfl) (by kernel_rfl) (by kernel_rfl) rfl rfl rfl rfl hZ ?_ | refine EA.tNot 6 rfl (by kernel_rfl) (by kernel_rfl) (by kernel_rfl) rfl rfl rfl rfl hZ ?_ | refine EA.tAdd (kd := .i64) 6 rfl (by kernel_rfl) (by kernel_rfl) (by kernel_rfl) rfl rfl rfl rfl rfl (i64_in (by omega) (by omega)) hZ ?_ | refine EA.tSub (kd := .i64) 6 rfl (by kernel_rfl) (by kernel_rfl) (by kernel_rfl) rfl rfl rfl rfl rfl (i64_in (by omega) (by omega)) hZ ?_ | refine EA.tIdxA 6 rfl (by kernel_rfl) (by kernel_rfl) (by kernel_rfl) rfl rfl rfl rfl rfl (by omega) (by omega) hZ ?_ | refine EA.tIdxS 6 rfl (by kernel_rfl) (by kernel_rfl) (by kernel_rfl) rfl rfl rfl rfl rfl (by omega) (by omega) hZ ?_ | refine EA.tLen1 6 rfl (by kernel_rfl) (by kernel_rfl) (by kernel_rfl) rfl rfl rfl rfl hZ ?_ | refine EA.takeNo 6 rfl (by kernel_rfl) (by kernel_rfl) (by kernel_rfl) rfl rfl rfl hZ ?_ | refine EA.tPickT 6 rfl (by kernel_rfl) (by kernel_rfl) (by kernel_rfl) rfl rfl rfl rfl rfl hZ ?_ | refine EA.tPickF 6 rfl (by kernel_rfl) (by kernel_rfl) (by kernel_rfl) rfl rfl rfl rfl rfl hZ ?_ | refine EA.tCmpT 6 rfl (by kernel_rfl) (by kernel_rfl) (by kernel_rfl) rfl rfl rfl rfl rfl rfl (by first | (dsimp only [cmpP]; omega) | exact rfl | exact Int.le_refl _) hZ ?_ | refine EA.tCmpF 6 rfl (by kernel_rfl) (by kernel_rfl) (by kernel_rfl) rfl rfl rfl rfl rfl rfl (by first | (dsimp only [cmpP]; omega) | exact rfl | exact Int.le_refl _) hZ ?_ | refine EA.tMul (kd := .i64) 6 rfl (by kernel_rfl) (by kernel_rfl) (by kernel_rfl) rfl rfl rfl rfl rfl (i64_in (by omega) (by omega)) hZ ?_)
      (first | refine EA.tMove 7 rfl (by kernel_rfl) (by kernel_rfl) (by kernel_rfl) rfl rfl rfl rfl hZ ?_ | refine EA.tAssign 7 rfl (by kernel_rfl) (by kernel_rfl) (by kernel_rfl) rfl rfl rfl rfl hZ ?_ | refine EA.tNil 7 rfl (by kernel_rfl) (by kernel_rfl) (by kernel_rfl) rfl rfl rfl rfl hZ ?_ | refine EA.tField 7 rfl (by kernel_rfl) (by kernel_rfl) (by kernel_rfl) rfl rfl rfl rfl hZ ?_ | refine EA.tNot 7 rfl (by kernel_rfl) (by kernel_rfl) (by kernel_rfl) rfl rfl rfl rfl hZ ?_ | refine EA.tAdd (kd := .i64) 7 rfl (by kernel_rfl) (by kernel_rfl) (by kernel_rfl) rfl rfl rfl rfl rfl (i64_in (by omega) (by omega)) hZ ?_ | refine EA.tSub (kd := .i64) 7 rfl (by kernel_rfl) (by kernel_rfl) (by kernel_rfl) rfl rfl rfl rfl rfl (i64_in (by omega) (by omega)) hZ ?_ | refine EA.tIdxA 7 rfl (by kernel_rfl) (by kernel_rfl) (by kernel_rfl) rfl rfl rfl rfl rfl (by omega) (by omega) hZ ?_ | refine EA.tIdxS 7 rfl (by kernel_rfl) (by kernel_rfl) (by kernel_rfl) rfl rfl rfl rfl rfl (by omega) (by omega) hZ ?_ | refine EA.tLen1 7 rfl (by kernel_rfl) (by kernel_rfl) (by kernel_rfl) rfl rfl rfl rfl hZ ?_ | refine EA.takeNo 7 rfl (by kernel_rfl) (by kernel_rfl) (by kernel_rfl) rfl rfl rfl hZ ?_ | refine EA.tPickT 7 rfl (by kernel_rfl) (by kernel_rfl) (by kernel_rfl) rfl rfl rfl rfl rfl hZ ?_ | refine EA.tPickF 7 rfl (by kernel_rfl) (by kernel_rfl) (by kernel_rfl) rfl rfl rfl rfl rfl hZ ?_ | refine EA.tCmpT 7 rfl (by kernel_rfl) (by kernel_rfl) (by kernel_rfl) rfl rfl rfl rfl rfl rfl (by first | (dsimp only [cmpP]; omega) | exact rfl | exact Int.le_refl _) hZ ?_ | refine EA.tCmpF 7 rfl (by kernel_rfl) (by kernel_rfl) (by kernel_rfl) rfl rfl rfl rfl rfl rfl (by first | (dsimp only [cmpP]; omega) | exact rfl | exact Int.le_refl _) hZ ?_ | refine EA.tMul (kd := .i64) 7 rfl (by kernel_rfl) (by kernel_rfl) (by kernel_rfl) rfl rfl rfl rfl rfl (i64_in (by omega) (by omega)) hZ ?_)
      (first | refine EA.tMove 8 rfl (by kernel_rfl) (by kernel_rfl) (by kernel_rfl) rfl rfl rfl rfl hZ ?_ | refine EA.tAssign 8 rfl (by kernel_rfl) (by kernel_rfl) (by kernel_rfl) rfl rfl rfl rfl hZ ?_ | refine EA.tNil 8 rfl (by kernel_rfl) (by kernel_rfl) (by kernel_rfl) rfl rfl rfl rfl hZ ?_ | refine EA.tField 8 rfl (by kernel_rfl) (by kernel_rfl) (by kernel_rfl) rfl rfl rfl rfl hZ ?_ | refine EA.tNot 8 rfl (by kernel_rfl) (by kernel_rfl) (by kernel_rfl) rfl rfl rfl rfl hZ ?_ | refine EA.tAdd (kd := .i64) 8 rfl (by kernel_rfl) (by kernel_rfl) (by kernel_rfl) rfl rfl rfl rfl rfl (i64_in (by omega) (by omega)) hZ ?_ | refine EA.tSub (kd := .i64) 8 rfl (by kernel_rfl) (by kernel_rfl) (by kernel_rfl) rfl rfl rfl rfl rfl (i64_in (by omega) (by omega)) hZ ?_ | refine EA.tIdxA 8 rfl (by kernel_rfl) (by kernel_rfl) (by kernel_rfl) rfl rfl rfl rfl rfl (by omega) (by omega) hZ ?_ | refine EA.tIdxS 8 rfl (by kernel_rfl) (by kernel_rfl) (by kernel_rfl) rfl rfl rfl rfl rfl (by omega) (by omega) hZ ?_ | refine EA.tLen1 8 rfl (by kernel_rfl) (by kernel_rfl) (by kernel_rfl) rfl rfl rfl rfl hZ ?_ | refine EA.takeNo 8 rfl (by kernel_rfl) (by kernel_rfl) (by kernel_rfl) rfl rfl rfl hZ ?_ | refine EA.tPickT 8 rfl (by kernel_rfl) (by kernel_rfl) (by kernel_rfl) rfl rfl rfl rfl rfl hZ ?_ | refine EA.tPickF 8 rfl (by kernel_rfl) (by kernel_rfl) (by kernel_rfl) rfl rfl rfl rfl rfl hZ ?_ | refine EA.tCmpT 8 rfl (by kernel_rfl) (by kernel_rfl) (by kernel_rfl) rfl rfl rfl rfl rfl rfl (by first | (dsimp only [cmpP]; omega) | exact rfl | exact Int.le_refl _) hZ ?_ | refine EA.tCmpF 8 rfl (by kernel_rfl) (by kernel_rfl) (by kernel_rfl) rfl rfl rfl rfl rfl rfl (by first | (dsimp only [cmpP]; omega) | exact rfl | exact Int.le_refl _) hZ ?_ | refine EA.tMul (kd := .i64) 8 rfl (by kernel_rfl) (by kernel_rfl) (by kernel_rfl) rfl rfl rfl rfl rfl (i64_in (by omega) (by omega)) hZ ?_)
      refine EA.tBinI (kd := .i64) (v := .int .i64 (((i + 1) % (n + 1) : Nat) : Int)) 9 rfl (by kernel_rfl) (by kernel_rfl) (by kernel_rfl) rfl rfl rfl rfl rfl ((Go.TJ.binOp_rem (by omega)).trans (by rw [hrem])) hZ ?_
      refine EA.callD 10 rfl (by kernel_rfl) rfl rfl rfl rfl rfl rfl (cnewS (hF _ _ hsz)) (hcell_push hZ) ?_
      refine EA.callD 11 rfl (by kernel_rfl) rfl rfl rfl rfl rfl rfl (cnewS (hF _ _ (by simp; omega))) (hcell_push (hcell_push hZ)) ?_
      have hZ := hcell_push (o := cellO 0) (hcell_push (o := cellO (((i + 1) % (n + 1) : Nat) : Int)) hZ)
      obtain ⟨M', x'⟩ := x.step hin rfl
      simp only [Array.size_push]
      refine EA.val (v := .agg #[ptr (h1.size + 1)]) 12 rfl (by kernel_rfl) rfl rfl rfl (fun ρ Q X hρ hq => sem_buildS hρ rfl rfl hq) hZ ?_
      refine EA.val (v := .agg #[ptr h1.size, ptr (h1.size + 1)]) 13 rfl (by kernel_rfl) rfl rfl rfl (fun ρ Q X hρ hq => sem_buildS hρ rfl rfl hq) hZ ?_
      have hB1 : h1[B1]? = some (.cells (itemsL i M.B ++ List.replicate ((n + 1 - i) * 2) (Value.pointer none)).toArray 221 (0, 0)) := x.b.2.1 ▸ x.rep.get ((x.ok 1).2 (by omega)) x.o1
      have hB2 := get_push (cellO 0) (get_push (cellO (((i + 1) % (n + 1) : Nat) : Int)) hB1)
      refine EA.val (v := .pointer (some ⟨B1, 0 + i * 2, none⟩)) 14 rfl (by kernel_rfl) rfl rfl rfl (fun ρ Q X hρ hq => sem_indexSl (hρ _ _ rfl) (hρ _ _ rfl) (by omega) (by omega) hq) hZ ?_
      have hcs : ∀ j, j < 2 → (∃ u, hcell ((h1.push (cellO (((i + 1) % (n + 1) : Nat) : Int))).push (cellO 0)) ⟨B1, 0 + i * 2 + j, none⟩ = some u) ∧ hfroz ((h1.push (cellO (((i + 1) % (n + 1) : Nat) : Int))).push (cellO 0)) ⟨B1, 0 + i * 2 + j, none⟩ = false ∧ ¬ S.still δ.g ⟨B1, 0 + i * 2 + j, none⟩ := fun j hj => by
        refine ⟨?_, hfroz_of hB2, hF _ _ (x.b.2.1 ▸ x.above 1 ((x.ok 1).2 (by omega)))⟩
        have hl := itemsL_len M.B i
        exact ⟨(itemsL i M.B ++ List.replicate ((n + 1 - i) * 2) (Value.pointer none))[0 + i * 2 + j]'(by simp [hl]; omega), hcell_of hB2 (by simp)⟩
      refine EA.unitL (h' := hsetRow ((h1.push (cellO (((i + 1) % (n + 1) : Nat) : Int))).push (cellO 0)) B1 (0 + i * 2) [ptr h1.size, ptr (h1.size + 1)]) 15 rfl (by kernel_rfl) rfl rfl rfl (fun ρ Q X hρ hq => sem_storeN (vs := [ptr h1.size, ptr (h1.size + 1)]) (hρ _ _ rfl) (hρ _ _ rfl) rfl (by simp [OneCell]) hcs hq) ?_
      refine EA.done (by kernel_rfl) ?_
      (repeat (first | refine EK.seq ?_ | refine EK.region ?_ | refine ER.done ?_ | refine EK.skip ?_ | refine EK.block ?_ | refine EK.inBlock ?_ | refine ER.move rfl rfl rfl ?_ | refine ER.assign rfl rfl rfl ?_ | refine ER.nilCheck rfl rfl rfl ?_ | refine ER.fieldAddr rfl rfl rfl ?_ | refine ER.load1 rfl rfl rfl (hcell_of (by assumption) rfl) ?_ | refine ER.no rfl rfl ?_ | refine ER.noU rfl ?_ | refine ER.eqV rfl rfl rfl rfl rfl ?_ | refine ER.neqV rfl rfl rfl rfl rfl ?_ | refine ER.eqA rfl rfl rfl rfl rfl ?_ | refine ER.neqA rfl rfl rfl rfl rfl ?_ | refine ER.notB rfl rfl rfl ?_ | refine ER.pickT rfl rfl rfl rfl ?_ | refine ER.pickF rfl rfl rfl rfl ?_ | refine ER.extract rfl rfl rfl rfl ?_ | refine ER.cmpT rfl rfl rfl rfl rfl (by first | (dsimp only [cmpP]; omega) | exact rfl | exact Int.le_refl _) ?_ | refine ER.cmpF rfl rfl rfl rfl rfl (by first | (dsimp only [cmpP]; omega) | exact rfl | exact Int.le_refl _) ?_ | refine ER.boxA rfl rfl rfl ?_ | refine ER.box rfl rfl rfl ?_ | refine ER.allocA rfl rfl ?_ | refine ER.alloc rfl rfl ?_ | refine ER.add (kd := .i64) rfl rfl rfl rfl (i64_in (by omega) (by omega)) ?_ | refine ER.sub' (kd := .i64) rfl rfl rfl rfl (i64_in (by omega) (by omega)) ?_ | refine ER.mul (kd := .i64) rfl rfl rfl rfl (i64_in (by omega) (by omega)) ?_ | refine ER.rem (kd := .i64) rfl rfl rfl rfl (by decide) rfl ?_ | refine ER.indexArr rfl rfl rfl rfl (by omega) (by omega) ?_ | refine ER.len1 rfl rfl rfl ?_ | refine ER.indexSl rfl rfl rfl rfl (by omega) (by omega) ?_ | refine EK.condT rfl ?_ | refine EK.condF rfl ?_ | refine EK.ret ?_ | refine EK.exit rfl ?_ | refine ER.load1 rfl rfl rfl (by assumption) ?_ | refine EK.scope ?_ | refine EK.inScope ?_ | refine EK.label ?_))
      exact EK.back (again ⟨i + 1, M'⟩ _ _ (by dsimp only; omega) ⟨rfl, by dsimp only; omega, x'⟩) ⟨rfl, rfl, rfl, rfl, trivial⟩
    · obtain rfl : i = n + 1 := by omega
      clear again
      (repeat (first | refine EK.seq ?_ | refine EK.region ?_ | refine ER.done ?_ | refine EK.skip ?_ | refine EK.block ?_ | refine EK.inBlock ?_ | refine ER.move rfl rfl rfl ?_ | refine ER.assign rfl rfl rfl ?_ | refine ER.nilCheck rfl rfl rfl ?_ | refine ER.fieldAddr rfl rfl rfl ?_ | refine ER.load1 rfl rfl rfl (hcell_of (by assumption) rfl) ?_ | refine ER.no rfl rfl ?_ | refine ER.noU rfl ?_ | refine ER.eqV rfl rfl rfl rfl rfl ?_ | refine ER.neqV rfl rfl rfl rfl rfl ?_ | refine ER.eqA rfl rfl rfl rfl rfl ?_ | refine ER.neqA rfl rfl rfl rfl rfl ?_ | refine ER.notB rfl rfl rfl ?_ | refine ER.pickT rfl rfl rfl rfl ?_ | refine ER.pickF rfl rfl rfl rfl ?_ | refine ER.extract rfl rfl rfl rfl ?_ | refine ER.cmpT rfl rfl rfl rfl rfl (by first | (dsimp only [cmpP]; omega) | exact rfl | exact Int.le_refl _) ?_ | refine ER.cmpF rfl rfl rfl rfl rfl (by first | (dsimp only [cmpP]; omega) | exact rfl | exact Int.le_refl _) ?_ | refine ER.boxA rfl rfl rfl ?_ | refine ER.box rfl rfl rfl ?_ | refine ER.allocA rfl rfl ?_ | refine ER.alloc rfl rfl ?_ | refine ER.add (kd := .i64) rfl rfl rfl rfl (i64_in (by omega) (by omega)) ?_ | refine ER.sub' (kd := .i64) rfl rfl rfl rfl (i64_in (by omega) (by omega)) ?_ | refine ER.mul (kd := .i64) rfl rfl rfl rfl (i64_in (by omega) (by omega)) ?_ | refine ER.rem (kd := .i64) rfl rfl rfl rfl (by decide) rfl ?_ | refine ER.indexArr rfl rfl rfl rfl (by omega) (by omega) ?_ | refine ER.len1 rfl rfl rfl ?_ | refine ER.indexSl rfl rfl rfl rfl (by omega) (by omega) ?_ | refine EK.condT rfl ?_ | refine EK.condF rfl ?_ | refine EK.ret ?_ | refine EK.exit rfl ?_ | refine ER.load1 rfl rfl rfl (by assumption) ?_ | refine EK.scope ?_ | refine EK.inScope ?_ | refine EK.label ?_))
      have okM : ∀ k, k < 6 + 2 * n → M.ok k := fun k hk => (x.ok k).2 (by omega)
      refine EU.ret2 rfl rfl rfl ⟨rfl, x.upd, M.B, by rw [x.b.1], x.rep.congr (fun k hk => okM k hk) (fun _ _ => rfl) (fun k hk => ?_), fun k hk => x.above k (okM k hk)⟩
      have hk' : k < 6 + 2 * n := hk
      unfold stkM
      dsimp only
      obtain ⟨e0, e1, e2, e3⟩ := x.b
      rcases (show k = 0 ∨ k = 1 ∨ k = 2 ∨ k = 3 ∨ 4 ≤ k by omega) with rfl | rfl | rfl | rfl | h4
      · rw [if_pos rfl, x.o0, e1, e2, e3]
      · rw [if_neg (by decide), if_pos rfl, x.o1]; simp
      · rw [if_neg (by decide), if_neg (by decide), if_pos rfl, x.o2]
      · rw [if_neg (by decide), if_neg (by decide), if_neg (by decide), if_pos rfl, x.o3]
      · rw [if_neg (by omega), if_neg (by omega), if_neg (by omega), if_neg (by omega)]
        have hj := x.on ((k - 4) / 2) (by omega)
        by_cases hev : k % 2 = 0
        · rw [if_pos hev]
          have := hj.1
          rw [show 4 + 2 * ((k - 4) / 2) = k by omega] at this
          exact this.symm
        · rw [if_neg hev]
          have := hj.2
          rw [show 5 + 2 * ((k - 4) / 2) = k by omega] at this
          exact this.symm
end
end Go.Proofs.Ytkppboglffdmnaa
