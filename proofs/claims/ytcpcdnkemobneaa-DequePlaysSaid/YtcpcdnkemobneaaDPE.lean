/- Steps of the walk and of the plain law (DequeA to WkC). Conditions: as each lemma says. -/
import Derived.Laws.Bits64
import Derived.Test.YtcpcdnkemobneaaDPD
section
namespace Go.Proofs.Ytcpcdnkemobneaa
open Go Go.TJ Go.Proofs
abbrev W64 (x : Int) : Int := IntKind.i64.wrap x
theorem w_sub {a b : Int} : W64 (W64 a - W64 b) = W64 (a - b) := by simp only [W64, IntKind.wrap_i64]; omega
theorem w_add1 {a : Int} : W64 (W64 a + 1) = W64 (a + 1) := by simp only [W64, IntKind.wrap_i64]; omega
theorem w_sub1 {a : Int} : W64 (W64 a - 1) = W64 (a - 1) := by simp only [W64, IntKind.wrap_i64]; omega
theorem w_small {c : Int} (h0 : -100000 ≤ c) (h1 : c ≤ 100000) : W64 c = c := by simp only [W64, IntKind.wrap_i64]; omega
def deqM (n cap : Nat) (rest : List Value) (B : Nat → Nat) (v : Nat → Int) : Mem Nat := ⟨fun k => k < 4 + n, B, fun k =>
  if k = 0 then .cells #[ptr (B 2), ptr (B 3), .slice (some ⟨B 1, 0, none⟩) n cap] 236 (0, 0)
  else if k = 1 then .cells (((List.range n).map fun j => ptr (B (4 + j))) ++ rest).toArray 220 (0, 0)
  else cellO (v k)⟩
section
variable {h : Hp} {n cap : Nat} {rest : List Value} {B : Nat → Nat} {v : Nat → Int}
theorem deq_top (r : Rep h (deqM n cap rest B v)) : hcell h ⟨B 0, 0, none⟩ = some (ptr (B 2)) := r.cell (k := 0) (by show 0 < 4 + n; omega) rfl rfl
theorem deq_bot (r : Rep h (deqM n cap rest B v)) : hcell h ⟨B 0, 1, none⟩ = some (ptr (B 3)) := r.cell (k := 0) (by show 0 < 4 + n; omega) rfl rfl
theorem deq_sl (r : Rep h (deqM n cap rest B v)) : hcell h ⟨B 0, 2, none⟩ = some (.slice (some ⟨B 1, 0, none⟩) n cap) := r.cell (k := 0) (by show 0 < 4 + n; omega) rfl rfl
theorem deq_row (r : Rep h (deqM n cap rest B v)) {j : Nat} (hj : j < n) : hcell h ⟨B 1, 0 + j * 1, none⟩ = some (ptr (B (4 + j))) := r.cell (k := 1) (by show 1 < 4 + n; omega) rfl (by
  rw [show 0 + j * 1 = j by omega]
  simp only [List.getElem?_toArray]
  rw [List.getElem?_append_left (by simp; omega)]
  simp [hj])
theorem deq_cell (r : Rep h (deqM n cap rest B v)) {k : Nat} (h2 : 2 ≤ k) (hk : k < 4 + n) {x : Int} (hx : v k = x) : h[B k]? = some (cellO x) := r.get (k := k) hk (by
  show (if k = 0 then _ else if k = 1 then _ else cellO (v k)) = _
  rw [if_neg (by omega), if_neg (by omega), hx])
theorem deq_set (r : Rep h (deqM n cap rest B v)) {k : Nat} (h2 : 2 ≤ k) (hk : k < 4 + n) (x : Int) : Rep (h.setIfInBounds (B k) (cellO x)) (deqM n cap rest B (ut v k x)) := by
  refine (r.set (k := k) hk (cellO x)).congr (fun _ hk => hk) (fun _ _ => rfl) (fun j hj => ?_)
  show (deqM n cap rest B (ut v k x)).O j = ut (deqM n cap rest B v).O k (cellO x) j
  by_cases e : j = k
  · subst e
    rw [ut_same]
    show (if j = 0 then _ else if j = 1 then _ else cellO (ut v j x j)) = _
    rw [if_neg (by omega), if_neg (by omega), ut_same]
  · rw [ut_ne _ _ e]
    show (if j = 0 then _ else if j = 1 then _ else cellO (ut v k x j)) = (if j = 0 then _ else if j = 1 then _ else cellO (v j))
    by_cases k0 : j = 0
    · rw [if_pos k0, if_pos k0]
    · by_cases k1 : j = 1
      · rw [if_neg k0, if_pos k1, if_neg k0, if_pos k1]
      · rw [if_neg k0, if_neg k1, if_neg k0, if_neg k1, ut_ne _ _ e]
end
def slot (n : Nat) (q : Int) : Nat := (q % n).toNat
theorem slot_lt {n : Nat} (hn : 0 < n) (q : Int) : slot n q < n := by
  have := Int.emod_nonneg q (by omega : (n : Int) ≠ 0)
  have := Int.emod_lt_of_pos q (by omega : 0 < (n : Int))
  unfold slot; omega
theorem slot_w {n e : Nat} (hn : n = 2 ^ e) (he : e ≤ 12) (q : Int) : slot n (W64 q) = slot n q := by
  have hd : (n : Int) ∣ 18446744073709551616 := by
    refine ⟨2 ^ (64 - e), ?_⟩
    rw [hn]
    have : (18446744073709551616 : Int) = 2 ^ 64 := by decide
    rw [this, show ((2 ^ e : Nat) : Int) = 2 ^ e by simp, ← Int.pow_add]
    congr 1; omega
  unfold slot
  congr 1
  have e1 : W64 q % 18446744073709551616 = q % 18446744073709551616 := by simp only [W64, IntKind.wrap_i64]; omega
  rw [← Int.emod_emod_of_dvd (W64 q) hd, e1, Int.emod_emod_of_dvd q hd]
theorem slot_bits {n e : Nat} (hn : n = 2 ^ e) (he : e ≤ 12) (x : Int) : bits .and .u64 (IntKind.u64.wrap x) (IntKind.u64.wrap ((n : Int) - 1)) = (slot n x : Int) := by
  have hle : n ≤ 4096 := by have := Nat.pow_le_pow_right (n := 2) (by decide) he; omega
  have hpos : 0 < n := by rw [hn]; exact Nat.two_pow_pos e
  have hd : (n : Int) ∣ 18446744073709551616 := by
    refine ⟨2 ^ (64 - e), ?_⟩
    rw [hn]
    have : (18446744073709551616 : Int) = 2 ^ 64 := by decide
    rw [this, show ((2 ^ e : Nat) : Int) = 2 ^ e by simp, ← Int.pow_add]
    congr 1; omega
  rw [IntKind.wrap_u64, IntKind.wrap_u64, show ((n : Int) - 1) % 18446744073709551616 = 2 ^ e - 1 by
    have : (n : Int) = 2 ^ e := by rw [hn]; simp
    rw [← this]; omega]
  have h64 : (2 : Int) ^ 64 = 18446744073709551616 := by decide
  rw [bits_mask .u64 64 (by decide) (fun m h0 h1 => by rw [h64] at h1; rw [IntKind.wrap_u64]; omega) e (by omega) _ (by omega) (by rw [h64]; omega)]
  have : (2 : Int) ^ e = n := by rw [hn]; simp
  rw [this, Int.emod_emod_of_dvd x hd]
  unfold slot
  have := Int.emod_nonneg x (by omega : (n : Int) ≠ 0)
  omega
section
variable {Γ : Type} {main : Bool} {S : Sit Γ} {h : Hp} {δ : Ix Γ}
structure RSD where
  i : Nat
  M : Mem Nat
  s : Value
set_option maxRecDepth 8000 in
set_option maxHeartbeats 4000000 in
theorem deqnew_ok {n e : Nat} {f : Int} (hm : n = 2 ^ e) (he1 : 1 ≤ e) (he : e ≤ 12) (hF : ∀ b o, h.size ≤ b → ¬ S.still δ.g ⟨b, o, none⟩) :
    CallW Try.prog main S 38 #[.int .i64 n, .int .i64 f] h δ (Ret fun w h' δ' => δ' = δ ∧ Upd (fun _ => False) h h' ∧ ∃ cap rest B, w = .tuple #[ptr (B 0), .int .i64 0] ∧ Rep h' (deqM n cap rest B fun k => if k < 4 then f else 0) ∧ ∀ k, k < 4 + n → h.size ≤ B k) := by
  have hm2 : 2 ≤ n := by have := Nat.pow_le_pow_right (n := 2) (by decide) he1; omega
  have hm1 : n ≤ 4096 := by have := Nat.pow_le_pow_right (n := 2) (by decide) he; omega
  have hbits : bits .and .i64 (n : Int) ((n : Int) - 1) = 0 := by
    have : (n : Int) = 2 ^ e := by rw [hm]; simp
    have hmk := and_mask (x := (n : Int)) (e := e) (by omega) (by omega) (by omega)
    rw [← this] at hmk
    rw [hmk, Int.emod_self]
  refine CallW.start (n := 41) rfl rfl ?_
  (repeat (first | refine EK.seq ?_ | refine EK.region ?_ | refine ER.done ?_ | refine ER.move rfl rfl rfl ?_ | refine ER.assign rfl rfl rfl ?_ | refine ER.pickF rfl rfl rfl rfl ?_ | refine ER.cmpF rfl rfl rfl rfl rfl (by first | (dsimp only [cmpP]; omega) | exact rfl | exact Int.le_refl _) ?_ | refine ER.sub' (kd := .i64) rfl rfl rfl rfl (i64_in (by omega) (by omega)) ?_))
  refine ER.andI rfl rfl rfl rfl hbits ?_
  (repeat (first | refine EK.seq ?_ | refine EK.region ?_ | refine ER.done ?_ | refine EK.skip ?_ | refine ER.move rfl rfl rfl ?_ | refine ER.pickF rfl rfl rfl rfl ?_ | refine ER.cmpF rfl rfl rfl rfl rfl (by first | (dsimp only [cmpP]; omega) | exact rfl | exact Int.le_refl _) ?_ | refine EK.condF rfl ?_))
  refine ER.callD rfl rfl rfl rfl rfl (cnewS (hF _ _ (Nat.le_refl _))) ?_
  (repeat refine ER.move rfl rfl rfl ?_)
  refine ER.callD rfl rfl rfl rfl rfl (cnewS (hF _ _ (by simp))) ?_
  refine ER.buildS (cells := #[ptr h.size, ptr (h.size + 1), nilS]) rfl rfl (by simp only [Array.size_push]; rfl) rfl ?_
  (repeat (first | refine EK.seq ?_ | refine EK.region ?_ | refine ER.done ?_ | refine EK.block ?_ | refine ER.move rfl rfl rfl ?_ | refine ER.assign rfl rfl rfl ?_ | refine ER.boxA rfl rfl rfl ?_))
  simp only [Array.size_push]
  have x0 : RowI h ((Mem.emp.put 2 h.size (cellO f)).put 3 (h.size + 1) (cellO f)) (h.size + 1 + 1) 236 220 #[ptr h.size, ptr (h.size + 1), nilS] 2 (((h.push (cellO f)).push (cellO f)).push (.cells #[ptr h.size, ptr (h.size + 1), nilS] 236))
      (((Mem.emp.put 2 h.size (cellO f)).put 3 (h.size + 1) (cellO f)).put 0 (h.size + 1 + 1) (.cells #[ptr h.size, ptr (h.size + 1), nilS] 236 (0, 0))) 0 nilS := by
    have r := (((Rep.emp (K := Nat) (h := h)).put 2 (cellO f)).put 3 (cellO f)).put 0 (.cells #[ptr h.size, ptr (h.size + 1), nilS] 236 (0, 0))
    simp only [Array.size_push] at r
    refine ⟨r, ((Upd.push _ _).trans (Upd.push _ _)).trans (Upd.push _ _), fun k hk => ?_, ⟨.inl rfl, ?_⟩, ?_, fun k hk => ⟨⟨fun y => ?_, fun y => .inr y⟩, ?_, ?_⟩, Mem.Sl.nil ?_, fun q hq => by omega, fun q _ hk => ?_⟩
    · rcases hk with rfl | rfl | rfl | hk
      · simp [Mem.put, ut]; omega
      · simp [Mem.put, ut]
      · simp [Mem.put, ut]
      · exact hk.elim
    · simp [Mem.put, ut]
    · simp [Mem.put, ut]
    · rcases y with y | y
      · omega
      · exact y
    · show ut _ _ _ _ = _
      exact ut_ne _ _ (by omega)
    · show ut _ _ _ _ = _
      exact ut_ne _ _ (by omega)
    · simp [Mem.put, Mem.emp]
    · rcases hk with y | y | y | y
      · omega
      · omega
      · omega
      · exact y
  generalize hT : h.size + 1 + 1 = T at x0 ⊢
  generalize hE : ((Mem.emp.put 2 h.size (cellO f)).put 3 (h.size + 1) (cellO f) : Mem Nat) = E at x0
  have E2 : E.ok 2 ∧ E.B 2 = h.size ∧ E.O 2 = cellO f := by rw [← hE]; simp [Mem.put, ut]
  have E3 : E.ok 3 ∧ E.B 3 = h.size + 1 ∧ E.O 3 = cellO f := by rw [← hE]; simp [Mem.put, ut]
  clear hE
  generalize ((h.push (cellO f)).push (cellO f)).push (.cells #[ptr h.size, ptr (h.size + 1), nilS] 236) = h1 at x0 ⊢
  refine EK.loopInv (fun t : RSD => [(27, .int .i64 t.i), (26, .int .i64 n), (6, ptr T), (0, .int .i64 n)]) (fun t h' δ' => δ' = δ ∧ t.i ≤ n ∧ RowI h E T 236 220 #[ptr h.size, ptr (h.size + 1), nilS] 2 h' t.M t.i t.s) (fun t => n - t.i) ⟨0, _, nilS⟩ ⟨rfl, rfl, rfl, rfl, trivial⟩ ⟨rfl, Nat.zero_le _, x0⟩ ?_
  clear x0 h1
  rintro ⟨i, M, s⟩ h1 δ1 ⟨hδ1, hi, x⟩ again
  dsimp only at hi x again ⊢
  obtain rfl : δ = δ1 := hδ1.symm
  have hsz := x.upd.size
  by_cases hin : i < n
  · (repeat (first | refine EK.seq ?_ | refine EK.region ?_ | refine ER.done ?_ | refine EK.skip ?_ | refine EK.block ?_ | refine ER.cmpT rfl rfl rfl rfl rfl (by first | (dsimp only [cmpP]; omega) | exact rfl | exact Int.le_refl _) ?_ | refine EK.condT rfl ?_))
    have cS : hcell h1 ⟨T, 2, none⟩ = some s := x.reads (by simp)
    refine EK.regionAnyL (fun h' => hcell h' ⟨T, 2, none⟩ = some s) 10 ?_
    have hZ := cS
    refine EA.tMove 0 rfl (by kernel_rfl) rfl rfl rfl rfl hZ ?_
    refine EA.tMove 1 rfl (by kernel_rfl) rfl rfl rfl rfl hZ ?_
    refine EA.tNil 2 rfl (by kernel_rfl) rfl rfl rfl rfl hZ ?_
    refine EA.tField 3 rfl (by kernel_rfl) rfl rfl rfl rfl hZ ?_
    refine EA.tLoad 4 rfl (by kernel_rfl) rfl rfl rfl rfl (fun _ hz => hz) hZ ?_
    refine EA.callD 5 rfl (by kernel_rfl) rfl rfl rfl rfl rfl rfl (cnewS (hF _ _ hsz)) (hcell_push hZ) ?_
    refine EA.val (v := .slice (some ⟨(h1.push (cellO 0)).size, 0, none⟩) 1 1) (h' := (h1.push (cellO 0)).push (.cells #[ptr h1.size] 220)) 6 rfl (by kernel_rfl) rfl rfl rfl (fun ρ Q X hρ hq => sem_slice1 (sz := 1) hρ rfl (by omega) (by omega) rfl rfl hq) (hcell_push (hcell_push hZ)) ?_
    have r4 := (x.rep.put (4 + i) (cellO 0)).upd0 (Upd.push (h1.push (cellO 0)) (.cells #[ptr h1.size] 220))
    refine EA.append1 (new := [ptr h1.size]) 7 rfl (by kernel_rfl) rfl rfl rfl rfl rfl ((x.sl.put (j := 4 + i) (by omega) h1.size (cellO 0)).slice r4) (get_push_new _ _) rfl (by simp [OneCell]) (by omega) (by omega) rfl (fun b o hb => hF _ _ (by
      obtain ⟨hk, e⟩ := x.sl.blk hb
      rw [e]; exact x.above _ hk)) ?_
    intro s' h5 hs5 u5 hb5
    obtain ⟨hTs, t5, M', x'⟩ := x.step hs5 u5 hb5
    have c5 : hcell h5 ⟨T, 2, none⟩ = some s := hcell_of t5 rfl
    obtain ⟨a5, k5, es5⟩ := hs5.val
    refine ⟨c5, ?_⟩
    refine EA.val 8 rfl (by kernel_rfl) rfl rfl rfl (fun ρ Q X hρ hq => sem_nilCheck (hρ _ _ rfl) hq) c5 ?_
    have hZ := c5
    refine EA.tField 9 rfl (by kernel_rfl) rfl rfl rfl rfl hZ ?_
    refine EA.unitL (h' := hset h5 ⟨T, 2, none⟩ s') 10 rfl (by kernel_rfl) rfl rfl rfl (fun ρ Q X hρ hq => sem_store1 (hρ _ _ rfl) (hρ _ _ rfl) (by rw [es5]; exact ⟨nofun, nofun⟩) ⟨_, c5⟩ (hfroz_of t5) (hF _ _ (x.topB ▸ x.above 0 x.top.1)) hq) ?_
    refine EA.done (by kernel_rfl) ?_
    (repeat (first | refine EK.region ?_ | refine ER.done ?_ | refine EK.inBlock ?_ | refine ER.move rfl rfl rfl ?_ | refine ER.add (kd := .i64) rfl rfl rfl rfl (i64_in (by omega) (by omega)) ?_))
    exact EK.back (again ⟨i + 1, M', s'⟩ _ _ (by dsimp only; omega) ⟨rfl, by dsimp only; omega, x'⟩) ⟨rfl, rfl, rfl, rfl, trivial⟩
  · obtain rfl : i = n := by omega
    clear again
    (repeat (first | refine EK.seq ?_ | refine EK.region ?_ | refine ER.done ?_ | refine ER.move rfl rfl rfl ?_ | refine ER.assign rfl rfl rfl ?_ | refine ER.cmpF rfl rfl rfl rfl rfl (by first | (dsimp only [cmpP]; omega) | exact rfl | exact Int.le_refl _) ?_ | refine EK.condF rfl ?_ | refine EK.ret ?_ | refine EK.exit rfl ?_))
    have h1T := x.topB
    obtain ⟨e2a, e2b, e2c⟩ := x.ext 2 (.inl rfl)
    obtain ⟨e3a, e3b, e3c⟩ := x.ext 3 (.inr rfl)
    obtain ⟨hl, ⟨_, hz, _⟩ | ⟨k1, cap, rest, rfl, hc1, hc2, hc3⟩⟩ := x.sl
    · omega
    have okM : ∀ k, k < 4 + i → M.ok k := fun k hk => by
      rcases (show k = 0 ∨ k = 1 ∨ k = 2 ∨ k = 3 ∨ 4 ≤ k by omega) with rfl | rfl | rfl | rfl | h4
      · exact x.top.1
      · exact k1
      · exact e2a.2 E2.1
      · exact e3a.2 E3.1
      · have := (x.cells (k - 4) (by omega)).1
        rwa [show 4 + (k - 4) = k by omega] at this
    refine EU.ret2 rfl rfl rfl ⟨rfl, x.upd, cap, rest, M.B, by rw [h1T], x.rep.congr (fun k hk => okM k hk) (fun _ _ => rfl) (fun k hk => ?_), fun k hk => x.above k (okM k hk)⟩
    have hk' : k < 4 + i := hk
    unfold deqM
    dsimp only
    rcases (show k = 0 ∨ k = 1 ∨ k = 2 ∨ k = 3 ∨ 4 ≤ k by omega) with rfl | rfl | rfl | rfl | h4
    · rw [if_pos rfl, x.top.2, e2b, e3b, E2.2.1, E3.2.1]; rfl
    · rw [if_neg (by decide), if_pos rfl, hc3]
    · rw [if_neg (by decide), if_neg (by decide), if_pos (by decide), e2c, E2.2.2]
    · rw [if_neg (by decide), if_neg (by decide), if_pos (by decide), e3c, E3.2.2]
    · rw [if_neg (by omega), if_neg (by omega), if_neg (by omega)]
      have := (x.cells (k - 4) (by omega)).2
      rw [show 4 + (k - 4) = k by omega] at this
      exact this.symm
theorem dnone_ok {b c : Nat} (hc : hcell h ⟨b, 0, none⟩ = some (ptr c)) : CallW Try.prog main S 104 #[ptr b] h δ (Ret (Det (.bool false) h δ)) := by
  refine CallW.start (n := 12) rfl rfl ?_
  (repeat (first | refine EK.seq ?_ | refine EK.region ?_ | refine ER.done ?_ | refine ER.move rfl rfl rfl ?_ | refine ER.assign rfl rfl rfl ?_ | refine ER.nilCheck rfl rfl rfl ?_ | refine ER.fieldAddr rfl rfl rfl ?_ | refine ER.eqV rfl rfl rfl rfl rfl ?_ | refine ER.pickF rfl rfl rfl rfl ?_ | refine EK.ret ?_ | refine ER.load1 rfl rfl rfl (by assumption) ?_))
  exact EU.ret1 rfl rfl det
end
end Go.Proofs.Ytcpcdnkemobneaa
end
section
namespace Go.Proofs.Ytcpcdnkemobneaa
open Go Go.TJ Go.Proofs
section
variable {Γ : Type} {main : Bool} {S : Sit Γ} {h : Hp} {δ : Ix Γ} {n cap : Nat} {rest : List Value} {B : Nat → Nat} {v : Nat → Int}
abbrev DFree (S : Sit Γ) (γ : Γ) (n : Nat) (B : Nat → Nat) : Prop := ∀ k o, k < 4 + n → ¬ S.still γ ⟨B k, o, none⟩
set_option maxRecDepth 8000 in
set_option maxHeartbeats 1000000 in
theorem dat_ok {e : Nat} {x : Int} (r : Rep h (deqM n cap rest B v)) (hn : n = 2 ^ e) (he : e ≤ 12) : CallW Try.prog main S 105 #[ptr (B 0), .int .i64 x] h δ (Ret (Det (ptr (B (4 + slot n x))) h δ)) := by
  have hle : n ≤ 4096 := by have := Nat.pow_le_pow_right (n := 2) (by decide) he; omega
  have hpos : 0 < n := by rw [hn]; exact Nat.two_pow_pos e
  have hlt := slot_lt hpos x
  have cs := deq_sl r
  have cr := deq_row r hlt
  refine CallW.start (n := 21) rfl rfl ?_
  (repeat (first | refine EK.seq ?_ | refine EK.region ?_ | refine ER.done ?_ | refine ER.assign rfl rfl rfl ?_))
  refine EK.regionAny (fun h' => h' = h) ?_
  have hZ : h = h := rfl
  refine EA.tMove 0 rfl (by kernel_rfl) rfl rfl rfl rfl hZ ?_
  refine EA.tNil 1 rfl (by kernel_rfl) rfl rfl rfl rfl hZ ?_
  refine EA.tField 2 rfl (by kernel_rfl) rfl rfl rfl rfl hZ ?_
  refine EA.tLoad 3 rfl (by kernel_rfl) rfl rfl rfl rfl (fun _ hz => hz ▸ cs) hZ ?_
  refine EA.tMove 4 rfl (by kernel_rfl) rfl rfl rfl rfl hZ ?_
  refine EA.tConv (r := IntKind.u64.wrap x) 5 rfl (by kernel_rfl) rfl rfl rfl rfl rfl hZ ?_
  refine EA.tMove 6 rfl (by kernel_rfl) rfl rfl rfl rfl hZ ?_
  refine EA.tNil 7 rfl (by kernel_rfl) rfl rfl rfl rfl hZ ?_
  refine EA.tField 8 rfl (by kernel_rfl) rfl rfl rfl rfl hZ ?_
  refine EA.tLoad 9 rfl (by kernel_rfl) rfl rfl rfl rfl (fun _ hz => hz ▸ cs) hZ ?_
  refine EA.tLen1 10 rfl (by kernel_rfl) rfl rfl rfl rfl hZ ?_
  refine EA.tSub (kd := .i64) 11 rfl (by kernel_rfl) rfl rfl rfl rfl rfl (i64_in (by omega) (by omega)) hZ ?_
  refine EA.tConv (r := IntKind.u64.wrap ((n : Int) - 1)) 12 rfl (by kernel_rfl) rfl rfl rfl rfl rfl hZ ?_
  refine EA.tBinI (kd := .u64) (v := .int .u64 (slot n x : Int)) 13 rfl (by kernel_rfl) rfl rfl rfl rfl rfl ((binOp_bits (.inl rfl)).trans (by rw [slot_bits hn he])) hZ ?_
  refine EA.tIdxS 14 rfl (by kernel_rfl) rfl rfl rfl rfl rfl (by omega) (by omega) hZ ?_
  refine EA.tLoad 15 rfl (by kernel_rfl) rfl rfl rfl rfl (fun _ hz => hz ▸ cr) hZ ?_
  refine EA.tAssign 16 rfl (by kernel_rfl) rfl rfl rfl rfl hZ ?_
  refine EA.done (by kernel_rfl) ?_
  (repeat refine EK.ret ?_)
  exact EU.ret1 rfl rfl det
set_option maxRecDepth 8000 in
set_option maxHeartbeats 1000000 in
theorem dlen_ok {T : Int} {c : Nat} (r : Rep h (deqM n cap rest B v)) (hT : v 2 = W64 T) (hb : v 3 = W64 (T + c)) (hc : c ≤ 4096) : CallW Try.prog main S 45 #[ptr (B 0), .pointer none] h δ (Ret (Det (.int .i64 c) h δ)) := by
  have ct := deq_top r
  have cb := deq_bot r
  have hs : W64 (W64 (T + c) - W64 T) = c := by rw [w_sub, show T + c - T = (c : Int) by omega]; exact w_small (by omega) (by omega)
  refine CallW.start (n := 22) rfl rfl ?_
  (repeat (first | refine EK.seq ?_ | refine EK.region ?_ | refine ER.done ?_ | refine ER.move rfl rfl rfl ?_ | refine ER.assign rfl rfl rfl ?_))
  refine ER.callD rfl rfl rfl rfl rfl (dnone_ok ct) ?_
  (repeat (first | refine EK.seq ?_ | refine EK.region ?_ | refine ER.done ?_ | refine EK.skip ?_ | refine ER.move rfl rfl rfl ?_ | refine ER.nilCheck rfl rfl rfl ?_ | refine ER.fieldAddr rfl rfl rfl ?_ | refine EK.condF rfl ?_ | refine ER.load1 rfl rfl rfl (by assumption) ?_))
  refine ER.callD rfl rfl rfl rfl rfl (cload (deq_cell r (k := 2) (by omega) (by omega) hT)) ?_
  (repeat (first | refine EK.seq ?_ | refine EK.region ?_ | refine ER.done ?_ | refine ER.move rfl rfl rfl ?_ | refine ER.assign rfl rfl rfl ?_ | refine ER.nilCheck rfl rfl rfl ?_ | refine ER.fieldAddr rfl rfl rfl ?_ | refine ER.load1 rfl rfl rfl (by assumption) ?_))
  refine ER.callD rfl rfl rfl rfl rfl (cload (deq_cell r (k := 3) (by omega) (by omega) hb)) ?_
  (repeat refine ER.move rfl rfl rfl ?_)
  refine ER.sub' (r := (c : Int)) rfl rfl rfl rfl hs ?_
  (repeat (first | refine ER.done ?_ | refine ER.assign rfl rfl rfl ?_ | refine EK.ret ?_))
  exact EU.ret1 rfl rfl det
set_option maxRecDepth 8000 in
set_option maxHeartbeats 1000000 in
theorem dpush_ok {e c : Nat} {T x : Int} (r : Rep h (deqM n cap rest B v)) (hn : n = 2 ^ e) (he : e ≤ 12) (hT : v 2 = W64 T) (hb : v 3 = W64 (T + c)) (hc : c < n) (hS : DFree S δ.g n B) :
    CallW Try.prog main S 41 #[ptr (B 0), .pointer none, .int .i64 x] h δ (Ret fun w h' δ' => w = .int .i64 0 ∧ δ' = δ ∧ Rep h' (deqM n cap rest B (ut (ut v (4 + slot n (T + c)) x) 3 (W64 (T + c + 1)))) ∧ Upd (fun b => ∃ k, k < 4 + n ∧ b = B k) h h') := by
  have hle : n ≤ 4096 := by have := Nat.pow_le_pow_right (n := 2) (by decide) he; omega
  have hpos : 0 < n := by rw [hn]; exact Nat.two_pow_pos e
  have hlt := slot_lt hpos (T + c)
  have ct := deq_top r
  have cb := deq_bot r
  have cs := deq_sl r
  have hs : W64 (W64 (T + c) - W64 T) = c := by rw [w_sub, show T + c - T = (c : Int) by omega]; exact w_small (by omega) (by omega)
  refine CallW.start (n := 44) rfl rfl ?_
  (repeat (first | refine EK.seq ?_ | refine EK.region ?_ | refine ER.done ?_ | refine ER.move rfl rfl rfl ?_ | refine ER.assign rfl rfl rfl ?_))
  refine ER.callD rfl rfl rfl rfl rfl (dnone_ok ct) ?_
  (repeat (first | refine EK.seq ?_ | refine EK.region ?_ | refine ER.done ?_ | refine EK.skip ?_ | refine ER.move rfl rfl rfl ?_ | refine ER.nilCheck rfl rfl rfl ?_ | refine ER.fieldAddr rfl rfl rfl ?_ | refine EK.condF rfl ?_ | refine ER.load1 rfl rfl rfl (by assumption) ?_))
  refine ER.callD rfl rfl rfl rfl rfl (cload (deq_cell r (k := 3) (by omega) (by omega) hb)) ?_
  (repeat (first | refine EK.seq ?_ | refine ER.done ?_ | refine ER.assign rfl rfl rfl ?_))
  refine EK.regionAny (fun h' => h' = h) ?_
  have hZ : h = h := rfl
  refine EA.tMove 0 rfl (by kernel_rfl) rfl rfl rfl rfl hZ ?_
  refine EA.tMove 1 rfl (by kernel_rfl) rfl rfl rfl rfl hZ ?_
  refine EA.tNil 2 rfl (by kernel_rfl) rfl rfl rfl rfl hZ ?_
  refine EA.tField 3 rfl (by kernel_rfl) rfl rfl rfl rfl hZ ?_
  refine EA.tLoad 4 rfl (by kernel_rfl) rfl rfl rfl rfl (fun _ hz => hz ▸ ct) hZ ?_
  refine EA.tMove 5 rfl (by kernel_rfl) rfl rfl rfl rfl hZ ?_
  refine EA.tMove 8 rfl (by kernel_rfl) rfl rfl rfl rfl hZ ?_
  refine EA.tNil 9 rfl (by kernel_rfl) rfl rfl rfl rfl hZ ?_
  refine EA.tField 10 rfl (by kernel_rfl) rfl rfl rfl rfl hZ ?_
  refine EA.tLoad 11 rfl (by kernel_rfl) rfl rfl rfl rfl (fun _ hz => hz ▸ cs) hZ ?_
  refine EA.tLen1 12 rfl (by kernel_rfl) rfl rfl rfl rfl hZ ?_
  refine EA.callD 6 rfl (by kernel_rfl) rfl rfl rfl rfl rfl rfl (cload (deq_cell r (k := 2) (by omega) (by omega) hT)) hZ ?_
  refine EA.tSub (kd := .i64) (r := (c : Int)) 7 rfl (by kernel_rfl) rfl rfl rfl rfl rfl hs hZ ?_
  refine EA.tCmpF 13 rfl (by kernel_rfl) rfl rfl rfl rfl rfl rfl (by first | (dsimp only [cmpP]; omega) | exact rfl | exact Int.le_refl _) hZ ?_
  refine EA.done (by kernel_rfl) ?_
  (repeat (first | refine EK.seq ?_ | refine EK.region ?_ | refine EK.skip ?_ | refine ER.move rfl rfl rfl ?_ | refine EK.condF rfl ?_))
  refine ER.callD rfl rfl rfl rfl rfl (dat_ok r hn he) ?_
  rw [slot_w hn he]
  (repeat refine ER.move rfl rfl rfl ?_)
  refine ER.callD rfl rfl rfl rfl rfl (cstore (deq_cell r (k := 4 + slot n (T + c)) (by omega) (by omega) rfl) (fun o => hS _ o (by omega))) ?_
  have r1 := deq_set r (k := 4 + slot n (T + c)) (by omega) (by omega) x
  have u1 := Upd.set (T := fun b => ∃ k, k < 4 + n ∧ b = B k) h (B (4 + slot n (T + c))) (cellO x) ⟨_, by omega, rfl⟩
  clear ct cb cs
  generalize h.setIfInBounds (B (4 + slot n (T + c))) (cellO x) = h1 at r1 u1 ⊢
  have cb := deq_bot r1
  (repeat (first | refine EK.seq ?_ | refine EK.region ?_ | refine ER.done ?_ | refine ER.move rfl rfl rfl ?_ | refine ER.nilCheck rfl rfl rfl ?_ | refine ER.fieldAddr rfl rfl rfl ?_ | refine ER.load1 rfl rfl rfl (by assumption) ?_))
  refine ER.add (r := W64 (T + c + 1)) rfl rfl rfl rfl w_add1 ?_
  skip
  refine ER.callD rfl rfl rfl rfl rfl (cstore (deq_cell r1 (k := 3) (by omega) (by omega) rfl) (fun o => hS _ o (by omega))) ?_
  have r2 := deq_set r1 (k := 3) (by omega) (by omega) (W64 (T + c + 1))
  have u2 := Upd.set (T := fun b => ∃ k, k < 4 + n ∧ b = B k) h1 (B 3) (cellO (W64 (T + c + 1))) ⟨_, by omega, rfl⟩
  (repeat (first | refine EK.seq ?_ | refine EK.region ?_ | refine ER.done ?_ | refine ER.assign rfl rfl rfl ?_ | refine EK.ret ?_))
  exact EU.ret1 rfl rfl ⟨rfl, rfl, r2, u1.trans u2⟩
set_option maxRecDepth 8000 in
set_option maxHeartbeats 1000000 in
theorem dpush_full {e c : Nat} {T x : Int} (r : Rep h (deqM n cap rest B v)) (hn : n = 2 ^ e) (_he : e ≤ 12) (hT : v 2 = W64 T) (hb : v 3 = W64 (T + c)) (hc : n ≤ c) (hc1 : c ≤ 4096) :
    CallW Try.prog main S 41 #[ptr (B 0), .pointer none, .int .i64 x] h δ (Ret (Det (.int .i64 12) h δ)) := by
  have ct := deq_top r
  have cb := deq_bot r
  have cs := deq_sl r
  have hs : W64 (W64 (T + c) - W64 T) = c := by rw [w_sub, show T + c - T = (c : Int) by omega]; exact w_small (by omega) (by omega)
  refine CallW.start (n := 44) rfl rfl ?_
  (repeat (first | refine EK.seq ?_ | refine EK.region ?_ | refine ER.done ?_ | refine ER.move rfl rfl rfl ?_ | refine ER.assign rfl rfl rfl ?_))
  refine ER.callD rfl rfl rfl rfl rfl (dnone_ok ct) ?_
  (repeat (first | refine EK.seq ?_ | refine EK.region ?_ | refine ER.done ?_ | refine EK.skip ?_ | refine ER.move rfl rfl rfl ?_ | refine ER.nilCheck rfl rfl rfl ?_ | refine ER.fieldAddr rfl rfl rfl ?_ | refine EK.condF rfl ?_ | refine ER.load1 rfl rfl rfl (by assumption) ?_))
  refine ER.callD rfl rfl rfl rfl rfl (cload (deq_cell r (k := 3) (by omega) (by omega) hb)) ?_
  (repeat (first | refine EK.seq ?_ | refine ER.done ?_ | refine ER.assign rfl rfl rfl ?_))
  refine EK.regionAny (fun h' => h' = h) ?_
  have hZ : h = h := rfl
  refine EA.tMove 0 rfl (by kernel_rfl) rfl rfl rfl rfl hZ ?_
  refine EA.tMove 1 rfl (by kernel_rfl) rfl rfl rfl rfl hZ ?_
  refine EA.tNil 2 rfl (by kernel_rfl) rfl rfl rfl rfl hZ ?_
  refine EA.tField 3 rfl (by kernel_rfl) rfl rfl rfl rfl hZ ?_
  refine EA.tLoad 4 rfl (by kernel_rfl) rfl rfl rfl rfl (fun _ hz => hz ▸ ct) hZ ?_
  refine EA.tMove 5 rfl (by kernel_rfl) rfl rfl rfl rfl hZ ?_
  refine EA.tMove 8 rfl (by kernel_rfl) rfl rfl rfl rfl hZ ?_
  refine EA.tNil 9 rfl (by kernel_rfl) rfl rfl rfl rfl hZ ?_
  refine EA.tField 10 rfl (by kernel_rfl) rfl rfl rfl rfl hZ ?_
  refine EA.tLoad 11 rfl (by kernel_rfl) rfl rfl rfl rfl (fun _ hz => hz ▸ cs) hZ ?_
  refine EA.tLen1 12 rfl (by kernel_rfl) rfl rfl rfl rfl hZ ?_
  refine EA.callD 6 rfl (by kernel_rfl) rfl rfl rfl rfl rfl rfl (cload (deq_cell r (k := 2) (by omega) (by omega) hT)) hZ ?_
  refine EA.tSub (kd := .i64) (r := (c : Int)) 7 rfl (by kernel_rfl) rfl rfl rfl rfl rfl hs hZ ?_
  refine EA.tCmpT 13 rfl (by kernel_rfl) rfl rfl rfl rfl rfl rfl (by first | (dsimp only [cmpP]; omega) | exact rfl | exact Int.le_refl _) hZ ?_
  refine EA.done (by kernel_rfl) ?_
  (repeat (first | refine EK.seq ?_ | refine EK.region ?_ | refine ER.done ?_ | refine ER.assign rfl rfl rfl ?_ | refine EK.condT rfl ?_ | refine EK.ret ?_))
  exact EU.ret1 rfl rfl det
set_option maxRecDepth 8000 in
set_option maxHeartbeats 1000000 in
theorem dpop_one {e : Nat} {T x : Int} (r : Rep h (deqM n cap rest B v)) (hn : n = 2 ^ e) (he : e ≤ 12) (hT : v 2 = W64 T) (hb : v 3 = W64 (T + 1)) (hx : v (4 + slot n T) = x) (hS : DFree S δ.g n B) :
    CallW Try.prog main S 42 #[ptr (B 0), .pointer none] h δ (Ret fun w h' δ' => w = .tuple #[.int .i64 x, .bool true] ∧ δ' = δ ∧ (∃ v', v' 2 = W64 (T + 1) ∧ v' 3 = W64 (T + 1) ∧ Rep h' (deqM n cap rest B v')) ∧ Upd (fun b => ∃ k, k < 4 + n ∧ b = B k) h h') := by
  have hpos : 0 < n := by rw [hn]; exact Nat.two_pow_pos e
  have hlt := slot_lt hpos T
  have ct := deq_top r
  have cb := deq_bot r
  have hs : W64 (W64 T - W64 T) = 0 := by rw [w_sub, Int.sub_self]; exact w_small (by omega) (by omega)
  refine CallW.start (n := 74) rfl rfl ?_
  (repeat (first | refine EK.seq ?_ | refine EK.region ?_ | refine ER.done ?_ | refine ER.move rfl rfl rfl ?_ | refine ER.assign rfl rfl rfl ?_))
  refine ER.callD rfl rfl rfl rfl rfl (dnone_ok ct) ?_
  (repeat (first | refine EK.seq ?_ | refine EK.region ?_ | refine ER.done ?_ | refine EK.skip ?_ | refine ER.move rfl rfl rfl ?_ | refine ER.nilCheck rfl rfl rfl ?_ | refine ER.fieldAddr rfl rfl rfl ?_ | refine EK.condF rfl ?_ | refine ER.load1 rfl rfl rfl (by assumption) ?_))
  refine ER.callD rfl rfl rfl rfl rfl (cload (deq_cell r (k := 3) (by omega) (by omega) hb)) ?_
  refine ER.sub' (r := W64 T) rfl rfl rfl rfl (by show W64 (W64 (T + 1) - 1) = _; rw [w_sub1, show T + 1 - 1 = T by omega]) ?_
  (repeat (first | refine EK.seq ?_ | refine EK.region ?_ | refine ER.done ?_ | refine ER.move rfl rfl rfl ?_ | refine ER.assign rfl rfl rfl ?_ | refine ER.nilCheck rfl rfl rfl ?_ | refine ER.fieldAddr rfl rfl rfl ?_ | refine ER.load1 rfl rfl rfl (by assumption) ?_))
  refine ER.callD rfl rfl rfl rfl rfl (cstore (deq_cell r (k := 3) (by omega) (by omega) rfl) (fun o => hS _ o (by omega))) ?_
  have r1 := deq_set r (k := 3) (by omega) (by omega) (W64 T)
  have u1 := Upd.set (T := fun b => ∃ k, k < 4 + n ∧ b = B k) h (B 3) (cellO (W64 T)) ⟨_, by omega, rfl⟩
  have hT1 : ut v 3 (W64 T) 2 = W64 T := by rw [ut_ne _ _ (by omega), hT]
  have hx1 : ut v 3 (W64 T) (4 + slot n T) = x := by rw [ut_ne _ _ (by omega), hx]
  clear ct cb hT hb hx
  generalize h.setIfInBounds (B 3) (cellO (W64 T)) = h1 at r1 u1 ⊢
  generalize ut v 3 (W64 T) = v1 at r1 hT1 hx1
  have ct := deq_top r1
  have cb := deq_bot r1
  (repeat (first | refine EK.seq ?_ | refine EK.region ?_ | refine ER.done ?_ | refine ER.move rfl rfl rfl ?_ | refine ER.nilCheck rfl rfl rfl ?_ | refine ER.fieldAddr rfl rfl rfl ?_ | refine ER.load1 rfl rfl rfl (by assumption) ?_))
  refine ER.callD rfl rfl rfl rfl rfl (cload (deq_cell r1 (k := 2) (by omega) (by omega) hT1)) ?_
  (repeat (first | refine EK.seq ?_ | refine EK.region ?_ | refine ER.done ?_ | refine EK.skip ?_ | refine ER.move rfl rfl rfl ?_ | refine ER.assign rfl rfl rfl ?_ | refine ER.cmpF rfl rfl rfl rfl rfl (by first | (dsimp only [cmpP]; omega) | exact rfl | exact Int.le_refl _) ?_ | refine ER.sub' (kd := .i64) rfl rfl rfl rfl (i64_in (by omega) (by omega)) ?_ | refine EK.condF rfl ?_))
  refine ER.callD rfl rfl rfl rfl rfl (dat_ok r1 hn he) ?_
  rw [slot_w hn he]
  (repeat refine ER.move rfl rfl rfl ?_)
  refine ER.callD rfl rfl rfl rfl rfl (cload (deq_cell r1 (k := 4 + slot n T) (by omega) (by omega) hx1)) ?_
  (repeat (first | refine EK.seq ?_ | refine EK.region ?_ | refine ER.done ?_ | refine EK.skip ?_ | refine ER.move rfl rfl rfl ?_ | refine ER.assign rfl rfl rfl ?_ | refine ER.nilCheck rfl rfl rfl ?_ | refine ER.fieldAddr rfl rfl rfl ?_ | refine ER.cmpF rfl rfl rfl rfl rfl (by first | (dsimp only [cmpP]; omega) | exact rfl | exact Int.le_refl _) ?_ | refine ER.sub' (kd := .i64) rfl rfl rfl rfl (i64_in (by omega) (by omega)) ?_ | refine EK.condF rfl ?_ | refine ER.load1 rfl rfl rfl (by assumption) ?_))
  refine ER.add (r := W64 (T + 1)) rfl rfl rfl rfl w_add1 ?_
  refine ER.callD rfl rfl rfl rfl rfl (ccas_yes (deq_cell r1 (k := 2) (by omega) (by omega) hT1) (fun o => hS _ o (by omega))) ?_
  have r2 := deq_set r1 (k := 2) (by omega) (by omega) (W64 (T + 1))
  have u2 := Upd.set (T := fun b => ∃ k, k < 4 + n ∧ b = B k) h1 (B 2) (cellO (W64 (T + 1))) ⟨_, by omega, rfl⟩
  clear ct cb
  generalize h1.setIfInBounds (B 2) (cellO (W64 (T + 1))) = h2 at r2 u2 ⊢
  have cb := deq_bot r2
  (repeat (first | refine EK.seq ?_ | refine EK.region ?_ | refine ER.done ?_ | refine ER.move rfl rfl rfl ?_ | refine ER.assign rfl rfl rfl ?_ | refine ER.nilCheck rfl rfl rfl ?_ | refine ER.fieldAddr rfl rfl rfl ?_ | refine ER.load1 rfl rfl rfl (by assumption) ?_))
  refine ER.add (r := W64 (T + 1)) rfl rfl rfl rfl w_add1 ?_
  refine ER.callD rfl rfl rfl rfl rfl (cstore (deq_cell r2 (k := 3) (by omega) (by omega) rfl) (fun o => hS _ o (by omega))) ?_
  have r3 := deq_set r2 (k := 3) (by omega) (by omega) (W64 (T + 1))
  have u3 := Upd.set (T := fun b => ∃ k, k < 4 + n ∧ b = B k) h2 (B 3) (cellO (W64 (T + 1))) ⟨_, by omega, rfl⟩
  (repeat (first | refine EK.seq ?_ | refine EK.region ?_ | refine ER.done ?_ | refine EK.skip ?_ | refine ER.move rfl rfl rfl ?_ | refine ER.assign rfl rfl rfl ?_ | refine ER.notB rfl rfl rfl ?_ | refine EK.condF rfl ?_ | refine EK.ret ?_))
  exact EU.ret2 rfl rfl rfl ⟨rfl, rfl, ⟨_, by rw [ut_ne _ _ (by omega), ut_same], ut_same _ _ _, r3⟩, (u1.trans u2).trans u3⟩
set_option maxRecDepth 8000 in
set_option maxHeartbeats 1000000 in
theorem dpop_empty {T : Int} (r : Rep h (deqM n cap rest B v)) (hT : v 2 = W64 T) (hb : v 3 = W64 T) (hS : DFree S δ.g n B) :
    CallW Try.prog main S 42 #[ptr (B 0), .pointer none] h δ (Ret fun w h' δ' => w = .tuple #[.int .i64 0, .bool false] ∧ δ' = δ ∧ Upd (fun b => ∃ k, k < 4 + n ∧ b = B k) h h') := by
  have ct := deq_top r
  have cb := deq_bot r
  have hs : W64 (W64 (T - 1) - W64 T) = -1 := by rw [w_sub, show T - 1 - T = -1 by omega]; exact w_small (by omega) (by omega)
  refine CallW.start (n := 74) rfl rfl ?_
  (repeat (first | refine EK.seq ?_ | refine EK.region ?_ | refine ER.done ?_ | refine ER.move rfl rfl rfl ?_ | refine ER.assign rfl rfl rfl ?_))
  refine ER.callD rfl rfl rfl rfl rfl (dnone_ok ct) ?_
  (repeat (first | refine EK.seq ?_ | refine EK.region ?_ | refine ER.done ?_ | refine EK.skip ?_ | refine ER.move rfl rfl rfl ?_ | refine ER.nilCheck rfl rfl rfl ?_ | refine ER.fieldAddr rfl rfl rfl ?_ | refine EK.condF rfl ?_ | refine ER.load1 rfl rfl rfl (by assumption) ?_))
  refine ER.callD rfl rfl rfl rfl rfl (cload (deq_cell r (k := 3) (by omega) (by omega) hb)) ?_
  refine ER.sub' (r := W64 (T - 1)) rfl rfl rfl rfl w_sub1 ?_
  (repeat (first | refine EK.seq ?_ | refine EK.region ?_ | refine ER.done ?_ | refine ER.move rfl rfl rfl ?_ | refine ER.assign rfl rfl rfl ?_ | refine ER.nilCheck rfl rfl rfl ?_ | refine ER.fieldAddr rfl rfl rfl ?_ | refine ER.load1 rfl rfl rfl (by assumption) ?_))
  refine ER.callD rfl rfl rfl rfl rfl (cstore (deq_cell r (k := 3) (by omega) (by omega) rfl) (fun o => hS _ o (by omega))) ?_
  have r1 := deq_set r (k := 3) (by omega) (by omega) (W64 (T - 1))
  have u1 := Upd.set (T := fun b => ∃ k, k < 4 + n ∧ b = B k) h (B 3) (cellO (W64 (T - 1))) ⟨_, by omega, rfl⟩
  have hT1 : ut v 3 (W64 (T - 1)) 2 = W64 T := by rw [ut_ne _ _ (by omega), hT]
  clear ct cb hT hb
  generalize h.setIfInBounds (B 3) (cellO (W64 (T - 1))) = h1 at r1 u1 ⊢
  generalize ut v 3 (W64 (T - 1)) = v1 at r1 hT1
  have ct := deq_top r1
  have cb := deq_bot r1
  (repeat (first | refine EK.seq ?_ | refine EK.region ?_ | refine ER.done ?_ | refine ER.move rfl rfl rfl ?_ | refine ER.nilCheck rfl rfl rfl ?_ | refine ER.fieldAddr rfl rfl rfl ?_ | refine ER.load1 rfl rfl rfl (by assumption) ?_))
  refine ER.callD rfl rfl rfl rfl rfl (cload (deq_cell r1 (k := 2) (by omega) (by omega) hT1)) ?_
  (repeat (first | refine EK.seq ?_ | refine EK.region ?_ | refine ER.done ?_ | refine ER.move rfl rfl rfl ?_ | refine ER.assign rfl rfl rfl ?_))
  refine ER.sub' (r := -1) rfl rfl rfl rfl hs ?_
  (repeat (first | refine EK.seq ?_ | refine EK.region ?_ | refine ER.done ?_ | refine ER.move rfl rfl rfl ?_ | refine ER.nilCheck rfl rfl rfl ?_ | refine ER.fieldAddr rfl rfl rfl ?_ | refine ER.cmpT rfl rfl rfl rfl rfl (by first | (dsimp only [cmpP]; omega) | exact rfl | exact Int.le_refl _) ?_ | refine EK.condT rfl ?_ | refine ER.load1 rfl rfl rfl (by assumption) ?_))
  refine ER.add (r := W64 T) rfl rfl rfl rfl (by show W64 (W64 (T - 1) + 1) = _; rw [w_add1, show T - 1 + 1 = T by omega]) ?_
  refine ER.callD rfl rfl rfl rfl rfl (cstore (deq_cell r1 (k := 3) (by omega) (by omega) rfl) (fun o => hS _ o (by omega))) ?_
  have u3 := Upd.set (T := fun b => ∃ k, k < 4 + n ∧ b = B k) h1 (B 3) (cellO (W64 T)) ⟨_, by omega, rfl⟩
  (repeat (first | refine EK.seq ?_ | refine EK.region ?_ | refine ER.done ?_ | refine ER.assign rfl rfl rfl ?_ | refine EK.ret ?_))
  exact EU.ret2 rfl rfl rfl ⟨rfl, rfl, u1.trans u3⟩
set_option maxRecDepth 8000 in
set_option maxHeartbeats 1000000 in
theorem dsteal_ok {e c : Nat} {T x : Int} (r : Rep h (deqM n cap rest B v)) (hn : n = 2 ^ e) (he : e ≤ 12) (hT : v 2 = W64 T) (hb : v 3 = W64 (T + c)) (hc : 0 < c) (hc1 : c ≤ 4096) (hx : v (4 + slot n T) = x) (hS : DFree S δ.g n B) :
    CallW Try.prog main S 44 #[ptr (B 0), .pointer none] h δ (Ret fun w h' δ' => w = .tuple #[.int .i64 x, .int .i8 1] ∧ δ' = δ ∧ Rep h' (deqM n cap rest B (ut v 2 (W64 (T + 1)))) ∧ Upd (fun b => ∃ k, k < 4 + n ∧ b = B k) h h') := by
  have hpos : 0 < n := by rw [hn]; exact Nat.two_pow_pos e
  have hlt := slot_lt hpos T
  have ct := deq_top r
  have cb := deq_bot r
  have hs : W64 (W64 (T + c) - W64 T) = c := by rw [w_sub, show T + c - T = (c : Int) by omega]; exact w_small (by omega) (by omega)
  refine CallW.start (n := 44) rfl rfl ?_
  (repeat (first | refine EK.seq ?_ | refine EK.region ?_ | refine ER.done ?_ | refine ER.move rfl rfl rfl ?_ | refine ER.assign rfl rfl rfl ?_))
  refine ER.callD rfl rfl rfl rfl rfl (dnone_ok ct) ?_
  (repeat (first | refine EK.seq ?_ | refine EK.region ?_ | refine ER.done ?_ | refine EK.skip ?_ | refine ER.move rfl rfl rfl ?_ | refine ER.nilCheck rfl rfl rfl ?_ | refine ER.fieldAddr rfl rfl rfl ?_ | refine EK.condF rfl ?_ | refine ER.load1 rfl rfl rfl (by assumption) ?_))
  refine ER.callD rfl rfl rfl rfl rfl (cload (deq_cell r (k := 2) (by omega) (by omega) hT)) ?_
  (repeat (first | refine EK.seq ?_ | refine EK.region ?_ | refine ER.done ?_ | refine ER.move rfl rfl rfl ?_ | refine ER.assign rfl rfl rfl ?_ | refine ER.nilCheck rfl rfl rfl ?_ | refine ER.fieldAddr rfl rfl rfl ?_ | refine ER.load1 rfl rfl rfl (by assumption) ?_))
  refine ER.callD rfl rfl rfl rfl rfl (cload (deq_cell r (k := 3) (by omega) (by omega) hb)) ?_
  (repeat refine ER.move rfl rfl rfl ?_)
  refine ER.sub' (r := (c : Int)) rfl rfl rfl rfl hs ?_
  (repeat (first | refine EK.seq ?_ | refine EK.region ?_ | refine ER.done ?_ | refine EK.skip ?_ | refine ER.move rfl rfl rfl ?_ | refine ER.cmpF rfl rfl rfl rfl rfl (by first | (dsimp only [cmpP]; omega) | exact rfl | exact Int.le_refl _) ?_ | refine EK.condF rfl ?_))
  refine ER.callD rfl rfl rfl rfl rfl (dat_ok r hn he) ?_
  rw [slot_w hn he]
  refine ER.makeF rfl rfl rfl rfl rfl rfl ?_
  (repeat (first | refine EK.seq ?_ | refine EK.region ?_ | refine ER.done ?_ | refine ER.move rfl rfl rfl ?_ | refine ER.assign rfl rfl rfl ?_))
  refine ER.callFR rfl rfl rfl rfl rfl (cload (deq_cell r (k := 4 + slot n T) (by omega) (by omega) hx)) ?_
  rintro _ _ _ ⟨rfl, rfl, rfl⟩
  (repeat (first | refine EK.seq ?_ | refine EK.region ?_ | refine ER.done ?_ | refine ER.move rfl rfl rfl ?_ | refine ER.assign rfl rfl rfl ?_ | refine ER.nilCheck rfl rfl rfl ?_ | refine ER.fieldAddr rfl rfl rfl ?_ | refine ER.load1 rfl rfl rfl (by assumption) ?_))
  refine ER.add (r := W64 (T + 1)) rfl rfl rfl rfl w_add1 ?_
  refine ER.callD rfl rfl rfl rfl rfl (ccas_yes (deq_cell r (k := 2) (by omega) (by omega) hT) (fun o => hS _ o (by omega))) ?_
  have r2 := deq_set r (k := 2) (by omega) (by omega) (W64 (T + 1))
  (repeat (first | refine EK.seq ?_ | refine EK.region ?_ | refine ER.done ?_ | refine EK.skip ?_ | refine ER.move rfl rfl rfl ?_ | refine ER.assign rfl rfl rfl ?_ | refine ER.notB rfl rfl rfl ?_ | refine EK.condF rfl ?_ | refine EK.ret ?_))
  exact EU.ret2 rfl rfl rfl ⟨rfl, rfl, r2, Upd.set _ _ _ ⟨_, by omega, rfl⟩⟩
end
end Go.Proofs.Ytcpcdnkemobneaa
end
section
namespace Go.Proofs.Ytcpcdnkemobneaa
open Go Go.TJ Go.Conc Go.Proofs
section
variable {A : Type}
def pushD (n : Nat) (B : Nat → Nat) (v : Int) (k : Int → Pr A) : Pr A :=
  .step ⟨1, B 3, 0, 0⟩ fun b => .step ⟨1, B 2, 0, 0⟩ fun p => if (n : Int) ≤ W64 (b - p) then k 12 else .step ⟨2, B (4 + slot n b), v, 0⟩ fun _ => .step ⟨2, B 3, W64 (b + 1), 0⟩ fun _ => k 0
def popD (n : Nat) (B : Nat → Nat) (k : Int → Bool → Pr A) : Pr A :=
  .step ⟨1, B 3, 0, 0⟩ fun b => .step ⟨2, B 3, W64 (b - 1), 0⟩ fun _ => .step ⟨1, B 2, 0, 0⟩ fun p =>
    if W64 (W64 (b - 1) - p) < 0 then .step ⟨2, B 3, W64 (W64 (b - 1) + 1), 0⟩ fun _ => k 0 false
    else .step ⟨1, B (4 + slot n (W64 (b - 1))), 0, 0⟩ fun v => if 0 < W64 (W64 (b - 1) - p) then k v true
      else .step ⟨3, B 2, p, W64 (p + 1)⟩ fun w => .step ⟨2, B 3, W64 (W64 (b - 1) + 1), 0⟩ fun _ => if w = p then k v true else k 0 false
def stealD (n : Nat) (B : Nat → Nat) (k : Int → Int → Pr A) : Pr A :=
  .step ⟨1, B 2, 0, 0⟩ fun p => .step ⟨1, B 3, 0, 0⟩ fun b => if W64 (b - p) ≤ 0 then k 0 0
    else .step ⟨1, B (4 + slot n p), 0, 0⟩ fun v => .step ⟨3, B 2, p, W64 (p + 1)⟩ fun w => if w = p then k v 1 else k 0 2
def lenD (B : Nat → Nat) (k : Int → Pr A) : Pr A :=
  .step ⟨1, B 2, 0, 0⟩ fun p => .step ⟨1, B 3, 0, 0⟩ fun b => k (W64 (b - p))
end
structure DeqH (n cap : Nat) (rest : List Value) (B : Nat → Nat) (h : Hp) : Prop where
  o0 : h[B 0]? = some (.cells #[ptr (B 2), ptr (B 3), .slice (some ⟨B 1, 0, none⟩) n cap] 236 (0, 0))
  o1 : h[B 1]? = some (.cells (((List.range n).map fun j => ptr (B (4 + j))) ++ rest).toArray 220 (0, 0))
section
variable {h : Hp} {n cap : Nat} {rest : List Value} {B : Nat → Nat}
theorem DeqH.top (r : DeqH n cap rest B h) : hcell h ⟨B 0, 0, none⟩ = some (ptr (B 2)) := hcell_of r.o0 rfl
theorem DeqH.bot (r : DeqH n cap rest B h) : hcell h ⟨B 0, 1, none⟩ = some (ptr (B 3)) := hcell_of r.o0 rfl
theorem DeqH.sl (r : DeqH n cap rest B h) : hcell h ⟨B 0, 2, none⟩ = some (.slice (some ⟨B 1, 0, none⟩) n cap) := hcell_of r.o0 rfl
theorem DeqH.row (r : DeqH n cap rest B h) {j : Nat} (hj : j < n) : hcell h ⟨B 1, 0 + j * 1, none⟩ = some (ptr (B (4 + j))) := hcell_of r.o1 (by
  rw [show 0 + j * 1 = j by omega]
  simp only [List.getElem?_toArray]
  rw [List.getElem?_append_left (by simp; omega)]
  simp [hj])
end
section
variable {Γ : Type} {main : Bool} {S : Sit Γ} {δ : Ix Γ} {h : Hp} {n cap : Nat} {rest : List Value} {B : Nat → Nat}
set_option maxRecDepth 8000 in
set_option maxHeartbeats 1000000 in
theorem dat_T {e : Nat} {x : Int} (r : DeqH n cap rest B h) (hn : n = 2 ^ e) (he : e ≤ 12) : CallW Try.prog main S 105 #[ptr (B 0), .int .i64 x] h δ (Ret (Det (ptr (B (4 + slot n x))) h δ)) := by
  have hle : n ≤ 4096 := by have := Nat.pow_le_pow_right (n := 2) (by decide) he; omega
  have hpos : 0 < n := by rw [hn]; exact Nat.two_pow_pos e
  have hlt := slot_lt hpos x
  have cs := r.sl
  have cr := r.row hlt
  refine CallW.start (n := 21) rfl rfl ?_
  (repeat (first | refine EK.seq ?_ | refine EK.region ?_ | refine ER.done ?_ | refine ER.assign rfl rfl rfl ?_))
  refine EK.regionAny (fun h' => h' = h) ?_
  have hZ : h = h := rfl
  refine EA.tMove 0 rfl (by kernel_rfl) rfl rfl rfl rfl hZ ?_
  refine EA.tNil 1 rfl (by kernel_rfl) rfl rfl rfl rfl hZ ?_
  refine EA.tField 2 rfl (by kernel_rfl) rfl rfl rfl rfl hZ ?_
  refine EA.tLoad 3 rfl (by kernel_rfl) rfl rfl rfl rfl (fun _ hz => hz ▸ cs) hZ ?_
  refine EA.tMove 4 rfl (by kernel_rfl) rfl rfl rfl rfl hZ ?_
  refine EA.tConv (r := IntKind.u64.wrap x) 5 rfl (by kernel_rfl) rfl rfl rfl rfl rfl hZ ?_
  refine EA.tMove 6 rfl (by kernel_rfl) rfl rfl rfl rfl hZ ?_
  refine EA.tNil 7 rfl (by kernel_rfl) rfl rfl rfl rfl hZ ?_
  refine EA.tField 8 rfl (by kernel_rfl) rfl rfl rfl rfl hZ ?_
  refine EA.tLoad 9 rfl (by kernel_rfl) rfl rfl rfl rfl (fun _ hz => hz ▸ cs) hZ ?_
  refine EA.tLen1 10 rfl (by kernel_rfl) rfl rfl rfl rfl hZ ?_
  refine EA.tSub (kd := .i64) 11 rfl (by kernel_rfl) rfl rfl rfl rfl rfl (i64_in (by omega) (by omega)) hZ ?_
  refine EA.tConv (r := IntKind.u64.wrap ((n : Int) - 1)) 12 rfl (by kernel_rfl) rfl rfl rfl rfl rfl hZ ?_
  refine EA.tBinI (kd := .u64) (v := .int .u64 (slot n x : Int)) 13 rfl (by kernel_rfl) rfl rfl rfl rfl rfl ((binOp_bits (.inl rfl)).trans (by rw [slot_bits hn he])) hZ ?_
  refine EA.tIdxS 14 rfl (by kernel_rfl) rfl rfl rfl rfl rfl (by omega) (by omega) hZ ?_
  refine EA.tLoad 15 rfl (by kernel_rfl) rfl rfl rfl rfl (fun _ hz => hz ▸ cr) hZ ?_
  refine EA.tAssign 16 rfl (by kernel_rfl) rfl rfl rfl rfl hZ ?_
  refine EA.done (by kernel_rfl) ?_
  (repeat refine EK.ret ?_)
  exact EU.ret1 rfl rfl det
end
section
variable {X : Us} {A : Type} {P : Nat → Pr A} {told : X.U → Nat → List A} {n cap e : Nat} {rest : List Value} {B : Nat → Nat} {i : Nat} {γ γ' : GG X} {u : X.U} {L : List (Nat × Obj)} {h : Hp} {t : Nat}
structure DeqK (X : Us) (n e : Nat) (B : Nat → Nat) : Prop where
  cell : ∀ k, 2 ≤ k → k < 4 + n → X.isC (B k)
  hn : n = 2 ^ e
  he : e ≤ 12
theorem DeqK.pos (D : DeqK X n e B) : 0 < n := by rw [D.hn]; exact Nat.two_pow_pos e
theorem DeqK.slot (D : DeqK X n e B) (x : Int) : X.isC (B (4 + slot n x)) := D.cell _ (by omega) (by have := slot_lt D.pos x; omega)
theorem DeqK.le (D : DeqK X n e B) : n ≤ 4096 := by have := Nat.pow_le_pow_right (n := 2) (by decide) D.he; have := D.hn; omega
set_option maxRecDepth 8000 in
set_option maxHeartbeats 4000000 in
theorem dpush_T (K : CodX X P told (DeqH n cap rest B)) (D : DeqK X n e B) {v : Int} {k : Int → Pr A} (a : AtP X P told i γ u L h (pushD n B v k)) (ht : t = γ.p.tb i) :
    CallW Try.prog false (SitT Try.prog (PX X) (i + 1)) 41 #[ptr (B 0), ptr t, .int .i64 v] h ⟨0, γ⟩ (RetP (fun w h' δ' => ∃ (γ' : GG X) (e : Int), δ' = ⟨0, γ'⟩ ∧ w = .int .i64 e ∧ Nxt X P told i γ u L γ' h' (k e)) (Halt X i γ.p)) := by
  subst ht
  have hle := D.le
  have s0 := K.mem _ _ a.thr.I
  have ct := s0.top
  have cb := s0.bot
  refine CallW.start (n := 44) rfl rfl ?_
  (repeat (first | refine EK.seq ?_ | refine EK.region ?_ | refine ER.done ?_ | refine ER.move rfl rfl rfl ?_ | refine ER.assign rfl rfl rfl ?_))
  refine ER.callD rfl rfl rfl rfl rfl (dnone_ok ct) ?_
  (repeat (first | refine EK.seq ?_ | refine EK.region ?_ | refine ER.done ?_ | refine EK.skip ?_ | refine ER.move rfl rfl rfl ?_ | refine ER.nilCheck rfl rfl rfl ?_ | refine ER.fieldAddr rfl rfl rfl ?_ | refine EK.condF rfl ?_ | refine ER.load1 rfl rfl rfl (by assumption) ?_))
  refine ER.callP rfl rfl rfl rfl rfl (loadC K a (D.cell 3 (by omega) (by have := D.pos; omega)) rfl) (fun _ _ _ x => x) ?_
  rintro _ h1 δ1 ⟨γ1, rfl, rfl, nx1, s1⟩
  generalize γ1.p.val (B 3) = b at nx1 ⊢
  clear ct cb
  (repeat (first | refine EK.seq ?_ | refine ER.done ?_ | refine ER.assign rfl rfl rfl ?_))
  refine EK.regionAny (fun h' => hcell h' ⟨B 0, 0, none⟩ = some (ptr (B 2)) ∧ hcell h' ⟨B 0, 2, none⟩ = some (.slice (some ⟨B 1, 0, none⟩) n cap)) ?_
  have hZ := And.intro s1.top s1.sl
  refine EA.tMove 0 rfl (by kernel_rfl) rfl rfl rfl rfl hZ ?_
  refine EA.tMove 1 rfl (by kernel_rfl) rfl rfl rfl rfl hZ ?_
  refine EA.tNil 2 rfl (by kernel_rfl) rfl rfl rfl rfl hZ ?_
  refine EA.tField 3 rfl (by kernel_rfl) rfl rfl rfl rfl hZ ?_
  refine EA.tLoad 4 rfl (by kernel_rfl) rfl rfl rfl rfl (fun _ hz => hz.1) hZ ?_
  refine EA.tMove 5 rfl (by kernel_rfl) rfl rfl rfl rfl hZ ?_
  refine EA.tMove 8 rfl (by kernel_rfl) rfl rfl rfl rfl hZ ?_
  refine EA.tNil 9 rfl (by kernel_rfl) rfl rfl rfl rfl hZ ?_
  refine EA.tField 10 rfl (by kernel_rfl) rfl rfl rfl rfl hZ ?_
  refine EA.tLoad 11 rfl (by kernel_rfl) rfl rfl rfl rfl (fun _ hz => hz.2) hZ ?_
  refine EA.tLen1 12 rfl (by kernel_rfl) rfl rfl rfl rfl hZ ?_
  refine eaCallP 6 rfl (by kernel_rfl) rfl rfl rfl rfl rfl rfl (loadC K nx1.at_ (D.cell 2 (by omega) (by have := D.pos; omega)) nx1.al.tb.symm) (fun _ _ _ x => x.along nx1.al) ?_
  rintro _ h2 δ2 ⟨γ2, rfl, rfl, nx2, s2⟩
  generalize γ2.p.val (B 2) = p at nx2 ⊢
  have hZ := And.intro s2.top s2.sl
  refine ⟨hZ, ?_⟩
  refine EA.tSub (kd := .i64) (r := W64 (b - p)) 7 rfl (by kernel_rfl) rfl rfl rfl rfl rfl rfl hZ ?_
  have nx := nx1.trans K.ok nx2
  by_cases hc : (n : Int) ≤ W64 (b - p)
  · rw [if_pos hc] at nx
    refine EA.tCmpT 13 rfl (by kernel_rfl) rfl rfl rfl rfl rfl rfl (by first | (dsimp only [cmpP]; omega) | exact rfl | exact Int.le_refl _) hZ ?_
    refine EA.done (by kernel_rfl) ?_
    (repeat (first | refine EK.seq ?_ | refine EK.region ?_ | refine ER.done ?_ | refine ER.assign rfl rfl rfl ?_ | refine EK.condT rfl ?_ | refine EK.ret ?_))
    exact EU.ret1 rfl rfl ⟨γ2, 12, rfl, rfl, nx⟩
  · rw [if_neg hc] at nx nx2
    refine EA.tCmpF 13 rfl (by kernel_rfl) rfl rfl rfl rfl rfl rfl (by first | (dsimp only [cmpP]; omega) | exact rfl | exact Int.le_refl _) hZ ?_
    refine EA.done (by kernel_rfl) ?_
    (repeat (first | refine EK.seq ?_ | refine EK.region ?_ | refine EK.skip ?_ | refine ER.move rfl rfl rfl ?_ | refine EK.condF rfl ?_))
    refine ER.callD rfl rfl rfl rfl rfl (dat_T s2 D.hn D.he) ?_
    (repeat refine ER.move rfl rfl rfl ?_)
    refine ER.callP rfl rfl rfl rfl rfl (storeC K nx.at_ (D.slot b) nx.al.tb.symm) (fun _ _ _ y => y.along nx.al) ?_
    rintro _ h3 δ3 ⟨γ3, rfl, rfl, nx3, s3⟩
    replace nx := nx.trans K.ok nx3
    have cb := s3.bot
    (repeat (first | refine EK.seq ?_ | refine EK.region ?_ | refine ER.done ?_ | refine ER.move rfl rfl rfl ?_ | refine ER.nilCheck rfl rfl rfl ?_ | refine ER.fieldAddr rfl rfl rfl ?_ | refine ER.load1 rfl rfl rfl (by assumption) ?_))
    refine ER.add (r := W64 (b + 1)) rfl rfl rfl rfl rfl ?_
    skip
    refine ER.callP rfl rfl rfl rfl rfl (storeC K nx.at_ (D.cell 3 (by omega) (by have := D.pos; omega)) nx.al.tb.symm) (fun _ _ _ y => y.along nx.al) ?_
    rintro _ h4 δ4 ⟨γ4, rfl, rfl, nx4, s4⟩
    (repeat (first | refine EK.seq ?_ | refine EK.region ?_ | refine ER.done ?_ | refine ER.assign rfl rfl rfl ?_ | refine EK.ret ?_))
    exact EU.ret1 rfl rfl ⟨γ4, 0, rfl, rfl, nx.trans K.ok nx4⟩
set_option maxRecDepth 8000 in
set_option maxHeartbeats 4000000 in
theorem dpop_T (K : CodX X P told (DeqH n cap rest B)) (D : DeqK X n e B) {k : Int → Bool → Pr A} (a : AtP X P told i γ u L h (popD n B k)) (ht : t = γ.p.tb i) :
    CallW Try.prog false (SitT Try.prog (PX X) (i + 1)) 42 #[ptr (B 0), ptr t] h ⟨0, γ⟩ (RetP (fun w h' δ' => ∃ (γ' : GG X) (v : Int) (e : Bool), δ' = ⟨0, γ'⟩ ∧ w = .tuple #[.int .i64 v, .bool e] ∧ Nxt X P told i γ u L γ' h' (k v e)) (Halt X i γ.p)) := by
  subst ht
  have hle := D.le
  have hpos := D.pos
  have s0 := K.mem _ _ a.thr.I
  have ct := s0.top
  have cb := s0.bot
  refine CallW.start (n := 74) rfl rfl ?_
  (repeat (first | refine EK.seq ?_ | refine EK.region ?_ | refine ER.done ?_ | refine ER.move rfl rfl rfl ?_ | refine ER.assign rfl rfl rfl ?_))
  refine ER.callD rfl rfl rfl rfl rfl (dnone_ok ct) ?_
  (repeat (first | refine EK.seq ?_ | refine EK.region ?_ | refine ER.done ?_ | refine EK.skip ?_ | refine ER.move rfl rfl rfl ?_ | refine ER.nilCheck rfl rfl rfl ?_ | refine ER.fieldAddr rfl rfl rfl ?_ | refine EK.condF rfl ?_ | refine ER.load1 rfl rfl rfl (by assumption) ?_))
  refine ER.callP rfl rfl rfl rfl rfl (loadC K a (D.cell 3 (by omega) (by omega)) rfl) (fun _ _ _ x => x) ?_
  rintro _ h1 δ1 ⟨γ1, rfl, rfl, nx, s1⟩
  generalize γ1.p.val (B 3) = b at nx ⊢
  clear ct cb
  have cb := s1.bot
  refine ER.sub' (r := W64 (b - 1)) rfl rfl rfl rfl rfl ?_
  (repeat (first | refine EK.seq ?_ | refine EK.region ?_ | refine ER.done ?_ | refine ER.move rfl rfl rfl ?_ | refine ER.assign rfl rfl rfl ?_ | refine ER.nilCheck rfl rfl rfl ?_ | refine ER.fieldAddr rfl rfl rfl ?_ | refine ER.load1 rfl rfl rfl (by assumption) ?_))
  refine ER.callP rfl rfl rfl rfl rfl (storeC K nx.at_ (D.cell 3 (by omega) (by omega)) nx.al.tb.symm) (fun _ _ _ y => y.along nx.al) ?_
  rintro _ h2 δ2 ⟨γ2, rfl, rfl, nx2, s2⟩
  replace nx := nx.trans K.ok nx2
  clear nx2 s1 cb
  generalize W64 (b - 1) = b at nx ⊢
  have ct := s2.top
  (repeat (first | refine EK.seq ?_ | refine EK.region ?_ | refine ER.done ?_ | refine ER.move rfl rfl rfl ?_ | refine ER.nilCheck rfl rfl rfl ?_ | refine ER.fieldAddr rfl rfl rfl ?_ | refine ER.load1 rfl rfl rfl (by assumption) ?_))
  refine ER.callP rfl rfl rfl rfl rfl (loadC K nx.at_ (D.cell 2 (by omega) (by omega)) nx.al.tb.symm) (fun _ _ _ y => y.along nx.al) ?_
  rintro _ h3 δ3 ⟨γ3, rfl, rfl, nx3, s3⟩
  replace nx := nx.trans K.ok nx3
  clear nx3 s2 ct
  generalize γ3.p.val (B 2) = p at nx ⊢
  have cb := s3.bot
  have ct := s3.top
  (repeat (first | refine EK.seq ?_ | refine EK.region ?_ | refine ER.done ?_ | refine ER.move rfl rfl rfl ?_ | refine ER.assign rfl rfl rfl ?_))
  refine ER.sub' (r := W64 (b - p)) rfl rfl rfl rfl rfl ?_
  by_cases hc : W64 (b - p) < 0
  · rw [if_pos hc] at nx
    (repeat (first | refine EK.seq ?_ | refine EK.region ?_ | refine ER.done ?_ | refine ER.move rfl rfl rfl ?_ | refine ER.nilCheck rfl rfl rfl ?_ | refine ER.fieldAddr rfl rfl rfl ?_ | refine ER.cmpT rfl rfl rfl rfl rfl (by first | (dsimp only [cmpP]; omega) | exact rfl | exact Int.le_refl _) ?_ | refine EK.condT rfl ?_ | refine ER.load1 rfl rfl rfl (by assumption) ?_))
    refine ER.add (r := W64 (b + 1)) rfl rfl rfl rfl rfl ?_
    skip
    refine ER.callP rfl rfl rfl rfl rfl (storeC K nx.at_ (D.cell 3 (by omega) (by omega)) nx.al.tb.symm) (fun _ _ _ y => y.along nx.al) ?_
    rintro _ h4 δ4 ⟨γ4, rfl, rfl, nx4, s4⟩
    (repeat (first | refine EK.seq ?_ | refine EK.region ?_ | refine ER.done ?_ | refine ER.assign rfl rfl rfl ?_ | refine EK.ret ?_))
    exact EU.ret2 rfl rfl rfl ⟨γ4, 0, false, rfl, rfl, nx.trans K.ok nx4⟩
  · rw [if_neg hc] at nx
    (repeat (first | refine EK.seq ?_ | refine EK.region ?_ | refine ER.done ?_ | refine EK.skip ?_ | refine ER.move rfl rfl rfl ?_ | refine ER.cmpF rfl rfl rfl rfl rfl (by first | (dsimp only [cmpP]; omega) | exact rfl | exact Int.le_refl _) ?_ | refine EK.condF rfl ?_))
    refine ER.callD rfl rfl rfl rfl rfl (dat_T s3 D.hn D.he) ?_
    (repeat refine ER.move rfl rfl rfl ?_)
    refine ER.callP rfl rfl rfl rfl rfl (loadC K nx.at_ (D.slot b) nx.al.tb.symm) (fun _ _ _ y => y.along nx.al) ?_
    rintro _ h4 δ4 ⟨γ4, rfl, rfl, nx4, s4⟩
    replace nx := nx.trans K.ok nx4
    clear nx4 s3 cb ct
    generalize γ4.p.val (B (4 + slot n b)) = v at nx ⊢
    have cb := s4.bot
    have ct := s4.top
    (repeat (first | refine EK.seq ?_ | refine EK.region ?_ | refine ER.done ?_ | refine ER.move rfl rfl rfl ?_ | refine ER.assign rfl rfl rfl ?_))
    refine ER.sub' (r := W64 (b - p)) rfl rfl rfl rfl rfl ?_
    by_cases hd : 0 < W64 (b - p)
    · rw [if_pos hd] at nx
      (repeat (first | refine EK.seq ?_ | refine EK.region ?_ | refine ER.done ?_ | refine ER.move rfl rfl rfl ?_ | refine ER.assign rfl rfl rfl ?_ | refine ER.cmpT rfl rfl rfl rfl rfl (by first | (dsimp only [cmpP]; omega) | exact rfl | exact Int.le_refl _) ?_ | refine EK.condT rfl ?_ | refine EK.ret ?_))
      exact EU.ret2 rfl rfl rfl ⟨γ4, v, true, rfl, rfl, nx⟩
    · rw [if_neg hd] at nx
      (repeat (first | refine EK.seq ?_ | refine EK.region ?_ | refine ER.done ?_ | refine EK.skip ?_ | refine ER.move rfl rfl rfl ?_ | refine ER.nilCheck rfl rfl rfl ?_ | refine ER.fieldAddr rfl rfl rfl ?_ | refine ER.cmpF rfl rfl rfl rfl rfl (by first | (dsimp only [cmpP]; omega) | exact rfl | exact Int.le_refl _) ?_ | refine EK.condF rfl ?_ | refine ER.load1 rfl rfl rfl (by assumption) ?_))
      refine ER.add (r := W64 (p + 1)) rfl rfl rfl rfl rfl ?_
      refine ER.callP rfl rfl rfl rfl rfl (casC K nx.at_ (D.cell 2 (by omega) (by omega)) nx.al.tb.symm) (fun _ _ _ y => y.along nx.al) ?_
      rintro _ h5 δ5 ⟨γ5, rfl, rfl, nx5, s5⟩
      replace nx := nx.trans K.ok nx5
      clear nx5 s4 cb ct
      generalize γ5.p.val (B 2) = w at nx ⊢
      have cb := s5.bot
      (repeat (first | refine EK.seq ?_ | refine EK.region ?_ | refine ER.done ?_ | refine ER.move rfl rfl rfl ?_ | refine ER.assign rfl rfl rfl ?_ | refine ER.nilCheck rfl rfl rfl ?_ | refine ER.fieldAddr rfl rfl rfl ?_ | refine ER.load1 rfl rfl rfl (by assumption) ?_))
      refine ER.add (r := W64 (b + 1)) rfl rfl rfl rfl rfl ?_
      skip
      refine ER.callP rfl rfl rfl rfl rfl (storeC K nx.at_ (D.cell 3 (by omega) (by omega)) nx.al.tb.symm) (fun _ _ _ y => y.along nx.al) ?_
      rintro _ h6 δ6 ⟨γ6, rfl, rfl, nx6, s6⟩
      replace nx := nx.trans K.ok nx6
      clear nx6
      by_cases hw : w = p
      · rw [if_pos hw] at nx
        rw [decide_eq_true hw]
        (repeat (first | refine EK.seq ?_ | refine EK.region ?_ | refine ER.done ?_ | refine EK.skip ?_ | refine ER.move rfl rfl rfl ?_ | refine ER.assign rfl rfl rfl ?_ | refine ER.notB rfl rfl rfl ?_ | refine EK.condF rfl ?_ | refine EK.ret ?_))
        exact EU.ret2 rfl rfl rfl ⟨γ6, v, true, rfl, rfl, nx⟩
      · rw [if_neg hw] at nx
        rw [decide_eq_false hw]
        (repeat (first | refine EK.seq ?_ | refine EK.region ?_ | refine ER.done ?_ | refine ER.move rfl rfl rfl ?_ | refine ER.assign rfl rfl rfl ?_ | refine ER.notB rfl rfl rfl ?_ | refine EK.condT rfl ?_ | refine EK.ret ?_))
        exact EU.ret2 rfl rfl rfl ⟨γ6, 0, false, rfl, rfl, nx⟩
set_option maxRecDepth 8000 in
set_option maxHeartbeats 4000000 in
theorem dsteal_T (K : CodX X P told (DeqH n cap rest B)) (D : DeqK X n e B) {k : Int → Int → Pr A} (a : AtP X P told i γ u L h (stealD n B k)) (ht : t = γ.p.tb i) :
    CallW Try.prog false (SitT Try.prog (PX X) (i + 1)) 44 #[ptr (B 0), ptr t] h ⟨0, γ⟩ (RetP (fun w h' δ' => ∃ (γ' : GG X) (v how : Int), δ' = ⟨0, γ'⟩ ∧ w = .tuple #[.int .i64 v, .int .i8 how] ∧ Nxt X P told i γ u L γ' h' (k v how)) (Halt X i γ.p)) := by
  subst ht
  have hle := D.le
  have hpos := D.pos
  have s0 := K.mem _ _ a.thr.I
  have ct := s0.top
  refine CallW.start (n := 44) rfl rfl ?_
  (repeat (first | refine EK.seq ?_ | refine EK.region ?_ | refine ER.done ?_ | refine ER.move rfl rfl rfl ?_ | refine ER.assign rfl rfl rfl ?_))
  refine ER.callD rfl rfl rfl rfl rfl (dnone_ok ct) ?_
  (repeat (first | refine EK.seq ?_ | refine EK.region ?_ | refine ER.done ?_ | refine EK.skip ?_ | refine ER.move rfl rfl rfl ?_ | refine ER.nilCheck rfl rfl rfl ?_ | refine ER.fieldAddr rfl rfl rfl ?_ | refine EK.condF rfl ?_ | refine ER.load1 rfl rfl rfl (by assumption) ?_))
  refine ER.callP rfl rfl rfl rfl rfl (loadC K a (D.cell 2 (by omega) (by omega)) rfl) (fun _ _ _ x => x) ?_
  rintro _ h1 δ1 ⟨γ1, rfl, rfl, nx, s1⟩
  generalize γ1.p.val (B 2) = p at nx ⊢
  clear ct
  have cb := s1.bot
  (repeat (first | refine EK.seq ?_ | refine EK.region ?_ | refine ER.done ?_ | refine ER.move rfl rfl rfl ?_ | refine ER.assign rfl rfl rfl ?_ | refine ER.nilCheck rfl rfl rfl ?_ | refine ER.fieldAddr rfl rfl rfl ?_ | refine ER.load1 rfl rfl rfl (by assumption) ?_))
  refine ER.callP rfl rfl rfl rfl rfl (loadC K nx.at_ (D.cell 3 (by omega) (by omega)) nx.al.tb.symm) (fun _ _ _ y => y.along nx.al) ?_
  rintro _ h2 δ2 ⟨γ2, rfl, rfl, nx2, s2⟩
  replace nx := nx.trans K.ok nx2
  clear nx2 s1 cb
  generalize γ2.p.val (B 3) = b at nx ⊢
  have ct := s2.top
  (repeat refine ER.move rfl rfl rfl ?_)
  refine ER.sub' (r := W64 (b - p)) rfl rfl rfl rfl rfl ?_
  by_cases hc : W64 (b - p) ≤ 0
  · rw [if_pos hc] at nx
    (repeat (first | refine EK.seq ?_ | refine EK.region ?_ | refine ER.done ?_ | refine ER.assign rfl rfl rfl ?_ | refine ER.cmpT rfl rfl rfl rfl rfl (by first | (dsimp only [cmpP]; omega) | exact rfl | exact Int.le_refl _) ?_ | refine EK.condT rfl ?_ | refine EK.ret ?_))
    exact EU.ret2 rfl rfl rfl ⟨γ2, 0, 0, rfl, rfl, nx⟩
  · rw [if_neg hc] at nx
    (repeat (first | refine EK.seq ?_ | refine EK.region ?_ | refine ER.done ?_ | refine EK.skip ?_ | refine ER.move rfl rfl rfl ?_ | refine ER.cmpF rfl rfl rfl rfl rfl (by first | (dsimp only [cmpP]; omega) | exact rfl | exact Int.le_refl _) ?_ | refine EK.condF rfl ?_))
    refine ER.callD rfl rfl rfl rfl rfl (dat_T s2 D.hn D.he) ?_
    refine ER.makeF rfl rfl rfl rfl rfl rfl ?_
    (repeat (first | refine EK.seq ?_ | refine EK.region ?_ | refine ER.done ?_ | refine ER.move rfl rfl rfl ?_ | refine ER.assign rfl rfl rfl ?_))
    refine ER.callP rfl rfl rfl rfl rfl (loadC K nx.at_ (D.slot p) nx.al.tb.symm) (fun _ _ _ y => y.along nx.al) ?_
    rintro _ h3 δ3 ⟨γ3, rfl, rfl, nx3, s3⟩
    replace nx := nx.trans K.ok nx3
    clear nx3 s2 ct
    generalize γ3.p.val (B (4 + slot n p)) = v at nx ⊢
    have ct := s3.top
    (repeat (first | refine EK.seq ?_ | refine EK.region ?_ | refine ER.done ?_ | refine ER.move rfl rfl rfl ?_ | refine ER.assign rfl rfl rfl ?_ | refine ER.nilCheck rfl rfl rfl ?_ | refine ER.fieldAddr rfl rfl rfl ?_ | refine ER.load1 rfl rfl rfl (by assumption) ?_))
    refine ER.add (r := W64 (p + 1)) rfl rfl rfl rfl rfl ?_
    refine ER.callP rfl rfl rfl rfl rfl (casC K nx.at_ (D.cell 2 (by omega) (by omega)) nx.al.tb.symm) (fun _ _ _ y => y.along nx.al) ?_
    rintro _ h5 δ5 ⟨γ5, rfl, rfl, nx5, s5⟩
    replace nx := nx.trans K.ok nx5
    clear nx5
    generalize γ5.p.val (B 2) = w at nx ⊢
    by_cases hw : w = p
    · rw [if_pos hw] at nx
      rw [decide_eq_true hw]
      (repeat (first | refine EK.seq ?_ | refine EK.region ?_ | refine ER.done ?_ | refine EK.skip ?_ | refine ER.move rfl rfl rfl ?_ | refine ER.assign rfl rfl rfl ?_ | refine ER.notB rfl rfl rfl ?_ | refine EK.condF rfl ?_ | refine EK.ret ?_))
      exact EU.ret2 rfl rfl rfl ⟨γ5, v, 1, rfl, rfl, nx⟩
    · rw [if_neg hw] at nx
      rw [decide_eq_false hw]
      (repeat (first | refine EK.seq ?_ | refine EK.region ?_ | refine ER.done ?_ | refine ER.assign rfl rfl rfl ?_ | refine ER.notB rfl rfl rfl ?_ | refine EK.condT rfl ?_ | refine EK.ret ?_))
      exact EU.ret2 rfl rfl rfl ⟨γ5, 0, 2, rfl, rfl, nx⟩
set_option maxRecDepth 8000 in
set_option maxHeartbeats 4000000 in
theorem dlen_T (K : CodX X P told (DeqH n cap rest B)) (D : DeqK X n e B) {k : Int → Pr A} (a : AtP X P told i γ u L h (lenD B k)) (ht : t = γ.p.tb i) :
    CallW Try.prog false (SitT Try.prog (PX X) (i + 1)) 45 #[ptr (B 0), ptr t] h ⟨0, γ⟩ (RetP (fun w h' δ' => ∃ (γ' : GG X) (v : Int), δ' = ⟨0, γ'⟩ ∧ w = .int .i64 v ∧ Nxt X P told i γ u L γ' h' (k v)) (Halt X i γ.p)) := by
  subst ht
  have hpos := D.pos
  have s0 := K.mem _ _ a.thr.I
  have ct := s0.top
  refine CallW.start (n := 22) rfl rfl ?_
  (repeat (first | refine EK.seq ?_ | refine EK.region ?_ | refine ER.done ?_ | refine ER.move rfl rfl rfl ?_ | refine ER.assign rfl rfl rfl ?_))
  refine ER.callD rfl rfl rfl rfl rfl (dnone_ok ct) ?_
  (repeat (first | refine EK.seq ?_ | refine EK.region ?_ | refine ER.done ?_ | refine EK.skip ?_ | refine ER.move rfl rfl rfl ?_ | refine ER.nilCheck rfl rfl rfl ?_ | refine ER.fieldAddr rfl rfl rfl ?_ | refine EK.condF rfl ?_ | refine ER.load1 rfl rfl rfl (by assumption) ?_))
  refine ER.callP rfl rfl rfl rfl rfl (loadC K a (D.cell 2 (by omega) (by omega)) rfl) (fun _ _ _ x => x) ?_
  rintro _ h1 δ1 ⟨γ1, rfl, rfl, nx, s1⟩
  generalize γ1.p.val (B 2) = p at nx ⊢
  clear ct
  have cb := s1.bot
  (repeat (first | refine EK.seq ?_ | refine EK.region ?_ | refine ER.done ?_ | refine ER.move rfl rfl rfl ?_ | refine ER.assign rfl rfl rfl ?_ | refine ER.nilCheck rfl rfl rfl ?_ | refine ER.fieldAddr rfl rfl rfl ?_ | refine ER.load1 rfl rfl rfl (by assumption) ?_))
  refine ER.callP rfl rfl rfl rfl rfl (loadC K nx.at_ (D.cell 3 (by omega) (by omega)) nx.al.tb.symm) (fun _ _ _ y => y.along nx.al) ?_
  rintro _ h2 δ2 ⟨γ2, rfl, rfl, nx2, s2⟩
  replace nx := nx.trans K.ok nx2
  generalize γ2.p.val (B 3) = b at nx ⊢
  (repeat refine ER.move rfl rfl rfl ?_)
  refine ER.sub' (r := W64 (b - p)) rfl rfl rfl rfl rfl ?_
  (repeat (first | refine ER.done ?_ | refine ER.assign rfl rfl rfl ?_ | refine EK.ret ?_))
  exact EU.ret1 rfl rfl ⟨γ2, W64 (b - p), rfl, rfl, nx⟩
end
end Go.Proofs.Ytcpcdnkemobneaa
end
section
namespace Go.Proofs.Ytcpcdnkemobneaa
open Go Go.TJ Go.Conc Go.Proofs
def callD (n : Nat) (B : Nat → Nat) (q : GCall) (k : GAns → Pr GAns) : Pr GAns :=
  if q.1 = 0 then pushD n B q.2 (fun e => k (0, false, 0, e)) else if q.1 = 1 then popD n B (fun v is => k (v, is, 0, 0)) else if q.1 = 2 then stealD n B (fun v how => k (v, false, how, 0)) else if q.1 = 3 then lenD B (fun v => k (v, false, 0, 0)) else k (0, false, 0, 0)
theorem callD0 {n : Nat} {B : Nat → Nat} {v : Int} {k : GAns → Pr GAns} : callD n B (0, v) k = pushD n B v (fun e => k (0, false, 0, e)) := if_pos rfl
theorem callD1 {n : Nat} {B : Nat → Nat} {v : Int} {k : GAns → Pr GAns} : callD n B (1, v) k = popD n B (fun v is => k (v, is, 0, 0)) := (if_neg (show ¬ (1 : Int) = 0 by decide)).trans (if_pos rfl)
theorem callD2 {n : Nat} {B : Nat → Nat} {v : Int} {k : GAns → Pr GAns} : callD n B (2, v) k = stealD n B (fun v how => k (v, false, how, 0)) := (if_neg (show ¬ (2 : Int) = 0 by decide)).trans ((if_neg (show ¬ (2 : Int) = 1 by decide)).trans (if_pos rfl))
theorem callD3 {n : Nat} {B : Nat → Nat} {v : Int} {k : GAns → Pr GAns} : callD n B (3, v) k = lenD B (fun v => k (v, false, 0, 0)) := (if_neg (show ¬ (3 : Int) = 0 by decide)).trans ((if_neg (show ¬ (3 : Int) = 1 by decide)).trans ((if_neg (show ¬ (3 : Int) = 2 by decide)).trans (if_pos rfl)))
theorem callD4 {n : Nat} {B : Nat → Nat} {d v : Int} {k : GAns → Pr GAns} (h0 : d ≠ 0) (h1 : d ≠ 1) (h2 : d ≠ 2) (h3 : d ≠ 3) : callD n B (d, v) k = k (0, false, 0, 0) := (if_neg h0).trans ((if_neg h1).trans ((if_neg h2).trans (if_neg h3)))
section
variable {X : Us} {P : Nat → Pr GAns} {told : X.U → Nat → List GAns} {n cap e : Nat} {rest : List Value} {B : Nat → Nat} {i : Nat} {γ γ' : GG X} {u : X.U} {L : List (Nat × Obj)} {h h' : Hp}
theorem CodX.weaken {A : Type} {P : Nat → Pr A} {told : X.U → Nat → List A} {M M' : Hp → Prop} (K : CodX X P told M) (hm : ∀ h, M h → M' h) : CodX X P told M' := ⟨K.ok, K.prog, fun u h I => hm h (K.mem u h I), K.j⟩
set_option maxRecDepth 8000 in
set_option maxHeartbeats 8000000 in
theorem dcall_T {P : Nat → Pr GAns} {told : X.U → Nat → List GAns} (K : CodX X P told (DeqH n cap rest B)) (D : DeqK X n e B) {q : GCall} {k : GAns → Pr GAns} {S0 t : Nat} (hS : ∀ u h, X.I u h → hcell h ⟨S0, 0, none⟩ = some (ptr (B 0))) (a : AtP X P told i γ u L h (callD n B q k)) (ht : t = γ.p.tb i) :
    CallW Try.prog false (SitT Try.prog (PX X) (i + 1)) 35 #[ptr S0, ptr t, .agg (gcallL q).toArray] h ⟨0, γ⟩ (RetP (fun w h' δ' => ∃ (γ' : GG X) (u' : X.U) (e : GAns), δ' = ⟨0, γ'⟩ ∧ w = .agg (gansL e).toArray ∧ CallP X P told i γ u L γ' u' h' (k e)) (Halt X i γ.p)) := by
  subst ht
  obtain ⟨d, v⟩ := q
  obtain ⟨y5, hy5⟩ : ∃ y5, y5 = h.size := ⟨_, rfl⟩
  obtain ⟨y6, hy6⟩ : ∃ y6, y6 = (h.push (.cells (gcallL (d, v)).toArray 87)).size := ⟨_, rfl⟩
  have T1 : Thr X i γ u ((y6, gansO (0, false, 0, 0)) :: (y5, .cells (gcallL (d, v)).toArray 87) :: L) ((h.push (.cells (gcallL (d, v)).toArray 87)).push (gansO (0, false, 0, 0))) := by
    rw [hy5, hy6]
    exact (a.thr.alloc K.ok _).alloc K.ok _
  have a1 : AtP X P told i γ u _ _ _ := ⟨T1, a.res⟩
  refine CallW.start (n := 56) rfl rfl ?_
  have q1 : ((h.push (.cells (gcallL (d, v)).toArray 87)).push (gansO (0, false, 0, 0)))[h.size]? = some (.cells (gcallL (d, v)).toArray 87 (0, 0)) := get_push _ (get_push_new _ _)
  (repeat (first | refine EK.seq ?_ | refine EK.region ?_ | refine ER.done ?_ | refine EK.block ?_ | refine ER.fieldAddr rfl rfl rfl ?_ | refine ER.load1 rfl rfl rfl (hcell_of (by assumption) rfl) ?_ | refine ER.boxA rfl rfl rfl ?_ | refine ER.allocA rfl rfl ?_))
  refine ER.gen (fun h' => AtP X P told i γ u ((y6, gansO (0, false, 0, 0)) :: (y5, .cells (gcallL (d, v)).toArray 87) :: L) h' (callD n B (d, v) k)) a1 ?_
  rw [← hy5, ← hy6]
  have ne : y6 ≠ y5 := by rw [hy6, hy5, Array.size_push]; omega
  have hn : ∀ q, q ∈ (y5, .cells (gcallL (d, v)).toArray 87) :: L → q.1 ≠ y6 := fun q hq => by
    rcases List.mem_cons.1 hq with rfl | hq
    · exact Ne.symm ne
    · have := a.thr.lts q hq
      rw [hy6, Array.size_push]; omega
  clear a a1 T1 q1 hy5 hy6
  intro h1 a
  have hs1 := hS _ _ a.thr.I
  by_cases h0 : d = 0
  · subst h0
    rw [callD0] at a
    (repeat (first | refine ER.done ?_ | refine ER.assign rfl rfl rfl ?_ | refine ER.cmpT rfl rfl rfl rfl rfl (by first | (dsimp only [cmpP]; omega) | exact rfl | exact Int.le_refl _) ?_ | refine EK.condT rfl ?_))
    refine EK.regionAnyL (fun h' => hcell h' ⟨S0, 0, none⟩ = some (ptr (B 0)) ∧ hcell h' ⟨y5, 1, none⟩ = some (.int .i64 v)) 9 ?_
    have hZ : _ ∧ _ := And.intro (hS _ _ a.thr.I) (hcell_of (a.thr.privs.1 (y5, .cells (gcallL (0, v)).toArray 87) (List.mem_cons_of_mem _ List.mem_cons_self)).1 rfl : hcell h1 ⟨y5, 1, none⟩ = some (.int .i64 v))
    refine EA.tMove 0 rfl (by kernel_rfl) rfl rfl rfl rfl hZ ?_
    refine EA.tNil 1 rfl (by kernel_rfl) rfl rfl rfl rfl hZ ?_
    refine EA.tField 2 rfl (by kernel_rfl) rfl rfl rfl rfl hZ ?_
    refine EA.tLoad 3 rfl (by kernel_rfl) rfl rfl rfl rfl (fun _ hz => hz.1) hZ ?_
    refine EA.tMove 4 rfl (by kernel_rfl) rfl rfl rfl rfl hZ ?_
    refine EA.tField 5 rfl (by kernel_rfl) rfl rfl rfl rfl hZ ?_
    refine EA.tLoad 6 rfl (by kernel_rfl) rfl rfl rfl rfl (fun _ hz => hz.2) hZ ?_
    refine eaCallP 7 rfl (by kernel_rfl) rfl rfl rfl rfl rfl rfl (dpush_T K D a rfl) (fun _ _ _ x => x) ?_
    clear hZ
    rintro _ h2 δ2 ⟨γ2, e, rfl, rfl, nx⟩
    have hZ : _ ∧ _ := And.intro (hS _ _ nx.at_.thr.I) (hcell_of (nx.at_.thr.privs.1 (y5, .cells (gcallL (0, v)).toArray 87) (List.mem_cons_of_mem _ List.mem_cons_self)).1 rfl : hcell h2 ⟨y5, 1, none⟩ = some (.int .i64 v))
    refine ⟨hZ, ?_⟩
    have g6 := (nx.at_.thr.privs.1 (y6, gansO (0, false, 0, 0)) List.mem_cons_self).1
    refine EA.tField 8 rfl (by kernel_rfl) rfl rfl rfl rfl hZ ?_
    refine EA.unitL (h' := h2.setIfInBounds y6 (gansO (0, false, 0, e))) 9 rfl (by kernel_rfl) rfl rfl rfl (fun ρ Q X hρ hq => sem_store1 (hρ _ _ rfl) (hρ _ _ rfl) ⟨nofun, nofun⟩ ⟨_, hcell_of g6 rfl⟩ (hfroz_of g6) (nx.at_.thr.free (.inr (.inr (.inl ⟨_, List.mem_cons_self, rfl⟩)))) (by
      have e7 : hset h2 ⟨y6, 3, none⟩ (.int .i64 e) = h2.setIfInBounds y6 (gansO (0, false, 0, e)) := hset_block g6 _
      rw [show (0 : Nat) + 3 = 3 from rfl, e7]; exact hq)) ?_
    refine EA.done (by kernel_rfl) ?_
    have T3 := nx.at_.thr.priv1 (o := gansO (0, false, 0, e)) K.ok hn
    clear hZ g6 hs1
    generalize h2.setIfInBounds y6 (gansO (0, false, 0, e)) = h3 at T3 ⊢
    have g6 := (T3.privs.1 (y6, gansO (0, false, 0, e)) List.mem_cons_self).1
    have T4 := ((T3.priv1 (y := y6) (o := gansO (0, false, 0, e)) K.ok hn).sub K.ok (L' := L) (fun q hq => List.mem_cons_of_mem _ (List.mem_cons_of_mem _ hq)))
    (repeat (first | refine EK.seq ?_ | refine EK.region ?_ | refine EK.inBlock ?_))
    refine ER.loadN (vs := gansL (0, false, 0, e)) rfl rfl rfl rfl (hrow_block (rest := []) (by rw [List.append_nil]; exact g6)) ?_
    refine ER.storeN (vs := gansL (0, false, 0, e)) rfl rfl rfl rfl (by simp [gansL, OneCell]) (fun j hj => ⟨⟨_, hcell_of g6 (by simp only [List.getElem?_toArray]; exact List.getElem?_eq_getElem (by simpa using hj))⟩, hfroz_of g6, T3.free (.inr (.inr (.inl ⟨_, List.mem_cons_self, rfl⟩)))⟩) ?_
    rw [row_set (c := gansL (0, false, 0, e)) (vs := gansL (0, false, 0, e)) g6 rfl]
    (repeat (first | refine ER.done ?_ | refine EK.ret ?_))
    exact EU.retCell1 (vs := gansL (0, false, 0, e)) rfl rfl rfl (hrow_block (rest := []) (by rw [List.append_nil]; exact get_set_same g6)) ⟨γ2, γ2.p.u, (0, false, 0, e), rfl, rfl, ⟨nx.al, ⟨T4, nx.at_.res⟩, nx.V⟩⟩
  by_cases h1' : d = 1
  · subst h1'
    rw [callD1] at a
    (repeat (first | refine EK.seq ?_ | refine EK.region ?_ | refine ER.done ?_ | refine ER.move rfl rfl rfl ?_ | refine ER.assign rfl rfl rfl ?_ | refine ER.nilCheck rfl rfl rfl ?_ | refine ER.fieldAddr rfl rfl rfl ?_ | refine ER.cmpT rfl rfl rfl rfl rfl (by first | (dsimp only [cmpP]; omega) | exact rfl | exact Int.le_refl _) ?_ | refine ER.cmpF rfl rfl rfl rfl rfl (by first | (dsimp only [cmpP]; omega) | exact rfl | exact Int.le_refl _) ?_ | refine EK.condT rfl ?_ | refine EK.condF rfl ?_ | refine ER.load1 rfl rfl rfl (by assumption) ?_))
    refine ER.callP rfl rfl rfl rfl rfl (dpop_T K D a rfl) (fun _ _ _ x => x) ?_
    clear hs1
    rintro _ h2 δ2 ⟨γ2, w, e, rfl, rfl, nx⟩
    have T3 := nx.at_.thr
    have g6 := (T3.privs.1 (y6, gansO (0, false, 0, 0)) List.mem_cons_self).1
    (repeat (first | refine ER.move rfl rfl rfl ?_ | refine ER.fieldAddr rfl rfl rfl ?_ | refine ER.extract rfl rfl rfl rfl ?_))
    have g6 := (T3.privs.1 (y6, gansO (0, false, 0, 0)) List.mem_cons_self).1
    refine ER.store1 rfl rfl rfl ⟨nofun, nofun⟩ ⟨_, hcell_of g6 rfl⟩ (hfroz_of g6) (T3.free (.inr (.inr (.inl ⟨_, List.mem_cons_self, rfl⟩)))) ?_
    have e7 : hset h2 ⟨y6, 0, none⟩ (.int .i64 w) = h2.setIfInBounds y6 (gansO (w, false, 0, 0)) := hset_block g6 _
    have T4 := T3.priv1 (o := gansO (w, false, 0, 0)) K.ok hn
    change ER _ _ _ _ _ _ _ _ _ _ (hset h2 ⟨y6, 0, none⟩ (.int .i64 w)) _ _
    rw [e7]
    clear e7 g6 T3
    generalize h2.setIfInBounds y6 (gansO (w, false, 0, 0)) = h3 at T4 ⊢
    have T3 := T4
    clear T4
    have g6 := (T3.privs.1 (y6, gansO (w, false, 0, 0)) List.mem_cons_self).1
    (repeat refine ER.fieldAddr rfl rfl rfl ?_)
    have g6 := (T3.privs.1 (y6, gansO (w, false, 0, 0)) List.mem_cons_self).1
    refine ER.store1 rfl rfl rfl ⟨nofun, nofun⟩ ⟨_, hcell_of g6 rfl⟩ (hfroz_of g6) (T3.free (.inr (.inr (.inl ⟨_, List.mem_cons_self, rfl⟩)))) ?_
    have e7 : hset h3 ⟨y6, 1, none⟩ (.bool e) = h3.setIfInBounds y6 (gansO (w, e, 0, 0)) := hset_block g6 _
    have T4 := T3.priv1 (o := gansO (w, e, 0, 0)) K.ok hn
    change ER _ _ _ _ _ _ _ _ _ _ (hset h3 ⟨y6, 1, none⟩ (.bool e)) _ _
    rw [e7]
    clear e7 g6 T3
    generalize h3.setIfInBounds y6 (gansO (w, e, 0, 0)) = h4 at T4 ⊢
    have T3 := T4
    clear T4
    have g6 := (T3.privs.1 (y6, gansO (w, e, 0, 0)) List.mem_cons_self).1
    have T4 := ((T3.priv1 (y := y6) (o := gansO (w, e, 0, 0)) K.ok hn).sub K.ok (L' := L) (fun q hq => List.mem_cons_of_mem _ (List.mem_cons_of_mem _ hq)))
    (repeat (first | refine EK.seq ?_ | refine EK.region ?_ | refine ER.done ?_ | refine EK.inBlock ?_))
    refine ER.loadN (vs := gansL (w, e, 0, 0)) rfl rfl rfl rfl (hrow_block (rest := []) (by rw [List.append_nil]; exact g6)) ?_
    refine ER.storeN (vs := gansL (w, e, 0, 0)) rfl rfl rfl rfl (by simp [gansL, OneCell]) (fun j hj => ⟨⟨_, hcell_of g6 (by simp only [List.getElem?_toArray]; exact List.getElem?_eq_getElem (by simpa using hj))⟩, hfroz_of g6, T3.free (.inr (.inr (.inl ⟨_, List.mem_cons_self, rfl⟩)))⟩) ?_
    rw [row_set (c := gansL (w, e, 0, 0)) (vs := gansL (w, e, 0, 0)) g6 rfl]
    (repeat (first | refine ER.done ?_ | refine EK.ret ?_))
    exact EU.retCell1 (vs := gansL (w, e, 0, 0)) rfl rfl rfl (hrow_block (rest := []) (by rw [List.append_nil]; exact get_set_same g6)) ⟨γ2, γ2.p.u, (w, e, 0, 0), rfl, rfl, ⟨nx.al, ⟨T4, nx.at_.res⟩, nx.V⟩⟩
  by_cases h2' : d = 2
  · subst h2'
    rw [callD2] at a
    (repeat (first | refine EK.seq ?_ | refine EK.region ?_ | refine ER.done ?_ | refine ER.move rfl rfl rfl ?_ | refine ER.assign rfl rfl rfl ?_ | refine ER.nilCheck rfl rfl rfl ?_ | refine ER.fieldAddr rfl rfl rfl ?_ | refine ER.cmpT rfl rfl rfl rfl rfl (by first | (dsimp only [cmpP]; omega) | exact rfl | exact Int.le_refl _) ?_ | refine ER.cmpF rfl rfl rfl rfl rfl (by first | (dsimp only [cmpP]; omega) | exact rfl | exact Int.le_refl _) ?_ | refine EK.condT rfl ?_ | refine EK.condF rfl ?_ | refine ER.load1 rfl rfl rfl (by assumption) ?_))
    refine ER.callP rfl rfl rfl rfl rfl (dsteal_T K D a rfl) (fun _ _ _ x => x) ?_
    clear hs1
    rintro _ h2 δ2 ⟨γ2, w, e, rfl, rfl, nx⟩
    have T3 := nx.at_.thr
    have g6 := (T3.privs.1 (y6, gansO (0, false, 0, 0)) List.mem_cons_self).1
    (repeat (first | refine ER.move rfl rfl rfl ?_ | refine ER.fieldAddr rfl rfl rfl ?_ | refine ER.extract rfl rfl rfl rfl ?_))
    have g6 := (T3.privs.1 (y6, gansO (0, false, 0, 0)) List.mem_cons_self).1
    refine ER.store1 rfl rfl rfl ⟨nofun, nofun⟩ ⟨_, hcell_of g6 rfl⟩ (hfroz_of g6) (T3.free (.inr (.inr (.inl ⟨_, List.mem_cons_self, rfl⟩)))) ?_
    have e7 : hset h2 ⟨y6, 0, none⟩ (.int .i64 w) = h2.setIfInBounds y6 (gansO (w, false, 0, 0)) := hset_block g6 _
    have T4 := T3.priv1 (o := gansO (w, false, 0, 0)) K.ok hn
    change ER _ _ _ _ _ _ _ _ _ _ (hset h2 ⟨y6, 0, none⟩ (.int .i64 w)) _ _
    rw [e7]
    clear e7 g6 T3
    generalize h2.setIfInBounds y6 (gansO (w, false, 0, 0)) = h3 at T4 ⊢
    have T3 := T4
    clear T4
    have g6 := (T3.privs.1 (y6, gansO (w, false, 0, 0)) List.mem_cons_self).1
    (repeat refine ER.fieldAddr rfl rfl rfl ?_)
    have g6 := (T3.privs.1 (y6, gansO (w, false, 0, 0)) List.mem_cons_self).1
    refine ER.store1 rfl rfl rfl ⟨nofun, nofun⟩ ⟨_, hcell_of g6 rfl⟩ (hfroz_of g6) (T3.free (.inr (.inr (.inl ⟨_, List.mem_cons_self, rfl⟩)))) ?_
    have e7 : hset h3 ⟨y6, 2, none⟩ (.int .i8 e) = h3.setIfInBounds y6 (gansO (w, false, e, 0)) := hset_block g6 _
    have T4 := T3.priv1 (o := gansO (w, false, e, 0)) K.ok hn
    change ER _ _ _ _ _ _ _ _ _ _ (hset h3 ⟨y6, 2, none⟩ (.int .i8 e)) _ _
    rw [e7]
    clear e7 g6 T3
    generalize h3.setIfInBounds y6 (gansO (w, false, e, 0)) = h4 at T4 ⊢
    have T3 := T4
    clear T4
    have g6 := (T3.privs.1 (y6, gansO (w, false, e, 0)) List.mem_cons_self).1
    have T4 := ((T3.priv1 (y := y6) (o := gansO (w, false, e, 0)) K.ok hn).sub K.ok (L' := L) (fun q hq => List.mem_cons_of_mem _ (List.mem_cons_of_mem _ hq)))
    (repeat (first | refine EK.seq ?_ | refine EK.region ?_ | refine ER.done ?_ | refine EK.inBlock ?_))
    refine ER.loadN (vs := gansL (w, false, e, 0)) rfl rfl rfl rfl (hrow_block (rest := []) (by rw [List.append_nil]; exact g6)) ?_
    refine ER.storeN (vs := gansL (w, false, e, 0)) rfl rfl rfl rfl (by simp [gansL, OneCell]) (fun j hj => ⟨⟨_, hcell_of g6 (by simp only [List.getElem?_toArray]; exact List.getElem?_eq_getElem (by simpa using hj))⟩, hfroz_of g6, T3.free (.inr (.inr (.inl ⟨_, List.mem_cons_self, rfl⟩)))⟩) ?_
    rw [row_set (c := gansL (w, false, e, 0)) (vs := gansL (w, false, e, 0)) g6 rfl]
    (repeat (first | refine ER.done ?_ | refine EK.ret ?_))
    exact EU.retCell1 (vs := gansL (w, false, e, 0)) rfl rfl rfl (hrow_block (rest := []) (by rw [List.append_nil]; exact get_set_same g6)) ⟨γ2, γ2.p.u, (w, false, e, 0), rfl, rfl, ⟨nx.al, ⟨T4, nx.at_.res⟩, nx.V⟩⟩
  by_cases h3' : d = 3
  · subst h3'
    rw [callD3] at a
    have T3 := a.thr
    have g6 := (T3.privs.1 (y6, gansO (0, false, 0, 0)) List.mem_cons_self).1
    clear g6 T3
    (repeat (first | refine EK.seq ?_ | refine EK.region ?_ | refine ER.done ?_ | refine ER.move rfl rfl rfl ?_ | refine ER.assign rfl rfl rfl ?_ | refine ER.nilCheck rfl rfl rfl ?_ | refine ER.fieldAddr rfl rfl rfl ?_ | refine ER.cmpT rfl rfl rfl rfl rfl (by first | (dsimp only [cmpP]; omega) | exact rfl | exact Int.le_refl _) ?_ | refine ER.cmpF rfl rfl rfl rfl rfl (by first | (dsimp only [cmpP]; omega) | exact rfl | exact Int.le_refl _) ?_ | refine EK.condT rfl ?_ | refine EK.condF rfl ?_ | refine ER.load1 rfl rfl rfl (by assumption) ?_))
    refine ER.callP rfl rfl rfl rfl rfl (dlen_T K D a rfl) (fun _ _ _ x => x) ?_
    clear hs1
    rintro _ h2 δ2 ⟨γ2, w, rfl, rfl, nx⟩
    have T3 := nx.at_.thr
    have g6 := (T3.privs.1 (y6, gansO (0, false, 0, 0)) List.mem_cons_self).1
    (repeat refine ER.fieldAddr rfl rfl rfl ?_)
    have g6 := (T3.privs.1 (y6, gansO (0, false, 0, 0)) List.mem_cons_self).1
    refine ER.store1 rfl rfl rfl ⟨nofun, nofun⟩ ⟨_, hcell_of g6 rfl⟩ (hfroz_of g6) (T3.free (.inr (.inr (.inl ⟨_, List.mem_cons_self, rfl⟩)))) ?_
    have e7 : hset h2 ⟨y6, 0, none⟩ (.int .i64 w) = h2.setIfInBounds y6 (gansO (w, false, 0, 0)) := hset_block g6 _
    have T4 := T3.priv1 (o := gansO (w, false, 0, 0)) K.ok hn
    change ER _ _ _ _ _ _ _ _ _ _ (hset h2 ⟨y6, 0, none⟩ (.int .i64 w)) _ _
    rw [e7]
    clear e7 g6 T3
    generalize h2.setIfInBounds y6 (gansO (w, false, 0, 0)) = h3 at T4 ⊢
    have T3 := T4
    clear T4
    have g6 := (T3.privs.1 (y6, gansO (w, false, 0, 0)) List.mem_cons_self).1
    have T4 := ((T3.priv1 (y := y6) (o := gansO (w, false, 0, 0)) K.ok hn).sub K.ok (L' := L) (fun q hq => List.mem_cons_of_mem _ (List.mem_cons_of_mem _ hq)))
    (repeat (first | refine EK.seq ?_ | refine EK.region ?_ | refine ER.done ?_ | refine EK.inBlock ?_))
    refine ER.loadN (vs := gansL (w, false, 0, 0)) rfl rfl rfl rfl (hrow_block (rest := []) (by rw [List.append_nil]; exact g6)) ?_
    refine ER.storeN (vs := gansL (w, false, 0, 0)) rfl rfl rfl rfl (by simp [gansL, OneCell]) (fun j hj => ⟨⟨_, hcell_of g6 (by simp only [List.getElem?_toArray]; exact List.getElem?_eq_getElem (by simpa using hj))⟩, hfroz_of g6, T3.free (.inr (.inr (.inl ⟨_, List.mem_cons_self, rfl⟩)))⟩) ?_
    rw [row_set (c := gansL (w, false, 0, 0)) (vs := gansL (w, false, 0, 0)) g6 rfl]
    (repeat (first | refine ER.done ?_ | refine EK.ret ?_))
    exact EU.retCell1 (vs := gansL (w, false, 0, 0)) rfl rfl rfl (hrow_block (rest := []) (by rw [List.append_nil]; exact get_set_same g6)) ⟨γ2, γ2.p.u, (w, false, 0, 0), rfl, rfl, ⟨nx.al, ⟨T4, nx.at_.res⟩, nx.V⟩⟩
  · rw [callD4 h0 h1' h2' h3'] at a
    have h2 := h1
    have T3 : Thr X i γ u ((y6, gansO (0, false, 0, 0)) :: (y5, .cells (gcallL (d, v)).toArray 87) :: L) h1 := a.thr
    have g6 := (T3.privs.1 (y6, gansO (0, false, 0, 0)) List.mem_cons_self).1
    have T4 := ((T3.priv1 (y := y6) (o := gansO (0, false, 0, 0)) K.ok hn).sub K.ok (L' := L) (fun q hq => List.mem_cons_of_mem _ (List.mem_cons_of_mem _ hq)))
    (repeat (first | refine EK.seq ?_ | refine EK.region ?_ | refine ER.done ?_ | refine EK.skip ?_ | refine EK.inBlock ?_ | refine ER.assign rfl rfl rfl ?_ | refine ER.cmpF rfl rfl rfl rfl rfl (by first | (dsimp only [cmpP]; omega) | exact rfl | exact Int.le_refl _) ?_ | refine EK.condF rfl ?_))
    refine ER.loadN (vs := gansL (0, false, 0, 0)) rfl rfl rfl rfl (hrow_block (rest := []) (by rw [List.append_nil]; exact g6)) ?_
    refine ER.storeN (vs := gansL (0, false, 0, 0)) rfl rfl rfl rfl (by simp [gansL, OneCell]) (fun j hj => ⟨⟨_, hcell_of g6 (by simp only [List.getElem?_toArray]; exact List.getElem?_eq_getElem (by simpa using hj))⟩, hfroz_of g6, T3.free (.inr (.inr (.inl ⟨_, List.mem_cons_self, rfl⟩)))⟩) ?_
    rw [row_set (c := gansL (0, false, 0, 0)) (vs := gansL (0, false, 0, 0)) g6 rfl]
    (repeat (first | refine ER.done ?_ | refine EK.ret ?_))
    exact EU.retCell1 (vs := gansL (0, false, 0, 0)) rfl rfl rfl (hrow_block (rest := []) (by rw [List.append_nil]; exact get_set_same g6)) ⟨γ, u, (0, false, 0, 0), rfl, rfl, ⟨Along.refl _ _, ⟨T4, a.res⟩, K.ok.vrefl _ _⟩⟩
end
end Go.Proofs.Ytcpcdnkemobneaa
end
section
namespace Go.Proofs.Ytcpcdnkemobneaa
open Go Go.TJ Go.Proofs
end Go.Proofs.Ytcpcdnkemobneaa
end
section
namespace Go.Proofs.Ytcpcdnkemobneaa
open Go Go.TJ Go.Conc Go.Proofs
section
variable {Γ : Type} {main : Bool} {S : Sit Γ} {δ : Ix Γ}
set_option maxRecDepth 8000 in
set_option maxHeartbeats 4000000 in
theorem gworks_ok {h : Hp} : CallW Try.prog main NoS 31 #[] h δ (Ret fun w h' δ' => w = .bool true ∧ Upd (fun _ => False) h h' ∧ δ' = δ) := by
  refine CallW.start (n := 71) rfl rfl ?_
  (repeat (first | refine EK.seq ?_ | refine EK.region ?_ | refine ER.done ?_ | refine ER.assign rfl rfl rfl ?_))
  refine ER.callR rfl rfl rfl rfl rfl (deqnew_ok (n := 2) (e := 1) (f := 9223372036854775807) rfl (by omega) (by omega) (fun _ _ _ x => x)) ?_
  rintro _ h1 δ1 ⟨rfl, u1, cap, rest, B, rfl, r1, ab⟩
  have own : ∀ b, (∃ k, k < 4 + 2 ∧ b = B k) → h.size ≤ b := fun b ⟨k, hk, e⟩ => e ▸ ab k hk
  have df : DFree NoS δ1.g 2 B := fun _ _ _ x => x
  have wT : W64 9223372036854775807 = 9223372036854775807 := by decide
  have sl0 : slot 2 9223372036854775807 = 1 := by decide
  have sl1 : slot 2 9223372036854775808 = 0 := by decide
  generalize hv : (fun k => if k < 4 then (9223372036854775807 : Int) else 0) = v at r1
  have a2 : v 2 = W64 9223372036854775807 := by rw [← hv, wT]; rfl
  have a3 : v 3 = W64 (9223372036854775807 + ((0 : Nat) : Int)) := by rw [← hv]; exact wT.symm
  clear hv
  (repeat (first | refine EK.seq ?_ | refine EK.region ?_ | refine ER.done ?_ | refine ER.move rfl rfl rfl ?_ | refine ER.assign rfl rfl rfl ?_ | refine ER.eqV rfl rfl rfl rfl rfl ?_ | refine ER.pickF rfl rfl rfl rfl ?_ | refine ER.extract rfl rfl rfl rfl ?_ | refine ER.cmpF rfl rfl rfl rfl rfl (by first | (dsimp only [cmpP]; omega) | exact rfl | exact Int.le_refl _) ?_))
  refine ER.callR rfl rfl rfl rfl rfl (dpush_ok (e := 1) (c := 0) (T := 9223372036854775807) (x := 7) r1 rfl (by omega) a2 a3 (by omega) df) ?_
  rintro _ h2 δ2 ⟨rfl, rfl, r2, u2⟩
  replace u1 := u1.over u2 own
  rw [show (9223372036854775807 + ((0 : Nat) : Int)) = 9223372036854775807 by omega, sl0, show (9223372036854775807 + 1 : Int) = 9223372036854775808 by omega] at r2
  have b2 : ut (ut v (4 + 1) 7) 3 (W64 9223372036854775808) 2 = W64 9223372036854775807 := by rw [ut_ne _ _ (by omega), ut_ne _ _ (by omega), a2]
  have b3 : ut (ut v (4 + 1) 7) 3 (W64 9223372036854775808) 3 = W64 (9223372036854775807 + ((1 : Nat) : Int)) := by rw [ut_same]; rfl
  have b5 : ut (ut v (4 + 1) 7) 3 (W64 9223372036854775808) 5 = 7 := by rw [ut_ne _ _ (by omega)]; exact ut_same _ _ _
  clear a2 a3 u2 r1
  generalize ut (ut v (4 + 1) 7) 3 (W64 9223372036854775808) = v2 at r2 b2 b3 b5
  (repeat (first | refine ER.move rfl rfl rfl ?_ | refine ER.pickF rfl rfl rfl rfl ?_ | refine ER.cmpF rfl rfl rfl rfl rfl (by first | (dsimp only [cmpP]; omega) | exact rfl | exact Int.le_refl _) ?_))
  refine ER.callR rfl rfl rfl rfl rfl (dpush_ok (e := 1) (c := 1) (T := 9223372036854775807) (x := 8) r2 rfl (by omega) b2 b3 (by omega) df) ?_
  rintro _ h3 δ3 ⟨rfl, rfl, r3, u3⟩
  replace u1 := u1.over u3 own
  rw [show (9223372036854775807 + ((1 : Nat) : Int)) = 9223372036854775808 by omega, sl1, show (9223372036854775808 + 1 : Int) = 9223372036854775809 by omega] at r3
  have c2 : ut (ut v2 (4 + 0) 8) 3 (W64 9223372036854775809) 2 = W64 9223372036854775807 := by rw [ut_ne _ _ (by omega), ut_ne _ _ (by omega), b2]
  have c3 : ut (ut v2 (4 + 0) 8) 3 (W64 9223372036854775809) 3 = W64 (9223372036854775807 + ((2 : Nat) : Int)) := by rw [ut_same]; rfl
  have c4 : ut (ut v2 (4 + 0) 8) 3 (W64 9223372036854775809) 4 = 8 := by rw [ut_ne _ _ (by omega)]; exact ut_same _ _ _
  have c5 : ut (ut v2 (4 + 0) 8) 3 (W64 9223372036854775809) 5 = 7 := by rw [ut_ne _ _ (by omega), ut_ne _ _ (by omega), b5]
  clear b2 b3 b5 u3 r2
  generalize ut (ut v2 (4 + 0) 8) 3 (W64 9223372036854775809) = v3 at r3 c2 c3 c4 c5
  (repeat (first | refine ER.move rfl rfl rfl ?_ | refine ER.pickF rfl rfl rfl rfl ?_ | refine ER.cmpF rfl rfl rfl rfl rfl (by first | (dsimp only [cmpP]; omega) | exact rfl | exact Int.le_refl _) ?_))
  refine ER.callD rfl rfl rfl rfl rfl (dpush_full (e := 1) (c := 2) (T := 9223372036854775807) r3 rfl (by omega) c2 c3 (by omega) (by omega)) ?_
  (repeat (first | refine ER.move rfl rfl rfl ?_ | refine ER.pickF rfl rfl rfl rfl ?_ | refine ER.cmpF rfl rfl rfl rfl rfl (by first | (dsimp only [cmpP]; omega) | exact rfl | exact Int.le_refl _) ?_))
  refine ER.callD rfl rfl rfl rfl rfl (dlen_ok (c := 2) (T := 9223372036854775807) r3 c2 c3 (by omega)) ?_
  (repeat (first | refine EK.seq ?_ | refine EK.region ?_ | refine ER.done ?_ | refine EK.skip ?_ | refine ER.move rfl rfl rfl ?_ | refine ER.pickF rfl rfl rfl rfl ?_ | refine ER.cmpF rfl rfl rfl rfl rfl (by first | (dsimp only [cmpP]; omega) | exact rfl | exact Int.le_refl _) ?_ | refine EK.condF rfl ?_))
  refine ER.callR rfl rfl rfl rfl rfl (dsteal_ok (e := 1) (c := 2) (T := 9223372036854775807) (x := 7) r3 rfl (by omega) c2 c3 (by omega) (by omega) (by rw [sl0]; exact c5) df) ?_
  rintro _ h4 δ4 ⟨rfl, rfl, r4, u4⟩
  replace u1 := u1.over u4 own
  rw [show (9223372036854775807 + 1 : Int) = 9223372036854775808 by omega] at r4
  (repeat (first | refine EK.seq ?_ | refine EK.region ?_ | refine ER.done ?_ | refine ER.move rfl rfl rfl ?_ | refine ER.assign rfl rfl rfl ?_ | refine ER.extract rfl rfl rfl rfl ?_))
  refine ER.callR rfl rfl rfl rfl rfl (dpop_one (e := 1) (T := 9223372036854775808) (x := 8) r4 rfl (by omega) (ut_same _ _ _) (by rw [ut_ne _ _ (by omega), c3]; rfl) (by rw [sl1, ut_ne _ _ (by omega)]; exact c4) df) ?_
  rintro _ h5 δ5 ⟨rfl, rfl, ⟨v5, e2, e3, r5⟩, u5⟩
  replace u1 := u1.over u5 own
  (repeat (first | refine EK.seq ?_ | refine EK.region ?_ | refine ER.done ?_ | refine ER.move rfl rfl rfl ?_ | refine ER.assign rfl rfl rfl ?_ | refine ER.extract rfl rfl rfl rfl ?_))
  refine ER.callR rfl rfl rfl rfl rfl (dpop_empty r5 e2 e3 df) ?_
  rintro _ h6 δ6 ⟨rfl, rfl, u6⟩
  replace u1 := u1.over u6 own
  (repeat (first | refine EK.seq ?_ | refine EK.region ?_ | refine ER.done ?_ | refine ER.move rfl rfl rfl ?_ | refine ER.assign rfl rfl rfl ?_ | refine ER.notB rfl rfl rfl ?_ | refine ER.pickT rfl rfl rfl rfl ?_ | refine ER.extract rfl rfl rfl rfl ?_ | refine ER.cmpT rfl rfl rfl rfl rfl (by first | (dsimp only [cmpP]; omega) | exact rfl | exact Int.le_refl _) ?_ | refine EK.ret ?_))
  exact EU.ret1 rfl rfl ⟨rfl, u1, rfl⟩
end
end Go.Proofs.Ytcpcdnkemobneaa
end
section
namespace Go.Proofs.Ytcpcdnkemobneaa
open Go Go.TJ Go.Conc Go.Proofs
section
variable {Γ : Type} {P : Program} {main : Bool} {S : Sit Γ} {f : FuncId} {n : Nat} {k : List Item} {env : Env} {ds : List Deferred} {h : Hp} {δ : Ix Γ} {R : Post Γ}
variable {ops : Array Oper} {l : List Oper} {d : Nat} {ty : TypeId} {pos : String} {af : Array Edge} {g : Option (Nat × Bool)}
theorem sem_appendNil {t e by_ : Nat} {z : Value} [hinf : Inf P e 1 by_ z] [hu : Und P t (.slice e)] {x : Value} {vs : List Value} {Q : Value → Hp → Ix Γ → Prop} {X : Value → Hp → Ix Γ → Prop}
    (hx : RdS h x vs) (hfit : vs.length * by_ ≤ 140737488355328) (hm : vs.length < 1000000000000) (hz : z.cells.size = 1)
    (hq : ∀ s' h', SliceO h' s' e 1 vs.length vs → Upd (fun _ => False) h h' → (∀ b, blk s' = some b → b = h.size) → Q s' h' δ) :
    SemW P S (Builtin.append_ #[t, t] ty #[.slice none 0 0, x]) h δ Q X := by
  obtain ⟨a, c', rfl⟩ := hx.val
  obtain ⟨inf, hi1, hi2, hi3, hi4⟩ := hinf.get
  have hfirst : ∀ {Q' : Array Value → Hp → Ix Γ → Prop}, Q' vs.toArray h δ → SemW P S (Builtin.firstCells 1 vs.length (.slice a vs.length c')) h δ Q' X := fun {Q'} hq' => by
    cases hv : vs with
    | nil =>
      subst hv
      cases a with
      | none => exact hq'
      | some a => exact hq'
    | cons v0 vt =>
      obtain ⟨b, o, k, e1, -⟩ := hx.cell 0 v0 (by rw [hv]; rfl)
      injection e1 with e1
      subst e1
      rw [← hv]
      show SemW P S (loadCells ⟨b, o, none⟩ (vs.length * 1)) h δ Q' X
      rw [Nat.mul_one]
      refine semW_loadCellsFrom vs 0 #[] (fun j v hj => ?_) (by simpa using hq')
      obtain ⟨b', o', k', e2, hc⟩ := hx.cell j v hj
      injection e2 with e2
      injection e2 with e2
      injection e2 with e2 e3
      subst e2 e3
      simpa using hc
  have hout := hu.out
  unfold Builtin.append_
  show SemW P S (underlying t >>= _) h δ Q X
  refine semW_underlying hout ?_
  show SemW P S (sizeOf e >>= _) h δ Q X
  refine semW_sizeOf hi1 ?_
  rw [hi2]
  show SemW P S (underlying t >>= _) h δ Q X
  refine semW_underlying hout ?_
  refine semW_pureBind ?_
  show SemW P S (pure vs.length >>= _) h δ Q X
  refine semW_pureBind ?_
  simp only []
  by_cases hle : 0 + vs.length ≤ 0
  · rw [if_pos hle]
    have hv : vs = [] := List.length_eq_zero_iff.1 (by omega)
    show SemW P S (Builtin.firstCells 1 vs.length (.slice a vs.length c') >>= _) h δ Q X
    refine semW_bind _ _ _ _ _ _ (hfirst ?_)
    refine semW_pure (Q := _) ?_
    subst hv
    exact hq _ _ SliceO.nil (Upd.refl _ _) (fun b hb => by cases hb)
  · rw [if_neg hle]
    have hmax : IntKind.i64.max = 9223372036854775807 := by decide
    refine semW_typeInfo hi1 ?_
    rw [if_neg (by rw [hmax]; omega)]
    refine semW_typeInfo hi1 ?_
    rw [if_neg (by rw [hi3]; have := growslice_fits (need := 0 + vs.length) (old := 0) (bytes := by_) (by omega) (by rw [Nat.zero_add]; exact hfit); omega)]
    refine semW_bind _ _ _ _ _ _ ?_
    intro newCap hcut
    have hge : vs.length ≤ newCap := by
      rcases hcut with ⟨h1, h2⟩ | ⟨h1, t', h2⟩
      · cases h1
      · rw [h2]; exact Nat.le_trans (Nat.le_of_eq (Nat.zero_add _).symm) (Nat.le_add_right _ _)
    refine semW_pure (Q := _) ?_
    refine semW_typeInfo hi1 ?_
    have hroom : ∀ {Q' : Unit → Hp → Ix Γ → Prop}, Q' () h δ → SemW P S (askRoom (newCap * inf.bytes)) h δ Q' X := fun {Q'} hq' => by
      unfold askRoom
      split
      · exact ⟨nofun, nofun, hq'⟩
      · exact hq'
    refine semW_bind _ _ _ _ _ _ (hroom ?_)
    show SemW P S (Builtin.firstCells 1 0 (.slice none 0 0) >>= _) h δ Q X
    refine semW_pureBind ?_
    show SemW P S (Builtin.firstCells 1 vs.length (.slice a vs.length c') >>= _) h δ Q X
    refine semW_bind _ _ _ _ _ _ (hfirst ?_)
    refine semW_zeroValue hi1 hi4 ?_
    refine ⟨thawed, ?_⟩
    refine semW_pure (Q := _) ?_
    have hzc : (Builtin.zeroCells z.cells (newCap - (0 + vs.length))).toList.length = (newCap - vs.length) * 1 := by simp [Builtin.zeroCells, hz]
    rw [Nat.zero_add] at *
    refine hq _ _ ⟨by omega, .inr ⟨h.size, newCap, (Builtin.zeroCells z.cells (newCap - vs.length)).toList, rfl, hge, hzc, ?_⟩⟩ (Upd.push _ _) (fun b hb => by cases hb; rfl)
    rw [get_push_new]
    congr 2
    simp
theorem ER.appendNil {t e by_ : Nat} {z : Value} [Inf P e 1 by_ z] [Und P t (.slice e)] {x y : Operand} {s : Value} {vs : List Value}
    (hw : wantE ops env g = some true) (hd : Nat.blt d n = true) (hx : ev env x = some (.slice none 0 0)) (hy : ev env y = some s)
    (hs : RdS h s vs) (hfit : vs.length * by_ ≤ 140737488355328) (hm : vs.length < 1000000000000) (hz : z.cells.size = 1)
    (hn : ∀ s' h', SliceO h' s' e 1 vs.length vs → Upd (fun _ => False) h h' → (∀ b, blk s' = some b → b = h.size) → ER P main S f n ops l k ((d, s') :: env) ds h' δ R) :
    ER P main S f n ops (⟨some d, .call { callee := .builtin .append, args := #[x, y], argTypes := #[t, t] }, ty, pos, af, g⟩ :: l) k env ds h δ R := by
  refine ER.val (Q := fun s' h' δ' => δ' = δ ∧ SliceO h' s' e 1 vs.length vs ∧ Upd (fun _ => False) h h' ∧ (∀ b, blk s' = some b → b = h.size)) hw hd (fun ρ hρ => sem_builtin (vs := #[.slice none 0 0, s]) (by simp [hρ x _ hx, hρ y _ hy]) fun cs => ?_) ?_
  · show SemW P S (Builtin.append_ #[t, t] ty #[.slice none 0 0, s] >>= fun v => pure (Next.value v)) h δ _ _
    exact semW_bind _ _ _ _ _ _ (sem_appendNil hs hfit hm hz (fun s' h' h1 h2 h3 => ⟨s', rfl, rfl, h1, h2, h3⟩))
  · rintro s' h' δ' ⟨rfl, h1, h2, h3⟩
    exact hn s' h' h1 h2 h3
end
end Go.Proofs.Ytcpcdnkemobneaa
end
section
namespace Go.Proofs.Ytcpcdnkemobneaa
open Go Go.TJ Go.Conc Go.Proofs
def csD (n k : Nat) : Prop := 2 ≤ k ∧ k < 4 + n
def v1D (fr : Int) (k : Nat) : Int := if k < 4 then fr else 0
theorem deq_tg {n cap : Nat} {rest : List Value} {B : Nat → Nat} {fr : Int} : Thg (deqM n cap rest B (v1D fr)) (csD n) (v1D fr) := by
  refine ⟨fun k hk => hk.2, fun k hk => ?_, fun k hk hn => ?_⟩
  · obtain ⟨h2, -⟩ := hk
    show (if k = 0 then _ else if k = 1 then _ else cellO (v1D fr k)) = _
    rw [if_neg (by omega), if_neg (by omega)]
  · have hk' : k < 4 + n := hk
    have : k = 0 ∨ k = 1 := by
      rcases Nat.lt_or_ge k 2 with y | y
      · omega
      · exact absurd ⟨y, hk'⟩ hn
    rcases this with rfl | rfl
    · exact ⟨_, _, rfl, by decide, by decide, by decide⟩
    · exact ⟨_, _, rfl, by decide, by decide, by decide⟩
theorem deq_th {n cap : Nat} {rest : List Value} {B : Nat → Nat} {h : Hp} {v : Nat → Int} (m : thH (deqM n cap rest B v) (csD n) h) : DeqH n cap rest B h :=
  ⟨m 0 (show 0 < 4 + n by omega) (fun x => by have := x.1; omega), m 1 (show 1 < 4 + n by omega) (fun x => by have := x.1; omega)⟩
section
variable {Γ : Type} {main : Bool} {S : Sit Γ} {δ : Ix Γ} {h h' : Hp} {base : Nat} {scv pv : Value} {sc : List (List GCall)} {N fr bs : Int}
theorem pow_le_12 {e : Nat} : 2 ^ e ≤ 4096 ↔ e ≤ 12 := by
  rw [show 4096 = 2 ^ 12 by decide]; exact Nat.pow_le_pow_iff_right (by decide)
set_option maxRecDepth 8000 in
set_option maxHeartbeats 4000000 in
theorem may_ok : CallW Try.prog main S 98 #[.int .i64 N] h δ (Ret fun v h' δ' => h' = h ∧ δ' = δ ∧ ∃ b, v = .bool b ∧ (b = true ↔ ∃ e : Nat, 1 ≤ e ∧ e ≤ 12 ∧ N = ((2 ^ e : Nat) : Int))) := by
  refine CallW.start (n := 11) rfl rfl ?_
  (repeat (first | refine EK.seq ?_ | refine EK.region ?_ | refine ER.done ?_ | refine EK.block ?_ | refine ER.assign rfl rfl rfl ?_))
  refine EK.loopInv (fun k : Nat => [(3, .int .i64 k), (2, .bool false), (0, .int .i64 N)]) (fun k h' δ' => h' = h ∧ δ' = δ ∧ ∃ e : Nat, 1 ≤ e ∧ e ≤ 13 ∧ k = 2 ^ e ∧ ∀ e' : Nat, 1 ≤ e' → e' < e → N ≠ ((2 ^ e' : Nat) : Int)) (fun k => 8192 - k) 2 ⟨rfl, rfl, rfl, trivial⟩ ⟨rfl, rfl, 1, by omega, by omega, rfl, fun e' h1 h2 => by omega⟩ ?_
  rintro k h1 δ1 ⟨rfl, rfl, e, e1, e2, rfl, hno⟩ again
  by_cases hk : 2 ^ e ≤ 4096
  · have e12 := pow_le_12.1 hk
    by_cases hN : ((2 ^ e : Nat) : Int) = N
    · subst hN
      generalize hg : 2 ^ e = g at hk again
      (repeat (first | refine EK.seq ?_ | refine EK.region ?_ | refine ER.done ?_ | refine EK.skip ?_ | refine EK.block ?_ | refine ER.move rfl rfl rfl ?_ | refine ER.assign rfl rfl rfl ?_ | refine ER.cmpT rfl rfl rfl rfl rfl (by first | (dsimp only [cmpP]; omega) | exact rfl | exact Int.le_refl _) ?_ | refine EK.condT rfl ?_ | refine EK.ret ?_))
      exact EU.ret1 rfl rfl ⟨rfl, rfl, true, rfl, fun _ => ⟨e, e1, e12, by rw [hg]⟩, fun _ => rfl⟩
    · have hp : 0 < 2 ^ e := Nat.two_pow_pos e
      have h2 : 2 * 2 ^ e = 2 ^ (e + 1) := by rw [Nat.pow_succ]; omega
      generalize hg : 2 ^ e = g at hk again hN hp h2
      (repeat (first | refine EK.seq ?_ | refine EK.region ?_ | refine ER.done ?_ | refine EK.skip ?_ | refine EK.block ?_ | refine EK.inBlock ?_ | refine ER.move rfl rfl rfl ?_ | refine ER.assign rfl rfl rfl ?_ | refine ER.cmpT rfl rfl rfl rfl rfl (by first | (dsimp only [cmpP]; omega) | exact rfl | exact Int.le_refl _) ?_ | refine ER.cmpF rfl rfl rfl rfl rfl (by first | (dsimp only [cmpP]; omega) | exact rfl | exact Int.le_refl _) ?_ | refine ER.mul (kd := .i64) rfl rfl rfl rfl (i64_in (by omega) (by omega)) ?_ | refine EK.condT rfl ?_ | refine EK.condF rfl ?_))
      rw [show (2 * (g : Int)) = ((2 * g : Nat) : Int) by omega]
      refine EK.back (again (2 * g) _ _ (by omega) ⟨rfl, rfl, e + 1, by omega, by omega, h2, fun e' q1 q2 => ?_⟩) ⟨rfl, rfl, rfl, trivial⟩
      by_cases q : e' = e
      · rw [q, hg]; exact fun x => hN x.symm
      · exact hno e' q1 (by omega)
  · have e12 : ¬ e ≤ 12 := fun x => hk (pow_le_12.2 x)
    generalize hg : 2 ^ e = g at hk again
    (repeat (first | refine EK.seq ?_ | refine EK.region ?_ | refine ER.done ?_ | refine ER.move rfl rfl rfl ?_ | refine ER.assign rfl rfl rfl ?_ | refine ER.cmpF rfl rfl rfl rfl rfl (by first | (dsimp only [cmpP]; omega) | exact rfl | exact Int.le_refl _) ?_ | refine EK.condF rfl ?_ | refine EK.ret ?_ | refine EK.exit rfl ?_))
    exact EU.ret1 rfl rfl ⟨rfl, rfl, false, rfl, fun x => (by cases x), fun ⟨e', q1, q2, q3⟩ => absurd q3 (hno e' q1 (by omega))⟩
set_option maxRecDepth 8000 in
set_option maxHeartbeats 8000000 in
theorem glong_ok {vp : List Value} (hs : ScrM base h scv sc) (hp : RdS h pv vp) (hpl : vp.length ≤ 1000000000000000) :
    CallW Try.prog main S 32 #[.agg #[.int .i64 N, .int .i64 fr, .int .i64 bs, scv, pv]] h δ (Ret fun v h' δ' => δ' = δ ∧ Upd (fun _ => False) h h' ∧ ∃ b, v = .bool b ∧ (b = false → sc.length ≤ 8 ∧ (∀ l, l ∈ sc → l.length ≤ 400) ∧ vp.length ≤ 2000 ∧ ∃ n e : Nat, N = n ∧ n = 2 ^ e ∧ 1 ≤ e ∧ e ≤ 8)) := by
  obtain ⟨aS, kS, eS⟩ := hs.val
  obtain ⟨aP, kP, eP⟩ := hp.val
  subst eS eP
  have big1 := hs.big.1
  obtain ⟨y, hy⟩ : ∃ y, y = h.size := ⟨_, rfl⟩
  refine CallW.start (n := 52) rfl rfl ?_
  (repeat (first | refine EK.seq ?_ | refine EK.region ?_ | refine ER.done ?_ | refine EK.block ?_ | refine ER.assign rfl rfl rfl ?_ | refine ER.boxA rfl rfl rfl ?_))
  refine EK.gen (fun h' => ScrM base h' (.slice aS sc.length kS) sc ∧ Upd (fun _ => False) h h' ∧ h'[y]? = some (.cells #[.int .i64 N, .int .i64 fr, .int .i64 bs, .slice aS sc.length kS, .slice aP vp.length kP] 80 (0, 0))) ⟨?_, Upd.push _ _, by rw [hy]; exact get_push_new _ _⟩ ?_
  · refine ⟨hs.val, hs.big, fun i l hl => ?_⟩
    obtain ⟨b, o, k, a', k', e1, e2, e3, e4⟩ := hs.row i l hl
    refine ⟨b, o, k, a', k', e1, e2, hcell_push e3, fun j q hq => ?_⟩
    obtain ⟨b', o', f1, f2, f3⟩ := e4 j q hq
    exact ⟨b', o', f1, f2, fun j v hv => hcell_push (f3 j v hv)⟩
  rw [← hy]
  clear hs hp hy
  rintro h1 ⟨hs, uu, gy⟩
  have y1 : hcell h1 ⟨y, 3, none⟩ = some (.slice aS sc.length kS) := hcell_of gy rfl
  refine EK.loopInv (fun q : Nat × Nat => [(4, .int .i64 q.1), (3, .int .i64 q.2), (1, ptr y)]) (fun q h' δ' => δ' = δ ∧ h' = h1 ∧ q.1 ≤ sc.length ∧ q.2 ≤ 2000000000000000 ∧ ∀ j l, j < q.1 → sc[j]? = some l → l.length ≤ q.2) (fun q => sc.length - q.1) (0, 0) ⟨rfl, rfl, rfl, trivial⟩ ⟨rfl, rfl, Nat.zero_le _, by omega, fun j l hj => by omega⟩ ?_
  rintro ⟨i, m⟩ h2 δ2 ⟨rfl, rfl, hi, hm, hno⟩ again
  dsimp only at hi hm hno again ⊢
  by_cases hin : i < sc.length
  · by_cases hm4 : m ≤ 400
    · obtain ⟨l, hl⟩ : ∃ l, sc[i]? = some l := ⟨_, List.getElem?_eq_getElem hin⟩
      obtain ⟨b, o, k, a', k', e1, e2, e3, e4⟩ := hs.row i l hl
      injection e1 with e1
      subst e1
      have hlb := hs.big.2 l (List.mem_of_getElem? hl)
      (repeat (first | refine EK.seq ?_ | refine EK.region ?_ | refine ER.done ?_ | refine EK.skip ?_ | refine EK.block ?_ | refine EK.inBlock ?_ | refine ER.move rfl rfl rfl ?_ | refine ER.assign rfl rfl rfl ?_ | refine ER.fieldAddr rfl rfl rfl ?_ | refine ER.load1 rfl rfl rfl (hcell_of (by assumption) rfl) ?_ | refine ER.pickT rfl rfl rfl rfl ?_ | refine ER.cmpT rfl rfl rfl rfl rfl (by first | (dsimp only [cmpP]; omega) | exact rfl | exact Int.le_refl _) ?_ | refine ER.add (kd := .i64) rfl rfl rfl rfl (i64_in (by omega) (by omega)) ?_ | refine ER.len1 rfl rfl rfl ?_ | refine ER.indexSl rfl rfl rfl rfl (by omega) (by omega) ?_ | refine EK.condT rfl ?_ | refine ER.load1 rfl rfl rfl (by assumption) ?_))
      exact EK.back (again (i + 1, m + 1 + l.length) _ _ (by dsimp only; omega) ⟨rfl, rfl, by dsimp only; omega, by dsimp only; omega, fun j l' hj hl' => by
        dsimp only at hj ⊢
        by_cases e : j = i
        · subst e; rw [hl] at hl'; cases hl'; omega
        · have := hno j l' (by omega) hl'; omega⟩) ⟨rfl, rfl, rfl, trivial⟩
    · have y2 : hcell h2 ⟨y, 4, none⟩ = some (.slice aP vp.length kP) := hcell_of gy rfl
      (repeat (first | refine EK.seq ?_ | refine EK.region ?_ | refine ER.done ?_ | refine ER.move rfl rfl rfl ?_ | refine ER.assign rfl rfl rfl ?_ | refine ER.fieldAddr rfl rfl rfl ?_ | refine ER.load1 rfl rfl rfl (hcell_of (by assumption) rfl) ?_ | refine ER.no rfl rfl ?_ | refine ER.pickT rfl rfl rfl rfl ?_ | refine ER.cmpT rfl rfl rfl rfl rfl (by first | (dsimp only [cmpP]; omega) | exact rfl | exact Int.le_refl _) ?_ | refine ER.cmpF rfl rfl rfl rfl rfl (by first | (dsimp only [cmpP]; omega) | exact rfl | exact Int.le_refl _) ?_ | refine ER.len1 rfl rfl rfl ?_ | refine EK.condF rfl ?_ | refine EK.ret ?_ | refine EK.exit rfl ?_))
      exact EU.ret1 rfl rfl ⟨rfl, uu, _, rfl, fun e => by cases e⟩
  · obtain rfl : i = sc.length := by omega
    have y2 : hcell h2 ⟨y, 4, none⟩ = some (.slice aP vp.length kP) := hcell_of gy rfl
    have y0 : hcell h2 ⟨y, 0, none⟩ = some (.int .i64 N) := hcell_of gy rfl
    clear again
    by_cases c1 : m ≤ 400
    · by_cases c2 : sc.length ≤ 8
      · by_cases c3 : vp.length ≤ 2000
        · (repeat (first | refine EK.seq ?_ | refine EK.region ?_ | refine ER.done ?_ | refine ER.move rfl rfl rfl ?_ | refine ER.fieldAddr rfl rfl rfl ?_ | refine ER.load1 rfl rfl rfl (hcell_of (by assumption) rfl) ?_ | refine ER.no rfl rfl ?_ | refine ER.pickF rfl rfl rfl rfl ?_ | refine ER.cmpF rfl rfl rfl rfl rfl (by first | (dsimp only [cmpP]; omega) | exact rfl | exact Int.le_refl _) ?_ | refine ER.len1 rfl rfl rfl ?_ | refine EK.condF rfl ?_ | refine EK.exit rfl ?_))
          refine ER.callR rfl rfl rfl rfl rfl may_ok ?_
          rintro _ h3 δ3 ⟨rfl, rfl, b, rfl, hb⟩
          cases b with
          | false =>
            (repeat (first | refine ER.done ?_ | refine ER.move rfl rfl rfl ?_ | refine ER.assign rfl rfl rfl ?_ | refine ER.no rfl rfl ?_ | refine ER.notB rfl rfl rfl ?_ | refine ER.pickT rfl rfl rfl rfl ?_ | refine ER.pickF rfl rfl rfl rfl ?_ | refine EK.ret ?_))
            exact EU.ret1 rfl rfl ⟨rfl, uu, _, rfl, fun e => by cases e⟩
          | true =>
            obtain ⟨e, e1, e12, hN⟩ := hb.1 rfl
            by_cases c5 : N ≤ 256
            · (repeat (first | refine ER.done ?_ | refine ER.move rfl rfl rfl ?_ | refine ER.assign rfl rfl rfl ?_ | refine ER.fieldAddr rfl rfl rfl ?_ | refine ER.load1 rfl rfl rfl (hcell_of (by assumption) rfl) ?_ | refine ER.notB rfl rfl rfl ?_ | refine ER.pickF rfl rfl rfl rfl ?_ | refine ER.cmpF rfl rfl rfl rfl rfl (by first | (dsimp only [cmpP]; omega) | exact rfl | exact Int.le_refl _) ?_ | refine EK.ret ?_))
              refine EU.ret1 rfl rfl ⟨rfl, uu, _, rfl, fun _ => ⟨c2, fun l hl => by
                obtain ⟨j, hj, rfl⟩ := List.mem_iff_getElem.1 hl
                have := hno j _ hj (List.getElem?_eq_getElem hj)
                omega, c3, 2 ^ e, e, hN, rfl, e1, ?_⟩⟩
              rcases Nat.lt_or_ge 8 e with q | q
              · have := Nat.pow_le_pow_right (n := 2) (by decide) (show 9 ≤ e from q)
                have h9 : 2 ^ 9 = 512 := by decide
                omega
              · exact q
            · skip
              (repeat (first | refine ER.done ?_ | refine ER.move rfl rfl rfl ?_ | refine ER.assign rfl rfl rfl ?_ | refine ER.fieldAddr rfl rfl rfl ?_ | refine ER.load1 rfl rfl rfl (hcell_of (by assumption) rfl) ?_ | refine ER.notB rfl rfl rfl ?_ | refine ER.pickF rfl rfl rfl rfl ?_ | refine ER.cmpT rfl rfl rfl rfl rfl (by first | (dsimp only [cmpP]; omega) | exact rfl | exact Int.le_refl _) ?_ | refine EK.ret ?_))
              exact EU.ret1 rfl rfl ⟨rfl, uu, _, rfl, fun e => by cases e⟩
        · skip
          (repeat (first | refine EK.seq ?_ | refine EK.region ?_ | refine ER.done ?_ | refine ER.move rfl rfl rfl ?_ | refine ER.assign rfl rfl rfl ?_ | refine ER.fieldAddr rfl rfl rfl ?_ | refine ER.load1 rfl rfl rfl (hcell_of (by assumption) rfl) ?_ | refine ER.no rfl rfl ?_ | refine ER.pickT rfl rfl rfl rfl ?_ | refine ER.pickF rfl rfl rfl rfl ?_ | refine ER.cmpT rfl rfl rfl rfl rfl (by first | (dsimp only [cmpP]; omega) | exact rfl | exact Int.le_refl _) ?_ | refine ER.cmpF rfl rfl rfl rfl rfl (by first | (dsimp only [cmpP]; omega) | exact rfl | exact Int.le_refl _) ?_ | refine ER.len1 rfl rfl rfl ?_ | refine EK.condF rfl ?_ | refine EK.ret ?_ | refine EK.exit rfl ?_))
          exact EU.ret1 rfl rfl ⟨rfl, uu, _, rfl, fun e => by cases e⟩
      · skip
        (repeat (first | refine EK.seq ?_ | refine EK.region ?_ | refine ER.done ?_ | refine ER.move rfl rfl rfl ?_ | refine ER.assign rfl rfl rfl ?_ | refine ER.fieldAddr rfl rfl rfl ?_ | refine ER.load1 rfl rfl rfl (hcell_of (by assumption) rfl) ?_ | refine ER.no rfl rfl ?_ | refine ER.pickT rfl rfl rfl rfl ?_ | refine ER.pickF rfl rfl rfl rfl ?_ | refine ER.cmpT rfl rfl rfl rfl rfl (by first | (dsimp only [cmpP]; omega) | exact rfl | exact Int.le_refl _) ?_ | refine ER.cmpF rfl rfl rfl rfl rfl (by first | (dsimp only [cmpP]; omega) | exact rfl | exact Int.le_refl _) ?_ | refine ER.len1 rfl rfl rfl ?_ | refine EK.condF rfl ?_ | refine EK.ret ?_ | refine EK.exit rfl ?_))
        exact EU.ret1 rfl rfl ⟨rfl, uu, _, rfl, fun e => by cases e⟩
    · skip
      (repeat (first | refine EK.seq ?_ | refine EK.region ?_ | refine ER.done ?_ | refine ER.move rfl rfl rfl ?_ | refine ER.assign rfl rfl rfl ?_ | refine ER.fieldAddr rfl rfl rfl ?_ | refine ER.load1 rfl rfl rfl (hcell_of (by assumption) rfl) ?_ | refine ER.no rfl rfl ?_ | refine ER.pickT rfl rfl rfl rfl ?_ | refine ER.pickF rfl rfl rfl rfl ?_ | refine ER.cmpT rfl rfl rfl rfl rfl (by first | (dsimp only [cmpP]; omega) | exact rfl | exact Int.le_refl _) ?_ | refine ER.cmpF rfl rfl rfl rfl rfl (by first | (dsimp only [cmpP]; omega) | exact rfl | exact Int.le_refl _) ?_ | refine ER.len1 rfl rfl rfl ?_ | refine EK.condF rfl ?_ | refine EK.ret ?_ | refine EK.exit rfl ?_))
      exact EU.ret1 rfl rfl ⟨rfl, uu, _, rfl, fun e => by cases e⟩
theorem copy_ok {vs : List Value} {sv : Value} (hs : RdS h sv vs) (hl : vs.length ≤ 2000) : CallW Try.prog main S 18 #[sv] h δ (Ret fun v h' δ' => δ' = δ ∧ SliceO h' v 3 1 vs.length vs ∧ Upd (fun _ => False) h h' ∧ ∀ b, blk v = some b → b = h.size) := by
  refine CallW.start (n := 7) rfl rfl ?_
  (repeat (first | refine EK.seq ?_ | refine EK.region ?_ | refine ER.done ?_ | refine ER.move rfl rfl rfl ?_ | refine ER.assign rfl rfl rfl ?_))
  refine ER.appendNil rfl rfl rfl rfl hs (by omega) (by omega) rfl ?_
  intro s' h' sl u hb
  (repeat (first | refine ER.done ?_ | refine ER.assign rfl rfl rfl ?_ | refine EK.ret ?_))
  exact EU.ret1 rfl rfl ⟨rfl, sl, u, hb⟩
set_option maxRecDepth 8000 in
set_option maxHeartbeats 4000000 in
theorem gnew_ok {n e : Nat} (hm : n = 2 ^ e) (he1 : 1 ≤ e) (he : e ≤ 8) {a : Option Addr} {k : Nat} (hsl : sc.length ≤ 8) :
    CallW Try.prog main (NoS (Γ := Γ)) 33 #[.agg #[.int .i64 (n : Int), .int .i64 fr, .int .i64 bs, .slice a sc.length k, pv]] h δ (Ret fun v h' δ' => δ' = δ ∧ Upd (fun _ => False) h h' ∧ ∃ (S0 T cap : Nat) (rest : List Value) (B : Nat → Nat), v = ptr S0 ∧
      h'[S0]? = some (.cells #[ptr (B 0), .slice (some ⟨T, 0, none⟩) sc.length sc.length] 92 (0, 0)) ∧ h'[T]? = some (.cells (List.replicate sc.length nilS).toArray 88 (0, 0)) ∧
      Rep h' (deqM n cap rest B (v1D fr)) ∧ (∀ k, (deqM n cap rest B (v1D fr)).ok k → h.size ≤ (deqM n cap rest B (v1D fr)).B k) ∧ h.size ≤ S0 ∧ h.size ≤ T) := by
  refine CallW.start (n := 28) rfl rfl ?_
  have gp0 := get_push_new h (.cells #[.int .i64 (n : Int), .int .i64 fr, .int .i64 bs, .slice a sc.length k, pv] 80)
  (repeat (first | refine EK.seq ?_ | refine EK.region ?_ | refine ER.done ?_ | refine ER.assign rfl rfl rfl ?_ | refine ER.fieldAddr rfl rfl rfl ?_ | refine ER.load1 rfl rfl rfl (hcell_of (by assumption) rfl) ?_ | refine ER.boxA rfl rfl rfl ?_))
  refine ER.callR rfl rfl rfl rfl rfl (deqnew_ok (n := n) (f := fr) hm he1 (by omega) (fun _ _ _ x => x)) ?_
  rintro _ h2 δ2 ⟨rfl, u2, cap, rest, B, rfl, r2, ab⟩
  have u02 : Upd (fun _ => False) h h2 := (Upd.push _ _).trans u2
  have gp : h2[h.size]? = some (.cells #[.int .i64 (n : Int), .int .i64 fr, .int .i64 bs, .slice a sc.length k, pv] 80 (0, 0)) := u2.get (get_push_new _ _) (fun x => x)
  have ab' : ∀ k, k < 4 + n → h.size ≤ B k := fun k hk => by have := ab k hk; rw [Array.size_push] at this; omega
  have y1 : hcell h2 ⟨h.size, 3, none⟩ = some (.slice a sc.length k) := hcell_of gp rfl
  change Rep h2 (deqM n cap rest B (v1D fr)) at r2
  clear ab u2
  (repeat (first | refine EK.seq ?_ | refine EK.region ?_ | refine ER.done ?_ | refine EK.skip ?_ | refine ER.move rfl rfl rfl ?_ | refine ER.assign rfl rfl rfl ?_ | refine ER.fieldAddr rfl rfl rfl ?_ | refine ER.load1 rfl rfl rfl (hcell_of (by assumption) rfl) ?_ | refine ER.eqV rfl rfl rfl rfl rfl ?_ | refine ER.pickF rfl rfl rfl rfl ?_ | refine ER.extract rfl rfl rfl rfl ?_ | refine ER.cmpF rfl rfl rfl rfl rfl (by first | (dsimp only [cmpP]; omega) | exact rfl | exact Int.le_refl _) ?_ | refine ER.len1 rfl rfl rfl ?_ | refine EK.condF rfl ?_))
  refine ER.makeSlice rfl rfl rfl rfl (by omega) (by omega) rfl ?_
  rintro s h3 sl eh hb
  have hh2 := u02.size
  have gpT := get_push_new h2 (.cells (List.replicate sc.length nilS).toArray 88)
  obtain ⟨T, hT⟩ : ∃ T, T = h2.size := ⟨_, rfl⟩
  have es : s = .slice (some ⟨T, 0, none⟩) sc.length sc.length := by
    obtain ⟨_, ⟨rfl, _⟩ | ⟨b, cap, rest, rfl, q1, q2, q3⟩⟩ := sl
    · cases hb
    · cases hb
      have q4 : h3[h2.size]? = some (.cells (List.replicate sc.length nilS).toArray 88 (0, 0)) := by rw [eh]; exact gpT
      have q5 := q4.symm.trans q3
      injection q5 with q5
      injection q5 with q5 _ _
      have q6 := congrArg Array.size q5
      simp only [List.size_toArray, List.length_append, List.length_replicate] at q6
      have : cap = sc.length := by omega
      rw [this, hT]
      rfl
  subst es
  have u3 : Upd (fun _ => False) h2 h3 := by rw [eh]; exact Upd.push _ _
  have gT : h3[T]? = some (.cells (List.replicate sc.length nilS).toArray 88 (0, 0)) := by rw [eh, hT]; exact gpT
  replace r2 := r2.upd0 u3
  have uu := u02.trans u3
  clear sl eh hb gpT y1 gp gp0 u3 u02
  refine ER.buildS (cells := #[ptr (B 0), .slice (some ⟨T, 0, none⟩) sc.length sc.length]) rfl rfl (by rfl) (by rfl) ?_
  (repeat (first | refine ER.done ?_ | refine ER.assign rfl rfl rfl ?_ | refine ER.boxA rfl rfl rfl ?_ | refine EK.ret ?_))
  have hs3 := uu.size
  exact EU.ret1 rfl rfl ⟨rfl, uu.trans (Upd.push _ _), _, T, cap, rest, B, rfl, get_push_new _ _, get_push _ gT, r2.upd0 (Upd.push _ _), ab', hs3, by omega⟩
end
end Go.Proofs.Ytcpcdnkemobneaa
end
section
namespace Go.Proofs.Ytcpcdnkemobneaa
open Go Go.TJ Go.Conc Go.Proofs
section
variable {Γ : Type} {main : Bool} {S : Sit Γ} {δ : Ix Γ} {h : Hp}
theorem behind_ok {op was arg new : Int} (h1 : 1 ≤ op) (h2 : op ≤ 5) : CallW Try.prog main S 148 #[.int .i8 op, .int .i64 was, .int .i64 arg, .int .i64 new] h δ (Ret (Det (.tuple #[.int .i64 (behind op was arg new).1, .bool (behind op was arg new).2]) h δ)) := by
  refine CallW.start (n := 27) rfl rfl ?_
  rcases (show op = 1 ∨ op = 2 ∨ op = 3 ∨ op = 4 ∨ op = 5 by omega) with rfl | rfl | rfl | rfl | rfl
  · (repeat (first | refine EK.seq ?_ | refine EK.region ?_ | refine ER.done ?_ | refine EK.skip ?_ | refine EK.block ?_ | refine EK.inBlock ?_ | refine ER.move rfl rfl rfl ?_ | refine ER.assign rfl rfl rfl ?_ | refine ER.cmpF rfl rfl rfl rfl rfl (by first | (dsimp only [cmpP]; omega) | exact rfl | exact Int.le_refl _) ?_ | refine EK.condF rfl ?_ | refine EK.ret ?_))
    exact EU.ret2 rfl rfl rfl det
  · (repeat (first | refine EK.seq ?_ | refine EK.region ?_ | refine ER.done ?_ | refine EK.skip ?_ | refine EK.block ?_ | refine ER.move rfl rfl rfl ?_ | refine ER.assign rfl rfl rfl ?_ | refine ER.cmpT rfl rfl rfl rfl rfl (by first | (dsimp only [cmpP]; omega) | exact rfl | exact Int.le_refl _) ?_ | refine EK.condT rfl ?_ | refine EK.ret ?_))
    exact EU.ret2 rfl rfl rfl det
  · by_cases e : was = arg
    · have e1 : behind 3 was arg new = (new, true) := by unfold behind; simp [e]
      rw [e1]
      (repeat (first | refine EK.seq ?_ | refine EK.region ?_ | refine ER.done ?_ | refine EK.block ?_ | refine ER.move rfl rfl rfl ?_ | refine ER.assign rfl rfl rfl ?_ | refine ER.cmpT rfl rfl rfl rfl rfl (by first | (dsimp only [cmpP]; omega) | exact rfl | exact Int.le_refl _) ?_ | refine ER.cmpF rfl rfl rfl rfl rfl (by first | (dsimp only [cmpP]; omega) | exact rfl | exact Int.le_refl _) ?_ | refine EK.condT rfl ?_ | refine EK.condF rfl ?_ | refine EK.ret ?_))
      exact EU.ret2 rfl rfl rfl det
    · have e1 : behind 3 was arg new = (was, false) := by unfold behind; simp [e]
      rw [e1]
      (repeat (first | refine EK.seq ?_ | refine EK.region ?_ | refine ER.done ?_ | refine EK.skip ?_ | refine EK.block ?_ | refine EK.inBlock ?_ | refine ER.move rfl rfl rfl ?_ | refine ER.assign rfl rfl rfl ?_ | refine ER.cmpT rfl rfl rfl rfl rfl (by first | (dsimp only [cmpP]; omega) | exact rfl | exact Int.le_refl _) ?_ | refine ER.cmpF rfl rfl rfl rfl rfl (by first | (dsimp only [cmpP]; omega) | exact rfl | exact Int.le_refl _) ?_ | refine EK.condT rfl ?_ | refine EK.condF rfl ?_ | refine EK.ret ?_))
      exact EU.ret2 rfl rfl rfl det
  · have e1 : behind 4 was arg new = (IntKind.i64.wrap (was + arg), false) := rfl
    rw [e1]
    (repeat (first | refine EK.seq ?_ | refine EK.region ?_ | refine ER.done ?_ | refine EK.block ?_ | refine ER.move rfl rfl rfl ?_ | refine ER.assign rfl rfl rfl ?_ | refine ER.cmpT rfl rfl rfl rfl rfl (by first | (dsimp only [cmpP]; omega) | exact rfl | exact Int.le_refl _) ?_ | refine ER.cmpF rfl rfl rfl rfl rfl (by first | (dsimp only [cmpP]; omega) | exact rfl | exact Int.le_refl _) ?_ | refine EK.condT rfl ?_ | refine EK.condF rfl ?_))
    refine ER.add (kd := .i64) rfl rfl rfl rfl rfl ?_
    (repeat (first | refine ER.done ?_ | refine ER.assign rfl rfl rfl ?_ | refine EK.ret ?_))
    exact EU.ret2 rfl rfl rfl det
  · (repeat (first | refine EK.seq ?_ | refine EK.region ?_ | refine ER.done ?_ | refine EK.block ?_ | refine ER.move rfl rfl rfl ?_ | refine ER.assign rfl rfl rfl ?_ | refine ER.cmpT rfl rfl rfl rfl rfl (by first | (dsimp only [cmpP]; omega) | exact rfl | exact Int.le_refl _) ?_ | refine ER.cmpF rfl rfl rfl rfl rfl (by first | (dsimp only [cmpP]; omega) | exact rfl | exact Int.le_refl _) ?_ | refine EK.condT rfl ?_ | refine EK.condF rfl ?_ | refine EK.ret ?_))
    exact EU.ret2 rfl rfl rfl det
theorem turns_ok {m : Nat} (hm : m ≤ 65536) : CallW Try.prog main S 78 #[.int .i64 m] h δ (Ret (Det (.int .i64 m) h δ)) := by
  refine CallW.start (n := 8) rfl rfl ?_
  (repeat (first | refine EK.seq ?_ | refine EK.region ?_ | refine ER.done ?_ | refine EK.skip ?_ | refine ER.move rfl rfl rfl ?_ | refine ER.assign rfl rfl rfl ?_ | refine ER.cmpF rfl rfl rfl rfl rfl (by first | (dsimp only [cmpP]; omega) | exact rfl | exact Int.le_refl _) ?_ | refine EK.condF rfl ?_ | refine EK.ret ?_))
  exact EU.ret1 rfl rfl det
theorem place_ok {x : Int} {n : Nat} (hn : 0 < n) (hn2 : n ≤ 1000) : CallW Try.prog main S 65 #[.int .i64 x, .int .i64 n] h δ (Ret (Det (.int .i64 (x % (n : Int))) h δ)) := by
  have h1 := Int.lt_tmod_of_pos x (b := (n : Int)) (by omega)
  have h2 := Int.tmod_lt_of_pos x (b := (n : Int)) (by omega)
  have h3 := Int.emod_nonneg x (b := (n : Int)) (by omega)
  have h4 := Int.emod_lt_of_pos x (b := (n : Int)) (by omega)
  have h5 : x.tmod n = x % (n : Int) ∨ x.tmod n + n = x % (n : Int) := by
    have k := tmod_twice x (m := (n : Int)) (by omega)
    have k2 : (x.tmod n + n).tmod n = (x.tmod n + n) % (n : Int) := Int.tmod_eq_emod_of_nonneg (by omega)
    rcases Int.lt_or_le (x.tmod n) 0 with y | y
    · right
      rw [← k, k2, Int.emod_eq_of_lt (by omega) (by omega)]
    · left
      rw [← k, k2, Int.add_emod_right, Int.emod_eq_of_lt (by omega) (by omega)]
  generalize hr : x % (n : Int) = r at h3 h4 h5 ⊢
  refine CallW.start (n := 15) rfl rfl ?_
  (repeat (first | refine EK.seq ?_ | refine EK.region ?_ | refine ER.done ?_ | refine ER.move rfl rfl rfl ?_ | refine ER.assign rfl rfl rfl ?_))
  refine ER.rem (r := x.tmod (n : Int)) rfl rfl rfl rfl (by omega) rfl ?_
  generalize x.tmod (n : Int) = q at h1 h2 h5 ⊢
  by_cases hq : q < 0
  · obtain rfl : r = q + n := by omega
    (repeat (first | refine EK.seq ?_ | refine EK.region ?_ | refine ER.done ?_ | refine ER.move rfl rfl rfl ?_ | refine ER.assign rfl rfl rfl ?_ | refine ER.cmpT rfl rfl rfl rfl rfl (by first | (dsimp only [cmpP]; omega) | exact rfl | exact Int.le_refl _) ?_ | refine ER.add (kd := .i64) rfl rfl rfl rfl (i64_in (by omega) (by omega)) ?_ | refine EK.condT rfl ?_ | refine EK.ret ?_))
    exact EU.ret1 rfl rfl det
  · obtain rfl : r = q := by omega
    (repeat (first | refine EK.seq ?_ | refine EK.region ?_ | refine ER.done ?_ | refine EK.skip ?_ | refine ER.move rfl rfl rfl ?_ | refine ER.assign rfl rfl rfl ?_ | refine ER.cmpF rfl rfl rfl rfl rfl (by first | (dsimp only [cmpP]; omega) | exact rfl | exact Int.le_refl _) ?_ | refine EK.condF rfl ?_ | refine EK.ret ?_))
    exact EU.ret1 rfl rfl det
theorem most_ok {l : List Nat} {last : Int} {sv : Value} (hl : SliceO h sv 3 1 l.length (l.map fun (n : Nat) => Value.int .i64 (n : Int))) (hne : l ≠ []) (hlen : l.length ≤ 1000) : CallW Try.prog main S 178 #[sv, .int .i64 last] h δ (Ret (Det (.int .i64 (roundOf l last)) h δ)) := by
  have hpos : 0 < l.length := List.length_pos_iff.2 hne
  obtain ⟨a, kL, rfl⟩ := hl.val
  obtain ⟨bL, ea, hc0, _⟩ := slice_at hl (k := 0) (q := l.headD 0) (by cases l with | nil => exact absurd rfl hne | cons a t => rfl)
  subst ea
  refine CallW.start (n := 25) rfl rfl ?_
  (repeat (first | refine EK.seq ?_ | refine EK.region ?_ | refine ER.done ?_ | refine EK.block ?_ | refine ER.assign rfl rfl rfl ?_))
  refine EK.loopInv (fun i : Nat => [(5, .int .i64 i), (0, .slice (some ⟨bL, 0, none⟩) l.length kL), (1, .int .i64 last)]) (fun i h' δ' => i ≤ l.length ∧ h' = h ∧ δ' = δ ∧ ∀ (k x : Nat), k < i → l[k]? = some x → (x : Int) ≤ last) (fun i => l.length - i) 0 ⟨rfl, rfl, rfl, trivial⟩ ⟨Nat.zero_le _, rfl, rfl, fun k x hk => by omega⟩ ?_
  rintro i h1 δ1 ⟨hi, rfl, rfl, hb⟩ again
  by_cases hin : i < l.length
  · obtain ⟨j, hj⟩ : ∃ j, l[i]? = some j := ⟨_, List.getElem?_eq_getElem hin⟩
    obtain ⟨b2, e2, hc, _⟩ := slice_at hl hj
    injection e2 with e2
    injection e2 with e2
    subst e2
    by_cases hgt : last < (j : Int)
    · (repeat (first | refine EK.seq ?_ | refine EK.region ?_ | refine ER.done ?_ | refine EK.skip ?_ | refine EK.block ?_ | refine ER.move rfl rfl rfl ?_ | refine ER.assign rfl rfl rfl ?_ | refine ER.cmpT rfl rfl rfl rfl rfl (by first | (dsimp only [cmpP]; omega) | exact rfl | exact Int.le_refl _) ?_ | refine ER.len1 rfl rfl rfl ?_ | refine ER.indexSl rfl rfl rfl rfl (by omega) (by omega) ?_ | refine EK.condT rfl ?_ | refine EK.ret ?_ | refine ER.load1 rfl rfl rfl (by assumption) ?_))
      refine EU.ret1 rfl rfl ?_
      rw [round_at hj hgt hb]
      exact det
    · (repeat (first | refine EK.seq ?_ | refine EK.region ?_ | refine ER.done ?_ | refine EK.skip ?_ | refine EK.block ?_ | refine EK.inBlock ?_ | refine ER.move rfl rfl rfl ?_ | refine ER.assign rfl rfl rfl ?_ | refine ER.cmpT rfl rfl rfl rfl rfl (by first | (dsimp only [cmpP]; omega) | exact rfl | exact Int.le_refl _) ?_ | refine ER.cmpF rfl rfl rfl rfl rfl (by first | (dsimp only [cmpP]; omega) | exact rfl | exact Int.le_refl _) ?_ | refine ER.add (kd := .i64) rfl rfl rfl rfl (i64_in (by omega) (by omega)) ?_ | refine ER.len1 rfl rfl rfl ?_ | refine ER.indexSl rfl rfl rfl rfl (by omega) (by omega) ?_ | refine EK.condT rfl ?_ | refine EK.condF rfl ?_ | refine ER.load1 rfl rfl rfl (by assumption) ?_))
      refine EK.back (again (i + 1) _ _ (by omega) ⟨by omega, rfl, rfl, fun k x hk hx => ?_⟩) ⟨rfl, rfl, rfl, trivial⟩
      by_cases e : k = i
      · subst e
        rw [hj] at hx; cases hx; omega
      · exact hb k x (by omega) hx
  · obtain rfl : i = l.length := by omega
    clear again
    (repeat (first | refine EK.seq ?_ | refine EK.region ?_ | refine ER.done ?_ | refine ER.move rfl rfl rfl ?_ | refine ER.assign rfl rfl rfl ?_ | refine ER.cmpF rfl rfl rfl rfl rfl (by first | (dsimp only [cmpP]; omega) | exact rfl | exact Int.le_refl _) ?_ | refine ER.len1 rfl rfl rfl ?_ | refine ER.indexSl rfl rfl rfl rfl (by omega) (by omega) ?_ | refine EK.condF rfl ?_ | refine EK.ret ?_ | refine EK.exit rfl ?_ | refine ER.load1 rfl rfl rfl (by assumption) ?_))
    refine EU.ret1 rfl rfl ?_
    rw [round_none (fun k x hx => hb k x (take_mid hx).2.2 hx)]
    exact det
end
end Go.Proofs.Ytcpcdnkemobneaa
end
section
namespace Go.Proofs.Ytcpcdnkemobneaa
open Go Go.TJ Go.Conc Go.Proofs
theorem ER.join {Γ : Type} {P : Program} {main : Bool} {S : Sit Γ} {f : FuncId} {n : Nat} {ops : Array Oper} {l : List Oper} {k : List Item} {env : Env} {ds : List Deferred} {h : Hp} {δ : Ix Γ} {R : Post Γ} {σ : Type} (E : σ → Env) (I : σ → Hp → Ix Γ → Prop) (h1 : (∀ s h' δ', I s h' δ' → EK P main S f n k (E s) ds h' δ' R) → ER P main S f n ops l k env ds h δ R) (h2 : ∀ s h' δ', I s h' δ' → EK P main S f n k (E s) ds h' δ' R) : ER P main S f n ops l k env ds h δ R := h1 h2
theorem EK.join {Γ : Type} {P : Program} {main : Bool} {S : Sit Γ} {f : FuncId} {n : Nat} {c : Item} {k : List Item} {env : Env} {ds : List Deferred} {h : Hp} {δ : Ix Γ} {R : Post Γ} {σ : Type} (E : σ → Env) (I : σ → Hp → Ix Γ → Prop) (h1 : (∀ s h' δ', I s h' δ' → EK P main S f n k (E s) ds h' δ' R) → EK P main S f n (c :: k) env ds h δ R) (h2 : ∀ s h' δ', I s h' δ' → EK P main S f n k (E s) ds h' δ' R) : EK P main S f n (c :: k) env ds h δ R := h1 h2
theorem EA.join {Γ : Type} {P : Program} {main : Bool} {S : Sit Γ} {f : FuncId} {n : Nat} {ops : Array Oper} {Z : Hp → Prop} {z m : Nat} {listed : Array Bool} {k : List Item} {env : Env} {ds : List Deferred} {h : Hp} {δ : Ix Γ} {R : Post Γ} {σ : Type} (E : σ → Env) (I : σ → Hp → Ix Γ → Prop) (h1 : (∀ s h' δ', I s h' δ' → EK P main S f n k (E s) ds h' δ' R) → EA P main S f n ops Z z m listed k env ds h δ R) (h2 : ∀ s h' δ', I s h' δ' → EK P main S f n k (E s) ds h' δ' R) : EA P main S f n ops Z z m listed k env ds h δ R := h1 h2
theorem EA.tNeqB {Γ : Type} {P : Program} {main : Bool} {S : Sit Γ} {f : FuncId} {n : Nat} {ops : Array Oper} {Z : Hp → Prop} {z m : Nat} {listed l' : Array Bool} {k : List Item} {env : Env} {ds : List Deferred} {h : Hp} {δ : Ix Γ} {R : Post Γ} {d : Nat} {ty : TypeId} {pos : String} {af : Array Edge} {g : Option (Nat × Bool)} {t t2 : TypeId} {x y : Operand} {u w : Value} {dd : TypeDesc} {r : Bool} [hu : Und P t dd] (i : Nat)
    (hi : ops[i]? = some ⟨some d, .binOp .neq t x y t2, ty, pos, af, g⟩) (hs : takeB ops listed z i = true) (hl : listed.setIfInBounds i true = l')
    (hd : Nat.blt d n = true) (hw : wantE ops env g = some true) (hx : ev env x = some u) (hy : ev env y = some w) (he : eqRes dd u w = some r) (hZ : Z h)
    (hn : EA P main S f n ops Z z m l' k ((d, .bool (!r)) :: env) ds h δ R) : EA P main S f n ops Z z (m + 1) listed k env ds h δ R :=
  EA.take i hi hs hl hd hw (fun _ _ _ _ _ hρ _ hq => sem_neqV (hρ _ _ hx) (hρ _ _ hy) he hq) hZ hn
theorem rise_len {n : Nat} : ∀ {l : List Nat} (m : Nat), l.Pairwise (· < ·) → (∀ a, a ∈ l → m ≤ a) → (∀ a, a ∈ l → a < n) → l.length ≤ n - m
  | [], _, _, _, _ => Nat.zero_le _
  | a :: l, m, h, hm, hn => by
    obtain ⟨h1, h2⟩ := List.pairwise_cons.1 h
    have := rise_len (n := n) (a + 1) h2 h1 (fun b hb => hn b (by simp [hb]))
    have ha := hm a (by simp)
    have hb := hn a (by simp)
    simp only [List.length_cons]
    omega
theorem numsA_len : ∀ (l : List Ev) (acc : List Nat), (numsA acc l).length ≤ acc.length + l.length
  | [], acc => by simp [numsA]
  | e :: l, acc => by
    have h1 := numsA_len l acc
    have h2 := numsA_len l (acc ++ [e.b])
    unfold numsA at h1 h2 ⊢
    rw [List.foldl_cons]
    split
    · simp; omega
    · simp at h2 ⊢; omega
theorem nums_len (l : List Ev) : (nums l).length ≤ l.length := by
  have := numsA_len l []
  simpa [nums, numsA] using this
section
variable {Γ : Type} {main : Bool} {δ : Ix Γ} {h h' : Hp} {R : Rec} {picks : List Int} {lL lW lY lV sP tv cv : Value} {last : Int} {C n most : Nat} {e : Int} {X : Us}
theorem RecM.updC (m : RecM R picks lL lW lY lV sP h) (hC : h[C]? = some (chkO e n lL lW lY lV sP most tv cv last)) (hP : picks ≠ [] → ∀ b, blk sP = some b → b ≠ C) (u : Upd (fun b => b = C) h h') : RecM R picks lL lW lY lV sP h' :=
  ⟨m.log.upd u (sliceO_ne m.log hC (by decide)), m.went.upd u (sliceO_ne m.went hC (by decide)), m.rdy.upd u (sliceO_ne m.rdy hC (by decide)), m.left.upd u (sliceO_ne m.left hC (by decide)), m.picks.upd u (fun hn => hP (fun e => hn (by rw [e]; rfl)))⟩
structure MemI (R : Rec) (h : Hp) (C : Nat) (lL lW lY lV sP tv : Value) (last : Int) (n : Nat) (k : Nat) (v : Nat → Int) (nv cv : Value) (h' : Hp) : Prop where
  upd : Upd (fun b => b = C) h h'
  row : h'[C]? = some (chkO R.e n lL lW lY lV sP R.most tv cv last)
  now : SliceO h' nv 2 1 (nums (R.log.take k)).length ((nums (R.log.take k)).map fun b => Value.int .i64 (v b))
  fst : SliceO h' cv 2 1 (nums (R.log.take k)).length ((nums (R.log.take k)).map fun b => Value.int .i64 (R.v0 b))
  newn : ∀ b, blk nv = some b → h.size ≤ b
  newc : ∀ b, blk cv = some b → h.size ≤ b
  ne : ∀ b, blk nv = some b → blk cv ≠ some b
set_option maxHeartbeats 8000000 in
set_option maxRecDepth 8000 in
theorem memory_ok (ok : RecOk X picks R) (m : RecM R picks lL lW lY lV sP h) (hC : h[C]? = some (chkO R.e n lL lW lY lV sP R.most tv nilS last)) (hP : picks ≠ [] → ∀ b, blk sP = some b → b ≠ C) :
    CallW Try.prog main (NoS (Γ := Γ)) 79 #[ptr C] h δ (Ret fun v h' δ' => δ' = δ ∧ v = .bool true ∧ ∃ cv, h'[C]? = some (chkO R.e n lL lW lY lV sP R.most tv cv last) ∧ Upd (fun b => b = C) h h' ∧ SliceO h' cv 2 1 (nums R.log).length ((nums R.log).map fun b => Value.int .i64 (R.v0 b)) ∧ ∀ b, blk cv = some b → h.size ≤ b) := by
  have hlen := ok.len
  have hmost := ok.most
  have hnl : ∀ k, (nums (R.log.take k)).length ≤ 65536 := fun k => by
    have := nums_len
    have h1 := this (R.log.take k)
    have h2 := List.length_take_le k R.log
    have h3 : (R.log.take k).length ≤ R.log.length := by rw [List.length_take]; omega
    omega
  have hCl := lt_of_get hC
  obtain ⟨aL, kL, eL⟩ := m.log.val
  obtain ⟨aV, kV, eV⟩ := m.left.val
  subst eL eV
  refine CallW.start (n := 237) rfl rfl ?_
  (repeat (first | refine EK.seq ?_ | refine EK.region ?_ | refine ER.done ?_ | refine EK.block ?_ | refine ER.assign rfl rfl rfl ?_))
  refine EK.loopInv (fun q : Nat × Value × Value × (Nat → Int) => [(4, .int .i64 q.1), (3, q.2.1), (0, ptr C)]) (fun q h' δ' => q.1 ≤ R.log.length ∧ δ' = δ ∧ Chain X R.v0 (R.log.take q.1) q.2.2.2 ∧ MemI R h C (.slice aL R.log.length kL) lW lY (.slice aV R.left.length kV) sP tv last n q.1 q.2.2.2 q.2.1 q.2.2.1 h') (fun q => R.log.length - q.1) (0, nilS, nilS, R.v0) ⟨rfl, rfl, rfl, trivial⟩ ⟨Nat.zero_le _, rfl, .nil, Upd.refl _ _, hC, SliceO.nil, SliceO.nil, fun b hb => (by cases hb), fun b hb => (by cases hb), fun b hb => (by cases hb)⟩ ?_
  rintro ⟨k, nv, cv, v⟩ h1 δ1 ⟨hk, hδ, ch, mi⟩ again
  dsimp only at hk ch mi again hδ ⊢
  subst hδ
  have m1 := m.updC hC hP mi.upd
  by_cases hin : k < R.log.length
  · obtain ⟨e, he⟩ : ∃ e, R.log[k]? = some e := ⟨_, List.getElem?_eq_getElem hin⟩
    obtain ⟨bL, ea, hrow, hz⟩ := slice_row (entL_len (nums R.log)) m1.log he
    subst ea
    have c2 : hcell h1 ⟨C, 2, none⟩ = some (.slice (some ⟨bL, 0, none⟩) R.log.length kL) := hcell_of mi.row rfl
    (repeat (first | refine EK.seq ?_ | refine EK.region ?_ | refine ER.done ?_ | refine EK.skip ?_ | refine EK.block ?_ | refine ER.move rfl rfl rfl ?_ | refine ER.nilCheck rfl rfl rfl ?_ | refine ER.fieldAddr rfl rfl rfl ?_ | refine ER.cmpT rfl rfl rfl rfl rfl (by first | (dsimp only [cmpP]; omega) | exact rfl | exact Int.le_refl _) ?_ | refine ER.len1 rfl rfl rfl ?_ | refine ER.indexSl rfl rfl rfl rfl (by omega) (by omega) ?_ | refine EK.condT rfl ?_ | refine ER.load1 rfl rfl rfl (by assumption) ?_))
    refine ER.loadN (vs := entL (nums R.log) e) rfl rfl rfl rfl hrow ?_
    (repeat refine ER.allocA rfl rfl ?_)
    refine ER.storeN (vs := entL (nums R.log) e) rfl rfl rfl rfl (by simp [entL, accL, OneCell]) (fun j hj => ⟨?_, hfroz_of (get_push_new _ _), fun x => x⟩) ?_
    · have hj' : j < 8 := hj
      rcases (show j = 0 ∨ j = 1 ∨ j = 2 ∨ j = 3 ∨ j = 4 ∨ j = 5 ∨ j = 6 ∨ j = 7 by omega) with rfl | rfl | rfl | rfl | rfl | rfl | rfl | rfl <;> exact ⟨_, hcell_of (get_push_new _ _) rfl⟩
    rw [hsetRow_push (c := [.int .i64 0, .int .i8 0, .int .i64 0, .int .i64 0, .int .i64 0, .int .i64 0, .int .i64 0, .bool false]) (vs := entL (nums R.log) e) rfl]
    obtain ⟨w, i, r, cw, hr, e1, ch2⟩ := ok.chain.inv he
    obtain rfl := cw.det ch
    obtain ⟨i1, i2, i3, i4⟩ := idx_at he
    obtain ⟨hop1, hop2⟩ := And.intro hr.op1 hr.op2
    have harg := hr.arg
    have hnew := hr.new
    generalize hix : (nums R.log).idxOf e.b = ix at i1 i2 i3 i4
    have hent : entL (nums R.log) e = accL i r.op ix r.arg r.new (v r.b) (behind r.op (v r.b) r.arg r.new).1 (behind r.op (v r.b) r.arg r.new).2 := by unfold entL; rw [hix, e1]; rfl
    have heb : e.b = r.b := by rw [e1]; rfl
    rw [hent]
    rw [heb] at i1 i3 i4
    clear e1 hent hrow hz c2
    obtain ⟨op, rb, arg, new⟩ := r
    dsimp only at hop1 hop2 harg hnew i3 i4 ch2 ⊢
    generalize hx : behind op (v rb) arg new = x at ch2 ⊢
    refine ER.gen (fun h' => MemI R h C (.slice (some ⟨bL, 0, none⟩) R.log.length kL) lW lY (.slice aV R.left.length kV) sP tv last n k v nv cv h' ∧ h'[h1.size]? = some (accO (accL i op ix arg new (v rb) x.1 x.2))) ⟨⟨upd_then mi.upd (Upd.push (T := fun _ => False) h1 _) (fun _ _ x => x.elim), get_push _ mi.row, mi.now.upd (Upd.push (T := fun _ => False) h1 _) (fun _ _ x => x), mi.fst.upd (Upd.push (T := fun _ => False) h1 _) (fun _ _ x => x), mi.newn, mi.newc, mi.ne⟩, get_push_new _ _⟩ ?_
    have hy0 : h.size ≤ h1.size := mi.upd.size
    obtain ⟨y, hy⟩ : ∃ y, y = h1.size := ⟨_, rfl⟩
    rw [← hy] at hy0 ⊢
    clear mi m1 hy
    rintro h2 ⟨mi, ly⟩
    have hnk := hnl k
    have hnk1 := hnl (k + 1)
    obtain ⟨aN, kN, eN⟩ := mi.now.val
    subst eN
    have y0 : hcell h2 ⟨y, 0, none⟩ = some (.int .i64 i) := hcell_of ly rfl
    have y1 : hcell h2 ⟨y, 1, none⟩ = some (.int .i8 op) := hcell_of ly rfl
    have y2 : hcell h2 ⟨y, 2, none⟩ = some (.int .i64 ix) := hcell_of ly rfl
    have y3 : hcell h2 ⟨y, 3, none⟩ = some (.int .i64 arg) := hcell_of ly rfl
    have y4 : hcell h2 ⟨y, 4, none⟩ = some (.int .i64 new) := hcell_of ly rfl
    have y5 : hcell h2 ⟨y, 5, none⟩ = some (.int .i64 (v rb)) := hcell_of ly rfl
    have y6 : hcell h2 ⟨y, 6, none⟩ = some (.int .i64 x.1) := hcell_of ly rfl
    have y7 : hcell h2 ⟨y, 7, none⟩ = some (.bool x.2) := hcell_of ly rfl
    (repeat (first | refine EK.seq ?_ | refine EK.region ?_ | refine ER.done ?_ | refine EK.skip ?_ | refine ER.move rfl rfl rfl ?_ | refine ER.fieldAddr rfl rfl rfl ?_ | refine ER.load1 rfl rfl rfl (hcell_of (by assumption) rfl) ?_ | refine ER.pickF rfl rfl rfl rfl ?_ | refine ER.cmpF rfl rfl rfl rfl rfl (by first | (dsimp only [cmpP]; omega) | exact rfl | exact Int.le_refl _) ?_ | refine ER.len1 rfl rfl rfl ?_ | refine EK.condF rfl ?_))
    refine ER.join (fun _ : Unit => [(112, .bool false), (5, ptr y), (4, .int .i64 k), (3, .slice aN (nums (R.log.take k)).length kN), (0, ptr C)]) (fun _ h' δ' => h' = h2 ∧ δ' = δ1) (fun key => ?_) ?_
    · by_cases h3 : op = 3
      · subst h3
        (repeat (first | refine ER.move rfl rfl rfl ?_ | refine ER.fieldAddr rfl rfl rfl ?_ | refine ER.load1 rfl rfl rfl (hcell_of (by assumption) rfl) ?_ | refine ER.no rfl rfl ?_ | refine ER.pickF rfl rfl rfl rfl ?_ | refine ER.cmpF rfl rfl rfl rfl rfl (by first | (dsimp only [cmpP]; omega) | exact rfl | exact Int.le_refl _) ?_))
        exact ER.done (EK.back (key () _ _ ⟨rfl, rfl⟩) ⟨rfl, rfl, rfl, rfl, rfl, trivial⟩)
      · have hn0 := hnew h3
        subst hn0
        by_cases h1 : op = 1
        · have ha0 := harg h1
          subst h1 ha0
          (repeat (first | refine ER.move rfl rfl rfl ?_ | refine ER.fieldAddr rfl rfl rfl ?_ | refine ER.load1 rfl rfl rfl (hcell_of (by assumption) rfl) ?_ | refine ER.pickT rfl rfl rfl rfl ?_ | refine ER.pickF rfl rfl rfl rfl ?_ | refine ER.cmpT rfl rfl rfl rfl rfl (by first | (dsimp only [cmpP]; omega) | exact rfl | exact Int.le_refl _) ?_ | refine ER.cmpF rfl rfl rfl rfl rfl (by first | (dsimp only [cmpP]; omega) | exact rfl | exact Int.le_refl _) ?_))
          exact ER.done (EK.back (key () _ _ ⟨rfl, rfl⟩) ⟨rfl, rfl, rfl, rfl, rfl, trivial⟩)
        · (repeat (first | refine ER.move rfl rfl rfl ?_ | refine ER.fieldAddr rfl rfl rfl ?_ | refine ER.load1 rfl rfl rfl (hcell_of (by assumption) rfl) ?_ | refine ER.no rfl rfl ?_ | refine ER.pickT rfl rfl rfl rfl ?_ | refine ER.pickF rfl rfl rfl rfl ?_ | refine ER.cmpT rfl rfl rfl rfl rfl (by first | (dsimp only [cmpP]; omega) | exact rfl | exact Int.le_refl _) ?_ | refine ER.cmpF rfl rfl rfl rfl rfl (by first | (dsimp only [cmpP]; omega) | exact rfl | exact Int.le_refl _) ?_))
          exact ER.done (EK.back (key () _ _ ⟨rfl, rfl⟩) ⟨rfl, rfl, rfl, rfl, rfl, trivial⟩)
    rintro _ h2 δ1 ⟨rfl, rfl⟩
    refine EK.condF rfl (EK.skip (EK.seq (EK.seq (EK.region ?_))))
    (repeat (first | refine ER.move rfl rfl rfl ?_ | refine ER.fieldAddr rfl rfl rfl ?_ | refine ER.load1 rfl rfl rfl (hcell_of (by assumption) rfl) ?_ | refine ER.len1 rfl rfl rfl ?_))
    refine ER.cmpB (r := decide ((ix : Int) = ((nums (R.log.take k)).length : Int))) rfl rfl rfl rfl rfl rfl ?_
    refine ER.done ?_
    refine EK.join (fun q : Value × Value => [(5, ptr y), (4, .int .i64 k), (3, q.1), (0, ptr C)]) (fun q h' δ' => δ' = δ1 ∧ h'[y]? = some (accO (accL i op ix arg new (v rb) x.1 x.2)) ∧ MemI R h C (.slice (some ⟨bL, 0, none⟩) R.log.length kL) lW lY (.slice aV R.left.length kV) sP tv last n (k + 1) v q.1 q.2 h') (fun key => ?_) ?_
    · rcases i4 with ⟨j1, j2, j3⟩ | ⟨j1, j2, j3⟩
      · rw [decide_eq_false (by omega)]
        refine EK.condF rfl (EK.skip (EK.back (key (_, cv) _ _ ⟨rfl, ly, ⟨mi.upd, mi.row, by rw [j2]; exact mi.now, by rw [j2]; exact mi.fst, mi.newn, mi.newc, mi.ne⟩⟩) ⟨rfl, rfl, rfl, rfl, trivial⟩))
      · rw [decide_eq_true (by omega)]
        refine EK.condT rfl (EK.seq (EK.region ?_))
        (repeat (first | refine ER.move rfl rfl rfl ?_ | refine ER.fieldAddr rfl rfl rfl ?_ | refine ER.load1 rfl rfl rfl (hcell_of (by assumption) rfl) ?_))
        refine ER.slice1 (sz := 1) (z := .int .i64 0) (cells := #[.int .i64 (v rb)]) rfl rfl rfl (by omega) (by omega) rfl rfl ?_
        refine ER.append1 (new := [.int .i64 (v rb)]) rfl rfl rfl rfl (mi.now.upd (Upd.push (T := fun _ => False) h2 _) (fun _ _ x => x)) (get_push_new _ _) rfl (by simp [OneCell]) (by omega) (by omega) (by rfl) (fun _ _ _ x => x) ?_
        intro s4 h4 sl4 u4 hb4
        have p4 : Upd (fun b => b = C) h h4 := upd_then (upd_then mi.upd (Upd.push (T := fun _ => False) h2 (.cells #[.int .i64 (v rb)] 2)) (fun _ _ x => x.elim)) u4 (fun b hb hx => by have := mi.newn b hx; omega)
        have r4 := u4.get (get_push (o := .cells #[.int .i64 (v rb)] 2) mi.row) (fun hx => by have := mi.newn C hx; omega)
        have nyN : ∀ b, blk (.slice aN (nums (R.log.take k)).length kN) = some b → b ≠ y := fun b hb e => sliceO_ne mi.now ly (by decide) b hb e
        have ly4 := u4.get (get_push (o := .cells #[.int .i64 (v rb)] 2) ly) (fun hx => nyN y hx rfl)
        have f4 := (mi.fst.upd (Upd.push (T := fun _ => False) h2 (.cells #[.int .i64 (v rb)] 2)) (fun _ _ x => x)).upd u4 (fun b hb hx => mi.ne b hx hb)
        have nb4 : ∀ b, blk s4 = some b → h.size ≤ b := fun b hb => by
          rcases hb4 b hb with y | y
          · exact mi.newn b y
          · rw [Array.size_push] at y; have := mi.upd.size; omega
        have ne4 : ∀ b, blk s4 = some b → blk cv ≠ some b := fun b hb hx => by
          rcases hb4 b hb with y | y
          · exact mi.ne b y hx
          · rw [Array.size_push] at y; have := mi.fst.lt hx; omega
        have b1 : (nums (R.log.take (k + 1))).length = (nums (R.log.take k)).length + 1 := by rw [j2, List.length_append]; rfl
        have sn4 : SliceO h4 s4 2 1 (nums (R.log.take (k + 1))).length ((nums (R.log.take (k + 1))).map fun b => Value.int .i64 (v b)) := by rw [b1, j2, List.map_append]; exact sl4
        clear sl4 u4 hb4 nyN
        obtain ⟨aC, kC, eC⟩ := mi.fst.val
        subst eC
        have newc := mi.newc
        clear mi ly
        (repeat refine ER.assign rfl rfl rfl ?_)
        refine ER.done ?_
        refine EK.regionAnyL (fun h' => hcell h' ⟨C, 10, none⟩ = some (.slice aC (nums (R.log.take k)).length kC) ∧ hcell h' ⟨y, 5, none⟩ = some (.int .i64 (v rb))) 11 ?_
        have hZ : _ ∧ _ := And.intro (hcell_of r4 rfl : hcell h4 ⟨C, 10, none⟩ = some (.slice aC (nums (R.log.take k)).length kC)) (hcell_of ly4 rfl : hcell h4 ⟨y, 5, none⟩ = some (.int .i64 (v rb)))
        refine EA.tMove 0 rfl (by kernel_rfl) rfl rfl rfl rfl hZ ?_
        refine EA.tMove 1 rfl (by kernel_rfl) rfl rfl rfl rfl hZ ?_
        refine EA.tNil 2 rfl (by kernel_rfl) rfl rfl rfl rfl hZ ?_
        refine EA.tField 3 rfl (by kernel_rfl) rfl rfl rfl rfl hZ ?_
        refine EA.tLoad 4 rfl (by kernel_rfl) rfl rfl rfl rfl (fun _ hz => hz.1) hZ ?_
        refine EA.tField 5 rfl (by kernel_rfl) rfl rfl rfl rfl hZ ?_
        refine EA.tLoad 6 rfl (by kernel_rfl) rfl rfl rfl rfl (fun _ hz => hz.2) hZ ?_
        have hZ5 : _ ∧ _ := ⟨hcell_push (o := .cells #[.int .i64 (v rb)] 2) hZ.1, hcell_push (o := .cells #[.int .i64 (v rb)] 2) hZ.2⟩
        refine EA.val (v := .slice (some ⟨h4.size, 0, none⟩) 1 1) (h' := h4.push (.cells #[.int .i64 (v rb)] 2)) 7 rfl (by kernel_rfl) rfl rfl rfl (fun ρ Q X hρ hq => sem_slice1 (sz := 1) hρ rfl (by omega) (by omega) rfl rfl hq) hZ5 ?_
        refine EA.append1 (new := [.int .i64 (v rb)]) 8 rfl (by kernel_rfl) rfl rfl rfl rfl rfl (f4.upd (Upd.push (T := fun _ => False) h4 _) (fun _ _ x => x)) (get_push_new _ _) rfl (by simp [OneCell]) (by omega) (by omega) rfl (fun _ _ _ x => x) ?_
        intro s6 h6 sl6 u6 hb6
        have p6 : Upd (fun b => b = C) h h6 := upd_then (upd_then p4 (Upd.push (T := fun _ => False) h4 (.cells #[.int .i64 (v rb)] 2)) (fun _ _ x => x.elim)) u6 (fun b hb hx => by have := newc b hx; omega)
        have r6 := u6.get (get_push (o := .cells #[.int .i64 (v rb)] 2) r4) (fun hx => by have := newc C hx; omega)
        have nyC : ∀ b, blk (.slice aC (nums (R.log.take k)).length kC) = some b → b ≠ y := fun b hb e => sliceO_ne f4 ly4 (by decide) b hb e
        have ly6 := u6.get (get_push (o := .cells #[.int .i64 (v rb)] 2) ly4) (fun hx => nyC y hx rfl)
        have sn6 := (sn4.upd (Upd.push (T := fun _ => False) h4 (.cells #[.int .i64 (v rb)] 2)) (fun _ _ x => x)).upd u6 (fun b hb hx => ne4 b hb hx)
        have hZ6 : _ ∧ _ := And.intro (hcell_of r6 rfl : hcell h6 ⟨C, 10, none⟩ = some (.slice aC (nums (R.log.take k)).length kC)) (hcell_of ly6 rfl : hcell h6 ⟨y, 5, none⟩ = some (.int .i64 (v rb)))
        refine ⟨hZ6, ?_⟩
        obtain ⟨aQ, kQ, eQ⟩ := sl6.val
        refine EA.val 9 rfl (by kernel_rfl) rfl rfl rfl (fun ρ Q X hρ hq => sem_nilCheck (hρ _ _ rfl) hq) hZ6 ?_
        have hZ := hZ6
        refine EA.tField 10 rfl (by kernel_rfl) rfl rfl rfl rfl hZ ?_
        refine EA.unitL (h' := hset h6 ⟨C, 10, none⟩ s6) 11 rfl (by kernel_rfl) rfl rfl rfl (fun ρ Q X hρ hq => sem_store1 (hρ _ _ rfl) (hρ _ _ rfl) (by rw [eQ]; exact ⟨nofun, nofun⟩) ⟨_, hZ6.1⟩ (hfroz_of r6) (fun x => x) hq) ?_
        refine EA.done (by kernel_rfl) ?_
        have e7 : hset h6 ⟨C, 10, none⟩ s6 = h6.setIfInBounds C (chkO R.e n (.slice (some ⟨bL, 0, none⟩) R.log.length kL) lW lY (.slice aV R.left.length kV) sP R.most tv s6 last) := hset_block r6 _
        rw [e7]
        have u7 : Upd (fun b => b = C) h6 (h6.setIfInBounds C (chkO R.e n (.slice (some ⟨bL, 0, none⟩) R.log.length kL) lW lY (.slice aV R.left.length kV) sP R.most tv s6 last)) := Upd.set _ _ _ rfl
        have nC6 : ∀ b, blk s6 = some b → h.size ≤ b := fun b hb => by
          rcases hb6 b hb with y | y
          · exact newc b y
          · rw [Array.size_push] at y; have := p4.size; omega
        refine EK.back (key (s4, s6) _ _ ⟨rfl, by rw [get_set_ne _ (by omega)]; exact ly6, ⟨p6.trans u7, get_set_same r6, sn6.upd u7 (fun b hb e => by have := nb4 b hb; omega), ?_, nb4, nC6, fun b hb hx => ?_⟩⟩) ⟨rfl, rfl, rfl, rfl, trivial⟩
        · have := sl6.upd u7 (fun b hb e => by have := nC6 b hb; omega)
          rw [b1, j2, List.map_append]
          have ev : v rb = R.v0 rb := ch.first j1
          rw [ev] at this
          exact this
        · rcases hb6 b hx with y | y
          · exact ne4 b hb y
          · rw [Array.size_push] at y; have := sn4.lt hb; omega
    clear mi ly i4 hnk
    rintro ⟨nv, cv⟩ h2 δ1 ⟨hδ, ly, mi⟩
    dsimp only at mi hδ ⊢
    subst hδ
    obtain ⟨aN, kN, eN⟩ := mi.now.val
    subst eN
    have y1 : hcell h2 ⟨y, 1, none⟩ = some (.int .i8 op) := hcell_of ly rfl
    have y2 : hcell h2 ⟨y, 2, none⟩ = some (.int .i64 ix) := hcell_of ly rfl
    have y3 : hcell h2 ⟨y, 3, none⟩ = some (.int .i64 arg) := hcell_of ly rfl
    have y4 : hcell h2 ⟨y, 4, none⟩ = some (.int .i64 new) := hcell_of ly rfl
    have y5 : hcell h2 ⟨y, 5, none⟩ = some (.int .i64 (v rb)) := hcell_of ly rfl
    have y6 : hcell h2 ⟨y, 6, none⟩ = some (.int .i64 x.1) := hcell_of ly rfl
    have y7 : hcell h2 ⟨y, 7, none⟩ = some (.bool x.2) := hcell_of ly rfl
    (repeat (first | refine EK.seq ?_ | refine EK.region ?_ | refine ER.fieldAddr rfl rfl rfl ?_ | refine ER.load1 rfl rfl rfl (hcell_of (by assumption) rfl) ?_))
    refine ER.callD rfl rfl rfl rfl rfl (behind_ok hop1 hop2) ?_
    rw [hx]
    obtain ⟨x1, x2⟩ := x
    dsimp only at y6 y7 ch2 ⊢
    obtain ⟨bN, eN, cN, fN⟩ := slice_at mi.now i3
    subst eN
    clear y3 y4 hnl
    (repeat (first | refine EK.seq ?_ | refine ER.done ?_ | refine ER.move rfl rfl rfl ?_ | refine ER.assign rfl rfl rfl ?_ | refine ER.extract rfl rfl rfl rfl ?_))
    refine EK.regionAny (fun h' => h' = h2) ?_
    have hZ : h2 = h2 := rfl
    refine EA.tField 0 rfl (by kernel_rfl) rfl rfl rfl rfl hZ ?_
    refine EA.tLoad 1 rfl (by kernel_rfl) rfl rfl rfl rfl (fun _ hz => (by rw [hz]; exact y5)) hZ ?_
    refine EA.tMove 2 rfl (by kernel_rfl) rfl rfl rfl rfl hZ ?_
    refine EA.tField 3 rfl (by kernel_rfl) rfl rfl rfl rfl hZ ?_
    refine EA.tLoad 4 rfl (by kernel_rfl) rfl rfl rfl rfl (fun _ hz => (by rw [hz]; exact y2)) hZ ?_
    refine EA.tIdxS 5 rfl (by kernel_rfl) rfl rfl rfl rfl rfl (by omega) (by omega) hZ ?_
    refine EA.tLoad 6 rfl (by kernel_rfl) rfl rfl rfl rfl (fun _ hz => (by rw [hz]; exact cN)) hZ ?_
    refine EA.tCmpF 7 rfl (by kernel_rfl) rfl rfl rfl rfl rfl rfl (by first | (dsimp only [cmpP]; omega) | exact rfl | exact Int.le_refl _) hZ ?_
    refine EA.tMove 8 rfl (by kernel_rfl) rfl rfl rfl rfl hZ ?_
    refine EA.tField 9 rfl (by kernel_rfl) rfl rfl rfl rfl hZ ?_
    refine EA.tLoad 10 rfl (by kernel_rfl) rfl rfl rfl rfl (fun _ hz => (by rw [hz]; exact y6)) hZ ?_
    refine EA.tMove 11 rfl (by kernel_rfl) rfl rfl rfl rfl hZ ?_
    refine EA.tCmpF 12 rfl (by kernel_rfl) rfl rfl rfl rfl rfl rfl (by first | (dsimp only [cmpP]; omega) | exact rfl | exact Int.le_refl _) hZ ?_
    refine EA.tPickF 13 rfl (by kernel_rfl) rfl rfl rfl rfl rfl hZ ?_
    refine EA.tMove 14 rfl (by kernel_rfl) rfl rfl rfl rfl hZ ?_
    refine EA.tField 15 rfl (by kernel_rfl) rfl rfl rfl rfl hZ ?_
    refine EA.tLoad 16 rfl (by kernel_rfl) rfl rfl rfl rfl (fun _ hz => (by rw [hz]; exact y7)) hZ ?_
    refine EA.tMove 17 rfl (by kernel_rfl) rfl rfl rfl rfl hZ ?_
    refine EA.tNeqB (r := true) 18 rfl (by kernel_rfl) rfl rfl rfl rfl rfl (by cases x2 <;> rfl) hZ ?_
    refine EA.tPickF 19 rfl (by kernel_rfl) rfl rfl rfl rfl rfl hZ ?_
    refine EA.tMove 20 rfl (by kernel_rfl) rfl rfl rfl rfl hZ ?_
    refine EA.tField 21 rfl (by kernel_rfl) rfl rfl rfl rfl hZ ?_
    refine EA.tLoad 22 rfl (by kernel_rfl) rfl rfl rfl rfl (fun _ hz => (by rw [hz]; exact y1)) hZ ?_
    refine EA.tCmpF 23 rfl (by kernel_rfl) rfl rfl rfl rfl rfl rfl (by first | (dsimp only [cmpP]; omega) | exact rfl | exact Int.le_refl _) hZ ?_
    refine EA.tMove 24 rfl (by kernel_rfl) rfl rfl rfl rfl hZ ?_
    refine EA.takeNo 25 rfl (by kernel_rfl) rfl rfl rfl hZ ?_
    refine EA.takeNo 26 rfl (by kernel_rfl) rfl rfl rfl hZ ?_
    refine EA.takeNo 27 rfl (by kernel_rfl) rfl rfl rfl hZ ?_
    refine EA.takeNo 28 rfl (by kernel_rfl) rfl rfl rfl hZ ?_
    refine EA.takeNo 29 rfl (by kernel_rfl) rfl rfl rfl hZ ?_
    refine EA.tPickF 30 rfl (by kernel_rfl) rfl rfl rfl rfl rfl hZ ?_
    refine EA.tPickF 31 rfl (by kernel_rfl) rfl rfl rfl rfl rfl hZ ?_
    refine EA.done (by kernel_rfl) ?_
    refine EK.condF rfl (EK.skip (EK.region ?_))
    (repeat (first | refine ER.move rfl rfl rfl ?_ | refine ER.fieldAddr rfl rfl rfl ?_ | refine ER.load1 rfl rfl rfl (hcell_of (by assumption) rfl) ?_ | refine ER.indexSl rfl rfl rfl rfl (by omega) (by omega) ?_))
    refine ER.store1 rfl rfl rfl ⟨nofun, nofun⟩ ⟨_, cN⟩ (fN _) (fun x => x) ?_
    refine ER.done ?_
    have e9 : 0 + ix * 1 = ix := by omega
    have sn := mi.now.set (j := ix) (by rw [List.length_map]; exact i2) (.int .i64 x1)
    have u9 : Upd (fun b => b = bN) h2 (hset h2 ⟨bN, ix, none⟩ (.int .i64 x1)) := Upd.hset _ _ _ rfl
    have nN := mi.newn bN rfl
    have hmm : rb ∈ nums (R.log.take (k + 1)) := List.mem_of_getElem? i3
    rw [i1, ← map_ut (F := fun z => Value.int .i64 z) (nums_nodup _) hmm, ← i1] at sn
    have mi9 : MemI R h C (.slice (some ⟨bL, 0, none⟩) R.log.length kL) lW lY (.slice aV R.left.length kV) sP tv last n (k + 1) (ut v rb x1) (.slice (some ⟨bN, 0, none⟩) (nums (R.log.take (k + 1))).length kN) cv (hset h2 ⟨bN, ix, none⟩ (.int .i64 x1)) :=
      ⟨upd_then mi.upd u9 (fun b hb e => by omega), u9.get mi.row (fun e => by omega), sn, mi.fst.upd u9 (fun b hb e => mi.ne bN rfl (by rw [← e]; exact hb)), mi.newn, mi.newc, mi.ne⟩
    change EK _ _ _ _ _ _ _ _ (hset h2 ⟨bN, 0 + ix * 1, none⟩ (.int .i64 x1)) _ _
    rw [e9]
    (repeat (first | refine EK.region ?_ | refine ER.done ?_ | refine EK.inBlock ?_ | refine ER.move rfl rfl rfl ?_ | refine ER.assign rfl rfl rfl ?_ | refine ER.add (kd := .i64) rfl rfl rfl rfl (i64_in (by omega) (by omega)) ?_))
    exact EK.back (again (k + 1, _, cv, ut v rb x1) _ _ (by dsimp only; omega) ⟨by dsimp only; omega, rfl, ch2, mi9⟩) ⟨rfl, rfl, rfl, trivial⟩
  · obtain rfl : k = R.log.length := by omega
    clear again
    rw [List.take_length] at ch
    obtain rfl := ch.det ok.chain
    have c2 : hcell h1 ⟨C, 2, none⟩ = some (.slice aL R.log.length kL) := hcell_of mi.row rfl
    obtain ⟨up, row, now, fst, newn, newc, -⟩ := mi
    rw [List.take_length] at now fst
    have hnk := hnl R.log.length
    rw [List.take_length] at hnk
    clear hnl
    have c5 : hcell h1 ⟨C, 5, none⟩ = some (.slice aV R.left.length kV) := hcell_of row rfl
    obtain ⟨aN, kN, eN⟩ := now.val
    subst eN
    have hnl : R.left.length ≤ 64 := by
      have h2 := rise_len (n := R.nb) (l := R.left.map (·.1)) 0 (List.pairwise_map.2 ok.rise) (fun _ _ => Nat.zero_le _) (fun a ha => by
        obtain ⟨q, hq, rfl⟩ := List.mem_map.1 ha
        exact (ok.left q hq).1)
      rw [List.length_map] at h2
      have := ok.nb
      omega
    (repeat (first | refine EK.seq ?_ | refine EK.region ?_ | refine ER.done ?_ | refine EK.block ?_ | refine ER.move rfl rfl rfl ?_ | refine ER.assign rfl rfl rfl ?_ | refine ER.nilCheck rfl rfl rfl ?_ | refine ER.fieldAddr rfl rfl rfl ?_ | refine ER.load1 rfl rfl rfl (hcell_of (by assumption) rfl) ?_ | refine ER.cmpF rfl rfl rfl rfl rfl (by first | (dsimp only [cmpP]; omega) | exact rfl | exact Int.le_refl _) ?_ | refine ER.len1 rfl rfl rfl ?_ | refine EK.condF rfl ?_ | refine EK.exit rfl ?_))
    refine EK.loopInv (fun k : Nat => [(8, .int .i64 k), (3, .slice aN (nums R.log).length kN), (0, ptr C)]) (fun k h' δ' => k ≤ R.left.length ∧ δ' = δ1 ∧ Upd (fun _ => False) h1 h') (fun k => R.left.length - k) 0 ⟨rfl, rfl, rfl, trivial⟩ ⟨Nat.zero_le _, rfl, Upd.refl _ _⟩ ?_
    rintro k h2 δ2 ⟨hk, hδ, u2⟩ again
    subst hδ
    have c5' := u2.hcell c5 (fun x => x)
    by_cases hin : k < R.left.length
    · obtain ⟨q, hq⟩ : ∃ q, R.left[k]? = some q := ⟨_, List.getElem?_eq_getElem hin⟩
      obtain ⟨bV, ea, hrow, hz⟩ := slice_row (leftE_len (nums R.log) R.val) (m1.left.upd u2 (fun _ _ x => x)) hq
      subst ea
      (repeat (first | refine EK.seq ?_ | refine EK.region ?_ | refine ER.done ?_ | refine EK.skip ?_ | refine EK.block ?_ | refine ER.move rfl rfl rfl ?_ | refine ER.nilCheck rfl rfl rfl ?_ | refine ER.fieldAddr rfl rfl rfl ?_ | refine ER.cmpT rfl rfl rfl rfl rfl (by first | (dsimp only [cmpP]; omega) | exact rfl | exact Int.le_refl _) ?_ | refine ER.len1 rfl rfl rfl ?_ | refine ER.indexSl rfl rfl rfl rfl (by omega) (by omega) ?_ | refine EK.condT rfl ?_ | refine ER.load1 rfl rfl rfl (by assumption) ?_))
      refine ER.loadN (vs := leftE (nums R.log) R.val q) rfl rfl rfl rfl hrow ?_
      (repeat refine ER.allocA rfl rfl ?_)
      refine ER.storeN (vs := leftE (nums R.log) R.val q) rfl rfl rfl rfl (by simp [leftE, accL, OneCell]) (fun j hj => ⟨?_, hfroz_of (get_push_new _ _), fun x => x⟩) ?_
      · have hj' : j < 8 := hj
        rcases (show j = 0 ∨ j = 1 ∨ j = 2 ∨ j = 3 ∨ j = 4 ∨ j = 5 ∨ j = 6 ∨ j = 7 by omega) with rfl | rfl | rfl | rfl | rfl | rfl | rfl | rfl <;> exact ⟨_, hcell_of (get_push_new _ _) rfl⟩
      rw [hsetRow_push (c := [.int .i64 0, .int .i8 0, .int .i64 0, .int .i64 0, .int .i64 0, .int .i64 0, .int .i64 0, .bool false]) (vs := leftE (nums R.log) R.val q) rfl]
      refine ER.gen (fun h' => Upd (fun _ => False) h1 h' ∧ h'[h2.size]? = some (accO (leftE (nums R.log) R.val q))) ⟨u2.trans (Upd.push _ _), get_push_new _ _⟩ ?_
      obtain ⟨y, hy⟩ : ∃ y, y = h2.size := ⟨_, rfl⟩
      rw [← hy]
      clear hy hrow hz u2 c5'
      rintro h3 ⟨u3, ly⟩
      refine ER.done (EK.seq ?_)
      generalize hr : q.2 = r at *
      by_cases hb : r.b ∈ nums R.log
      · have hE : leftE (nums R.log) R.val q = accL q.1 r.op ((nums R.log).idxOf r.b : Nat) r.arg r.new (R.val r.b) (R.val r.b) false := by unfold leftE; rw [hr, if_pos hb]
        rw [hE] at ly
        have hlt := List.idxOf_lt_length_iff.2 hb
        generalize hix : (nums R.log).idxOf r.b = ix at ly hlt
        have hget : (nums R.log)[ix]? = some r.b := by rw [← hix, List.getElem?_eq_getElem (List.idxOf_lt_length_iff.2 hb)]; simp
        obtain ⟨bN, eN, cN, fN⟩ := slice_at (now.upd u3 (fun _ _ x => x)) hget
        subst eN
        have y2 : hcell h3 ⟨y, 2, none⟩ = some (.int .i64 ix) := hcell_of ly rfl
        have y5 : hcell h3 ⟨y, 5, none⟩ = some (.int .i64 (R.val r.b)) := hcell_of ly rfl
        have y6 : hcell h3 ⟨y, 6, none⟩ = some (.int .i64 (R.val r.b)) := hcell_of ly rfl
        have y7 : hcell h3 ⟨y, 7, none⟩ = some (.bool false) := hcell_of ly rfl
        refine EK.regionAny (fun h' => h' = h3) ?_
        have hZ : h3 = h3 := rfl
        refine EA.tField 0 rfl (by kernel_rfl) rfl rfl rfl rfl hZ ?_
        refine EA.tLoad 1 rfl (by kernel_rfl) rfl rfl rfl rfl (fun _ hz => (by rw [hz]; exact y2)) hZ ?_
        refine EA.tCmpF 2 rfl (by kernel_rfl) rfl rfl rfl rfl rfl rfl (by first | (dsimp only [cmpP]; omega) | exact rfl | exact Int.le_refl _) hZ ?_
        refine EA.tMove 3 rfl (by kernel_rfl) rfl rfl rfl rfl hZ ?_
        refine EA.tField 4 rfl (by kernel_rfl) rfl rfl rfl rfl hZ ?_
        refine EA.tLoad 5 rfl (by kernel_rfl) rfl rfl rfl rfl (fun _ hz => (by rw [hz]; exact y2)) hZ ?_
        refine EA.tMove 6 rfl (by kernel_rfl) rfl rfl rfl rfl hZ ?_
        refine EA.tLen1 7 rfl (by kernel_rfl) rfl rfl rfl rfl hZ ?_
        refine EA.tCmpF 8 rfl (by kernel_rfl) rfl rfl rfl rfl rfl rfl (by first | (dsimp only [cmpP]; omega) | exact rfl | exact Int.le_refl _) hZ ?_
        refine EA.tPickF 9 rfl (by kernel_rfl) rfl rfl rfl rfl rfl hZ ?_
        refine EA.tMove 10 rfl (by kernel_rfl) rfl rfl rfl rfl hZ ?_
        refine EA.tField 11 rfl (by kernel_rfl) rfl rfl rfl rfl hZ ?_
        refine EA.tLoad 12 rfl (by kernel_rfl) rfl rfl rfl rfl (fun _ hz => (by rw [hz]; exact y2)) hZ ?_
        refine EA.tCmpT 13 rfl (by kernel_rfl) rfl rfl rfl rfl rfl rfl (by first | (dsimp only [cmpP]; omega) | exact rfl | exact Int.le_refl _) hZ ?_
        refine EA.tMove 14 rfl (by kernel_rfl) rfl rfl rfl rfl hZ ?_
        refine EA.tField 15 rfl (by kernel_rfl) rfl rfl rfl rfl hZ ?_
        refine EA.tLoad 16 rfl (by kernel_rfl) rfl rfl rfl rfl (fun _ hz => (by rw [hz]; exact y5)) hZ ?_
        refine EA.tMove 17 rfl (by kernel_rfl) rfl rfl rfl rfl hZ ?_
        refine EA.tField 18 rfl (by kernel_rfl) rfl rfl rfl rfl hZ ?_
        refine EA.tLoad 19 rfl (by kernel_rfl) rfl rfl rfl rfl (fun _ hz => (by rw [hz]; exact y2)) hZ ?_
        refine EA.tIdxS 20 rfl (by kernel_rfl) rfl rfl rfl rfl rfl (by omega) (by omega) hZ ?_
        refine EA.tLoad 21 rfl (by kernel_rfl) rfl rfl rfl rfl (fun _ hz => (by rw [hz]; exact cN)) hZ ?_
        refine EA.tCmpF 22 rfl (by kernel_rfl) rfl rfl rfl rfl rfl rfl (by first | (dsimp only [cmpP]; omega) | exact rfl | exact Int.le_refl _) hZ ?_
        refine EA.tPickT 23 rfl (by kernel_rfl) rfl rfl rfl rfl rfl hZ ?_
        refine EA.tPickF 24 rfl (by kernel_rfl) rfl rfl rfl rfl rfl hZ ?_
        refine EA.tMove 25 rfl (by kernel_rfl) rfl rfl rfl rfl hZ ?_
        refine EA.tField 26 rfl (by kernel_rfl) rfl rfl rfl rfl hZ ?_
        refine EA.tLoad 27 rfl (by kernel_rfl) rfl rfl rfl rfl (fun _ hz => (by rw [hz]; exact y5)) hZ ?_
        refine EA.tField 28 rfl (by kernel_rfl) rfl rfl rfl rfl hZ ?_
        refine EA.tLoad 29 rfl (by kernel_rfl) rfl rfl rfl rfl (fun _ hz => (by rw [hz]; exact y6)) hZ ?_
        refine EA.tCmpF 30 rfl (by kernel_rfl) rfl rfl rfl rfl rfl rfl (by first | (dsimp only [cmpP]; omega) | exact rfl | exact Int.le_refl _) hZ ?_
        refine EA.tPickF 31 rfl (by kernel_rfl) rfl rfl rfl rfl rfl hZ ?_
        refine EA.tMove 32 rfl (by kernel_rfl) rfl rfl rfl rfl hZ ?_
        refine EA.tField 33 rfl (by kernel_rfl) rfl rfl rfl rfl hZ ?_
        refine EA.tLoad 34 rfl (by kernel_rfl) rfl rfl rfl rfl (fun _ hz => (by rw [hz]; exact y7)) hZ ?_
        refine EA.tPickF 35 rfl (by kernel_rfl) rfl rfl rfl rfl rfl hZ ?_
        refine EA.done (by kernel_rfl) ?_
        (repeat (first | refine EK.region ?_ | refine ER.done ?_ | refine EK.skip ?_ | refine EK.inBlock ?_ | refine ER.move rfl rfl rfl ?_ | refine ER.assign rfl rfl rfl ?_ | refine ER.add (kd := .i64) rfl rfl rfl rfl (i64_in (by omega) (by omega)) ?_ | refine EK.condF rfl ?_))
        exact EK.back (again (k + 1) _ _ (by omega) ⟨by omega, rfl, u3⟩) ⟨rfl, rfl, rfl, trivial⟩
      · have hE : leftE (nums R.log) R.val q = accL q.1 r.op (-1) r.arg r.new (R.val r.b) (R.val r.b) false := by unfold leftE; rw [hr, if_neg hb]
        rw [hE] at ly
        have y2 : hcell h3 ⟨y, 2, none⟩ = some (.int .i64 (-1)) := hcell_of ly rfl
        have y5 : hcell h3 ⟨y, 5, none⟩ = some (.int .i64 (R.val r.b)) := hcell_of ly rfl
        have y6 : hcell h3 ⟨y, 6, none⟩ = some (.int .i64 (R.val r.b)) := hcell_of ly rfl
        have y7 : hcell h3 ⟨y, 7, none⟩ = some (.bool false) := hcell_of ly rfl
        refine EK.regionAny (fun h' => h' = h3) ?_
        have hZ : h3 = h3 := rfl
        refine EA.tField 0 rfl (by kernel_rfl) rfl rfl rfl rfl hZ ?_
        refine EA.tLoad 1 rfl (by kernel_rfl) rfl rfl rfl rfl (fun _ hz => (by rw [hz]; exact y2)) hZ ?_
        refine EA.tCmpF 2 rfl (by kernel_rfl) rfl rfl rfl rfl rfl rfl (by first | (dsimp only [cmpP]; omega) | exact rfl | exact Int.le_refl _) hZ ?_
        refine EA.tMove 3 rfl (by kernel_rfl) rfl rfl rfl rfl hZ ?_
        refine EA.tField 4 rfl (by kernel_rfl) rfl rfl rfl rfl hZ ?_
        refine EA.tLoad 5 rfl (by kernel_rfl) rfl rfl rfl rfl (fun _ hz => (by rw [hz]; exact y2)) hZ ?_
        refine EA.tMove 6 rfl (by kernel_rfl) rfl rfl rfl rfl hZ ?_
        refine EA.tLen1 7 rfl (by kernel_rfl) rfl rfl rfl rfl hZ ?_
        refine EA.tCmpF 8 rfl (by kernel_rfl) rfl rfl rfl rfl rfl rfl (by first | (dsimp only [cmpP]; omega) | exact rfl | exact Int.le_refl _) hZ ?_
        refine EA.tPickF 9 rfl (by kernel_rfl) rfl rfl rfl rfl rfl hZ ?_
        refine EA.tMove 10 rfl (by kernel_rfl) rfl rfl rfl rfl hZ ?_
        refine EA.tField 11 rfl (by kernel_rfl) rfl rfl rfl rfl hZ ?_
        refine EA.tLoad 12 rfl (by kernel_rfl) rfl rfl rfl rfl (fun _ hz => (by rw [hz]; exact y2)) hZ ?_
        refine EA.tCmpF 13 rfl (by kernel_rfl) rfl rfl rfl rfl rfl rfl (by first | (dsimp only [cmpP]; omega) | exact rfl | exact Int.le_refl _) hZ ?_
        refine EA.tMove 14 rfl (by kernel_rfl) rfl rfl rfl rfl hZ ?_
        refine EA.takeNo 15 rfl (by kernel_rfl) rfl rfl rfl hZ ?_
        refine EA.takeNo 16 rfl (by kernel_rfl) rfl rfl rfl hZ ?_
        refine EA.takeNo 17 rfl (by kernel_rfl) rfl rfl rfl hZ ?_
        refine EA.takeNo 18 rfl (by kernel_rfl) rfl rfl rfl hZ ?_
        refine EA.takeNo 19 rfl (by kernel_rfl) rfl rfl rfl hZ ?_
        refine EA.takeNo 20 rfl (by kernel_rfl) rfl rfl rfl hZ ?_
        refine EA.takeNo 21 rfl (by kernel_rfl) rfl rfl rfl hZ ?_
        refine EA.takeNo 22 rfl (by kernel_rfl) rfl rfl rfl hZ ?_
        refine EA.tPickF 23 rfl (by kernel_rfl) rfl rfl rfl rfl rfl hZ ?_
        refine EA.tPickF 24 rfl (by kernel_rfl) rfl rfl rfl rfl rfl hZ ?_
        refine EA.tMove 25 rfl (by kernel_rfl) rfl rfl rfl rfl hZ ?_
        refine EA.tField 26 rfl (by kernel_rfl) rfl rfl rfl rfl hZ ?_
        refine EA.tLoad 27 rfl (by kernel_rfl) rfl rfl rfl rfl (fun _ hz => (by rw [hz]; exact y5)) hZ ?_
        refine EA.tField 28 rfl (by kernel_rfl) rfl rfl rfl rfl hZ ?_
        refine EA.tLoad 29 rfl (by kernel_rfl) rfl rfl rfl rfl (fun _ hz => (by rw [hz]; exact y6)) hZ ?_
        refine EA.tCmpF 30 rfl (by kernel_rfl) rfl rfl rfl rfl rfl rfl (by first | (dsimp only [cmpP]; omega) | exact rfl | exact Int.le_refl _) hZ ?_
        refine EA.tPickF 31 rfl (by kernel_rfl) rfl rfl rfl rfl rfl hZ ?_
        refine EA.tMove 32 rfl (by kernel_rfl) rfl rfl rfl rfl hZ ?_
        refine EA.tField 33 rfl (by kernel_rfl) rfl rfl rfl rfl hZ ?_
        refine EA.tLoad 34 rfl (by kernel_rfl) rfl rfl rfl rfl (fun _ hz => (by rw [hz]; exact y7)) hZ ?_
        refine EA.tPickF 35 rfl (by kernel_rfl) rfl rfl rfl rfl rfl hZ ?_
        refine EA.done (by kernel_rfl) ?_
        (repeat (first | refine EK.region ?_ | refine ER.done ?_ | refine EK.skip ?_ | refine EK.inBlock ?_ | refine ER.move rfl rfl rfl ?_ | refine ER.assign rfl rfl rfl ?_ | refine ER.add (kd := .i64) rfl rfl rfl rfl (i64_in (by omega) (by omega)) ?_ | refine EK.condF rfl ?_))
        exact EK.back (again (k + 1) _ _ (by omega) ⟨by omega, rfl, u3⟩) ⟨rfl, rfl, rfl, trivial⟩
    · obtain rfl : k = R.left.length := by omega
      clear again
      (repeat (first | refine EK.seq ?_ | refine EK.region ?_ | refine ER.done ?_ | refine ER.move rfl rfl rfl ?_ | refine ER.assign rfl rfl rfl ?_ | refine ER.nilCheck rfl rfl rfl ?_ | refine ER.fieldAddr rfl rfl rfl ?_ | refine ER.cmpF rfl rfl rfl rfl rfl (by first | (dsimp only [cmpP]; omega) | exact rfl | exact Int.le_refl _) ?_ | refine ER.len1 rfl rfl rfl ?_ | refine EK.condF rfl ?_ | refine EK.ret ?_ | refine EK.exit rfl ?_ | refine ER.load1 rfl rfl rfl (by assumption) ?_))
      exact EU.ret1 rfl rfl ⟨rfl, rfl, cv, u2.get row (fun x => x), upd_then up u2 (fun _ _ x => x.elim), fst.upd u2 (fun _ _ x => x), newc⟩
end
end Go.Proofs.Ytcpcdnkemobneaa
end
section
namespace Go.Proofs.Ytcpcdnkemobneaa
open Go Go.TJ Go.Conc Go.Proofs
section
variable {Γ : Type} {main : Bool} {S : Sit Γ} {δ : Ix Γ} {h h' : Hp} {R : Rec} {picks : List Int} {lL lW lY lV sP tv cv : Value} {last : Int} {C n most : Nat} {e : Int} {X : Us}
theorem RecOk.left_len (ok : RecOk X picks R) : R.left.length ≤ 64 := by
  have h2 := rise_len (n := R.nb) (l := R.left.map (·.1)) 0 (List.pairwise_map.2 ok.rise) (fun _ _ => Nat.zero_le _) (fun a ha => by
    obtain ⟨q, hq, rfl⟩ := List.mem_map.1 ha
    exact (ok.left q hq).1)
  rw [List.length_map] at h2
  have := ok.nb
  omega
theorem RecOk.rise_at (ok : RecOk X picks R) {k : Nat} {a b : Nat × Rq} (ha : R.left[k]? = some a) (hb : R.left[k + 1]? = some b) : a.1 < b.1 := by
  obtain ⟨_, _, h1⟩ := take_mid ha
  obtain ⟨_, _, h2⟩ := take_mid hb
  have := List.pairwise_iff_getElem.1 ok.rise k (k + 1) h1 h2 (by omega)
  rw [List.getElem?_eq_getElem h1] at ha
  rw [List.getElem?_eq_getElem h2] at hb
  cases ha; cases hb
  exact this
set_option maxHeartbeats 8000000 in
set_option maxRecDepth 8000 in
theorem shape_ok (ok : RecOk X picks R) (m : RecM R picks lL lW lY lV sP h) (hC : h[C]? = some (chkO R.e R.log.length lL lW lY lV sP R.most tv cv last)) :
    CallW Try.prog main S 80 #[ptr C] h δ (Ret (Det (.bool true) h δ)) := by
  have hlen := ok.len
  have hmost := ok.most
  have hnl := ok.left_len
  obtain ⟨aW, kW, eW⟩ := m.went.val
  obtain ⟨aY, kY, eY⟩ := m.rdy.val
  obtain ⟨aV, kV, eV⟩ := m.left.val
  subst eW eY eV
  have hrd := ok.rdy
  have hwl : (R.log.map (·.thr)).length = R.log.length := List.length_map _
  rw [hwl, hrd] at hC
  have d1 : hcell h ⟨C, 1, none⟩ = some (.int .i64 R.log.length) := hcell_of hC rfl
  have d3 : hcell h ⟨C, 3, none⟩ = some (.slice aW R.log.length kW) := hcell_of hC rfl
  have d4 : hcell h ⟨C, 4, none⟩ = some (.slice aY R.log.length kY) := hcell_of hC rfl
  have d5 : hcell h ⟨C, 5, none⟩ = some (.slice aV R.left.length kV) := hcell_of hC rfl
  have d6 : hcell h ⟨C, 6, none⟩ = some nilS := hcell_of hC rfl
  have d8 : hcell h ⟨C, 8, none⟩ = some (.int .i64 R.most) := hcell_of hC rfl
  refine CallW.start (n := 101) rfl rfl ?_
  (repeat (first | refine EK.seq ?_ | refine EK.region ?_ | refine ER.done ?_ | refine ER.assign rfl rfl rfl ?_))
  refine EK.regionAny (fun h' => h' = h) ?_
  have hZ : h = h := rfl
  refine EA.tMove 0 rfl (by kernel_rfl) rfl rfl rfl rfl hZ ?_
  refine EA.tNil 1 rfl (by kernel_rfl) rfl rfl rfl rfl hZ ?_
  refine EA.tField 2 rfl (by kernel_rfl) rfl rfl rfl rfl hZ ?_
  refine EA.tField 3 rfl (by kernel_rfl) rfl rfl rfl rfl hZ ?_
  refine EA.tLoad 4 rfl (by kernel_rfl) rfl rfl rfl rfl (fun _ hz => (by rw [hz]; exact d1)) hZ ?_
  refine EA.tMove 5 rfl (by kernel_rfl) rfl rfl rfl rfl hZ ?_
  refine EA.tNil 6 rfl (by kernel_rfl) rfl rfl rfl rfl hZ ?_
  refine EA.tField 7 rfl (by kernel_rfl) rfl rfl rfl rfl hZ ?_
  refine EA.tField 8 rfl (by kernel_rfl) rfl rfl rfl rfl hZ ?_
  refine EA.tLoad 9 rfl (by kernel_rfl) rfl rfl rfl rfl (fun _ hz => (by rw [hz]; exact d3)) hZ ?_
  refine EA.tLen1 10 rfl (by kernel_rfl) rfl rfl rfl rfl hZ ?_
  refine EA.tCmpF 11 rfl (by kernel_rfl) rfl rfl rfl rfl rfl rfl (by first | (dsimp only [cmpP]; omega) | exact rfl | exact Int.le_refl _) hZ ?_
  refine EA.tMove 12 rfl (by kernel_rfl) rfl rfl rfl rfl hZ ?_
  refine EA.tMove 13 rfl (by kernel_rfl) rfl rfl rfl rfl hZ ?_
  refine EA.tNil 14 rfl (by kernel_rfl) rfl rfl rfl rfl hZ ?_
  refine EA.tField 15 rfl (by kernel_rfl) rfl rfl rfl rfl hZ ?_
  refine EA.tField 16 rfl (by kernel_rfl) rfl rfl rfl rfl hZ ?_
  refine EA.tLoad 17 rfl (by kernel_rfl) rfl rfl rfl rfl (fun _ hz => (by rw [hz]; exact d1)) hZ ?_
  refine EA.tMove 18 rfl (by kernel_rfl) rfl rfl rfl rfl hZ ?_
  refine EA.tNil 19 rfl (by kernel_rfl) rfl rfl rfl rfl hZ ?_
  refine EA.tField 20 rfl (by kernel_rfl) rfl rfl rfl rfl hZ ?_
  refine EA.tField 21 rfl (by kernel_rfl) rfl rfl rfl rfl hZ ?_
  refine EA.tLoad 22 rfl (by kernel_rfl) rfl rfl rfl rfl (fun _ hz => (by rw [hz]; exact d4)) hZ ?_
  refine EA.tLen1 23 rfl (by kernel_rfl) rfl rfl rfl rfl hZ ?_
  refine EA.tCmpF 24 rfl (by kernel_rfl) rfl rfl rfl rfl rfl rfl (by first | (dsimp only [cmpP]; omega) | exact rfl | exact Int.le_refl _) hZ ?_
  refine EA.tPickF 25 rfl (by kernel_rfl) rfl rfl rfl rfl rfl hZ ?_
  refine EA.tMove 26 rfl (by kernel_rfl) rfl rfl rfl rfl hZ ?_
  refine EA.tMove 27 rfl (by kernel_rfl) rfl rfl rfl rfl hZ ?_
  refine EA.tNil 28 rfl (by kernel_rfl) rfl rfl rfl rfl hZ ?_
  refine EA.tField 29 rfl (by kernel_rfl) rfl rfl rfl rfl hZ ?_
  refine EA.tField 30 rfl (by kernel_rfl) rfl rfl rfl rfl hZ ?_
  refine EA.tLoad 31 rfl (by kernel_rfl) rfl rfl rfl rfl (fun _ hz => (by rw [hz]; exact d1)) hZ ?_
  refine EA.tMove 32 rfl (by kernel_rfl) rfl rfl rfl rfl hZ ?_
  refine EA.tNil 33 rfl (by kernel_rfl) rfl rfl rfl rfl hZ ?_
  refine EA.tField 34 rfl (by kernel_rfl) rfl rfl rfl rfl hZ ?_
  refine EA.tLoad 35 rfl (by kernel_rfl) rfl rfl rfl rfl (fun _ hz => (by rw [hz]; exact d8)) hZ ?_
  refine EA.tCmpF 36 rfl (by kernel_rfl) rfl rfl rfl rfl rfl rfl (by first | (dsimp only [cmpP]; omega) | exact rfl | exact Int.le_refl _) hZ ?_
  refine EA.tPickF 37 rfl (by kernel_rfl) rfl rfl rfl rfl rfl hZ ?_
  refine EA.done (by kernel_rfl) ?_
  clear hZ
  (repeat (first | refine EK.seq ?_ | refine EK.region ?_ | refine ER.done ?_ | refine EK.skip ?_ | refine EK.block ?_ | refine ER.assign rfl rfl rfl ?_ | refine EK.condF rfl ?_))
  refine EK.loopInv (fun k : Nat => [(3, .int .i64 k), (0, ptr C)]) (fun k h' δ' => 1 ≤ k ∧ (k ≤ R.left.length ∨ k = 1) ∧ h' = h ∧ δ' = δ) (fun k => R.left.length - k) 1 ⟨rfl, rfl, trivial⟩ ⟨Nat.le_refl _, .inr rfl, rfl, rfl⟩ ?_
  rintro k h2 δ2 ⟨hk1, hk, rfl, rfl⟩ again
  by_cases hin : k < R.left.length
  · obtain ⟨q, rfl⟩ : ∃ q, k = q + 1 := ⟨k - 1, by omega⟩
    obtain ⟨a, ha⟩ : ∃ a, R.left[q]? = some a := ⟨_, List.getElem?_eq_getElem (by omega)⟩
    obtain ⟨b, hb⟩ : ∃ b, R.left[q + 1]? = some b := ⟨_, List.getElem?_eq_getElem hin⟩
    have hab := ok.rise_at ha hb
    obtain ⟨bV, ea, row1, hz⟩ := slice_row (leftE_len (nums R.log) R.val) m.left ha
    subst ea
    obtain ⟨bV2, ea, row2, hz⟩ := slice_row (leftE_len (nums R.log) R.val) m.left hb
    injection ea with ea
    injection ea with ea
    subst ea
    have g1 : hcell h2 ⟨bV, 0 + (((q + 1 : Nat) : Int) - 1).toNat * 8 + 0, none⟩ = some (.int .i64 a.1) := by
      rw [show (((q + 1 : Nat) : Int) - 1).toNat = q by omega]; exact row1 0 _ rfl
    have g2 : hcell h2 ⟨bV, 0 + (q + 1) * 8 + 0, none⟩ = some (.int .i64 b.1) := row2 0 _ rfl
    (repeat (first | refine EK.seq ?_ | refine EK.region ?_ | refine ER.done ?_ | refine EK.skip ?_ | refine EK.block ?_ | refine ER.move rfl rfl rfl ?_ | refine ER.nilCheck rfl rfl rfl ?_ | refine ER.fieldAddr rfl rfl rfl ?_ | refine ER.load1 rfl rfl rfl (hcell_of (by assumption) rfl) ?_ | refine ER.cmpT rfl rfl rfl rfl rfl (by first | (dsimp only [cmpP]; omega) | exact rfl | exact Int.le_refl _) ?_ | refine ER.len1 rfl rfl rfl ?_ | refine EK.condT rfl ?_))
    refine EK.regionAny (fun h' => h' = h2) ?_
    have hZ : h2 = h2 := rfl
    refine EA.tMove 0 rfl (by kernel_rfl) rfl rfl rfl rfl hZ ?_
    refine EA.tNil 1 rfl (by kernel_rfl) rfl rfl rfl rfl hZ ?_
    refine EA.tField 2 rfl (by kernel_rfl) rfl rfl rfl rfl hZ ?_
    refine EA.tField 3 rfl (by kernel_rfl) rfl rfl rfl rfl hZ ?_
    refine EA.tLoad 4 rfl (by kernel_rfl) rfl rfl rfl rfl (fun _ hz => (by rw [hz]; exact d5)) hZ ?_
    refine EA.tMove 5 rfl (by kernel_rfl) rfl rfl rfl rfl hZ ?_
    refine EA.tIdxS 6 rfl (by kernel_rfl) rfl rfl rfl rfl rfl (by omega) (by omega) hZ ?_
    refine EA.tField 7 rfl (by kernel_rfl) rfl rfl rfl rfl hZ ?_
    refine EA.tLoad 8 rfl (by kernel_rfl) rfl rfl rfl rfl (fun _ hz => (by rw [hz]; exact g2)) hZ ?_
    refine EA.tMove 9 rfl (by kernel_rfl) rfl rfl rfl rfl hZ ?_
    refine EA.tNil 10 rfl (by kernel_rfl) rfl rfl rfl rfl hZ ?_
    refine EA.tField 11 rfl (by kernel_rfl) rfl rfl rfl rfl hZ ?_
    refine EA.tField 12 rfl (by kernel_rfl) rfl rfl rfl rfl hZ ?_
    refine EA.tLoad 13 rfl (by kernel_rfl) rfl rfl rfl rfl (fun _ hz => (by rw [hz]; exact d5)) hZ ?_
    refine EA.tMove 14 rfl (by kernel_rfl) rfl rfl rfl rfl hZ ?_
    refine EA.tSub (kd := .i64) 15 rfl (by kernel_rfl) rfl rfl rfl rfl rfl (i64_in (by omega) (by omega)) hZ ?_
    refine EA.tIdxS 16 rfl (by kernel_rfl) rfl rfl rfl rfl rfl (by omega) (by omega) hZ ?_
    refine EA.tField 17 rfl (by kernel_rfl) rfl rfl rfl rfl hZ ?_
    refine EA.tLoad 18 rfl (by kernel_rfl) rfl rfl rfl rfl (fun _ hz => (by rw [hz]; exact g1)) hZ ?_
    refine EA.tCmpF 19 rfl (by kernel_rfl) rfl rfl rfl rfl rfl rfl (by first | (dsimp only [cmpP]; omega) | exact rfl | exact Int.le_refl _) hZ ?_
    refine EA.done (by kernel_rfl) ?_
    clear hZ g1 g2
    (repeat (first | refine EK.region ?_ | refine ER.done ?_ | refine EK.skip ?_ | refine EK.inBlock ?_ | refine ER.move rfl rfl rfl ?_ | refine ER.assign rfl rfl rfl ?_ | refine ER.add (kd := .i64) rfl rfl rfl rfl (i64_in (by omega) (by omega)) ?_ | refine EK.condF rfl ?_))
    exact EK.back (again (q + 1 + 1) _ _ (by omega) ⟨by omega, .inl (by omega), rfl, rfl⟩) ⟨rfl, rfl, trivial⟩
  · clear again
    (repeat (first | refine EK.seq ?_ | refine EK.region ?_ | refine ER.done ?_ | refine EK.block ?_ | refine ER.move rfl rfl rfl ?_ | refine ER.assign rfl rfl rfl ?_ | refine ER.nilCheck rfl rfl rfl ?_ | refine ER.fieldAddr rfl rfl rfl ?_ | refine ER.load1 rfl rfl rfl (hcell_of (by assumption) rfl) ?_ | refine ER.cmpF rfl rfl rfl rfl rfl (by first | (dsimp only [cmpP]; omega) | exact rfl | exact Int.le_refl _) ?_ | refine ER.len1 rfl rfl rfl ?_ | refine EK.condF rfl ?_ | refine EK.exit rfl ?_))
    refine EK.loopInv (fun k : Nat => [(4, .int .i64 1), (0, ptr C)]) (fun k h' δ' => h' = h2 ∧ δ' = δ2) (fun k => 0) 0 ⟨rfl, rfl, trivial⟩ ⟨rfl, rfl⟩ ?_
    rintro k h2 δ2 ⟨rfl, rfl⟩ -
    (repeat (first | refine EK.seq ?_ | refine EK.region ?_ | refine ER.done ?_ | refine ER.move rfl rfl rfl ?_ | refine ER.assign rfl rfl rfl ?_ | refine ER.nilCheck rfl rfl rfl ?_ | refine ER.fieldAddr rfl rfl rfl ?_ | refine ER.load1 rfl rfl rfl (hcell_of (by assumption) rfl) ?_ | refine ER.cmpF rfl rfl rfl rfl rfl (by first | (dsimp only [cmpP]; omega) | exact rfl | exact Int.le_refl _) ?_ | refine ER.len1 rfl rfl rfl ?_ | refine EK.condF rfl ?_ | refine EK.ret ?_ | refine EK.exit rfl ?_))
    exact EU.ret1 rfl rfl det
end
end Go.Proofs.Ytcpcdnkemobneaa
end
section
namespace Go.Proofs.Ytcpcdnkemobneaa
open Go Go.TJ Go.Conc Go.Proofs
theorem sliceO_two {h : Hp} {s s' : Value} {e e' sz sz' n n' : Nat} {cells cells' : List Value} (x : SliceO h s e sz n cells) (y : SliceO h s' e' sz' n' cells') (hne : e ≠ e') : ∀ b, blk s = some b → blk s' ≠ some b := by
  intro b hb hb'
  obtain ⟨_, ⟨rfl, _⟩ | ⟨b1, cap, rest, rfl, h1, h2, h3⟩⟩ := y
  · cases hb'
  · cases hb'
    exact sliceO_ne x h3 hne _ hb rfl
structure ChkI (R : Rec) (lL lW lY lV sP : Value) (h0 : Hp) (C : Nat) (tv cv : Value) (last : Int) (thr : List Nat) (cl : List Int) (h : Hp) : Prop where
  up : Upd (fun _ => False) h0 h
  row : h[C]? = some (chkO R.e R.log.length lL lW lY lV sP R.most tv cv last)
  thr : SliceO h tv 3 1 thr.length (thr.map fun (n : Nat) => Value.int .i64 (n : Int))
  cel : SliceO h cv 2 1 cl.length (cl.map fun x => Value.int .i64 x)
  nC : h0.size ≤ C
  nt : ∀ b, blk tv = some b → h0.size ≤ b
  nc : ∀ b, blk cv = some b → h0.size ≤ b
def TI (R : Rec) (k : Nat) (thr : List Nat) : Prop := ∀ j t, thr[j]? = some t → t ≤ R.log.length ∧ ∀ i e, k ≤ i → i < t → R.log[i]? = some e → e.thr ≠ j
theorem TI.mono {R : Rec} {k k' : Nat} {thr : List Nat} (x : TI R k thr) (hk : k ≤ k') : TI R k' thr := fun j t ht => ⟨(x j t ht).1, fun i e hi => (x j t ht).2 i e (by omega)⟩
theorem TI.set {R : Rec} {k j t : Nat} {thr : List Nat} (x : TI R k thr) (h1 : t ≤ R.log.length) (h2 : ∀ i e, k ≤ i → i < t → R.log[i]? = some e → e.thr ≠ j) : TI R k (thr.set j t) := by
  intro j' t' ht
  by_cases e : j' = j
  · subst e
    have hlt : j' < thr.length := by have := (take_mid ht).2.2; simpa using this
    rw [List.getElem?_set_self hlt] at ht
    cases ht
    exact ⟨h1, h2⟩
  · rw [List.getElem?_set_ne (Ne.symm e)] at ht
    exact x j' t' ht
section
variable {R : Rec} {k j : Nat}
theorem mem_alive : j ∈ R.alive k ↔ j < R.nb ∧ ((∃ q, q ∈ R.left ∧ q.1 = j) ∨ ∃ i e, k ≤ i ∧ R.log[i]? = some e ∧ e.thr = j) := by
  unfold Rec.alive
  rw [List.mem_filter, List.mem_range, Bool.or_eq_true, List.any_eq_true, List.any_eq_true]
  refine and_congr_right fun _ => or_congr ?_ ?_
  · constructor
    · rintro ⟨q, hq, e⟩; exact ⟨q, hq, by simpa using e⟩
    · rintro ⟨q, hq, e⟩; exact ⟨q, hq, by simpa using e⟩
  · constructor
    · rintro ⟨e, he, h⟩
      obtain ⟨i, hi, rfl⟩ := List.mem_iff_getElem.1 he
      have := List.getElem?_eq_getElem hi
      rw [List.getElem?_drop] at this
      exact ⟨k + i, _, by omega, this, by simpa using h⟩
    · rintro ⟨i, e, hi, he, h⟩
      refine ⟨e, List.mem_of_getElem? (i := i - k) ?_, by simpa using h⟩
      rw [List.getElem?_drop, show k + (i - k) = i by omega]
      exact he
theorem alive_at {i : Nat} {e : Ev} (hj : j < R.nb) (hi : k ≤ i) (he : R.log[i]? = some e) (h : e.thr = j) : j ∈ R.alive k := mem_alive.2 ⟨hj, .inr ⟨i, e, hi, he, h⟩⟩
end
section
variable {Γ : Type} {main : Bool} {S : Sit Γ} {δ : Ix Γ} {h h' h0 : Hp} {R : Rec} {picks : List Int} {lL lW lY lV sP tv cv : Value} {last : Int} {C n k j : Nat} {e : Int} {X : Us} {thr : List Nat} {cl : List Int}
theorem ChkI.upd0 (I : ChkI R lL lW lY lV sP h0 C tv cv last thr cl h) (u : Upd (fun _ => False) h h') : ChkI R lL lW lY lV sP h0 C tv cv last thr cl h' :=
  ⟨I.up.trans u, u.get I.row (fun x => x), I.thr.upd u (fun _ _ x => x), I.cel.upd u (fun _ _ x => x), I.nC, I.nt, I.nc⟩
theorem ChkI.other (I : ChkI R lL lW lY lV sP h0 C tv cv last thr cl h) {y : Nat} {vs : List Value} (hy : h[y]? = some (accO vs)) (hy0 : h0.size ≤ y) (o : Obj) : ChkI R lL lW lY lV sP h0 C tv cv last thr cl (h.setIfInBounds y o) := by
  have u : Upd (fun b => b = y) h (h.setIfInBounds y o) := Upd.set _ _ _ rfl
  have hyC : C ≠ y := fun e => by
    have := I.row
    rw [e, hy] at this
    injection this with this
    injection this with _ this _
    revert this; decide
  exact ⟨I.up.over u (fun b hb => by omega), u.get I.row hyC, I.thr.upd u (sliceO_ne I.thr hy (by decide)), I.cel.upd u (sliceO_ne I.cel hy (by decide)), I.nC, I.nt, I.nc⟩
theorem ChkI.setT {b cap : Nat} (I : ChkI R lL lW lY lV sP h0 C (.slice (some ⟨b, 0, none⟩) thr.length cap) cv last thr cl h) {j t : Nat} (hj : j < thr.length) : ChkI R lL lW lY lV sP h0 C (.slice (some ⟨b, 0, none⟩) thr.length cap) cv last (thr.set j t) cl (hset h ⟨b, 0 + j * 1, none⟩ (.int .i64 t)) := by
  have u : Upd (fun x => x = b) h (hset h ⟨b, 0 + j * 1, none⟩ (.int .i64 t)) := Upd.hset _ _ _ rfl
  have hb := I.nt b rfl
  have e1 : 0 + j * 1 = j := by omega
  refine ⟨I.up.over u (fun b' hb' => by omega), u.get I.row (fun e => sliceO_ne I.thr I.row (by decide) b rfl e.symm), ?_, I.cel.upd u (fun b' hb' e => sliceO_two I.thr I.cel (by decide) b rfl (by rw [← e]; exact hb')), I.nC, I.nt, I.nc⟩
  have := I.thr.set (j := j) (by rw [List.length_map]; exact hj) (.int .i64 t)
  rw [e1, List.map_set, List.length_set]
  exact this
theorem acc_all {y : Nat} {vs : List Value} {h : Hp} (hl : vs.length = 8) (hy : h[y]? = some (accO vs)) : ∀ j, j < 8 → (∃ u, hcell h ⟨y, 0 + j, none⟩ = some u) ∧ hfroz h ⟨y, 0 + j, none⟩ = false ∧ ¬ (NoS (Γ := Γ)).still δ.g ⟨y, 0 + j, none⟩ := fun j hj => by
  obtain ⟨v, hv⟩ : ∃ v, vs[j]? = some v := ⟨_, List.getElem?_eq_getElem (by omega)⟩
  refine ⟨⟨v, ?_⟩, hfroz_of hy, fun x => x⟩
  rw [Nat.zero_add]
  exact hcell_of hy (by simp only [List.getElem?_toArray]; exact hv)
set_option maxHeartbeats 8000000 in
set_option maxRecDepth 8000 in
theorem next_ok (ok : RecOk X picks R) (m : RecM R picks lL lW lY lV sP h0) (I : ChkI R lL lW lY lV sP h0 C tv cv last thr cl h) (hl : thr.length = R.nb) (ti : TI R k thr) (hj : j < R.nb) (hk : k ≤ R.log.length) :
    CallW Try.prog main (NoS (Γ := Γ)) 177 #[ptr C, .int .i64 j, .int .i64 k] h δ (Ret fun v h' δ' => δ' = δ ∧ ∃ (thr' : List Nat) (t o c a n w x : Int) (f b : Bool), v = .tuple #[.agg (accL t o c a n w x f).toArray, .bool b] ∧ (b = true ↔ j ∈ R.alive k) ∧ (b = true → 1 ≤ o ∧ o ≤ 5 ∧ -1 ≤ c ∧ c < (nums R.log).length) ∧
      thr'.length = R.nb ∧ TI R k thr' ∧ ChkI R lL lW lY lV sP h0 C tv cv last thr' cl h' ∧ Upd (fun b => blk tv = some b) h h') := by
  have hlen := ok.len
  have hmost := ok.most
  have hnl := ok.left_len
  have hnb := ok.nb
  obtain ⟨aL, kL, eL⟩ := m.log.val
  obtain ⟨aV, kV, eV⟩ := m.left.val
  obtain ⟨aT, kT, eT⟩ := I.thr.val
  subst eL eV eT
  obtain ⟨t0, ht0⟩ : ∃ t0, thr[j]? = some t0 := ⟨_, List.getElem?_eq_getElem (by omega)⟩
  obtain ⟨ht1, ht2⟩ := ti j t0 ht0
  obtain ⟨bT, eT, cT, fT⟩ := slice_at I.thr ht0
  subst eT
  have hjl : j < thr.length := by omega
  obtain ⟨y, hy⟩ : ∃ y, y = h.size := ⟨_, rfl⟩
  have hy0 : h0.size ≤ y := by have := I.up.size; omega
  refine CallW.start (n := 109) rfl rfl ?_
  (repeat (first | refine EK.seq ?_ | refine EK.region ?_ | refine ER.done ?_ | refine ER.move rfl rfl rfl ?_ | refine ER.assign rfl rfl rfl ?_ | refine ER.nilCheck rfl rfl rfl ?_ | refine ER.fieldAddr rfl rfl rfl ?_ | refine ER.allocA rfl rfl ?_))
  refine ER.gen (fun h' => ChkI R (.slice aL R.log.length kL) lW lY (.slice aV R.left.length kV) sP h0 C (.slice (some ⟨bT, 0, none⟩) thr.length kT) cv last thr cl h' ∧ Upd (fun _ => False) h h' ∧ h'[y]? = some (accO [.int .i64 0, .int .i8 0, .int .i64 0, .int .i64 0, .int .i64 0, .int .i64 0, .int .i64 0, .bool false])) ⟨I.upd0 (Upd.push _ _), Upd.push _ _, by rw [hy]; exact get_push_new _ _⟩ ?_
  rw [← hy]
  have hys : h.size ≤ y := by omega
  clear I cT fT hy
  rintro h1 ⟨I, u1, ly⟩
  obtain ⟨bT', eT, cT, fT⟩ := slice_at I.thr ht0
  injection eT with eT
  injection eT with eT
  subst eT
  have c9 : hcell h1 ⟨C, 9, none⟩ = some (.slice (some ⟨bT, 0, none⟩) thr.length kT) := hcell_of I.row rfl
  have c2 : hcell h1 ⟨C, 2, none⟩ = some (.slice aL R.log.length kL) := hcell_of I.row rfl
  obtain ⟨i0, hi0⟩ : ∃ i0, i0 = max k t0 := ⟨_, rfl⟩
  (repeat (first | refine ER.move rfl rfl rfl ?_ | refine ER.indexSl rfl rfl rfl rfl (by omega) (by omega) ?_ | refine ER.load1 rfl rfl rfl (by assumption) ?_))
  refine ER.max (r := (i0 : Int)) rfl rfl rfl rfl (by split <;> omega) ?_
  (repeat (first | refine ER.done ?_ | refine EK.block ?_ | refine ER.assign rfl rfl rfl ?_))
  refine EK.loopInv (fun i : Nat => [(8, .int .i64 i), (6, ptr y), (0, ptr C), (1, .int .i64 j)]) (fun i h' δ' => k ≤ i ∧ i ≤ R.log.length ∧ (∀ i' e, k ≤ i' → i' < i → R.log[i']? = some e → e.thr ≠ j) ∧ h' = h1 ∧ δ' = δ) (fun i => R.log.length - i) i0 ⟨rfl, rfl, rfl, rfl, trivial⟩ ⟨by omega, by omega, fun i' e h1 h2 h3 => ht2 i' e h1 (by omega) h3, rfl, rfl⟩ ?_
  rintro i h2 δ2 ⟨hik, hil, hno, rfl, rfl⟩ again
  by_cases hin : i < R.log.length
  · obtain ⟨e, he⟩ : ∃ e, R.log[i]? = some e := ⟨_, List.getElem?_eq_getElem hin⟩
    obtain ⟨bL, ea, hrow, hz⟩ := slice_row (entL_len (nums R.log)) (m.log.upd I.up (fun _ _ x => x)) he
    subst ea
    have w0 : hcell h2 ⟨bL, 0 + i * 8 + 0, none⟩ = some (.int .i64 e.thr) := hrow 0 _ rfl
    have w1 : hcell h2 ⟨bL, 0 + i * 8 + 1, none⟩ = some (.int .i8 e.op) := hrow 1 _ rfl
    obtain ⟨w, i1, r, cw, hr, e1, ch2⟩ := ok.chain.inv he
    have hop1 : 1 ≤ e.op := by rw [e1]; exact hr.op1
    have hop2 : e.op ≤ 5 := by rw [e1]; exact hr.op2
    obtain ⟨-, i2, i3, -⟩ := idx_at he
    have hixl : (nums R.log).idxOf e.b < (nums R.log).length := by
      refine List.idxOf_lt_length_iff.2 ((nums_mem _ _).2 ⟨e, List.mem_of_getElem? he, rfl⟩)
    by_cases hej : e.thr = j
    · (repeat (first | refine EK.seq ?_ | refine EK.region ?_ | refine ER.done ?_ | refine EK.skip ?_ | refine EK.block ?_ | refine ER.move rfl rfl rfl ?_ | refine ER.nilCheck rfl rfl rfl ?_ | refine ER.fieldAddr rfl rfl rfl ?_ | refine ER.pickT rfl rfl rfl rfl ?_ | refine ER.cmpT rfl rfl rfl rfl rfl (by first | (dsimp only [cmpP]; omega) | exact rfl | exact Int.le_refl _) ?_ | refine ER.len1 rfl rfl rfl ?_ | refine ER.indexSl rfl rfl rfl rfl (by omega) (by omega) ?_ | refine EK.condT rfl ?_ | refine ER.load1 rfl rfl rfl (by assumption) ?_))
      refine ER.store1 rfl rfl rfl ⟨nofun, nofun⟩ ⟨_, cT⟩ (fT _) (fun x => x) ?_
      have I2 := I.setT (j := j) (t := i) hjl
      have row2 := hset_ne h2 ⟨bT, 0 + j * 1, none⟩ (.int .i64 i) (r := y) (fun e => sliceO_ne I.thr ly (by decide) bT rfl e)
      rw [ly] at row2
      have hrow2 : TJ.hrow (hset h2 ⟨bT, 0 + j * 1, none⟩ (.int .i64 i)) bL (0 + i * 8) (entL (nums R.log) e) := by
        obtain ⟨bL', ea, hrow2, -⟩ := slice_row (entL_len (nums R.log)) (m.log.upd I2.up (fun _ _ x => x)) he
        injection ea with ea
        injection ea with ea
        subst ea
        exact hrow2
      change ER _ _ _ _ _ _ _ _ _ _ (hset h2 ⟨bT, 0 + j * 1, none⟩ (.int .i64 i)) _ _
      have U2 : Upd (fun b => blk (.slice (some ⟨bT, 0, none⟩) thr.length kT) = some b) h (hset h2 ⟨bT, 0 + j * 1, none⟩ (.int .i64 i)) := upd_then (u1.mono (fun _ _ x => x.elim)) (Upd.hset (T := fun b => blk (.slice (some ⟨bT, 0, none⟩) thr.length kT) = some b) _ _ _ rfl) (fun _ _ x => x)
      generalize hset h2 ⟨bT, 0 + j * 1, none⟩ (.int .i64 i) = h3 at I2 row2 hrow2 U2 ⊢
      clear I c9 c2 ly cT fT hrow w0 w1 again
      have c2 : hcell h3 ⟨C, 2, none⟩ = some (.slice (some ⟨bL, 0, none⟩) R.log.length kL) := hcell_of I2.row rfl
      (repeat (first | refine EK.seq ?_ | refine EK.region ?_ | refine ER.done ?_ | refine ER.move rfl rfl rfl ?_ | refine ER.nilCheck rfl rfl rfl ?_ | refine ER.fieldAddr rfl rfl rfl ?_ | refine ER.indexSl rfl rfl rfl rfl (by omega) (by omega) ?_ | refine ER.load1 rfl rfl rfl (by assumption) ?_))
      refine ER.loadN (vs := entL (nums R.log) e) rfl rfl rfl rfl hrow2 ?_
      refine ER.storeN (vs := entL (nums R.log) e) rfl rfl rfl rfl (by simp [entL, accL, OneCell]) (acc_all rfl row2) ?_
      rw [row_set (c := [.int .i64 0, .int .i8 0, .int .i64 0, .int .i64 0, .int .i64 0, .int .i64 0, .int .i64 0, .bool false]) (vs := entL (nums R.log) e) row2 rfl]
      (repeat (first | refine ER.done ?_ | refine ER.assign rfl rfl rfl ?_ | refine EK.ret ?_))
      refine EU.retCell (vs := entL (nums R.log) e) rfl rfl rfl (hrow_block (rest := []) (by rw [List.append_nil]; exact get_set_same row2)) rfl ⟨rfl, thr.set j i, _, _, _, _, _, _, _, _, true, rfl, ⟨fun _ => alive_at hj hik he hej, fun _ => rfl⟩, fun _ => ⟨hop1, hop2, by omega, by omega⟩, by rw [List.length_set]; exact hl, ti.set hil hno, I2.other row2 hy0 _, upd_then U2 (Upd.set (T := fun b => b = y) _ _ _ rfl) (fun b hb e => by omega)⟩
    · (repeat (first | refine EK.seq ?_ | refine EK.region ?_ | refine ER.done ?_ | refine EK.skip ?_ | refine EK.block ?_ | refine EK.inBlock ?_ | refine ER.move rfl rfl rfl ?_ | refine ER.assign rfl rfl rfl ?_ | refine ER.nilCheck rfl rfl rfl ?_ | refine ER.fieldAddr rfl rfl rfl ?_ | refine ER.no rfl rfl ?_ | refine ER.pickF rfl rfl rfl rfl ?_ | refine ER.cmpT rfl rfl rfl rfl rfl (by first | (dsimp only [cmpP]; omega) | exact rfl | exact Int.le_refl _) ?_ | refine ER.cmpF rfl rfl rfl rfl rfl (by first | (dsimp only [cmpP]; omega) | exact rfl | exact Int.le_refl _) ?_ | refine ER.add (kd := .i64) rfl rfl rfl rfl (i64_in (by omega) (by omega)) ?_ | refine ER.len1 rfl rfl rfl ?_ | refine ER.indexSl rfl rfl rfl rfl (by omega) (by omega) ?_ | refine EK.condT rfl ?_ | refine EK.condF rfl ?_ | refine ER.load1 rfl rfl rfl (by assumption) ?_))
      exact EK.back (again (i + 1) _ _ (by omega) ⟨by omega, by omega, fun i' e' h1 h2 h3 => by
        by_cases e'' : i' = i
        · subst e''
          rw [he] at h3; cases h3; exact hej
        · exact hno i' e' h1 (by omega) h3, rfl, rfl⟩) ⟨rfl, rfl, rfl, rfl, trivial⟩
  · obtain rfl : i = R.log.length := by omega
    clear again hin
    (repeat (first | refine EK.seq ?_ | refine EK.region ?_ | refine ER.done ?_ | refine ER.move rfl rfl rfl ?_ | refine ER.nilCheck rfl rfl rfl ?_ | refine ER.fieldAddr rfl rfl rfl ?_ | refine ER.cmpF rfl rfl rfl rfl rfl (by first | (dsimp only [cmpP]; omega) | exact rfl | exact Int.le_refl _) ?_ | refine ER.len1 rfl rfl rfl ?_ | refine EK.condF rfl ?_ | refine EK.exit rfl ?_ | refine ER.load1 rfl rfl rfl (by assumption) ?_))
    refine EK.regionAnyL (fun h' => hcell h' ⟨C, 9, none⟩ = some (.slice (some ⟨bT, 0, none⟩) thr.length kT) ∧ hcell h' ⟨C, 2, none⟩ = some (.slice aL R.log.length kL)) 12 ?_
    have hZ : _ ∧ _ := And.intro c9 c2
    refine EA.tMove 0 rfl (by kernel_rfl) rfl rfl rfl rfl hZ ?_
    refine EA.tNil 1 rfl (by kernel_rfl) rfl rfl rfl rfl hZ ?_
    refine EA.tField 2 rfl (by kernel_rfl) rfl rfl rfl rfl hZ ?_
    refine EA.tLoad 3 rfl (by kernel_rfl) rfl rfl rfl rfl (fun _ hz => hz.1) hZ ?_
    refine EA.tMove 4 rfl (by kernel_rfl) rfl rfl rfl rfl hZ ?_
    refine EA.tMove 5 rfl (by kernel_rfl) rfl rfl rfl rfl hZ ?_
    refine EA.tNil 6 rfl (by kernel_rfl) rfl rfl rfl rfl hZ ?_
    refine EA.tField 7 rfl (by kernel_rfl) rfl rfl rfl rfl hZ ?_
    refine EA.tField 8 rfl (by kernel_rfl) rfl rfl rfl rfl hZ ?_
    refine EA.tLoad 9 rfl (by kernel_rfl) rfl rfl rfl rfl (fun _ hz => hz.2) hZ ?_
    refine EA.tLen1 10 rfl (by kernel_rfl) rfl rfl rfl rfl hZ ?_
    refine EA.val 11 rfl (by kernel_rfl) rfl rfl rfl (fun ρ Q X hρ hq => sem_indexSl (hρ _ _ rfl) (hρ _ _ rfl) (by omega) (by omega) hq) hZ ?_
    refine EA.unitL (h' := hset h2 ⟨bT, 0 + j * 1, none⟩ (.int .i64 R.log.length)) 12 rfl (by kernel_rfl) rfl rfl rfl (fun ρ Q X hρ hq => sem_store1 (hρ _ _ rfl) (hρ _ _ rfl) ⟨nofun, nofun⟩ ⟨_, cT⟩ (fT _) (fun x => x) hq) ?_
    refine EA.done (by kernel_rfl) ?_
    have I2 := I.setT (j := j) (t := R.log.length) hjl
    have row2 := hset_ne h2 ⟨bT, 0 + j * 1, none⟩ (.int .i64 R.log.length) (r := y) (fun e => sliceO_ne I.thr ly (by decide) bT rfl e)
    rw [ly] at row2
    have U2 : Upd (fun b => blk (.slice (some ⟨bT, 0, none⟩) thr.length kT) = some b) h (hset h2 ⟨bT, 0 + j * 1, none⟩ (.int .i64 R.log.length)) := upd_then (u1.mono (fun _ _ x => x.elim)) (Upd.hset (T := fun b => blk (.slice (some ⟨bT, 0, none⟩) thr.length kT) = some b) _ _ _ rfl) (fun _ _ x => x)
    generalize hset h2 ⟨bT, 0 + j * 1, none⟩ (.int .i64 R.log.length) = h3 at I2 row2 U2 ⊢
    clear hZ I c9 c2 ly cT fT
    have c5 : hcell h3 ⟨C, 5, none⟩ = some (.slice aV R.left.length kV) := hcell_of I2.row rfl
    (repeat (first | refine EK.seq ?_ | refine EK.region ?_ | refine ER.done ?_ | refine EK.block ?_ | refine ER.assign rfl rfl rfl ?_))
    refine EK.loopInv (fun i : Nat => [(9, .int .i64 i), (6, ptr y), (0, ptr C), (1, .int .i64 j)]) (fun i h' δ' => i ≤ R.left.length ∧ (∀ i' q, i' < i → R.left[i']? = some q → q.1 ≠ j) ∧ h' = h3 ∧ δ' = δ2) (fun i => R.left.length - i) 0 ⟨rfl, rfl, rfl, rfl, trivial⟩ ⟨Nat.zero_le _, fun i' q h => by omega, rfl, rfl⟩ ?_
    rintro i h3 δ3 ⟨hil2, hno2, rfl, rfl⟩ again
    by_cases hin : i < R.left.length
    · obtain ⟨q, hq⟩ : ∃ q, R.left[i]? = some q := ⟨_, List.getElem?_eq_getElem hin⟩
      obtain ⟨bV, ea, hrow, hz⟩ := slice_row (leftE_len (nums R.log) R.val) (m.left.upd I2.up (fun _ _ x => x)) hq
      subst ea
      have w0 : hcell h3 ⟨bV, 0 + i * 8 + 0, none⟩ = some (.int .i64 q.1) := hrow 0 _ rfl
      obtain ⟨hqn, hqr⟩ := ok.left q (List.mem_of_getElem? hq)
      by_cases hej : q.1 = j
      · (repeat (first | refine EK.seq ?_ | refine EK.region ?_ | refine ER.done ?_ | refine EK.skip ?_ | refine EK.block ?_ | refine ER.move rfl rfl rfl ?_ | refine ER.nilCheck rfl rfl rfl ?_ | refine ER.fieldAddr rfl rfl rfl ?_ | refine ER.cmpT rfl rfl rfl rfl rfl (by first | (dsimp only [cmpP]; omega) | exact rfl | exact Int.le_refl _) ?_ | refine ER.len1 rfl rfl rfl ?_ | refine ER.indexSl rfl rfl rfl rfl (by omega) (by omega) ?_ | refine EK.condT rfl ?_ | refine ER.load1 rfl rfl rfl (by assumption) ?_))
        refine ER.loadN (vs := leftE (nums R.log) R.val q) rfl rfl rfl rfl hrow ?_
        refine ER.storeN (vs := leftE (nums R.log) R.val q) rfl rfl rfl rfl (by simp [leftE, accL, OneCell]) (acc_all rfl row2) ?_
        rw [row_set (c := [.int .i64 0, .int .i8 0, .int .i64 0, .int .i64 0, .int .i64 0, .int .i64 0, .int .i64 0, .bool false]) (vs := leftE (nums R.log) R.val q) row2 rfl]
        (repeat (first | refine ER.done ?_ | refine ER.assign rfl rfl rfl ?_ | refine EK.ret ?_))
        refine EU.retCell (vs := leftE (nums R.log) R.val q) rfl rfl rfl (hrow_block (rest := []) (by rw [List.append_nil]; exact get_set_same row2)) rfl ⟨rfl, thr.set j R.log.length, _, _, _, _, _, _, _, _, true, rfl, ⟨fun _ => mem_alive.2 ⟨hj, .inl ⟨q, List.mem_of_getElem? hq, hej⟩⟩, fun _ => rfl⟩, fun _ => ⟨hqr.op1, hqr.op2, ?_, ?_⟩, by rw [List.length_set]; exact hl, ti.set (Nat.le_refl _) hno, I2.other row2 hy0 _, upd_then U2 (Upd.set (T := fun b => b = y) _ _ _ rfl) (fun b hb e => by omega)⟩
        · split <;> omega
        · split
          · rename_i hb
            have := List.idxOf_lt_length_iff.2 hb
            omega
          · omega
      · (repeat (first | refine EK.seq ?_ | refine EK.region ?_ | refine ER.done ?_ | refine EK.skip ?_ | refine EK.block ?_ | refine EK.inBlock ?_ | refine ER.move rfl rfl rfl ?_ | refine ER.assign rfl rfl rfl ?_ | refine ER.nilCheck rfl rfl rfl ?_ | refine ER.fieldAddr rfl rfl rfl ?_ | refine ER.cmpT rfl rfl rfl rfl rfl (by first | (dsimp only [cmpP]; omega) | exact rfl | exact Int.le_refl _) ?_ | refine ER.cmpF rfl rfl rfl rfl rfl (by first | (dsimp only [cmpP]; omega) | exact rfl | exact Int.le_refl _) ?_ | refine ER.add (kd := .i64) rfl rfl rfl rfl (i64_in (by omega) (by omega)) ?_ | refine ER.len1 rfl rfl rfl ?_ | refine ER.indexSl rfl rfl rfl rfl (by omega) (by omega) ?_ | refine EK.condT rfl ?_ | refine EK.condF rfl ?_ | refine ER.load1 rfl rfl rfl (by assumption) ?_))
        exact EK.back (again (i + 1) _ _ (by omega) ⟨by omega, fun i' q' h1 h3 => by
          by_cases e'' : i' = i
          · subst e''
            rw [hq] at h3; cases h3; exact hej
          · exact hno2 i' q' (by omega) h3, rfl, rfl⟩) ⟨rfl, rfl, rfl, rfl, trivial⟩
    · obtain rfl : i = R.left.length := by omega
      clear again hin
      have hna : j ∉ R.alive k := fun hm => by
        obtain ⟨_, ⟨q, hq, e⟩ | ⟨i, e, h1, h2, h3⟩⟩ := mem_alive.1 hm
        · obtain ⟨i, hi⟩ := List.getElem?_of_mem hq
          exact hno2 i q (take_mid hi).2.2 hi e
        · exact hno i e h1 (take_mid h2).2.2 h2 h3
      (repeat (first | refine EK.seq ?_ | refine EK.region ?_ | refine ER.done ?_ | refine ER.move rfl rfl rfl ?_ | refine ER.nilCheck rfl rfl rfl ?_ | refine ER.fieldAddr rfl rfl rfl ?_ | refine ER.cmpF rfl rfl rfl rfl rfl (by first | (dsimp only [cmpP]; omega) | exact rfl | exact Int.le_refl _) ?_ | refine ER.len1 rfl rfl rfl ?_ | refine EK.condF rfl ?_ | refine EK.exit rfl ?_ | refine ER.load1 rfl rfl rfl (by assumption) ?_))
      refine ER.buildS (cells := #[.int .i64 0, .int .i8 0, .int .i64 0, .int .i64 0, .int .i64 0, .int .i64 0, .int .i64 0, .bool false]) rfl rfl rfl rfl ?_
      refine ER.storeN (vs := accL 0 0 0 0 0 0 0 false) rfl rfl rfl rfl (by simp [accL, OneCell]) (acc_all rfl row2) ?_
      rw [row_set (c := [.int .i64 0, .int .i8 0, .int .i64 0, .int .i64 0, .int .i64 0, .int .i64 0, .int .i64 0, .bool false]) (vs := accL 0 0 0 0 0 0 0 false) row2 rfl]
      (repeat (first | refine ER.done ?_ | refine ER.assign rfl rfl rfl ?_ | refine EK.ret ?_))
      exact EU.retCell (vs := accL 0 0 0 0 0 0 0 false) rfl rfl rfl (hrow_block (rest := []) (by rw [List.append_nil]; exact get_set_same row2)) rfl ⟨rfl, thr.set j R.log.length, _, _, _, _, _, _, _, _, false, rfl, ⟨fun e => (by cases e), fun e => absurd e hna⟩, fun e => (by cases e), by rw [List.length_set]; exact hl, ti.set (Nat.le_refl _) hno, I2.other row2 hy0 _, upd_then U2 (Upd.set (T := fun b => b = y) _ _ _ rfl) (fun b hb e => by omega)⟩
end
end Go.Proofs.Ytcpcdnkemobneaa
end
section
namespace Go.Proofs.Ytcpcdnkemobneaa
open Go Go.TJ Go.Conc Go.Proofs
abbrev Nme := Int × Int
def nmeL (n : Nme) : List Value := [.int .i64 n.1, .int .i64 n.2]
abbrev nmeV (n : Nme) : Value := .agg #[.int .i64 n.1, .int .i64 n.2]
theorem nmeL_len (n : Nme) : (nmeL n).length = 2 := rfl
structure WS where
  q : List (Bool × Nme)
  hs : List (Nme × Int)
  nv : Value
  gv : Value
  fv : Value
  hv : Value
  ov : Value
def lookN : List (Nme × Int) → Nme → Int
  | [], _ => 0
  | (m, v) :: l, n => if m = n then v else lookN l n
theorem lookN_at {n : Nme} : ∀ {l : List (Nme × Int)} {k : Nat} {v : Int}, (∀ j q, j < k → l[j]? = some q → q.1 ≠ n) → l[k]? = some (n, v) → lookN l n = v
  | [], _, _, _, h => by cases h
  | (m, w) :: l, 0, v, _, h => by
    injection (show some (m, w) = some (n, v) from h) with h
    injection h with h1 h2
    subst h1 h2
    exact if_pos rfl
  | (m, w) :: l, k + 1, v, h0, h => by
    have : m ≠ n := h0 0 _ (by omega) rfl
    unfold lookN
    rw [if_neg this]
    exact lookN_at (fun j q hj hq => h0 (j + 1) q (by omega) hq) h
theorem lookN_no {n : Nme} : ∀ {l : List (Nme × Int)}, (∀ q, q ∈ l → q.1 ≠ n) → lookN l n = 0
  | [], _ => rfl
  | (m, w) :: l, h => by
    unfold lookN
    rw [if_neg (h (m, w) (by simp))]
    exact lookN_no fun q hq => h q (by simp [hq])
abbrev wkL (e : Int) (n : Nat) (lL lW lY lV : Value) (s : WS) : List Value := [.int .i8 e, .int .i64 n, lL, lW, lY, lV, nilS, .bool false, s.nv, s.gv, s.fv, s.hv, s.ov]
abbrev wkO (e : Int) (n : Nat) (lL lW lY lV : Value) (s : WS) : Obj := .cells (wkL e n lL lW lY lV s).toArray 66 (0, 0)
abbrev wrO (W i : Nat) (out : Bool) (t : Nat) : Obj := .cells #[ptr W, .int .i64 i, .bool out, .int .i64 t] 60 (0, 0)
structure WkI (R : Rec) (nm : Nat → Nme) (lL lW lY lV : Value) (h0 : Hp) (W : Nat) (F : List Int) (s : WS) (h : Hp) : Prop where
  up : Upd (fun _ => False) h0 h
  row : h[W]? = some (wkO R.e R.log.length lL lW lY lV s)
  nms : SliceO h s.nv 210 2 s.q.length (s.q.flatMap fun x => nmeL x.2)
  giv : SliceO h s.gv 4 1 s.q.length (s.q.map fun x => Value.bool x.1)
  fst : SliceO h s.fv 2 1 F.length (F.map fun x => Value.int .i64 x)
  hav : SliceO h s.hv 210 2 s.hs.length (s.hs.flatMap fun x => nmeL x.1)
  hol : SliceO h s.ov 2 1 s.hs.length (s.hs.map fun x => Value.int .i64 x.2)
  nW : h0.size ≤ W
  n1 : ∀ b, blk s.nv = some b → h0.size ≤ b
  n2 : ∀ b, blk s.gv = some b → h0.size ≤ b
  n3 : ∀ b, blk s.fv = some b → h0.size ≤ b
  n4 : ∀ b, blk s.hv = some b → h0.size ≤ b
  n5 : ∀ b, blk s.ov = some b → h0.size ≤ b
  a1 : ∀ b, blk s.nv = some b → blk s.hv ≠ some b
  a2 : ∀ b, blk s.fv = some b → blk s.ov ≠ some b
def Named (R : Rec) (nm : Nat → Nme) (q : List (Bool × Nme)) : Prop := q.length = (nums R.log).length ∧ ∀ (j b : Nat) (x : Bool × Nme), (nums R.log)[j]? = some b → q[j]? = some x → x.1 = true → x.2 = nm b
theorem Named.set {R : Rec} {nm : Nat → Nme} {q : List (Bool × Nme)} (x : Named R nm q) {j b : Nat} (hb : (nums R.log)[j]? = some b) : Named R nm (q.set j (true, nm b)) := by
  refine ⟨by rw [List.length_set]; exact x.1, fun j' b' y hb' hy ht => ?_⟩
  by_cases e : j' = j
  · subst e
    have hlt : j' < q.length := by rw [x.1]; exact (take_mid hb).2.2
    rw [List.getElem?_set_self hlt] at hy
    rw [hb] at hb'
    cases hy; cases hb'; rfl
  · rw [List.getElem?_set_ne (Ne.symm e)] at hy
    exact x.2 j' b' y hb' hy ht
section
variable {R : Rec} {nm : Nat → Nme} {lL lW lY lV : Value} {h0 h h' : Hp} {W : Nat} {F : List Int} {s : WS}
theorem WkI.upd0 (I : WkI R nm lL lW lY lV h0 W F s h) (u : Upd (fun _ => False) h h') : WkI R nm lL lW lY lV h0 W F s h' :=
  ⟨I.up.trans u, u.get I.row (fun x => x), I.nms.upd u (fun _ _ x => x), I.giv.upd u (fun _ _ x => x), I.fst.upd u (fun _ _ x => x), I.hav.upd u (fun _ _ x => x), I.hol.upd u (fun _ _ x => x), I.nW, I.n1, I.n2, I.n3, I.n4, I.n5, I.a1, I.a2⟩
theorem WkI.other (I : WkI R nm lL lW lY lV h0 W F s h) {y : Nat} {a : Array Value} {t : TypeId} (hy : h[y]? = some (.cells a t (0, 0))) (hy0 : h0.size ≤ y) (h1 : t ≠ 66) (h2 : t ≠ 210) (h3 : t ≠ 4) (h4 : t ≠ 2) (o : Obj) : WkI R nm lL lW lY lV h0 W F s (h.setIfInBounds y o) := by
  have u : Upd (fun b => b = y) h (h.setIfInBounds y o) := Upd.set _ _ _ rfl
  have hyW : W ≠ y := fun e => by
    have := I.row
    rw [e, hy] at this
    injection this with this
    injection this with _ this _
    exact h1 this
  exact ⟨I.up.over u (fun b hb => by omega), u.get I.row hyW, I.nms.upd u (sliceO_ne I.nms hy (Ne.symm h2)), I.giv.upd u (sliceO_ne I.giv hy (Ne.symm h3)), I.fst.upd u (sliceO_ne I.fst hy (Ne.symm h4)), I.hav.upd u (sliceO_ne I.hav hy (Ne.symm h2)), I.hol.upd u (sliceO_ne I.hol hy (Ne.symm h4)), I.nW, I.n1, I.n2, I.n3, I.n4, I.n5, I.a1, I.a2⟩
end
def ownFrom (R : Rec) (i t : Nat) : List Ev := ownOf i (R.log.drop t)
theorem ownFrom_zero (R : Rec) (i : Nat) : ownFrom R i 0 = ownOf i R.log := by unfold ownFrom; rw [List.drop_zero]
theorem ownFrom_end (R : Rec) (i : Nat) : ownFrom R i R.log.length = [] := by unfold ownFrom; rw [List.drop_eq_nil_of_le (Nat.le_refl _)]; rfl
theorem ownFrom_step {R : Rec} {i t : Nat} {e : Ev} (h : R.log[t]? = some e) : ownFrom R i t = if e.thr = i then e :: ownFrom R i (t + 1) else ownFrom R i (t + 1) := by
  unfold ownFrom
  have hk := (take_mid h).2.2
  rw [List.drop_eq_getElem_cons hk]
  have : R.log[t] = e := by
    have := List.getElem?_eq_getElem hk
    rw [h] at this
    injection this with this
    exact this.symm
  rw [this]
  unfold ownOf
  by_cases hc : e.thr = i
  · rw [if_pos hc, List.filter_cons_of_pos (by simpa using hc)]
  · rw [if_neg hc, List.filter_cons_of_neg (by simpa using hc)]
def PF (R : Rec) {A : Type} (i : Nat) (p : Pr A) : Prop := (∃ r k, (i, r) ∈ R.left ∧ p = .step r k) ∨ ((∀ q, q ∈ R.left → q.1 ≠ i) ∧ p = .done)
theorem PF.emit {R : Rec} {A : Type} {i : Nat} {p : Pr A} (x : PF R i p) : ∀ a k, p ≠ .emit a k := by
  rintro a k rfl
  rcases x with ⟨_, _, _, e⟩ | ⟨_, e⟩ <;> cases e
structure WAt (R : Rec) {A : Type} (pf : Pr A) (x W i : Nat) (p : Pr A) (l : List Ev) (o : List A) (h : Hp) : Prop where
  at_ : ∃ t, t ≤ R.log.length ∧ ownFrom R i t = l ∧ h[x]? = some (wrO W i false t)
  goes : Goes i p l o pf
structure WOut (R : Rec) (x W i : Nat) (h : Hp) : Prop where
  at_ : ∃ t, t ≤ R.log.length ∧ ownFrom R i t = [] ∧ h[x]? = some (wrO W i true t)
  left : ∃ r, (i, r) ∈ R.left
end Go.Proofs.Ytcpcdnkemobneaa
end
section
namespace Go.Proofs.Ytcpcdnkemobneaa
open Go Go.TJ Go.Conc Go.Proofs
section
variable {Γ : Type} {P : Program} {main : Bool} {S : Sit Γ} {f : FuncId} {n : Nat} {k : List Item} {env : Env} {ds : List Deferred} {h : Hp} {δ : Ix Γ} {R : Post Γ}
variable {ops : Array Oper} {l : List Oper} {d : Nat} {ty : TypeId} {pos : String} {af : Array Edge} {g : Option (Nat × Bool)} {Z : Hp → Prop} {zz : Nat} {m : Nat} {listed l' : Array Bool}
theorem sem_eqA2 {t t2 : TypeId} {k1 k2 : IntKind} [EqI2 P t k1 k2] {x y : Operand} {a1 a2 b1 b2 : Int} {r : Bool} {ρ : Operand → Value} {dst : Option Nat} {Q : Next → Hp → Ix Γ → Prop} {X : Value → Hp → Ix Γ → Prop} (hx : ρ x = .agg #[.int k1 a1, .int k2 a2]) (hy : ρ y = .agg #[.int k1 b1, .int k2 b2]) (hr : (a1 == b1 && a2 == b2) = r) (hq : Q (.value (.bool r)) h δ) : SemW P S (execOp ρ ⟨dst, .binOp .eql t x y t2, ty, pos, af, g⟩) h δ Q X :=
  semW_binOp (by
    rw [hx, hy]
    exact eqGuard_agg (by
      show SemW P S (Op.equal t _ _ >>= fun b => pure (Value.bool b)) h δ _ X
      exact semW_bind _ _ _ _ _ _ (semW_eqI2 (by rw [hr]; exact hq))))
theorem EA.tEqA2 (i : Nat) {t t2 : TypeId} {k1 k2 : IntKind} [EqI2 P t k1 k2] {x y : Operand} {a1 a2 b1 b2 : Int} {r : Bool} (hi : ops[i]? = some ⟨some d, .binOp .eql t x y t2, ty, pos, af, g⟩) (hs : takeB ops listed zz i = true) (hl : listed.setIfInBounds i true = l')
    (hd : Nat.blt d n = true) (hw : wantE ops env g = some true) (hx : ev env x = some (.agg #[.int k1 a1, .int k2 a2])) (hy : ev env y = some (.agg #[.int k1 b1, .int k2 b2])) (hr : (a1 == b1 && a2 == b2) = r) (hZ : Z h)
    (hn : EA P main S f n ops Z zz m l' k ((d, .bool r) :: env) ds h δ R) : EA P main S f n ops Z zz (m + 1) listed k env ds h δ R :=
  EA.take i hi hs hl hd hw (fun _ _ _ _ _ hρ _ hq => sem_eqA2 (hρ _ _ hx) (hρ _ _ hy) hr hq) hZ hn
theorem sem_field {xt : TypeId} {fs : Array Field} {fd : Field} {dd : TypeDesc} {j : Nat} {x : Operand} {cs : Array Value} {v : Value} {ρ : Operand → Value} {dst : Option Nat} {Q : Next → Hp → Ix Γ → Prop} {X : Value → Hp → Ix Γ → Prop} (hu : P.underlying xt = some (.struct fs)) (hf : fs[j]? = some fd) (ht : P.underlying fd.type = some dd) (hs : (match dd with | .struct _ => true | .array _ _ => true | _ => false) = false) (hx : ρ x = .agg cs) (hv : cs[fd.offset]? = some v) (hq : Q (.value v) h δ) :
    SemW P S (execOp ρ ⟨dst, .field xt x j, ty, pos, af, g⟩) h δ Q X := by
  show SemW P S (Instr.field xt (ρ x) j >>= fun v => pure (.value v)) h δ Q X
  rw [hx]
  refine semW_bind _ _ _ _ _ _ ?_
  unfold Instr.field
  refine semW_underlying hu ?_
  simp only [hf]
  show SemW P S (part fd.type cs fd.offset) h δ _ X
  unfold part isAgg
  refine semW_bind _ _ _ _ _ _ ?_
  refine semW_underlying ht ?_
  cases dd <;> first | (simp at hs; done) | (simp only [hv]; exact hq)
theorem ER.field {xt : TypeId} {fs : Array Field} {fd : Field} {dd : TypeDesc} {j : Nat} {x : Operand} {cs : Array Value} {v : Value} (hu : P.underlying xt = some (.struct fs)) (hf : fs[j]? = some fd) (ht : P.underlying fd.type = some dd) (hs : (match dd with | .struct _ => true | .array _ _ => true | _ => false) = false)
    (hw : wantE ops env g = some true) (hd : Nat.blt d n = true) (hx : ev env x = some (.agg cs)) (hv : cs[fd.offset]? = some v) (hn : ER P main S f n ops l k ((d, v) :: env) ds h δ R) : ER P main S f n ops (⟨some d, .field xt x j, ty, pos, af, g⟩ :: l) k env ds h δ R :=
  ER.to hw hd (fun _ρ _Q _X hρ hq => sem_field hu hf ht hs (hρ _ _ hx) hv hq) hn
end
theorem nme_eq {a b : Nme} (h : a = b) : (a.1 == b.1 && a.2 == b.2) = true := by subst h; simp
theorem nme_ne {a b : Nme} (h : a ≠ b) : (a.1 == b.1 && a.2 == b.2) = false := by
  obtain ⟨a1, a2⟩ := a
  obtain ⟨b1, b2⟩ := b
  by_cases h1 : a1 = b1
  · by_cases h2 : a2 = b2
    · subst h1 h2; exact absurd rfl h
    · simp [h2]
  · simp [h1]
abbrev nmeO (n : Nme) : Obj := .cells #[.int .i64 n.1, .int .i64 n.2] 210 (0, 0)
section
variable {Γ : Type} {main : Bool} {S : Sit Γ} {δ : Ix Γ} {R : Rec} {nm : Nat → Nme} {lL lW lY lV : Value} {h0 h h' : Hp} {W : Nat} {F : List Int} {s : WS}
set_option maxHeartbeats 4000000 in
set_option maxRecDepth 8000 in
theorem begins_ok {n : Nme} (I : WkI R nm lL lW lY lV h0 W F s h) (hl : s.hs.length ≤ 5000) :
    CallW Try.prog main S 181 #[ptr W, nmeV n] h δ (Ret fun v h' δ' => δ' = δ ∧ v = .int .i64 (lookN s.hs n) ∧ Upd (fun _ => False) h h') := by
  obtain ⟨q, hs, nv, gv, fv, hv, ov⟩ := s
  obtain ⟨aH, kH, eH⟩ := I.hav.val
  obtain ⟨aO, kO, eO⟩ := I.hol.val
  dsimp only at eH eO hl ⊢
  subst eH eO
  obtain ⟨y, hy⟩ : ∃ y, y = h.size := ⟨_, rfl⟩
  refine CallW.start (n := 31) rfl rfl ?_
  (repeat (first | refine EK.seq ?_ | refine EK.region ?_ | refine ER.done ?_ | refine EK.block ?_ | refine ER.assign rfl rfl rfl ?_ | refine ER.boxA rfl rfl rfl ?_))
  refine EK.gen (fun h' => WkI R nm lL lW lY lV h0 W F ⟨q, hs, nv, gv, fv, .slice aH hs.length kH, .slice aO hs.length kO⟩ h' ∧ Upd (fun _ => False) h h' ∧ h'[y]? = some (nmeO n)) ⟨I.upd0 (Upd.push _ _), Upd.push _ _, by rw [hy]; exact get_push_new _ _⟩ ?_
  rw [← hy]
  clear I hy
  rintro h1 ⟨I, u1, ly⟩
  have c11 : hcell h1 ⟨W, 11, none⟩ = some (.slice aH hs.length kH) := hcell_of I.row rfl
  have c12 : hcell h1 ⟨W, 12, none⟩ = some (.slice aO hs.length kO) := hcell_of I.row rfl
  refine EK.loopInv (fun i : Nat => [(5, .int .i64 i), (0, ptr W), (3, ptr y)]) (fun i h' δ' => i ≤ hs.length ∧ δ' = δ ∧ h' = h1 ∧ ∀ j q, j < i → hs[j]? = some q → q.1 ≠ n) (fun i => hs.length - i) 0 ⟨rfl, rfl, rfl, trivial⟩ ⟨Nat.zero_le _, rfl, rfl, fun j q hj => by omega⟩ ?_
  rintro i h2 δ2 ⟨hi, rfl, rfl, hno⟩ again
  by_cases hin : i < hs.length
  · obtain ⟨⟨m, v⟩, hq⟩ : ∃ x, hs[i]? = some x := ⟨_, List.getElem?_eq_getElem hin⟩
    obtain ⟨bH, ea, hrow, -⟩ := slice_row (f := fun x : Nme × Int => nmeL x.1) (fun _ => rfl) I.hav hq
    obtain ⟨bO, eb, cO, -⟩ := slice_at (f := fun x : Nme × Int => Value.int .i64 x.2) I.hol hq
    subst ea eb
    (repeat (first | refine EK.seq ?_ | refine EK.region ?_ | refine ER.done ?_ | refine EK.skip ?_ | refine EK.block ?_ | refine ER.move rfl rfl rfl ?_ | refine ER.nilCheck rfl rfl rfl ?_ | refine ER.fieldAddr rfl rfl rfl ?_ | refine ER.cmpT rfl rfl rfl rfl rfl (by first | (dsimp only [cmpP]; omega) | exact rfl | exact Int.le_refl _) ?_ | refine ER.len1 rfl rfl rfl ?_ | refine EK.condT rfl ?_ | refine ER.load1 rfl rfl rfl (by assumption) ?_))
    refine EK.regionAny (fun h' => h' = h2) ?_
    have hZ : h2 = h2 := rfl
    refine EA.tMove 0 rfl (by kernel_rfl) rfl rfl rfl rfl hZ ?_
    refine EA.tNil 1 rfl (by kernel_rfl) rfl rfl rfl rfl hZ ?_
    refine EA.tField 2 rfl (by kernel_rfl) rfl rfl rfl rfl hZ ?_
    refine EA.tLoad 3 rfl (by kernel_rfl) rfl rfl rfl rfl (fun _ hz => (by rw [hz]; exact c11)) hZ ?_
    refine EA.tMove 4 rfl (by kernel_rfl) rfl rfl rfl rfl hZ ?_
    refine EA.tIdxS 5 rfl (by kernel_rfl) rfl rfl rfl rfl rfl (by omega) (by omega) hZ ?_
    refine EA.tLoadN (vs := nmeL m) 6 rfl (by kernel_rfl) rfl rfl rfl rfl rfl (fun _ hz => by rw [hz]; exact hrow) hZ ?_
    refine EA.tLoadN (vs := nmeL n) 7 rfl (by kernel_rfl) rfl rfl rfl rfl rfl (fun _ hz => by rw [hz]; exact hrow_block (rest := []) (by rw [List.append_nil]; exact ly)) hZ ?_
    by_cases e : m = n
    · refine EA.tEqA2 8 rfl (by kernel_rfl) rfl rfl rfl rfl rfl (nme_eq e) hZ ?_
      refine EA.done (by kernel_rfl) ?_
      subst e
      rw [lookN_at hno hq]
      (repeat (first | refine EK.seq ?_ | refine EK.region ?_ | refine ER.done ?_ | refine ER.move rfl rfl rfl ?_ | refine ER.assign rfl rfl rfl ?_ | refine ER.nilCheck rfl rfl rfl ?_ | refine ER.fieldAddr rfl rfl rfl ?_ | refine ER.indexSl rfl rfl rfl rfl (by omega) (by omega) ?_ | refine EK.condT rfl ?_ | refine EK.ret ?_ | refine ER.load1 rfl rfl rfl (by assumption) ?_))
      exact EU.ret1 rfl rfl ⟨rfl, rfl, u1⟩
    · refine EA.tEqA2 8 rfl (by kernel_rfl) rfl rfl rfl rfl rfl (nme_ne e) hZ ?_
      refine EA.done (by kernel_rfl) ?_
      (repeat (first | refine EK.region ?_ | refine ER.done ?_ | refine EK.skip ?_ | refine EK.inBlock ?_ | refine ER.move rfl rfl rfl ?_ | refine ER.assign rfl rfl rfl ?_ | refine ER.add (kd := .i64) rfl rfl rfl rfl (i64_in (by omega) (by omega)) ?_ | refine EK.condF rfl ?_))
      exact EK.back (again (i + 1) _ _ (by omega) ⟨by omega, rfl, rfl, fun j q hj hjq => by
        by_cases e' : j = i
        · subst e'
          rw [hq] at hjq; cases hjq; exact e
        · exact hno j q (by omega) hjq⟩) ⟨rfl, rfl, rfl, trivial⟩
  · obtain rfl : i = hs.length := by omega
    rw [lookN_no fun q hq => by
      obtain ⟨j, hj, rfl⟩ := List.mem_iff_getElem.1 hq
      exact hno j _ hj (List.getElem?_eq_getElem hj)]
    (repeat (first | refine EK.seq ?_ | refine EK.region ?_ | refine ER.done ?_ | refine ER.move rfl rfl rfl ?_ | refine ER.assign rfl rfl rfl ?_ | refine ER.nilCheck rfl rfl rfl ?_ | refine ER.fieldAddr rfl rfl rfl ?_ | refine ER.cmpF rfl rfl rfl rfl rfl (by first | (dsimp only [cmpP]; omega) | exact rfl | exact Int.le_refl _) ?_ | refine ER.len1 rfl rfl rfl ?_ | refine EK.condF rfl ?_ | refine EK.ret ?_ | refine EK.exit rfl ?_ | refine ER.load1 rfl rfl rfl (by assumption) ?_))
    exact EU.ret1 rfl rfl ⟨rfl, rfl, u1⟩
end
end Go.Proofs.Ytcpcdnkemobneaa
end
section
namespace Go.Proofs.Ytcpcdnkemobneaa
open Go Go.TJ Go.Conc Go.Proofs
theorem nodup_at {l : List Nat} {i j a : Nat} (hn : l.Nodup) (h1 : l[i]? = some a) (h2 : l[j]? = some a) : i = j := by
  obtain ⟨l1, e1⟩ := List.getElem?_eq_some_iff.1 h1
  obtain ⟨l2, e2⟩ := List.getElem?_eq_some_iff.1 h2
  have hp := List.pairwise_iff_getElem.1 hn
  rcases Nat.lt_trichotomy i j with y | y | y
  · exact absurd (e1.trans e2.symm) (hp i j l1 l2 y)
  · exact y
  · exact absurd (e2.trans e1.symm) (hp j i l2 l1 y)
theorem names_set : ∀ (l : List (Bool × Nme)) (j : Nat) (g : Bool) (n : Nme), (l.set j (g, n)).flatMap (fun x => nmeL x.2) = ((l.flatMap fun x => nmeL x.2).set (0 + j * 2) (.int .i64 n.1)).set (0 + j * 2 + 1) (.int .i64 n.2)
  | [], j, g, n => by simp
  | c :: t, 0, g, n => rfl
  | c :: t, j + 1, g, n => by
    have ih := names_set t j g n
    rw [show 0 + (j + 1) * 2 + 1 = (0 + j * 2 + 1) + 1 + 1 by omega, show 0 + (j + 1) * 2 = (0 + j * 2) + 1 + 1 by omega]
    rw [List.set_cons_succ, List.flatMap_cons, List.flatMap_cons, ih]
    rfl
theorem names_len (l : List (Bool × Nme)) : (l.flatMap fun x => nmeL x.2).length = l.length * 2 := by
  induction l with
  | nil => rfl
  | cons c t ih => rw [List.flatMap_cons, List.length_append, ih, nmeL_len, List.length_cons]; omega
theorem given_set (l : List (Bool × Nme)) (j : Nat) (n : Nme) : ((l.set j (true, n)).map fun x => Value.bool x.1) = (l.map fun x => Value.bool x.1).set j (.bool true) := by rw [List.map_set]
section
variable {Γ : Type} {main : Bool} {S : Sit Γ} {δ : Ix Γ} {R : Rec} {nm : Nat → Nme} {lL lW lY lV : Value} {h0 h h' : Hp} {W : Nat} {F : List Int} {s : WS} {q : List (Bool × Nme)} {hs : List (Nme × Int)} {nv gv fv hv ov : Value}
theorem WkI.setG {b k j : Nat} {m : Nme} {g : Bool} (I : WkI R nm lL lW lY lV h0 W F ⟨q, hs, nv, .slice (some ⟨b, 0, none⟩) q.length k, fv, hv, ov⟩ h) (hq : q[j]? = some (g, m)) :
    WkI R nm lL lW lY lV h0 W F ⟨q.set j (true, m), hs, nv, .slice (some ⟨b, 0, none⟩) q.length k, fv, hv, ov⟩ (hset h ⟨b, 0 + j * 1, none⟩ (.bool true)) := by
  have hj := (take_mid hq).2.2
  have u : Upd (fun x => x = b) h (hset h ⟨b, 0 + j * 1, none⟩ (.bool true)) := Upd.hset _ _ _ rfl
  have hb := I.n2 b rfl
  have e1 : 0 + j * 1 = j := by omega
  refine ⟨I.up.over u (fun b' hb' => by omega), u.get I.row (fun e => sliceO_ne I.giv I.row (by decide) b rfl e.symm), ?_, ?_, I.fst.upd u (fun b' hb' e => sliceO_two I.fst I.giv (by decide) b' hb' (by rw [e]; rfl)), I.hav.upd u (fun b' hb' e => sliceO_two I.hav I.giv (by decide) b' hb' (by rw [e]; rfl)), I.hol.upd u (fun b' hb' e => sliceO_two I.hol I.giv (by decide) b' hb' (by rw [e]; rfl)), I.nW, I.n1, I.n2, I.n3, I.n4, I.n5, I.a1, I.a2⟩
  · have := I.nms.upd u (fun b' hb' e => sliceO_two I.nms I.giv (by decide) b' hb' (by rw [e]; rfl))
    dsimp only at this ⊢
    rw [List.length_set]
    have e2 : ((q.set j (true, m)).flatMap fun x => nmeL x.2) = q.flatMap fun x => nmeL x.2 := by
      rw [List.flatMap_def, List.flatMap_def, List.map_set]
      congr 1
      refine List.ext_getElem? fun i => ?_
      by_cases e : i = j
      · subst e
        rw [List.getElem?_set_self (by simpa using hj), List.getElem?_map, hq]
        rfl
      · rw [List.getElem?_set_ne (Ne.symm e)]
    rw [e2]
    exact this
  · have := I.giv.set (j := j) (by rw [List.length_map]; exact hj) (.bool true)
    dsimp only at this ⊢
    rw [e1, given_set, List.length_set]
    exact this
theorem WkI.setN {b k j : Nat} {m n : Nme} {g : Bool} (I : WkI R nm lL lW lY lV h0 W F ⟨q, hs, .slice (some ⟨b, 0, none⟩) q.length k, gv, fv, hv, ov⟩ h) (hq : q[j]? = some (g, m)) :
    WkI R nm lL lW lY lV h0 W F ⟨q.set j (g, n), hs, .slice (some ⟨b, 0, none⟩) q.length k, gv, fv, hv, ov⟩ (hsetRow h b (0 + j * 2) (nmeL n)) := by
  have hj := (take_mid hq).2.2
  have u : Upd (fun x => x = b) h (hsetRow h b (0 + j * 2) (nmeL n)) := (Upd.hset (T := fun x => x = b) h ⟨b, 0 + j * 2, none⟩ _ rfl).trans (Upd.hset (T := fun x => x = b) _ ⟨b, 0 + j * 2 + 1, none⟩ _ rfl)
  have hb := I.n1 b rfl
  refine ⟨I.up.over u (fun b' hb' => by omega), u.get I.row (fun e => sliceO_ne I.nms I.row (by decide) b rfl e.symm), ?_, ?_, I.fst.upd u (fun b' hb' e => sliceO_two I.fst I.nms (by decide) b' hb' (by rw [e]; rfl)), I.hav.upd u (fun b' hb' e => I.a1 b rfl (by rw [← e]; exact hb')), I.hol.upd u (fun b' hb' e => sliceO_two I.hol I.nms (by decide) b' hb' (by rw [e]; rfl)), I.nW, I.n1, I.n2, I.n3, I.n4, I.n5, I.a1, I.a2⟩
  · have l0 := names_len q
    have x1 := I.nms.set (j := 0 + j * 2) (by dsimp only; rw [l0]; omega) (.int .i64 n.1)
    have x2 := x1.set (j := 0 + j * 2 + 1) (by dsimp only; rw [List.length_set, l0]; omega) (.int .i64 n.2)
    dsimp only at x2 ⊢
    rw [names_set, List.length_set]
    exact x2
  · have := I.giv.upd u (fun b' hb' e => sliceO_two I.giv I.nms (by decide) b' hb' (by rw [e]; rfl))
    dsimp only at this ⊢
    rw [List.length_set, List.map_set]
    have e2 : (q.map fun x => Value.bool x.1).set j (.bool g) = q.map fun x => Value.bool x.1 := by
      refine List.ext_getElem? fun i => ?_
      by_cases e : i = j
      · subst e
        rw [List.getElem?_set_self (by simpa using hj), List.getElem?_map, hq]
        rfl
      · rw [List.getElem?_set_ne (Ne.symm e)]
    rw [e2]
    exact this
set_option maxHeartbeats 8000000 in
set_option maxRecDepth 8000 in
theorem is_ok {j b : Nat} (I : WkI R nm lL lW lY lV h0 W F s h) (hN : Named R nm s.q) (hb : (nums R.log)[j]? = some b) (hF : F[j]? = some (lookN s.hs (nm b))) (hinj : ∀ b', b' ∈ nums R.log → nm b' = nm b → b' = b) (hql : (nums R.log).length ≤ 65536) (hhl : s.hs.length ≤ 5000) :
    CallW Try.prog main (NoS (Γ := Γ)) 179 #[ptr W, .int .i64 j, nmeV (nm b)] h δ (Ret fun v h' δ' => δ' = δ ∧ v = .bool true ∧ WkI R nm lL lW lY lV h0 W F { s with q := s.q.set j (true, nm b) } h' ∧ Upd (fun c => blk s.nv = some c ∨ blk s.gv = some c) h h') := by
  obtain ⟨q, hs, nv, gv, fv, hv, ov⟩ := s
  obtain ⟨aN, kN, eN⟩ := I.nms.val
  obtain ⟨aG, kG, eG⟩ := I.giv.val
  obtain ⟨aF, kF, eF⟩ := I.fst.val
  dsimp only at eN eG eF hF hN hhl ⊢
  subst eN eG eF
  have hq0 := hN.1
  have hjl : j < q.length := by rw [hq0]; exact (take_mid hb).2.2
  obtain ⟨⟨g0, m0⟩, hx⟩ : ∃ x, q[j]? = some x := ⟨_, List.getElem?_eq_getElem hjl⟩
  have hFl : F.length ≤ 10000000 ∨ True := .inr trivial
  obtain ⟨y, hy⟩ : ∃ y, y = h.size := ⟨_, rfl⟩
  obtain ⟨bG, eG, cG, fG⟩ := slice_at (f := fun x : Bool × Nme => Value.bool x.1) I.giv hx
  obtain ⟨bN, eN, rN, fN⟩ := slice_row (f := fun x : Bool × Nme => nmeL x.2) (fun _ => rfl) I.nms hx
  obtain ⟨bF, eF, cF, -⟩ := slice_at (f := fun x : Int => Value.int .i64 x) I.fst hF
  subst eG eN eF
  dsimp only at cG rN
  refine CallW.start (n := 86) rfl rfl ?_
  (repeat (first | refine EK.seq ?_ | refine EK.region ?_ | refine ER.done ?_ | refine ER.move rfl rfl rfl ?_ | refine ER.assign rfl rfl rfl ?_ | refine ER.nilCheck rfl rfl rfl ?_ | refine ER.fieldAddr rfl rfl rfl ?_ | refine ER.cmpF rfl rfl rfl rfl rfl (by first | (dsimp only [cmpP]; omega) | exact rfl | exact Int.le_refl _) ?_ | refine ER.boxA rfl rfl rfl ?_))
  refine ER.gen (fun h' => WkI R nm lL lW lY lV h0 W F ⟨q, hs, .slice (some ⟨bN, 0, none⟩) q.length kN, .slice (some ⟨bG, 0, none⟩) q.length kG, .slice (some ⟨bF, 0, none⟩) F.length kF, hv, ov⟩ h' ∧ Upd (fun _ => False) h h' ∧ h'[y]? = some (nmeO (nm b))) ⟨I.upd0 (Upd.push _ _), Upd.push _ _, by rw [hy]; exact get_push_new _ _⟩ ?_
  rw [← hy]
  have hyl : h.size ≤ y := by omega
  have nN := I.nms.lt (b := bN) rfl
  have nG := I.giv.lt (b := bG) rfl
  clear I cG rN cF hy
  rintro h1 ⟨I, u1, ly⟩
  obtain ⟨bG', eG, cG, fG⟩ := slice_at (f := fun x : Bool × Nme => Value.bool x.1) I.giv hx
  obtain ⟨bN', eN, rN, fN⟩ := slice_row (f := fun x : Bool × Nme => nmeL x.2) (fun _ => rfl) I.nms hx
  obtain ⟨bF', eF, cF, -⟩ := slice_at (f := fun x : Int => Value.int .i64 x) I.fst hF
  injection eG with eG
  injection eG with eG
  injection eN with eN
  injection eN with eN
  injection eF with eF
  injection eF with eF
  subst eG eN eF
  dsimp only at cG rN
  have c8 : hcell h1 ⟨W, 8, none⟩ = some (.slice (some ⟨bN, 0, none⟩) q.length kN) := hcell_of I.row rfl
  have c9 : hcell h1 ⟨W, 9, none⟩ = some (.slice (some ⟨bG, 0, none⟩) q.length kG) := hcell_of I.row rfl
  have rY : TJ.hrow h1 y 0 (nmeL (nm b)) := hrow_block (rest := []) (by rw [List.append_nil]; exact ly)
  cases g0 with
  | true =>
    have em : m0 = nm b := hN.2 j b _ hb hx rfl
    subst em
    (repeat (first | refine EK.seq ?_ | refine EK.region ?_ | refine ER.done ?_ | refine EK.skip ?_ | refine ER.move rfl rfl rfl ?_ | refine ER.nilCheck rfl rfl rfl ?_ | refine ER.fieldAddr rfl rfl rfl ?_ | refine ER.pickF rfl rfl rfl rfl ?_ | refine ER.cmpF rfl rfl rfl rfl rfl (by first | (dsimp only [cmpP]; omega) | exact rfl | exact Int.le_refl _) ?_ | refine ER.len1 rfl rfl rfl ?_ | refine ER.indexSl rfl rfl rfl rfl (by omega) (by omega) ?_ | refine EK.condT rfl ?_ | refine EK.condF rfl ?_ | refine ER.load1 rfl rfl rfl (by assumption) ?_))
    refine EK.regionAny (fun h' => h' = h1) ?_
    have hZ : h1 = h1 := rfl
    refine EA.tMove 0 rfl (by kernel_rfl) rfl rfl rfl rfl hZ ?_
    refine EA.tNil 1 rfl (by kernel_rfl) rfl rfl rfl rfl hZ ?_
    refine EA.tField 2 rfl (by kernel_rfl) rfl rfl rfl rfl hZ ?_
    refine EA.tLoad 3 rfl (by kernel_rfl) rfl rfl rfl rfl (fun _ hz => (by rw [hz]; exact c8)) hZ ?_
    refine EA.tMove 4 rfl (by kernel_rfl) rfl rfl rfl rfl hZ ?_
    refine EA.tIdxS 5 rfl (by kernel_rfl) rfl rfl rfl rfl rfl (by omega) (by omega) hZ ?_
    refine EA.tLoadN (vs := nmeL (nm b)) 6 rfl (by kernel_rfl) rfl rfl rfl rfl rfl (fun _ hz => by rw [hz]; exact rN) hZ ?_
    refine EA.tLoadN (vs := nmeL (nm b)) 7 rfl (by kernel_rfl) rfl rfl rfl rfl rfl (fun _ hz => by rw [hz]; exact rY) hZ ?_
    refine EA.tEqA2 8 rfl (by kernel_rfl) rfl rfl rfl rfl rfl (nme_eq rfl) hZ ?_
    refine EA.tAssign 9 rfl (by kernel_rfl) rfl rfl rfl rfl hZ ?_
    refine EA.done (by kernel_rfl) ?_
    have eq : q.set j (true, nm b) = q := by
      refine List.ext_getElem? fun i => ?_
      by_cases e : i = j
      · subst e; rw [List.getElem?_set_self hjl, hx]
      · rw [List.getElem?_set_ne (Ne.symm e)]
    rw [eq]
    (repeat refine EK.ret ?_)
    exact EU.ret1 rfl rfl ⟨rfl, rfl, I, u1.mono (fun _ _ z => z.elim)⟩
  | false =>
    (repeat (first | refine EK.seq ?_ | refine EK.region ?_ | refine ER.done ?_ | refine EK.skip ?_ | refine EK.block ?_ | refine ER.move rfl rfl rfl ?_ | refine ER.assign rfl rfl rfl ?_ | refine ER.nilCheck rfl rfl rfl ?_ | refine ER.fieldAddr rfl rfl rfl ?_ | refine ER.pickF rfl rfl rfl rfl ?_ | refine ER.cmpF rfl rfl rfl rfl rfl (by first | (dsimp only [cmpP]; omega) | exact rfl | exact Int.le_refl _) ?_ | refine ER.len1 rfl rfl rfl ?_ | refine ER.indexSl rfl rfl rfl rfl (by omega) (by omega) ?_ | refine EK.condF rfl ?_ | refine ER.load1 rfl rfl rfl (by assumption) ?_))
    refine EK.loopInv (fun i : Nat => [(7, .int .i64 i), (5, ptr y), (0, ptr W), (1, .int .i64 j)]) (fun i h' δ' => δ' = δ ∧ i ≤ q.length ∧ h' = h1) (fun i => q.length - i) 0 ⟨rfl, rfl, rfl, rfl, trivial⟩ ⟨rfl, Nat.zero_le _, rfl⟩ ?_
    rintro i h2 δ2 ⟨rfl, hi, rfl⟩ again
    by_cases hin : i < q.length
    · obtain ⟨⟨g1, m1⟩, hx1⟩ : ∃ x, q[i]? = some x := ⟨_, List.getElem?_eq_getElem hin⟩
      obtain ⟨bG', eG, cG1, -⟩ := slice_at (f := fun x : Bool × Nme => Value.bool x.1) I.giv hx1
      obtain ⟨bN', eN, rN1, -⟩ := slice_row (f := fun x : Bool × Nme => nmeL x.2) (fun _ => rfl) I.nms hx1
      injection eG with eG
      injection eG with eG
      injection eN with eN
      injection eN with eN
      subst eG eN
      dsimp only at cG1 rN1
      (repeat (first | refine EK.seq ?_ | refine EK.region ?_ | refine ER.done ?_ | refine EK.skip ?_ | refine EK.block ?_ | refine ER.move rfl rfl rfl ?_ | refine ER.nilCheck rfl rfl rfl ?_ | refine ER.fieldAddr rfl rfl rfl ?_ | refine ER.cmpT rfl rfl rfl rfl rfl (by first | (dsimp only [cmpP]; omega) | exact rfl | exact Int.le_refl _) ?_ | refine ER.len1 rfl rfl rfl ?_ | refine EK.condT rfl ?_ | refine ER.load1 rfl rfl rfl (by assumption) ?_))
      refine EK.regionAny (fun h' => h' = h2) ?_
      have hZ : h2 = h2 := rfl
      refine EA.tMove 0 rfl (by kernel_rfl) rfl rfl rfl rfl hZ ?_
      refine EA.tNil 1 rfl (by kernel_rfl) rfl rfl rfl rfl hZ ?_
      refine EA.tField 2 rfl (by kernel_rfl) rfl rfl rfl rfl hZ ?_
      refine EA.tLoad 3 rfl (by kernel_rfl) rfl rfl rfl rfl (fun _ hz => (by rw [hz]; exact c9)) hZ ?_
      refine EA.tMove 4 rfl (by kernel_rfl) rfl rfl rfl rfl hZ ?_
      refine EA.tIdxS 5 rfl (by kernel_rfl) rfl rfl rfl rfl rfl (by omega) (by omega) hZ ?_
      refine EA.tLoad 6 rfl (by kernel_rfl) rfl rfl rfl rfl (fun _ hz => (by rw [hz]; exact cG1)) hZ ?_
      refine EA.tMove 7 rfl (by kernel_rfl) rfl rfl rfl rfl hZ ?_
      cases g1 with
      | false =>
        refine EA.takeNo 8 rfl (by kernel_rfl) rfl rfl rfl hZ ?_
        refine EA.takeNo 9 rfl (by kernel_rfl) rfl rfl rfl hZ ?_
        refine EA.takeNo 10 rfl (by kernel_rfl) rfl rfl rfl hZ ?_
        refine EA.takeNo 11 rfl (by kernel_rfl) rfl rfl rfl hZ ?_
        refine EA.takeNo 12 rfl (by kernel_rfl) rfl rfl rfl hZ ?_
        refine EA.takeNo 13 rfl (by kernel_rfl) rfl rfl rfl hZ ?_
        refine EA.takeNo 14 rfl (by kernel_rfl) rfl rfl rfl hZ ?_
        refine EA.takeNo 15 rfl (by kernel_rfl) rfl rfl rfl hZ ?_
        refine EA.takeNo 16 rfl (by kernel_rfl) rfl rfl rfl hZ ?_
        refine EA.tPickF 17 rfl (by kernel_rfl) rfl rfl rfl rfl rfl hZ ?_
        refine EA.done (by kernel_rfl) ?_
        (repeat (first | refine EK.region ?_ | refine ER.done ?_ | refine EK.skip ?_ | refine EK.inBlock ?_ | refine ER.move rfl rfl rfl ?_ | refine ER.assign rfl rfl rfl ?_ | refine ER.add (kd := .i64) rfl rfl rfl rfl (i64_in (by omega) (by omega)) ?_ | refine EK.condF rfl ?_))
        exact EK.back (again (i + 1) _ _ (by omega) ⟨rfl, by omega, rfl⟩) ⟨rfl, rfl, rfl, rfl, trivial⟩
      | true =>
        have hni : i < (nums R.log).length := by omega
        obtain ⟨b1, hb1⟩ : ∃ b1, (nums R.log)[i]? = some b1 := ⟨_, List.getElem?_eq_getElem hni⟩
        have em : m1 = nm b1 := hN.2 i b1 _ hb1 hx1 rfl
        subst em
        have hne : nm b1 ≠ nm b := fun e => by
          have e1 := hinj b1 (List.mem_of_getElem? hb1) e
          subst e1
          have hij : i ≠ j := fun e => by
            subst e
            rw [hx] at hx1
            cases hx1
          exact hij (nodup_at (nums_nodup R.log) hb1 hb)
        refine EA.tMove 8 rfl (by kernel_rfl) rfl rfl rfl rfl hZ ?_
        refine EA.tNil 9 rfl (by kernel_rfl) rfl rfl rfl rfl hZ ?_
        refine EA.tField 10 rfl (by kernel_rfl) rfl rfl rfl rfl hZ ?_
        refine EA.tLoad 11 rfl (by kernel_rfl) rfl rfl rfl rfl (fun _ hz => (by rw [hz]; exact c8)) hZ ?_
        refine EA.tMove 12 rfl (by kernel_rfl) rfl rfl rfl rfl hZ ?_
        refine EA.tIdxS 13 rfl (by kernel_rfl) rfl rfl rfl rfl rfl (by omega) (by omega) hZ ?_
        refine EA.tLoadN (vs := nmeL (nm b1)) 14 rfl (by kernel_rfl) rfl rfl rfl rfl rfl (fun _ hz => by rw [hz]; exact rN1) hZ ?_
        refine EA.tLoadN (vs := nmeL (nm b)) 15 rfl (by kernel_rfl) rfl rfl rfl rfl rfl (fun _ hz => by rw [hz]; exact rY) hZ ?_
        refine EA.tEqA2 16 rfl (by kernel_rfl) rfl rfl rfl rfl rfl (nme_ne hne) hZ ?_
        refine EA.tPickT 17 rfl (by kernel_rfl) rfl rfl rfl rfl rfl hZ ?_
        refine EA.done (by kernel_rfl) ?_
        (repeat (first | refine EK.region ?_ | refine ER.done ?_ | refine EK.skip ?_ | refine EK.inBlock ?_ | refine ER.move rfl rfl rfl ?_ | refine ER.assign rfl rfl rfl ?_ | refine ER.add (kd := .i64) rfl rfl rfl rfl (i64_in (by omega) (by omega)) ?_ | refine EK.condF rfl ?_))
        exact EK.back (again (i + 1) _ _ (by omega) ⟨rfl, by omega, rfl⟩) ⟨rfl, rfl, rfl, rfl, trivial⟩
    · obtain rfl : i = q.length := by omega
      clear again
      (repeat (first | refine EK.seq ?_ | refine EK.region ?_ | refine ER.done ?_ | refine ER.move rfl rfl rfl ?_ | refine ER.nilCheck rfl rfl rfl ?_ | refine ER.fieldAddr rfl rfl rfl ?_ | refine ER.cmpF rfl rfl rfl rfl rfl (by first | (dsimp only [cmpP]; omega) | exact rfl | exact Int.le_refl _) ?_ | refine ER.len1 rfl rfl rfl ?_ | refine ER.indexSl rfl rfl rfl rfl (by omega) (by omega) ?_ | refine EK.condF rfl ?_ | refine EK.exit rfl ?_ | refine ER.load1 rfl rfl rfl (by assumption) ?_))
      refine ER.store1 rfl rfl rfl ⟨nofun, nofun⟩ ⟨_, cG⟩ (fG _) (fun x => x) ?_
      have I2 := I.setG hx
      have ly2 := hset_ne h2 ⟨bG, 0 + j * 1, none⟩ (.bool true) (r := y) (fun e => by change bG = y at e; omega)
      rw [ly] at ly2
      have u2 : Upd (fun c => blk (.slice (some ⟨bN, 0, none⟩) q.length kN) = some c ∨ blk (.slice (some ⟨bG, 0, none⟩) q.length kG) = some c) h (hset h2 ⟨bG, 0 + j * 1, none⟩ (.bool true)) := upd_then (u1.mono (fun _ _ z => z.elim)) (Upd.hset (T := fun c => blk (.slice (some ⟨bN, 0, none⟩) q.length kN) = some c ∨ blk (.slice (some ⟨bG, 0, none⟩) q.length kG) = some c) _ _ _ (.inr rfl)) (fun _ _ z => z)
      change ER _ _ _ _ _ _ _ _ _ _ (hset h2 ⟨bG, 0 + j * 1, none⟩ (.bool true)) _ _
      generalize hset h2 ⟨bG, 0 + j * 1, none⟩ (.bool true) = h3 at I2 ly2 u2 ⊢
      clear I u1 ly c8 c9 rY cG rN cF fN
      have hx2 : (q.set j (true, m0))[j]? = some (true, m0) := List.getElem?_set_self hjl
      have lq : (q.set j (true, m0)).length = q.length := List.length_set
      have I2' : WkI R nm lL lW lY lV h0 W F ⟨q.set j (true, m0), hs, .slice (some ⟨bN, 0, none⟩) (q.set j (true, m0)).length kN, .slice (some ⟨bG, 0, none⟩) q.length kG, .slice (some ⟨bF, 0, none⟩) F.length kF, hv, ov⟩ h3 := by rw [lq]; exact I2
      obtain ⟨bN', eN, rN, fN⟩ := slice_row (f := fun x : Bool × Nme => nmeL x.2) (fun _ => rfl) I2'.nms hx2
      injection eN with eN
      injection eN with eN
      subst eN
      dsimp only at rN
      have c8 : hcell h3 ⟨W, 8, none⟩ = some (.slice (some ⟨bN, 0, none⟩) q.length kN) := hcell_of I2.row rfl
      have rY : TJ.hrow h3 y 0 (nmeL (nm b)) := hrow_block (rest := []) (by rw [List.append_nil]; exact ly2)
      (repeat (first | refine EK.seq ?_ | refine ER.done ?_))
      refine EK.regionAnyL (fun h' => h' = h3) 7 ?_
      have hZ : h3 = h3 := rfl
      refine EA.tMove 0 rfl (by kernel_rfl) rfl rfl rfl rfl hZ ?_
      refine EA.tNil 1 rfl (by kernel_rfl) rfl rfl rfl rfl hZ ?_
      refine EA.tField 2 rfl (by kernel_rfl) rfl rfl rfl rfl hZ ?_
      refine EA.tLoad 3 rfl (by kernel_rfl) rfl rfl rfl rfl (fun _ hz => (by rw [hz]; exact c8)) hZ ?_
      refine EA.tMove 4 rfl (by kernel_rfl) rfl rfl rfl rfl hZ ?_
      refine EA.tLoadN (vs := nmeL (nm b)) 5 rfl (by kernel_rfl) rfl rfl rfl rfl rfl (fun _ hz => by rw [hz]; exact rY) hZ ?_
      refine EA.val 6 rfl (by kernel_rfl) rfl rfl rfl (fun ρ Q X hρ hq => sem_indexSl (hρ _ _ rfl) (hρ _ _ rfl) (by omega) (by omega) hq) hZ ?_
      refine EA.unitL (h' := hsetRow h3 bN (0 + j * 2) (nmeL (nm b))) 7 rfl (by kernel_rfl) rfl rfl rfl (fun ρ Q X hρ hq => sem_storeN (vs := nmeL (nm b)) (hρ _ _ rfl) (hρ _ _ rfl) rfl (by simp [nmeL, OneCell]) (fun j' hj' => ⟨by
        rcases (show j' = 0 ∨ j' = 1 by have h2 : j' < 2 := hj'; omega) with rfl | rfl
        · exact ⟨_, rN 0 _ rfl⟩
        · exact ⟨_, rN 1 _ rfl⟩, fN _, fun x => x⟩) hq) ?_
      refine EA.done (by kernel_rfl) ?_
      have I3 := I2'.setN (n := nm b) hx2
      rw [lq, List.set_set] at I3
      have u3 : Upd (fun x => x = bN) h3 (hsetRow h3 bN (0 + j * 2) (nmeL (nm b))) := (Upd.hset (T := fun x => x = bN) h3 ⟨bN, 0 + j * 2, none⟩ _ rfl).trans (Upd.hset (T := fun x => x = bN) _ ⟨bN, 0 + j * 2 + 1, none⟩ _ rfl)
      have ly3 := u3.get ly2 (fun e => by change y = bN at e; omega)
      have uu := upd_then u2 u3 (fun c _ e => .inl (by rw [e]; rfl))
      clear hZ I2 I2' u2 u3 ly2 c8 rY rN fN
      generalize hsetRow h3 bN (0 + j * 2) (nmeL (nm b)) = h4 at I3 ly3 uu ⊢
      have hjF := (take_mid hF).2.2
      obtain ⟨bF', eF, cF, -⟩ := slice_at (f := fun x : Int => Value.int .i64 x) I3.fst hF
      injection eF with eF
      injection eF with eF
      subst eF
      have c10 : hcell h4 ⟨W, 10, none⟩ = some (.slice (some ⟨bF, 0, none⟩) F.length kF) := hcell_of I3.row rfl
      have rY : TJ.hrow h4 y 0 (nmeL (nm b)) := hrow_block (rest := []) (by rw [List.append_nil]; exact ly3)
      (repeat refine EK.seq ?_)
      refine EK.regionAny (fun h' => hcell h' ⟨W, 10, none⟩ = some (.slice (some ⟨bF, 0, none⟩) F.length kF) ∧ hcell h' ⟨bF, 0 + j * 1, none⟩ = some (.int .i64 (lookN hs (nm b))) ∧ TJ.hrow h' y 0 (nmeL (nm b))) ?_
      have hZ : _ ∧ _ ∧ _ := And.intro c10 ⟨cF, rY⟩
      refine EA.tMove 0 rfl (by kernel_rfl) rfl rfl rfl rfl hZ ?_
      refine EA.tNil 1 rfl (by kernel_rfl) rfl rfl rfl rfl hZ ?_
      refine EA.tField 2 rfl (by kernel_rfl) rfl rfl rfl rfl hZ ?_
      refine EA.tLoad 3 rfl (by kernel_rfl) rfl rfl rfl rfl (fun _ hz => hz.1) hZ ?_
      refine EA.tMove 4 rfl (by kernel_rfl) rfl rfl rfl rfl hZ ?_
      refine EA.tIdxS 5 rfl (by kernel_rfl) rfl rfl rfl rfl rfl (by omega) (by omega) hZ ?_
      refine EA.tLoad 6 rfl (by kernel_rfl) rfl rfl rfl rfl (fun _ hz => hz.2.1) hZ ?_
      refine EA.tMove 7 rfl (by kernel_rfl) rfl rfl rfl rfl hZ ?_
      refine EA.tLoadN (vs := nmeL (nm b)) 8 rfl (by kernel_rfl) rfl rfl rfl rfl rfl (fun _ hz => hz.2.2) hZ ?_
      refine EA.callR 9 rfl (by kernel_rfl) rfl rfl rfl rfl rfl rfl (begins_ok I3 hhl) ?_
      rintro _ h5 δ5 ⟨rfl, rfl, u5⟩
      have hZ : _ ∧ _ ∧ _ := And.intro (u5.hcell hZ.1 (fun x => x)) ⟨u5.hcell hZ.2.1 (fun x => x), fun a v hv => u5.hcell (hZ.2.2 a v hv) (fun x => x)⟩
      refine ⟨hZ, ?_⟩
      refine EA.tCmpT 10 rfl (by kernel_rfl) rfl rfl rfl rfl rfl rfl (by first | (dsimp only [cmpP]; omega) | exact rfl | exact Int.le_refl _) hZ ?_
      refine EA.tAssign 11 rfl (by kernel_rfl) rfl rfl rfl rfl hZ ?_
      refine EA.done (by kernel_rfl) ?_
      (repeat refine EK.ret ?_)
      exact EU.ret1 rfl rfl ⟨rfl, rfl, I3.upd0 u5, uu.trans (u5.mono (fun _ _ z => z.elim))⟩
end
end Go.Proofs.Ytcpcdnkemobneaa
end
