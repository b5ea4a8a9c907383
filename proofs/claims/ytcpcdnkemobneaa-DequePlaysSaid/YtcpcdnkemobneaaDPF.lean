/- Steps of the walk and of the plain law (WkD to WkK). Conditions: as each lemma says. -/
import Derived.Test.YtcpcdnkemobneaaDPE
section
namespace Go.Proofs.Ytcpcdnkemobneaa
open Go Go.TJ Go.Conc Go.Proofs
abbrev acc0 : List Value := accL 0 0 0 0 0 0 0 false
section
variable {Γ : Type} {main : Bool} {S : Sit Γ} {δ : Ix Γ} {R : Rec} {nm : Nat → Nme} {lL lW lY lV sP : Value} {h0 h h' : Hp} {W x i t : Nat} {F : List Int} {s : WS} {picks : List Int} {X : Us} {out : Bool}
set_option maxHeartbeats 8000000 in
set_option maxRecDepth 8000 in
theorem wnext_ok (m : RecM R picks lL lW lY lV sP h0) (hlen : R.log.length ≤ 65536) (I : WkI R nm lL lW lY lV h0 W F s h) (hx : h[x]? = some (wrO W i out t)) (hx0 : h0.size ≤ x) (ht : t ≤ R.log.length) :
    CallW Try.prog main (NoS (Γ := Γ)) 90 #[ptr x] h δ (Ret fun v h' δ' => δ' = δ ∧ ∃ t', t' ≤ R.log.length ∧ h'[x]? = some (wrO W i out t') ∧ WkI R nm lL lW lY lV h0 W F s h' ∧ Upd (fun b => b = x) h h' ∧
      ((∃ e, ownFrom R i t = e :: ownFrom R i t' ∧ e ∈ R.log ∧ v = .tuple #[.agg (entL (nums R.log) e).toArray, .bool true]) ∨ (ownFrom R i t = [] ∧ ownFrom R i t' = [] ∧ v = .tuple #[.agg acc0.toArray, .bool false]))) := by
  obtain ⟨aL, kL, eL⟩ := m.log.val
  subst eL
  obtain ⟨y, hy⟩ : ∃ y, y = h.size := ⟨_, rfl⟩
  have hxl := lt_of_get hx
  refine CallW.start (n := 49) rfl rfl ?_
  (repeat (first | refine EK.seq ?_ | refine EK.region ?_ | refine ER.done ?_ | refine EK.block ?_ | refine ER.assign rfl rfl rfl ?_ | refine ER.allocA rfl rfl ?_))
  refine EK.gen (fun h' => WkI R nm (.slice aL R.log.length kL) lW lY lV h0 W F s h' ∧ Upd (fun b => b = x) h h' ∧ h'[x]? = some (wrO W i out t) ∧ h'[y]? = some (accO acc0) ∧ y < h'.size) ⟨I.upd0 (Upd.push _ _), Upd.push _ _, get_push _ hx, by rw [hy]; exact get_push_new _ _, by rw [hy, Array.size_push]; omega⟩ ?_
  rw [← hy]
  have hyx : y ≠ x := by omega
  have hys : h.size ≤ y := by omega
  have hy0 : h0.size ≤ y := by have := I.up.size; omega
  clear I hx hy hxl
  rintro h1 ⟨I, u1, hx, ly, hyl⟩
  refine EK.loopInv (fun _ : Nat => [(2, ptr y), (0, ptr x)]) (fun t1 h' δ' => δ' = δ ∧ t1 ≤ R.log.length ∧ ownFrom R i t = ownFrom R i t1 ∧ WkI R nm (.slice aL R.log.length kL) lW lY lV h0 W F s h' ∧ Upd (fun b => b = x) h h' ∧ h'[x]? = some (wrO W i out t1) ∧ h'[y]? = some (accO acc0) ∧ y < h'.size) (fun t1 => R.log.length - t1) t ⟨rfl, rfl, trivial⟩ ⟨rfl, ht, rfl, I, u1, hx, ly, hyl⟩ ?_
  clear I u1 hx ly hyl ht
  rintro t1 h2 δ2 ⟨rfl, ht, hown, I, u2, hx, ly, hyl⟩ again
  have x0 : hcell h2 ⟨x, 0, none⟩ = some (ptr W) := hcell_of hx rfl
  have x1 : hcell h2 ⟨x, 1, none⟩ = some (.int .i64 i) := hcell_of hx rfl
  have x3 : hcell h2 ⟨x, 3, none⟩ = some (.int .i64 t1) := hcell_of hx rfl
  have c2 : hcell h2 ⟨W, 2, none⟩ = some (.slice aL R.log.length kL) := hcell_of I.row rfl
  (repeat refine EK.seq ?_)
  refine EK.regionAny (fun h' => h' = h2) ?_
  have hZ : h2 = h2 := rfl
  refine EA.tMove 0 rfl (by kernel_rfl) rfl rfl rfl rfl hZ ?_
  refine EA.tNil 1 rfl (by kernel_rfl) rfl rfl rfl rfl hZ ?_
  refine EA.tField 2 rfl (by kernel_rfl) rfl rfl rfl rfl hZ ?_
  refine EA.tLoad 3 rfl (by kernel_rfl) rfl rfl rfl rfl (fun _ hz => (by rw [hz]; exact x3)) hZ ?_
  refine EA.tMove 4 rfl (by kernel_rfl) rfl rfl rfl rfl hZ ?_
  refine EA.tNil 5 rfl (by kernel_rfl) rfl rfl rfl rfl hZ ?_
  refine EA.tField 6 rfl (by kernel_rfl) rfl rfl rfl rfl hZ ?_
  refine EA.tLoad 7 rfl (by kernel_rfl) rfl rfl rfl rfl (fun _ hz => (by rw [hz]; exact x0)) hZ ?_
  refine EA.tNil 8 rfl (by kernel_rfl) rfl rfl rfl rfl hZ ?_
  refine EA.tField 9 rfl (by kernel_rfl) rfl rfl rfl rfl hZ ?_
  refine EA.tField 10 rfl (by kernel_rfl) rfl rfl rfl rfl hZ ?_
  refine EA.tLoad 11 rfl (by kernel_rfl) rfl rfl rfl rfl (fun _ hz => (by rw [hz]; exact c2)) hZ ?_
  refine EA.tLen1 12 rfl (by kernel_rfl) rfl rfl rfl rfl hZ ?_
  by_cases hin : t1 < R.log.length
  · obtain ⟨e, he⟩ : ∃ e, R.log[t1]? = some e := ⟨_, List.getElem?_eq_getElem hin⟩
    obtain ⟨bL, ea, hrow, -⟩ := slice_row (entL_len (nums R.log)) (m.log.upd I.up (fun _ _ x => x)) he
    subst ea
    refine EA.tCmpT 13 rfl (by kernel_rfl) rfl rfl rfl rfl rfl rfl (by first | (dsimp only [cmpP]; omega) | exact rfl | exact Int.le_refl _) hZ ?_
    refine EA.done (by kernel_rfl) ?_
    clear hZ
    (repeat (first | refine EK.seq ?_ | refine EK.skip ?_ | refine EK.block ?_ | refine EK.condT rfl ?_))
    refine EK.regionAnyL (fun h' => hcell h' ⟨x, 0, none⟩ = some (ptr W) ∧ hcell h' ⟨x, 3, none⟩ = some (.int .i64 t1) ∧ hcell h' ⟨W, 2, none⟩ = some (.slice (some ⟨bL, 0, none⟩) R.log.length kL) ∧ TJ.hrow h' bL (0 + t1 * 8) (entL (nums R.log) e)) 15 ?_
    have hZ : _ ∧ _ ∧ _ ∧ _ := And.intro x0 ⟨x3, c2, hrow⟩
    refine EA.tMove 0 rfl (by kernel_rfl) rfl rfl rfl rfl hZ ?_
    refine EA.tNil 1 rfl (by kernel_rfl) rfl rfl rfl rfl hZ ?_
    refine EA.tField 2 rfl (by kernel_rfl) rfl rfl rfl rfl hZ ?_
    refine EA.tLoad 3 rfl (by kernel_rfl) rfl rfl rfl rfl (fun _ hz => hz.1) hZ ?_
    refine EA.tNil 4 rfl (by kernel_rfl) rfl rfl rfl rfl hZ ?_
    refine EA.tField 5 rfl (by kernel_rfl) rfl rfl rfl rfl hZ ?_
    refine EA.tField 6 rfl (by kernel_rfl) rfl rfl rfl rfl hZ ?_
    refine EA.tLoad 7 rfl (by kernel_rfl) rfl rfl rfl rfl (fun _ hz => hz.2.2.1) hZ ?_
    refine EA.tMove 8 rfl (by kernel_rfl) rfl rfl rfl rfl hZ ?_
    refine EA.tNil 9 rfl (by kernel_rfl) rfl rfl rfl rfl hZ ?_
    refine EA.tField 10 rfl (by kernel_rfl) rfl rfl rfl rfl hZ ?_
    refine EA.tLoad 11 rfl (by kernel_rfl) rfl rfl rfl rfl (fun _ hz => hz.2.1) hZ ?_
    refine EA.tIdxS 12 rfl (by kernel_rfl) rfl rfl rfl rfl rfl (by omega) (by omega) hZ ?_
    refine EA.tLoadN (vs := entL (nums R.log) e) 13 rfl (by kernel_rfl) rfl rfl rfl rfl rfl (fun _ hz => hz.2.2.2) hZ ?_
    have up := Upd.push (T := fun _ => False) h2 (.cells acc0.toArray 75)
    refine EA.val (v := ptr h2.size) (h' := h2.push (.cells acc0.toArray 75)) 14 rfl (by kernel_rfl) rfl rfl rfl (fun ρ Q X hρ hq => sem_allocA hq) ⟨up.hcell x0 (fun x => x), up.hcell x3 (fun x => x), up.hcell c2 (fun x => x), fun j v hv => up.hcell (hrow j v hv) (fun x => x)⟩ ?_
    refine EA.unitL (h' := h2.push (.cells (entL (nums R.log) e).toArray 75)) 15 rfl (by kernel_rfl) rfl rfl rfl (fun ρ Q X hρ hq => sem_storeN (vs := entL (nums R.log) e) (hρ _ _ rfl) (hρ _ _ rfl) rfl (by simp [entL, accL, OneCell]) (acc_all (vs := acc0) rfl (get_push_new _ _)) (by rw [hsetRow_push (c := acc0) (vs := entL (nums R.log) e) rfl]; exact hq)) ?_
    refine EA.done (by kernel_rfl) ?_
    clear hZ up
    obtain ⟨z, hz⟩ : ∃ z, z = h2.size := ⟨_, rfl⟩
    have hzx : z ≠ x := by have := lt_of_get hx; omega
    have hzy : z ≠ y := by omega
    refine EK.gen (fun h' => WkI R nm (.slice (some ⟨bL, 0, none⟩) R.log.length kL) lW lY lV h0 W F s h' ∧ Upd (fun b => b = x) h h' ∧ h'[x]? = some (wrO W i out t1) ∧ h'[y]? = some (accO acc0) ∧ h'[z]? = some (accO (entL (nums R.log) e))) ⟨I.upd0 (Upd.push _ _), u2.trans (Upd.push _ _), get_push _ hx, get_push _ ly, by rw [hz]; exact get_push_new _ _⟩ ?_
    rw [← hz]
    clear I u2 hx ly hyl x0 x1 x3 c2 hrow hz
    rintro h3 ⟨I, u3, hx, ly, lz⟩
    have x3 : hcell h3 ⟨x, 3, none⟩ = some (.int .i64 t1) := hcell_of hx rfl
    (repeat (first | refine EK.seq ?_ | refine EK.region ?_ | refine ER.move rfl rfl rfl ?_ | refine ER.nilCheck rfl rfl rfl ?_ | refine ER.fieldAddr rfl rfl rfl ?_ | refine ER.load1 rfl rfl rfl (hcell_of (by assumption) rfl) ?_ | refine ER.add (kd := .i64) rfl rfl rfl rfl (i64_in (by omega) (by omega)) ?_))
    refine ER.store1 rfl rfl rfl ⟨nofun, nofun⟩ ⟨_, x3⟩ (hfroz_of hx) (fun x => x) ?_
    have e7 : hset h3 ⟨x, 3, none⟩ (.int .i64 (t1 + 1 : Nat)) = h3.setIfInBounds x (wrO W i out (t1 + 1)) := hset_block hx _
    have I4 := I.other hx hx0 (by decide) (by decide) (by decide) (by decide) (wrO W i out (t1 + 1))
    have u4 : Upd (fun b => b = x) h (h3.setIfInBounds x (wrO W i out (t1 + 1))) := u3.trans (Upd.set _ _ _ rfl)
    have hx4 : (h3.setIfInBounds x (wrO W i out (t1 + 1)))[x]? = some (wrO W i out (t1 + 1)) := get_set_same hx
    have ly4 : (h3.setIfInBounds x (wrO W i out (t1 + 1)))[y]? = some (accO acc0) := by rw [get_set_ne _ (Ne.symm hyx)]; exact ly
    have lz4 : (h3.setIfInBounds x (wrO W i out (t1 + 1)))[z]? = some (accO (entL (nums R.log) e)) := by rw [get_set_ne _ (Ne.symm hzx)]; exact lz
    rw [show ((t1 : Int) + 1) = ((t1 + 1 : Nat) : Int) by omega]
    change ER _ _ _ _ _ _ _ _ _ _ (hset h3 ⟨x, 3, none⟩ (.int .i64 (t1 + 1 : Nat))) _ _
    rw [e7]
    generalize h3.setIfInBounds x (wrO W i out (t1 + 1)) = h4 at I4 u4 hx4 ly4 lz4 ⊢
    clear e7 I u3 hx ly lz x3
    have z0 : hcell h4 ⟨z, 0, none⟩ = some (.int .i64 e.thr) := hcell_of lz4 rfl
    have x1 : hcell h4 ⟨x, 1, none⟩ = some (.int .i64 i) := hcell_of hx4 rfl
    (repeat (first | refine EK.seq ?_ | refine ER.done ?_))
    refine EK.regionAny (fun h' => h' = h4) ?_
    have hZ : h4 = h4 := rfl
    refine EA.tField 0 rfl (by kernel_rfl) rfl rfl rfl rfl hZ ?_
    refine EA.tLoad 1 rfl (by kernel_rfl) rfl rfl rfl rfl (fun _ hz => (by rw [hz]; exact z0)) hZ ?_
    refine EA.tMove 2 rfl (by kernel_rfl) rfl rfl rfl rfl hZ ?_
    refine EA.tNil 3 rfl (by kernel_rfl) rfl rfl rfl rfl hZ ?_
    refine EA.tField 4 rfl (by kernel_rfl) rfl rfl rfl rfl hZ ?_
    refine EA.tLoad 5 rfl (by kernel_rfl) rfl rfl rfl rfl (fun _ hz => (by rw [hz]; exact x1)) hZ ?_
    by_cases hei : e.thr = i
    · refine EA.tCmpT 6 rfl (by kernel_rfl) rfl rfl rfl rfl rfl rfl (by first | (dsimp only [cmpP]; omega) | exact rfl | exact Int.le_refl _) hZ ?_
      refine EA.done (by kernel_rfl) ?_
      rw [ownFrom_step he, if_pos hei] at hown
      clear hZ
      (repeat (first | refine EK.seq ?_ | refine EK.region ?_ | refine EK.condT rfl ?_))
      refine ER.loadN (vs := entL (nums R.log) e) rfl rfl rfl rfl (hrow_block (rest := []) (by rw [List.append_nil]; exact lz4)) ?_
      refine ER.storeN (vs := entL (nums R.log) e) rfl rfl rfl rfl (by simp [entL, accL, OneCell]) (acc_all rfl ly4) ?_
      rw [row_set (c := acc0) (vs := entL (nums R.log) e) ly4 rfl]
      (repeat (first | refine ER.done ?_ | refine ER.assign rfl rfl rfl ?_ | refine EK.ret ?_))
      refine EU.retCell (vs := entL (nums R.log) e) rfl rfl rfl (hrow_block (rest := []) (by rw [List.append_nil]; exact get_set_same ly4)) rfl ⟨rfl, t1 + 1, by omega, by rw [get_set_ne _ hyx]; exact hx4, I4.other ly4 hy0 (by decide) (by decide) (by decide) (by decide) _, upd_then u4 (Upd.set (T := fun b => b = y) _ _ _ rfl) (fun b hb e => by omega), .inl ⟨e, hown, List.mem_of_getElem? he, rfl⟩⟩
    · refine EA.tCmpF 6 rfl (by kernel_rfl) rfl rfl rfl rfl rfl rfl (by first | (dsimp only [cmpP]; omega) | exact rfl | exact Int.le_refl _) hZ ?_
      refine EA.done (by kernel_rfl) ?_
      rw [ownFrom_step he, if_neg hei] at hown
      clear hZ
      (repeat (first | refine EK.skip ?_ | refine EK.inBlock ?_ | refine EK.condF rfl ?_))
      exact EK.back (again (t1 + 1) _ _ (by omega) ⟨rfl, by omega, hown, I4, u4, hx4, ly4, lt_of_get ly4⟩) ⟨rfl, rfl, trivial⟩
  · obtain rfl : t1 = R.log.length := by omega
    refine EA.tCmpF 13 rfl (by kernel_rfl) rfl rfl rfl rfl rfl rfl (by first | (dsimp only [cmpP]; omega) | exact rfl | exact Int.le_refl _) hZ ?_
    refine EA.done (by kernel_rfl) ?_
    rw [ownFrom_end] at hown
    clear hZ
    (repeat (first | refine EK.seq ?_ | refine EK.region ?_ | refine EK.condF rfl ?_ | refine EK.exit rfl ?_))
    refine ER.buildS (cells := acc0.toArray) rfl rfl (by rfl) rfl ?_
    refine ER.storeN (vs := acc0) rfl rfl rfl rfl (by simp [accL, OneCell]) (acc_all rfl ly) ?_
    rw [row_set (c := acc0) (vs := acc0) ly rfl]
    (repeat (first | refine ER.done ?_ | refine ER.assign rfl rfl rfl ?_ | refine EK.ret ?_))
    refine EU.retCell (vs := acc0) rfl rfl rfl (hrow_block (rest := []) (by rw [List.append_nil]; exact get_set_same ly)) rfl ⟨rfl, R.log.length, Nat.le_refl _, by rw [get_set_ne _ hyx]; exact hx, I.other ly hy0 (by decide) (by decide) (by decide) (by decide) _, upd_then u2 (Upd.set (T := fun b => b = y) _ _ _ rfl) (fun b hb e => by omega), .inr ⟨hown, ownFrom_end _ _, rfl⟩⟩
set_option maxHeartbeats 8000000 in
set_option maxRecDepth 8000 in
theorem wleft_ok (m : RecM R picks lL lW lY lV sP h0) (hlen : R.left.length ≤ 65536) (I : WkI R nm lL lW lY lV h0 W F s h) (hx : h[x]? = some (wrO W i out t)) (_hx0 : h0.size ≤ x) :
    CallW Try.prog main (NoS (Γ := Γ)) 91 #[ptr x] h δ (Ret fun v h' δ' => δ' = δ ∧ Upd (fun _ => False) h h' ∧
      ((∃ q, q ∈ R.left ∧ q.1 = i ∧ v = .tuple #[.agg (leftE (nums R.log) R.val q).toArray, .bool true]) ∨ ((∀ q, q ∈ R.left → q.1 ≠ i) ∧ v = .tuple #[.agg acc0.toArray, .bool false]))) := by
  obtain ⟨aV, kV, eV⟩ := m.left.val
  subst eV
  obtain ⟨y, hy⟩ : ∃ y, y = h.size := ⟨_, rfl⟩
  refine CallW.start (n := 47) rfl rfl ?_
  (repeat (first | refine EK.seq ?_ | refine EK.region ?_ | refine ER.done ?_ | refine EK.block ?_ | refine ER.assign rfl rfl rfl ?_ | refine ER.allocA rfl rfl ?_))
  refine EK.gen (fun h' => WkI R nm lL lW lY (.slice aV R.left.length kV) h0 W F s h' ∧ Upd (fun _ => False) h h' ∧ h'[x]? = some (wrO W i out t) ∧ h'[y]? = some (accO acc0)) ⟨I.upd0 (Upd.push _ _), Upd.push _ _, get_push _ hx, by rw [hy]; exact get_push_new _ _⟩ ?_
  rw [← hy]
  have hys : h.size ≤ y := by omega
  clear I hx hy
  rintro h1 ⟨I, u1, hx, ly⟩
  have x0 : hcell h1 ⟨x, 0, none⟩ = some (ptr W) := hcell_of hx rfl
  have x1 : hcell h1 ⟨x, 1, none⟩ = some (.int .i64 i) := hcell_of hx rfl
  have c5 : hcell h1 ⟨W, 5, none⟩ = some (.slice aV R.left.length kV) := hcell_of I.row rfl
  refine EK.loopInv (fun j : Nat => [(4, .int .i64 j), (2, ptr y), (0, ptr x)]) (fun j h' δ' => δ' = δ ∧ j ≤ R.left.length ∧ h' = h1 ∧ ∀ j' q, j' < j → R.left[j']? = some q → q.1 ≠ i) (fun j => R.left.length - j) 0 ⟨rfl, rfl, rfl, trivial⟩ ⟨rfl, Nat.zero_le _, rfl, fun j' q hj => by omega⟩ ?_
  rintro j h2 δ2 ⟨rfl, hj, rfl, hno⟩ again
  by_cases hin : j < R.left.length
  · obtain ⟨q, hq⟩ : ∃ q, R.left[j]? = some q := ⟨_, List.getElem?_eq_getElem hin⟩
    obtain ⟨bV, ea, hrow, -⟩ := slice_row (leftE_len (nums R.log) R.val) (m.left.upd I.up (fun _ _ x => x)) hq
    subst ea
    have w0 : hcell h2 ⟨bV, 0 + j * 8 + 0, none⟩ = some (.int .i64 q.1) := hrow 0 _ rfl
    (repeat (first | refine EK.seq ?_ | refine EK.region ?_ | refine ER.done ?_ | refine EK.skip ?_ | refine EK.block ?_ | refine ER.move rfl rfl rfl ?_ | refine ER.nilCheck rfl rfl rfl ?_ | refine ER.fieldAddr rfl rfl rfl ?_ | refine ER.load1 rfl rfl rfl (hcell_of (by assumption) rfl) ?_ | refine ER.cmpT rfl rfl rfl rfl rfl (by first | (dsimp only [cmpP]; omega) | exact rfl | exact Int.le_refl _) ?_ | refine ER.len1 rfl rfl rfl ?_ | refine EK.condT rfl ?_ | refine ER.load1 rfl rfl rfl (by assumption) ?_))
    refine EK.regionAny (fun h' => h' = h2) ?_
    have hZ : h2 = h2 := rfl
    refine EA.tMove 0 rfl (by kernel_rfl) rfl rfl rfl rfl hZ ?_
    refine EA.tNil 1 rfl (by kernel_rfl) rfl rfl rfl rfl hZ ?_
    refine EA.tField 2 rfl (by kernel_rfl) rfl rfl rfl rfl hZ ?_
    refine EA.tLoad 3 rfl (by kernel_rfl) rfl rfl rfl rfl (fun _ hz => (by rw [hz]; exact x0)) hZ ?_
    refine EA.tNil 4 rfl (by kernel_rfl) rfl rfl rfl rfl hZ ?_
    refine EA.tField 5 rfl (by kernel_rfl) rfl rfl rfl rfl hZ ?_
    refine EA.tField 6 rfl (by kernel_rfl) rfl rfl rfl rfl hZ ?_
    refine EA.tLoad 7 rfl (by kernel_rfl) rfl rfl rfl rfl (fun _ hz => (by rw [hz]; exact c5)) hZ ?_
    refine EA.tMove 8 rfl (by kernel_rfl) rfl rfl rfl rfl hZ ?_
    refine EA.tIdxS 9 rfl (by kernel_rfl) rfl rfl rfl rfl rfl (by omega) (by omega) hZ ?_
    refine EA.tField 10 rfl (by kernel_rfl) rfl rfl rfl rfl hZ ?_
    refine EA.tLoad 11 rfl (by kernel_rfl) rfl rfl rfl rfl (fun _ hz => (by rw [hz]; exact w0)) hZ ?_
    refine EA.tMove 12 rfl (by kernel_rfl) rfl rfl rfl rfl hZ ?_
    refine EA.tNil 13 rfl (by kernel_rfl) rfl rfl rfl rfl hZ ?_
    refine EA.tField 14 rfl (by kernel_rfl) rfl rfl rfl rfl hZ ?_
    refine EA.tLoad 15 rfl (by kernel_rfl) rfl rfl rfl rfl (fun _ hz => (by rw [hz]; exact x1)) hZ ?_
    by_cases hqi : q.1 = i
    · refine EA.tCmpT 16 rfl (by kernel_rfl) rfl rfl rfl rfl rfl rfl (by first | (dsimp only [cmpP]; omega) | exact rfl | exact Int.le_refl _) hZ ?_
      refine EA.done (by kernel_rfl) ?_
      clear hZ
      (repeat (first | refine EK.seq ?_ | refine EK.region ?_ | refine ER.move rfl rfl rfl ?_ | refine ER.nilCheck rfl rfl rfl ?_ | refine ER.fieldAddr rfl rfl rfl ?_ | refine ER.load1 rfl rfl rfl (hcell_of (by assumption) rfl) ?_ | refine ER.indexSl rfl rfl rfl rfl (by omega) (by omega) ?_ | refine EK.condT rfl ?_ | refine ER.load1 rfl rfl rfl (by assumption) ?_))
      refine ER.loadN (vs := leftE (nums R.log) R.val q) rfl rfl rfl rfl hrow ?_
      refine ER.storeN (vs := leftE (nums R.log) R.val q) rfl rfl rfl rfl (by simp [leftE, accL, OneCell]) (acc_all rfl ly) ?_
      rw [row_set (c := acc0) (vs := leftE (nums R.log) R.val q) ly rfl]
      (repeat (first | refine ER.done ?_ | refine ER.assign rfl rfl rfl ?_ | refine EK.ret ?_))
      exact EU.retCell (vs := leftE (nums R.log) R.val q) rfl rfl rfl (hrow_block (rest := []) (by rw [List.append_nil]; exact get_set_same ly)) rfl ⟨rfl, upd_then u1 (Upd.set (T := fun b => b = y) _ _ _ rfl) (fun b hb e => by omega), .inl ⟨q, List.mem_of_getElem? hq, hqi, rfl⟩⟩
    · refine EA.tCmpF 16 rfl (by kernel_rfl) rfl rfl rfl rfl rfl rfl (by first | (dsimp only [cmpP]; omega) | exact rfl | exact Int.le_refl _) hZ ?_
      refine EA.done (by kernel_rfl) ?_
      clear hZ
      (repeat (first | refine EK.region ?_ | refine ER.done ?_ | refine EK.skip ?_ | refine EK.inBlock ?_ | refine ER.move rfl rfl rfl ?_ | refine ER.assign rfl rfl rfl ?_ | refine ER.add (kd := .i64) rfl rfl rfl rfl (i64_in (by omega) (by omega)) ?_ | refine EK.condF rfl ?_))
      exact EK.back (again (j + 1) _ _ (by omega) ⟨rfl, by omega, rfl, fun j' q' h1 h2 => by
        by_cases e : j' = j
        · subst e
          rw [hq] at h2; cases h2; exact hqi
        · exact hno j' q' (by omega) h2⟩) ⟨rfl, rfl, rfl, trivial⟩
  · obtain rfl : j = R.left.length := by omega
    (repeat (first | refine EK.seq ?_ | refine EK.region ?_ | refine ER.done ?_ | refine ER.move rfl rfl rfl ?_ | refine ER.nilCheck rfl rfl rfl ?_ | refine ER.fieldAddr rfl rfl rfl ?_ | refine ER.load1 rfl rfl rfl (hcell_of (by assumption) rfl) ?_ | refine ER.cmpF rfl rfl rfl rfl rfl (by first | (dsimp only [cmpP]; omega) | exact rfl | exact Int.le_refl _) ?_ | refine ER.len1 rfl rfl rfl ?_ | refine EK.condF rfl ?_ | refine EK.exit rfl ?_ | refine ER.load1 rfl rfl rfl (by assumption) ?_))
    refine ER.buildS (cells := acc0.toArray) rfl rfl (by rfl) rfl ?_
    refine ER.storeN (vs := acc0) rfl rfl rfl rfl (by simp [accL, OneCell]) (acc_all rfl ly) ?_
    rw [row_set (c := acc0) (vs := acc0) ly rfl]
    (repeat (first | refine ER.done ?_ | refine ER.assign rfl rfl rfl ?_ | refine EK.ret ?_))
    exact EU.retCell (vs := acc0) rfl rfl rfl (hrow_block (rest := []) (by rw [List.append_nil]; exact get_set_same ly)) rfl ⟨rfl, upd_then u1 (Upd.set (T := fun b => b = y) _ _ _ rfl) (fun b hb e => by omega), .inr ⟨fun q hq => by
      obtain ⟨j', hj', rfl⟩ := List.mem_iff_getElem.1 hq
      exact hno j' _ hj' (List.getElem?_eq_getElem hj'), rfl⟩⟩
set_option maxHeartbeats 1000000 in
theorem fell_ok {j : Int} (I : WkI R nm lL lW lY lV h0 W F s h) : CallW Try.prog main S 92 #[ptr W, .int .i64 j] h δ (Ret (Det (.bool false) h δ)) := by
  have c6 : hcell h ⟨W, 6, none⟩ = some nilS := hcell_of I.row rfl
  refine CallW.start (n := 26) rfl rfl ?_
  (repeat (first | refine EK.seq ?_ | refine EK.region ?_ | refine ER.done ?_ | refine EK.block ?_ | refine ER.assign rfl rfl rfl ?_))
  refine EK.loop ?_
  (repeat (first | refine EK.seq ?_ | refine EK.region ?_ | refine ER.done ?_ | refine ER.move rfl rfl rfl ?_ | refine ER.assign rfl rfl rfl ?_ | refine ER.nilCheck rfl rfl rfl ?_ | refine ER.fieldAddr rfl rfl rfl ?_ | refine ER.cmpF rfl rfl rfl rfl rfl (by first | (dsimp only [cmpP]; omega) | exact rfl | exact Int.le_refl _) ?_ | refine ER.len1 rfl rfl rfl ?_ | refine EK.condF rfl ?_ | refine EK.ret ?_ | refine EK.exit rfl ?_ | refine ER.load1 rfl rfl rfl (by assumption) ?_))
  exact EU.ret1 rfl rfl det
end
end Go.Proofs.Ytcpcdnkemobneaa
end
section
namespace Go.Proofs.Ytcpcdnkemobneaa
open Go Go.TJ Go.Conc Go.Proofs
structure WC (X : Us) (picks : List Int) (R : Rec) (nm : Nat → Nme) (lL lW lY lV sP : Value) (h0 : Hp) (s : WS) : Prop where
  ok : RecOk X picks R
  m : RecM R picks lL lW lY lV sP h0
  inj : ∀ b b', X.isC b → X.isC b' → nm b = nm b' → b = b'
  beg : ∀ b, X.isC b → lookN s.hs (nm b) = R.v0 b
  hsl : s.hs.length ≤ 5000
def WAll (R : Rec) (nm : Nat → Nme) (lL lW lY lV : Value) (h0 : Hp) (W : Nat) (s : WS) (h : Hp) : Prop := ∃ q, WkI R nm lL lW lY lV h0 W ((nums R.log).map R.v0) { s with q := q } h ∧ Named R nm q
def WT (s : WS) (x b : Nat) : Prop := b = x ∨ blk s.nv = some b ∨ blk s.gv = some b
structure WIn (R : Rec) (nm : Nat → Nme) (lL lW lY lV : Value) (h0 : Hp) (W : Nat) (s : WS) {A : Type} (pf : Pr A) (x i : Nat) (p : Pr A) (l : List Ev) (o : List A) (h : Hp) : Prop where
  all : WAll R nm lL lW lY lV h0 W s h
  at_ : WAt R pf x W i p l o h
  x0 : h0.size ≤ x
structure WOu (R : Rec) (nm : Nat → Nme) (lL lW lY lV : Value) (h0 : Hp) (W : Nat) (s : WS) (x i : Nat) (h : Hp) : Prop where
  all : WAll R nm lL lW lY lV h0 W s h
  out : WOut R x W i h
  x0 : h0.size ≤ x
section
variable {Γ : Type} {main : Bool} {S : Sit Γ} {δ : Ix Γ} {R : Rec} {nm : Nat → Nme} {lL lW lY lV sP : Value} {h0 h h' : Hp} {W x i t : Nat} {s : WS} {picks : List Int} {X : Us} {A : Type} {pf p : Pr A} {r : Rq} {k : Int → Pr A} {l : List Ev} {o : List A}
theorem WAll.upd0 (a : WAll R nm lL lW lY lV h0 W s h) (u : Upd (fun _ => False) h h') : WAll R nm lL lW lY lV h0 W s h' := by
  obtain ⟨q, I, N⟩ := a
  exact ⟨q, I.upd0 u, N⟩
theorem WIn.upd0 (w : WIn R nm lL lW lY lV h0 W s pf x i p l o h) (u : Upd (fun _ => False) h h') : WIn R nm lL lW lY lV h0 W s pf x i p l o h' := by
  obtain ⟨a, ⟨⟨t, h1, h2, h3⟩, g⟩, x0⟩ := w
  exact ⟨a.upd0 u, ⟨⟨t, h1, h2, u.get h3 (fun x => x)⟩, g⟩, x0⟩
theorem WOu.upd0 (w : WOu R nm lL lW lY lV h0 W s x i h) (u : Upd (fun _ => False) h h') : WOu R nm lL lW lY lV h0 W s x i h' := by
  obtain ⟨a, ⟨⟨t, h1, h2, h3⟩, g⟩, x0⟩ := w
  exact ⟨a.upd0 u, ⟨⟨t, h1, h2, u.get h3 (fun x => x)⟩, g⟩, x0⟩
theorem WAll.lt (a : WAll R nm lL lW lY lV h0 W s h) : ∀ b, blk s.nv = some b ∨ blk s.gv = some b → b < h.size := by
  obtain ⟨q, I, N⟩ := a
  exact fun b hb => hb.elim I.nms.lt I.giv.lt
theorem WAll.ge (a : WAll R nm lL lW lY lV h0 W s h) : ∀ b, blk s.nv = some b ∨ blk s.gv = some b → h0.size ≤ b := by
  obtain ⟨q, I, N⟩ := a
  exact fun b hb => hb.elim (I.n1 b) (I.n2 b)
theorem WIn.wt (w : WIn R nm lL lW lY lV h0 W s pf x i p l o h) : ∀ b, WT s x b → h0.size ≤ b ∧ b < h.size := by
  obtain ⟨t, h1, h2, h3⟩ := w.at_.at_
  rintro b (rfl | hb)
  · exact ⟨w.x0, lt_of_get h3⟩
  · exact ⟨w.all.ge b hb, w.all.lt b hb⟩
theorem WOu.wt (w : WOu R nm lL lW lY lV h0 W s x i h) : ∀ b, WT s x b → h0.size ≤ b ∧ b < h.size := by
  obtain ⟨t, h1, h2, h3⟩ := w.out.at_
  rintro b (rfl | hb)
  · exact ⟨w.x0, lt_of_get h3⟩
  · exact ⟨w.all.ge b hb, w.all.lt b hb⟩
theorem WIn.cases (w : WIn R nm lL lW lY lV h0 W s pf x i (.step r k) l o h) : (∃ v l', l = evOf i r v :: l' ∧ Goes i (k v) l' o pf) ∨ (l = [] ∧ o = [] ∧ pf = .step r k) := by
  have g := w.at_.goes
  generalize hp : Pr.step r k = p at g
  cases g with
  | nil => exact .inr ⟨rfl, rfl, rfl⟩
  | emit => cases hp
  | step v g =>
    injection hp with h1 h2
    subst h1 h2
    exact .inl ⟨v, _, rfl, g⟩
theorem does_out {op : Int} {n : Nme} {a c : Value} (hx : h[x]? = some (wrO W i true t)) :
    CallW Try.prog main (NoS (Γ := Γ)) 154 #[ptr x, .int .i8 op, nmeV n, a, c] h δ (Ret fun v h' δ' => δ' = δ ∧ v = .agg acc0.toArray ∧ Upd (fun _ => False) h h') := by
  refine CallW.start (n := 122) rfl rfl ?_
  (repeat (first | refine EK.seq ?_ | refine EK.region ?_ | refine ER.done ?_ | refine ER.move rfl rfl rfl ?_ | refine ER.nilCheck rfl rfl rfl ?_ | refine ER.fieldAddr rfl rfl rfl ?_ | refine ER.boxA rfl rfl rfl ?_ | refine ER.allocA rfl rfl ?_))
  simp only [Array.size_push]
  have u0 : Upd (fun _ => False) h ((h.push (nmeO n)).push (accO acc0)) := (Upd.push _ _).trans (Upd.push _ _)
  have gx : ((h.push (nmeO n)).push (accO acc0))[x]? = some (wrO W i true t) := get_push _ (get_push _ hx)
  have gy : ((h.push (nmeO n)).push (accO acc0))[h.size + 1]? = some (accO acc0) := by
    have := get_push_new (h.push (nmeO n)) (accO acc0)
    rwa [Array.size_push] at this
  refine ER.gen (fun h' => Upd (fun _ => False) h h' ∧ h'[x]? = some (wrO W i true t) ∧ h'[h.size + 1]? = some (accO acc0)) ⟨u0, gx, gy⟩ ?_
  clear u0 gx gy
  rintro h1 ⟨u0, gx, gy⟩
  have x2 : hcell h1 ⟨x, 2, none⟩ = some (.bool true) := hcell_of gx rfl
  (repeat (first | refine EK.seq ?_ | refine EK.region ?_ | refine ER.done ?_ | refine ER.load1 rfl rfl rfl (hcell_of (by assumption) rfl) ?_ | refine EK.condT rfl ?_))
  refine ER.buildS (cells := acc0.toArray) rfl rfl (by rfl) rfl ?_
  refine ER.storeN (vs := acc0) rfl rfl rfl rfl (by simp [accL, OneCell]) (acc_all rfl gy) ?_
  rw [row_set (c := acc0) (vs := acc0) gy rfl]
  (repeat (first | refine ER.done ?_ | refine EK.ret ?_))
  exact EU.retCell1 (vs := acc0) rfl rfl rfl (hrow_block (rest := []) (by rw [List.append_nil]; exact get_set_same gy)) ⟨rfl, rfl, upd_then u0 (Upd.set (T := fun b => b = h.size + 1) _ _ _ rfl) (fun b hb e => by omega)⟩
end
end Go.Proofs.Ytcpcdnkemobneaa
end
section
namespace Go.Proofs.Ytcpcdnkemobneaa
open Go Go.TJ Go.Conc Go.Proofs
section
variable {Γ : Type} {main : Bool} {S : Sit Γ} {δ : Ix Γ} {R : Rec} {nm : Nat → Nme} {lL lW lY lV sP : Value} {h0 h h' : Hp} {W x i t : Nat} {s : WS} {picks : List Int} {X : Us} {A : Type} {pf p : Pr A} {r : Rq} {k : Int → Pr A} {l : List Ev} {o : List A}
theorem WC.log_at (C : WC X picks R nm lL lW lY lV sP h0 s) {e : Ev} (he : e ∈ R.log) : X.isC e.b ∧ (nums R.log)[(nums R.log).idxOf e.b]? = some e.b := by
  obtain ⟨k, hk, rfl⟩ := List.mem_iff_getElem.1 he
  have hk' := List.getElem?_eq_getElem hk
  obtain ⟨w, i, r, _, hr, e1, _⟩ := C.ok.chain.inv hk'
  refine ⟨by rw [e1]; exact hr.cell, ?_⟩
  have hm : (R.log[k]).b ∈ nums R.log := (nums_mem _ _).2 ⟨_, he, rfl⟩
  have hlt := List.idxOf_lt_length_iff.2 hm
  rw [List.getElem?_eq_getElem hlt]
  simp
theorem RecOk.left_uniq (ok : RecOk X picks R) {q q' : Nat × Rq} (h : q ∈ R.left) (h' : q' ∈ R.left) (e : q.1 = q'.1) : q = q' := by
  obtain ⟨j, hj, rfl⟩ := List.mem_iff_getElem.1 h
  obtain ⟨j', hj', rfl⟩ := List.mem_iff_getElem.1 h'
  have hp := List.pairwise_iff_getElem.1 ok.rise
  rcases Nat.lt_trichotomy j j' with y | y | y
  · have := hp j j' hj hj' y; omega
  · subst y; rfl
  · have := hp j' j hj' hj y; omega
set_option maxHeartbeats 16000000 in
set_option maxRecDepth 8000 in
theorem does_ok (C : WC X picks R nm lL lW lY lV sP h0 s) (hpf : PF R i pf) (w : WIn R nm lL lW lY lV h0 W s pf x i (.step r k) l o h) {n : Nme} (hn : n = nm r.b) :
    CallW Try.prog main (NoS (Γ := Γ)) 154 #[ptr x, .int .i8 r.op, nmeV n, .int .i64 r.arg, .int .i64 r.new] h δ (Ret fun v h' δ' => δ' = δ ∧ Upd (WT s x) h h' ∧ ((∃ w l', l = evOf i r w :: l' ∧ v = .agg (entL (nums R.log) (evOf i r w)).toArray ∧ WIn R nm lL lW lY lV h0 W s pf x i (k w) l' o h') ∨ (o = [] ∧ v = .agg acc0.toArray ∧ WOu R nm lL lW lY lV h0 W s x i h'))) := by
  subst hn
  have hlen : R.log.length ≤ 65536 := Nat.le_trans C.ok.len C.ok.most
  have hnl := Nat.le_trans (nums_len R.log) hlen
  have hll := C.ok.left_len
  have wcases := w.cases
  have wt := w.wt
  obtain ⟨op, b, arg, new⟩ := r
  obtain ⟨⟨q, I, N⟩, ⟨⟨t, ht, hl, hx⟩, -⟩, hx0⟩ := w
  dsimp only
  have u0 : Upd (fun _ => False) h ((h.push (nmeO (nm b))).push (accO acc0)) := (Upd.push _ _).trans (Upd.push _ _)
  obtain ⟨yN, hyN⟩ : ∃ yN, yN = h.size := ⟨_, rfl⟩
  obtain ⟨y, hy⟩ : ∃ y, y = h.size + 1 := ⟨_, rfl⟩
  have gN : ((h.push (nmeO (nm b))).push (accO acc0))[yN]? = some (nmeO (nm b)) := by rw [hyN]; exact get_push _ (get_push_new _ _)
  have gy : ((h.push (nmeO (nm b))).push (accO acc0))[y]? = some (accO acc0) := by
    have := get_push_new (h.push (nmeO (nm b))) (accO acc0)
    rw [Array.size_push] at this
    rw [hy]; exact this
  refine CallW.start (n := 122) rfl rfl ?_
  (repeat (first | refine EK.seq ?_ | refine EK.region ?_ | refine ER.done ?_ | refine ER.move rfl rfl rfl ?_ | refine ER.nilCheck rfl rfl rfl ?_ | refine ER.fieldAddr rfl rfl rfl ?_ | refine ER.boxA rfl rfl rfl ?_ | refine ER.allocA rfl rfl ?_))
  simp only [Array.size_push]
  refine ER.gen (fun h' => WkI R nm lL lW lY lV h0 W ((nums R.log).map R.v0) { s with q := q } h' ∧ Upd (fun _ => False) h h' ∧ h'[x]? = some (wrO W i false t) ∧ h'[yN]? = some (nmeO (nm b)) ∧ h'[y]? = some (accO acc0)) ⟨I.upd0 u0, u0, get_push _ (get_push _ hx), gN, gy⟩ ?_
  rw [← hy, ← hyN]
  have hxl := lt_of_get hx
  have h00 := I.up.size
  have nT : ∀ c, (blk s.nv = some c ∨ blk s.gv = some c) → c < h.size := fun c hc => (wt c (.inr hc)).2
  clear I hx gN gy u0
  rintro h1 ⟨I, u1, hx, gN, gy⟩
  have x2 : hcell h1 ⟨x, 2, none⟩ = some (.bool false) := hcell_of hx rfl
  have hs1 := u1.size
  (repeat (first | refine EK.seq ?_ | refine EK.region ?_ | refine ER.done ?_ | refine EK.skip ?_ | refine ER.move rfl rfl rfl ?_ | refine ER.load1 rfl rfl rfl (hcell_of (by assumption) rfl) ?_ | refine EK.condF rfl ?_))
  refine ER.callR rfl rfl rfl rfl rfl (wnext_ok C.m hlen I hx hx0 ht) ?_
  clear I hx x2
  rintro _ h2 δ2 ⟨rfl, t2, ht2, hx, I, u2, hc⟩
  replace gN := u2.get gN (by omega)
  replace gy := u2.get gy (by omega)
  have hs2 := u2.size
  have hgy := lt_of_get gy
  have uu : Upd (WT s x) h h2 := upd_then (u1.mono (fun _ _ z => z.elim)) u2 (fun c _ hc => .inl hc)
  clear u1 u2
  rcases hc with ⟨e, ho, he, rfl⟩ | ⟨ho, ho2, rfl⟩
  · obtain ⟨w', l', e1, gk⟩ : ∃ v l', ownFrom R i t2 = l' ∧ e = evOf i ⟨op, b, arg, new⟩ v ∧ l = e :: l' ∧ Goes i (k v) l' o pf := by
      rw [hl] at ho
      rcases wcases with ⟨v, l', e1, g⟩ | ⟨e1, -, -⟩
      · rw [ho] at e1
        injection e1 with e1 e2
        exact ⟨v, l', e2, e1, by rw [ho, e2], g⟩
      · rw [ho] at e1; cases e1
    obtain ⟨e2, e3, gk⟩ := gk
    subst e2
    obtain ⟨hbc, hb⟩ := C.log_at he
    change X.isC b at hbc
    change (nums R.log)[(nums R.log).idxOf b]? = some b at hb
    have hF : ((nums R.log).map R.v0)[(nums R.log).idxOf b]? = some (lookN s.hs (nm b)) := by rw [List.getElem?_map, hb, C.beg b hbc]; rfl
    have hinj : ∀ b', b' ∈ nums R.log → nm b' = nm b → b' = b := fun b' hb' e => C.inj b' b (by
      obtain ⟨e', he', rfl⟩ := (nums_mem _ _).1 hb'
      exact (C.log_at he').1) hbc e
    obtain ⟨z, hz⟩ : ∃ z, z = h2.size := ⟨_, rfl⟩
    (repeat (first | refine ER.move rfl rfl rfl ?_ | refine ER.extract rfl rfl rfl rfl ?_ | refine ER.allocA rfl rfl ?_))
    refine ER.storeN (vs := entL (nums R.log) (evOf i ⟨op, b, arg, new⟩ w')) rfl rfl rfl rfl (by simp [entL, accL, OneCell]) (acc_all (vs := acc0) rfl (get_push_new _ _)) ?_
    rw [hsetRow_push (c := [.int .i64 0, .int .i8 0, .int .i64 0, .int .i64 0, .int .i64 0, .int .i64 0, .int .i64 0, .bool false]) (vs := entL (nums R.log) (evOf i ⟨op, b, arg, new⟩ w')) rfl]
    refine ER.gen (fun h' => WkI R nm lL lW lY lV h0 W ((nums R.log).map R.v0) { s with q := q } h' ∧ Upd (WT s x) h h' ∧ h'[x]? = some (wrO W i false t2) ∧ h'[yN]? = some (nmeO (nm b)) ∧ h'[y]? = some (accO acc0) ∧ h'[z]? = some (accO (entL (nums R.log) (evOf i ⟨op, b, arg, new⟩ w')))) ⟨I.upd0 (Upd.push _ _), uu.trans (Upd.push _ _), get_push _ hx, get_push _ gN, get_push _ gy, by rw [hz]; exact get_push_new _ _⟩ ?_
    rw [← hz]
    clear I uu hx gN gy
    rintro h3 ⟨I, u3, hx, gN, gy, gz⟩
    have z1 : hcell h3 ⟨z, 1, none⟩ = some (.int .i8 op) := hcell_of gz rfl
    have z2 : hcell h3 ⟨z, 2, none⟩ = some (.int .i64 ((nums R.log).idxOf b : Nat)) := hcell_of gz rfl
    have z3 : hcell h3 ⟨z, 3, none⟩ = some (.int .i64 arg) := hcell_of gz rfl
    have z4 : hcell h3 ⟨z, 4, none⟩ = some (.int .i64 new) := hcell_of gz rfl
    have x0 : hcell h3 ⟨x, 0, none⟩ = some (ptr W) := hcell_of hx rfl
    have rN : TJ.hrow h3 yN 0 (nmeL (nm b)) := hrow_block (rest := []) (by rw [List.append_nil]; exact gN)
    generalize (nums R.log).idxOf b = ix at hb hF z2
    (repeat (first | refine EK.seq ?_ | refine EK.region ?_ | refine ER.done ?_ | refine ER.move rfl rfl rfl ?_ | refine ER.assign rfl rfl rfl ?_ | refine EK.condT rfl ?_))
    refine EK.regionAny (fun h' => hcell h' ⟨z, 1, none⟩ = some (.int .i8 op) ∧ hcell h' ⟨z, 2, none⟩ = some (.int .i64 ix) ∧ hcell h' ⟨z, 3, none⟩ = some (.int .i64 arg) ∧ hcell h' ⟨z, 4, none⟩ = some (.int .i64 new) ∧ hcell h' ⟨x, 0, none⟩ = some (ptr W) ∧ TJ.hrow h' yN 0 (nmeL (nm b))) ?_
    have hZ : _ ∧ _ ∧ _ ∧ _ ∧ _ ∧ _ := And.intro z1 ⟨z2, z3, z4, x0, rN⟩
    refine EA.tField 0 rfl (by kernel_rfl) rfl rfl rfl rfl hZ ?_
    refine EA.tLoad 1 rfl (by kernel_rfl) rfl rfl rfl rfl (fun _ hz => hz.1) hZ ?_
    refine EA.tMove 2 rfl (by kernel_rfl) rfl rfl rfl rfl hZ ?_
    refine EA.tCmpF 3 rfl (by kernel_rfl) rfl rfl rfl rfl rfl rfl (by first | (dsimp only [cmpP]; omega) | exact rfl | exact Int.le_refl _) hZ ?_
    refine EA.tMove 4 rfl (by kernel_rfl) rfl rfl rfl rfl hZ ?_
    refine EA.tField 5 rfl (by kernel_rfl) rfl rfl rfl rfl hZ ?_
    refine EA.tLoad 6 rfl (by kernel_rfl) rfl rfl rfl rfl (fun _ hz => hz.2.2.1) hZ ?_
    refine EA.tMove 7 rfl (by kernel_rfl) rfl rfl rfl rfl hZ ?_
    refine EA.tCmpF 8 rfl (by kernel_rfl) rfl rfl rfl rfl rfl rfl (by first | (dsimp only [cmpP]; omega) | exact rfl | exact Int.le_refl _) hZ ?_
    refine EA.tPickF 9 rfl (by kernel_rfl) rfl rfl rfl rfl rfl hZ ?_
    refine EA.tMove 10 rfl (by kernel_rfl) rfl rfl rfl rfl hZ ?_
    refine EA.tField 11 rfl (by kernel_rfl) rfl rfl rfl rfl hZ ?_
    refine EA.tLoad 12 rfl (by kernel_rfl) rfl rfl rfl rfl (fun _ hz => hz.2.2.2.1) hZ ?_
    refine EA.tMove 13 rfl (by kernel_rfl) rfl rfl rfl rfl hZ ?_
    refine EA.tCmpF 14 rfl (by kernel_rfl) rfl rfl rfl rfl rfl rfl (by first | (dsimp only [cmpP]; omega) | exact rfl | exact Int.le_refl _) hZ ?_
    refine EA.tPickF 15 rfl (by kernel_rfl) rfl rfl rfl rfl rfl hZ ?_
    refine EA.tMove 16 rfl (by kernel_rfl) rfl rfl rfl rfl hZ ?_
    refine EA.tMove 17 rfl (by kernel_rfl) rfl rfl rfl rfl hZ ?_
    refine EA.tNil 18 rfl (by kernel_rfl) rfl rfl rfl rfl hZ ?_
    refine EA.tField 19 rfl (by kernel_rfl) rfl rfl rfl rfl hZ ?_
    refine EA.tLoad 20 rfl (by kernel_rfl) rfl rfl rfl rfl (fun _ hz => hz.2.2.2.2.1) hZ ?_
    refine EA.tField 21 rfl (by kernel_rfl) rfl rfl rfl rfl hZ ?_
    refine EA.tLoad 22 rfl (by kernel_rfl) rfl rfl rfl rfl (fun _ hz => hz.2.1) hZ ?_
    refine EA.tLoadN (vs := nmeL (nm b)) 23 rfl (by kernel_rfl) rfl rfl rfl rfl rfl (fun _ hz => hz.2.2.2.2.2) hZ ?_
    refine EA.callR 24 rfl (by kernel_rfl) rfl rfl rfl rfl rfl rfl (is_ok (s := { s with q := q }) I N hb hF hinj hnl C.hsl) ?_
    rintro _ h4 δ4 ⟨rfl, rfl, I4, u4⟩
    have nx : ∀ c, (blk s.nv = some c ∨ blk s.gv = some c) → c ≠ x := fun c hc => hc.elim (fun y => sliceO_ne I.nms hx (by decide) c y) (fun y => sliceO_ne I.giv hx (by decide) c y)
    have nz : ¬ (blk s.nv = some z ∨ blk s.gv = some z) := fun hc => by have := nT _ hc; omega
    have nN : ¬ (blk s.nv = some yN ∨ blk s.gv = some yN) := fun hc => by have := nT _ hc; omega
    have ny : ¬ (blk s.nv = some y ∨ blk s.gv = some y) := fun hc => by have := nT _ hc; omega
    replace hx := u4.get hx (fun hc => nx x hc rfl)
    replace gN := u4.get gN nN
    replace gy := u4.get gy ny
    replace gz := u4.get gz nz
    have z1 : hcell h4 ⟨z, 1, none⟩ = some (.int .i8 op) := u4.hcell z1 nz
    have z2 : hcell h4 ⟨z, 2, none⟩ = some (.int .i64 ix) := u4.hcell z2 nz
    have z3 : hcell h4 ⟨z, 3, none⟩ = some (.int .i64 arg) := u4.hcell z3 nz
    have z4 : hcell h4 ⟨z, 4, none⟩ = some (.int .i64 new) := u4.hcell z4 nz
    have x0 : hcell h4 ⟨x, 0, none⟩ = some (ptr W) := hcell_of hx rfl
    have rN : TJ.hrow h4 yN 0 (nmeL (nm b)) := hrow_block (rest := []) (by rw [List.append_nil]; exact gN)
    have hZ : _ ∧ _ ∧ _ ∧ _ ∧ _ ∧ _ := And.intro z1 ⟨z2, z3, z4, x0, rN⟩
    refine ⟨hZ, ?_⟩
    refine EA.tNot 25 rfl (by kernel_rfl) rfl rfl rfl rfl hZ ?_
    refine EA.tPickF 26 rfl (by kernel_rfl) rfl rfl rfl rfl rfl hZ ?_
    refine EA.done (by kernel_rfl) ?_
    have uu : Upd (WT s x) h h4 := upd_then u3 u4 (fun c _ hc => .inr hc)
    clear hZ I u3 u4 z1 z2 z3 z4 x0 rN nx
    (repeat (first | refine EK.seq ?_ | refine EK.region ?_ | refine EK.skip ?_ | refine EK.condF rfl ?_))
    refine ER.loadN (vs := entL (nums R.log) (evOf i ⟨op, b, arg, new⟩ w')) rfl rfl rfl rfl (hrow_block (rest := []) (by rw [List.append_nil]; exact gz)) ?_
    refine ER.storeN (vs := entL (nums R.log) (evOf i ⟨op, b, arg, new⟩ w')) rfl rfl rfl rfl (by simp [entL, accL, OneCell]) (acc_all rfl gy) ?_
    rw [row_set (c := acc0) (vs := entL (nums R.log) (evOf i ⟨op, b, arg, new⟩ w')) gy rfl]
    (repeat (first | refine ER.done ?_ | refine EK.ret ?_))
    refine EU.retCell1 (vs := entL (nums R.log) (evOf i ⟨op, b, arg, new⟩ w')) rfl rfl rfl (hrow_block (rest := []) (by rw [List.append_nil]; exact get_set_same gy)) ⟨rfl, upd_then uu (Upd.set (T := fun c => c = y) _ _ _ rfl) (fun c hc e => by omega), .inl ⟨w', l', e3, rfl, ⟨⟨_, I4.other gy (by omega) (by decide) (by decide) (by decide) (by decide) _, N.set hb⟩, ⟨⟨t2, ht2, e1, by rw [get_set_ne _ (by omega)]; exact hx⟩, gk⟩, hx0⟩⟩⟩
  · obtain ⟨eo, epf⟩ : o = [] ∧ pf = .step ⟨op, b, arg, new⟩ k := by
      rw [hl] at ho
      rcases wcases with ⟨v, l', e1, g⟩ | ⟨-, e2, e3⟩
      · rw [ho] at e1; cases e1
      · exact ⟨e2, e3⟩
    subst eo
    have hmem : (i, (⟨op, b, arg, new⟩ : Rq)) ∈ R.left := by
      rcases hpf with ⟨r', k', hm, e⟩ | ⟨-, e⟩
      · rw [epf] at e
        injection e with e e'
        subst e
        exact hm
      · rw [epf] at e; cases e
    clear wcases hpf epf ho
    have hbc : X.isC b := (C.ok.left _ hmem).2.cell
    obtain ⟨z, hz⟩ : ∃ z, z = h2.size := ⟨_, rfl⟩
    (repeat (first | refine ER.move rfl rfl rfl ?_ | refine ER.extract rfl rfl rfl rfl ?_ | refine ER.allocA rfl rfl ?_))
    refine ER.storeN (vs := acc0) rfl rfl rfl rfl (by simp [accL, OneCell]) (acc_all (vs := acc0) rfl (get_push_new _ _)) ?_
    rw [hsetRow_push (c := [.int .i64 0, .int .i8 0, .int .i64 0, .int .i64 0, .int .i64 0, .int .i64 0, .int .i64 0, .bool false]) (vs := acc0) rfl]
    refine ER.gen (fun h' => WkI R nm lL lW lY lV h0 W ((nums R.log).map R.v0) { s with q := q } h' ∧ Upd (WT s x) h h' ∧ h'[x]? = some (wrO W i false t2) ∧ h'[yN]? = some (nmeO (nm b)) ∧ h'[y]? = some (accO acc0) ∧ h'[z]? = some (accO acc0)) ⟨I.upd0 (Upd.push _ _), uu.trans (Upd.push _ _), get_push _ hx, get_push _ gN, get_push _ gy, by rw [hz]; exact get_push_new _ _⟩ ?_
    rw [← hz]
    clear I uu hx gN gy
    rintro h3 ⟨I, u3, hx, gN, gy, gz⟩
    (repeat (first | refine EK.seq ?_ | refine EK.region ?_ | refine ER.done ?_ | refine EK.skip ?_ | refine ER.move rfl rfl rfl ?_ | refine ER.assign rfl rfl rfl ?_ | refine EK.condF rfl ?_))
    refine ER.callR rfl rfl rfl rfl rfl (wleft_ok C.m (Nat.le_trans hll (by decide)) I hx hx0) ?_
    rintro _ h4 δ4 ⟨rfl, u4, hc⟩
    obtain ⟨q', hq', e4, rfl⟩ : ∃ q', q' ∈ R.left ∧ q'.1 = i ∧ _ := hc.resolve_right fun hn => hn.1 _ hmem rfl
    obtain rfl := C.ok.left_uniq hq' hmem e4
    clear e4 hq' hc
    replace I := I.upd0 u4
    replace hx := u4.get hx (fun z => z)
    replace gN := u4.get gN (fun z => z)
    replace gy := u4.get gy (fun z => z)
    replace gz := u4.get gz (fun z => z)
    replace u3 : Upd (WT s x) h h4 := upd_then u3 u4 (fun _ _ z => z.elim)
    clear u4
    obtain ⟨cv, hcv⟩ : ∃ cv : Int, cv = if b ∈ nums R.log then ((nums R.log).idxOf b : Int) else -1 := ⟨_, rfl⟩
    have eL : leftE (nums R.log) R.val (i, ⟨op, b, arg, new⟩) = accL i op cv arg new (R.val b) (R.val b) false := by rw [hcv]; rfl
    rw [eL]
    (repeat (first | refine ER.move rfl rfl rfl ?_ | refine ER.extract rfl rfl rfl rfl ?_))
    refine ER.storeN (vs := accL i op cv arg new (R.val b) (R.val b) false) rfl rfl rfl rfl (by simp [accL, OneCell]) (acc_all rfl gz) ?_
    rw [row_set (c := acc0) (vs := accL i op cv arg new (R.val b) (R.val b) false) gz rfl]
    refine ER.gen (fun h' => WkI R nm lL lW lY lV h0 W ((nums R.log).map R.v0) { s with q := q } h' ∧ Upd (WT s x) h h' ∧ h'[x]? = some (wrO W i false t2) ∧ h'[yN]? = some (nmeO (nm b)) ∧ h'[y]? = some (accO acc0) ∧ h'[z]? = some (accO (accL i op cv arg new (R.val b) (R.val b) false))) ⟨I.other gz (by omega) (by decide) (by decide) (by decide) (by decide) _, upd_then u3 (Upd.set (T := fun c => c = z) _ _ _ rfl) (fun c hc e => by omega), by rw [get_set_ne _ (by omega)]; exact hx, by rw [get_set_ne _ (by omega)]; exact gN, by rw [get_set_ne _ (by omega)]; exact gy, get_set_same gz⟩ ?_
    clear I u3 hx gN gy gz
    rintro h5 ⟨I, u5, hx, gN, gy, gz⟩
    have z1 : hcell h5 ⟨z, 1, none⟩ = some (.int .i8 op) := hcell_of gz rfl
    have z2 : hcell h5 ⟨z, 2, none⟩ = some (.int .i64 cv) := hcell_of gz rfl
    have z3 : hcell h5 ⟨z, 3, none⟩ = some (.int .i64 arg) := hcell_of gz rfl
    have z4 : hcell h5 ⟨z, 4, none⟩ = some (.int .i64 new) := hcell_of gz rfl
    have z5 : hcell h5 ⟨z, 5, none⟩ = some (.int .i64 (R.val b)) := hcell_of gz rfl
    have x0 : hcell h5 ⟨x, 0, none⟩ = some (ptr W) := hcell_of hx rfl
    have rN : TJ.hrow h5 yN 0 (nmeL (nm b)) := hrow_block (rest := []) (by rw [List.append_nil]; exact gN)
    (repeat (first | refine EK.seq ?_ | refine ER.done ?_ | refine ER.assign rfl rfl rfl ?_))
    refine EK.join (fun _ : Unit => [(10, ptr y), (0, ptr x), (111, .bool false)]) (fun _ h' δ' => δ' = δ4 ∧ WAll R nm lL lW lY lV h0 W s h' ∧ Upd (WT s x) h h' ∧ h'[x]? = some (wrO W i false t2) ∧ h'[y]? = some (accO acc0)) (fun key => ?_) ?_
    · refine EK.regionAny (fun h' => hcell h' ⟨z, 1, none⟩ = some (.int .i8 op) ∧ hcell h' ⟨z, 2, none⟩ = some (.int .i64 cv) ∧ hcell h' ⟨z, 3, none⟩ = some (.int .i64 arg) ∧ hcell h' ⟨z, 4, none⟩ = some (.int .i64 new) ∧ hcell h' ⟨z, 5, none⟩ = some (.int .i64 (R.val b)) ∧ hcell h' ⟨x, 0, none⟩ = some (ptr W) ∧ TJ.hrow h' yN 0 (nmeL (nm b))) ?_
      have hZ : _ ∧ _ ∧ _ ∧ _ ∧ _ ∧ _ ∧ _ := And.intro z1 ⟨z2, z3, z4, z5, x0, rN⟩
      refine EA.tMove 0 rfl (by kernel_rfl) rfl rfl rfl rfl hZ ?_
      refine EA.tNot 1 rfl (by kernel_rfl) rfl rfl rfl rfl hZ ?_
      refine EA.tMove 2 rfl (by kernel_rfl) rfl rfl rfl rfl hZ ?_
      refine EA.tField 3 rfl (by kernel_rfl) rfl rfl rfl rfl hZ ?_
      refine EA.tLoad 4 rfl (by kernel_rfl) rfl rfl rfl rfl (fun _ hz => hz.1) hZ ?_
      refine EA.tMove 5 rfl (by kernel_rfl) rfl rfl rfl rfl hZ ?_
      refine EA.tCmpF 6 rfl (by kernel_rfl) rfl rfl rfl rfl rfl rfl (by first | (dsimp only [cmpP]; omega) | exact rfl | exact Int.le_refl _) hZ ?_
      refine EA.tPickF 7 rfl (by kernel_rfl) rfl rfl rfl rfl rfl hZ ?_
      refine EA.tMove 8 rfl (by kernel_rfl) rfl rfl rfl rfl hZ ?_
      refine EA.tField 9 rfl (by kernel_rfl) rfl rfl rfl rfl hZ ?_
      refine EA.tLoad 10 rfl (by kernel_rfl) rfl rfl rfl rfl (fun _ hz => hz.2.2.1) hZ ?_
      refine EA.tMove 11 rfl (by kernel_rfl) rfl rfl rfl rfl hZ ?_
      refine EA.tCmpF 12 rfl (by kernel_rfl) rfl rfl rfl rfl rfl rfl (by first | (dsimp only [cmpP]; omega) | exact rfl | exact Int.le_refl _) hZ ?_
      refine EA.tPickF 13 rfl (by kernel_rfl) rfl rfl rfl rfl rfl hZ ?_
      refine EA.tMove 14 rfl (by kernel_rfl) rfl rfl rfl rfl hZ ?_
      refine EA.tField 15 rfl (by kernel_rfl) rfl rfl rfl rfl hZ ?_
      refine EA.tLoad 16 rfl (by kernel_rfl) rfl rfl rfl rfl (fun _ hz => hz.2.2.2.1) hZ ?_
      refine EA.tMove 17 rfl (by kernel_rfl) rfl rfl rfl rfl hZ ?_
      refine EA.tCmpF 18 rfl (by kernel_rfl) rfl rfl rfl rfl rfl rfl (by first | (dsimp only [cmpP]; omega) | exact rfl | exact Int.le_refl _) hZ ?_
      refine EA.tPickF 19 rfl (by kernel_rfl) rfl rfl rfl rfl rfl hZ ?_
      refine EA.tMove 20 rfl (by kernel_rfl) rfl rfl rfl rfl hZ ?_
      refine EA.tField 21 rfl (by kernel_rfl) rfl rfl rfl rfl hZ ?_
      refine EA.tLoad 22 rfl (by kernel_rfl) rfl rfl rfl rfl (fun _ hz => hz.2.1) hZ ?_
      by_cases hbn : b ∈ nums R.log
      · rw [if_pos hbn] at hcv
        obtain ⟨-, hb⟩ : True ∧ (nums R.log)[(nums R.log).idxOf b]? = some b := ⟨trivial, by
          have hlt := List.idxOf_lt_length_iff.2 hbn
          rw [List.getElem?_eq_getElem hlt]; simp⟩
        have hF : ((nums R.log).map R.v0)[(nums R.log).idxOf b]? = some (lookN s.hs (nm b)) := by rw [List.getElem?_map, hb, C.beg b hbc]; rfl
        have hinj : ∀ b', b' ∈ nums R.log → nm b' = nm b → b' = b := fun b' hb' e => C.inj b' b (by
          obtain ⟨e', he', rfl⟩ := (nums_mem _ _).1 hb'
          exact (C.log_at he').1) hbc e
        generalize (nums R.log).idxOf b = ix at hb hF hcv
        subst hcv
        refine EA.tCmpT 23 rfl (by kernel_rfl) rfl rfl rfl rfl rfl rfl (by first | (dsimp only [cmpP]; omega) | exact rfl | exact Int.le_refl _) hZ ?_
        refine EA.tMove 24 rfl (by kernel_rfl) rfl rfl rfl rfl hZ ?_
        refine EA.tMove 25 rfl (by kernel_rfl) rfl rfl rfl rfl hZ ?_
        refine EA.tNil 26 rfl (by kernel_rfl) rfl rfl rfl rfl hZ ?_
        refine EA.tField 27 rfl (by kernel_rfl) rfl rfl rfl rfl hZ ?_
        refine EA.tLoad 28 rfl (by kernel_rfl) rfl rfl rfl rfl (fun _ hz => hz.2.2.2.2.2.1) hZ ?_
        refine EA.tField 29 rfl (by kernel_rfl) rfl rfl rfl rfl hZ ?_
        refine EA.tLoad 30 rfl (by kernel_rfl) rfl rfl rfl rfl (fun _ hz => hz.2.1) hZ ?_
        refine EA.tLoadN (vs := nmeL (nm b)) 31 rfl (by kernel_rfl) rfl rfl rfl rfl rfl (fun _ hz => hz.2.2.2.2.2.2) hZ ?_
        refine EA.callR 32 rfl (by kernel_rfl) rfl rfl rfl rfl rfl rfl (is_ok (s := { s with q := q }) I N hb hF hinj hnl C.hsl) ?_
        rintro _ h6 δ6 ⟨rfl, rfl, I6, u6⟩
        have nx : ¬ (blk s.nv = some x ∨ blk s.gv = some x) := fun hc => hc.elim (fun y => sliceO_ne I.nms hx (by decide) x y rfl) (fun y => sliceO_ne I.giv hx (by decide) x y rfl)
        have nz : ¬ (blk s.nv = some z ∨ blk s.gv = some z) := fun hc => by have := nT _ hc; omega
        have nN : ¬ (blk s.nv = some yN ∨ blk s.gv = some yN) := fun hc => by have := nT _ hc; omega
        have ny : ¬ (blk s.nv = some y ∨ blk s.gv = some y) := fun hc => by have := nT _ hc; omega
        have hZ : _ ∧ _ ∧ _ ∧ _ ∧ _ ∧ _ ∧ _ := And.intro (u6.hcell z1 nz) ⟨u6.hcell z2 nz, u6.hcell z3 nz, u6.hcell z4 nz, u6.hcell z5 nz, u6.hcell x0 nx, fun j v hv => u6.hcell (rN j v hv) nN⟩
        refine ⟨hZ, ?_⟩
        refine EA.tNot 33 rfl (by kernel_rfl) rfl rfl rfl rfl hZ ?_
        refine EA.tPickT 34 rfl (by kernel_rfl) rfl rfl rfl rfl rfl hZ ?_
        refine EA.tPickF 35 rfl (by kernel_rfl) rfl rfl rfl rfl rfl hZ ?_
        refine EA.tMove 36 rfl (by kernel_rfl) rfl rfl rfl rfl hZ ?_
        refine EA.tField 37 rfl (by kernel_rfl) rfl rfl rfl rfl hZ ?_
        refine EA.tLoad 38 rfl (by kernel_rfl) rfl rfl rfl rfl (fun _ hz => hz.2.1) hZ ?_
        refine EA.tCmpF 39 rfl (by kernel_rfl) rfl rfl rfl rfl rfl rfl (by first | (dsimp only [cmpP]; omega) | exact rfl | exact Int.le_refl _) hZ ?_
        refine EA.tMove 40 rfl (by kernel_rfl) rfl rfl rfl rfl hZ ?_
        refine EA.takeNo 41 rfl (by kernel_rfl) rfl rfl rfl hZ ?_
        refine EA.takeNo 42 rfl (by kernel_rfl) rfl rfl rfl hZ ?_
        refine EA.takeNo 43 rfl (by kernel_rfl) rfl rfl rfl hZ ?_
        refine EA.takeNo 44 rfl (by kernel_rfl) rfl rfl rfl hZ ?_
        refine EA.takeNo 45 rfl (by kernel_rfl) rfl rfl rfl hZ ?_
        refine EA.takeNo 46 rfl (by kernel_rfl) rfl rfl rfl hZ ?_
        refine EA.takeNo 47 rfl (by kernel_rfl) rfl rfl rfl hZ ?_
        refine EA.takeNo 48 rfl (by kernel_rfl) rfl rfl rfl hZ ?_
        refine EA.takeNo 49 rfl (by kernel_rfl) rfl rfl rfl hZ ?_
        refine EA.tPickF 50 rfl (by kernel_rfl) rfl rfl rfl rfl rfl hZ ?_
        refine EA.tPickF 51 rfl (by kernel_rfl) rfl rfl rfl rfl rfl hZ ?_
        refine EA.done (by kernel_rfl) ?_
        exact EK.back (key () _ _ ⟨rfl, ⟨_, I6, N.set hb⟩, upd_then u5 u6 (fun c _ hc => .inr hc), u6.get hx nx, u6.get gy ny⟩) ⟨rfl, rfl, rfl, trivial⟩
      · rw [if_neg hbn] at hcv
        subst hcv
        have hvb : R.val b = lookN s.hs (nm b) := by rw [C.ok.chain.first hbn, C.beg b hbc]
        refine EA.tCmpF 23 rfl (by kernel_rfl) rfl rfl rfl rfl rfl rfl (by first | (dsimp only [cmpP]; omega) | exact rfl | exact Int.le_refl _) hZ ?_
        refine EA.tMove 24 rfl (by kernel_rfl) rfl rfl rfl rfl hZ ?_
        refine EA.takeNo 25 rfl (by kernel_rfl) rfl rfl rfl hZ ?_
        refine EA.takeNo 26 rfl (by kernel_rfl) rfl rfl rfl hZ ?_
        refine EA.takeNo 27 rfl (by kernel_rfl) rfl rfl rfl hZ ?_
        refine EA.takeNo 28 rfl (by kernel_rfl) rfl rfl rfl hZ ?_
        refine EA.takeNo 29 rfl (by kernel_rfl) rfl rfl rfl hZ ?_
        refine EA.takeNo 30 rfl (by kernel_rfl) rfl rfl rfl hZ ?_
        refine EA.takeNo 31 rfl (by kernel_rfl) rfl rfl rfl hZ ?_
        refine EA.takeNo 32 rfl (by kernel_rfl) rfl rfl rfl hZ ?_
        refine EA.takeNo 33 rfl (by kernel_rfl) rfl rfl rfl hZ ?_
        refine EA.tPickF 34 rfl (by kernel_rfl) rfl rfl rfl rfl rfl hZ ?_
        refine EA.tPickF 35 rfl (by kernel_rfl) rfl rfl rfl rfl rfl hZ ?_
        refine EA.tMove 36 rfl (by kernel_rfl) rfl rfl rfl rfl hZ ?_
        refine EA.tField 37 rfl (by kernel_rfl) rfl rfl rfl rfl hZ ?_
        refine EA.tLoad 38 rfl (by kernel_rfl) rfl rfl rfl rfl (fun _ hz => hz.2.1) hZ ?_
        refine EA.tCmpT 39 rfl (by kernel_rfl) rfl rfl rfl rfl rfl rfl (by first | (dsimp only [cmpP]; omega) | exact rfl | exact Int.le_refl _) hZ ?_
        refine EA.tMove 40 rfl (by kernel_rfl) rfl rfl rfl rfl hZ ?_
        refine EA.tField 41 rfl (by kernel_rfl) rfl rfl rfl rfl hZ ?_
        refine EA.tLoad 42 rfl (by kernel_rfl) rfl rfl rfl rfl (fun _ hz => hz.2.2.2.2.1) hZ ?_
        refine EA.tMove 43 rfl (by kernel_rfl) rfl rfl rfl rfl hZ ?_
        refine EA.tNil 44 rfl (by kernel_rfl) rfl rfl rfl rfl hZ ?_
        refine EA.tField 45 rfl (by kernel_rfl) rfl rfl rfl rfl hZ ?_
        refine EA.tLoad 46 rfl (by kernel_rfl) rfl rfl rfl rfl (fun _ hz => hz.2.2.2.2.2.1) hZ ?_
        refine EA.tLoadN (vs := nmeL (nm b)) 47 rfl (by kernel_rfl) rfl rfl rfl rfl rfl (fun _ hz => hz.2.2.2.2.2.2) hZ ?_
        refine EA.callR 48 rfl (by kernel_rfl) rfl rfl rfl rfl rfl rfl (begins_ok (s := { s with q := q }) I C.hsl) ?_
        rintro _ h6 δ6 ⟨rfl, rfl, u6⟩
        have hZ : _ ∧ _ ∧ _ ∧ _ ∧ _ ∧ _ ∧ _ := And.intro (u6.hcell z1 (fun x => x)) ⟨u6.hcell z2 (fun x => x), u6.hcell z3 (fun x => x), u6.hcell z4 (fun x => x), u6.hcell z5 (fun x => x), u6.hcell x0 (fun x => x), fun j v hv => u6.hcell (rN j v hv) (fun x => x)⟩
        refine ⟨hZ, ?_⟩
        refine EA.tCmpF 49 rfl (by kernel_rfl) rfl rfl rfl rfl rfl rfl (by first | (dsimp only [cmpP]; omega) | exact rfl | exact Int.le_refl _) hZ ?_
        refine EA.tPickT 50 rfl (by kernel_rfl) rfl rfl rfl rfl rfl hZ ?_
        refine EA.tPickF 51 rfl (by kernel_rfl) rfl rfl rfl rfl rfl hZ ?_
        refine EA.done (by kernel_rfl) ?_
        exact EK.back (key () _ _ ⟨rfl, ⟨q, I.upd0 u6, N⟩, upd_then u5 u6 (fun _ _ hc => hc.elim), u6.get hx (fun x => x), u6.get gy (fun x => x)⟩) ⟨rfl, rfl, rfl, trivial⟩
    clear I u5 hx gN gy gz z1 z2 z3 z4 z5 x0 rN eL hcv
    rintro _ h6 δ6 ⟨rfl, ⟨q6, I, N⟩, u6, hx, gy⟩
    refine EK.condF rfl (EK.skip ?_)
    (repeat (first | refine EK.seq ?_ | refine EK.region ?_ | refine ER.move rfl rfl rfl ?_ | refine ER.nilCheck rfl rfl rfl ?_ | refine ER.fieldAddr rfl rfl rfl ?_))
    have x2 : hcell h6 ⟨x, 2, none⟩ = some (.bool false) := hcell_of hx rfl
    refine ER.store1 rfl rfl rfl ⟨nofun, nofun⟩ ⟨_, x2⟩ (hfroz_of hx) (fun x => x) ?_
    have e7 : hset h6 ⟨x, 2, none⟩ (.bool true) = h6.setIfInBounds x (wrO W i true t2) := hset_block hx _
    change ER _ _ _ _ _ _ _ _ _ _ (hset h6 ⟨x, 2, none⟩ (.bool true)) _ _
    rw [e7]
    have hx7 : (h6.setIfInBounds x (wrO W i true t2))[x]? = some (wrO W i true t2) := get_set_same hx
    have gy7 : (h6.setIfInBounds x (wrO W i true t2))[y]? = some (accO acc0) := by rw [get_set_ne _ (by omega)]; exact gy
    have I7 := I.other hx hx0 (by decide) (by decide) (by decide) (by decide) (wrO W i true t2)
    have u7 : Upd (WT s x) h (h6.setIfInBounds x (wrO W i true t2)) := u6.trans (Upd.set _ _ _ (.inl rfl))
    clear e7 I u6 hx gy x2
    generalize h6.setIfInBounds x (wrO W i true t2) = h7 at hx7 gy7 I7 u7 ⊢
    (repeat (first | refine EK.seq ?_ | refine EK.region ?_ | refine ER.done ?_))
    refine ER.buildS (cells := acc0.toArray) rfl rfl (by rfl) rfl ?_
    refine ER.storeN (vs := acc0) rfl rfl rfl rfl (by simp [accL, OneCell]) (acc_all rfl gy7) ?_
    rw [row_set (c := acc0) (vs := acc0) gy7 rfl]
    (repeat (first | refine ER.done ?_ | refine EK.ret ?_))
    refine EU.retCell1 (vs := acc0) rfl rfl rfl (hrow_block (rest := []) (by rw [List.append_nil]; exact get_set_same gy7)) ⟨rfl, upd_then u7 (Upd.set (T := fun c => c = y) _ _ _ rfl) (fun c hc e => by omega), .inr ⟨rfl, rfl, ⟨⟨_, I7.other gy7 (by omega) (by decide) (by decide) (by decide) (by decide) _, N⟩, ⟨⟨t2, ht2, ho2, by rw [get_set_ne _ (by omega)]; exact hx7⟩, ⟨_, hmem⟩⟩, hx0⟩⟩⟩
end
end Go.Proofs.Ytcpcdnkemobneaa
end
section
namespace Go.Proofs.Ytcpcdnkemobneaa
open Go Go.TJ Go.Conc Go.Proofs
section
variable {Γ : Type} {main : Bool} {S : Sit Γ} {δ : Ix Γ} {R : Rec} {nm : Nat → Nme} {lL lW lY lV sP : Value} {h0 h h' : Hp} {W x i t : Nat} {s : WS} {picks : List Int} {X : Us} {A : Type} {pf p : Pr A} {k : Int → Pr A} {l : List Ev} {o : List A}
def WRes (R : Rec) (nm : Nat → Nme) (lL lW lY lV : Value) (h0 : Hp) (W : Nat) (s : WS) (pf : Pr A) (x i : Nat) (r : Rq) (k : Int → Pr A) (l : List Ev) (o : List A) (f : Int → Value) (z : Value) (h : Hp) (v : Value) (h' : Hp) : Prop :=
  Upd (WT s x) h h' ∧ ((∃ w l', l = evOf i r w :: l' ∧ v = f w ∧ WIn R nm lL lW lY lV h0 W s pf x i (k w) l' o h') ∨ (o = [] ∧ v = z ∧ WOu R nm lL lW lY lV h0 W s x i h'))
set_option maxRecDepth 8000 in
set_option maxHeartbeats 1000000 in
theorem wload_ok (C : WC X picks R nm lL lW lY lV sP h0 s) (hpf : PF R i pf) {b : Nat} (w : WIn R nm lL lW lY lV h0 W s pf x i (.step ⟨1, b, 0, 0⟩ k) l o h) {n : Nme} (hn : n = nm b) :
    CallW Try.prog main (NoS (Γ := Γ)) 89 #[ptr x, nmeV n] h δ (Ret fun v h' δ' => δ' = δ ∧ WRes R nm lL lW lY lV h0 W s pf x i ⟨1, b, 0, 0⟩ k l o (fun w => .int .i64 w) (.int .i64 0) h v h') := by
  subst hn
  refine CallW.start (n := 9) rfl rfl ?_
  (repeat (first | refine EK.seq ?_ | refine EK.region ?_ | refine ER.done ?_ | refine ER.move rfl rfl rfl ?_ | refine ER.assign rfl rfl rfl ?_ | refine ER.boxA rfl rfl rfl ?_))
  refine ER.loadN (vs := nmeL (nm b)) rfl rfl rfl rfl (hrow_block (rest := []) (by rw [List.append_nil]; exact get_push_new _ _)) ?_
  skip
  refine ER.callR rfl rfl rfl rfl rfl (does_ok (r := ⟨1, b, 0, 0⟩) C hpf (w.upd0 (Upd.push _ _)) rfl) ?_
  rintro _ h2 δ2 ⟨rfl, u2, hc⟩
  have uu : Upd (WT s x) h h2 := upd_then (Upd.push (T := WT s x) h (nmeO (nm b))) u2 (fun _ _ z => z)
  rcases hc with ⟨w', l', e1, rfl, w2⟩ | ⟨e1, rfl, w2⟩
  · refine ER.field (v := .int .i64 w') Try.underlying75 rfl Try.underlying2 rfl rfl rfl rfl rfl ?_
    (repeat (first | refine ER.done ?_ | refine ER.assign rfl rfl rfl ?_ | refine EK.ret ?_))
    exact EU.ret1 rfl rfl ⟨rfl, uu, .inl ⟨w', l', e1, rfl, w2⟩⟩
  · refine ER.field (v := .int .i64 0) Try.underlying75 rfl Try.underlying2 rfl rfl rfl rfl rfl ?_
    (repeat (first | refine ER.done ?_ | refine ER.assign rfl rfl rfl ?_ | refine EK.ret ?_))
    exact EU.ret1 rfl rfl ⟨rfl, uu, .inr ⟨e1, rfl, w2⟩⟩
set_option maxRecDepth 8000 in
set_option maxHeartbeats 1000000 in
theorem wstore_ok (C : WC X picks R nm lL lW lY lV sP h0 s) (hpf : PF R i pf) {b : Nat} {v : Int} (w : WIn R nm lL lW lY lV h0 W s pf x i (.step ⟨2, b, v, 0⟩ k) l o h) {n : Nme} (hn : n = nm b) :
    CallW Try.prog main (NoS (Γ := Γ)) 86 #[ptr x, nmeV n, .int .i64 v] h δ (Ret fun z h' δ' => δ' = δ ∧ WRes R nm lL lW lY lV h0 W s pf x i ⟨2, b, v, 0⟩ k l o (fun _ => .tuple #[]) (.tuple #[]) h (.tuple #[]) h') := by
  subst hn
  refine CallW.start (n := 10) rfl rfl ?_
  (repeat (first | refine EK.seq ?_ | refine EK.region ?_ | refine ER.done ?_ | refine ER.move rfl rfl rfl ?_ | refine ER.boxA rfl rfl rfl ?_))
  refine ER.loadN (vs := nmeL (nm b)) rfl rfl rfl rfl (hrow_block (rest := []) (by rw [List.append_nil]; exact get_push_new _ _)) ?_
  (repeat refine ER.move rfl rfl rfl ?_)
  refine ER.callR rfl rfl rfl rfl rfl (does_ok (r := ⟨2, b, v, 0⟩) C hpf (w.upd0 (Upd.push _ _)) rfl) ?_
  rintro _ h2 δ2 ⟨rfl, u2, hc⟩
  have uu : Upd (WT s x) h h2 := upd_then (Upd.push (T := WT s x) h (nmeO (nm b))) u2 (fun _ _ z => z)
  rcases hc with ⟨w', l', e1, rfl, w2⟩ | ⟨e1, rfl, w2⟩
  · (repeat refine ER.done ?_)
    exact EK.done (EU.ret0 rfl ⟨rfl, uu, .inl ⟨w', l', e1, rfl, w2⟩⟩)
  · (repeat refine ER.done ?_)
    exact EK.done (EU.ret0 rfl ⟨rfl, uu, .inr ⟨e1, rfl, w2⟩⟩)
set_option maxRecDepth 8000 in
set_option maxHeartbeats 1000000 in
theorem wcas_ok (C : WC X picks R nm lL lW lY lV sP h0 s) (hpf : PF R i pf) {b : Nat} {v c : Int} (w : WIn R nm lL lW lY lV h0 W s pf x i (.step ⟨3, b, v, c⟩ k) l o h) {n : Nme} (hn : n = nm b) :
    CallW Try.prog main (NoS (Γ := Γ)) 103 #[ptr x, nmeV n, .int .i64 v, .int .i64 c] h δ (Ret fun z h' δ' => δ' = δ ∧ WRes R nm lL lW lY lV h0 W s pf x i ⟨3, b, v, c⟩ k l o (fun w => .bool (decide (w = v))) (.bool false) h z h') := by
  subst hn
  refine CallW.start (n := 15) rfl rfl ?_
  (repeat (first | refine EK.seq ?_ | refine EK.region ?_ | refine ER.done ?_ | refine ER.move rfl rfl rfl ?_ | refine ER.assign rfl rfl rfl ?_ | refine ER.boxA rfl rfl rfl ?_))
  refine ER.loadN (vs := nmeL (nm b)) rfl rfl rfl rfl (hrow_block (rest := []) (by rw [List.append_nil]; exact get_push_new _ _)) ?_
  (repeat refine ER.move rfl rfl rfl ?_)
  refine ER.callR rfl rfl rfl rfl rfl (does_ok (r := ⟨3, b, v, c⟩) C hpf (w.upd0 (Upd.push _ _)) rfl) ?_
  rintro _ h2 δ2 ⟨rfl, u2, hc⟩
  have uu : Upd (WT s x) h h2 := upd_then (Upd.push (T := WT s x) h (nmeO (nm b))) u2 (fun _ _ z => z)
  rcases hc with ⟨w', l', e1, rfl, w2⟩ | ⟨e1, rfl, w2⟩
  · refine ER.field (v := .bool (decide (w' = v))) Try.underlying75 rfl Try.underlying4 rfl rfl rfl rfl (by
      by_cases e : w' = v
      · simp [entL, accL, evOf, behind, e]
      · simp [entL, accL, evOf, behind, e]) ?_
    (repeat (first | refine ER.done ?_ | refine ER.assign rfl rfl rfl ?_ | refine EK.ret ?_))
    exact EU.ret1 rfl rfl ⟨rfl, uu, .inl ⟨w', l', e1, rfl, w2⟩⟩
  · refine ER.field (v := .bool false) Try.underlying75 rfl Try.underlying4 rfl rfl rfl rfl rfl ?_
    (repeat (first | refine ER.done ?_ | refine ER.assign rfl rfl rfl ?_ | refine EK.ret ?_))
    exact EU.ret1 rfl rfl ⟨rfl, uu, .inr ⟨e1, rfl, w2⟩⟩
def WNil (s : WS) (R : Rec) (nm : Nat → Nme) (lL lW lY lV : Value) (h0 : Hp) (W x i : Nat) (h h' : Hp) : Prop := Upd (fun _ => False) h h' ∧ WOu R nm lL lW lY lV h0 W s x i h'
set_option maxRecDepth 8000 in
set_option maxHeartbeats 1000000 in
theorem wload_out {n : Nme} (w : WOu R nm lL lW lY lV h0 W s x i h) :
    CallW Try.prog main (NoS (Γ := Γ)) 89 #[ptr x, nmeV n] h δ (Ret fun v h' δ' => δ' = δ ∧ v = .int .i64 0 ∧ WNil s R nm lL lW lY lV h0 W x i h h') := by
  refine CallW.start (n := 9) rfl rfl ?_
  obtain ⟨t, ht, hl, hx⟩ := w.out.at_
  (repeat (first | refine EK.seq ?_ | refine EK.region ?_ | refine ER.done ?_ | refine ER.move rfl rfl rfl ?_ | refine ER.assign rfl rfl rfl ?_ | refine ER.boxA rfl rfl rfl ?_))
  refine ER.loadN (vs := nmeL n) rfl rfl rfl rfl (hrow_block (rest := []) (by rw [List.append_nil]; exact get_push_new _ _)) ?_
  skip
  refine ER.callR rfl rfl rfl rfl rfl (does_out (get_push _ hx)) ?_
  rintro _ h2 δ2 ⟨rfl, rfl, u2⟩
  have uu : Upd (fun _ => False) h h2 := (Upd.push h (nmeO n)).trans u2
  have w2 := w.upd0 uu
  refine ER.field (v := .int .i64 0) Try.underlying75 rfl Try.underlying2 rfl rfl rfl rfl rfl ?_
  (repeat (first | refine ER.done ?_ | refine ER.assign rfl rfl rfl ?_ | refine EK.ret ?_))
  exact EU.ret1 rfl rfl ⟨rfl, rfl, uu, w2⟩
set_option maxRecDepth 8000 in
set_option maxHeartbeats 1000000 in
theorem wstore_out {n : Nme} {v : Int} (w : WOu R nm lL lW lY lV h0 W s x i h) :
    CallW Try.prog main (NoS (Γ := Γ)) 86 #[ptr x, nmeV n, .int .i64 v] h δ (Ret fun _ h' δ' => δ' = δ ∧ WNil s R nm lL lW lY lV h0 W x i h h') := by
  refine CallW.start (n := 10) rfl rfl ?_
  obtain ⟨t, ht, hl, hx⟩ := w.out.at_
  (repeat (first | refine EK.seq ?_ | refine EK.region ?_ | refine ER.done ?_ | refine ER.move rfl rfl rfl ?_ | refine ER.boxA rfl rfl rfl ?_))
  refine ER.loadN (vs := nmeL n) rfl rfl rfl rfl (hrow_block (rest := []) (by rw [List.append_nil]; exact get_push_new _ _)) ?_
  (repeat refine ER.move rfl rfl rfl ?_)
  refine ER.callR rfl rfl rfl rfl rfl (does_out (get_push _ hx)) ?_
  rintro _ h2 δ2 ⟨rfl, rfl, u2⟩
  have uu : Upd (fun _ => False) h h2 := (Upd.push h (nmeO n)).trans u2
  have w2 := w.upd0 uu
  (repeat refine ER.done ?_)
  exact EK.done (EU.ret0 rfl ⟨rfl, uu, w2⟩)
set_option maxRecDepth 8000 in
set_option maxHeartbeats 1000000 in
theorem wcas_out {n : Nme} {v c : Int} (w : WOu R nm lL lW lY lV h0 W s x i h) :
    CallW Try.prog main (NoS (Γ := Γ)) 103 #[ptr x, nmeV n, .int .i64 v, .int .i64 c] h δ (Ret fun z h' δ' => δ' = δ ∧ z = .bool false ∧ WNil s R nm lL lW lY lV h0 W x i h h') := by
  refine CallW.start (n := 15) rfl rfl ?_
  obtain ⟨t, ht, hl, hx⟩ := w.out.at_
  (repeat (first | refine EK.seq ?_ | refine EK.region ?_ | refine ER.done ?_ | refine ER.move rfl rfl rfl ?_ | refine ER.assign rfl rfl rfl ?_ | refine ER.boxA rfl rfl rfl ?_))
  refine ER.loadN (vs := nmeL n) rfl rfl rfl rfl (hrow_block (rest := []) (by rw [List.append_nil]; exact get_push_new _ _)) ?_
  (repeat refine ER.move rfl rfl rfl ?_)
  refine ER.callR rfl rfl rfl rfl rfl (does_out (get_push _ hx)) ?_
  rintro _ h2 δ2 ⟨rfl, rfl, u2⟩
  have uu : Upd (fun _ => False) h h2 := (Upd.push h (nmeO n)).trans u2
  have w2 := w.upd0 uu
  refine ER.field (v := .bool false) Try.underlying75 rfl Try.underlying4 rfl rfl rfl rfl rfl ?_
  (repeat (first | refine ER.done ?_ | refine ER.assign rfl rfl rfl ?_ | refine EK.ret ?_))
  exact EU.ret1 rfl rfl ⟨rfl, rfl, uu, w2⟩
end
end Go.Proofs.Ytcpcdnkemobneaa
end
section
namespace Go.Proofs.Ytcpcdnkemobneaa
open Go Go.TJ Go.Conc Go.Proofs
def WX (R : Rec) (nm : Nat → Nme) (lL lW lY lV : Value) (h0 : Hp) (W : Nat) (s : WS) {A : Type} (pf : Pr A) (x i : Nat) (o : List A) (p : Pr A) (m : Nat) (h : Hp) : Prop :=
  (∃ l : List Ev, l.length < m ∧ WIn R nm lL lW lY lV h0 W s pf x i p l o h) ∨ (o = [] ∧ WOu R nm lL lW lY lV h0 W s x i h)
section
variable {Γ : Type} {main : Bool} {S : Sit Γ} {δ : Ix Γ} {R : Rec} {nm : Nat → Nme} {lL lW lY lV sP : Value} {h0 h h' : Hp} {W x i t m : Nat} {s : WS} {picks : List Int} {X : Us} {A : Type} {pf p : Pr A} {k : Int → Pr A} {l : List Ev} {o : List A}
theorem WIn.row (w : WIn R nm lL lW lY lV h0 W s pf x i p l o h) : hcell h ⟨x, 2, none⟩ = some (.bool false) := by
  obtain ⟨t, ht, hl, hx⟩ := w.at_.at_
  exact hcell_of hx rfl
theorem WOu.row (w : WOu R nm lL lW lY lV h0 W s x i h) : hcell h ⟨x, 2, none⟩ = some (.bool true) := by
  obtain ⟨t, ht, hl, hx⟩ := w.out.at_
  exact hcell_of hx rfl
theorem WX.upd0 (w : WX R nm lL lW lY lV h0 W s pf x i o p m h) (u : Upd (fun _ => False) h h') : WX R nm lL lW lY lV h0 W s pf x i o p m h' :=
  w.imp (fun ⟨l, hl, w⟩ => ⟨l, hl, w.upd0 u⟩) (fun ⟨e, w⟩ => ⟨e, w.upd0 u⟩)
theorem WX.wt (w : WX R nm lL lW lY lV h0 W s pf x i o p m h) : ∀ b, WT s x b → h0.size ≤ b ∧ b < h.size :=
  w.elim (fun ⟨_, _, w⟩ => w.wt) (fun ⟨_, w⟩ => w.wt)
theorem WX.all (w : WX R nm lL lW lY lV h0 W s pf x i o p m h) : WAll R nm lL lW lY lV h0 W s h :=
  w.elim (fun ⟨_, _, w⟩ => w.all) (fun ⟨_, w⟩ => w.all)
theorem WX.mono {m' : Nat} (w : WX R nm lL lW lY lV h0 W s pf x i o p m h) (hm : m ≤ m') : WX R nm lL lW lY lV h0 W s pf x i o p m' h :=
  w.imp (fun ⟨l, hl, w⟩ => ⟨l, Nat.lt_of_lt_of_le hl hm, w⟩) id
theorem WIn.setA {l : List Ev} (w : WIn R nm lL lW lY lV h0 W s pf x i p l o h) {y : Nat} {a : Array Value} {t : TypeId} (hy : h[y]? = some (.cells a t (0, 0))) (hy0 : h0.size ≤ y) (h1 : t ≠ 66) (h2 : t ≠ 210) (h3 : t ≠ 4) (h4 : t ≠ 2) (h5 : t ≠ 60) (ob : Obj) : WIn R nm lL lW lY lV h0 W s pf x i p l o (h.setIfInBounds y ob) := by
  obtain ⟨⟨q, I, N⟩, ⟨⟨t', q1, q2, q3⟩, g⟩, x0⟩ := w
  refine ⟨⟨q, I.other hy hy0 h1 h2 h3 h4 ob, N⟩, ⟨⟨t', q1, q2, ?_⟩, g⟩, x0⟩
  rw [get_set_ne _ (fun e => by
    rw [e, q3] at hy
    injection hy with hy
    injection hy with _ hy _
    exact h5 hy.symm)]
  exact q3
theorem WOu.setA (w : WOu R nm lL lW lY lV h0 W s x i h) {y : Nat} {a : Array Value} {t : TypeId} (hy : h[y]? = some (.cells a t (0, 0))) (hy0 : h0.size ≤ y) (h1 : t ≠ 66) (h2 : t ≠ 210) (h3 : t ≠ 4) (h4 : t ≠ 2) (h5 : t ≠ 60) (ob : Obj) : WOu R nm lL lW lY lV h0 W s x i (h.setIfInBounds y ob) := by
  obtain ⟨⟨q, I, N⟩, ⟨⟨t', q1, q2, q3⟩, g⟩, x0⟩ := w
  refine ⟨⟨q, I.other hy hy0 h1 h2 h3 h4 ob, N⟩, ⟨⟨t', q1, q2, ?_⟩, g⟩, x0⟩
  rw [get_set_ne _ (fun e => by
    rw [e, q3] at hy
    injection hy with hy
    injection hy with _ hy _
    exact h5 hy.symm)]
  exact q3
theorem WX.setA (w : WX R nm lL lW lY lV h0 W s pf x i o p m h) {y : Nat} {a : Array Value} {t : TypeId} (hy : h[y]? = some (.cells a t (0, 0))) (hy0 : h0.size ≤ y) (h1 : t ≠ 66) (h2 : t ≠ 210) (h3 : t ≠ 4) (h4 : t ≠ 2) (h5 : t ≠ 60) (ob : Obj) : WX R nm lL lW lY lV h0 W s pf x i o p m (h.setIfInBounds y ob) :=
  w.imp (fun ⟨l, hl, w⟩ => ⟨l, hl, w.setA hy hy0 h1 h2 h3 h4 h5 ob⟩) (fun ⟨e, w⟩ => ⟨e, w.setA hy hy0 h1 h2 h3 h4 h5 ob⟩)
theorem wloadX (C : WC X picks R nm lL lW lY lV sP h0 s) (hpf : PF R i pf) {b : Nat} (w : WX R nm lL lW lY lV h0 W s pf x i o (.step ⟨1, b, 0, 0⟩ k) m h) {n : Nme} (hn : n = nm b) :
    CallW Try.prog main (NoS (Γ := Γ)) 89 #[ptr x, nmeV n] h δ (Ret fun v h' δ' => δ' = δ ∧ Upd (WT s x) h h' ∧ ∃ z, v = .int .i64 z ∧ WX R nm lL lW lY lV h0 W s pf x i o (k z) (m - 1) h') := by
  rcases w with ⟨l, hl, w⟩ | ⟨ho, w⟩
  · refine (wload_ok C hpf w hn).mono ?_
    rintro (v | ps) h' δ' hq
    · obtain ⟨e, u, ⟨z, l', e1, hv, w'⟩ | ⟨e1, hv, w'⟩⟩ := hq
      · exact ⟨e, u, z, hv, .inl ⟨l', by rw [e1] at hl; simp only [List.length_cons] at hl; omega, w'⟩⟩
      · exact ⟨e, u, 0, hv, .inr ⟨e1, w'⟩⟩
    · exact hq.elim
  · refine (wload_out w).mono ?_
    rintro (v | ps) h' δ' hq
    · obtain ⟨e, hv, u, w'⟩ := hq
      exact ⟨e, u.mono (fun _ _ z => z.elim), 0, hv, .inr ⟨ho, w'⟩⟩
    · exact hq.elim
theorem wstoreX (C : WC X picks R nm lL lW lY lV sP h0 s) (hpf : PF R i pf) {b : Nat} {v : Int} (w : WX R nm lL lW lY lV h0 W s pf x i o (.step ⟨2, b, v, 0⟩ fun _ => p) m h) {n : Nme} (hn : n = nm b) :
    CallW Try.prog main (NoS (Γ := Γ)) 86 #[ptr x, nmeV n, .int .i64 v] h δ (Ret fun _ h' δ' => δ' = δ ∧ Upd (WT s x) h h' ∧ WX R nm lL lW lY lV h0 W s pf x i o p (m - 1) h') := by
  rcases w with ⟨l, hl, w⟩ | ⟨ho, w⟩
  · refine (wstore_ok C hpf w hn).mono ?_
    rintro (v | ps) h' δ' hq
    · obtain ⟨e, u, ⟨z, l', e1, hv, w'⟩ | ⟨e1, hv, w'⟩⟩ := hq
      · exact ⟨e, u, .inl ⟨l', by rw [e1] at hl; simp only [List.length_cons] at hl; omega, w'⟩⟩
      · exact ⟨e, u, .inr ⟨e1, w'⟩⟩
    · exact hq.elim
  · refine (wstore_out w).mono ?_
    rintro (v | ps) h' δ' hq
    · obtain ⟨e, u, w'⟩ := hq
      exact ⟨e, u.mono (fun _ _ z => z.elim), .inr ⟨ho, w'⟩⟩
    · exact hq.elim
theorem wcasX (C : WC X picks R nm lL lW lY lV sP h0 s) (hpf : PF R i pf) {b : Nat} {v c : Int} (w : WX R nm lL lW lY lV h0 W s pf x i o (.step ⟨3, b, v, c⟩ k) m h) {n : Nme} (hn : n = nm b) :
    CallW Try.prog main (NoS (Γ := Γ)) 103 #[ptr x, nmeV n, .int .i64 v, .int .i64 c] h δ (Ret fun q h' δ' => δ' = δ ∧ Upd (WT s x) h h' ∧ ∃ z, q = .bool (decide (z = v)) ∧ WX R nm lL lW lY lV h0 W s pf x i o (k z) (m - 1) h') := by
  rcases w with ⟨l, hl, w⟩ | ⟨ho, w⟩
  · refine (wcas_ok C hpf w hn).mono ?_
    rintro (q | ps) h' δ' hq
    · obtain ⟨e, u, ⟨z, l', e1, hv, w'⟩ | ⟨e1, hv, w'⟩⟩ := hq
      · exact ⟨e, u, z, hv, .inl ⟨l', by rw [e1] at hl; simp only [List.length_cons] at hl; omega, w'⟩⟩
      · exact ⟨e, u, v + 1, by rw [hv, decide_eq_false (by omega)], .inr ⟨e1, w'⟩⟩
    · exact hq.elim
  · refine (wcas_out w).mono ?_
    rintro (q | ps) h' δ' hq
    · obtain ⟨e, hv, u, w'⟩ := hq
      exact ⟨e, u.mono (fun _ _ z => z.elim), v + 1, by rw [hv, decide_eq_false (by omega)], .inr ⟨ho, w'⟩⟩
    · exact hq.elim
def RDidX (R : Rec) (nm : Nat → Nme) (lL lW lY lV : Value) (h0 : Hp) (W : Nat) (s : WS) {A : Type} (enc : A → List Value) (pf : Pr A) (x i : Nat) (o : List A) (k : A → Pr A) (m : Nat) (h : Hp) (v : Value) (h' : Hp) : Prop :=
  Upd (WT s x) h h' ∧ ∃ a : A, v = .agg (enc a).toArray ∧ WX R nm lL lW lY lV h0 W s pf x i o (k a) m h'
theorem nme_all {y : Nat} {n : Nme} {h : Hp} (hy : h[y]? = some (nmeO n)) : ∀ j, j < 2 → (∃ u, hcell h ⟨y, 0 + j, none⟩ = some u) ∧ hfroz h ⟨y, 0 + j, none⟩ = false ∧ ¬ (NoS (Γ := Γ)).still δ.g ⟨y, 0 + j, none⟩ := fun j hj => by
  refine ⟨?_, hfroz_of hy, fun x => x⟩
  rcases (show j = 0 ∨ j = 1 by omega) with rfl | rfl
  · exact ⟨_, hcell_of hy rfl⟩
  · exact ⟨_, hcell_of hy rfl⟩
end
end Go.Proofs.Ytcpcdnkemobneaa
end
section
namespace Go.Proofs.Ytcpcdnkemobneaa
open Go Go.TJ Go.Conc Go.Proofs
structure WkR (R : Rec) (lL lW lY lV : Value) (h0 : Hp) (W : Nat) (nl : List Nme) (gl : List Bool) (fl : List Int) (hl : List Nme) (ol : List Int) (nv gv fv hv ov : Value) (h : Hp) : Prop where
  up : Upd (fun _ => False) h0 h
  row : h[W]? = some (wkO R.e R.log.length lL lW lY lV ⟨[], [], nv, gv, fv, hv, ov⟩)
  nms : SliceO h nv 210 2 nl.length (nl.flatMap nmeL)
  giv : SliceO h gv 4 1 gl.length (gl.map Value.bool)
  fst : SliceO h fv 2 1 fl.length (fl.map fun x => Value.int .i64 x)
  hav : SliceO h hv 210 2 hl.length (hl.flatMap nmeL)
  hol : SliceO h ov 2 1 ol.length (ol.map fun x => Value.int .i64 x)
  nW : h0.size ≤ W
  n1 : ∀ b, blk nv = some b → h0.size ≤ b
  n2 : ∀ b, blk gv = some b → h0.size ≤ b
  n3 : ∀ b, blk fv = some b → h0.size ≤ b
  n4 : ∀ b, blk hv = some b → h0.size ≤ b
  n5 : ∀ b, blk ov = some b → h0.size ≤ b
  a1 : ∀ b, blk nv = some b → blk hv ≠ some b
  a2 : ∀ b, blk fv = some b → blk ov ≠ some b
section
variable {R : Rec} {lL lW lY lV : Value} {h0 h h1 : Hp} {W : Nat} {nl : List Nme} {gl : List Bool} {fl : List Int} {hl : List Nme} {ol : List Int} {nv gv fv hv ov s' : Value}
theorem WkR.upd0 (I : WkR R lL lW lY lV h0 W nl gl fl hl ol nv gv fv hv ov h) (u : Upd (fun _ => False) h h1) : WkR R lL lW lY lV h0 W nl gl fl hl ol nv gv fv hv ov h1 :=
  ⟨I.up.trans u, u.get I.row (fun x => x), I.nms.upd u (fun _ _ x => x), I.giv.upd u (fun _ _ x => x), I.fst.upd u (fun _ _ x => x), I.hav.upd u (fun _ _ x => x), I.hol.upd u (fun _ _ x => x), I.nW, I.n1, I.n2, I.n3, I.n4, I.n5, I.a1, I.a2⟩
theorem WkR.app_nms {x : Nme} (I : WkR R lL lW lY lV h0 W nl gl fl hl ol nv gv fv hv ov h) (u : Upd (fun b => blk nv = some b) h h1) (sl : SliceO h1 s' 210 2 (nl.length + 1) ((nl.flatMap nmeL) ++ nmeL x)) (hb : ∀ b, blk s' = some b → blk nv = some b ∨ h.size ≤ b) :
    WkR R lL lW lY lV h0 W (nl ++ [x]) gl fl hl ol s' gv fv hv ov (hset h1 ⟨W, 8, none⟩ s') := by
  have o1 := u.get I.row (fun hx => sliceO_ne I.nms I.row (by decide) W hx rfl)
  have e1 : hset h1 ⟨W, 8, none⟩ s' = h1.setIfInBounds W (wkO R.e R.log.length lL lW lY lV ⟨[], [], s', gv, fv, hv, ov⟩) := hset_block o1 _
  rw [e1]
  have uW : Upd (fun b => b = W) h1 (h1.setIfInBounds W (wkO R.e R.log.length lL lW lY lV ⟨[], [], s', gv, fv, hv, ov⟩)) := Upd.set _ _ _ rfl
  have hWl := lt_of_get I.row
  have hn : ∀ b, blk s' = some b → h0.size ≤ b := fun b hbb => (hb b hbb).elim (I.n1 b) (fun y => Nat.le_trans I.up.size y)
  have hw : ∀ b, blk s' = some b → b ≠ W := fun b hbb => (hb b hbb).elim (sliceO_ne I.nms I.row (by decide) b) (fun y => by omega)
  have nW := I.nW
  exact ⟨(I.up.over u (fun b hbb => I.n1 b hbb)).over uW (fun b e => by omega), get_set_same o1, by have := sl.upd uW hw; simpa [List.flatMap_append] using this, (I.giv.upd u (fun b hbb hx => sliceO_two I.giv I.nms (by decide) b hbb hx)).upd uW (sliceO_ne I.giv I.row (by decide)), (I.fst.upd u (fun b hbb hx => sliceO_two I.fst I.nms (by decide) b hbb hx)).upd uW (sliceO_ne I.fst I.row (by decide)), (I.hav.upd u (fun b hbb hx => I.a1 b hx hbb)).upd uW (sliceO_ne I.hav I.row (by decide)), (I.hol.upd u (fun b hbb hx => sliceO_two I.hol I.nms (by decide) b hbb hx)).upd uW (sliceO_ne I.hol I.row (by decide)), I.nW, hn, I.n2, I.n3, I.n4, I.n5, fun b hbb hx => (hb b hbb).elim (fun y => I.a1 b y hx) (fun y => by have := I.hav.lt hx; omega), I.a2⟩
theorem WkR.app_giv {x : Bool} (I : WkR R lL lW lY lV h0 W nl gl fl hl ol nv gv fv hv ov h) (u : Upd (fun b => blk gv = some b) h h1) (sl : SliceO h1 s' 4 1 (gl.length + 1) ((gl.map Value.bool) ++ [Value.bool x])) (hb : ∀ b, blk s' = some b → blk gv = some b ∨ h.size ≤ b) :
    WkR R lL lW lY lV h0 W nl (gl ++ [x]) fl hl ol nv s' fv hv ov (hset h1 ⟨W, 9, none⟩ s') := by
  have o1 := u.get I.row (fun hx => sliceO_ne I.giv I.row (by decide) W hx rfl)
  have e1 : hset h1 ⟨W, 9, none⟩ s' = h1.setIfInBounds W (wkO R.e R.log.length lL lW lY lV ⟨[], [], nv, s', fv, hv, ov⟩) := hset_block o1 _
  rw [e1]
  have uW : Upd (fun b => b = W) h1 (h1.setIfInBounds W (wkO R.e R.log.length lL lW lY lV ⟨[], [], nv, s', fv, hv, ov⟩)) := Upd.set _ _ _ rfl
  have hWl := lt_of_get I.row
  have hn : ∀ b, blk s' = some b → h0.size ≤ b := fun b hbb => (hb b hbb).elim (I.n2 b) (fun y => Nat.le_trans I.up.size y)
  have hw : ∀ b, blk s' = some b → b ≠ W := fun b hbb => (hb b hbb).elim (sliceO_ne I.giv I.row (by decide) b) (fun y => by omega)
  have nW := I.nW
  exact ⟨(I.up.over u (fun b hbb => I.n2 b hbb)).over uW (fun b e => by omega), get_set_same o1, (I.nms.upd u (fun b hbb hx => sliceO_two I.nms I.giv (by decide) b hbb hx)).upd uW (sliceO_ne I.nms I.row (by decide)), by have := sl.upd uW hw; simpa using this, (I.fst.upd u (fun b hbb hx => sliceO_two I.fst I.giv (by decide) b hbb hx)).upd uW (sliceO_ne I.fst I.row (by decide)), (I.hav.upd u (fun b hbb hx => sliceO_two I.hav I.giv (by decide) b hbb hx)).upd uW (sliceO_ne I.hav I.row (by decide)), (I.hol.upd u (fun b hbb hx => sliceO_two I.hol I.giv (by decide) b hbb hx)).upd uW (sliceO_ne I.hol I.row (by decide)), I.nW, I.n1, hn, I.n3, I.n4, I.n5, I.a1, I.a2⟩
theorem WkR.app_fst {x : Int} (I : WkR R lL lW lY lV h0 W nl gl fl hl ol nv gv fv hv ov h) (u : Upd (fun b => blk fv = some b) h h1) (sl : SliceO h1 s' 2 1 (fl.length + 1) ((fl.map fun x => Value.int .i64 x) ++ [Value.int .i64 x])) (hb : ∀ b, blk s' = some b → blk fv = some b ∨ h.size ≤ b) :
    WkR R lL lW lY lV h0 W nl gl (fl ++ [x]) hl ol nv gv s' hv ov (hset h1 ⟨W, 10, none⟩ s') := by
  have o1 := u.get I.row (fun hx => sliceO_ne I.fst I.row (by decide) W hx rfl)
  have e1 : hset h1 ⟨W, 10, none⟩ s' = h1.setIfInBounds W (wkO R.e R.log.length lL lW lY lV ⟨[], [], nv, gv, s', hv, ov⟩) := hset_block o1 _
  rw [e1]
  have uW : Upd (fun b => b = W) h1 (h1.setIfInBounds W (wkO R.e R.log.length lL lW lY lV ⟨[], [], nv, gv, s', hv, ov⟩)) := Upd.set _ _ _ rfl
  have hWl := lt_of_get I.row
  have hn : ∀ b, blk s' = some b → h0.size ≤ b := fun b hbb => (hb b hbb).elim (I.n3 b) (fun y => Nat.le_trans I.up.size y)
  have hw : ∀ b, blk s' = some b → b ≠ W := fun b hbb => (hb b hbb).elim (sliceO_ne I.fst I.row (by decide) b) (fun y => by omega)
  have nW := I.nW
  exact ⟨(I.up.over u (fun b hbb => I.n3 b hbb)).over uW (fun b e => by omega), get_set_same o1, (I.nms.upd u (fun b hbb hx => sliceO_two I.nms I.fst (by decide) b hbb hx)).upd uW (sliceO_ne I.nms I.row (by decide)), (I.giv.upd u (fun b hbb hx => sliceO_two I.giv I.fst (by decide) b hbb hx)).upd uW (sliceO_ne I.giv I.row (by decide)), by have := sl.upd uW hw; simpa using this, (I.hav.upd u (fun b hbb hx => sliceO_two I.hav I.fst (by decide) b hbb hx)).upd uW (sliceO_ne I.hav I.row (by decide)), (I.hol.upd u (fun b hbb hx => I.a2 b hx hbb)).upd uW (sliceO_ne I.hol I.row (by decide)), I.nW, I.n1, I.n2, hn, I.n4, I.n5, I.a1, fun b hbb hx => (hb b hbb).elim (fun y => I.a2 b y hx) (fun y => by have := I.hol.lt hx; omega)⟩
theorem WkR.app_hav {x : Nme} (I : WkR R lL lW lY lV h0 W nl gl fl hl ol nv gv fv hv ov h) (u : Upd (fun b => blk hv = some b) h h1) (sl : SliceO h1 s' 210 2 (hl.length + 1) ((hl.flatMap nmeL) ++ nmeL x)) (hb : ∀ b, blk s' = some b → blk hv = some b ∨ h.size ≤ b) :
    WkR R lL lW lY lV h0 W nl gl fl (hl ++ [x]) ol nv gv fv s' ov (hset h1 ⟨W, 11, none⟩ s') := by
  have o1 := u.get I.row (fun hx => sliceO_ne I.hav I.row (by decide) W hx rfl)
  have e1 : hset h1 ⟨W, 11, none⟩ s' = h1.setIfInBounds W (wkO R.e R.log.length lL lW lY lV ⟨[], [], nv, gv, fv, s', ov⟩) := hset_block o1 _
  rw [e1]
  have uW : Upd (fun b => b = W) h1 (h1.setIfInBounds W (wkO R.e R.log.length lL lW lY lV ⟨[], [], nv, gv, fv, s', ov⟩)) := Upd.set _ _ _ rfl
  have hWl := lt_of_get I.row
  have hn : ∀ b, blk s' = some b → h0.size ≤ b := fun b hbb => (hb b hbb).elim (I.n4 b) (fun y => Nat.le_trans I.up.size y)
  have hw : ∀ b, blk s' = some b → b ≠ W := fun b hbb => (hb b hbb).elim (sliceO_ne I.hav I.row (by decide) b) (fun y => by omega)
  have nW := I.nW
  exact ⟨(I.up.over u (fun b hbb => I.n4 b hbb)).over uW (fun b e => by omega), get_set_same o1, (I.nms.upd u (fun b hbb hx => I.a1 b hbb hx)).upd uW (sliceO_ne I.nms I.row (by decide)), (I.giv.upd u (fun b hbb hx => sliceO_two I.giv I.hav (by decide) b hbb hx)).upd uW (sliceO_ne I.giv I.row (by decide)), (I.fst.upd u (fun b hbb hx => sliceO_two I.fst I.hav (by decide) b hbb hx)).upd uW (sliceO_ne I.fst I.row (by decide)), by have := sl.upd uW hw; simpa [List.flatMap_append] using this, (I.hol.upd u (fun b hbb hx => sliceO_two I.hol I.hav (by decide) b hbb hx)).upd uW (sliceO_ne I.hol I.row (by decide)), I.nW, I.n1, I.n2, I.n3, hn, I.n5, fun b hbb hx => (hb b hx).elim (fun y => I.a1 b hbb y) (fun y => by have := I.nms.lt hbb; omega), I.a2⟩
theorem WkR.app_hol {x : Int} (I : WkR R lL lW lY lV h0 W nl gl fl hl ol nv gv fv hv ov h) (u : Upd (fun b => blk ov = some b) h h1) (sl : SliceO h1 s' 2 1 (ol.length + 1) ((ol.map fun x => Value.int .i64 x) ++ [Value.int .i64 x])) (hb : ∀ b, blk s' = some b → blk ov = some b ∨ h.size ≤ b) :
    WkR R lL lW lY lV h0 W nl gl fl hl (ol ++ [x]) nv gv fv hv s' (hset h1 ⟨W, 12, none⟩ s') := by
  have o1 := u.get I.row (fun hx => sliceO_ne I.hol I.row (by decide) W hx rfl)
  have e1 : hset h1 ⟨W, 12, none⟩ s' = h1.setIfInBounds W (wkO R.e R.log.length lL lW lY lV ⟨[], [], nv, gv, fv, hv, s'⟩) := hset_block o1 _
  rw [e1]
  have uW : Upd (fun b => b = W) h1 (h1.setIfInBounds W (wkO R.e R.log.length lL lW lY lV ⟨[], [], nv, gv, fv, hv, s'⟩)) := Upd.set _ _ _ rfl
  have hWl := lt_of_get I.row
  have hn : ∀ b, blk s' = some b → h0.size ≤ b := fun b hbb => (hb b hbb).elim (I.n5 b) (fun y => Nat.le_trans I.up.size y)
  have hw : ∀ b, blk s' = some b → b ≠ W := fun b hbb => (hb b hbb).elim (sliceO_ne I.hol I.row (by decide) b) (fun y => by omega)
  have nW := I.nW
  exact ⟨(I.up.over u (fun b hbb => I.n5 b hbb)).over uW (fun b e => by omega), get_set_same o1, (I.nms.upd u (fun b hbb hx => sliceO_two I.nms I.hol (by decide) b hbb hx)).upd uW (sliceO_ne I.nms I.row (by decide)), (I.giv.upd u (fun b hbb hx => sliceO_two I.giv I.hol (by decide) b hbb hx)).upd uW (sliceO_ne I.giv I.row (by decide)), (I.fst.upd u (fun b hbb hx => I.a2 b hbb hx)).upd uW (sliceO_ne I.fst I.row (by decide)), (I.hav.upd u (fun b hbb hx => sliceO_two I.hav I.hol (by decide) b hbb hx)).upd uW (sliceO_ne I.hav I.row (by decide)), by have := sl.upd uW hw; simpa using this, I.nW, I.n1, I.n2, I.n3, I.n4, hn, I.a1, fun b hbb hx => (hb b hx).elim (fun y => I.a2 b hbb y) (fun y => by have := I.fst.lt hbb; omega)⟩
end
end Go.Proofs.Ytcpcdnkemobneaa
end
section
namespace Go.Proofs.Ytcpcdnkemobneaa
open Go Go.TJ Go.Conc Go.Proofs
section
variable {Γ : Type} {main : Bool} {S : Sit Γ} {δ : Ix Γ} {R : Rec} {lL lW lY lV sP : Value} {h0 h h1 h' : Hp} {W : Nat} {nl : List Nme} {gl : List Bool} {fl : List Int} {hl : List Nme} {ol : List Int} {nv gv fv hv ov s' : Value} {picks : List Int} {X : Us} {nm : Nat → Nme}
theorem WkR.toI {q : List (Bool × Nme)} {hs : List (Nme × Int)} (I : WkR R lL lW lY lV h0 W nl gl fl hl ol nv gv fv hv ov h) (h1 : q.map (·.2) = nl) (h2 : q.map (·.1) = gl) (h3 : hs.map (·.1) = hl) (h4 : hs.map (·.2) = ol) : WkI R nm lL lW lY lV h0 W fl ⟨q, hs, nv, gv, fv, hv, ov⟩ h := by
  subst h1 h2 h3 h4
  refine ⟨I.up, I.row, ?_, ?_, I.fst, ?_, ?_, I.nW, I.n1, I.n2, I.n3, I.n4, I.n5, I.a1, I.a2⟩
  · have := I.nms; rw [List.length_map, List.flatMap_map] at this; exact this
  · have := I.giv; rw [List.length_map, List.map_map] at this; exact this
  · have := I.hav; rw [List.length_map, List.flatMap_map] at this; exact this
  · have := I.hol; rw [List.length_map, List.map_map] at this; exact this
theorem WkR.keep {y : Nat} {a : Array Value} {t : TypeId} (I : WkR R lL lW lY lV h0 W nl gl fl hl ol nv gv fv hv ov h) (hy : h[y]? = some (.cells a t (0, 0))) (h1 : t ≠ 66) (h2 : t ≠ 210) (h3 : t ≠ 4) (h4 : t ≠ 2) :
    y ≠ W ∧ ¬ blk nv = some y ∧ ¬ blk gv = some y ∧ ¬ blk fv = some y ∧ ¬ blk hv = some y ∧ ¬ blk ov = some y := by
  refine ⟨fun e => ?_, fun e => sliceO_ne I.nms hy (Ne.symm h2) y e rfl, fun e => sliceO_ne I.giv hy (Ne.symm h3) y e rfl, fun e => sliceO_ne I.fst hy (Ne.symm h4) y e rfl, fun e => sliceO_ne I.hav hy (Ne.symm h2) y e rfl, fun e => sliceO_ne I.hol hy (Ne.symm h4) y e rfl⟩
  have := I.row
  rw [← e, hy] at this
  injection this with this
  injection this with _ this _
  exact h1 this
abbrev repOb (e : Int) (n : Nat) (lL lW lY lV : Value) : Obj := .cells (repL e n lL lW lY lV).toArray 49 (0, 0)
set_option maxHeartbeats 16000000 in
set_option maxRecDepth 8000 in
theorem newwalk_ok (ok : RecOk X picks R) (m : RecM R picks lL lW lY lV sP h) :
    CallW Try.prog main (NoS (Γ := Γ)) 20 #[.agg (repL R.e R.log.length lL lW lY lV).toArray] h δ (Ret fun v h' δ' => δ' = δ ∧ ∃ (W : Nat) (nv gv fv : Value), v = ptr W ∧ WkR R lL lW lY lV h W (List.replicate (nums R.log).length (0, 0)) (List.replicate (nums R.log).length false) ((nums R.log).map R.v0) [] [] nv gv fv nilS nilS h') := by
  have hlen : R.log.length ≤ 65536 := Nat.le_trans ok.len ok.most
  have hnl : ∀ k, (nums (R.log.take k)).length ≤ 65536 := fun k => by
    have h1 := nums_len (R.log.take k)
    have h2 := List.length_take_le k R.log
    have h3 : (R.log.take k).length ≤ R.log.length := by rw [List.length_take]; omega
    omega
  obtain ⟨aL, kL, eL⟩ := m.log.val
  subst eL
  obtain ⟨y, hy⟩ : ∃ y, y = h.size := ⟨_, rfl⟩
  refine CallW.start (n := 62) rfl rfl ?_
  (repeat (first | refine EK.seq ?_ | refine EK.region ?_ | refine ER.done ?_ | refine ER.assign rfl rfl rfl ?_ | refine ER.boxA rfl rfl rfl ?_))
  refine ER.gen (fun h' => Upd (fun _ => False) h h' ∧ h'[y]? = some (repOb R.e R.log.length (.slice aL R.log.length kL) lW lY lV) ∧ h'.size = h.size + 1) ⟨Upd.push _ _, by rw [hy]; exact get_push_new _ _, Array.size_push ..⟩ ?_
  rw [← hy]
  rintro h1 ⟨u1, gy, s1⟩
  refine ER.loadN (vs := repL R.e R.log.length (.slice aL R.log.length kL) lW lY lV) rfl rfl rfl rfl (hrow_block (rest := []) (by rw [List.append_nil]; exact gy)) ?_
  refine ER.buildS (cells := (wkL R.e R.log.length (.slice aL R.log.length kL) lW lY lV ⟨[], [], nilS, nilS, nilS, nilS, nilS⟩).toArray) rfl rfl (by rfl) (by kernel_rfl) ?_
  (repeat (first | refine EK.seq ?_ | refine EK.region ?_ | refine ER.done ?_ | refine EK.block ?_ | refine ER.assign rfl rfl rfl ?_ | refine ER.boxA rfl rfl rfl ?_))
  obtain ⟨W, hW⟩ : ∃ W, W = h1.size := ⟨_, rfl⟩
  rw [← hW]
  have no : ∀ (P : Prop) (b : Nat), blk nilS = some b → P := fun P b hb => by cases hb
  refine EK.gen (fun h' => WkR R (.slice aL R.log.length kL) lW lY lV h W [] [] [] [] [] nilS nilS nilS nilS nilS h' ∧ h'[y]? = some (repOb R.e R.log.length (.slice aL R.log.length kL) lW lY lV)) ⟨⟨u1.trans (Upd.push _ _), by rw [hW]; exact get_push_new _ _, SliceO.nil, SliceO.nil, SliceO.nil, SliceO.nil, SliceO.nil, by omega, fun b => no _ b, fun b => no _ b, fun b => no _ b, fun b => no _ b, fun b => no _ b, fun b => no _ b, fun b => no _ b⟩, get_push _ gy⟩ ?_
  rintro h2 ⟨I, gy⟩
  clear u1 hW s1 hy
  refine EK.loopInv (fun q : Nat × Value × Value × Value => [(4, .int .i64 q.1), (3, ptr W), (1, ptr y)]) (fun q h' δ' => δ' = δ ∧ q.1 ≤ R.log.length ∧ WkR R (.slice aL R.log.length kL) lW lY lV h W (List.replicate (nums (R.log.take q.1)).length (0, 0)) (List.replicate (nums (R.log.take q.1)).length false) ((nums (R.log.take q.1)).map R.v0) [] [] q.2.1 q.2.2.1 q.2.2.2 nilS nilS h' ∧ h'[y]? = some (repOb R.e R.log.length (.slice aL R.log.length kL) lW lY lV)) (fun q => R.log.length - q.1) (0, nilS, nilS, nilS) ⟨rfl, rfl, rfl, trivial⟩ ⟨rfl, Nat.zero_le _, I, gy⟩ ?_
  clear I gy
  rintro ⟨k, nv, gv, fv⟩ h3 δ3 ⟨hδ, hk, I, gy⟩ again
  dsimp only at hδ hk I again ⊢
  subst hδ
  have c2 : hcell h3 ⟨y, 2, none⟩ = some (.slice aL R.log.length kL) := hcell_of gy rfl
  by_cases hin : k < R.log.length
  · obtain ⟨e, he⟩ : ∃ e, R.log[k]? = some e := ⟨_, List.getElem?_eq_getElem hin⟩
    obtain ⟨bL, ea, hrow, -⟩ := slice_row (entL_len (nums R.log)) (m.log.upd I.up (fun _ _ x => x)) he
    subst ea
    obtain ⟨i1, i2, i3, i4⟩ := idx_at he
    obtain ⟨w, i, r, cw, hr, e1, ch2⟩ := ok.chain.inv he
    have hwas : e.b ∉ nums (R.log.take k) → e.was = R.v0 e.b := fun hn => by
      subst e1
      exact cw.first hn
    have w2 : hcell h3 ⟨bL, 0 + k * 8 + 2, none⟩ = some (.int .i64 ((nums R.log).idxOf e.b : Nat)) := hrow 2 _ rfl
    have hnk := hnl k
    have c10 : hcell h3 ⟨W, 10, none⟩ = some fv := hcell_of I.row rfl
    obtain ⟨aF, kF, eF⟩ := I.fst.val
    rw [List.length_map] at eF
    subst eF
    clear cw hr e1 ch2
    generalize (nums R.log).idxOf e.b = ix at i1 i2 i3 i4 w2
    (repeat (first | refine EK.seq ?_ | refine EK.region ?_ | refine ER.done ?_ | refine EK.skip ?_ | refine EK.block ?_ | refine ER.move rfl rfl rfl ?_ | refine ER.fieldAddr rfl rfl rfl ?_ | refine ER.load1 rfl rfl rfl (hcell_of (by assumption) rfl) ?_ | refine ER.cmpT rfl rfl rfl rfl rfl (by first | (dsimp only [cmpP]; omega) | exact rfl | exact Int.le_refl _) ?_ | refine ER.len1 rfl rfl rfl ?_ | refine EK.condT rfl ?_))
    refine EK.regionAny (fun h' => h' = h3) ?_
    have hZ : h3 = h3 := rfl
    refine EA.tField 0 rfl (by kernel_rfl) rfl rfl rfl rfl hZ ?_
    refine EA.tLoad 1 rfl (by kernel_rfl) rfl rfl rfl rfl (fun _ hz => (by rw [hz]; exact c2)) hZ ?_
    refine EA.tMove 2 rfl (by kernel_rfl) rfl rfl rfl rfl hZ ?_
    refine EA.tIdxS 3 rfl (by kernel_rfl) rfl rfl rfl rfl rfl (by omega) (by omega) hZ ?_
    refine EA.tField 4 rfl (by kernel_rfl) rfl rfl rfl rfl hZ ?_
    refine EA.tLoad 5 rfl (by kernel_rfl) rfl rfl rfl rfl (fun _ hz => (by rw [hz]; exact w2)) hZ ?_
    refine EA.tMove 6 rfl (by kernel_rfl) rfl rfl rfl rfl hZ ?_
    refine EA.tNil 7 rfl (by kernel_rfl) rfl rfl rfl rfl hZ ?_
    refine EA.tField 8 rfl (by kernel_rfl) rfl rfl rfl rfl hZ ?_
    refine EA.tLoad 9 rfl (by kernel_rfl) rfl rfl rfl rfl (fun _ hz => (by rw [hz]; exact c10)) hZ ?_
    refine EA.tLen1 10 rfl (by kernel_rfl) rfl rfl rfl rfl hZ ?_
    rcases i4 with ⟨j1, j2, j3⟩ | ⟨j1, j2, j3⟩
    · refine EA.tCmpF 11 rfl (by kernel_rfl) rfl rfl rfl rfl rfl rfl (by first | (dsimp only [cmpP]; omega) | exact rfl | exact Int.le_refl _) hZ ?_
      refine EA.done (by kernel_rfl) ?_
      clear hZ
      (repeat (first | refine EK.region ?_ | refine ER.done ?_ | refine EK.skip ?_ | refine EK.inBlock ?_ | refine ER.move rfl rfl rfl ?_ | refine ER.assign rfl rfl rfl ?_ | refine ER.add (kd := .i64) rfl rfl rfl rfl (i64_in (by omega) (by omega)) ?_ | refine EK.condF rfl ?_))
      exact EK.back (again (k + 1, nv, gv, _) _ _ (by dsimp only; omega) ⟨rfl, by dsimp only; omega, by dsimp only; rw [j2]; exact I, gy⟩) ⟨rfl, rfl, rfl, trivial⟩
    · refine EA.tCmpT 11 rfl (by kernel_rfl) rfl rfl rfl rfl rfl rfl (by first | (dsimp only [cmpP]; omega) | exact rfl | exact Int.le_refl _) hZ ?_
      refine EA.done (by kernel_rfl) ?_
      clear hZ c2 c10 hrow w2
      have b1 : (nums (R.log.take (k + 1))).length = (nums (R.log.take k)).length + 1 := by rw [j2, List.length_append]; rfl
      obtain ⟨aN, kN, eN⟩ := I.nms.val
      rw [List.length_replicate] at eN
      subst eN
      have c8 : hcell h3 ⟨W, 8, none⟩ = some (.slice aN (nums (R.log.take k)).length kN) := hcell_of I.row rfl
      (repeat (first | refine EK.seq ?_ | refine EK.region ?_ | refine ER.move rfl rfl rfl ?_ | refine ER.nilCheck rfl rfl rfl ?_ | refine ER.fieldAddr rfl rfl rfl ?_ | refine EK.condT rfl ?_ | refine ER.load1 rfl rfl rfl (by assumption) ?_))
      refine ER.buildS (cells := #[.int .i64 0, .int .i64 0]) rfl rfl (by rfl) (by rfl) ?_
      refine ER.slice1 (sz := 2) (z := .agg #[.int .i64 0, .int .i64 0]) (cells := #[.int .i64 0, .int .i64 0]) rfl rfl rfl (by omega) (by omega) rfl rfl ?_
      have I1 := I.upd0 (Upd.push h3 (.cells #[.int .i64 0, .int .i64 0] 210))
      have gy1 := get_push (o := .cells #[.int .i64 0, .int .i64 0] 210) gy
      have sl1 := I1.nms
      rw [List.length_replicate] at sl1
      refine ER.append1 (new := [.int .i64 0, .int .i64 0]) rfl rfl rfl rfl sl1 (get_push_new _ _) rfl (by simp [OneCell]) (by omega) (by omega) (by rfl) (fun _ _ _ x => x) ?_
      generalize h3.push (.cells #[.int .i64 0, .int .i64 0] 210) = h4 at I1 gy1 sl1 ⊢
      intro s4 h5 sl4 u4 hb4
      have ky := I1.keep gy1 (by decide) (by decide) (by decide) (by decide)
      have I2 := I1.app_nms (x := (0, 0)) u4 (by rw [List.length_replicate]; exact sl4) (fun b hb => (hb4 b hb).imp id (fun e => Nat.le_of_eq e.symm))
      have gy2 := u4.get gy1 ky.2.1
      have gyW : ∀ v j, (hset h5 ⟨W, j, none⟩ v)[y]? = h5[y]? := fun v j => hset_ne _ _ _ (Ne.symm ky.1)
      have o5 : ∃ v, hcell h5 ⟨W, 0 + 8, none⟩ = some v ∧ hfroz h5 ⟨W, 0 + 8, none⟩ = false := by
        have o1 := u4.get I1.row (fun hx => sliceO_ne I1.nms I1.row (by decide) W hx rfl)
        exact ⟨_, hcell_of o1 rfl, hfroz_of o1⟩
      obtain ⟨v5, o5, f5⟩ := o5
      obtain ⟨a4, k4, e4⟩ := sl4.val
      (repeat (first | refine ER.nilCheck rfl rfl rfl ?_ | refine ER.fieldAddr rfl rfl rfl ?_))
      refine ER.store1 rfl rfl rfl (by rw [e4]; exact ⟨nofun, nofun⟩) ⟨_, o5⟩ f5 (fun x => x) ?_
      have gy3 : (hset h5 ⟨W, 8, none⟩ s4)[y]? = _ := (gyW s4 8).trans gy2
      change ER _ _ _ _ _ _ _ _ _ _ (hset h5 ⟨W, 8, none⟩ s4) _ _
      generalize hset h5 ⟨W, 8, none⟩ s4 = h6 at I2 gy3 ⊢
      clear I I1 gy gy1 gy2 gyW sl1 sl4 u4 hb4 ky o5 f5 c8 e4 a4 k4
      obtain ⟨aG, kG, eG⟩ := I2.giv.val
      rw [List.length_replicate] at eG
      subst eG
      have c9 : hcell h6 ⟨W, 9, none⟩ = some (.slice aG (nums (R.log.take k)).length kG) := hcell_of I2.row rfl
      (repeat (first | refine EK.seq ?_ | refine EK.region ?_ | refine ER.done ?_ | refine ER.move rfl rfl rfl ?_ | refine ER.nilCheck rfl rfl rfl ?_ | refine ER.fieldAddr rfl rfl rfl ?_ | refine ER.load1 rfl rfl rfl (by assumption) ?_))
      refine ER.slice1 (sz := 1) (z := .bool false) (cells := #[.bool false]) rfl rfl rfl (by omega) (by omega) rfl rfl ?_
      have I1 := I2.upd0 (Upd.push h6 (.cells #[.bool false] 4))
      have gy1 := get_push (o := .cells #[.bool false] 4) gy3
      have sl1 := I1.giv
      rw [List.length_replicate] at sl1
      refine ER.append1 (new := [.bool false]) rfl rfl rfl rfl sl1 (get_push_new _ _) rfl (by simp [OneCell]) (by omega) (by omega) (by rfl) (fun _ _ _ x => x) ?_
      generalize h6.push (.cells #[.bool false] 4) = h7 at I1 gy1 sl1 ⊢
      intro s5 h8 sl5 u5 hb5
      have ky := I1.keep gy1 (by decide) (by decide) (by decide) (by decide)
      have I3 := I1.app_giv (x := false) u5 (by rw [List.length_replicate]; exact sl5) (fun b hb => (hb5 b hb).imp id (fun e => Nat.le_of_eq e.symm))
      have gy2 := u5.get gy1 ky.2.2.1
      have gyW : ∀ v j, (hset h8 ⟨W, j, none⟩ v)[y]? = h8[y]? := fun v j => hset_ne _ _ _ (Ne.symm ky.1)
      have o5 : ∃ v, hcell h8 ⟨W, 0 + 9, none⟩ = some v ∧ hfroz h8 ⟨W, 0 + 9, none⟩ = false := by
        have o1 := u5.get I1.row (fun hx => sliceO_ne I1.giv I1.row (by decide) W hx rfl)
        exact ⟨_, hcell_of o1 rfl, hfroz_of o1⟩
      obtain ⟨v5, o5, f5⟩ := o5
      obtain ⟨a4, k4, e4⟩ := sl5.val
      (repeat (first | refine ER.nilCheck rfl rfl rfl ?_ | refine ER.fieldAddr rfl rfl rfl ?_))
      refine ER.store1 rfl rfl rfl (by rw [e4]; exact ⟨nofun, nofun⟩) ⟨_, o5⟩ f5 (fun x => x) ?_
      have gy3' : (hset h8 ⟨W, 9, none⟩ s5)[y]? = _ := (gyW s5 9).trans gy2
      change ER _ _ _ _ _ _ _ _ _ _ (hset h8 ⟨W, 9, none⟩ s5) _ _
      generalize hset h8 ⟨W, 9, none⟩ s5 = h9 at I3 gy3' ⊢
      clear I2 I1 gy1 gy2 gyW sl1 sl5 u5 hb5 ky o5 f5 c9 e4 a4 k4 gy3
      have c10 : hcell h9 ⟨W, 10, none⟩ = some (.slice aF (nums (R.log.take k)).length kF) := hcell_of I3.row rfl
      have c2 : hcell h9 ⟨y, 2, none⟩ = some (.slice (some ⟨bL, 0, none⟩) R.log.length kL) := hcell_of gy3' rfl
      obtain ⟨bL', ea, hrow, -⟩ := slice_row (entL_len (nums R.log)) (m.log.upd I3.up (fun _ _ x => x)) he
      injection ea with ea
      injection ea with ea
      subst ea
      have w5 : hcell h9 ⟨bL, 0 + k * 8 + 5, none⟩ = some (.int .i64 e.was) := hrow 5 _ rfl
      (repeat refine ER.done ?_)
      refine EK.regionAnyL (fun h' => hcell h' ⟨W, 10, none⟩ = some (.slice aF (nums (R.log.take k)).length kF) ∧ hcell h' ⟨y, 2, none⟩ = some (.slice (some ⟨bL, 0, none⟩) R.log.length kL) ∧ hcell h' ⟨bL, 0 + k * 8 + 5, none⟩ = some (.int .i64 e.was)) 15 ?_
      have hZ : _ ∧ _ ∧ _ := And.intro c10 ⟨c2, w5⟩
      refine EA.tMove 0 rfl (by kernel_rfl) rfl rfl rfl rfl hZ ?_
      refine EA.tMove 1 rfl (by kernel_rfl) rfl rfl rfl rfl hZ ?_
      refine EA.tNil 2 rfl (by kernel_rfl) rfl rfl rfl rfl hZ ?_
      refine EA.tField 3 rfl (by kernel_rfl) rfl rfl rfl rfl hZ ?_
      refine EA.tLoad 4 rfl (by kernel_rfl) rfl rfl rfl rfl (fun _ hz => hz.1) hZ ?_
      refine EA.tField 5 rfl (by kernel_rfl) rfl rfl rfl rfl hZ ?_
      refine EA.tLoad 6 rfl (by kernel_rfl) rfl rfl rfl rfl (fun _ hz => hz.2.1) hZ ?_
      refine EA.tMove 7 rfl (by kernel_rfl) rfl rfl rfl rfl hZ ?_
      refine EA.tIdxS 8 rfl (by kernel_rfl) rfl rfl rfl rfl rfl (by omega) (by omega) hZ ?_
      refine EA.tField 9 rfl (by kernel_rfl) rfl rfl rfl rfl hZ ?_
      refine EA.tLoad 10 rfl (by kernel_rfl) rfl rfl rfl rfl (fun _ hz => hz.2.2) hZ ?_
      have up := Upd.push (T := fun _ => False) h9 (.cells #[.int .i64 e.was] 2)
      have hZ5 : _ ∧ _ ∧ _ := And.intro (up.hcell hZ.1 (fun x => x)) ⟨up.hcell hZ.2.1 (fun x => x), up.hcell hZ.2.2 (fun x => x)⟩
      refine EA.val (v := .slice (some ⟨h9.size, 0, none⟩) 1 1) (h' := h9.push (.cells #[.int .i64 e.was] 2)) 11 rfl (by kernel_rfl) rfl rfl rfl (fun ρ Q X hρ hq => sem_slice1 (sz := 1) hρ rfl (by omega) (by omega) rfl rfl hq) hZ5 ?_
      have I1 := I3.upd0 up
      have gy1 := get_push (o := .cells #[.int .i64 e.was] 2) gy3'
      have sl1 := I1.fst
      rw [List.length_map] at sl1
      refine EA.append1 (new := [.int .i64 e.was]) 12 rfl (by kernel_rfl) rfl rfl rfl rfl rfl sl1 (get_push_new _ _) rfl (by simp [OneCell]) (by omega) (by omega) rfl (fun _ _ _ x => x) ?_
      intro s6 h11 sl6 u6 hb6
      have ky := I1.keep gy1 (by decide) (by decide) (by decide) (by decide)
      have I4 := I1.app_fst (x := e.was) u6 (by rw [List.length_map]; exact sl6) (fun b hb => (hb6 b hb).imp id (fun e => Nat.le_of_eq e.symm))
      have gy2 := u6.get gy1 ky.2.2.2.1
      have o1 := u6.get I1.row (fun hx => sliceO_ne I1.fst I1.row (by decide) W hx rfl)
      have nb : ¬ blk (.slice aF (nums (R.log.take k)).length kF) = some bL := fun hx => by
        have := (m.log.upd I1.up (fun _ _ x => x))
        exact sliceO_two this I1.fst (by decide) bL rfl (by rw [hx])
      have hZ : _ ∧ _ ∧ _ := And.intro (hcell_of o1 rfl : hcell h11 ⟨W, 10, none⟩ = some (.slice aF (nums (R.log.take k)).length kF)) ⟨(hcell_of gy2 rfl : hcell h11 ⟨y, 2, none⟩ = some (.slice (some ⟨bL, 0, none⟩) R.log.length kL)), u6.hcell hZ5.2.2 nb⟩
      refine ⟨hZ, ?_⟩
      obtain ⟨a4, k4, e4⟩ := sl6.val
      refine EA.val 13 rfl (by kernel_rfl) rfl rfl rfl (fun ρ Q X hρ hq => sem_nilCheck (hρ _ _ rfl) hq) hZ ?_
      refine EA.tField 14 rfl (by kernel_rfl) rfl rfl rfl rfl hZ ?_
      refine EA.unitL (h' := hset h11 ⟨W, 10, none⟩ s6) 15 rfl (by kernel_rfl) rfl rfl rfl (fun ρ Q X hρ hq => sem_store1 (hρ _ _ rfl) (hρ _ _ rfl) (by rw [e4]; exact ⟨nofun, nofun⟩) ⟨_, hZ.1⟩ (hfroz_of o1) (fun x => x) hq) ?_
      refine EA.done (by kernel_rfl) ?_
      have gy3 : (hset h11 ⟨W, 10, none⟩ s6)[y]? = _ := (hset_ne _ _ _ (Ne.symm ky.1)).trans gy2
      (repeat (first | refine EK.region ?_ | refine ER.done ?_ | refine EK.inBlock ?_ | refine ER.move rfl rfl rfl ?_ | refine ER.assign rfl rfl rfl ?_ | refine ER.add (kd := .i64) rfl rfl rfl rfl (i64_in (by omega) (by omega)) ?_))
      refine EK.back (again (k + 1, s4, s5, s6) _ _ (by dsimp only; omega) ⟨rfl, by dsimp only; omega, ?_, gy3⟩) ⟨rfl, rfl, rfl, trivial⟩
      dsimp only
      rw [b1, j2, List.map_append, List.replicate_succ', List.replicate_succ']
      have : [e.b].map R.v0 = [e.was] := by rw [hwas j1]; rfl
      rw [this]
      exact I4
  · obtain rfl : k = R.log.length := by omega
    (repeat (first | refine EK.seq ?_ | refine EK.region ?_ | refine ER.done ?_ | refine ER.move rfl rfl rfl ?_ | refine ER.assign rfl rfl rfl ?_ | refine ER.fieldAddr rfl rfl rfl ?_ | refine ER.load1 rfl rfl rfl (hcell_of (by assumption) rfl) ?_ | refine ER.cmpF rfl rfl rfl rfl rfl (by first | (dsimp only [cmpP]; omega) | exact rfl | exact Int.le_refl _) ?_ | refine ER.len1 rfl rfl rfl ?_ | refine EK.condF rfl ?_ | refine EK.ret ?_ | refine EK.exit rfl ?_))
    rw [List.take_length] at I
    exact EU.ret1 rfl rfl ⟨rfl, W, nv, gv, fv, rfl, I⟩
end
end Go.Proofs.Ytcpcdnkemobneaa
end
section
namespace Go.Proofs.Ytcpcdnkemobneaa
open Go Go.TJ Go.Conc Go.Proofs
section
variable {Γ : Type} {main : Bool} {S : Sit Γ} {δ : Ix Γ} {R : Rec} {lL lW lY lV sP : Value} {h0 h h1 h' : Hp} {W : Nat} {nl : List Nme} {gl : List Bool} {fl : List Int} {hl : List Nme} {ol : List Int} {nv gv fv hv ov s' : Value} {picks : List Int} {X : Us} {nm : Nat → Nme}
set_option maxHeartbeats 16000000 in
set_option maxRecDepth 8000 in
theorem have_ok {n : Nme} {v : Int} (I : WkR R lL lW lY lV h0 W nl gl fl hl ol nv gv fv hv ov h) (hh : hl.length ≤ 5000) (ho : ol.length = hl.length) :
    CallW Try.prog main (NoS (Γ := Γ)) 82 #[ptr W, nmeV n, .int .i64 v] h δ (Ret fun _ h' δ' => δ' = δ ∧ ∃ hv' ov', WkR R lL lW lY lV h0 W nl gl fl (hl ++ [n]) (ol ++ [v]) nv gv fv hv' ov' h' ∧
      ∀ (y : Nat) (a : Array Value) (t : TypeId), h[y]? = some (.cells a t (0, 0)) → t ≠ 66 → t ≠ 210 → t ≠ 4 → t ≠ 2 → h'[y]? = some (.cells a t (0, 0))) := by
  obtain ⟨y, hy⟩ : ∃ y, y = h.size := ⟨_, rfl⟩
  obtain ⟨aH, kH, eH⟩ := I.hav.val
  obtain ⟨aO, kO, eO⟩ := I.hol.val
  subst eH eO
  refine CallW.start (n := 26) rfl rfl ?_
  (repeat (first | refine EK.seq ?_ | refine EK.region ?_ | refine ER.done ?_ | refine ER.boxA rfl rfl rfl ?_))
  refine EK.gen (fun h' => WkR R lL lW lY lV h0 W nl gl fl hl ol nv gv fv (.slice aH hl.length kH) (.slice aO ol.length kO) h' ∧ h'[y]? = some (nmeO n) ∧ ∀ (y : Nat) (a : Array Value) (t : TypeId), h[y]? = some (.cells a t (0, 0)) → h'[y]? = some (.cells a t (0, 0))) ⟨I.upd0 (Upd.push _ _), by rw [hy]; exact get_push_new _ _, fun y a t hy => get_push _ hy⟩ ?_
  rw [← hy]
  have lH : ∀ b, blk (.slice aH hl.length kH) = some b → b < y := fun b hb => by rw [hy]; exact I.hav.lt hb
  clear I hy
  have yH : ¬ blk (.slice aH hl.length kH) = some y := fun hx => by have := lH y hx; omega
  rintro h1 ⟨I, gy, old⟩
  have c11 : hcell h1 ⟨W, 11, none⟩ = some (.slice aH hl.length kH) := hcell_of I.row rfl
  have rY : TJ.hrow h1 y 0 (nmeL n) := hrow_block (rest := []) (by rw [List.append_nil]; exact gy)
  refine EK.regionAnyL (fun h' => hcell h' ⟨W, 11, none⟩ = some (.slice aH hl.length kH) ∧ TJ.hrow h' y 0 (nmeL n)) 10 ?_
  have hZ : _ ∧ _ := And.intro c11 rY
  refine EA.tMove 0 rfl (by kernel_rfl) rfl rfl rfl rfl hZ ?_
  refine EA.tMove 1 rfl (by kernel_rfl) rfl rfl rfl rfl hZ ?_
  refine EA.tNil 2 rfl (by kernel_rfl) rfl rfl rfl rfl hZ ?_
  refine EA.tField 3 rfl (by kernel_rfl) rfl rfl rfl rfl hZ ?_
  refine EA.tLoad 4 rfl (by kernel_rfl) rfl rfl rfl rfl (fun _ hz => hz.1) hZ ?_
  refine EA.tLoadN (vs := nmeL n) 5 rfl (by kernel_rfl) rfl rfl rfl rfl rfl (fun _ hz => hz.2) hZ ?_
  have up := Upd.push (T := fun _ => False) h1 (.cells #[.int .i64 n.1, .int .i64 n.2] 210)
  have hZ5 : _ ∧ _ := And.intro (up.hcell hZ.1 (fun x => x)) (fun j v hv => up.hcell (hZ.2 j v hv) (fun x => x) : TJ.hrow _ y 0 (nmeL n))
  refine EA.val (v := .slice (some ⟨h1.size, 0, none⟩) 1 1) (h' := h1.push (.cells #[.int .i64 n.1, .int .i64 n.2] 210)) 6 rfl (by kernel_rfl) rfl rfl rfl (fun ρ Q X hρ hq => sem_slice1 (sz := 2) hρ rfl (by omega) (by omega) rfl rfl hq) hZ5 ?_
  have I1 := I.upd0 up
  have old1 : ∀ (y : Nat) (a : Array Value) (t : TypeId), h[y]? = some (.cells a t (0, 0)) → (h1.push (.cells #[.int .i64 n.1, .int .i64 n.2] 210))[y]? = some (.cells a t (0, 0)) := fun y a t hy => get_push _ (old y a t hy)
  have gy1 := get_push (o := .cells #[.int .i64 n.1, .int .i64 n.2] 210) gy
  have sl1 := I1.hav
  have yl := lt_of_get gy
  refine EA.append1 (new := [.int .i64 n.1, .int .i64 n.2]) 7 rfl (by kernel_rfl) rfl rfl rfl rfl rfl sl1 (get_push_new _ _) rfl (by simp [OneCell]) (by omega) (by omega) rfl (fun _ _ _ x => x) ?_
  intro s6 h3 sl6 u6 hb6
  have hne : ¬ blk (.slice aH hl.length kH) = some y := yH
  have I2 := I1.app_hav (x := n) u6 sl6 (fun b hb => (hb6 b hb).imp id (fun e => Nat.le_of_eq e.symm))
  have o1 := u6.get I1.row (fun hx => sliceO_ne I1.hav I1.row (by decide) W hx rfl)
  have hZ : _ ∧ _ := And.intro (hcell_of o1 rfl : hcell h3 ⟨W, 11, none⟩ = some (.slice aH hl.length kH)) (fun j v hv => u6.hcell (hZ5.2 j v hv) hne : TJ.hrow h3 y 0 (nmeL n))
  refine ⟨hZ, ?_⟩
  obtain ⟨a4, k4, e4⟩ := sl6.val
  refine EA.val 8 rfl (by kernel_rfl) rfl rfl rfl (fun ρ Q X hρ hq => sem_nilCheck (hρ _ _ rfl) hq) hZ ?_
  refine EA.tField 9 rfl (by kernel_rfl) rfl rfl rfl rfl hZ ?_
  refine EA.unitL (h' := hset h3 ⟨W, 11, none⟩ s6) 10 rfl (by kernel_rfl) rfl rfl rfl (fun ρ Q X hρ hq => sem_store1 (hρ _ _ rfl) (hρ _ _ rfl) (by rw [e4]; exact ⟨nofun, nofun⟩) ⟨_, hZ.1⟩ (hfroz_of o1) (fun x => x) hq) ?_
  refine EA.done (by kernel_rfl) ?_
  have old2 : ∀ (y : Nat) (a : Array Value) (t : TypeId), h[y]? = some (.cells a t (0, 0)) → t ≠ 66 → t ≠ 210 → t ≠ 4 → t ≠ 2 → (hset h3 ⟨W, 11, none⟩ s6)[y]? = some (.cells a t (0, 0)) := fun y a t hy q1 q2 q3 q4 => by
    have ky := I1.keep (old1 y a t hy) q1 q2 q3 q4
    exact (hset_ne _ _ _ (Ne.symm ky.1)).trans (u6.get (old1 y a t hy) ky.2.2.2.2.1)
  generalize hset h3 ⟨W, 11, none⟩ s6 = h4 at I2 old2 ⊢
  clear hZ hZ5 I I1 gy gy1 old old1 up sl1 sl6 u6 hb6 hne o1 c11 rY e4 a4 k4 yH yl
  have c12 : hcell h4 ⟨W, 12, none⟩ = some (.slice aO ol.length kO) := hcell_of I2.row rfl
  (repeat (first | refine EK.region ?_ | refine ER.move rfl rfl rfl ?_ | refine ER.nilCheck rfl rfl rfl ?_ | refine ER.fieldAddr rfl rfl rfl ?_ | refine ER.load1 rfl rfl rfl (by assumption) ?_))
  refine ER.slice1 (sz := 1) (z := .int .i64 0) (cells := #[.int .i64 v]) rfl rfl rfl (by omega) (by omega) rfl rfl ?_
  have I1 := I2.upd0 (Upd.push h4 (.cells #[.int .i64 v] 2))
  have sl1 := I1.hol
  refine ER.append1 (new := [.int .i64 v]) rfl rfl rfl rfl sl1 (get_push_new _ _) rfl (by simp [OneCell]) (by omega) (by omega) (by rfl) (fun _ _ _ x => x) ?_
  have old3 : ∀ (y : Nat) (a : Array Value) (t : TypeId), h[y]? = some (.cells a t (0, 0)) → t ≠ 66 → t ≠ 210 → t ≠ 4 → t ≠ 2 → (h4.push (.cells #[.int .i64 v] 2))[y]? = some (.cells a t (0, 0)) := fun y a t hy q1 q2 q3 q4 => get_push _ (old2 y a t hy q1 q2 q3 q4)
  generalize h4.push (.cells #[.int .i64 v] 2) = h5 at I1 sl1 old3 ⊢
  intro s7 h6 sl7 u7 hb7
  have I3 := I1.app_hol (x := v) u7 sl7 (fun b hb => (hb7 b hb).imp id (fun e => Nat.le_of_eq e.symm))
  have o5 : ∃ v, hcell h6 ⟨W, 0 + 12, none⟩ = some v ∧ hfroz h6 ⟨W, 0 + 12, none⟩ = false := by
    have o1 := u7.get I1.row (fun hx => sliceO_ne I1.hol I1.row (by decide) W hx rfl)
    exact ⟨_, hcell_of o1 rfl, hfroz_of o1⟩
  obtain ⟨v5, o5, f5⟩ := o5
  obtain ⟨a4, k4, e4⟩ := sl7.val
  (repeat (first | refine ER.nilCheck rfl rfl rfl ?_ | refine ER.fieldAddr rfl rfl rfl ?_))
  refine ER.store1 rfl rfl rfl (by rw [e4]; exact ⟨nofun, nofun⟩) ⟨_, o5⟩ f5 (fun x => x) ?_
  have old4 : ∀ (y : Nat) (a : Array Value) (t : TypeId), h[y]? = some (.cells a t (0, 0)) → t ≠ 66 → t ≠ 210 → t ≠ 4 → t ≠ 2 → (hset h6 ⟨W, 12, none⟩ s7)[y]? = some (.cells a t (0, 0)) := fun y a t hy q1 q2 q3 q4 => by
    have ky := I1.keep (old3 y a t hy q1 q2 q3 q4) q1 q2 q3 q4
    exact (hset_ne _ _ _ (Ne.symm ky.1)).trans (u7.get (old3 y a t hy q1 q2 q3 q4) ky.2.2.2.2.2)
  (repeat refine ER.done ?_)
  exact EK.done (EU.ret0 rfl ⟨rfl, _, _, I3, old4⟩)
set_option maxRecDepth 8000 in
theorem of_ok {i : Nat} : CallW Try.prog main S 22 #[ptr W, .int .i64 i] h δ (Ret fun v h' δ' => δ' = δ ∧ ∃ x, v = ptr x ∧ x = h.size ∧ h'[x]? = some (wrO W i false 0) ∧ Upd (fun _ => False) h h') := by
  refine CallW.start (n := 9) rfl rfl ?_
  (repeat (first | refine EK.seq ?_ | refine EK.region ?_ | refine ER.done ?_ | refine ER.move rfl rfl rfl ?_ | refine ER.assign rfl rfl rfl ?_))
  refine ER.buildS (cells := #[ptr W, .int .i64 i, .bool false, .int .i64 0]) rfl rfl (by rfl) (by rfl) ?_
  (repeat (first | refine ER.done ?_ | refine ER.assign rfl rfl rfl ?_ | refine ER.boxA rfl rfl rfl ?_ | refine EK.ret ?_))
  exact EU.ret1 rfl rfl ⟨rfl, _, rfl, rfl, get_push_new _ _, Upd.push _ _⟩
end
end Go.Proofs.Ytcpcdnkemobneaa
end
section
namespace Go.Proofs.Ytcpcdnkemobneaa
open Go Go.TJ Go.Conc Go.Proofs
class EqIBII (P : Program) (t : TypeId) (k1 k3 k4 : outParam IntKind) : Prop where
  out : P.stoodInHeld t = false ∧ P.eqGuardType P.depth t = false ∧ ∃ f1 f2 f3 f4 : Field, P.underlying t = some (.struct #[f1, f2, f3, f4]) ∧ f1.name ≠ "_" ∧ f2.name ≠ "_" ∧ f3.name ≠ "_" ∧ f4.name ≠ "_" ∧ f1.offset = 0 ∧ f2.offset = 1 ∧ f3.offset = 2 ∧ f4.offset = 3 ∧ P.underlying f1.type = some (.int k1) ∧ P.underlying f2.type = some .bool ∧ P.underlying f3.type = some (.int k3) ∧ P.underlying f4.type = some (.int k4)
section
variable {Γ : Type} {P : Program} {main : Bool} {S : Sit Γ} {f : FuncId} {n : Nat} {k : List Item} {env : Env} {ds : List Deferred} {h : Hp} {δ : Ix Γ} {R : Post Γ}
variable {ops : Array Oper} {l : List Oper} {d : Nat} {ty : TypeId} {pos : String} {af : Array Edge} {g : Option (Nat × Bool)} {Z : Hp → Prop} {zz : Nat} {m : Nat} {listed l' : Array Bool}
theorem semW_partB {t : TypeId} {cs : Array Value} {o : Nat} {v : Value} (hu : P.underlying t = some .bool) (hv : cs[o]? = some v) {Q : Value → Hp → Ix Γ → Prop} {X : Value → Hp → Ix Γ → Prop} (hq : Q v h δ) : SemW P S (part t cs o) h δ Q X := by
  unfold part isAgg
  refine semW_bind _ _ _ _ _ _ ?_
  refine semW_underlying hu ?_
  simp only [hv]
  exact hq
theorem semW_eqBool {dd : Nat} {t : TypeId} {a : Bool} (hu : P.underlying t = some .bool) {Q : Bool → Hp → Ix Γ → Prop} {X : Value → Hp → Ix Γ → Prop} (hq : Q true h δ) : SemW P S (Op.equalIn (dd + 1) t (.bool a) (.bool a)) h δ Q X := by
  unfold Op.equalIn
  refine semW_underlying hu ?_
  simp only [beq_self_eq_true]
  exact hq
theorem semW_eqI4 {t : TypeId} {k1 k3 k4 : IntKind} [e : EqIBII P t k1 k3 k4] {a1 a3 a4 : Int} {a2 : Bool} {Q : Bool → Hp → Ix Γ → Prop} {X : Value → Hp → Ix Γ → Prop} (hq : Q true h δ) :
    SemW P S (Op.equal t (.agg #[.int k1 a1, .bool a2, .int k3 a3, .int k4 a4]) (.agg #[.int k1 a1, .bool a2, .int k3 a3, .int k4 a4])) h δ Q X := by
  obtain ⟨hs, -, f1, f2, f3, f4, hu, hn1, hn2, hn3, hn4, ho1, ho2, ho3, ho4, hu1, hu2, hu3, hu4⟩ := e.out
  unfold Op.equal Op.maxDepth Op.equalIn
  refine semW_underlying hu ?_
  simp only
  change SemW P S (Sem.bind (Sem.program Sem.pure) _) h δ Q X
  simp only [Sem.bind, SemW, hs]
  rw [if_neg (by simp)]
  rw [← Array.forIn_toList]
  simp only [List.forIn_cons, List.forIn_nil, hn1, hn2, hn3, hn4, ho1, ho2, ho3, ho4, ne_eq, not_false_eq_true, if_true]
  refine semW_bind _ _ _ _ _ _ (semW_bind _ _ _ _ _ _ (semW_bind _ _ _ _ _ _ (semW_partI hu1 rfl (semW_bind _ _ _ _ _ _ (semW_partI hu1 rfl (semW_bind _ _ _ _ _ _ (semW_eqInt (dd := 9998) hu1 ?_)))))))
  rw [beq_self_eq_true]
  simp only [Bool.not_true, Bool.false_eq_true, if_false]
  refine semW_pure (Q := _) ?_
  simp only
  refine semW_bind _ _ _ _ _ _ (semW_bind _ _ _ _ _ _ (semW_partB hu2 rfl (semW_bind _ _ _ _ _ _ (semW_partB hu2 rfl (semW_bind _ _ _ _ _ _ (semW_eqBool (dd := 9998) hu2 ?_))))))
  simp only [Bool.not_true, Bool.false_eq_true, if_false]
  refine semW_pure (Q := _) ?_
  simp only
  refine semW_bind _ _ _ _ _ _ (semW_bind _ _ _ _ _ _ (semW_partI hu3 rfl (semW_bind _ _ _ _ _ _ (semW_partI hu3 rfl (semW_bind _ _ _ _ _ _ (semW_eqInt (dd := 9998) hu3 ?_))))))
  rw [beq_self_eq_true]
  simp only [Bool.not_true, Bool.false_eq_true, if_false]
  refine semW_pure (Q := _) ?_
  simp only
  refine semW_bind _ _ _ _ _ _ (semW_bind _ _ _ _ _ _ (semW_partI hu4 rfl (semW_bind _ _ _ _ _ _ (semW_partI hu4 rfl (semW_bind _ _ _ _ _ _ (semW_eqInt (dd := 9998) hu4 ?_))))))
  rw [beq_self_eq_true]
  exact hq
theorem eqGuard_agg4 {op : BinOp} {t : TypeId} {k1 k3 k4 : IntKind} [e : EqIBII P t k1 k3 k4] {x y : Operand} {a b : Array Value} {Q : Unit → Hp → Ix Γ → Prop} {X : Value → Hp → Ix Γ → Prop} (hq : Q () h δ) : SemW P S (eqGuard op t x y (.agg a) (.agg b)) h δ Q X := by
  obtain ⟨-, hg, -⟩ := e.out
  unfold eqGuard
  have key : SemW P S (do if !(← program).eqGuardType (← program).depth t then return
                          if ← Op.eqGuardIn Op.maxDepth t (.agg a) (.agg b) then unsupported (.noEntry "binop/eql: two nil values of an interface type with methods, in a part of a struct or an array")) h δ Q X := by
    change SemW P S (Sem.bind (Sem.program Sem.pure) fun p => Sem.bind (Sem.program Sem.pure) fun q => if (!p.eqGuardType q.depth t) = true then _ else _) h δ Q X
    simp only [Sem.bind, SemW, hg]
    exact hq
  cases op <;> first | exact hq | exact key
theorem sem_neqA4 {t t2 : TypeId} {k1 k3 k4 : IntKind} [EqIBII P t k1 k3 k4] {x y : Operand} {a1 a3 a4 : Int} {a2 : Bool} {ρ : Operand → Value} {dst : Option Nat} {Q : Next → Hp → Ix Γ → Prop} {X : Value → Hp → Ix Γ → Prop} (hx : ρ x = .agg #[.int k1 a1, .bool a2, .int k3 a3, .int k4 a4]) (hy : ρ y = .agg #[.int k1 a1, .bool a2, .int k3 a3, .int k4 a4]) (hq : Q (.value (.bool false)) h δ) : SemW P S (execOp ρ ⟨dst, .binOp .neq t x y t2, ty, pos, af, g⟩) h δ Q X :=
  semW_binOp (by
    rw [hx, hy]
    exact eqGuard_agg4 (by
      show SemW P S (Op.equal t _ _ >>= fun b => pure (Value.bool (!b))) h δ _ X
      exact semW_bind _ _ _ _ _ _ (semW_eqI4 (by exact hq))))
end
instance : EqIBII Try.prog 85 .i64 .i8 .i64 := ⟨by kernel_rfl, by kernel_rfl, _, _, _, _, Try.underlying85, by decide, by decide, by decide, by decide, rfl, rfl, rfl, rfl, Try.underlying2, Try.underlying4, Try.underlying46, Try.underlying34⟩
end Go.Proofs.Ytcpcdnkemobneaa
end
section
namespace Go.Proofs.Ytcpcdnkemobneaa
open Go Go.TJ Go.Conc Go.Proofs
def nmD (bs : Int) (k : Nat) : Nme := if k = 2 then (W64 (70 + bs), 0) else if k = 3 then (W64 (71 + bs), 0) else (W64 (72 + bs), ((k - 4 : Nat) : Int))
theorem nmD_inj {n : Nat} {bs : Int} {j k : Nat} (hj : 2 ≤ j ∧ j < 4 + n) (hk : 2 ≤ k ∧ k < 4 + n) (h : nmD bs j = nmD bs k) : j = k := by
  unfold nmD at h
  have e1 : W64 (70 + bs) ≠ W64 (71 + bs) := by simp only [W64, IntKind.wrap_i64]; omega
  have e2 : W64 (70 + bs) ≠ W64 (72 + bs) := by simp only [W64, IntKind.wrap_i64]; omega
  have e3 : W64 (71 + bs) ≠ W64 (72 + bs) := by simp only [W64, IntKind.wrap_i64]; omega
  split at h <;> split at h <;> (try split at h) <;> (try split at h) <;> first | omega | (injection h with h1 h2; first | omega | exact absurd h1 e1 | exact absurd h1.symm e1 | exact absurd h1 e2 | exact absurd h1.symm e2 | exact absurd h1 e3 | exact absurd h1.symm e3)
def hsD (fr bs : Int) : List (Nme × Int) := [((W64 (70 + bs), 0), fr), ((W64 (71 + bs), 0), fr)]
theorem look_hsD {n : Nat} {fr bs : Int} {k : Nat} (hk : 2 ≤ k ∧ k < 4 + n) : lookN (hsD fr bs) (nmD bs k) = if k < 4 then fr else 0 := by
  have e1 : W64 (70 + bs) ≠ W64 (71 + bs) := by simp only [W64, IntKind.wrap_i64]; omega
  have e2 : W64 (70 + bs) ≠ W64 (72 + bs) := by simp only [W64, IntKind.wrap_i64]; omega
  have e3 : W64 (71 + bs) ≠ W64 (72 + bs) := by simp only [W64, IntKind.wrap_i64]; omega
  unfold nmD
  by_cases h2 : k = 2
  · subst h2
    rw [if_pos rfl, if_pos (by decide)]
    exact lookN_at (k := 0) (fun j z hj hz => by omega) rfl
  · by_cases h3 : k = 3
    · subst h3
      rw [if_neg (by decide), if_pos rfl, if_pos (by decide)]
      refine lookN_at (k := 1) (fun j z hj hz => ?_) rfl
      obtain rfl : j = 0 := by omega
      injection hz with hz
      subst hz
      exact fun e => e1 (by injection e)
    · rw [if_neg h2, if_neg h3, if_neg (by omega)]
      refine lookN_no fun z hz => ?_
      rcases List.mem_cons.1 hz with rfl | hz
      · exact fun e => e2 (by injection e)
      · obtain rfl := List.mem_singleton.1 hz
        exact fun e => e3 (by injection e)
section
variable {Γ : Type} {main : Bool} {S : Sit Γ} {δ : Ix Γ} {h : Hp}
abbrev madeL (a fr bs : Int) : List Value := [.int .i64 a, .int .i64 fr, .int .i64 bs]
theorem rtop_ok {a fr bs : Int} : CallW Try.prog main (NoS (Γ := Γ)) 99 #[.agg (madeL a fr bs).toArray] h δ (Ret fun v h' δ' => δ' = δ ∧ v = nmeV (W64 (70 + bs), 0) ∧ Upd (fun _ => False) h h') := by
  refine CallW.start (n := 7) rfl rfl ?_
  have q0 : ((h.push (.cells (madeL a fr bs).toArray 77)).push (nmeO (0, 0)))[h.size]? = some (.cells (madeL a fr bs).toArray 77 (0, 0)) := get_push _ (get_push_new _ _)
  have q2 : hcell ((h.push (.cells (madeL a fr bs).toArray 77)).push (nmeO (0, 0))) ⟨h.size, 2, none⟩ = some (.int .i64 bs) := hcell_of q0 rfl
  (repeat (first | refine EK.seq ?_ | refine EK.region ?_ | refine ER.done ?_ | refine ER.fieldAddr rfl rfl rfl ?_ | refine ER.load1 rfl rfl rfl (hcell_of (by assumption) rfl) ?_ | refine ER.boxA rfl rfl rfl ?_ | refine ER.allocA rfl rfl ?_))
  refine ER.add (r := W64 (70 + bs)) rfl rfl rfl rfl rfl ?_
  refine ER.buildS (cells := #[.int .i64 (W64 (70 + bs)), .int .i64 0]) rfl rfl (by rfl) (by rfl) ?_
  refine ER.storeN (vs := nmeL (W64 (70 + bs), 0)) rfl rfl rfl rfl (by simp [nmeL, OneCell]) (nme_all (n := (0, 0)) (get_push_new _ _)) ?_
  rw [hsetRow_push (c := [.int .i64 0, .int .i64 0]) (vs := nmeL (W64 (70 + bs), 0)) rfl]
  (repeat (first | refine ER.done ?_ | refine EK.ret ?_))
  exact EU.retCell1 (vs := nmeL (W64 (70 + bs), 0)) rfl rfl rfl (hrow_block (rest := []) (by rw [List.append_nil]; exact get_push_new _ _)) ⟨rfl, rfl, (Upd.push _ _).trans (Upd.push _ _)⟩
theorem rbottom_ok {a fr bs : Int} : CallW Try.prog main (NoS (Γ := Γ)) 100 #[.agg (madeL a fr bs).toArray] h δ (Ret fun v h' δ' => δ' = δ ∧ v = nmeV (W64 (71 + bs), 0) ∧ Upd (fun _ => False) h h') := by
  refine CallW.start (n := 7) rfl rfl ?_
  have q0 : ((h.push (.cells (madeL a fr bs).toArray 77)).push (nmeO (0, 0)))[h.size]? = some (.cells (madeL a fr bs).toArray 77 (0, 0)) := get_push _ (get_push_new _ _)
  have q2 : hcell ((h.push (.cells (madeL a fr bs).toArray 77)).push (nmeO (0, 0))) ⟨h.size, 2, none⟩ = some (.int .i64 bs) := hcell_of q0 rfl
  (repeat (first | refine EK.seq ?_ | refine EK.region ?_ | refine ER.done ?_ | refine ER.fieldAddr rfl rfl rfl ?_ | refine ER.load1 rfl rfl rfl (hcell_of (by assumption) rfl) ?_ | refine ER.boxA rfl rfl rfl ?_ | refine ER.allocA rfl rfl ?_))
  refine ER.add (r := W64 (71 + bs)) rfl rfl rfl rfl rfl ?_
  refine ER.buildS (cells := #[.int .i64 (W64 (71 + bs)), .int .i64 0]) rfl rfl (by rfl) (by rfl) ?_
  refine ER.storeN (vs := nmeL (W64 (71 + bs), 0)) rfl rfl rfl rfl (by simp [nmeL, OneCell]) (nme_all (n := (0, 0)) (get_push_new _ _)) ?_
  rw [hsetRow_push (c := [.int .i64 0, .int .i64 0]) (vs := nmeL (W64 (71 + bs), 0)) rfl]
  (repeat (first | refine ER.done ?_ | refine EK.ret ?_))
  exact EU.retCell1 (vs := nmeL (W64 (71 + bs), 0)) rfl rfl rfl (hrow_block (rest := []) (by rw [List.append_nil]; exact get_push_new _ _)) ⟨rfl, rfl, (Upd.push _ _).trans (Upd.push _ _)⟩
theorem rslot_ok {n : Nat} (hn : 0 < n) (hn2 : n ≤ 4096) {x fr bs : Int} : CallW Try.prog main (NoS (Γ := Γ)) 101 #[.agg (madeL n fr bs).toArray, .int .i64 x] h δ (Ret fun v h' δ' => δ' = δ ∧ v = nmeV (W64 (72 + bs), (slot n x : Int)) ∧ Upd (fun _ => False) h h') := by
  have h1 := Int.lt_tmod_of_pos x (b := (n : Int)) (by omega)
  have h2 := Int.tmod_lt_of_pos x (b := (n : Int)) (by omega)
  have h5 : x.tmod n = x % n ∨ x.tmod n + n = x % n := by
    have k := tmod_twice x (m := (n : Int)) (by omega)
    have k2 : (x.tmod n + n).tmod n = (x.tmod n + n) % n := Int.tmod_eq_emod_of_nonneg (by omega)
    rcases Int.lt_or_le (x.tmod n) 0 with y | y
    · right
      rw [← k, k2, Int.emod_eq_of_lt (by omega) (by omega)]
    · left
      rw [← k, k2, Int.add_emod_right, Int.emod_eq_of_lt (by omega) (by omega)]
  have h3 := Int.emod_nonneg x (b := (n : Int)) (by omega)
  have h4 := Int.emod_lt_of_pos x (b := (n : Int)) (by omega)
  have hs : (slot n x : Int) = x % n := by unfold slot; omega
  refine CallW.start (n := 21) rfl rfl ?_
  have q0 : ((h.push (.cells (madeL n fr bs).toArray 77)).push (nmeO (0, 0)))[h.size]? = some (.cells (madeL n fr bs).toArray 77 (0, 0)) := get_push _ (get_push_new _ _)
  have q2 : hcell ((h.push (.cells (madeL n fr bs).toArray 77)).push (nmeO (0, 0))) ⟨h.size, 2, none⟩ = some (.int .i64 bs) := hcell_of q0 rfl
  have q1 : hcell ((h.push (.cells (madeL n fr bs).toArray 77)).push (nmeO (0, 0))) ⟨h.size, 0, none⟩ = some (.int .i64 n) := hcell_of q0 rfl
  (repeat (first | refine EK.seq ?_ | refine EK.region ?_ | refine ER.done ?_ | refine ER.move rfl rfl rfl ?_ | refine ER.fieldAddr rfl rfl rfl ?_ | refine ER.load1 rfl rfl rfl (hcell_of (by assumption) rfl) ?_ | refine ER.boxA rfl rfl rfl ?_ | refine ER.allocA rfl rfl ?_))
  refine ER.rem (r := x.tmod n) rfl rfl rfl rfl (by omega) rfl ?_
  generalize slot n x = r at hs ⊢
  rw [← hs] at h3 h4 h5
  clear hs
  generalize x.tmod n = q at h1 h2 h5 ⊢
  (repeat (first | refine EK.seq ?_ | refine EK.region ?_ | refine ER.done ?_ | refine ER.move rfl rfl rfl ?_ | refine ER.assign rfl rfl rfl ?_))
  by_cases hq : q < 0
  · have hr : q + n = r := by omega
    (repeat (first | refine EK.seq ?_ | refine EK.region ?_ | refine ER.done ?_ | refine ER.move rfl rfl rfl ?_ | refine ER.assign rfl rfl rfl ?_ | refine ER.fieldAddr rfl rfl rfl ?_ | refine ER.load1 rfl rfl rfl (hcell_of (by assumption) rfl) ?_ | refine ER.cmpT rfl rfl rfl rfl rfl (by first | (dsimp only [cmpP]; omega) | exact rfl | exact Int.le_refl _) ?_ | refine ER.add (kd := .i64) rfl rfl rfl rfl (i64_in (by omega) (by omega)) ?_ | refine EK.condT rfl ?_))
    rw [hr]
    skip
    skip
    refine ER.add (r := W64 (72 + bs)) rfl rfl rfl rfl rfl ?_
    (repeat refine ER.move rfl rfl rfl ?_)
    refine ER.buildS (cells := #[.int .i64 (W64 (72 + bs)), .int .i64 (r : Int)]) rfl rfl (by rfl) (by rfl) ?_
    refine ER.storeN (vs := nmeL (W64 (72 + bs), (r : Int))) rfl rfl rfl rfl (by simp [nmeL, OneCell]) (nme_all (n := (0, 0)) (get_push_new _ _)) ?_
    rw [hsetRow_push (c := [.int .i64 0, .int .i64 0]) (vs := nmeL (W64 (72 + bs), (r : Int))) rfl]
    (repeat (first | refine ER.done ?_ | refine EK.ret ?_))
    exact EU.retCell1 (vs := nmeL (W64 (72 + bs), (r : Int))) rfl rfl rfl (hrow_block (rest := []) (by rw [List.append_nil]; exact get_push_new _ _)) ⟨rfl, rfl, (Upd.push _ _).trans (Upd.push _ _)⟩
  · obtain rfl : q = r := by omega
    clear q1 h5
    (repeat (first | refine EK.seq ?_ | refine EK.region ?_ | refine ER.done ?_ | refine EK.skip ?_ | refine ER.fieldAddr rfl rfl rfl ?_ | refine ER.load1 rfl rfl rfl (hcell_of (by assumption) rfl) ?_ | refine ER.cmpF rfl rfl rfl rfl rfl (by first | (dsimp only [cmpP]; omega) | exact rfl | exact Int.le_refl _) ?_ | refine EK.condF rfl ?_))
    skip
    refine ER.add (r := W64 (72 + bs)) rfl rfl rfl rfl rfl ?_
    (repeat refine ER.move rfl rfl rfl ?_)
    refine ER.buildS (cells := #[.int .i64 (W64 (72 + bs)), .int .i64 (r : Int)]) rfl rfl (by rfl) (by rfl) ?_
    refine ER.storeN (vs := nmeL (W64 (72 + bs), (r : Int))) rfl rfl rfl rfl (by simp [nmeL, OneCell]) (nme_all (n := (0, 0)) (get_push_new _ _)) ?_
    rw [hsetRow_push (c := [.int .i64 0, .int .i64 0]) (vs := nmeL (W64 (72 + bs), (r : Int))) rfl]
    (repeat (first | refine ER.done ?_ | refine EK.ret ?_))
    exact EU.retCell1 (vs := nmeL (W64 (72 + bs), (r : Int))) rfl rfl rfl (hrow_block (rest := []) (by rw [List.append_nil]; exact get_push_new _ _)) ⟨rfl, rfl, (Upd.push _ _).trans (Upd.push _ _)⟩
end
section
variable {Γ : Type} {main : Bool} {S : Sit Γ} {δ : Ix Γ} {R : Rec} {lL lW lY lV sP : Value} {h0 h h1 h' : Hp} {W n : Nat} {nl : List Nme} {gl : List Bool} {fl : List Int} {nv gv fv : Value}
set_option maxRecDepth 8000 in
set_option maxHeartbeats 4000000 in
theorem gbegin_ok {fr bs : Int} (I : WkR R lL lW lY lV h0 W nl gl fl [] [] nv gv fv nilS nilS h) :
    CallW Try.prog main (NoS (Γ := Γ)) 36 #[ptr W, .agg #[.int .i64 (n : Int), .int .i64 fr, .int .i64 bs]] h δ (Ret fun _ h' δ' => δ' = δ ∧ ∃ hv ov, WkR R lL lW lY lV h0 W nl gl fl ((hsD fr bs).map (·.1)) ((hsD fr bs).map (·.2)) nv gv fv hv ov h') := by
  obtain ⟨y, hy⟩ : ∃ y, y = h.size := ⟨_, rfl⟩
  refine CallW.start (n := 16) rfl rfl ?_
  (repeat (first | refine EK.seq ?_ | refine EK.region ?_ | refine ER.done ?_ | refine ER.boxA rfl rfl rfl ?_))
  refine EK.gen (fun h' => WkR R lL lW lY lV h0 W nl gl fl [] [] nv gv fv nilS nilS h' ∧ h'[y]? = some (.cells (madeL n fr bs).toArray 77 (0, 0))) ⟨I.upd0 (Upd.push _ _), by rw [hy]; exact get_push_new _ _⟩ ?_
  rw [← hy]
  clear I hy
  rintro h1 ⟨I, gy⟩
  refine EK.regionAny (fun h' => h'[y]? = some (.cells (madeL n fr bs).toArray 77 (0, 0))) ?_
  have hZ := gy
  refine EA.tMove 0 rfl (by kernel_rfl) rfl rfl rfl rfl hZ ?_
  refine EA.tLoadN (vs := madeL n fr bs) 1 rfl (by kernel_rfl) rfl rfl rfl rfl rfl (fun _ hz => hrow_block (rest := []) (by rw [List.append_nil]; exact hz)) hZ ?_
  refine EA.tField 3 rfl (by kernel_rfl) rfl rfl rfl rfl hZ ?_
  refine EA.tLoad 4 rfl (by kernel_rfl) rfl rfl rfl rfl (fun _ hz => (hcell_of hz rfl)) hZ ?_
  refine EA.callR 2 rfl (by kernel_rfl) rfl rfl rfl rfl rfl rfl rtop_ok ?_
  rintro _ h2 δ2 ⟨rfl, rfl, u2⟩
  replace I := I.upd0 u2
  replace gy := u2.get gy (fun x => x)
  refine ⟨gy, ?_⟩
  clear u2 hZ
  refine EA.callR 5 rfl (by kernel_rfl) rfl rfl rfl rfl rfl rfl (have_ok I (by simp) rfl) ?_
  clear I
  rintro _ h3 δ3 ⟨rfl, hv, ov, I, keep⟩
  replace gy := keep y _ _ gy (by decide) (by decide) (by decide) (by decide)
  refine ⟨gy, EA.done (by kernel_rfl) ?_⟩
  clear keep
  skip
  refine EK.regionAny (fun h' => h'[y]? = some (.cells (madeL n fr bs).toArray 77 (0, 0))) ?_
  have hZ := gy
  refine EA.tMove 0 rfl (by kernel_rfl) rfl rfl rfl rfl hZ ?_
  refine EA.tLoadN (vs := madeL n fr bs) 1 rfl (by kernel_rfl) rfl rfl rfl rfl rfl (fun _ hz => hrow_block (rest := []) (by rw [List.append_nil]; exact hz)) hZ ?_
  refine EA.tField 3 rfl (by kernel_rfl) rfl rfl rfl rfl hZ ?_
  refine EA.tLoad 4 rfl (by kernel_rfl) rfl rfl rfl rfl (fun _ hz => (hcell_of hz rfl)) hZ ?_
  refine EA.callR 2 rfl (by kernel_rfl) rfl rfl rfl rfl rfl rfl rbottom_ok ?_
  rintro _ h2 δ2 ⟨rfl, rfl, u2⟩
  replace I := I.upd0 u2
  replace gy := u2.get gy (fun x => x)
  refine ⟨gy, ?_⟩
  clear u2 hZ
  refine EA.callR 5 rfl (by kernel_rfl) rfl rfl rfl rfl rfl rfl (have_ok I (by simp) rfl) ?_
  clear I
  rintro _ h3 δ3 ⟨rfl, hv, ov, I, keep⟩
  replace gy := keep y _ _ gy (by decide) (by decide) (by decide) (by decide)
  refine ⟨gy, EA.done (by kernel_rfl) ?_⟩
  clear keep
  skip
  exact EK.done (EU.ret0 rfl ⟨rfl, hv, ov, I⟩)
end
section
variable {Γ : Type} {main : Bool} {S : Sit Γ} {δ : Ix Γ} {R : Rec} {nm : Nat → Nme} {lL lW lY lV sP : Value} {h0 h h' : Hp} {W x i t n e m : Nat} {B : Nat → Nat} {s : WS} {picks : List Int} {X : Us} {pf p : Pr GAns} {l : List Ev} {o : List GAns}
theorem ans_all {y : Nat} {a : GAns} {h : Hp} (hy : h[y]? = some (gansO a)) : ∀ j, j < 4 → (∃ u, hcell h ⟨y, 0 + j, none⟩ = some u) ∧ hfroz h ⟨y, 0 + j, none⟩ = false ∧ ¬ (NoS (Γ := Γ)).still δ.g ⟨y, 0 + j, none⟩ := fun j hj => by
  refine ⟨?_, hfroz_of hy, fun x => x⟩
  rcases (show j = 0 ∨ j = 1 ∨ j = 2 ∨ j = 3 by omega) with rfl | rfl | rfl | rfl <;> exact ⟨_, hcell_of hy rfl⟩
def NmsD (n : Nat) (B : Nat → Nat) (bs : Int) (nm : Nat → Nme) : Prop := ∀ k, csD n k → nm (B k) = nmD bs k
theorem NmsD.top {bs : Int} (N : NmsD n B bs nm) (hn : 0 < n) : (W64 (70 + bs), (0 : Int)) = nm (B 2) := (N 2 ⟨by omega, by omega⟩).symm
theorem NmsD.bot {bs : Int} (N : NmsD n B bs nm) (hn : 0 < n) : (W64 (71 + bs), (0 : Int)) = nm (B 3) := (N 3 ⟨by omega, by omega⟩).symm
theorem NmsD.slo {bs : Int} (N : NmsD n B bs nm) (hn : 0 < n) (q : Int) : (W64 (72 + bs), (slot n q : Int)) = nm (B (4 + slot n q)) := by
  rw [N (4 + slot n q) ⟨by omega, by have := slot_lt hn q; omega⟩]
  unfold nmD
  rw [if_neg (by omega), if_neg (by omega), show 4 + slot n q - 4 = slot n q by omega]
set_option maxRecDepth 8000 in
set_option maxHeartbeats 16000000 in
theorem rpop_w (C : WC X picks R nm lL lW lY lV sP h0 s) (hpf : PF R i pf) {fr bs : Int} {k : GAns → Pr GAns} (w : WX R nm lL lW lY lV h0 W s pf x i o (popD n B (fun v is => k (v, is, 0, 0))) m h) (N : NmsD n B bs nm) (hn : 0 < n) (hn2 : n ≤ 4096) :
    CallW Try.prog main (NoS (Γ := Γ)) 102 #[ptr x, .agg (madeL n fr bs).toArray] h δ (Ret fun v h' δ' => δ' = δ ∧ RDidX R nm lL lW lY lV h0 W s gansL pf x i o k m h v h') := by
  have wt := w.wt
  have hh0 : h0.size ≤ h.size := by have := (wt x (.inl rfl)); omega
  obtain ⟨y4, hy4⟩ : ∃ y4, y4 = h.size := ⟨_, rfl⟩
  obtain ⟨y6, hy6⟩ : ∃ y6, y6 = h.size + 1 := ⟨_, rfl⟩
  refine CallW.start (n := 63) rfl rfl ?_
  have u0 : Upd (fun _ => False) h ((h.push (.cells (madeL n fr bs).toArray 77)).push (gansO (0, false, 0, 0))) := (Upd.push _ _).trans (Upd.push _ _)
  refine EK.seq ?_
  refine EK.region ?_
  refine ER.box rfl rfl rfl ?_
  refine ER.allocA rfl rfl ?_
  (repeat (first | refine EK.seq ?_ | refine EK.region ?_ | refine ER.done ?_ | refine ER.move rfl rfl rfl ?_))
  simp only [Array.size_push]
  refine ER.gen (fun h' => WX R nm lL lW lY lV h0 W s pf x i o (popD n B (fun v is => k (v, is, 0, 0))) m h' ∧ Upd (fun _ => False) h h' ∧ h'[y4]? = some (.cells (madeL n fr bs).toArray 77 (0, 0)) ∧ h'[y6]? = some (gansO (0, false, 0, 0))) ⟨w.upd0 u0, u0, ?_, ?_⟩ ?_
  · rw [hy4]; exact get_push _ (get_push_new _ _)
  · have := get_push_new (h.push (.cells (madeL n fr bs).toArray 77)) (gansO (0, false, 0, 0))
    rw [Array.size_push] at this
    rw [hy6]; exact this
  rw [← hy6, ← hy4]
  clear w u0
  rintro hh ⟨w, u1, g4, g6⟩
  have n4 : ¬ WT s x y4 := fun hc => by have := (wt _ hc).2; omega
  have n6 : ¬ WT s x y6 := fun hc => by have := (wt _ hc).2; omega
  have uu : Upd (WT s x) h hh := u1.mono (fun _ _ z => z.elim)
  clear u1 wt
  unfold popD at w
  refine ER.loadN (vs := madeL n fr bs) rfl rfl rfl rfl (hrow_block (rest := []) (by rw [List.append_nil]; exact g4)) ?_
  refine ER.callR rfl rfl rfl rfl rfl rbottom_ok ?_
  rintro _ hh δ2 ⟨rfl, rfl, u2⟩
  replace w := w.upd0 u2
  replace uu : Upd (WT s x) h hh := uu.trans (u2.mono (fun _ _ z => z.elim))
  replace g4 := u2.get g4 (fun z => z)
  replace g6 := u2.get g6 (fun z => z)
  clear u2
  refine ER.callR rfl rfl rfl rfl rfl (wloadX C hpf w (N.bot hn)) ?_
  clear w
  rintro _ hh δ2 ⟨rfl, u2, b, rfl, w⟩
  replace uu := uu.trans u2
  replace g4 := u2.get g4 n4
  replace g6 := u2.get g6 n6
  clear u2
  refine ER.sub' (r := W64 (b - 1)) rfl rfl rfl rfl rfl ?_
  generalize W64 (b - 1) = b at w ⊢
  (repeat (first | refine EK.seq ?_ | refine EK.region ?_ | refine ER.done ?_ | refine ER.move rfl rfl rfl ?_ | refine ER.assign rfl rfl rfl ?_))
  refine ER.loadN (vs := madeL n fr bs) rfl rfl rfl rfl (hrow_block (rest := []) (by rw [List.append_nil]; exact g4)) ?_
  refine ER.callR rfl rfl rfl rfl rfl rbottom_ok ?_
  rintro _ hh δ2 ⟨rfl, rfl, u2⟩
  replace w := w.upd0 u2
  replace uu : Upd (WT s x) h hh := uu.trans (u2.mono (fun _ _ z => z.elim))
  replace g4 := u2.get g4 (fun z => z)
  replace g6 := u2.get g6 (fun z => z)
  clear u2
  (repeat refine ER.move rfl rfl rfl ?_)
  refine ER.callR rfl rfl rfl rfl rfl (wstoreX C hpf w (N.bot hn)) ?_
  clear w
  rintro _ hh δ2 ⟨rfl, u2, w⟩
  replace uu := uu.trans u2
  replace g4 := u2.get g4 n4
  replace g6 := u2.get g6 n6
  clear u2
  (repeat (first | refine EK.seq ?_ | refine EK.region ?_ | refine ER.done ?_ | refine ER.move rfl rfl rfl ?_))
  refine ER.loadN (vs := madeL n fr bs) rfl rfl rfl rfl (hrow_block (rest := []) (by rw [List.append_nil]; exact g4)) ?_
  refine ER.callR rfl rfl rfl rfl rfl rtop_ok ?_
  rintro _ hh δ2 ⟨rfl, rfl, u2⟩
  replace w := w.upd0 u2
  replace uu : Upd (WT s x) h hh := uu.trans (u2.mono (fun _ _ z => z.elim))
  replace g4 := u2.get g4 (fun z => z)
  replace g6 := u2.get g6 (fun z => z)
  clear u2
  refine ER.callR rfl rfl rfl rfl rfl (wloadX C hpf w (N.top hn)) ?_
  clear w
  rintro _ hh δ2 ⟨rfl, u2, p, rfl, w⟩
  replace uu := uu.trans u2
  replace g4 := u2.get g4 n4
  replace g6 := u2.get g6 n6
  clear u2
  (repeat (first | refine EK.seq ?_ | refine EK.region ?_ | refine ER.done ?_ | refine ER.move rfl rfl rfl ?_ | refine ER.assign rfl rfl rfl ?_))
  refine ER.sub' (r := W64 (b - p)) rfl rfl rfl rfl rfl ?_
  by_cases hc : W64 (b - p) < 0
  · rw [if_pos hc] at w
    (repeat (first | refine EK.seq ?_ | refine EK.region ?_ | refine ER.done ?_ | refine ER.move rfl rfl rfl ?_ | refine ER.cmpT rfl rfl rfl rfl rfl (by first | (dsimp only [cmpP]; omega) | exact rfl | exact Int.le_refl _) ?_ | refine EK.condT rfl ?_))
    refine ER.loadN (vs := madeL n fr bs) rfl rfl rfl rfl (hrow_block (rest := []) (by rw [List.append_nil]; exact g4)) ?_
    refine ER.callR rfl rfl rfl rfl rfl rbottom_ok ?_
    rintro _ hh δ2 ⟨rfl, rfl, u2⟩
    replace w := w.upd0 u2
    replace uu : Upd (WT s x) h hh := uu.trans (u2.mono (fun _ _ z => z.elim))
    replace g4 := u2.get g4 (fun z => z)
    replace g6 := u2.get g6 (fun z => z)
    clear u2
    (repeat refine ER.move rfl rfl rfl ?_)
    refine ER.add (r := W64 (b + 1)) rfl rfl rfl rfl rfl ?_
    refine ER.callR rfl rfl rfl rfl rfl (wstoreX C hpf w (N.bot hn)) ?_
    clear w
    rintro _ hh δ2 ⟨rfl, u2, w⟩
    replace uu := uu.trans u2
    replace g4 := u2.get g4 n4
    replace g6 := u2.get g6 n6
    clear u2
    (repeat (first | refine EK.seq ?_ | refine EK.region ?_ | refine ER.done ?_))
    refine ER.buildS (cells := (gansL (0, false, 0, 0)).toArray) rfl rfl (by rfl) (by rfl) ?_
    refine ER.storeN (vs := gansL (0, false, 0, 0)) rfl rfl rfl rfl (by simp [gansL, OneCell]) (ans_all g6) ?_
    rw [row_set (c := gansL (0, false, 0, 0)) (vs := gansL (0, false, 0, 0)) g6 rfl]
    (repeat (first | refine ER.done ?_ | refine EK.ret ?_))
    exact EU.retCell1 (vs := gansL (0, false, 0, 0)) rfl rfl rfl (hrow_block (rest := []) (by rw [List.append_nil]; exact get_set_same g6)) ⟨rfl, upd_then uu (Upd.set (T := fun c => c = y6) _ _ _ rfl) (fun c hc e => by omega), (0, false, 0, 0), rfl, (w.mono (by omega)).setA g6 (by omega) (by decide) (by decide) (by decide) (by decide) (by decide) _⟩
  · rw [if_neg hc] at w
    (repeat (first | refine EK.seq ?_ | refine EK.region ?_ | refine ER.done ?_ | refine EK.skip ?_ | refine ER.move rfl rfl rfl ?_ | refine ER.cmpF rfl rfl rfl rfl rfl (by first | (dsimp only [cmpP]; omega) | exact rfl | exact Int.le_refl _) ?_ | refine EK.condF rfl ?_))
    refine ER.loadN (vs := madeL n fr bs) rfl rfl rfl rfl (hrow_block (rest := []) (by rw [List.append_nil]; exact g4)) ?_
    (repeat refine ER.move rfl rfl rfl ?_)
    refine ER.callR rfl rfl rfl rfl rfl (rslot_ok hn hn2) ?_
    rintro _ hh δ2 ⟨rfl, rfl, u2⟩
    replace w := w.upd0 u2
    replace uu : Upd (WT s x) h hh := uu.trans (u2.mono (fun _ _ z => z.elim))
    replace g4 := u2.get g4 (fun z => z)
    replace g6 := u2.get g6 (fun z => z)
    clear u2
    refine ER.callR rfl rfl rfl rfl rfl (wloadX C hpf w (N.slo hn b)) ?_
    clear w
    rintro _ hh δ2 ⟨rfl, u2, v, rfl, w⟩
    replace uu := uu.trans u2
    replace g4 := u2.get g4 n4
    replace g6 := u2.get g6 n6
    clear u2
    (repeat (first | refine EK.seq ?_ | refine EK.region ?_ | refine ER.done ?_ | refine ER.move rfl rfl rfl ?_ | refine ER.assign rfl rfl rfl ?_))
    refine ER.sub' (r := W64 (b - p)) rfl rfl rfl rfl rfl ?_
    by_cases hd : 0 < W64 (b - p)
    · rw [if_pos hd] at w
      (repeat (first | refine EK.seq ?_ | refine EK.region ?_ | refine ER.done ?_ | refine ER.move rfl rfl rfl ?_ | refine ER.cmpT rfl rfl rfl rfl rfl (by first | (dsimp only [cmpP]; omega) | exact rfl | exact Int.le_refl _) ?_ | refine EK.condT rfl ?_))
      refine ER.buildS (cells := (gansL (v, true, 0, 0)).toArray) rfl rfl (by rfl) (by rfl) ?_
      refine ER.storeN (vs := gansL (v, true, 0, 0)) rfl rfl rfl rfl (by simp [gansL, OneCell]) (ans_all g6) ?_
      rw [row_set (c := gansL (0, false, 0, 0)) (vs := gansL (v, true, 0, 0)) g6 rfl]
      (repeat (first | refine ER.done ?_ | refine EK.ret ?_))
      exact EU.retCell1 (vs := gansL (v, true, 0, 0)) rfl rfl rfl (hrow_block (rest := []) (by rw [List.append_nil]; exact get_set_same g6)) ⟨rfl, upd_then uu (Upd.set (T := fun c => c = y6) _ _ _ rfl) (fun c hc e => by omega), (v, true, 0, 0), rfl, (w.mono (by omega)).setA g6 (by omega) (by decide) (by decide) (by decide) (by decide) (by decide) _⟩
    · rw [if_neg hd] at w
      (repeat (first | refine EK.seq ?_ | refine EK.region ?_ | refine ER.done ?_ | refine EK.skip ?_ | refine ER.move rfl rfl rfl ?_ | refine ER.cmpF rfl rfl rfl rfl rfl (by first | (dsimp only [cmpP]; omega) | exact rfl | exact Int.le_refl _) ?_ | refine EK.condF rfl ?_))
      refine ER.loadN (vs := madeL n fr bs) rfl rfl rfl rfl (hrow_block (rest := []) (by rw [List.append_nil]; exact g4)) ?_
      refine ER.callR rfl rfl rfl rfl rfl rtop_ok ?_
      rintro _ hh δ2 ⟨rfl, rfl, u2⟩
      replace w := w.upd0 u2
      replace uu : Upd (WT s x) h hh := uu.trans (u2.mono (fun _ _ z => z.elim))
      replace g4 := u2.get g4 (fun z => z)
      replace g6 := u2.get g6 (fun z => z)
      clear u2
      (repeat refine ER.move rfl rfl rfl ?_)
      refine ER.add (r := W64 (p + 1)) rfl rfl rfl rfl rfl ?_
      refine ER.callR rfl rfl rfl rfl rfl (wcasX C hpf w (N.top hn)) ?_
      clear w
      rintro _ hh δ2 ⟨rfl, u2, c, rfl, w⟩
      replace uu := uu.trans u2
      replace g4 := u2.get g4 n4
      replace g6 := u2.get g6 n6
      clear u2
      (repeat (first | refine EK.seq ?_ | refine EK.region ?_ | refine ER.done ?_ | refine ER.move rfl rfl rfl ?_ | refine ER.assign rfl rfl rfl ?_))
      refine ER.loadN (vs := madeL n fr bs) rfl rfl rfl rfl (hrow_block (rest := []) (by rw [List.append_nil]; exact g4)) ?_
      refine ER.callR rfl rfl rfl rfl rfl rbottom_ok ?_
      rintro _ hh δ2 ⟨rfl, rfl, u2⟩
      replace w := w.upd0 u2
      replace uu : Upd (WT s x) h hh := uu.trans (u2.mono (fun _ _ z => z.elim))
      replace g4 := u2.get g4 (fun z => z)
      replace g6 := u2.get g6 (fun z => z)
      clear u2
      (repeat refine ER.move rfl rfl rfl ?_)
      refine ER.add (r := W64 (b + 1)) rfl rfl rfl rfl rfl ?_
      refine ER.callR rfl rfl rfl rfl rfl (wstoreX C hpf w (N.bot hn)) ?_
      clear w
      rintro _ hh δ2 ⟨rfl, u2, w⟩
      replace uu := uu.trans u2
      replace g4 := u2.get g4 n4
      replace g6 := u2.get g6 n6
      clear u2
      by_cases hw : c = p
      · rw [if_pos hw] at w
        rw [decide_eq_true hw]
        (repeat (first | refine EK.seq ?_ | refine EK.region ?_ | refine ER.done ?_ | refine EK.skip ?_ | refine ER.move rfl rfl rfl ?_ | refine ER.notB rfl rfl rfl ?_ | refine EK.condF rfl ?_))
        refine ER.buildS (cells := (gansL (v, true, 0, 0)).toArray) rfl rfl (by rfl) (by rfl) ?_
        refine ER.storeN (vs := gansL (v, true, 0, 0)) rfl rfl rfl rfl (by simp [gansL, OneCell]) (ans_all g6) ?_
        rw [row_set (c := gansL (0, false, 0, 0)) (vs := gansL (v, true, 0, 0)) g6 rfl]
        (repeat (first | refine ER.done ?_ | refine EK.ret ?_))
        exact EU.retCell1 (vs := gansL (v, true, 0, 0)) rfl rfl rfl (hrow_block (rest := []) (by rw [List.append_nil]; exact get_set_same g6)) ⟨rfl, upd_then uu (Upd.set (T := fun c => c = y6) _ _ _ rfl) (fun c hc e => by omega), (v, true, 0, 0), rfl, (w.mono (by omega)).setA g6 (by omega) (by decide) (by decide) (by decide) (by decide) (by decide) _⟩
      · rw [if_neg hw] at w
        rw [decide_eq_false hw]
        (repeat (first | refine EK.seq ?_ | refine EK.region ?_ | refine ER.done ?_ | refine ER.move rfl rfl rfl ?_ | refine ER.notB rfl rfl rfl ?_ | refine EK.condT rfl ?_))
        refine ER.buildS (cells := (gansL (0, false, 0, 0)).toArray) rfl rfl (by rfl) (by rfl) ?_
        refine ER.storeN (vs := gansL (0, false, 0, 0)) rfl rfl rfl rfl (by simp [gansL, OneCell]) (ans_all g6) ?_
        rw [row_set (c := gansL (0, false, 0, 0)) (vs := gansL (0, false, 0, 0)) g6 rfl]
        (repeat (first | refine ER.done ?_ | refine EK.ret ?_))
        exact EU.retCell1 (vs := gansL (0, false, 0, 0)) rfl rfl rfl (hrow_block (rest := []) (by rw [List.append_nil]; exact get_set_same g6)) ⟨rfl, upd_then uu (Upd.set (T := fun c => c = y6) _ _ _ rfl) (fun c hc e => by omega), (0, false, 0, 0), rfl, (w.mono (by omega)).setA g6 (by omega) (by decide) (by decide) (by decide) (by decide) (by decide) _⟩
end
end Go.Proofs.Ytcpcdnkemobneaa
end
section
namespace Go.Proofs.Ytcpcdnkemobneaa
open Go Go.TJ Go.Conc Go.Proofs
section
variable {Γ : Type} {main : Bool} {S : Sit Γ} {δ : Ix Γ} {R : Rec} {nm : Nat → Nme} {lL lW lY lV sP : Value} {h0 h h' : Hp} {W x i t n e m : Nat} {B : Nat → Nat} {s : WS} {picks : List Int} {X : Us} {pf p : Pr GAns} {l : List Ev} {o : List GAns}
set_option maxRecDepth 8000 in
set_option maxHeartbeats 16000000 in
theorem gdoes_w (C : WC X picks R nm lL lW lY lV sP h0 s) (hpf : PF R i pf) {q : GCall} {fr bs : Int} {k : GAns → Pr GAns} (w : WX R nm lL lW lY lV h0 W s pf x i o (callD n B q k) m h) (N : NmsD n B bs nm) (hnp : n = 2 ^ e) (_he1 : 1 ≤ e) (he : e ≤ 12) :
    CallW Try.prog main (NoS (Γ := Γ)) 37 #[ptr x, .agg (madeL n fr bs).toArray, .agg (gcallL q).toArray] h δ (Ret fun v h' δ' => δ' = δ ∧ RDidX R nm lL lW lY lV h0 W s gansL pf x i o k m h v h') := by
  have hn : 0 < n := by rw [hnp]; exact Nat.two_pow_pos e
  have hn2 : n ≤ 4096 := by have := Nat.pow_le_pow_right (n := 2) (by decide) he; omega
  obtain ⟨d, v⟩ := q
  have wt := w.wt
  have hh0 : h0.size ≤ h.size := by have := (wt x (.inl rfl)); omega
  obtain ⟨y4, hy4⟩ : ∃ y4, y4 = h.size := ⟨_, rfl⟩
  obtain ⟨y5, hy5⟩ : ∃ y5, y5 = h.size + 1 := ⟨_, rfl⟩
  obtain ⟨y6, hy6⟩ : ∃ y6, y6 = h.size + 1 + 1 := ⟨_, rfl⟩
  refine CallW.start (n := 94) rfl rfl ?_
  have u0 : Upd (fun _ => False) h (((h.push (.cells (madeL n fr bs).toArray 77)).push (.cells (gcallL (d, v)).toArray 87)).push (gansO (0, false, 0, 0))) := ((Upd.push _ _).trans (Upd.push _ _)).trans (Upd.push _ _)
  refine EK.seq ?_
  refine EK.region ?_
  refine ER.box rfl rfl rfl ?_
  refine ER.box rfl rfl rfl ?_
  refine ER.allocA rfl rfl ?_
  refine ER.done ?_
  simp only [Array.size_push]
  refine EK.gen (fun h' => WX R nm lL lW lY lV h0 W s pf x i o (callD n B (d, v) k) m h' ∧ Upd (fun _ => False) h h' ∧ h'[y4]? = some (.cells (madeL n fr bs).toArray 77 (0, 0)) ∧ h'[y5]? = some (.cells (gcallL (d, v)).toArray 87 (0, 0)) ∧ h'[y6]? = some (gansO (0, false, 0, 0))) ⟨w.upd0 u0, u0, ?_, ?_, ?_⟩ ?_
  · rw [hy4]; exact get_push _ (get_push _ (get_push_new _ _))
  · have := get_push (o := gansO (0, false, 0, 0)) (get_push_new (h.push (.cells (madeL n fr bs).toArray 77)) (.cells (gcallL (d, v)).toArray 87))
    rw [Array.size_push] at this
    rw [hy5]; exact this
  · have := get_push_new ((h.push (.cells (madeL n fr bs).toArray 77)).push (.cells (gcallL (d, v)).toArray 87)) (gansO (0, false, 0, 0))
    rw [Array.size_push, Array.size_push] at this
    rw [hy6]; exact this
  rw [← hy6, ← hy5, ← hy4]
  clear w u0
  rintro hh ⟨w, u1, g4, g5, g6⟩
  have n4 : ¬ WT s x y4 := fun hc => by have := (wt _ hc).2; omega
  have n5 : ¬ WT s x y5 := fun hc => by have := (wt _ hc).2; omega
  have n6 : ¬ WT s x y6 := fun hc => by have := (wt _ hc).2; omega
  have uu : Upd (WT s x) h hh := u1.mono (fun _ _ z => z.elim)
  clear u1 wt
  have c50 : hcell hh ⟨y5, 0, none⟩ = some (.int .i64 d) := hcell_of g5 rfl
  by_cases h0' : d = 0
  · subst h0'
    rw [callD0] at w
    unfold pushD at w
    (repeat (first | refine EK.seq ?_ | refine EK.region ?_ | refine ER.done ?_ | refine EK.block ?_ | refine ER.move rfl rfl rfl ?_ | refine ER.assign rfl rfl rfl ?_ | refine ER.fieldAddr rfl rfl rfl ?_ | refine ER.load1 rfl rfl rfl (hcell_of (by assumption) rfl) ?_ | refine ER.cmpT rfl rfl rfl rfl rfl (by first | (dsimp only [cmpP]; omega) | exact rfl | exact Int.le_refl _) ?_ | refine EK.condT rfl ?_))
    clear c50
    refine ER.loadN (vs := madeL n fr bs) rfl rfl rfl rfl (hrow_block (rest := []) (by rw [List.append_nil]; exact g4)) ?_
    refine ER.callR rfl rfl rfl rfl rfl rbottom_ok ?_
    rintro _ hh δ2 ⟨rfl, rfl, u2⟩
    replace w := w.upd0 u2
    replace uu : Upd (WT s x) h hh := uu.trans (u2.mono (fun _ _ z => z.elim))
    replace g4 := u2.get g4 (fun z => z)
    replace g5 := u2.get g5 (fun z => z)
    replace g6 := u2.get g6 (fun z => z)
    clear u2
    refine ER.callR rfl rfl rfl rfl rfl (wloadX C hpf w (N.bot hn)) ?_
    clear w
    rintro _ hh δ2 ⟨rfl, u2, b, rfl, w⟩
    replace uu := uu.trans u2
    replace g4 := u2.get g4 n4
    replace g5 := u2.get g5 n5
    replace g6 := u2.get g6 n6
    clear u2
    (repeat (first | refine EK.seq ?_ | refine EK.region ?_ | refine ER.done ?_ | refine ER.move rfl rfl rfl ?_ | refine ER.assign rfl rfl rfl ?_))
    refine ER.loadN (vs := madeL n fr bs) rfl rfl rfl rfl (hrow_block (rest := []) (by rw [List.append_nil]; exact g4)) ?_
    refine ER.callR rfl rfl rfl rfl rfl rtop_ok ?_
    rintro _ hh δ2 ⟨rfl, rfl, u2⟩
    replace w := w.upd0 u2
    replace uu : Upd (WT s x) h hh := uu.trans (u2.mono (fun _ _ z => z.elim))
    replace g4 := u2.get g4 (fun z => z)
    replace g5 := u2.get g5 (fun z => z)
    replace g6 := u2.get g6 (fun z => z)
    clear u2
    refine ER.callR rfl rfl rfl rfl rfl (wloadX C hpf w (N.top hn)) ?_
    clear w
    rintro _ hh δ2 ⟨rfl, u2, p, rfl, w⟩
    replace uu := uu.trans u2
    replace g4 := u2.get g4 n4
    replace g5 := u2.get g5 n5
    replace g6 := u2.get g6 n6
    clear u2
    have c40 : hcell hh ⟨y4, 0, none⟩ = some (.int .i64 n) := hcell_of g4 rfl
    (repeat (first | refine EK.seq ?_ | refine EK.region ?_ | refine ER.done ?_ | refine ER.move rfl rfl rfl ?_ | refine ER.assign rfl rfl rfl ?_))
    refine ER.sub' (r := W64 (b - p)) rfl rfl rfl rfl rfl ?_
    by_cases hc : (n : Int) ≤ W64 (b - p)
    · rw [if_pos hc] at w
      (repeat (first | refine EK.seq ?_ | refine EK.region ?_ | refine ER.done ?_ | refine ER.fieldAddr rfl rfl rfl ?_ | refine ER.load1 rfl rfl rfl (hcell_of (by assumption) rfl) ?_ | refine ER.cmpT rfl rfl rfl rfl rfl (by first | (dsimp only [cmpP]; omega) | exact rfl | exact Int.le_refl _) ?_ | refine EK.condT rfl ?_))
      refine ER.buildS (cells := (gansL (0, false, 0, 12)).toArray) rfl rfl (by rfl) (by rfl) ?_
      refine ER.storeN (vs := gansL (0, false, 0, 12)) rfl rfl rfl rfl (by simp [gansL, OneCell]) (ans_all g6) ?_
      rw [row_set (c := gansL (0, false, 0, 0)) (vs := gansL (0, false, 0, 12)) g6 rfl]
      (repeat (first | refine ER.done ?_ | refine EK.ret ?_))
      exact EU.retCell1 (vs := gansL (0, false, 0, 12)) rfl rfl rfl (hrow_block (rest := []) (by rw [List.append_nil]; exact get_set_same g6)) ⟨rfl, upd_then uu (Upd.set (T := fun c => c = y6) _ _ _ rfl) (fun c hc e => by omega), (0, false, 0, 12), rfl, (w.mono (by omega)).setA g6 (by omega) (by decide) (by decide) (by decide) (by decide) (by decide) _⟩
    · rw [if_neg hc] at w
      (repeat (first | refine EK.seq ?_ | refine ER.done ?_ | refine EK.skip ?_ | refine ER.fieldAddr rfl rfl rfl ?_ | refine ER.load1 rfl rfl rfl (hcell_of (by assumption) rfl) ?_ | refine ER.cmpF rfl rfl rfl rfl rfl (by first | (dsimp only [cmpP]; omega) | exact rfl | exact Int.le_refl _) ?_ | refine EK.condF rfl ?_))
      clear c40
      refine EK.regionAny (fun h' => h'[y4]? = some (.cells (madeL n fr bs).toArray 77 (0, 0)) ∧ h'[y5]? = some (.cells (gcallL (0, v)).toArray 87 (0, 0))) ?_
      have hZ := And.intro g4 g5
      refine EA.tMove 0 rfl (by kernel_rfl) rfl rfl rfl rfl hZ ?_
      refine EA.tLoadN (vs := madeL n fr bs) 1 rfl (by kernel_rfl) rfl rfl rfl rfl rfl (fun _ hz => hrow_block (rest := []) (by rw [List.append_nil]; exact hz.1)) hZ ?_
      refine EA.tMove 2 rfl (by kernel_rfl) rfl rfl rfl rfl hZ ?_
      refine EA.tField 4 rfl (by kernel_rfl) rfl rfl rfl rfl hZ ?_
      refine EA.tLoad 5 rfl (by kernel_rfl) rfl rfl rfl rfl (fun _ hz => (hcell_of hz.2 rfl)) hZ ?_
      refine EA.callR 3 rfl (by kernel_rfl) rfl rfl rfl rfl rfl rfl (rslot_ok hn hn2) ?_
      rintro _ hh δ2 ⟨rfl, rfl, u2⟩
      replace w := w.upd0 u2
      replace uu : Upd (WT s x) h hh := uu.trans (u2.mono (fun _ _ z => z.elim))
      replace g4 := u2.get g4 (fun z => z)
      replace g5 := u2.get g5 (fun z => z)
      replace g6 := u2.get g6 (fun z => z)
      refine ⟨⟨g4, g5⟩, ?_⟩
      clear u2 hZ
      refine EA.callR 6 rfl (by kernel_rfl) rfl rfl rfl rfl rfl rfl (wstoreX C hpf w (N.slo hn b)) ?_
      clear w
      rintro _ hh δ2 ⟨rfl, u2, w⟩
      replace uu := uu.trans u2
      replace g4 := u2.get g4 n4
      replace g5 := u2.get g5 n5
      replace g6 := u2.get g6 n6
      refine ⟨⟨g4, g5⟩, EA.done (by kernel_rfl) ?_⟩
      clear u2
      (repeat (first | refine EK.region ?_ | refine ER.move rfl rfl rfl ?_))
      refine ER.loadN (vs := madeL n fr bs) rfl rfl rfl rfl (hrow_block (rest := []) (by rw [List.append_nil]; exact g4)) ?_
      refine ER.callR rfl rfl rfl rfl rfl rbottom_ok ?_
      rintro _ hh δ2 ⟨rfl, rfl, u2⟩
      replace w := w.upd0 u2
      replace uu : Upd (WT s x) h hh := uu.trans (u2.mono (fun _ _ z => z.elim))
      replace g4 := u2.get g4 (fun z => z)
      replace g5 := u2.get g5 (fun z => z)
      replace g6 := u2.get g6 (fun z => z)
      clear u2
      (repeat refine ER.move rfl rfl rfl ?_)
      refine ER.add (r := W64 (b + 1)) rfl rfl rfl rfl rfl ?_
      refine ER.callR rfl rfl rfl rfl rfl (wstoreX C hpf w (N.bot hn)) ?_
      clear w
      rintro _ hh δ2 ⟨rfl, u2, w⟩
      replace uu := uu.trans u2
      replace g4 := u2.get g4 n4
      replace g5 := u2.get g5 n5
      replace g6 := u2.get g6 n6
      clear u2
      (repeat (first | refine EK.seq ?_ | refine EK.region ?_ | refine ER.done ?_ | refine EK.inBlock ?_))
      refine ER.buildS (cells := (gansL (0, false, 0, 0)).toArray) rfl rfl (by rfl) (by rfl) ?_
      refine ER.storeN (vs := gansL (0, false, 0, 0)) rfl rfl rfl rfl (by simp [gansL, OneCell]) (ans_all g6) ?_
      rw [row_set (c := gansL (0, false, 0, 0)) (vs := gansL (0, false, 0, 0)) g6 rfl]
      (repeat (first | refine ER.done ?_ | refine EK.ret ?_))
      exact EU.retCell1 (vs := gansL (0, false, 0, 0)) rfl rfl rfl (hrow_block (rest := []) (by rw [List.append_nil]; exact get_set_same g6)) ⟨rfl, upd_then uu (Upd.set (T := fun c => c = y6) _ _ _ rfl) (fun c hc e => by omega), (0, false, 0, 0), rfl, (w.mono (by omega)).setA g6 (by omega) (by decide) (by decide) (by decide) (by decide) (by decide) _⟩
  by_cases h1' : d = 1
  · subst h1'
    rw [callD1] at w
    (repeat (first | refine EK.seq ?_ | refine EK.region ?_ | refine ER.done ?_ | refine EK.block ?_ | refine ER.move rfl rfl rfl ?_ | refine ER.assign rfl rfl rfl ?_ | refine ER.fieldAddr rfl rfl rfl ?_ | refine ER.load1 rfl rfl rfl (hcell_of (by assumption) rfl) ?_ | refine ER.cmpT rfl rfl rfl rfl rfl (by first | (dsimp only [cmpP]; omega) | exact rfl | exact Int.le_refl _) ?_ | refine ER.cmpF rfl rfl rfl rfl rfl (by first | (dsimp only [cmpP]; omega) | exact rfl | exact Int.le_refl _) ?_ | refine EK.condT rfl ?_ | refine EK.condF rfl ?_))
    refine ER.loadN (vs := madeL n fr bs) rfl rfl rfl rfl (hrow_block (rest := []) (by rw [List.append_nil]; exact g4)) ?_
    refine ER.callR rfl rfl rfl rfl rfl (rpop_w C hpf w N hn hn2) ?_
    clear w
    rintro _ hh δ2 ⟨rfl, u2, AV, rfl, w⟩
    replace uu := uu.trans u2
    replace g6 := u2.get g6 n6
    clear u2 g4 g5 c50
    refine ER.storeN (vs := gansL AV) rfl rfl rfl rfl (by simp [gansL, OneCell]) (ans_all g6) ?_
    rw [row_set (c := gansL (0, false, 0, 0)) (vs := gansL AV) g6 rfl]
    (repeat (first | refine ER.done ?_ | refine EK.ret ?_))
    exact EU.retCell1 (vs := gansL AV) rfl rfl rfl (hrow_block (rest := []) (by rw [List.append_nil]; exact get_set_same g6)) ⟨rfl, upd_then uu (Upd.set (T := fun c => c = y6) _ _ _ rfl) (fun c hc e => by omega), AV, rfl, (w.mono (by omega)).setA g6 (by omega) (by decide) (by decide) (by decide) (by decide) (by decide) _⟩
  by_cases h2' : d = 2
  · subst h2'
    rw [callD2] at w
    unfold stealD at w
    (repeat (first | refine EK.seq ?_ | refine EK.region ?_ | refine ER.done ?_ | refine EK.block ?_ | refine ER.move rfl rfl rfl ?_ | refine ER.assign rfl rfl rfl ?_ | refine ER.fieldAddr rfl rfl rfl ?_ | refine ER.load1 rfl rfl rfl (hcell_of (by assumption) rfl) ?_ | refine ER.cmpT rfl rfl rfl rfl rfl (by first | (dsimp only [cmpP]; omega) | exact rfl | exact Int.le_refl _) ?_ | refine ER.cmpF rfl rfl rfl rfl rfl (by first | (dsimp only [cmpP]; omega) | exact rfl | exact Int.le_refl _) ?_ | refine EK.condT rfl ?_ | refine EK.condF rfl ?_))
    clear c50
    refine ER.loadN (vs := madeL n fr bs) rfl rfl rfl rfl (hrow_block (rest := []) (by rw [List.append_nil]; exact g4)) ?_
    refine ER.callR rfl rfl rfl rfl rfl rtop_ok ?_
    rintro _ hh δ2 ⟨rfl, rfl, u2⟩
    replace w := w.upd0 u2
    replace uu : Upd (WT s x) h hh := uu.trans (u2.mono (fun _ _ z => z.elim))
    replace g4 := u2.get g4 (fun z => z)
    replace g5 := u2.get g5 (fun z => z)
    replace g6 := u2.get g6 (fun z => z)
    clear u2
    refine ER.callR rfl rfl rfl rfl rfl (wloadX C hpf w (N.top hn)) ?_
    clear w
    rintro _ hh δ2 ⟨rfl, u2, p, rfl, w⟩
    replace uu := uu.trans u2
    replace g4 := u2.get g4 n4
    replace g5 := u2.get g5 n5
    replace g6 := u2.get g6 n6
    clear u2
    (repeat (first | refine EK.seq ?_ | refine EK.region ?_ | refine ER.done ?_ | refine ER.move rfl rfl rfl ?_ | refine ER.assign rfl rfl rfl ?_))
    refine ER.loadN (vs := madeL n fr bs) rfl rfl rfl rfl (hrow_block (rest := []) (by rw [List.append_nil]; exact g4)) ?_
    refine ER.callR rfl rfl rfl rfl rfl rbottom_ok ?_
    rintro _ hh δ2 ⟨rfl, rfl, u2⟩
    replace w := w.upd0 u2
    replace uu : Upd (WT s x) h hh := uu.trans (u2.mono (fun _ _ z => z.elim))
    replace g4 := u2.get g4 (fun z => z)
    replace g5 := u2.get g5 (fun z => z)
    replace g6 := u2.get g6 (fun z => z)
    clear u2
    refine ER.callR rfl rfl rfl rfl rfl (wloadX C hpf w (N.bot hn)) ?_
    clear w
    rintro _ hh δ2 ⟨rfl, u2, b, rfl, w⟩
    replace uu := uu.trans u2
    replace g4 := u2.get g4 n4
    replace g5 := u2.get g5 n5
    replace g6 := u2.get g6 n6
    clear u2
    (repeat (first | refine EK.seq ?_ | refine EK.region ?_ | refine ER.done ?_ | refine ER.move rfl rfl rfl ?_ | refine ER.assign rfl rfl rfl ?_))
    refine ER.sub' (r := W64 (b - p)) rfl rfl rfl rfl rfl ?_
    by_cases hc : W64 (b - p) ≤ 0
    · rw [if_pos hc] at w
      (repeat (first | refine EK.seq ?_ | refine EK.region ?_ | refine ER.done ?_ | refine ER.cmpT rfl rfl rfl rfl rfl (by first | (dsimp only [cmpP]; omega) | exact rfl | exact Int.le_refl _) ?_ | refine EK.condT rfl ?_))
      refine ER.buildS (cells := (gansL (0, false, 0, 0)).toArray) rfl rfl (by rfl) (by rfl) ?_
      refine ER.storeN (vs := gansL (0, false, 0, 0)) rfl rfl rfl rfl (by simp [gansL, OneCell]) (ans_all g6) ?_
      rw [row_set (c := gansL (0, false, 0, 0)) (vs := gansL (0, false, 0, 0)) g6 rfl]
      (repeat (first | refine ER.done ?_ | refine EK.ret ?_))
      exact EU.retCell1 (vs := gansL (0, false, 0, 0)) rfl rfl rfl (hrow_block (rest := []) (by rw [List.append_nil]; exact get_set_same g6)) ⟨rfl, upd_then uu (Upd.set (T := fun c => c = y6) _ _ _ rfl) (fun c hc e => by omega), (0, false, 0, 0), rfl, (w.mono (by omega)).setA g6 (by omega) (by decide) (by decide) (by decide) (by decide) (by decide) _⟩
    · rw [if_neg hc] at w
      (repeat (first | refine EK.seq ?_ | refine EK.region ?_ | refine ER.done ?_ | refine EK.skip ?_ | refine ER.move rfl rfl rfl ?_ | refine ER.cmpF rfl rfl rfl rfl rfl (by first | (dsimp only [cmpP]; omega) | exact rfl | exact Int.le_refl _) ?_ | refine EK.condF rfl ?_))
      refine ER.loadN (vs := madeL n fr bs) rfl rfl rfl rfl (hrow_block (rest := []) (by rw [List.append_nil]; exact g4)) ?_
      (repeat refine ER.move rfl rfl rfl ?_)
      refine ER.callR rfl rfl rfl rfl rfl (rslot_ok hn hn2) ?_
      rintro _ hh δ2 ⟨rfl, rfl, u2⟩
      replace w := w.upd0 u2
      replace uu : Upd (WT s x) h hh := uu.trans (u2.mono (fun _ _ z => z.elim))
      replace g4 := u2.get g4 (fun z => z)
      replace g5 := u2.get g5 (fun z => z)
      replace g6 := u2.get g6 (fun z => z)
      clear u2
      refine ER.callR rfl rfl rfl rfl rfl (wloadX C hpf w (N.slo hn p)) ?_
      clear w
      rintro _ hh δ2 ⟨rfl, u2, v, rfl, w⟩
      replace uu := uu.trans u2
      replace g4 := u2.get g4 n4
      replace g5 := u2.get g5 n5
      replace g6 := u2.get g6 n6
      clear u2
      (repeat (first | refine EK.seq ?_ | refine EK.region ?_ | refine ER.done ?_ | refine ER.move rfl rfl rfl ?_ | refine ER.assign rfl rfl rfl ?_))
      refine ER.loadN (vs := madeL n fr bs) rfl rfl rfl rfl (hrow_block (rest := []) (by rw [List.append_nil]; exact g4)) ?_
      refine ER.callR rfl rfl rfl rfl rfl rtop_ok ?_
      rintro _ hh δ2 ⟨rfl, rfl, u2⟩
      replace w := w.upd0 u2
      replace uu : Upd (WT s x) h hh := uu.trans (u2.mono (fun _ _ z => z.elim))
      replace g4 := u2.get g4 (fun z => z)
      replace g5 := u2.get g5 (fun z => z)
      replace g6 := u2.get g6 (fun z => z)
      clear u2
      (repeat refine ER.move rfl rfl rfl ?_)
      refine ER.add (r := W64 (p + 1)) rfl rfl rfl rfl rfl ?_
      refine ER.callR rfl rfl rfl rfl rfl (wcasX C hpf w (N.top hn)) ?_
      clear w
      rintro _ hh δ2 ⟨rfl, u2, c, rfl, w⟩
      replace uu := uu.trans u2
      replace g4 := u2.get g4 n4
      replace g5 := u2.get g5 n5
      replace g6 := u2.get g6 n6
      clear u2
      by_cases hw : c = p
      · rw [if_pos hw] at w
        rw [decide_eq_true hw]
        (repeat (first | refine EK.seq ?_ | refine EK.region ?_ | refine ER.done ?_ | refine ER.move rfl rfl rfl ?_ | refine EK.condT rfl ?_))
        refine ER.buildS (cells := (gansL (v, false, 1, 0)).toArray) rfl rfl (by rfl) (by rfl) ?_
        refine ER.storeN (vs := gansL (v, false, 1, 0)) rfl rfl rfl rfl (by simp [gansL, OneCell]) (ans_all g6) ?_
        rw [row_set (c := gansL (0, false, 0, 0)) (vs := gansL (v, false, 1, 0)) g6 rfl]
        (repeat (first | refine ER.done ?_ | refine EK.ret ?_))
        exact EU.retCell1 (vs := gansL (v, false, 1, 0)) rfl rfl rfl (hrow_block (rest := []) (by rw [List.append_nil]; exact get_set_same g6)) ⟨rfl, upd_then uu (Upd.set (T := fun c => c = y6) _ _ _ rfl) (fun c hc e => by omega), (v, false, 1, 0), rfl, (w.mono (by omega)).setA g6 (by omega) (by decide) (by decide) (by decide) (by decide) (by decide) _⟩
      · rw [if_neg hw] at w
        rw [decide_eq_false hw]
        (repeat (first | refine EK.seq ?_ | refine EK.region ?_ | refine ER.done ?_ | refine EK.skip ?_ | refine EK.condF rfl ?_))
        refine ER.buildS (cells := (gansL (0, false, 2, 0)).toArray) rfl rfl (by rfl) (by rfl) ?_
        refine ER.storeN (vs := gansL (0, false, 2, 0)) rfl rfl rfl rfl (by simp [gansL, OneCell]) (ans_all g6) ?_
        rw [row_set (c := gansL (0, false, 0, 0)) (vs := gansL (0, false, 2, 0)) g6 rfl]
        (repeat (first | refine ER.done ?_ | refine EK.ret ?_))
        exact EU.retCell1 (vs := gansL (0, false, 2, 0)) rfl rfl rfl (hrow_block (rest := []) (by rw [List.append_nil]; exact get_set_same g6)) ⟨rfl, upd_then uu (Upd.set (T := fun c => c = y6) _ _ _ rfl) (fun c hc e => by omega), (0, false, 2, 0), rfl, (w.mono (by omega)).setA g6 (by omega) (by decide) (by decide) (by decide) (by decide) (by decide) _⟩
  by_cases h3' : d = 3
  · subst h3'
    rw [callD3] at w
    unfold lenD at w
    (repeat (first | refine EK.seq ?_ | refine EK.region ?_ | refine ER.done ?_ | refine EK.block ?_ | refine ER.move rfl rfl rfl ?_ | refine ER.assign rfl rfl rfl ?_ | refine ER.fieldAddr rfl rfl rfl ?_ | refine ER.load1 rfl rfl rfl (hcell_of (by assumption) rfl) ?_ | refine ER.cmpT rfl rfl rfl rfl rfl (by first | (dsimp only [cmpP]; omega) | exact rfl | exact Int.le_refl _) ?_ | refine ER.cmpF rfl rfl rfl rfl rfl (by first | (dsimp only [cmpP]; omega) | exact rfl | exact Int.le_refl _) ?_ | refine EK.condT rfl ?_ | refine EK.condF rfl ?_))
    clear c50
    refine ER.loadN (vs := madeL n fr bs) rfl rfl rfl rfl (hrow_block (rest := []) (by rw [List.append_nil]; exact g4)) ?_
    refine ER.callR rfl rfl rfl rfl rfl rtop_ok ?_
    rintro _ hh δ2 ⟨rfl, rfl, u2⟩
    replace w := w.upd0 u2
    replace uu : Upd (WT s x) h hh := uu.trans (u2.mono (fun _ _ z => z.elim))
    replace g4 := u2.get g4 (fun z => z)
    replace g5 := u2.get g5 (fun z => z)
    replace g6 := u2.get g6 (fun z => z)
    clear u2
    refine ER.callR rfl rfl rfl rfl rfl (wloadX C hpf w (N.top hn)) ?_
    clear w
    rintro _ hh δ2 ⟨rfl, u2, p, rfl, w⟩
    replace uu := uu.trans u2
    replace g4 := u2.get g4 n4
    replace g5 := u2.get g5 n5
    replace g6 := u2.get g6 n6
    clear u2
    (repeat (first | refine EK.seq ?_ | refine EK.region ?_ | refine ER.done ?_ | refine ER.move rfl rfl rfl ?_ | refine ER.assign rfl rfl rfl ?_))
    refine ER.loadN (vs := madeL n fr bs) rfl rfl rfl rfl (hrow_block (rest := []) (by rw [List.append_nil]; exact g4)) ?_
    refine ER.callR rfl rfl rfl rfl rfl rbottom_ok ?_
    rintro _ hh δ2 ⟨rfl, rfl, u2⟩
    replace w := w.upd0 u2
    replace uu : Upd (WT s x) h hh := uu.trans (u2.mono (fun _ _ z => z.elim))
    replace g4 := u2.get g4 (fun z => z)
    replace g5 := u2.get g5 (fun z => z)
    replace g6 := u2.get g6 (fun z => z)
    clear u2
    refine ER.callR rfl rfl rfl rfl rfl (wloadX C hpf w (N.bot hn)) ?_
    clear w
    rintro _ hh δ2 ⟨rfl, u2, b, rfl, w⟩
    replace uu := uu.trans u2
    replace g4 := u2.get g4 n4
    replace g5 := u2.get g5 n5
    replace g6 := u2.get g6 n6
    clear u2
    (repeat refine ER.move rfl rfl rfl ?_)
    refine ER.sub' (r := W64 (b - p)) rfl rfl rfl rfl rfl ?_
    skip
    refine ER.buildS (cells := (gansL (W64 (b - p), false, 0, 0)).toArray) rfl rfl (by rfl) (by rfl) ?_
    refine ER.storeN (vs := gansL (W64 (b - p), false, 0, 0)) rfl rfl rfl rfl (by simp [gansL, OneCell]) (ans_all g6) ?_
    rw [row_set (c := gansL (0, false, 0, 0)) (vs := gansL (W64 (b - p), false, 0, 0)) g6 rfl]
    (repeat (first | refine ER.done ?_ | refine EK.ret ?_))
    exact EU.retCell1 (vs := gansL (W64 (b - p), false, 0, 0)) rfl rfl rfl (hrow_block (rest := []) (by rw [List.append_nil]; exact get_set_same g6)) ⟨rfl, upd_then uu (Upd.set (T := fun c => c = y6) _ _ _ rfl) (fun c hc e => by omega), (W64 (b - p), false, 0, 0), rfl, (w.mono (by omega)).setA g6 (by omega) (by decide) (by decide) (by decide) (by decide) (by decide) _⟩
  · rw [callD4 h0' h1' h2' h3'] at w
    (repeat (first | refine EK.seq ?_ | refine EK.region ?_ | refine ER.done ?_ | refine EK.skip ?_ | refine EK.block ?_ | refine EK.inBlock ?_ | refine ER.assign rfl rfl rfl ?_ | refine ER.fieldAddr rfl rfl rfl ?_ | refine ER.load1 rfl rfl rfl (hcell_of (by assumption) rfl) ?_ | refine ER.cmpF rfl rfl rfl rfl rfl (by first | (dsimp only [cmpP]; omega) | exact rfl | exact Int.le_refl _) ?_ | refine EK.condF rfl ?_))
    refine ER.buildS (cells := (gansL (0, false, 0, 0)).toArray) rfl rfl (by rfl) (by rfl) ?_
    refine ER.storeN (vs := gansL (0, false, 0, 0)) rfl rfl rfl rfl (by simp [gansL, OneCell]) (ans_all g6) ?_
    rw [row_set (c := gansL (0, false, 0, 0)) (vs := gansL (0, false, 0, 0)) g6 rfl]
    (repeat (first | refine ER.done ?_ | refine EK.ret ?_))
    exact EU.retCell1 (vs := gansL (0, false, 0, 0)) rfl rfl rfl (hrow_block (rest := []) (by rw [List.append_nil]; exact get_set_same g6)) ⟨rfl, upd_then uu (Upd.set (T := fun c => c = y6) _ _ _ rfl) (fun c hc e => by omega), (0, false, 0, 0), rfl, (w.mono (by omega)).setA g6 (by omega) (by decide) (by decide) (by decide) (by decide) (by decide) _⟩
end
end Go.Proofs.Ytcpcdnkemobneaa
end
section
namespace Go.Proofs.Ytcpcdnkemobneaa
open Go Go.TJ Go.Conc Go.Proofs
def Rec.aliveP (R : Rec) (k j : Nat) : Bool := R.left.any (fun q => q.1 == j) || (R.log.drop k).any (fun e => e.thr == j)
def Rec.aliveTo (R : Rec) (k i : Nat) : List Nat := (List.range i).filter (R.aliveP k)
theorem aliveTo_yes {R : Rec} {k i : Nat} (_h : i < R.nb) (hm : i ∈ R.alive k) : R.aliveTo k (i + 1) = R.aliveTo k i ++ [i] := by
  have : R.aliveP k i = true := (List.mem_filter.1 (show i ∈ (List.range R.nb).filter (R.aliveP k) from hm)).2
  unfold Rec.aliveTo
  rw [List.range_succ, List.filter_append]
  simp [this]
theorem aliveTo_no {R : Rec} {k i : Nat} (h : i < R.nb) (hm : ¬ i ∈ R.alive k) : R.aliveTo k (i + 1) = R.aliveTo k i := by
  have : R.aliveP k i = false := by
    cases e : R.aliveP k i
    · rfl
    · exact absurd (List.mem_filter.2 ⟨List.mem_range.2 h, e⟩ : i ∈ (List.range R.nb).filter (R.aliveP k)) hm
  unfold Rec.aliveTo
  rw [List.range_succ, List.filter_append]
  simp [this]
theorem aliveTo_len {R : Rec} {k i : Nat} : (R.aliveTo k i).length ≤ i := by
  have := List.length_filter_le (R.aliveP k) (List.range i)
  simpa [Rec.aliveTo] using this
section
variable {Γ : Type} {main : Bool} {S : Sit Γ} {δ : Ix Γ} {h h' h0 : Hp} {R : Rec} {picks : List Int} {lL lW lY lV sP tv cv : Value} {last : Int} {C n k j : Nat} {e : Int} {X : Us} {thr : List Nat} {cl : List Int}
set_option maxHeartbeats 8000000 in
set_option maxRecDepth 8000 in
theorem able_ok (ok : RecOk X picks R) (m : RecM R picks lL lW lY lV sP h0) (I : ChkI R lL lW lY lV sP h0 C tv cv last thr cl h) (hl : thr.length = R.nb) (hcl : cl.length = (nums R.log).length) (ti : TI R k thr) (hk : k ≤ R.log.length) :
    CallW Try.prog main (NoS (Γ := Γ)) 149 #[ptr C, .int .i64 k] h δ (Ret fun v h' δ' => δ' = δ ∧ ∃ (thr' : List Nat) (lv : Value), v = .tuple #[lv, .int .i64 (R.alive k).length] ∧ SliceO h' lv 3 1 (R.alive k).length ((R.alive k).map fun (n : Nat) => Value.int .i64 (n : Int)) ∧
      thr'.length = R.nb ∧ TI R k thr' ∧ ChkI R lL lW lY lV sP h0 C tv cv last thr' cl h' ∧ Upd (fun b => blk tv = some b) h h') := by
  have hlen := ok.len
  have hmost := ok.most
  have hnb := ok.nb
  have htl : ∀ b, blk tv = some b → b < h.size := fun b hb => I.thr.lt hb
  obtain ⟨aT, kT, eT⟩ := I.thr.val
  rw [hl] at eT
  subst eT
  have h00 := I.up.size
  refine CallW.start (n := 60) rfl rfl ?_
  (repeat (first | refine EK.seq ?_ | refine EK.region ?_ | refine ER.done ?_ | refine EK.block ?_ | refine ER.assign rfl rfl rfl ?_))
  refine EK.loopInv (fun q : Nat × Value × List Nat => [(8, .int .i64 q.1), (7, .int .i64 (R.aliveTo k q.1).length), (6, q.2.1), (0, ptr C), (1, .int .i64 k)]) (fun q h' δ' => q.1 ≤ R.nb ∧ δ' = δ ∧ q.2.2.length = R.nb ∧ TI R k q.2.2 ∧ ChkI R lL lW lY lV sP h0 C (.slice aT R.nb kT) cv last q.2.2 cl h' ∧ SliceO h' q.2.1 3 1 (R.aliveTo k q.1).length ((R.aliveTo k q.1).map fun (n : Nat) => Value.int .i64 (n : Int)) ∧ (∀ b, blk q.2.1 = some b → h.size ≤ b) ∧ Upd (fun b => blk (.slice aT R.nb kT) = some b) h h') (fun q => R.nb - q.1) (0, nilS, thr) ⟨rfl, rfl, rfl, rfl, rfl, trivial⟩ ⟨Nat.zero_le _, rfl, hl, ti, I, SliceO.nil, fun b hb => (by cases hb), Upd.refl _ _⟩ ?_
  clear hl ti I thr
  rintro ⟨i, lv, thr⟩ h1 δ1 ⟨hi, hδ, hl, ti, I, sl, hb, up⟩ again
  dsimp only at hi hl ti I sl hb up again hδ ⊢
  subst hδ
  have c9 : hcell h1 ⟨C, 9, none⟩ = some (.slice aT R.nb kT) := hcell_of I.row rfl
  have hal := aliveTo_len (R := R) (k := k) (i := i)
  by_cases hin : i < R.nb
  · (repeat (first | refine EK.seq ?_ | refine EK.region ?_ | refine ER.done ?_ | refine EK.skip ?_ | refine EK.block ?_ | refine ER.move rfl rfl rfl ?_ | refine ER.nilCheck rfl rfl rfl ?_ | refine ER.fieldAddr rfl rfl rfl ?_ | refine ER.cmpT rfl rfl rfl rfl rfl (by first | (dsimp only [cmpP]; omega) | exact rfl | exact Int.le_refl _) ?_ | refine ER.len1 rfl rfl rfl ?_ | refine EK.condT rfl ?_ | refine ER.load1 rfl rfl rfl (by assumption) ?_))
    refine ER.callR rfl rfl rfl rfl rfl (next_ok ok m I hl ti hin hk) ?_
    clear ti I hl c9
    rintro _ h2 δ2 ⟨rfl, thr, t, o, c, a, nw, w, x, f, b, rfl, hbi, hbp, hl, ti, I, u2⟩
    have sl2 := sl.upd u2 (fun b' hb' e => by have := htl b' e; have := hb b' hb'; omega)
    have up2 := up.trans u2
    clear sl up u2
    have es := up2.size
    obtain ⟨y, hy⟩ : ∃ y, y = h2.size := ⟨_, rfl⟩
    (repeat (first | refine ER.move rfl rfl rfl ?_ | refine ER.extract rfl rfl rfl rfl ?_ | refine ER.allocA rfl rfl ?_))
    refine ER.storeN (vs := accL t o c a nw w x f) rfl rfl rfl rfl (by simp [accL, OneCell]) (by rw [← hy]; exact acc_all (vs := [.int .i64 0, .int .i8 0, .int .i64 0, .int .i64 0, .int .i64 0, .int .i64 0, .int .i64 0, .bool false]) rfl (by rw [hy]; exact get_push_new _ _)) ?_
    rw [hsetRow_push (c := [.int .i64 0, .int .i8 0, .int .i64 0, .int .i64 0, .int .i64 0, .int .i64 0, .int .i64 0, .bool false]) (vs := accL t o c a nw w x f) rfl]
    refine ER.gen (fun h' => ChkI R lL lW lY lV sP h0 C (.slice aT R.nb kT) cv last thr cl h' ∧ SliceO h' lv 3 1 (R.aliveTo k i).length ((R.aliveTo k i).map fun (n : Nat) => Value.int .i64 (n : Int)) ∧ Upd (fun b => blk (.slice aT R.nb kT) = some b) h h' ∧ h'[y]? = some (accO (accL t o c a nw w x f))) ⟨I.upd0 (Upd.push _ _), sl2.upd (Upd.push (T := fun _ => False) _ _) (fun _ _ x => x), up2.trans (Upd.push _ _), by rw [hy]; exact get_push_new _ _⟩ ?_
    rw [← hy]
    clear I sl2 up2 hy
    rintro h3 ⟨I, sl, up, ly⟩
    have y1 : hcell h3 ⟨y, 1, none⟩ = some (.int .i8 o) := hcell_of ly rfl
    have y2 : hcell h3 ⟨y, 2, none⟩ = some (.int .i64 c) := hcell_of ly rfl
    have y5 : hcell h3 ⟨y, 5, none⟩ = some (.int .i64 w) := hcell_of ly rfl
    cases b with
    | false =>
      have hna : ¬ i ∈ R.alive k := fun hm => by have := hbi.2 hm; cases this
      rw [← aliveTo_no hin hna] at sl
      (repeat (first | refine EK.seq ?_ | refine EK.region ?_ | refine ER.done ?_ | refine ER.move rfl rfl rfl ?_ | refine ER.assign rfl rfl rfl ?_ | refine ER.notB rfl rfl rfl ?_ | refine ER.add (kd := .i64) rfl rfl rfl rfl (i64_in (by omega) (by omega)) ?_ | refine EK.condT rfl ?_ | refine EK.exit rfl ?_))
      refine EK.back (again (i + 1, lv, thr) _ _ (by dsimp only; omega) ⟨by dsimp only; omega, rfl, hl, ti, I, sl, hb, up⟩) ⟨rfl, ?_, rfl, rfl, rfl, trivial⟩
      rw [aliveTo_no hin hna]
      rfl
    | true =>
      obtain ⟨o1, o2, c1, c2⟩ := hbp rfl
      have hna : i ∈ R.alive k := hbi.1 rfl
      have sl' := sl
      obtain ⟨aA, kA, eA⟩ := sl.val
      (repeat (first | refine EK.seq ?_ | refine EK.region ?_ | refine ER.done ?_ | refine EK.skip ?_ | refine ER.move rfl rfl rfl ?_ | refine ER.assign rfl rfl rfl ?_ | refine ER.fieldAddr rfl rfl rfl ?_ | refine ER.load1 rfl rfl rfl (hcell_of (by assumption) rfl) ?_ | refine ER.notB rfl rfl rfl ?_ | refine ER.add (kd := .i64) rfl rfl rfl rfl (i64_in (by omega) (by omega)) ?_ | refine EK.condF rfl ?_))
      refine ER.cmpB (r := decide (0 ≤ c)) rfl rfl rfl rfl rfl rfl ?_
      refine ER.done ?_
      refine EK.join (fun _ : Unit => [(9, ptr y), (8, .int .i64 i), (7, .int .i64 ((R.aliveTo k i).length + 1 : Nat)), (6, lv), (0, ptr C), (1, .int .i64 k)]) (fun _ h' δ' => h' = h3 ∧ δ' = δ2) (fun key => ?_) ?_
      · by_cases hc : 0 ≤ c
        · rw [decide_eq_true hc]
          obtain ⟨cc, rfl⟩ : ∃ cc : Nat, c = cc := ⟨c.toNat, by omega⟩
          obtain ⟨xx, hxx⟩ : ∃ xx, cl[cc]? = some xx := ⟨_, List.getElem?_eq_getElem (by omega)⟩
          obtain ⟨aC, kC, eC⟩ := I.cel.val
          subst eC
          obtain ⟨bC, eC, cC, -⟩ := slice_at I.cel hxx
          subst eC
          have c10 : hcell h3 ⟨C, 10, none⟩ = some (.slice (some ⟨bC, 0, none⟩) cl.length kC) := hcell_of I.row rfl
          refine EK.condT rfl ?_
          refine EK.regionAny (fun h' => h' = h3) ?_
          have hZ : h3 = h3 := rfl
          refine EA.tMove 0 rfl (by kernel_rfl) rfl rfl rfl rfl hZ ?_
          refine EA.tNil 1 rfl (by kernel_rfl) rfl rfl rfl rfl hZ ?_
          refine EA.tField 2 rfl (by kernel_rfl) rfl rfl rfl rfl hZ ?_
          refine EA.tLoad 3 rfl (by kernel_rfl) rfl rfl rfl rfl (fun _ hz => (by rw [hz]; exact c10)) hZ ?_
          refine EA.tField 4 rfl (by kernel_rfl) rfl rfl rfl rfl hZ ?_
          refine EA.tLoad 5 rfl (by kernel_rfl) rfl rfl rfl rfl (fun _ hz => (by rw [hz]; exact y2)) hZ ?_
          refine EA.tIdxS 6 rfl (by kernel_rfl) rfl rfl rfl rfl rfl (by omega) (by omega) hZ ?_
          refine EA.tLoad 7 rfl (by kernel_rfl) rfl rfl rfl rfl (fun _ hz => (by rw [hz]; exact cC)) hZ ?_
          refine EA.tAssign 8 rfl (by kernel_rfl) rfl rfl rfl rfl hZ ?_
          refine EA.done (by kernel_rfl) ?_
          exact EK.back (key () _ _ ⟨rfl, rfl⟩) ⟨rfl, rfl, rfl, rfl, rfl, rfl, trivial⟩
        · rw [decide_eq_false hc]
          refine EK.condF rfl (EK.skip ?_)
          exact EK.back (key () _ _ ⟨rfl, rfl⟩) ⟨rfl, rfl, rfl, rfl, rfl, rfl, trivial⟩
      rintro _ h3 δ2 ⟨rfl, rfl⟩
      clear y2 y5
      (repeat (first | refine EK.seq ?_ | refine EK.region ?_ | refine ER.done ?_ | refine ER.move rfl rfl rfl ?_ | refine ER.fieldAddr rfl rfl rfl ?_ | refine ER.load1 rfl rfl rfl (hcell_of (by assumption) rfl) ?_ | refine ER.no rfl rfl ?_ | refine ER.pickT rfl rfl rfl rfl ?_ | refine ER.cmpT rfl rfl rfl rfl rfl (by first | (dsimp only [cmpP]; omega) | exact rfl | exact Int.le_refl _) ?_ | refine EK.condT rfl ?_))
      refine ER.slice1 (sz := 1) (z := .int .i64 0) (cells := #[.int .i64 i]) rfl rfl rfl (by omega) (by omega) rfl rfl ?_
      refine ER.append1 (new := [.int .i64 i]) rfl rfl rfl rfl (sl.upd (Upd.push (T := fun _ => False) h3 _) (fun _ _ x => x)) (get_push_new _ _) rfl (by simp [OneCell]) (by omega) (by omega) (by rfl) (fun _ _ _ x => x) ?_
      intro s4 h4 sl4 u4 hb4
      have p4 : Upd (fun b => blk lv = some b) h3 h4 := (Upd.push (T := fun b => blk lv = some b) h3 (.cells #[.int .i64 i] 3)).trans u4
      have hlvC : ∀ b, blk lv = some b → b ≠ C := sliceO_ne sl I.row (by decide)
      have I4 : ChkI R lL lW lY lV sP h0 C (.slice aT R.nb kT) cv last thr cl h4 := ⟨I.up.over p4 (fun b hb' => by have := hb b hb'; omega), p4.get I.row (fun e => hlvC C e rfl), I.thr.upd p4 (fun b hb' e => by have := htl b hb'; have := hb b e; omega), I.cel.upd p4 (fun b hb' e => sliceO_two sl I.cel (by decide) b e hb'), I.nC, I.nt, I.nc⟩
      have e4 : (R.aliveTo k (i + 1)).length = (R.aliveTo k i).length + 1 := by rw [aliveTo_yes hin hna, List.length_append]; rfl
      have sl5 : SliceO h4 s4 3 1 (R.aliveTo k (i + 1)).length ((R.aliveTo k (i + 1)).map fun (n : Nat) => Value.int .i64 (n : Int)) := by rw [e4, aliveTo_yes hin hna, List.map_append]; exact sl4
      have nb4 : ∀ b, blk s4 = some b → h.size ≤ b := fun b hb' => by
        rcases hb4 b hb' with z | z
        · exact hb b z
        · rw [Array.size_push] at z; have := up.size; omega
      (repeat (first | refine EK.region ?_ | refine ER.done ?_ | refine EK.inBlock ?_ | refine ER.move rfl rfl rfl ?_ | refine ER.assign rfl rfl rfl ?_ | refine ER.add (kd := .i64) rfl rfl rfl rfl (i64_in (by omega) (by omega)) ?_))
      refine EK.back (again (i + 1, s4, thr) _ _ (by dsimp only; omega) ⟨by dsimp only; omega, rfl, hl, ti, I4, sl5, nb4, upd_then up p4 (fun b hb' e => by have := hb b e; omega)⟩) ⟨rfl, ?_, rfl, rfl, rfl, trivial⟩
      rw [e4]
      rfl
  · obtain rfl : i = R.nb := by omega
    clear again
    (repeat (first | refine EK.seq ?_ | refine EK.region ?_ | refine ER.done ?_ | refine ER.move rfl rfl rfl ?_ | refine ER.assign rfl rfl rfl ?_ | refine ER.nilCheck rfl rfl rfl ?_ | refine ER.fieldAddr rfl rfl rfl ?_ | refine ER.cmpF rfl rfl rfl rfl rfl (by first | (dsimp only [cmpP]; omega) | exact rfl | exact Int.le_refl _) ?_ | refine ER.len1 rfl rfl rfl ?_ | refine EK.condF rfl ?_ | refine EK.ret ?_ | refine EK.exit rfl ?_ | refine ER.load1 rfl rfl rfl (by assumption) ?_))
    exact EU.ret2 rfl rfl rfl ⟨rfl, thr, lv, rfl, sl, hl, ti, I, up⟩
set_option maxHeartbeats 8000000 in
set_option maxRecDepth 8000 in
theorem picked_ok {l went : List Nat} {lv : Value} (m : RecM R picks lL lW lY lV sP h) (hC : h[C]? = some (chkO e n lL lW lY lV sP k tv cv (lastOf went))) (hl : SliceO h lv 3 1 l.length (l.map fun (n : Nat) => Value.int .i64 (n : Int))) (hne : l ≠ []) (hlen : l.length ≤ 1000) (hwl : went.length ≤ 65536) :
    CallW Try.prog main S 150 #[ptr C, lv, .int .i64 went.length] h δ (Ret (Det (.int .i64 (pickOf picks went l)) h δ)) := by
  have hpos : 0 < l.length := List.length_pos_iff.2 hne
  obtain ⟨aP, kP, eP⟩ := m.picks.val
  rw [List.length_map] at eP
  obtain ⟨aA, kA, eA⟩ := hl.val
  subst eP eA
  have c7 : hcell h ⟨C, 7, none⟩ = some (.slice aP picks.length kP) := hcell_of hC rfl
  have c11 : hcell h ⟨C, 11, none⟩ = some (.int .i64 (lastOf went)) := hcell_of hC rfl
  refine CallW.start (n := 33) rfl rfl ?_
  by_cases hlt : went.length < picks.length
  · obtain ⟨x, hx⟩ : ∃ x, picks[went.length]? = some x := ⟨_, List.getElem?_eq_getElem hlt⟩
    obtain ⟨bP, oP, kP', e2, cP⟩ := m.picks.cell went.length (.int .i64 x) (by rw [List.getElem?_map, hx]; rfl)
    injection e2 with e2
    subst e2
    obtain ⟨q, hq, hq2, hq3⟩ := placed_mem x hne
    obtain ⟨bA, e2, cA, -⟩ := slice_at hl hq2
    subst e2
    have h3 := Int.emod_nonneg x (b := (l.length : Int)) (by omega)
    have h4 := Int.emod_lt_of_pos x (b := (l.length : Int)) (by omega)
    rw [← hq3] at cA
    rw [show pickOf picks went l = placed x l by unfold pickOf; rw [hx]]
    (repeat (first | refine EK.seq ?_ | refine EK.region ?_ | refine ER.done ?_ | refine ER.move rfl rfl rfl ?_ | refine ER.assign rfl rfl rfl ?_ | refine ER.nilCheck rfl rfl rfl ?_ | refine ER.fieldAddr rfl rfl rfl ?_ | refine ER.load1 rfl rfl rfl (hcell_of (by assumption) rfl) ?_ | refine ER.cmpT rfl rfl rfl rfl rfl (by first | (dsimp only [cmpP]; omega) | exact rfl | exact Int.le_refl _) ?_ | refine ER.len1 rfl rfl rfl ?_ | refine ER.indexSl rfl rfl rfl rfl (by omega) (by omega) ?_ | refine EK.condT rfl ?_ | refine ER.load1 rfl rfl rfl (by assumption) ?_))
    refine ER.callD rfl rfl rfl rfl rfl (place_ok hpos hlen) ?_
    generalize x % (l.length : Int) = r at h3 h4 cA ⊢
    (repeat (first | refine ER.done ?_ | refine ER.assign rfl rfl rfl ?_ | refine ER.indexSl rfl rfl rfl rfl (by omega) (by omega) ?_ | refine EK.ret ?_ | refine ER.load1 rfl rfl rfl (by assumption) ?_))
    exact EU.ret1 rfl rfl det
  · have hx : picks[went.length]? = none := List.getElem?_eq_none (by omega)
    rw [show pickOf picks went l = roundOf l (lastOf went) by unfold pickOf; rw [hx]]
    (repeat (first | refine EK.seq ?_ | refine EK.region ?_ | refine ER.done ?_ | refine EK.skip ?_ | refine ER.move rfl rfl rfl ?_ | refine ER.assign rfl rfl rfl ?_ | refine ER.nilCheck rfl rfl rfl ?_ | refine ER.fieldAddr rfl rfl rfl ?_ | refine ER.load1 rfl rfl rfl (hcell_of (by assumption) rfl) ?_ | refine ER.cmpF rfl rfl rfl rfl rfl (by first | (dsimp only [cmpP]; omega) | exact rfl | exact Int.le_refl _) ?_ | refine ER.len1 rfl rfl rfl ?_ | refine EK.condF rfl ?_))
    refine ER.callD rfl rfl rfl rfl rfl (most_ok hl hne hlen) ?_
    (repeat (first | refine ER.done ?_ | refine ER.assign rfl rfl rfl ?_ | refine EK.ret ?_))
    exact EU.ret1 rfl rfl det
end
end Go.Proofs.Ytcpcdnkemobneaa
end
section
namespace Go.Proofs.Ytcpcdnkemobneaa
open Go Go.TJ Go.Conc Go.Proofs
theorem filter_rise : ∀ (m s : Nat) {l : List Nat}, l.Pairwise (· < ·) → (∀ a, a ∈ l → s ≤ a ∧ a < s + m) → (List.range' s m).filter (fun j => l.any (· == j)) = l
  | 0, s, l, h, hl => by
    cases l with
    | nil => rfl
    | cons a t => have := hl a (by simp); omega
  | m + 1, s, l, h, hl => by
    rw [List.range'_succ]
    cases l with
    | nil => simp
    | cons a t =>
      obtain ⟨h1, h2⟩ := List.pairwise_cons.1 h
      have ha := hl a (by simp)
      by_cases e : a = s
      · subst e
        rw [List.filter_cons_of_pos (by simp)]
        congr 1
        have ih := filter_rise m (a + 1) h2 (fun b hb => ⟨h1 b hb, by have := hl b (by simp [hb]); omega⟩)
        rw [← ih]
        refine List.filter_congr fun j hj => ?_
        have hja : a ≠ j := by have := (List.mem_range'_1.1 hj).1; omega
        rw [ih]
        have : (a == j) = false := by simpa using hja
        simp [this]
      · have hs : ((a :: t).any fun x => x == s) = false := by
          refine List.any_eq_false.2 fun x hx => ?_
          have : s < x := by
            rcases List.mem_cons.1 hx with rfl | hx
            · omega
            · have := h1 x hx; omega
          simp; omega
        rw [List.filter_cons_of_neg (by rw [hs]; decide)]
        refine filter_rise m (s + 1) h fun b hb => ?_
        have hb2 := hl b hb
        rcases List.mem_cons.1 hb with rfl | hb
        · omega
        · have := h1 b hb; omega
theorem RecOk.alive_end {X : Us} {picks : List Int} {R : Rec} (ok : RecOk X picks R) : R.alive R.log.length = R.left.map (·.1) := by
  unfold Rec.alive
  rw [List.drop_eq_nil_of_le (Nat.le_refl _)]
  have := filter_rise R.nb 0 (l := R.left.map (·.1)) (List.pairwise_map.2 ok.rise) (fun a ha => by
    obtain ⟨q, hq, rfl⟩ := List.mem_map.1 ha
    have := (ok.left q hq).1
    omega)
  rw [← List.range_eq_range'] at this
  rw [← this]
  refine List.filter_congr fun j hj => ?_
  rw [List.any_map]
  simp
  rfl
theorem lastOf_take {l : List Ev} {k : Nat} {e : Ev} (h : l[k]? = some e) : lastOf ((l.take (k + 1)).map (·.thr)) = (e.thr : Int) := by
  rw [(take_mid h).1, List.map_append]
  unfold lastOf
  simp
section
variable {Γ : Type} {main : Bool} {S : Sit Γ} {δ : Ix Γ} {h h' h0 : Hp} {R : Rec} {picks : List Int} {lL lW lY lV sP tv cv : Value} {last : Int} {C n k j : Nat} {e : Int} {X : Us} {thr : List Nat} {cl : List Int}
theorem ChkI.setLast (I : ChkI R lL lW lY lV sP h0 C tv cv last thr cl h) (x : Int) : ChkI R lL lW lY lV sP h0 C tv cv x thr cl (hset h ⟨C, 11, none⟩ (.int .i64 x)) := by
  have e7 : hset h ⟨C, 11, none⟩ (.int .i64 x) = h.setIfInBounds C (chkO R.e R.log.length lL lW lY lV sP R.most tv cv x) := hset_block I.row _
  rw [e7]
  have u : Upd (fun b => b = C) h (h.setIfInBounds C (chkO R.e R.log.length lL lW lY lV sP R.most tv cv x)) := Upd.set _ _ _ rfl
  have := I.nC
  exact ⟨I.up.over u (fun b hb => by omega), get_set_same I.row, I.thr.upd u (sliceO_ne I.thr I.row (by decide)), I.cel.upd u (sliceO_ne I.cel I.row (by decide)), I.nC, I.nt, I.nc⟩
theorem ChkI.setC {b cap i : Nat} (I : ChkI R lL lW lY lV sP h0 C tv (.slice (some ⟨b, 0, none⟩) cl.length cap) last thr cl h) (hi : i < cl.length) (x : Int) : ChkI R lL lW lY lV sP h0 C tv (.slice (some ⟨b, 0, none⟩) cl.length cap) last thr (cl.set i x) (hset h ⟨b, 0 + i * 1, none⟩ (.int .i64 x)) := by
  have u : Upd (fun x => x = b) h (hset h ⟨b, 0 + i * 1, none⟩ (.int .i64 x)) := Upd.hset _ _ _ rfl
  have hb := I.nc b rfl
  have e1 : 0 + i * 1 = i := by omega
  refine ⟨I.up.over u (fun b' hb' => by omega), u.get I.row (fun e => sliceO_ne I.cel I.row (by decide) b rfl e.symm), I.thr.upd u (fun b' hb' e => sliceO_two I.cel I.thr (by decide) b rfl (by rw [← e]; exact hb')), ?_, I.nC, I.nt, I.nc⟩
  have := I.cel.set (j := i) (by rw [List.length_map]; exact hi) (.int .i64 x)
  rw [e1, List.map_set, List.length_set]
  exact this
set_option maxHeartbeats 8000000 in
set_option maxRecDepth 8000 in
theorem turns_all (ok : RecOk X picks R) (m : RecM R picks lL lW lY lV sP h0) (I : ChkI R lL lW lY lV sP h0 C tv cv (-1) thr cl h) (hl : thr.length = R.nb) (hcl : cl.length = (nums R.log).length) (ti : TI R 0 thr) :
    CallW Try.prog main (NoS (Γ := Γ)) 81 #[ptr C] h δ (Ret fun v h' δ' => δ' = δ ∧ v = .bool true ∧ Upd (fun _ => False) h0 h') := by
  have hlen := ok.len
  have hmost := ok.most
  have hnb := ok.nb
  have h00 := I.up.size
  obtain ⟨aT, kT, eT⟩ := I.thr.val
  obtain ⟨aC, kC, eC⟩ := I.cel.val
  obtain ⟨aL, kL, eL⟩ := m.log.val
  obtain ⟨aW, kW, eW⟩ := m.went.val
  obtain ⟨aY, kY, eY⟩ := m.rdy.val
  obtain ⟨aV, kV, eV⟩ := m.left.val
  have hrd := ok.rdy
  have hwl : (R.log.map (·.thr)).length = R.log.length := List.length_map _
  rw [hl] at eT
  rw [hcl] at eC
  rw [hwl] at eW
  rw [hrd] at eY
  subst eT eC eL eW eY eV
  refine CallW.start (n := 180) rfl rfl ?_
  (repeat (first | refine EK.seq ?_ | refine EK.region ?_ | refine ER.done ?_ | refine EK.block ?_ | refine ER.assign rfl rfl rfl ?_))
  refine EK.loopInv (fun q : Nat × List Nat × List Int => [(4, .int .i64 q.1), (3, .int .i64 q.1), (0, ptr C)]) (fun q h' δ' => q.1 ≤ R.log.length ∧ δ' = δ ∧ q.2.1.length = R.nb ∧ q.2.2.length = (nums R.log).length ∧ TI R q.1 q.2.1 ∧ ChkI R (.slice aL R.log.length kL) (.slice aW R.log.length kW) (.slice aY R.log.length kY) (.slice aV R.left.length kV) sP h0 C (.slice aT R.nb kT) (.slice aC (nums R.log).length kC) (lastOf ((R.log.take q.1).map (·.thr))) q.2.1 q.2.2 h') (fun q => R.log.length - q.1) (0, thr, cl) ⟨rfl, rfl, rfl, trivial⟩ ⟨Nat.zero_le _, rfl, hl, hcl, ti, I⟩ ?_
  clear hl hcl ti I thr cl h00
  rintro ⟨k, thr, cl⟩ h1 δ1 ⟨hk, hδ, hl, hcl, ti, I⟩ again
  dsimp only at hk hl hcl ti I again hδ ⊢
  subst hδ
  have c2 : hcell h1 ⟨C, 2, none⟩ = some (.slice aL R.log.length kL) := hcell_of I.row rfl
  by_cases hin : k < R.log.length
  · obtain ⟨e, he⟩ : ∃ e, R.log[k]? = some e := ⟨_, List.getElem?_eq_getElem hin⟩
    obtain ⟨bL, ea, hrow, -⟩ := slice_row (entL_len (nums R.log)) (m.log.upd I.up (fun _ _ x => x)) he
    subst ea
    (repeat (first | refine EK.seq ?_ | refine EK.region ?_ | refine ER.done ?_ | refine EK.skip ?_ | refine EK.block ?_ | refine ER.move rfl rfl rfl ?_ | refine ER.nilCheck rfl rfl rfl ?_ | refine ER.fieldAddr rfl rfl rfl ?_ | refine ER.cmpT rfl rfl rfl rfl rfl (by first | (dsimp only [cmpP]; omega) | exact rfl | exact Int.le_refl _) ?_ | refine ER.len1 rfl rfl rfl ?_ | refine ER.indexSl rfl rfl rfl rfl (by omega) (by omega) ?_ | refine EK.condT rfl ?_ | refine ER.load1 rfl rfl rfl (by assumption) ?_))
    refine ER.loadN (vs := entL (nums R.log) e) rfl rfl rfl rfl hrow ?_
    (repeat refine ER.allocA rfl rfl ?_)
    obtain ⟨y, hy⟩ : ∃ y, y = h1.size := ⟨_, rfl⟩
    refine ER.storeN (vs := entL (nums R.log) e) rfl rfl rfl rfl (by simp [entL, accL, OneCell]) (by rw [← hy]; exact acc_all (vs := [.int .i64 0, .int .i8 0, .int .i64 0, .int .i64 0, .int .i64 0, .int .i64 0, .int .i64 0, .bool false]) rfl (by rw [hy]; exact get_push_new _ _)) ?_
    rw [hsetRow_push (c := [.int .i64 0, .int .i8 0, .int .i64 0, .int .i64 0, .int .i64 0, .int .i64 0, .int .i64 0, .bool false]) (vs := entL (nums R.log) e) rfl]
    refine ER.gen (fun h' => ChkI R (.slice (some ⟨bL, 0, none⟩) R.log.length kL) (.slice aW R.log.length kW) (.slice aY R.log.length kY) (.slice aV R.left.length kV) sP h0 C (.slice aT R.nb kT) (.slice aC (nums R.log).length kC) (lastOf ((R.log.take k).map (·.thr))) thr cl h' ∧ h'[y]? = some (accO (entL (nums R.log) e)) ∧ y < h'.size) ⟨I.upd0 (Upd.push _ _), by rw [hy]; exact get_push_new _ _, by rw [Array.size_push]; omega⟩ ?_
    rw [← hy]
    clear I hrow c2 hy
    rintro h2 ⟨I, ly, hyl⟩
    obtain ⟨w, i1, r, cw, hr, e1, ch2⟩ := ok.chain.inv he
    have hop1 : 1 ≤ e.op := by rw [e1]; exact hr.op1
    have hop2 : e.op ≤ 5 := by rw [e1]; exact hr.op2
    have hixl : (nums R.log).idxOf e.b < (nums R.log).length := List.idxOf_lt_length_iff.2 ((nums_mem _ _).2 ⟨e, List.mem_of_getElem? he, rfl⟩)
    obtain ⟨tn1, tn2, tn3⟩ := ok.turns k e he
    have hthr : e.thr < R.nb := (mem_alive.1 tn3).1
    have htn2 : ((R.log.take k).map (·.thr)).length = k := by rw [List.length_map, List.length_take]; omega
    clear cw e1 ch2 hr
    have ea : entL (nums R.log) e = accL e.thr e.op ((nums R.log).idxOf e.b : Nat) e.arg e.new e.was e.now e.ok := rfl
    rw [ea] at ly
    generalize (nums R.log).idxOf e.b = ix at hixl ly
    have y0 : hcell h2 ⟨y, 0, none⟩ = some (.int .i64 e.thr) := hcell_of ly rfl
    have y1 : hcell h2 ⟨y, 1, none⟩ = some (.int .i8 e.op) := hcell_of ly rfl
    have c9 : hcell h2 ⟨C, 9, none⟩ = some (.slice aT R.nb kT) := hcell_of I.row rfl
    refine ER.done (EK.seq (EK.seq ?_))
    refine EK.regionAny (fun h' => h' = h2) ?_
    have hZ : h2 = h2 := rfl
    refine EA.tField 0 rfl (by kernel_rfl) rfl rfl rfl rfl hZ ?_
    refine EA.tLoad 1 rfl (by kernel_rfl) rfl rfl rfl rfl (fun _ hz => (by rw [hz]; exact y0)) hZ ?_
    refine EA.tCmpF 2 rfl (by kernel_rfl) rfl rfl rfl rfl rfl rfl (by first | (dsimp only [cmpP]; omega) | exact rfl | exact Int.le_refl _) hZ ?_
    refine EA.tMove 3 rfl (by kernel_rfl) rfl rfl rfl rfl hZ ?_
    refine EA.tField 4 rfl (by kernel_rfl) rfl rfl rfl rfl hZ ?_
    refine EA.tLoad 5 rfl (by kernel_rfl) rfl rfl rfl rfl (fun _ hz => (by rw [hz]; exact y0)) hZ ?_
    refine EA.tMove 6 rfl (by kernel_rfl) rfl rfl rfl rfl hZ ?_
    refine EA.tNil 7 rfl (by kernel_rfl) rfl rfl rfl rfl hZ ?_
    refine EA.tField 8 rfl (by kernel_rfl) rfl rfl rfl rfl hZ ?_
    refine EA.tLoad 9 rfl (by kernel_rfl) rfl rfl rfl rfl (fun _ hz => (by rw [hz]; exact c9)) hZ ?_
    refine EA.tLen1 10 rfl (by kernel_rfl) rfl rfl rfl rfl hZ ?_
    refine EA.tCmpF 11 rfl (by kernel_rfl) rfl rfl rfl rfl rfl rfl (by first | (dsimp only [cmpP]; omega) | exact rfl | exact Int.le_refl _) hZ ?_
    refine EA.tPickF 12 rfl (by kernel_rfl) rfl rfl rfl rfl rfl hZ ?_
    refine EA.done (by kernel_rfl) ?_
    clear hZ
    (repeat (first | refine EK.seq ?_ | refine EK.region ?_ | refine ER.done ?_ | refine EK.skip ?_ | refine ER.move rfl rfl rfl ?_ | refine ER.fieldAddr rfl rfl rfl ?_ | refine ER.load1 rfl rfl rfl (hcell_of (by assumption) rfl) ?_ | refine ER.cmpF rfl rfl rfl rfl rfl (by first | (dsimp only [cmpP]; omega) | exact rfl | exact Int.le_refl _) ?_ | refine EK.condF rfl ?_))
    have nyT : ¬ blk (.slice aT R.nb kT) = some y := fun hx => sliceO_ne I.thr ly (by decide) y hx rfl
    refine ER.callR rfl rfl rfl rfl rfl (able_ok ok m I hl hcl ti hk) ?_
    clear I ti hl thr y0 y1 c9
    rintro _ h3 δ2 ⟨rfl, thr, lv, rfl, sl, hl, ti, I, u3⟩
    have ly := u3.get ly nyT
    have y0 : hcell h3 ⟨y, 0, none⟩ = some (.int .i64 e.thr) := hcell_of ly rfl
    have y1 : hcell h3 ⟨y, 1, none⟩ = some (.int .i8 e.op) := hcell_of ly rfl
    have y2 : hcell h3 ⟨y, 2, none⟩ = some (.int .i64 ix) := hcell_of ly rfl
    have y6 : hcell h3 ⟨y, 6, none⟩ = some (.int .i64 e.now) := hcell_of ly rfl
    have c1 : hcell h3 ⟨C, 1, none⟩ = some (.int .i64 R.log.length) := hcell_of I.row rfl
    have c3 : hcell h3 ⟨C, 3, none⟩ = some (.slice aW R.log.length kW) := hcell_of I.row rfl
    have c4 : hcell h3 ⟨C, 4, none⟩ = some (.slice aY R.log.length kY) := hcell_of I.row rfl
    have hne : R.alive k ≠ [] := fun x => by rw [x] at tn3; cases tn3
    have hal : (R.alive k).length ≤ 64 := by have := aliveTo_len (R := R) (k := k) (i := R.nb); exact Nat.le_trans this hnb
    have hpos : 0 < (R.alive k).length := List.length_pos_iff.2 hne
    have m3 := m.upd I.up
    obtain ⟨bY, eY, cY, -⟩ := slice_at (l := R.rdy) (f := fun (n : Nat) => Value.int .i64 (n : Int)) m3.rdy tn1
    subst eY
    obtain ⟨bW, eW, cW, -⟩ := slice_at (l := R.log.map (·.thr)) (f := fun (n : Nat) => Value.int .i64 (n : Int)) m3.went (k := k) (q := e.thr) (by rw [List.getElem?_map, he]; rfl)
    subst eW
    have hpk := picked_ok (S := NoS (Γ := Γ)) (main := main) (δ := δ2) (went := (R.log.take k).map (·.thr)) m3 I.row sl hne (by omega) (by omega)
    rw [htn2, ← tn2] at hpk
    obtain ⟨aA, kA, eA⟩ := sl.val
    subst eA
    clear sl u3 hne m3
    (repeat (first | refine EK.seq ?_ | refine ER.done ?_ | refine ER.move rfl rfl rfl ?_ | refine ER.assign rfl rfl rfl ?_ | refine ER.extract rfl rfl rfl rfl ?_))
    refine EK.regionAny (fun h' => h' = h3) ?_
    have hZ : h3 = h3 := rfl
    refine EA.tMove 0 rfl (by kernel_rfl) rfl rfl rfl rfl hZ ?_
    refine EA.tMove 1 rfl (by kernel_rfl) rfl rfl rfl rfl hZ ?_
    refine EA.tNil 2 rfl (by kernel_rfl) rfl rfl rfl rfl hZ ?_
    refine EA.tField 3 rfl (by kernel_rfl) rfl rfl rfl rfl hZ ?_
    refine EA.tField 4 rfl (by kernel_rfl) rfl rfl rfl rfl hZ ?_
    refine EA.tLoad 5 rfl (by kernel_rfl) rfl rfl rfl rfl (fun _ hz => (by rw [hz]; exact c1)) hZ ?_
    refine EA.tCmpF 6 rfl (by kernel_rfl) rfl rfl rfl rfl rfl rfl (by first | (dsimp only [cmpP]; omega) | exact rfl | exact Int.le_refl _) hZ ?_
    refine EA.tMove 7 rfl (by kernel_rfl) rfl rfl rfl rfl hZ ?_
    refine EA.tMove 8 rfl (by kernel_rfl) rfl rfl rfl rfl hZ ?_
    refine EA.tLen1 9 rfl (by kernel_rfl) rfl rfl rfl rfl hZ ?_
    refine EA.tCmpF 10 rfl (by kernel_rfl) rfl rfl rfl rfl rfl rfl (by first | (dsimp only [cmpP]; omega) | exact rfl | exact Int.le_refl _) hZ ?_
    refine EA.tPickF 11 rfl (by kernel_rfl) rfl rfl rfl rfl rfl hZ ?_
    refine EA.tMove 12 rfl (by kernel_rfl) rfl rfl rfl rfl hZ ?_
    refine EA.tMove 13 rfl (by kernel_rfl) rfl rfl rfl rfl hZ ?_
    refine EA.tNil 14 rfl (by kernel_rfl) rfl rfl rfl rfl hZ ?_
    refine EA.tField 15 rfl (by kernel_rfl) rfl rfl rfl rfl hZ ?_
    refine EA.tField 16 rfl (by kernel_rfl) rfl rfl rfl rfl hZ ?_
    refine EA.tLoad 17 rfl (by kernel_rfl) rfl rfl rfl rfl (fun _ hz => (by rw [hz]; exact c4)) hZ ?_
    refine EA.tMove 18 rfl (by kernel_rfl) rfl rfl rfl rfl hZ ?_
    refine EA.tIdxS 19 rfl (by kernel_rfl) rfl rfl rfl rfl rfl (by omega) (by omega) hZ ?_
    refine EA.tLoad 20 rfl (by kernel_rfl) rfl rfl rfl rfl (fun _ hz => (by rw [hz]; exact cY)) hZ ?_
    refine EA.tMove 21 rfl (by kernel_rfl) rfl rfl rfl rfl hZ ?_
    refine EA.tLen1 22 rfl (by kernel_rfl) rfl rfl rfl rfl hZ ?_
    refine EA.tCmpF 23 rfl (by kernel_rfl) rfl rfl rfl rfl rfl rfl (by first | (dsimp only [cmpP]; omega) | exact rfl | exact Int.le_refl _) hZ ?_
    refine EA.tPickF 24 rfl (by kernel_rfl) rfl rfl rfl rfl rfl hZ ?_
    refine EA.tMove 25 rfl (by kernel_rfl) rfl rfl rfl rfl hZ ?_
    refine EA.tMove 26 rfl (by kernel_rfl) rfl rfl rfl rfl hZ ?_
    refine EA.tNil 27 rfl (by kernel_rfl) rfl rfl rfl rfl hZ ?_
    refine EA.tField 28 rfl (by kernel_rfl) rfl rfl rfl rfl hZ ?_
    refine EA.tField 29 rfl (by kernel_rfl) rfl rfl rfl rfl hZ ?_
    refine EA.tLoad 30 rfl (by kernel_rfl) rfl rfl rfl rfl (fun _ hz => (by rw [hz]; exact c3)) hZ ?_
    refine EA.tMove 31 rfl (by kernel_rfl) rfl rfl rfl rfl hZ ?_
    refine EA.tIdxS 32 rfl (by kernel_rfl) rfl rfl rfl rfl rfl (by omega) (by omega) hZ ?_
    refine EA.tLoad 33 rfl (by kernel_rfl) rfl rfl rfl rfl (fun _ hz => (by rw [hz]; exact cW)) hZ ?_
    refine EA.tField 34 rfl (by kernel_rfl) rfl rfl rfl rfl hZ ?_
    refine EA.tLoad 35 rfl (by kernel_rfl) rfl rfl rfl rfl (fun _ hz => (by rw [hz]; exact y0)) hZ ?_
    refine EA.tCmpF 36 rfl (by kernel_rfl) rfl rfl rfl rfl rfl rfl (by first | (dsimp only [cmpP]; omega) | exact rfl | exact Int.le_refl _) hZ ?_
    refine EA.tPickF 37 rfl (by kernel_rfl) rfl rfl rfl rfl rfl hZ ?_
    refine EA.tMove 38 rfl (by kernel_rfl) rfl rfl rfl rfl hZ ?_
    refine EA.tField 39 rfl (by kernel_rfl) rfl rfl rfl rfl hZ ?_
    refine EA.tLoad 40 rfl (by kernel_rfl) rfl rfl rfl rfl (fun _ hz => (by rw [hz]; exact y0)) hZ ?_
    refine EA.tMove 41 rfl (by kernel_rfl) rfl rfl rfl rfl hZ ?_
    refine EA.tMove 42 rfl (by kernel_rfl) rfl rfl rfl rfl hZ ?_
    refine EA.tMove 43 rfl (by kernel_rfl) rfl rfl rfl rfl hZ ?_
    refine EA.callD 44 rfl (by kernel_rfl) rfl rfl rfl rfl rfl rfl hpk hZ ?_
    refine EA.tCmpF 45 rfl (by kernel_rfl) rfl rfl rfl rfl rfl rfl (by first | (dsimp only [cmpP]; omega) | exact rfl | exact Int.le_refl _) hZ ?_
    refine EA.tPickF 46 rfl (by kernel_rfl) rfl rfl rfl rfl rfl hZ ?_
    refine EA.done (by kernel_rfl) ?_
    clear hZ hpk cY cW c1 c3 c4 y2 y6
    refine EK.condF rfl (EK.skip ?_)
    (repeat (first | refine EK.seq ?_ | refine EK.region ?_ | refine ER.move rfl rfl rfl ?_ | refine ER.nilCheck rfl rfl rfl ?_ | refine ER.fieldAddr rfl rfl rfl ?_ | refine ER.load1 rfl rfl rfl (hcell_of (by assumption) rfl) ?_))
    refine ER.store1 rfl rfl rfl ⟨nofun, nofun⟩ ⟨_, hcell_of I.row rfl⟩ (hfroz_of I.row) (fun x => x) ?_
    have I2 := I.setLast e.thr
    have ly2 : (hset h3 ⟨C, 11, none⟩ (.int .i64 e.thr))[y]? = some (accO (accL e.thr e.op ix e.arg e.new e.was e.now e.ok)) := by
      rw [hset_ne]
      · exact ly
      · intro hx
        have := I.row
        change C = y at hx
        rw [hx, ly] at this
        injection this with this
        injection this with _ this _
        revert this; decide
    change ER _ _ _ _ _ _ _ _ _ _ (hset h3 ⟨C, 11, none⟩ (.int .i64 e.thr)) _ _
    generalize hset h3 ⟨C, 11, none⟩ (.int .i64 e.thr) = h4 at I2 ly2 ⊢
    clear I ly y0 y1
    have y1 : hcell h4 ⟨y, 1, none⟩ = some (.int .i8 e.op) := hcell_of ly2 rfl
    have y2 : hcell h4 ⟨y, 2, none⟩ = some (.int .i64 ix) := hcell_of ly2 rfl
    have y6 : hcell h4 ⟨y, 6, none⟩ = some (.int .i64 e.now) := hcell_of ly2 rfl
    obtain ⟨xx, hxx⟩ : ∃ xx, cl[ix]? = some xx := ⟨_, List.getElem?_eq_getElem (by omega)⟩
    obtain ⟨bC, eC, cC, fC⟩ := slice_at I2.cel hxx
    subst eC
    have c10 : hcell h4 ⟨C, 10, none⟩ = some (.slice (some ⟨bC, 0, none⟩) (nums R.log).length kC) := hcell_of I2.row rfl
    (repeat (first | refine EK.seq ?_ | refine EK.region ?_ | refine ER.done ?_ | refine EK.skip ?_ | refine ER.move rfl rfl rfl ?_ | refine ER.assign rfl rfl rfl ?_ | refine ER.fieldAddr rfl rfl rfl ?_ | refine ER.load1 rfl rfl rfl (hcell_of (by assumption) rfl) ?_ | refine ER.no rfl rfl ?_ | refine ER.pickF rfl rfl rfl rfl ?_ | refine ER.cmpT rfl rfl rfl rfl rfl (by first | (dsimp only [cmpP]; omega) | exact rfl | exact Int.le_refl _) ?_ | refine ER.cmpF rfl rfl rfl rfl rfl (by first | (dsimp only [cmpP]; omega) | exact rfl | exact Int.le_refl _) ?_ | refine ER.add (kd := .i64) rfl rfl rfl rfl (i64_in (by omega) (by omega)) ?_ | refine EK.condT rfl ?_ | refine EK.condF rfl ?_))
    refine EK.regionAnyL (fun h' => h' = h4) 9 ?_
    have hZ : h4 = h4 := rfl
    refine EA.tMove 0 rfl (by kernel_rfl) rfl rfl rfl rfl hZ ?_
    refine EA.tNil 1 rfl (by kernel_rfl) rfl rfl rfl rfl hZ ?_
    refine EA.tField 2 rfl (by kernel_rfl) rfl rfl rfl rfl hZ ?_
    refine EA.tLoad 3 rfl (by kernel_rfl) rfl rfl rfl rfl (fun _ hz => (by rw [hz]; exact c10)) hZ ?_
    refine EA.tField 4 rfl (by kernel_rfl) rfl rfl rfl rfl hZ ?_
    refine EA.tLoad 5 rfl (by kernel_rfl) rfl rfl rfl rfl (fun _ hz => (by rw [hz]; exact y2)) hZ ?_
    refine EA.tField 6 rfl (by kernel_rfl) rfl rfl rfl rfl hZ ?_
    refine EA.tLoad 7 rfl (by kernel_rfl) rfl rfl rfl rfl (fun _ hz => (by rw [hz]; exact y6)) hZ ?_
    refine EA.val 8 rfl (by kernel_rfl) rfl rfl rfl (fun ρ Q X hρ hq => sem_indexSl (hρ _ _ rfl) (hρ _ _ rfl) (by omega) (by omega) hq) hZ ?_
    refine EA.unitL (h' := hset h4 ⟨bC, 0 + ix * 1, none⟩ (.int .i64 e.now)) 9 rfl (by kernel_rfl) rfl rfl rfl (fun ρ Q X hρ hq => sem_store1 (hρ _ _ rfl) (hρ _ _ rfl) ⟨nofun, nofun⟩ ⟨_, cC⟩ (fC _) (fun x => x) hq) ?_
    refine EA.done (by kernel_rfl) ?_
    have I3 := (hcl ▸ I2).setC (i := ix) (by omega) e.now
    rw [hcl] at I3
    (repeat (first | refine EK.region ?_ | refine ER.done ?_ | refine EK.inBlock ?_ | refine ER.move rfl rfl rfl ?_ | refine ER.assign rfl rfl rfl ?_ | refine ER.add (kd := .i64) rfl rfl rfl rfl (i64_in (by omega) (by omega)) ?_))
    refine EK.back (again (k + 1, thr, cl.set ix e.now) _ _ (by dsimp only; omega) ⟨by dsimp only; omega, rfl, hl, by dsimp only; rw [List.length_set]; exact hcl, ti.mono (by omega), by dsimp only; rw [lastOf_take he]; exact I3⟩) ⟨rfl, rfl, rfl, trivial⟩
  · obtain rfl : k = R.log.length := by omega
    clear again
    (repeat (first | refine EK.seq ?_ | refine EK.region ?_ | refine ER.done ?_ | refine ER.move rfl rfl rfl ?_ | refine ER.nilCheck rfl rfl rfl ?_ | refine ER.fieldAddr rfl rfl rfl ?_ | refine ER.cmpF rfl rfl rfl rfl rfl (by first | (dsimp only [cmpP]; omega) | exact rfl | exact Int.le_refl _) ?_ | refine ER.len1 rfl rfl rfl ?_ | refine EK.condF rfl ?_ | refine EK.exit rfl ?_ | refine ER.load1 rfl rfl rfl (by assumption) ?_))
    refine ER.callR rfl rfl rfl rfl rfl (able_ok ok m I hl hcl ti (Nat.le_refl _)) ?_
    clear I ti hl thr c2
    rintro _ h3 δ2 ⟨rfl, thr, lv, rfl, sl, hl, ti, I, u3⟩
    have hae : (R.alive R.log.length).length = R.left.length := by rw [ok.alive_end, List.length_map]
    rw [hae] at sl ⊢
    obtain ⟨aA, kA, eA⟩ := sl.val
    subst eA
    have c0 : hcell h3 ⟨C, 0, none⟩ = some (.int .i8 R.e) := hcell_of I.row rfl
    have c1 : hcell h3 ⟨C, 1, none⟩ = some (.int .i64 R.log.length) := hcell_of I.row rfl
    have c5 : hcell h3 ⟨C, 5, none⟩ = some (.slice aV R.left.length kV) := hcell_of I.row rfl
    have c8 : hcell h3 ⟨C, 8, none⟩ = some (.int .i64 R.most) := hcell_of I.row rfl
    rcases ok.how with ⟨w1, w2⟩ | ⟨w1, w2, w3⟩
    · have w3 : R.left.length = 0 := by rw [w2]; rfl
      rw [w1] at c0
      (repeat (first | refine EK.seq ?_ | refine EK.region ?_ | refine ER.done ?_ | refine ER.move rfl rfl rfl ?_ | refine ER.assign rfl rfl rfl ?_ | refine ER.nilCheck rfl rfl rfl ?_ | refine ER.fieldAddr rfl rfl rfl ?_ | refine ER.no rfl rfl ?_ | refine ER.pickT rfl rfl rfl rfl ?_ | refine ER.extract rfl rfl rfl rfl ?_ | refine ER.cmpT rfl rfl rfl rfl rfl (by first | (dsimp only [cmpP]; omega) | exact rfl | exact Int.le_refl _) ?_ | refine ER.len1 rfl rfl rfl ?_ | refine EK.condT rfl ?_ | refine EK.ret ?_ | refine ER.load1 rfl rfl rfl (by assumption) ?_))
      exact EU.ret1 rfl rfl ⟨rfl, rfl, I.up⟩
    · have w4 : 0 < R.left.length := List.length_pos_iff.2 w2
      rw [w1] at c0
      (repeat (first | refine EK.seq ?_ | refine EK.region ?_ | refine ER.done ?_ | refine EK.skip ?_ | refine ER.move rfl rfl rfl ?_ | refine ER.assign rfl rfl rfl ?_ | refine ER.nilCheck rfl rfl rfl ?_ | refine ER.fieldAddr rfl rfl rfl ?_ | refine ER.pickT rfl rfl rfl rfl ?_ | refine ER.pickF rfl rfl rfl rfl ?_ | refine ER.extract rfl rfl rfl rfl ?_ | refine ER.cmpT rfl rfl rfl rfl rfl (by first | (dsimp only [cmpP]; omega) | exact rfl | exact Int.le_refl _) ?_ | refine ER.cmpF rfl rfl rfl rfl rfl (by first | (dsimp only [cmpP]; omega) | exact rfl | exact Int.le_refl _) ?_ | refine ER.len1 rfl rfl rfl ?_ | refine EK.condF rfl ?_ | refine EK.ret ?_ | refine ER.load1 rfl rfl rfl (by assumption) ?_))
      exact EU.ret1 rfl rfl ⟨rfl, rfl, I.up⟩
end
end Go.Proofs.Ytcpcdnkemobneaa
end
section
namespace Go.Proofs.Ytcpcdnkemobneaa
open Go Go.TJ Go.Conc Go.Proofs
theorem sem_boxB {Γ : Type} {P : Program} {S : Sit Γ} {h : Hp} {δ : Ix Γ} {ty : TypeId} {pos : String} {af : Array Edge} {g : Option (Nat × Bool)} {t : TypeId} {x : Operand} {cs : Array Value} {ρ : Operand → Value} {dst : Option Nat} {Q : Next → Hp → Ix Γ → Prop} {X : Value → Hp → Ix Γ → Prop} (hx : ρ x = .agg cs)
    (hq : Q (.value (.pointer (some ⟨h.size, 0, none⟩))) (h.push (.cells cs t)) δ) : SemW P S (execOp ρ ⟨dst, .box t x, ty, pos, af, g⟩) h δ Q X := by
  show SemW P S (Instr.box t (ρ x) >>= fun v => pure (.value v)) h δ Q X
  rw [hx]
  exact ⟨thawed, hq⟩
section
variable {Γ : Type} {main : Bool} {S : Sit Γ} {δ : Ix Γ} {h h' h0 : Hp} {R : Rec} {picks : List Int} {lL lW lY lV sP tv cv : Value} {X : Us}
theorem ChkI.appT {C : Nat} {thr : List Nat} {cl : List Int} {last : Int} {s' : Value} {h1 : Hp} (I : ChkI R lL lW lY lV sP h0 C tv cv last thr cl h) (u : Upd (fun b => blk tv = some b) h h1) (sl : SliceO h1 s' 3 1 (thr.length + 1) ((thr.map fun (n : Nat) => Value.int .i64 (n : Int)) ++ [.int .i64 0])) (hb : ∀ b, blk s' = some b → blk tv = some b ∨ h.size ≤ b) :
    ChkI R lL lW lY lV sP h0 C s' cv last (thr ++ [0]) cl (hset h1 ⟨C, 9, none⟩ s') := by
  have o1 := u.get I.row (fun hx => sliceO_ne I.thr I.row (by decide) C hx rfl)
  have e1 : hset h1 ⟨C, 9, none⟩ s' = h1.setIfInBounds C (chkO R.e R.log.length lL lW lY lV sP R.most s' cv last) := hset_block o1 _
  rw [e1]
  have uW : Upd (fun b => b = C) h1 (h1.setIfInBounds C (chkO R.e R.log.length lL lW lY lV sP R.most s' cv last)) := Upd.set _ _ _ rfl
  have hCl := lt_of_get I.row
  have nC := I.nC
  refine ⟨(I.up.over u (fun b hbb => I.nt b hbb)).over uW (fun b e => by omega), get_set_same o1, ?_, (I.cel.upd u (fun b hbb hx => sliceO_two I.cel I.thr (by decide) b hbb hx)).upd uW (sliceO_ne I.cel I.row (by decide)), I.nC, fun b hbb => (hb b hbb).elim (I.nt b) (fun y => Nat.le_trans I.up.size y), I.nc⟩
  have := sl.upd uW (fun b hbb => (hb b hbb).elim (sliceO_ne I.thr I.row (by decide) b) (fun y => by omega))
  rw [List.map_append, List.length_append]
  exact this
set_option maxHeartbeats 8000000 in
set_option maxRecDepth 8000 in
theorem checked_ok (ok : RecOk X picks R) (m : RecM R picks lL lW lY lV sP h) :
    CallW Try.prog main (NoS (Γ := Γ)) 19 #[.agg (repL R.e R.log.length lL lW lY lV).toArray, .int .i64 R.nb, sP, .int .i64 R.most] h δ (Ret fun v h' δ' => δ' = δ ∧ v = .bool true ∧ Upd (fun _ => False) h h') := by
  have hlen := ok.len
  have hmost := ok.most
  have hnb := ok.nb
  obtain ⟨aP, kP, eP⟩ := m.picks.val
  rw [List.length_map] at eP
  subst eP
  refine CallW.start (n := 41) rfl rfl ?_
  (repeat (first | refine EK.seq ?_ | refine EK.region ?_ | refine ER.done ?_ | refine ER.assign rfl rfl rfl ?_ | refine ER.boxA rfl rfl rfl ?_))
  have u0 : Upd (fun _ => False) h (h.push (.cells (repL R.e R.log.length lL lW lY lV).toArray 49)) := Upd.push _ _
  have g0 : (h.push (.cells (repL R.e R.log.length lL lW lY lV).toArray 49))[h.size]? = some (.cells (repL R.e R.log.length lL lW lY lV).toArray 49 (0, 0)) := get_push_new _ _
  generalize h.push (.cells (repL R.e R.log.length lL lW lY lV).toArray 49) = h1 at u0 g0 ⊢
  have hr1 : hrow h1 h.size 0 (repL R.e R.log.length lL lW lY lV) := hrow_block (rest := []) (by rw [List.append_nil]; exact g0)
  refine EK.regionAny (fun h' => TJ.hrow h' h.size 0 (repL R.e R.log.length lL lW lY lV)) ?_
  have hZ : TJ.hrow h1 h.size 0 (repL R.e R.log.length lL lW lY lV) := hr1
  refine EA.tLoadN (vs := repL R.e R.log.length lL lW lY lV) 0 rfl (by kernel_rfl) rfl rfl rfl rfl rfl (fun _ hz => hz) hZ ?_
  refine EA.tMove 1 rfl (by kernel_rfl) rfl rfl rfl rfl hZ ?_
  refine EA.tMove 2 rfl (by kernel_rfl) rfl rfl rfl rfl hZ ?_
  refine EA.callD 3 rfl (by kernel_rfl) rfl rfl rfl rfl rfl rfl (turns_ok hmost) hZ ?_
  refine EA.val (v := .agg (chkL R.e R.log.length lL lW lY lV (.slice aP picks.length kP) R.most nilS nilS (-1)).toArray) (h' := h1) 4 rfl (by kernel_rfl) rfl rfl rfl (fun ρ Q X hρ hq => sem_buildS hρ (by rfl) (by kernel_rfl) hq) hZ ?_
  refine EA.val (v := ptr h1.size) (h' := h1.push (chkO R.e R.log.length lL lW lY lV (.slice aP picks.length kP) R.most nilS nilS (-1))) 5 rfl (by kernel_rfl) rfl rfl rfl (fun ρ Q X hρ hq => sem_boxB (hρ _ _ rfl) hq) (fun j v hv => hcell_push (hr1 j v hv)) ?_
  have up := Upd.push (T := fun _ => False) h1 (chkO R.e R.log.length lL lW lY lV (.slice aP picks.length kP) R.most nilS nilS (-1))
  have hZ : TJ.hrow (h1.push (chkO R.e R.log.length lL lW lY lV (.slice aP picks.length kP) R.most nilS nilS (-1))) h.size 0 (repL R.e R.log.length lL lW lY lV) := fun j v hv => up.hcell (hr1 j v hv) (fun x => x)
  refine EA.tAssign 6 rfl (by kernel_rfl) rfl rfl rfl rfl hZ ?_
  refine EA.done (by kernel_rfl) ?_
  obtain ⟨C, hC⟩ : ∃ C, C = h1.size := ⟨_, rfl⟩
  have h10 : h.size ≤ C := by rw [hC]; exact u0.size
  (repeat (first | refine EK.seq ?_ | refine EK.region ?_ | refine ER.done ?_ | refine EK.block ?_ | refine ER.assign rfl rfl rfl ?_))
  refine EK.gen (fun h' => ChkI R lL lW lY lV (.slice aP picks.length kP) h C nilS nilS (-1) [] [] h') ⟨u0.trans up, by rw [hC]; exact get_push_new _ _, SliceO.nil, SliceO.nil, h10, fun b hb => (by cases hb), fun b hb => (by cases hb)⟩ ?_
  rw [← hC]
  clear hZ hr1 g0 u0 up hC
  intro h2 I
  refine EK.loopInv (fun q : Nat × Value => [(10, .int .i64 q.1), (9, ptr C), (1, .int .i64 R.nb), (8, .bool false)]) (fun q h' δ' => δ' = δ ∧ q.1 ≤ R.nb ∧ ChkI R lL lW lY lV (.slice aP picks.length kP) h C q.2 nilS (-1) (List.replicate q.1 0) [] h') (fun q => R.nb - q.1) (0, nilS) ⟨rfl, rfl, rfl, rfl, trivial⟩ ⟨rfl, Nat.zero_le _, I⟩ ?_
  clear I h2
  rintro ⟨k, tv⟩ h2 δ2 ⟨hδ, hk, I⟩ again
  dsimp only at hδ hk I again ⊢
  subst hδ
  by_cases hin : k < R.nb
  · obtain ⟨aT, kT, eT⟩ := I.thr.val
    rw [List.length_replicate] at eT
    subst eT
    have c9 : hcell h2 ⟨C, 9, none⟩ = some (.slice aT k kT) := hcell_of I.row rfl
    (repeat (first | refine EK.seq ?_ | refine EK.region ?_ | refine ER.done ?_ | refine EK.skip ?_ | refine EK.block ?_ | refine ER.move rfl rfl rfl ?_ | refine ER.nilCheck rfl rfl rfl ?_ | refine ER.fieldAddr rfl rfl rfl ?_ | refine ER.cmpT rfl rfl rfl rfl rfl (by first | (dsimp only [cmpP]; omega) | exact rfl | exact Int.le_refl _) ?_ | refine EK.condT rfl ?_ | refine ER.load1 rfl rfl rfl (by assumption) ?_))
    refine ER.slice1 (sz := 1) (z := .int .i64 0) (cells := #[.int .i64 0]) rfl rfl rfl (by omega) (by omega) rfl rfl ?_
    have I1 := I.upd0 (Upd.push h2 (.cells #[.int .i64 0] 3))
    have sl1 := I1.thr
    rw [List.length_replicate] at sl1
    refine ER.append1 (new := [.int .i64 0]) rfl rfl rfl rfl sl1 (get_push_new _ _) rfl (by simp [OneCell]) (by omega) (by omega) (by rfl) (fun _ _ _ x => x) ?_
    generalize h2.push (.cells #[.int .i64 0] 3) = h3 at I1 sl1 ⊢
    intro s4 h4 sl4 u4 hb4
    have I2 := I1.appT u4 (by rw [List.length_replicate]; exact sl4) (fun b hb => (hb4 b hb).imp id (fun e => Nat.le_of_eq e.symm))
    have o5 : ∃ v, hcell h4 ⟨C, 0 + 9, none⟩ = some v ∧ hfroz h4 ⟨C, 0 + 9, none⟩ = false := by
      have o1 := u4.get I1.row (fun hx => sliceO_ne I1.thr I1.row (by decide) C hx rfl)
      exact ⟨_, hcell_of o1 rfl, hfroz_of o1⟩
    obtain ⟨v5, o5, f5⟩ := o5
    obtain ⟨a4, k4, e4⟩ := sl4.val
    (repeat (first | refine ER.nilCheck rfl rfl rfl ?_ | refine ER.fieldAddr rfl rfl rfl ?_))
    refine ER.store1 rfl rfl rfl (by rw [e4]; exact ⟨nofun, nofun⟩) ⟨_, o5⟩ f5 (fun x => x) ?_
    change ER _ _ _ _ _ _ _ _ _ _ (hset h4 ⟨C, 9, none⟩ s4) _ _
    generalize hset h4 ⟨C, 9, none⟩ s4 = h5 at I2 ⊢
    clear o5 f5 sl4 u4 hb4 I1 sl1 I c9
    (repeat (first | refine EK.region ?_ | refine ER.done ?_ | refine EK.inBlock ?_ | refine ER.move rfl rfl rfl ?_ | refine ER.assign rfl rfl rfl ?_ | refine ER.add (kd := .i64) rfl rfl rfl rfl (i64_in (by omega) (by omega)) ?_))
    exact EK.back (again (k + 1, s4) _ _ (by dsimp only; omega) ⟨rfl, by dsimp only; omega, by dsimp only; rw [List.replicate_succ']; exact I2⟩) ⟨rfl, rfl, rfl, rfl, trivial⟩
  · obtain rfl : k = R.nb := by omega
    clear again hin
    have m2 := m.upd I.up
    (repeat (first | refine EK.seq ?_ | refine EK.region ?_ | refine ER.done ?_ | refine ER.move rfl rfl rfl ?_ | refine ER.cmpF rfl rfl rfl rfl rfl (by first | (dsimp only [cmpP]; omega) | exact rfl | exact Int.le_refl _) ?_ | refine EK.condF rfl ?_ | refine EK.exit rfl ?_))
    refine ER.callR rfl rfl rfl rfl rfl (memory_ok ok m2 I.row (fun hp b hb e => by
      have := m.picks.lt (fun e => hp (List.map_eq_nil_iff.1 e)) b hb
      omega)) ?_
    rintro _ h3 δ3 ⟨rfl, rfl, cv, row3, u3, sl3, nb3⟩
    have I3 : ChkI R lL lW lY lV (.slice aP picks.length kP) h C tv cv (-1) (List.replicate R.nb 0) ((nums R.log).map R.v0) h3 := by
      refine ⟨I.up.over u3 (fun b e => by omega), row3, I.thr.upd u3 (sliceO_ne I.thr I.row (by decide)), ?_, I.nC, I.nt, fun b hb => Nat.le_trans I.up.size (nb3 b hb)⟩
      rw [List.length_map, List.map_map]
      exact sl3
    clear I row3 u3 sl3 nb3 m2
    have m3 := m.upd I3.up
    (repeat (first | refine ER.move rfl rfl rfl ?_ | refine ER.notB rfl rfl rfl ?_))
    refine ER.callD rfl rfl rfl rfl rfl (shape_ok ok m3 I3.row) ?_
    (repeat (first | refine EK.seq ?_ | refine EK.region ?_ | refine ER.done ?_ | refine EK.skip ?_ | refine ER.move rfl rfl rfl ?_ | refine ER.notB rfl rfl rfl ?_ | refine ER.pickF rfl rfl rfl rfl ?_ | refine EK.condF rfl ?_))
    refine ER.callR rfl rfl rfl rfl rfl (turns_all ok m I3 (by rw [List.length_replicate]) (by rw [List.length_map]) (fun j t ht => by
      have : t = 0 := List.eq_of_mem_replicate (List.mem_of_getElem? ht)
      subst this
      exact ⟨Nat.zero_le _, fun i e h1 h2 => by omega⟩)) ?_
    rintro _ h4 δ4 ⟨rfl, rfl, u4⟩
    (repeat (first | refine ER.done ?_ | refine ER.assign rfl rfl rfl ?_ | refine EK.ret ?_))
    exact EU.ret1 rfl rfl ⟨rfl, rfl, u4⟩
end
end Go.Proofs.Ytcpcdnkemobneaa
end
section
namespace Go.Proofs.Ytcpcdnkemobneaa
open Go Go.TJ Go.Conc Go.Proofs
section
variable {Γ : Type} {main : Bool} {S : Sit Γ} {δ : Ix Γ} {R : Rec} {nm : Nat → Nme} {lL lW lY lV sP : Value} {h0 h h' : Hp} {W x i t : Nat} {s : WS} {picks : List Int} {X : Us} {A : Type} {pf p : Pr A} {out : Bool}
set_option maxHeartbeats 8000000 in
set_option maxRecDepth 8000 in
theorem end_ok (C : WC X picks R nm lL lW lY lV sP h0 s) (a : WAll R nm lL lW lY lV h0 W s h) (hx : h[x]? = some (wrO W i out t)) (hx0 : h0.size ≤ x) (ht : t ≤ R.log.length) (ho : ownFrom R i t = []) (hl : out = true ↔ ∃ q, q ∈ R.left ∧ q.1 = i) :
    CallW Try.prog main (NoS (Γ := Γ)) 24 #[ptr x, .bool false] h δ (Ret fun _ h' δ' => δ' = δ ∧ WAll R nm lL lW lY lV h0 W s h' ∧ Upd (fun b => b = x) h h') := by
  obtain ⟨q, I, N⟩ := a
  have hlen : R.log.length ≤ 65536 := Nat.le_trans C.ok.len C.ok.most
  have hll := Nat.le_trans C.ok.left_len (show 64 ≤ 65536 by decide)
  refine CallW.start (n := 72) rfl rfl ?_
  (repeat (first | refine EK.seq ?_ | refine EK.region ?_ | refine ER.move rfl rfl rfl ?_))
  refine ER.callR rfl rfl rfl rfl rfl (wnext_ok C.m hlen I hx hx0 ht) ?_
  clear I hx
  rintro _ h2 δ2 ⟨rfl, t2, ht2, hx, I, u2, ⟨e, ho2, -, -⟩ | ⟨-, ho2, rfl⟩⟩
  · rw [ho] at ho2; cases ho2
  (repeat (first | refine ER.move rfl rfl rfl ?_ | refine ER.extract rfl rfl rfl rfl ?_ | refine ER.allocA rfl rfl ?_))
  refine ER.storeN (vs := acc0) rfl rfl rfl rfl (by simp [accL, OneCell]) (acc_all (vs := acc0) rfl (get_push_new _ _)) ?_
  rw [hsetRow_push (c := [.int .i64 0, .int .i8 0, .int .i64 0, .int .i64 0, .int .i64 0, .int .i64 0, .int .i64 0, .bool false]) (vs := acc0) rfl]
  refine ER.gen (fun h' => WkI R nm lL lW lY lV h0 W ((nums R.log).map R.v0) { s with q := q } h' ∧ Upd (fun b => b = x) h h' ∧ h'[x]? = some (wrO W i out t2)) ⟨I.upd0 (Upd.push _ _), u2.trans (Upd.push _ _), get_push _ hx⟩ ?_
  clear I u2 hx
  rintro h3 ⟨I, u3, hx⟩
  (repeat (first | refine EK.seq ?_ | refine EK.region ?_ | refine ER.done ?_ | refine ER.move rfl rfl rfl ?_ | refine ER.assign rfl rfl rfl ?_))
  refine ER.callR rfl rfl rfl rfl rfl (wleft_ok C.m hll I hx hx0) ?_
  rintro v4 h4 δ4 ⟨rfl, u4, hc⟩
  obtain ⟨vs, hvs, rfl, hl8⟩ : ∃ vs : List Value, vs.length = 8 ∧ v4 = Value.tuple #[.agg vs.toArray, .bool out] ∧ ∀ v ∈ vs, OneCell v := by
    rcases hc with ⟨q', hq', e, rfl⟩ | ⟨hn, rfl⟩
    · have : out = true := hl.2 ⟨q', hq', e⟩
      subst this
      exact ⟨leftE (nums R.log) R.val q', rfl, rfl, by simp [leftE, accL, OneCell]⟩
    · have : out = false := by
        cases out with
        | false => rfl
        | true => obtain ⟨q', hq', e⟩ := hl.1 rfl; exact absurd e (hn q' hq')
      subst this
      exact ⟨acc0, rfl, rfl, by simp [accL, OneCell]⟩
  replace I := I.upd0 u4
  replace hx := u4.get hx (fun z => z)
  replace u3 : Upd (fun b => b = x) h h4 := u3.trans (u4.mono (fun _ _ z => z.elim))
  clear u4 hc
  (repeat (first | refine ER.move rfl rfl rfl ?_ | refine ER.extract rfl rfl rfl rfl ?_ | refine ER.allocA rfl rfl ?_))
  refine ER.storeN (vs := vs) rfl rfl rfl hvs hl8 (acc_all (vs := acc0) rfl (get_push_new _ _)) ?_
  rw [hsetRow_push (c := [.int .i64 0, .int .i8 0, .int .i64 0, .int .i64 0, .int .i64 0, .int .i64 0, .int .i64 0, .bool false]) (vs := vs) (by rw [hvs]; rfl)]
  refine ER.gen (fun h' => WkI R nm lL lW lY lV h0 W ((nums R.log).map R.v0) { s with q := q } h' ∧ Upd (fun b => b = x) h h' ∧ h'[x]? = some (wrO W i out t2)) ⟨I.upd0 (Upd.push _ _), u3.trans (Upd.push _ _), get_push _ hx⟩ ?_
  clear I u3 hx
  rintro h5 ⟨I, u5, hx⟩
  have x0 : hcell h5 ⟨x, 0, none⟩ = some (ptr W) := hcell_of hx rfl
  have x1 : hcell h5 ⟨x, 1, none⟩ = some (.int .i64 i) := hcell_of hx rfl
  have x2 : hcell h5 ⟨x, 2, none⟩ = some (.bool out) := hcell_of hx rfl
  (repeat (first | refine EK.seq ?_ | refine ER.done ?_ | refine ER.assign rfl rfl rfl ?_))
  refine EK.regionAny (fun h' => h' = h5) ?_
  have hZ : h5 = h5 := rfl
  refine EA.tMove 0 rfl (by kernel_rfl) rfl rfl rfl rfl hZ ?_
  refine EA.tMove 1 rfl (by kernel_rfl) rfl rfl rfl rfl hZ ?_
  refine EA.tMove 2 rfl (by kernel_rfl) rfl rfl rfl rfl hZ ?_
  refine EA.tMove 3 rfl (by kernel_rfl) rfl rfl rfl rfl hZ ?_
  refine EA.tNil 4 rfl (by kernel_rfl) rfl rfl rfl rfl hZ ?_
  refine EA.tField 5 rfl (by kernel_rfl) rfl rfl rfl rfl hZ ?_
  refine EA.tLoad 6 rfl (by kernel_rfl) rfl rfl rfl rfl (fun _ hz => (by rw [hz]; exact x2)) hZ ?_
  refine EA.tNeqB (r := true) 7 rfl (by kernel_rfl) rfl rfl rfl rfl rfl (by cases out <;> rfl) hZ ?_
  refine EA.tPickF 8 rfl (by kernel_rfl) rfl rfl rfl rfl rfl hZ ?_
  refine EA.tMove 9 rfl (by kernel_rfl) rfl rfl rfl rfl hZ ?_
  refine EA.tMove 10 rfl (by kernel_rfl) rfl rfl rfl rfl hZ ?_
  refine EA.tMove 11 rfl (by kernel_rfl) rfl rfl rfl rfl hZ ?_
  refine EA.takeNo 12 rfl (by kernel_rfl) rfl rfl rfl hZ ?_
  refine EA.takeNo 13 rfl (by kernel_rfl) rfl rfl rfl hZ ?_
  refine EA.takeNo 14 rfl (by kernel_rfl) rfl rfl rfl hZ ?_
  refine EA.takeNo 15 rfl (by kernel_rfl) rfl rfl rfl hZ ?_
  refine EA.takeNo 16 rfl (by kernel_rfl) rfl rfl rfl hZ ?_
  refine EA.takeNo 17 rfl (by kernel_rfl) rfl rfl rfl hZ ?_
  refine EA.takeNo 18 rfl (by kernel_rfl) rfl rfl rfl hZ ?_
  refine EA.takeNo 19 rfl (by kernel_rfl) rfl rfl rfl hZ ?_
  refine EA.takeNo 20 rfl (by kernel_rfl) rfl rfl rfl hZ ?_
  refine EA.takeNo 21 rfl (by kernel_rfl) rfl rfl rfl hZ ?_
  refine EA.takeNo 22 rfl (by kernel_rfl) rfl rfl rfl hZ ?_
  refine EA.takeNo 23 rfl (by kernel_rfl) rfl rfl rfl hZ ?_
  refine EA.takeNo 24 rfl (by kernel_rfl) rfl rfl rfl hZ ?_
  refine EA.takeNo 25 rfl (by kernel_rfl) rfl rfl rfl hZ ?_
  refine EA.takeNo 26 rfl (by kernel_rfl) rfl rfl rfl hZ ?_
  refine EA.tPickF 27 rfl (by kernel_rfl) rfl rfl rfl rfl rfl hZ ?_
  refine EA.tPickF 28 rfl (by kernel_rfl) rfl rfl rfl rfl rfl hZ ?_
  refine EA.done (by kernel_rfl) ?_
  (repeat (first | refine EK.seq ?_ | refine EK.skip ?_ | refine EK.condF rfl ?_))
  refine EK.regionAny (fun h' => h' = h5) ?_
  refine EA.tMove 0 rfl (by kernel_rfl) rfl rfl rfl rfl hZ ?_
  refine EA.tNot 1 rfl (by kernel_rfl) rfl rfl rfl rfl hZ ?_
  refine EA.tMove 2 rfl (by kernel_rfl) rfl rfl rfl rfl hZ ?_
  refine EA.tMove 3 rfl (by kernel_rfl) rfl rfl rfl rfl hZ ?_
  refine EA.tNil 4 rfl (by kernel_rfl) rfl rfl rfl rfl hZ ?_
  refine EA.tField 5 rfl (by kernel_rfl) rfl rfl rfl rfl hZ ?_
  refine EA.tLoad 6 rfl (by kernel_rfl) rfl rfl rfl rfl (fun _ hz => (by rw [hz]; exact x0)) hZ ?_
  refine EA.tMove 7 rfl (by kernel_rfl) rfl rfl rfl rfl hZ ?_
  refine EA.tNil 8 rfl (by kernel_rfl) rfl rfl rfl rfl hZ ?_
  refine EA.tField 9 rfl (by kernel_rfl) rfl rfl rfl rfl hZ ?_
  refine EA.tLoad 10 rfl (by kernel_rfl) rfl rfl rfl rfl (fun _ hz => (by rw [hz]; exact x1)) hZ ?_
  refine EA.callD 11 rfl (by kernel_rfl) rfl rfl rfl rfl rfl rfl (fell_ok I) hZ ?_
  refine EA.tPickT 12 rfl (by kernel_rfl) rfl rfl rfl rfl rfl hZ ?_
  refine EA.done (by kernel_rfl) ?_
  (repeat (first | refine EK.skip ?_ | refine EK.condF rfl ?_))
  exact EK.done (EU.ret0 rfl ⟨rfl, ⟨q, I, N⟩, u5⟩)
end
end Go.Proofs.Ytcpcdnkemobneaa
end
