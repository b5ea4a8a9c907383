/- Steps of the walk and of the plain law (WkF to ChkH). Conditions: as each lemma says. -/
import Derived.Test.YtcpcdnkemobneaaPPE
namespace Go.Proofs.Ytcpcdnkemobneaa
section
open Go Go.TJ Go.Conc Go.Proofs
section
variable {Γ : Type} {main : Bool} {S : Sit Γ} {δ : Ix Γ} {R : Rec} {nm : Nat -> Nme} {lL lW lY lV sP : Value} {h0 h h' : Hp} {W x i t : Nat} {s : WS} {picks : List Int} {X : Us} {A : Type} {pf p : Pr A} {r : Rq} {k : Int -> Pr A} {l : List Ev} {o : List A}
theorem WC.log_at (C : WC X picks R nm lL lW lY lV sP h0 s) {e : Ev} (he : e ∈ R.log) : X.isC e.b /\ (nums R.log)[(nums R.log).idxOf e.b]? = some e.b := by
  obtain ⟨k, hk, rfl⟩ := List.mem_iff_getElem.1 he
  have hk' := List.getElem?_eq_getElem hk
  obtain ⟨w, i, r, _, hr, e1, _⟩ := C.ok.chain.inv hk'
  refine ⟨by rw [e1]; exact hr.cell, ?_⟩
  have hm : (R.log[k]).b ∈ nums R.log := (nums_mem _ _).2 ⟨_, he, rfl⟩
  have hlt := List.idxOf_lt_length_iff.2 hm
  rw [List.getElem?_eq_getElem hlt]
  simp
theorem RecOk.left_uniq (ok : RecOk X picks R) {q q' : Nat × Rq} (h : q ∈ R.left) (h' : q' ∈ R.left) (e : q.1 = q'.1) : q = q' := by
  obtain ⟨j, hj, rfl⟩ := List.mem_iff_getElem.1 h
  obtain ⟨j', hj', rfl⟩ := List.mem_iff_getElem.1 h'
  have hp := List.pairwise_iff_getElem.1 ok.rise
  rcases Nat.lt_trichotomy j j' with y | y | y
  · have := hp j j' hj hj' y; omega
  · subst y; rfl
  · have := hp j' j hj' hj y; omega
set_option maxHeartbeats 16000000 in
set_option maxRecDepth 8000 in
theorem does_ok (C : WC X picks R nm lL lW lY lV sP h0 s) (hpf : PF R i pf) (w : WIn R nm lL lW lY lV h0 W s pf x i (.step r k) l o h) {n : Nme} (hn : n = nm r.b) :
    CallW Try.prog main (NoS (Γ := Γ)) 154 #[ptr x, .int .i8 r.op, nmeV n, .int .i64 r.arg, .int .i64 r.new] h δ (Ret fun v h' δ' => δ' = δ /\ Upd (WT s x) h h' /\ ((∃ w l', l = evOf i r w :: l' /\ v = .agg (entL (nums R.log) (evOf i r w)).toArray /\ WIn R nm lL lW lY lV h0 W s pf x i (k w) l' o h') \/ (o = [] /\ v = .agg acc0.toArray /\ WOu R nm lL lW lY lV h0 W s x i h'))) := by
  subst hn
  have hlen : R.log.length <= 65536 := Nat.le_trans C.ok.len C.ok.most
  have hnl := Nat.le_trans (nums_len R.log) hlen
  have hll := C.ok.left_len
  have wcases := w.cases
  have wt := w.wt
  obtain ⟨op, b, arg, new⟩ := r
  obtain ⟨⟨q, I, N⟩, ⟨⟨t, ht, hl, hx⟩, -⟩, hx0⟩ := w
  dsimp only
  have u0 : Upd (fun _ => False) h ((h.push (nmeO (nm b))).push (accO acc0)) := (Upd.push _ _).trans (Upd.push _ _)
  obtain ⟨yN, hyN⟩ : ∃ yN, yN = h.size := ⟨_, rfl⟩
  obtain ⟨y, hy⟩ : ∃ y, y = h.size + 1 := ⟨_, rfl⟩
  have gN : ((h.push (nmeO (nm b))).push (accO acc0))[yN]? = some (nmeO (nm b)) := by rw [hyN]; exact get_push _ (get_push_new _ _)
  have gy : ((h.push (nmeO (nm b))).push (accO acc0))[y]? = some (accO acc0) := by
    have := get_push_new (h.push (nmeO (nm b))) (accO acc0)
    rw [Array.size_push] at this
    rw [hy]; exact this
  refine CallW.start (n := 122) rfl rfl ?_
  (repeat (first | refine EK.seq ?_ | refine EK.region ?_ | refine ER.done ?_ | refine ER.move rfl rfl rfl ?_ | refine ER.nilCheck rfl rfl rfl ?_ | refine ER.fieldAddr rfl rfl rfl ?_ | refine ER.boxA rfl rfl rfl ?_ | refine ER.allocA rfl rfl ?_))
  simp only [Array.size_push]
  refine ER.gen (fun h' => WkI R nm lL lW lY lV h0 W ((nums R.log).map R.v0) { s with q := q } h' /\ Upd (fun _ => False) h h' /\ h'[x]? = some (wrO W i false t) /\ h'[yN]? = some (nmeO (nm b)) /\ h'[y]? = some (accO acc0)) ⟨I.upd0 u0, u0, get_push _ (get_push _ hx), gN, gy⟩ ?_
  rw [<- hy, <- hyN]
  have hxl := lt_of_get hx
  have h00 := I.up.size
  have nT : ∀ c, (blk s.nv = some c \/ blk s.gv = some c) -> c < h.size := fun c hc => (wt c (.inr hc)).2
  clear I hx gN gy u0
  rintro h1 ⟨I, u1, hx, gN, gy⟩
  have x2 : hcell h1 ⟨x, 2, none⟩ = some (.bool false) := hcell_of hx rfl
  have hs1 := u1.size
  (repeat (first | refine EK.seq ?_ | refine EK.region ?_ | refine ER.done ?_ | refine EK.skip ?_ | refine ER.move rfl rfl rfl ?_ | refine ER.load1 rfl rfl rfl (hcell_of (by assumption) rfl) ?_ | refine EK.condF rfl ?_))
  refine ER.callR rfl rfl rfl rfl rfl (wnext_ok C.m hlen I hx hx0 ht) ?_
  clear I hx x2
  rintro _ h2 δ2 ⟨rfl, t2, ht2, hx, I, u2, hc⟩
  replace gN := u2.get gN (by omega)
  replace gy := u2.get gy (by omega)
  have hs2 := u2.size
  have hgy := lt_of_get gy
  have uu : Upd (WT s x) h h2 := upd_then (u1.mono (fun _ _ z => z.elim)) u2 (fun c _ hc => .inl hc)
  clear u1 u2
  rcases hc with ⟨e, ho, he, rfl⟩ | ⟨ho, ho2, rfl⟩
  · obtain ⟨w', l', e1, gk⟩ : ∃ v l', ownFrom R i t2 = l' /\ e = evOf i ⟨op, b, arg, new⟩ v /\ l = e :: l' /\ Goes i (k v) l' o pf := by
      rw [hl] at ho
      rcases wcases with ⟨v, l', e1, g⟩ | ⟨e1, -, -⟩
      · rw [ho] at e1
        injection e1 with e1 e2
        exact ⟨v, l', e2, e1, by rw [ho, e2], g⟩
      · rw [ho] at e1; cases e1
    obtain ⟨e2, e3, gk⟩ := gk
    subst e2
    obtain ⟨hbc, hb⟩ := C.log_at he
    change X.isC b at hbc
    change (nums R.log)[(nums R.log).idxOf b]? = some b at hb
    have hF : ((nums R.log).map R.v0)[(nums R.log).idxOf b]? = some (lookN s.hs (nm b)) := by rw [List.getElem?_map, hb, C.beg b hbc]; rfl
    have hinj : ∀ b', b' ∈ nums R.log -> nm b' = nm b -> b' = b := fun b' hb' e => C.inj b' b (by
      obtain ⟨e', he', rfl⟩ := (nums_mem _ _).1 hb'
      exact (C.log_at he').1) hbc e
    obtain ⟨z, hz⟩ : ∃ z, z = h2.size := ⟨_, rfl⟩
    (repeat (first | refine ER.move rfl rfl rfl ?_ | refine ER.extract rfl rfl rfl rfl ?_ | refine ER.allocA rfl rfl ?_))
    refine ER.storeN (vs := entL (nums R.log) (evOf i ⟨op, b, arg, new⟩ w')) rfl rfl rfl rfl (by simp [entL, accL, OneCell]) (acc_all (vs := acc0) rfl (get_push_new _ _)) ?_
    rw [hsetRow_push (c := [.int .i64 0, .int .i8 0, .int .i64 0, .int .i64 0, .int .i64 0, .int .i64 0, .int .i64 0, .bool false]) (vs := entL (nums R.log) (evOf i ⟨op, b, arg, new⟩ w')) rfl]
    refine ER.gen (fun h' => WkI R nm lL lW lY lV h0 W ((nums R.log).map R.v0) { s with q := q } h' /\ Upd (WT s x) h h' /\ h'[x]? = some (wrO W i false t2) /\ h'[yN]? = some (nmeO (nm b)) /\ h'[y]? = some (accO acc0) /\ h'[z]? = some (accO (entL (nums R.log) (evOf i ⟨op, b, arg, new⟩ w')))) ⟨I.upd0 (Upd.push _ _), uu.trans (Upd.push _ _), get_push _ hx, get_push _ gN, get_push _ gy, by rw [hz]; exact get_push_new _ _⟩ ?_
    rw [<- hz]
    clear I uu hx gN gy
    rintro h3 ⟨I, u3, hx, gN, gy, gz⟩
    have z1 : hcell h3 ⟨z, 1, none⟩ = some (.int .i8 op) := hcell_of gz rfl
    have z2 : hcell h3 ⟨z, 2, none⟩ = some (.int .i64 ((nums R.log).idxOf b : Nat)) := hcell_of gz rfl
    have z3 : hcell h3 ⟨z, 3, none⟩ = some (.int .i64 arg) := hcell_of gz rfl
    have z4 : hcell h3 ⟨z, 4, none⟩ = some (.int .i64 new) := hcell_of gz rfl
    have x0 : hcell h3 ⟨x, 0, none⟩ = some (ptr W) := hcell_of hx rfl
    have rN : TJ.hrow h3 yN 0 (nmeL (nm b)) := hrow_block (rest := []) (by rw [List.append_nil]; exact gN)
    generalize (nums R.log).idxOf b = ix at hb hF z2
    (repeat (first | refine EK.seq ?_ | refine EK.region ?_ | refine ER.done ?_ | refine ER.move rfl rfl rfl ?_ | refine ER.assign rfl rfl rfl ?_ | refine EK.condT rfl ?_))
    refine EK.regionAny (fun h' => hcell h' ⟨z, 1, none⟩ = some (.int .i8 op) /\ hcell h' ⟨z, 2, none⟩ = some (.int .i64 ix) /\ hcell h' ⟨z, 3, none⟩ = some (.int .i64 arg) /\ hcell h' ⟨z, 4, none⟩ = some (.int .i64 new) /\ hcell h' ⟨x, 0, none⟩ = some (ptr W) /\ TJ.hrow h' yN 0 (nmeL (nm b))) ?_
    have hZ : _ /\ _ /\ _ /\ _ /\ _ /\ _ := And.intro z1 ⟨z2, z3, z4, x0, rN⟩
    refine EA.tField 0 rfl (by kernel_rfl) rfl rfl rfl rfl hZ ?_
    refine EA.tLoad 1 rfl (by kernel_rfl) rfl rfl rfl rfl (fun _ hz => hz.1) hZ ?_
    refine EA.tMove 2 rfl (by kernel_rfl) rfl rfl rfl rfl hZ ?_
    refine EA.tCmpF 3 rfl (by kernel_rfl) rfl rfl rfl rfl rfl rfl (by first | (dsimp only [cmpP]; omega) | exact rfl | exact Int.le_refl _) hZ ?_
    refine EA.tMove 4 rfl (by kernel_rfl) rfl rfl rfl rfl hZ ?_
    refine EA.tField 5 rfl (by kernel_rfl) rfl rfl rfl rfl hZ ?_
    refine EA.tLoad 6 rfl (by kernel_rfl) rfl rfl rfl rfl (fun _ hz => hz.2.2.1) hZ ?_
    refine EA.tMove 7 rfl (by kernel_rfl) rfl rfl rfl rfl hZ ?_
    refine EA.tCmpF 8 rfl (by kernel_rfl) rfl rfl rfl rfl rfl rfl (by first | (dsimp only [cmpP]; omega) | exact rfl | exact Int.le_refl _) hZ ?_
    refine EA.tPickF 9 rfl (by kernel_rfl) rfl rfl rfl rfl rfl hZ ?_
    refine EA.tMove 10 rfl (by kernel_rfl) rfl rfl rfl rfl hZ ?_
    refine EA.tField 11 rfl (by kernel_rfl) rfl rfl rfl rfl hZ ?_
    refine EA.tLoad 12 rfl (by kernel_rfl) rfl rfl rfl rfl (fun _ hz => hz.2.2.2.1) hZ ?_
    refine EA.tMove 13 rfl (by kernel_rfl) rfl rfl rfl rfl hZ ?_
    refine EA.tCmpF 14 rfl (by kernel_rfl) rfl rfl rfl rfl rfl rfl (by first | (dsimp only [cmpP]; omega) | exact rfl | exact Int.le_refl _) hZ ?_
    refine EA.tPickF 15 rfl (by kernel_rfl) rfl rfl rfl rfl rfl hZ ?_
    refine EA.tMove 16 rfl (by kernel_rfl) rfl rfl rfl rfl hZ ?_
    refine EA.tMove 17 rfl (by kernel_rfl) rfl rfl rfl rfl hZ ?_
    refine EA.tNil 18 rfl (by kernel_rfl) rfl rfl rfl rfl hZ ?_
    refine EA.tField 19 rfl (by kernel_rfl) rfl rfl rfl rfl hZ ?_
    refine EA.tLoad 20 rfl (by kernel_rfl) rfl rfl rfl rfl (fun _ hz => hz.2.2.2.2.1) hZ ?_
    refine EA.tField 21 rfl (by kernel_rfl) rfl rfl rfl rfl hZ ?_
    refine EA.tLoad 22 rfl (by kernel_rfl) rfl rfl rfl rfl (fun _ hz => hz.2.1) hZ ?_
    refine EA.tLoadN (vs := nmeL (nm b)) 23 rfl (by kernel_rfl) rfl rfl rfl rfl rfl (fun _ hz => hz.2.2.2.2.2) hZ ?_
    refine EA.callR 24 rfl (by kernel_rfl) rfl rfl rfl rfl rfl rfl (is_ok (s := { s with q := q }) I N hb hF hinj hnl C.hsl) ?_
    rintro _ h4 δ4 ⟨rfl, rfl, I4, u4⟩
    have nx : ∀ c, (blk s.nv = some c \/ blk s.gv = some c) -> c ≠ x := fun c hc => hc.elim (fun y => sliceO_ne I.nms hx (by decide) c y) (fun y => sliceO_ne I.giv hx (by decide) c y)
    have nz : ¬ (blk s.nv = some z \/ blk s.gv = some z) := fun hc => by have := nT _ hc; omega
    have nN : ¬ (blk s.nv = some yN \/ blk s.gv = some yN) := fun hc => by have := nT _ hc; omega
    have ny : ¬ (blk s.nv = some y \/ blk s.gv = some y) := fun hc => by have := nT _ hc; omega
    replace hx := u4.get hx (fun hc => nx x hc rfl)
    replace gN := u4.get gN nN
    replace gy := u4.get gy ny
    replace gz := u4.get gz nz
    have z1 : hcell h4 ⟨z, 1, none⟩ = some (.int .i8 op) := u4.hcell z1 nz
    have z2 : hcell h4 ⟨z, 2, none⟩ = some (.int .i64 ix) := u4.hcell z2 nz
    have z3 : hcell h4 ⟨z, 3, none⟩ = some (.int .i64 arg) := u4.hcell z3 nz
    have z4 : hcell h4 ⟨z, 4, none⟩ = some (.int .i64 new) := u4.hcell z4 nz
    have x0 : hcell h4 ⟨x, 0, none⟩ = some (ptr W) := hcell_of hx rfl
    have rN : TJ.hrow h4 yN 0 (nmeL (nm b)) := hrow_block (rest := []) (by rw [List.append_nil]; exact gN)
    have hZ : _ /\ _ /\ _ /\ _ /\ _ /\ _ := And.intro z1 ⟨z2, z3, z4, x0, rN⟩
    refine ⟨hZ, ?_⟩
    refine EA.tNot 25 rfl (by kernel_rfl) rfl rfl rfl rfl hZ ?_
    refine EA.tPickF 26 rfl (by kernel_rfl) rfl rfl rfl rfl rfl hZ ?_
    refine EA.done (by kernel_rfl) ?_
    have uu : Upd (WT s x) h h4 := upd_then u3 u4 (fun c _ hc => .inr hc)
    clear hZ I u3 u4 z1 z2 z3 z4 x0 rN nx
    (repeat (first | refine EK.seq ?_ | refine EK.region ?_ | refine EK.skip ?_ | refine EK.condF rfl ?_))
    refine ER.loadN (vs := entL (nums R.log) (evOf i ⟨op, b, arg, new⟩ w')) rfl rfl rfl rfl (hrow_block (rest := []) (by rw [List.append_nil]; exact gz)) ?_
    refine ER.storeN (vs := entL (nums R.log) (evOf i ⟨op, b, arg, new⟩ w')) rfl rfl rfl rfl (by simp [entL, accL, OneCell]) (acc_all rfl gy) ?_
    rw [row_set (c := acc0) (vs := entL (nums R.log) (evOf i ⟨op, b, arg, new⟩ w')) gy rfl]
    (repeat (first | refine ER.done ?_ | refine EK.ret ?_))
    refine EU.retCell1 (vs := entL (nums R.log) (evOf i ⟨op, b, arg, new⟩ w')) rfl rfl rfl (hrow_block (rest := []) (by rw [List.append_nil]; exact get_set_same gy)) ⟨rfl, upd_then uu (Upd.set (T := fun c => c = y) _ _ _ rfl) (fun c hc e => by omega), .inl ⟨w', l', e3, rfl, ⟨⟨_, I4.other gy (by omega) (by decide) (by decide) (by decide) (by decide) _, N.set hb⟩, ⟨⟨t2, ht2, e1, by rw [get_set_ne _ (by omega)]; exact hx⟩, gk⟩, hx0⟩⟩⟩
  · obtain ⟨eo, epf⟩ : o = [] /\ pf = .step ⟨op, b, arg, new⟩ k := by
      rw [hl] at ho
      rcases wcases with ⟨v, l', e1, g⟩ | ⟨-, e2, e3⟩
      · rw [ho] at e1; cases e1
      · exact ⟨e2, e3⟩
    subst eo
    have hmem : (i, (⟨op, b, arg, new⟩ : Rq)) ∈ R.left := by
      rcases hpf with ⟨r', k', hm, e⟩ | ⟨-, e⟩
      · rw [epf] at e
        injection e with e e'
        subst e
        exact hm
      · rw [epf] at e; cases e
    clear wcases hpf epf ho
    have hbc : X.isC b := (C.ok.left _ hmem).2.cell
    obtain ⟨z, hz⟩ : ∃ z, z = h2.size := ⟨_, rfl⟩
    (repeat (first | refine ER.move rfl rfl rfl ?_ | refine ER.extract rfl rfl rfl rfl ?_ | refine ER.allocA rfl rfl ?_))
    refine ER.storeN (vs := acc0) rfl rfl rfl rfl (by simp [accL, OneCell]) (acc_all (vs := acc0) rfl (get_push_new _ _)) ?_
    rw [hsetRow_push (c := [.int .i64 0, .int .i8 0, .int .i64 0, .int .i64 0, .int .i64 0, .int .i64 0, .int .i64 0, .bool false]) (vs := acc0) rfl]
    refine ER.gen (fun h' => WkI R nm lL lW lY lV h0 W ((nums R.log).map R.v0) { s with q := q } h' /\ Upd (WT s x) h h' /\ h'[x]? = some (wrO W i false t2) /\ h'[yN]? = some (nmeO (nm b)) /\ h'[y]? = some (accO acc0) /\ h'[z]? = some (accO acc0)) ⟨I.upd0 (Upd.push _ _), uu.trans (Upd.push _ _), get_push _ hx, get_push _ gN, get_push _ gy, by rw [hz]; exact get_push_new _ _⟩ ?_
    rw [<- hz]
    clear I uu hx gN gy
    rintro h3 ⟨I, u3, hx, gN, gy, gz⟩
    (repeat (first | refine EK.seq ?_ | refine EK.region ?_ | refine ER.done ?_ | refine EK.skip ?_ | refine ER.move rfl rfl rfl ?_ | refine ER.assign rfl rfl rfl ?_ | refine EK.condF rfl ?_))
    refine ER.callR rfl rfl rfl rfl rfl (wleft_ok C.m (Nat.le_trans hll (by decide)) I hx hx0) ?_
    rintro _ h4 δ4 ⟨rfl, u4, hc⟩
    obtain ⟨q', hq', e4, rfl⟩ : ∃ q', q' ∈ R.left /\ q'.1 = i /\ _ := hc.resolve_right fun hn => hn.1 _ hmem rfl
    obtain rfl := C.ok.left_uniq hq' hmem e4
    clear e4 hq' hc
    replace I := I.upd0 u4
    replace hx := u4.get hx (fun z => z)
    replace gN := u4.get gN (fun z => z)
    replace gy := u4.get gy (fun z => z)
    replace gz := u4.get gz (fun z => z)
    replace u3 : Upd (WT s x) h h4 := upd_then u3 u4 (fun _ _ z => z.elim)
    clear u4
    obtain ⟨cv, hcv⟩ : ∃ cv : Int, cv = if b ∈ nums R.log then ((nums R.log).idxOf b : Int) else -1 := ⟨_, rfl⟩
    have eL : leftE (nums R.log) R.val (i, ⟨op, b, arg, new⟩) = accL i op cv arg new (R.val b) (R.val b) false := by rw [hcv]; rfl
    rw [eL]
    (repeat (first | refine ER.move rfl rfl rfl ?_ | refine ER.extract rfl rfl rfl rfl ?_))
    refine ER.storeN (vs := accL i op cv arg new (R.val b) (R.val b) false) rfl rfl rfl rfl (by simp [accL, OneCell]) (acc_all rfl gz) ?_
    rw [row_set (c := acc0) (vs := accL i op cv arg new (R.val b) (R.val b) false) gz rfl]
    refine ER.gen (fun h' => WkI R nm lL lW lY lV h0 W ((nums R.log).map R.v0) { s with q := q } h' /\ Upd (WT s x) h h' /\ h'[x]? = some (wrO W i false t2) /\ h'[yN]? = some (nmeO (nm b)) /\ h'[y]? = some (accO acc0) /\ h'[z]? = some (accO (accL i op cv arg new (R.val b) (R.val b) false))) ⟨I.other gz (by omega) (by decide) (by decide) (by decide) (by decide) _, upd_then u3 (Upd.set (T := fun c => c = z) _ _ _ rfl) (fun c hc e => by omega), by rw [get_set_ne _ (by omega)]; exact hx, by rw [get_set_ne _ (by omega)]; exact gN, by rw [get_set_ne _ (by omega)]; exact gy, get_set_same gz⟩ ?_
    clear I u3 hx gN gy gz
    rintro h5 ⟨I, u5, hx, gN, gy, gz⟩
    have z1 : hcell h5 ⟨z, 1, none⟩ = some (.int .i8 op) := hcell_of gz rfl
    have z2 : hcell h5 ⟨z, 2, none⟩ = some (.int .i64 cv) := hcell_of gz rfl
    have z3 : hcell h5 ⟨z, 3, none⟩ = some (.int .i64 arg) := hcell_of gz rfl
    have z4 : hcell h5 ⟨z, 4, none⟩ = some (.int .i64 new) := hcell_of gz rfl
    have z5 : hcell h5 ⟨z, 5, none⟩ = some (.int .i64 (R.val b)) := hcell_of gz rfl
    have x0 : hcell h5 ⟨x, 0, none⟩ = some (ptr W) := hcell_of hx rfl
    have rN : TJ.hrow h5 yN 0 (nmeL (nm b)) := hrow_block (rest := []) (by rw [List.append_nil]; exact gN)
    (repeat (first | refine EK.seq ?_ | refine ER.done ?_ | refine ER.assign rfl rfl rfl ?_))
    refine EK.join (fun _ : Unit => [(10, ptr y), (0, ptr x), (111, .bool false)]) (fun _ h' δ' => δ' = δ4 /\ WAll R nm lL lW lY lV h0 W s h' /\ Upd (WT s x) h h' /\ h'[x]? = some (wrO W i false t2) /\ h'[y]? = some (accO acc0)) (fun key => ?_) ?_
    · refine EK.regionAny (fun h' => hcell h' ⟨z, 1, none⟩ = some (.int .i8 op) /\ hcell h' ⟨z, 2, none⟩ = some (.int .i64 cv) /\ hcell h' ⟨z, 3, none⟩ = some (.int .i64 arg) /\ hcell h' ⟨z, 4, none⟩ = some (.int .i64 new) /\ hcell h' ⟨z, 5, none⟩ = some (.int .i64 (R.val b)) /\ hcell h' ⟨x, 0, none⟩ = some (ptr W) /\ TJ.hrow h' yN 0 (nmeL (nm b))) ?_
      have hZ : _ /\ _ /\ _ /\ _ /\ _ /\ _ /\ _ := And.intro z1 ⟨z2, z3, z4, z5, x0, rN⟩
      refine EA.tMove 0 rfl (by kernel_rfl) rfl rfl rfl rfl hZ ?_
      refine EA.tNot 1 rfl (by kernel_rfl) rfl rfl rfl rfl hZ ?_
      refine EA.tMove 2 rfl (by kernel_rfl) rfl rfl rfl rfl hZ ?_
      refine EA.tField 3 rfl (by kernel_rfl) rfl rfl rfl rfl hZ ?_
      refine EA.tLoad 4 rfl (by kernel_rfl) rfl rfl rfl rfl (fun _ hz => hz.1) hZ ?_
      refine EA.tMove 5 rfl (by kernel_rfl) rfl rfl rfl rfl hZ ?_
      refine EA.tCmpF 6 rfl (by kernel_rfl) rfl rfl rfl rfl rfl rfl (by first | (dsimp only [cmpP]; omega) | exact rfl | exact Int.le_refl _) hZ ?_
      refine EA.tPickF 7 rfl (by kernel_rfl) rfl rfl rfl rfl rfl hZ ?_
      refine EA.tMove 8 rfl (by kernel_rfl) rfl rfl rfl rfl hZ ?_
      refine EA.tField 9 rfl (by kernel_rfl) rfl rfl rfl rfl hZ ?_
      refine EA.tLoad 10 rfl (by kernel_rfl) rfl rfl rfl rfl (fun _ hz => hz.2.2.1) hZ ?_
      refine EA.tMove 11 rfl (by kernel_rfl) rfl rfl rfl rfl hZ ?_
      refine EA.tCmpF 12 rfl (by kernel_rfl) rfl rfl rfl rfl rfl rfl (by first | (dsimp only [cmpP]; omega) | exact rfl | exact Int.le_refl _) hZ ?_
      refine EA.tPickF 13 rfl (by kernel_rfl) rfl rfl rfl rfl rfl hZ ?_
      refine EA.tMove 14 rfl (by kernel_rfl) rfl rfl rfl rfl hZ ?_
      refine EA.tField 15 rfl (by kernel_rfl) rfl rfl rfl rfl hZ ?_
      refine EA.tLoad 16 rfl (by kernel_rfl) rfl rfl rfl rfl (fun _ hz => hz.2.2.2.1) hZ ?_
      refine EA.tMove 17 rfl (by kernel_rfl) rfl rfl rfl rfl hZ ?_
      refine EA.tCmpF 18 rfl (by kernel_rfl) rfl rfl rfl rfl rfl rfl (by first | (dsimp only [cmpP]; omega) | exact rfl | exact Int.le_refl _) hZ ?_
      refine EA.tPickF 19 rfl (by kernel_rfl) rfl rfl rfl rfl rfl hZ ?_
      refine EA.tMove 20 rfl (by kernel_rfl) rfl rfl rfl rfl hZ ?_
      refine EA.tField 21 rfl (by kernel_rfl) rfl rfl rfl rfl hZ ?_
      refine EA.tLoad 22 rfl (by kernel_rfl) rfl rfl rfl rfl (fun _ hz => hz.2.1) hZ ?_
      by_cases hbn : b ∈ nums R.log
      · rw [if_pos hbn] at hcv
        obtain ⟨-, hb⟩ : True /\ (nums R.log)[(nums R.log).idxOf b]? = some b := ⟨trivial, by
          have hlt := List.idxOf_lt_length_iff.2 hbn
          rw [List.getElem?_eq_getElem hlt]; simp⟩
        have hF : ((nums R.log).map R.v0)[(nums R.log).idxOf b]? = some (lookN s.hs (nm b)) := by rw [List.getElem?_map, hb, C.beg b hbc]; rfl
        have hinj : ∀ b', b' ∈ nums R.log -> nm b' = nm b -> b' = b := fun b' hb' e => C.inj b' b (by
          obtain ⟨e', he', rfl⟩ := (nums_mem _ _).1 hb'
          exact (C.log_at he').1) hbc e
        generalize (nums R.log).idxOf b = ix at hb hF hcv
        subst hcv
        refine EA.tCmpT 23 rfl (by kernel_rfl) rfl rfl rfl rfl rfl rfl (by first | (dsimp only [cmpP]; omega) | exact rfl | exact Int.le_refl _) hZ ?_
        refine EA.tMove 24 rfl (by kernel_rfl) rfl rfl rfl rfl hZ ?_
        refine EA.tMove 25 rfl (by kernel_rfl) rfl rfl rfl rfl hZ ?_
        refine EA.tNil 26 rfl (by kernel_rfl) rfl rfl rfl rfl hZ ?_
        refine EA.tField 27 rfl (by kernel_rfl) rfl rfl rfl rfl hZ ?_
        refine EA.tLoad 28 rfl (by kernel_rfl) rfl rfl rfl rfl (fun _ hz => hz.2.2.2.2.2.1) hZ ?_
        refine EA.tField 29 rfl (by kernel_rfl) rfl rfl rfl rfl hZ ?_
        refine EA.tLoad 30 rfl (by kernel_rfl) rfl rfl rfl rfl (fun _ hz => hz.2.1) hZ ?_
        refine EA.tLoadN (vs := nmeL (nm b)) 31 rfl (by kernel_rfl) rfl rfl rfl rfl rfl (fun _ hz => hz.2.2.2.2.2.2) hZ ?_
        refine EA.callR 32 rfl (by kernel_rfl) rfl rfl rfl rfl rfl rfl (is_ok (s := { s with q := q }) I N hb hF hinj hnl C.hsl) ?_
        rintro _ h6 δ6 ⟨rfl, rfl, I6, u6⟩
        have nx : ¬ (blk s.nv = some x \/ blk s.gv = some x) := fun hc => hc.elim (fun y => sliceO_ne I.nms hx (by decide) x y rfl) (fun y => sliceO_ne I.giv hx (by decide) x y rfl)
        have nz : ¬ (blk s.nv = some z \/ blk s.gv = some z) := fun hc => by have := nT _ hc; omega
        have nN : ¬ (blk s.nv = some yN \/ blk s.gv = some yN) := fun hc => by have := nT _ hc; omega
        have ny : ¬ (blk s.nv = some y \/ blk s.gv = some y) := fun hc => by have := nT _ hc; omega
        have hZ : _ /\ _ /\ _ /\ _ /\ _ /\ _ /\ _ := And.intro (u6.hcell z1 nz) ⟨u6.hcell z2 nz, u6.hcell z3 nz, u6.hcell z4 nz, u6.hcell z5 nz, u6.hcell x0 nx, fun j v hv => u6.hcell (rN j v hv) nN⟩
        refine ⟨hZ, ?_⟩
        refine EA.tNot 33 rfl (by kernel_rfl) rfl rfl rfl rfl hZ ?_
        refine EA.tPickT 34 rfl (by kernel_rfl) rfl rfl rfl rfl rfl hZ ?_
        refine EA.tPickF 35 rfl (by kernel_rfl) rfl rfl rfl rfl rfl hZ ?_
        refine EA.tMove 36 rfl (by kernel_rfl) rfl rfl rfl rfl hZ ?_
        refine EA.tField 37 rfl (by kernel_rfl) rfl rfl rfl rfl hZ ?_
        refine EA.tLoad 38 rfl (by kernel_rfl) rfl rfl rfl rfl (fun _ hz => hz.2.1) hZ ?_
        refine EA.tCmpF 39 rfl (by kernel_rfl) rfl rfl rfl rfl rfl rfl (by first | (dsimp only [cmpP]; omega) | exact rfl | exact Int.le_refl _) hZ ?_
        refine EA.tMove 40 rfl (by kernel_rfl) rfl rfl rfl rfl hZ ?_
        refine EA.takeNo 41 rfl (by kernel_rfl) rfl rfl rfl hZ ?_
        refine EA.takeNo 42 rfl (by kernel_rfl) rfl rfl rfl hZ ?_
        refine EA.takeNo 43 rfl (by kernel_rfl) rfl rfl rfl hZ ?_
        refine EA.takeNo 44 rfl (by kernel_rfl) rfl rfl rfl hZ ?_
        refine EA.takeNo 45 rfl (by kernel_rfl) rfl rfl rfl hZ ?_
        refine EA.takeNo 46 rfl (by kernel_rfl) rfl rfl rfl hZ ?_
        refine EA.takeNo 47 rfl (by kernel_rfl) rfl rfl rfl hZ ?_
        refine EA.takeNo 48 rfl (by kernel_rfl) rfl rfl rfl hZ ?_
        refine EA.takeNo 49 rfl (by kernel_rfl) rfl rfl rfl hZ ?_
        refine EA.tPickF 50 rfl (by kernel_rfl) rfl rfl rfl rfl rfl hZ ?_
        refine EA.tPickF 51 rfl (by kernel_rfl) rfl rfl rfl rfl rfl hZ ?_
        refine EA.done (by kernel_rfl) ?_
        exact EK.back (key () _ _ ⟨rfl, ⟨_, I6, N.set hb⟩, upd_then u5 u6 (fun c _ hc => .inr hc), u6.get hx nx, u6.get gy ny⟩) ⟨rfl, rfl, rfl, trivial⟩
      · rw [if_neg hbn] at hcv
        subst hcv
        have hvb : R.val b = lookN s.hs (nm b) := by rw [C.ok.chain.first hbn, C.beg b hbc]
        refine EA.tCmpF 23 rfl (by kernel_rfl) rfl rfl rfl rfl rfl rfl (by first | (dsimp only [cmpP]; omega) | exact rfl | exact Int.le_refl _) hZ ?_
        refine EA.tMove 24 rfl (by kernel_rfl) rfl rfl rfl rfl hZ ?_
        refine EA.takeNo 25 rfl (by kernel_rfl) rfl rfl rfl hZ ?_
        refine EA.takeNo 26 rfl (by kernel_rfl) rfl rfl rfl hZ ?_
        refine EA.takeNo 27 rfl (by kernel_rfl) rfl rfl rfl hZ ?_
        refine EA.takeNo 28 rfl (by kernel_rfl) rfl rfl rfl hZ ?_
        refine EA.takeNo 29 rfl (by kernel_rfl) rfl rfl rfl hZ ?_
        refine EA.takeNo 30 rfl (by kernel_rfl) rfl rfl rfl hZ ?_
        refine EA.takeNo 31 rfl (by kernel_rfl) rfl rfl rfl hZ ?_
        refine EA.takeNo 32 rfl (by kernel_rfl) rfl rfl rfl hZ ?_
        refine EA.takeNo 33 rfl (by kernel_rfl) rfl rfl rfl hZ ?_
        refine EA.tPickF 34 rfl (by kernel_rfl) rfl rfl rfl rfl rfl hZ ?_
        refine EA.tPickF 35 rfl (by kernel_rfl) rfl rfl rfl rfl rfl hZ ?_
        refine EA.tMove 36 rfl (by kernel_rfl) rfl rfl rfl rfl hZ ?_
        refine EA.tField 37 rfl (by kernel_rfl) rfl rfl rfl rfl hZ ?_
        refine EA.tLoad 38 rfl (by kernel_rfl) rfl rfl rfl rfl (fun _ hz => hz.2.1) hZ ?_
        refine EA.tCmpT 39 rfl (by kernel_rfl) rfl rfl rfl rfl rfl rfl (by first | (dsimp only [cmpP]; omega) | exact rfl | exact Int.le_refl _) hZ ?_
        refine EA.tMove 40 rfl (by kernel_rfl) rfl rfl rfl rfl hZ ?_
        refine EA.tField 41 rfl (by kernel_rfl) rfl rfl rfl rfl hZ ?_
        refine EA.tLoad 42 rfl (by kernel_rfl) rfl rfl rfl rfl (fun _ hz => hz.2.2.2.2.1) hZ ?_
        refine EA.tMove 43 rfl (by kernel_rfl) rfl rfl rfl rfl hZ ?_
        refine EA.tNil 44 rfl (by kernel_rfl) rfl rfl rfl rfl hZ ?_
        refine EA.tField 45 rfl (by kernel_rfl) rfl rfl rfl rfl hZ ?_
        refine EA.tLoad 46 rfl (by kernel_rfl) rfl rfl rfl rfl (fun _ hz => hz.2.2.2.2.2.1) hZ ?_
        refine EA.tLoadN (vs := nmeL (nm b)) 47 rfl (by kernel_rfl) rfl rfl rfl rfl rfl (fun _ hz => hz.2.2.2.2.2.2) hZ ?_
        refine EA.callR 48 rfl (by kernel_rfl) rfl rfl rfl rfl rfl rfl (begins_ok (s := { s with q := q }) I C.hsl) ?_
        rintro _ h6 δ6 ⟨rfl, rfl, u6⟩
        have hZ : _ /\ _ /\ _ /\ _ /\ _ /\ _ /\ _ := And.intro (u6.hcell z1 (fun x => x)) ⟨u6.hcell z2 (fun x => x), u6.hcell z3 (fun x => x), u6.hcell z4 (fun x => x), u6.hcell z5 (fun x => x), u6.hcell x0 (fun x => x), fun j v hv => u6.hcell (rN j v hv) (fun x => x)⟩
        refine ⟨hZ, ?_⟩
        refine EA.tCmpF 49 rfl (by kernel_rfl) rfl rfl rfl rfl rfl rfl (by first | (dsimp only [cmpP]; omega) | exact rfl | exact Int.le_refl _) hZ ?_
        refine EA.tPickT 50 rfl (by kernel_rfl) rfl rfl rfl rfl rfl hZ ?_
        refine EA.tPickF 51 rfl (by kernel_rfl) rfl rfl rfl rfl rfl hZ ?_
        refine EA.done (by kernel_rfl) ?_
        exact EK.back (key () _ _ ⟨rfl, ⟨q, I.upd0 u6, N⟩, upd_then u5 u6 (fun _ _ hc => hc.elim), u6.get hx (fun x => x), u6.get gy (fun x => x)⟩) ⟨rfl, rfl, rfl, trivial⟩
    clear I u5 hx gN gy gz z1 z2 z3 z4 z5 x0 rN eL hcv
    rintro _ h6 δ6 ⟨rfl, ⟨q6, I, N⟩, u6, hx, gy⟩
    refine EK.condF rfl (EK.skip ?_)
    (repeat (first | refine EK.seq ?_ | refine EK.region ?_ | refine ER.move rfl rfl rfl ?_ | refine ER.nilCheck rfl rfl rfl ?_ | refine ER.fieldAddr rfl rfl rfl ?_))
    have x2 : hcell h6 ⟨x, 2, none⟩ = some (.bool false) := hcell_of hx rfl
    refine ER.store1 rfl rfl rfl ⟨nofun, nofun⟩ ⟨_, x2⟩ (hfroz_of hx) (fun x => x) ?_
    have e7 : hset h6 ⟨x, 2, none⟩ (.bool true) = h6.setIfInBounds x (wrO W i true t2) := hset_block hx _
    change ER _ _ _ _ _ _ _ _ _ _ (hset h6 ⟨x, 2, none⟩ (.bool true)) _ _
    rw [e7]
    have hx7 : (h6.setIfInBounds x (wrO W i true t2))[x]? = some (wrO W i true t2) := get_set_same hx
    have gy7 : (h6.setIfInBounds x (wrO W i true t2))[y]? = some (accO acc0) := by rw [get_set_ne _ (by omega)]; exact gy
    have I7 := I.other hx hx0 (by decide) (by decide) (by decide) (by decide) (wrO W i true t2)
    have u7 : Upd (WT s x) h (h6.setIfInBounds x (wrO W i true t2)) := u6.trans (Upd.set _ _ _ (.inl rfl))
    clear e7 I u6 hx gy x2
    generalize h6.setIfInBounds x (wrO W i true t2) = h7 at hx7 gy7 I7 u7 ⊢
    (repeat (first | refine EK.seq ?_ | refine EK.region ?_ | refine ER.done ?_))
    refine ER.buildS (cells := acc0.toArray) rfl rfl (by rfl) rfl ?_
    refine ER.storeN (vs := acc0) rfl rfl rfl rfl (by simp [accL, OneCell]) (acc_all rfl gy7) ?_
    rw [row_set (c := acc0) (vs := acc0) gy7 rfl]
    (repeat (first | refine ER.done ?_ | refine EK.ret ?_))
    refine EU.retCell1 (vs := acc0) rfl rfl rfl (hrow_block (rest := []) (by rw [List.append_nil]; exact get_set_same gy7)) ⟨rfl, upd_then u7 (Upd.set (T := fun c => c = y) _ _ _ rfl) (fun c hc e => by omega), .inr ⟨rfl, rfl, ⟨⟨_, I7.other gy7 (by omega) (by decide) (by decide) (by decide) (by decide) _, N⟩, ⟨⟨t2, ht2, ho2, by rw [get_set_ne _ (by omega)]; exact hx7⟩, ⟨_, hmem⟩⟩, hx0⟩⟩⟩
end
end
section
open Go Go.TJ Go.Conc Go.Proofs
section
variable {Γ : Type} {main : Bool} {S : Sit Γ} {δ : Ix Γ} {R : Rec} {nm : Nat -> Nme} {lL lW lY lV sP : Value} {h0 h h' : Hp} {W x i t : Nat} {s : WS} {picks : List Int} {X : Us} {A : Type} {pf p : Pr A} {k : Int -> Pr A} {l : List Ev} {o : List A}
def WRes (R : Rec) (nm : Nat -> Nme) (lL lW lY lV : Value) (h0 : Hp) (W : Nat) (s : WS) (pf : Pr A) (x i : Nat) (r : Rq) (k : Int -> Pr A) (l : List Ev) (o : List A) (f : Int -> Value) (z : Value) (h : Hp) (v : Value) (h' : Hp) : Prop :=
  Upd (WT s x) h h' /\ ((∃ w l', l = evOf i r w :: l' /\ v = f w /\ WIn R nm lL lW lY lV h0 W s pf x i (k w) l' o h') \/ (o = [] /\ v = z /\ WOu R nm lL lW lY lV h0 W s x i h'))
set_option maxRecDepth 8000 in
set_option maxHeartbeats 1000000 in
theorem wload_ok (C : WC X picks R nm lL lW lY lV sP h0 s) (hpf : PF R i pf) {b : Nat} (w : WIn R nm lL lW lY lV h0 W s pf x i (.step ⟨1, b, 0, 0⟩ k) l o h) {n : Nme} (hn : n = nm b) :
    CallW Try.prog main (NoS (Γ := Γ)) 89 #[ptr x, nmeV n] h δ (Ret fun v h' δ' => δ' = δ /\ WRes R nm lL lW lY lV h0 W s pf x i ⟨1, b, 0, 0⟩ k l o (fun w => .int .i64 w) (.int .i64 0) h v h') := by
  subst hn
  refine CallW.start (n := 9) rfl rfl ?_
  (repeat (first | refine EK.seq ?_ | refine EK.region ?_ | refine ER.done ?_ | refine ER.move rfl rfl rfl ?_ | refine ER.assign rfl rfl rfl ?_ | refine ER.boxA rfl rfl rfl ?_))
  refine ER.loadN (vs := nmeL (nm b)) rfl rfl rfl rfl (hrow_block (rest := []) (by rw [List.append_nil]; exact get_push_new _ _)) ?_
  skip
  refine ER.callR rfl rfl rfl rfl rfl (does_ok (r := ⟨1, b, 0, 0⟩) C hpf (w.upd0 (Upd.push _ _)) rfl) ?_
  rintro _ h2 δ2 ⟨rfl, u2, hc⟩
  have uu : Upd (WT s x) h h2 := upd_then (Upd.push (T := WT s x) h (nmeO (nm b))) u2 (fun _ _ z => z)
  rcases hc with ⟨w', l', e1, rfl, w2⟩ | ⟨e1, rfl, w2⟩
  · refine ER.field (v := .int .i64 w') Try.underlying75 rfl Try.underlying2 rfl rfl rfl rfl rfl ?_
    (repeat (first | refine ER.done ?_ | refine ER.assign rfl rfl rfl ?_ | refine EK.ret ?_))
    exact EU.ret1 rfl rfl ⟨rfl, uu, .inl ⟨w', l', e1, rfl, w2⟩⟩
  · refine ER.field (v := .int .i64 0) Try.underlying75 rfl Try.underlying2 rfl rfl rfl rfl rfl ?_
    (repeat (first | refine ER.done ?_ | refine ER.assign rfl rfl rfl ?_ | refine EK.ret ?_))
    exact EU.ret1 rfl rfl ⟨rfl, uu, .inr ⟨e1, rfl, w2⟩⟩
set_option maxRecDepth 8000 in
set_option maxHeartbeats 1000000 in
theorem wstore_ok (C : WC X picks R nm lL lW lY lV sP h0 s) (hpf : PF R i pf) {b : Nat} {v : Int} (w : WIn R nm lL lW lY lV h0 W s pf x i (.step ⟨2, b, v, 0⟩ k) l o h) {n : Nme} (hn : n = nm b) :
    CallW Try.prog main (NoS (Γ := Γ)) 86 #[ptr x, nmeV n, .int .i64 v] h δ (Ret fun _ h' δ' => δ' = δ /\ WRes R nm lL lW lY lV h0 W s pf x i ⟨2, b, v, 0⟩ k l o (fun _ => .tuple #[]) (.tuple #[]) h (.tuple #[]) h') := by
  subst hn
  refine CallW.start (n := 10) rfl rfl ?_
  (repeat (first | refine EK.seq ?_ | refine EK.region ?_ | refine ER.done ?_ | refine ER.move rfl rfl rfl ?_ | refine ER.boxA rfl rfl rfl ?_))
  refine ER.loadN (vs := nmeL (nm b)) rfl rfl rfl rfl (hrow_block (rest := []) (by rw [List.append_nil]; exact get_push_new _ _)) ?_
  (repeat refine ER.move rfl rfl rfl ?_)
  refine ER.callR rfl rfl rfl rfl rfl (does_ok (r := ⟨2, b, v, 0⟩) C hpf (w.upd0 (Upd.push _ _)) rfl) ?_
  rintro _ h2 δ2 ⟨rfl, u2, hc⟩
  have uu : Upd (WT s x) h h2 := upd_then (Upd.push (T := WT s x) h (nmeO (nm b))) u2 (fun _ _ z => z)
  rcases hc with ⟨w', l', e1, rfl, w2⟩ | ⟨e1, rfl, w2⟩
  · (repeat refine ER.done ?_)
    exact EK.done (EU.ret0 rfl ⟨rfl, uu, .inl ⟨w', l', e1, rfl, w2⟩⟩)
  · (repeat refine ER.done ?_)
    exact EK.done (EU.ret0 rfl ⟨rfl, uu, .inr ⟨e1, rfl, w2⟩⟩)
set_option maxRecDepth 8000 in
set_option maxHeartbeats 1000000 in
theorem wcas_ok (C : WC X picks R nm lL lW lY lV sP h0 s) (hpf : PF R i pf) {b : Nat} {v c : Int} (w : WIn R nm lL lW lY lV h0 W s pf x i (.step ⟨3, b, v, c⟩ k) l o h) {n : Nme} (hn : n = nm b) :
    CallW Try.prog main (NoS (Γ := Γ)) 103 #[ptr x, nmeV n, .int .i64 v, .int .i64 c] h δ (Ret fun z h' δ' => δ' = δ /\ WRes R nm lL lW lY lV h0 W s pf x i ⟨3, b, v, c⟩ k l o (fun w => .bool (decide (w = v))) (.bool false) h z h') := by
  subst hn
  refine CallW.start (n := 15) rfl rfl ?_
  (repeat (first | refine EK.seq ?_ | refine EK.region ?_ | refine ER.done ?_ | refine ER.move rfl rfl rfl ?_ | refine ER.assign rfl rfl rfl ?_ | refine ER.boxA rfl rfl rfl ?_))
  refine ER.loadN (vs := nmeL (nm b)) rfl rfl rfl rfl (hrow_block (rest := []) (by rw [List.append_nil]; exact get_push_new _ _)) ?_
  (repeat refine ER.move rfl rfl rfl ?_)
  refine ER.callR rfl rfl rfl rfl rfl (does_ok (r := ⟨3, b, v, c⟩) C hpf (w.upd0 (Upd.push _ _)) rfl) ?_
  rintro _ h2 δ2 ⟨rfl, u2, hc⟩
  have uu : Upd (WT s x) h h2 := upd_then (Upd.push (T := WT s x) h (nmeO (nm b))) u2 (fun _ _ z => z)
  rcases hc with ⟨w', l', e1, rfl, w2⟩ | ⟨e1, rfl, w2⟩
  · refine ER.field (v := .bool (decide (w' = v))) Try.underlying75 rfl Try.underlying4 rfl rfl rfl rfl (by
      by_cases e : w' = v
      · simp [entL, accL, evOf, behind, e]
      · simp [entL, accL, evOf, behind, e]) ?_
    (repeat (first | refine ER.done ?_ | refine ER.assign rfl rfl rfl ?_ | refine EK.ret ?_))
    exact EU.ret1 rfl rfl ⟨rfl, uu, .inl ⟨w', l', e1, rfl, w2⟩⟩
  · refine ER.field (v := .bool false) Try.underlying75 rfl Try.underlying4 rfl rfl rfl rfl rfl ?_
    (repeat (first | refine ER.done ?_ | refine ER.assign rfl rfl rfl ?_ | refine EK.ret ?_))
    exact EU.ret1 rfl rfl ⟨rfl, uu, .inr ⟨e1, rfl, w2⟩⟩
set_option maxRecDepth 8000 in
set_option maxHeartbeats 1000000 in
theorem wadd_ok (C : WC X picks R nm lL lW lY lV sP h0 s) (hpf : PF R i pf) {b : Nat} {v : Int} (w : WIn R nm lL lW lY lV h0 W s pf x i (.step ⟨4, b, v, 0⟩ k) l o h) {n : Nme} (hn : n = nm b) :
    CallW Try.prog main (NoS (Γ := Γ)) 120 #[ptr x, nmeV n, .int .i64 v] h δ (Ret fun z h' δ' => δ' = δ /\ WRes R nm lL lW lY lV h0 W s pf x i ⟨4, b, v, 0⟩ k l o (fun w => .int .i64 (IntKind.i64.wrap (w + v))) (.int .i64 0) h z h') := by
  subst hn
  refine CallW.start (n := 12) rfl rfl ?_
  (repeat (first | refine EK.seq ?_ | refine EK.region ?_ | refine ER.done ?_ | refine ER.move rfl rfl rfl ?_ | refine ER.assign rfl rfl rfl ?_ | refine ER.boxA rfl rfl rfl ?_))
  refine ER.loadN (vs := nmeL (nm b)) rfl rfl rfl rfl (hrow_block (rest := []) (by rw [List.append_nil]; exact get_push_new _ _)) ?_
  (repeat refine ER.move rfl rfl rfl ?_)
  refine ER.callR rfl rfl rfl rfl rfl (does_ok (r := ⟨4, b, v, 0⟩) C hpf (w.upd0 (Upd.push _ _)) rfl) ?_
  rintro _ h2 δ2 ⟨rfl, u2, hc⟩
  have uu : Upd (WT s x) h h2 := upd_then (Upd.push (T := WT s x) h (nmeO (nm b))) u2 (fun _ _ z => z)
  rcases hc with ⟨w', l', e1, rfl, w2⟩ | ⟨e1, rfl, w2⟩
  · refine ER.field (v := .int .i64 (IntKind.i64.wrap (w' + v))) Try.underlying75 rfl Try.underlying2 rfl rfl rfl rfl rfl ?_
    (repeat (first | refine ER.done ?_ | refine ER.assign rfl rfl rfl ?_ | refine EK.ret ?_))
    exact EU.ret1 rfl rfl ⟨rfl, uu, .inl ⟨w', l', e1, rfl, w2⟩⟩
  · refine ER.field (v := .int .i64 0) Try.underlying75 rfl Try.underlying2 rfl rfl rfl rfl rfl ?_
    (repeat (first | refine ER.done ?_ | refine ER.assign rfl rfl rfl ?_ | refine EK.ret ?_))
    exact EU.ret1 rfl rfl ⟨rfl, uu, .inr ⟨e1, rfl, w2⟩⟩
def WNil (s : WS) (R : Rec) (nm : Nat -> Nme) (lL lW lY lV : Value) (h0 : Hp) (W x i : Nat) (h h' : Hp) : Prop := Upd (fun _ => False) h h' /\ WOu R nm lL lW lY lV h0 W s x i h'
set_option maxRecDepth 8000 in
set_option maxHeartbeats 1000000 in
theorem wload_out {n : Nme} (w : WOu R nm lL lW lY lV h0 W s x i h) :
    CallW Try.prog main (NoS (Γ := Γ)) 89 #[ptr x, nmeV n] h δ (Ret fun v h' δ' => δ' = δ /\ v = .int .i64 0 /\ WNil s R nm lL lW lY lV h0 W x i h h') := by
  refine CallW.start (n := 9) rfl rfl ?_
  obtain ⟨t, ht, hl, hx⟩ := w.out.at_
  (repeat (first | refine EK.seq ?_ | refine EK.region ?_ | refine ER.done ?_ | refine ER.move rfl rfl rfl ?_ | refine ER.assign rfl rfl rfl ?_ | refine ER.boxA rfl rfl rfl ?_))
  refine ER.loadN (vs := nmeL n) rfl rfl rfl rfl (hrow_block (rest := []) (by rw [List.append_nil]; exact get_push_new _ _)) ?_
  skip
  refine ER.callR rfl rfl rfl rfl rfl (does_out (get_push _ hx)) ?_
  rintro _ h2 δ2 ⟨rfl, rfl, u2⟩
  have uu : Upd (fun _ => False) h h2 := (Upd.push h (nmeO n)).trans u2
  have w2 := w.upd0 uu
  refine ER.field (v := .int .i64 0) Try.underlying75 rfl Try.underlying2 rfl rfl rfl rfl rfl ?_
  (repeat (first | refine ER.done ?_ | refine ER.assign rfl rfl rfl ?_ | refine EK.ret ?_))
  exact EU.ret1 rfl rfl ⟨rfl, rfl, uu, w2⟩
set_option maxRecDepth 8000 in
set_option maxHeartbeats 1000000 in
theorem wstore_out {n : Nme} {v : Int} (w : WOu R nm lL lW lY lV h0 W s x i h) :
    CallW Try.prog main (NoS (Γ := Γ)) 86 #[ptr x, nmeV n, .int .i64 v] h δ (Ret fun _ h' δ' => δ' = δ /\ WNil s R nm lL lW lY lV h0 W x i h h') := by
  refine CallW.start (n := 10) rfl rfl ?_
  obtain ⟨t, ht, hl, hx⟩ := w.out.at_
  (repeat (first | refine EK.seq ?_ | refine EK.region ?_ | refine ER.done ?_ | refine ER.move rfl rfl rfl ?_ | refine ER.boxA rfl rfl rfl ?_))
  refine ER.loadN (vs := nmeL n) rfl rfl rfl rfl (hrow_block (rest := []) (by rw [List.append_nil]; exact get_push_new _ _)) ?_
  (repeat refine ER.move rfl rfl rfl ?_)
  refine ER.callR rfl rfl rfl rfl rfl (does_out (get_push _ hx)) ?_
  rintro _ h2 δ2 ⟨rfl, rfl, u2⟩
  have uu : Upd (fun _ => False) h h2 := (Upd.push h (nmeO n)).trans u2
  have w2 := w.upd0 uu
  (repeat refine ER.done ?_)
  exact EK.done (EU.ret0 rfl ⟨rfl, uu, w2⟩)
set_option maxRecDepth 8000 in
set_option maxHeartbeats 1000000 in
theorem wcas_out {n : Nme} {v c : Int} (w : WOu R nm lL lW lY lV h0 W s x i h) :
    CallW Try.prog main (NoS (Γ := Γ)) 103 #[ptr x, nmeV n, .int .i64 v, .int .i64 c] h δ (Ret fun z h' δ' => δ' = δ /\ z = .bool false /\ WNil s R nm lL lW lY lV h0 W x i h h') := by
  refine CallW.start (n := 15) rfl rfl ?_
  obtain ⟨t, ht, hl, hx⟩ := w.out.at_
  (repeat (first | refine EK.seq ?_ | refine EK.region ?_ | refine ER.done ?_ | refine ER.move rfl rfl rfl ?_ | refine ER.assign rfl rfl rfl ?_ | refine ER.boxA rfl rfl rfl ?_))
  refine ER.loadN (vs := nmeL n) rfl rfl rfl rfl (hrow_block (rest := []) (by rw [List.append_nil]; exact get_push_new _ _)) ?_
  (repeat refine ER.move rfl rfl rfl ?_)
  refine ER.callR rfl rfl rfl rfl rfl (does_out (get_push _ hx)) ?_
  rintro _ h2 δ2 ⟨rfl, rfl, u2⟩
  have uu : Upd (fun _ => False) h h2 := (Upd.push h (nmeO n)).trans u2
  have w2 := w.upd0 uu
  refine ER.field (v := .bool false) Try.underlying75 rfl Try.underlying4 rfl rfl rfl rfl rfl ?_
  (repeat (first | refine ER.done ?_ | refine ER.assign rfl rfl rfl ?_ | refine EK.ret ?_))
  exact EU.ret1 rfl rfl ⟨rfl, rfl, uu, w2⟩
set_option maxRecDepth 8000 in
set_option maxHeartbeats 1000000 in
theorem wadd_out {n : Nme} {v : Int} (w : WOu R nm lL lW lY lV h0 W s x i h) :
    CallW Try.prog main (NoS (Γ := Γ)) 120 #[ptr x, nmeV n, .int .i64 v] h δ (Ret fun z h' δ' => δ' = δ /\ z = .int .i64 0 /\ WNil s R nm lL lW lY lV h0 W x i h h') := by
  refine CallW.start (n := 12) rfl rfl ?_
  obtain ⟨t, ht, hl, hx⟩ := w.out.at_
  (repeat (first | refine EK.seq ?_ | refine EK.region ?_ | refine ER.done ?_ | refine ER.move rfl rfl rfl ?_ | refine ER.assign rfl rfl rfl ?_ | refine ER.boxA rfl rfl rfl ?_))
  refine ER.loadN (vs := nmeL n) rfl rfl rfl rfl (hrow_block (rest := []) (by rw [List.append_nil]; exact get_push_new _ _)) ?_
  (repeat refine ER.move rfl rfl rfl ?_)
  refine ER.callR rfl rfl rfl rfl rfl (does_out (get_push _ hx)) ?_
  rintro _ h2 δ2 ⟨rfl, rfl, u2⟩
  have uu : Upd (fun _ => False) h h2 := (Upd.push h (nmeO n)).trans u2
  have w2 := w.upd0 uu
  refine ER.field (v := .int .i64 0) Try.underlying75 rfl Try.underlying2 rfl rfl rfl rfl rfl ?_
  (repeat (first | refine ER.done ?_ | refine ER.assign rfl rfl rfl ?_ | refine EK.ret ?_))
  exact EU.ret1 rfl rfl ⟨rfl, rfl, uu, w2⟩
end
end
section
open Go Go.TJ Go.Conc Go.Proofs
def WX (R : Rec) (nm : Nat -> Nme) (lL lW lY lV : Value) (h0 : Hp) (W : Nat) (s : WS) {A : Type} (pf : Pr A) (x i : Nat) (o : List A) (p : Pr A) (m : Nat) (h : Hp) : Prop :=
  (∃ l : List Ev, l.length < m /\ WIn R nm lL lW lY lV h0 W s pf x i p l o h) \/ (o = [] /\ WOu R nm lL lW lY lV h0 W s x i h)
section
variable {Γ : Type} {main : Bool} {S : Sit Γ} {δ : Ix Γ} {R : Rec} {nm : Nat -> Nme} {lL lW lY lV sP : Value} {h0 h h' : Hp} {W x i t m : Nat} {s : WS} {picks : List Int} {X : Us} {A : Type} {pf p : Pr A} {k : Int -> Pr A} {l : List Ev} {o : List A}
theorem WIn.row (w : WIn R nm lL lW lY lV h0 W s pf x i p l o h) : hcell h ⟨x, 2, none⟩ = some (.bool false) := by
  obtain ⟨t, ht, hl, hx⟩ := w.at_.at_
  exact hcell_of hx rfl
theorem WOu.row (w : WOu R nm lL lW lY lV h0 W s x i h) : hcell h ⟨x, 2, none⟩ = some (.bool true) := by
  obtain ⟨t, ht, hl, hx⟩ := w.out.at_
  exact hcell_of hx rfl
theorem WX.upd0 (w : WX R nm lL lW lY lV h0 W s pf x i o p m h) (u : Upd (fun _ => False) h h') : WX R nm lL lW lY lV h0 W s pf x i o p m h' :=
  w.imp (fun ⟨l, hl, w⟩ => ⟨l, hl, w.upd0 u⟩) (fun ⟨e, w⟩ => ⟨e, w.upd0 u⟩)
theorem WX.wt (w : WX R nm lL lW lY lV h0 W s pf x i o p m h) : ∀ b, WT s x b -> h0.size <= b /\ b < h.size :=
  w.elim (fun ⟨_, _, w⟩ => w.wt) (fun ⟨_, w⟩ => w.wt)
theorem WX.all (w : WX R nm lL lW lY lV h0 W s pf x i o p m h) : WAll R nm lL lW lY lV h0 W s h :=
  w.elim (fun ⟨_, _, w⟩ => w.all) (fun ⟨_, w⟩ => w.all)
theorem WX.mono {m' : Nat} (w : WX R nm lL lW lY lV h0 W s pf x i o p m h) (hm : m <= m') : WX R nm lL lW lY lV h0 W s pf x i o p m' h :=
  w.imp (fun ⟨l, hl, w⟩ => ⟨l, Nat.lt_of_lt_of_le hl hm, w⟩) id
theorem WIn.setA {l : List Ev} (w : WIn R nm lL lW lY lV h0 W s pf x i p l o h) {y : Nat} {a : Array Value} {t : TypeId} (hy : h[y]? = some (.cells a t (0, 0))) (hy0 : h0.size <= y) (h1 : t ≠ 66) (h2 : t ≠ 210) (h3 : t ≠ 4) (h4 : t ≠ 2) (h5 : t ≠ 60) (ob : Obj) : WIn R nm lL lW lY lV h0 W s pf x i p l o (h.setIfInBounds y ob) := by
  obtain ⟨⟨q, I, N⟩, ⟨⟨t', q1, q2, q3⟩, g⟩, x0⟩ := w
  refine ⟨⟨q, I.other hy hy0 h1 h2 h3 h4 ob, N⟩, ⟨⟨t', q1, q2, ?_⟩, g⟩, x0⟩
  rw [get_set_ne _ (fun e => by
    rw [e, q3] at hy
    injection hy with hy
    injection hy with _ hy _
    exact h5 hy.symm)]
  exact q3
theorem WOu.setA (w : WOu R nm lL lW lY lV h0 W s x i h) {y : Nat} {a : Array Value} {t : TypeId} (hy : h[y]? = some (.cells a t (0, 0))) (hy0 : h0.size <= y) (h1 : t ≠ 66) (h2 : t ≠ 210) (h3 : t ≠ 4) (h4 : t ≠ 2) (h5 : t ≠ 60) (ob : Obj) : WOu R nm lL lW lY lV h0 W s x i (h.setIfInBounds y ob) := by
  obtain ⟨⟨q, I, N⟩, ⟨⟨t', q1, q2, q3⟩, g⟩, x0⟩ := w
  refine ⟨⟨q, I.other hy hy0 h1 h2 h3 h4 ob, N⟩, ⟨⟨t', q1, q2, ?_⟩, g⟩, x0⟩
  rw [get_set_ne _ (fun e => by
    rw [e, q3] at hy
    injection hy with hy
    injection hy with _ hy _
    exact h5 hy.symm)]
  exact q3
theorem WX.setA (w : WX R nm lL lW lY lV h0 W s pf x i o p m h) {y : Nat} {a : Array Value} {t : TypeId} (hy : h[y]? = some (.cells a t (0, 0))) (hy0 : h0.size <= y) (h1 : t ≠ 66) (h2 : t ≠ 210) (h3 : t ≠ 4) (h4 : t ≠ 2) (h5 : t ≠ 60) (ob : Obj) : WX R nm lL lW lY lV h0 W s pf x i o p m (h.setIfInBounds y ob) :=
  w.imp (fun ⟨l, hl, w⟩ => ⟨l, hl, w.setA hy hy0 h1 h2 h3 h4 h5 ob⟩) (fun ⟨e, w⟩ => ⟨e, w.setA hy hy0 h1 h2 h3 h4 h5 ob⟩)
theorem wloadX (C : WC X picks R nm lL lW lY lV sP h0 s) (hpf : PF R i pf) {b : Nat} (w : WX R nm lL lW lY lV h0 W s pf x i o (.step ⟨1, b, 0, 0⟩ k) m h) {n : Nme} (hn : n = nm b) :
    CallW Try.prog main (NoS (Γ := Γ)) 89 #[ptr x, nmeV n] h δ (Ret fun v h' δ' => δ' = δ /\ Upd (WT s x) h h' /\ ∃ z, v = .int .i64 z /\ WX R nm lL lW lY lV h0 W s pf x i o (k z) (m - 1) h') := by
  rcases w with ⟨l, hl, w⟩ | ⟨ho, w⟩
  · refine (wload_ok C hpf w hn).mono ?_
    rintro (v | ps) h' δ' hq
    · obtain ⟨e, u, ⟨z, l', e1, hv, w'⟩ | ⟨e1, hv, w'⟩⟩ := hq
      · exact ⟨e, u, z, hv, .inl ⟨l', by rw [e1] at hl; simp only [List.length_cons] at hl; omega, w'⟩⟩
      · exact ⟨e, u, 0, hv, .inr ⟨e1, w'⟩⟩
    · exact hq.elim
  · refine (wload_out w).mono ?_
    rintro (v | ps) h' δ' hq
    · obtain ⟨e, hv, u, w'⟩ := hq
      exact ⟨e, u.mono (fun _ _ z => z.elim), 0, hv, .inr ⟨ho, w'⟩⟩
    · exact hq.elim
theorem wstoreX (C : WC X picks R nm lL lW lY lV sP h0 s) (hpf : PF R i pf) {b : Nat} {v : Int} (w : WX R nm lL lW lY lV h0 W s pf x i o (.step ⟨2, b, v, 0⟩ fun _ => p) m h) {n : Nme} (hn : n = nm b) :
    CallW Try.prog main (NoS (Γ := Γ)) 86 #[ptr x, nmeV n, .int .i64 v] h δ (Ret fun _ h' δ' => δ' = δ /\ Upd (WT s x) h h' /\ WX R nm lL lW lY lV h0 W s pf x i o p (m - 1) h') := by
  rcases w with ⟨l, hl, w⟩ | ⟨ho, w⟩
  · refine (wstore_ok C hpf w hn).mono ?_
    rintro (v | ps) h' δ' hq
    · obtain ⟨e, u, ⟨z, l', e1, hv, w'⟩ | ⟨e1, hv, w'⟩⟩ := hq
      · exact ⟨e, u, .inl ⟨l', by rw [e1] at hl; simp only [List.length_cons] at hl; omega, w'⟩⟩
      · exact ⟨e, u, .inr ⟨e1, w'⟩⟩
    · exact hq.elim
  · refine (wstore_out w).mono ?_
    rintro (v | ps) h' δ' hq
    · obtain ⟨e, u, w'⟩ := hq
      exact ⟨e, u.mono (fun _ _ z => z.elim), .inr ⟨ho, w'⟩⟩
    · exact hq.elim
theorem wcasX (C : WC X picks R nm lL lW lY lV sP h0 s) (hpf : PF R i pf) {b : Nat} {v c : Int} (w : WX R nm lL lW lY lV h0 W s pf x i o (.step ⟨3, b, v, c⟩ k) m h) {n : Nme} (hn : n = nm b) :
    CallW Try.prog main (NoS (Γ := Γ)) 103 #[ptr x, nmeV n, .int .i64 v, .int .i64 c] h δ (Ret fun q h' δ' => δ' = δ /\ Upd (WT s x) h h' /\ ∃ z, q = .bool (decide (z = v)) /\ WX R nm lL lW lY lV h0 W s pf x i o (k z) (m - 1) h') := by
  rcases w with ⟨l, hl, w⟩ | ⟨ho, w⟩
  · refine (wcas_ok C hpf w hn).mono ?_
    rintro (q | ps) h' δ' hq
    · obtain ⟨e, u, ⟨z, l', e1, hv, w'⟩ | ⟨e1, hv, w'⟩⟩ := hq
      · exact ⟨e, u, z, hv, .inl ⟨l', by rw [e1] at hl; simp only [List.length_cons] at hl; omega, w'⟩⟩
      · exact ⟨e, u, v + 1, by rw [hv, decide_eq_false (by omega)], .inr ⟨e1, w'⟩⟩
    · exact hq.elim
  · refine (wcas_out w).mono ?_
    rintro (q | ps) h' δ' hq
    · obtain ⟨e, hv, u, w'⟩ := hq
      exact ⟨e, u.mono (fun _ _ z => z.elim), v + 1, by rw [hv, decide_eq_false (by omega)], .inr ⟨ho, w'⟩⟩
    · exact hq.elim
def RDidX (R : Rec) (nm : Nat -> Nme) (lL lW lY lV : Value) (h0 : Hp) (W : Nat) (s : WS) {A : Type} (enc : A -> List Value) (pf : Pr A) (x i : Nat) (o : List A) (k : A -> Pr A) (m : Nat) (h : Hp) (v : Value) (h' : Hp) : Prop :=
  Upd (WT s x) h h' /\ ∃ a : A, v = .agg (enc a).toArray /\ WX R nm lL lW lY lV h0 W s pf x i o (k a) m h'
theorem nme_all {y : Nat} {n : Nme} {h : Hp} (hy : h[y]? = some (nmeO n)) : ∀ j, j < 2 -> (∃ u, hcell h ⟨y, 0 + j, none⟩ = some u) /\ hfroz h ⟨y, 0 + j, none⟩ = false /\ ¬ (NoS (Γ := Γ)).still δ.g ⟨y, 0 + j, none⟩ := fun j hj => by
  refine ⟨?_, hfroz_of hy, fun x => x⟩
  rcases (show j = 0 \/ j = 1 by omega) with rfl | rfl
  · exact ⟨_, hcell_of hy rfl⟩
  · exact ⟨_, hcell_of hy rfl⟩
end
end
section
open Go Go.TJ Go.Conc Go.Proofs
structure WkR (R : Rec) (lL lW lY lV : Value) (h0 : Hp) (W : Nat) (nl : List Nme) (gl : List Bool) (fl : List Int) (hl : List Nme) (ol : List Int) (nv gv fv hv ov : Value) (h : Hp) : Prop where
  up : Upd (fun _ => False) h0 h
  row : h[W]? = some (wkO R.e R.log.length lL lW lY lV ⟨[], [], nv, gv, fv, hv, ov⟩)
  nms : SliceO h nv 210 2 nl.length (nl.flatMap nmeL)
  giv : SliceO h gv 4 1 gl.length (gl.map Value.bool)
  fst : SliceO h fv 2 1 fl.length (fl.map fun x => Value.int .i64 x)
  hav : SliceO h hv 210 2 hl.length (hl.flatMap nmeL)
  hol : SliceO h ov 2 1 ol.length (ol.map fun x => Value.int .i64 x)
  nW : h0.size <= W
  n1 : ∀ b, blk nv = some b -> h0.size <= b
  n2 : ∀ b, blk gv = some b -> h0.size <= b
  n3 : ∀ b, blk fv = some b -> h0.size <= b
  n4 : ∀ b, blk hv = some b -> h0.size <= b
  n5 : ∀ b, blk ov = some b -> h0.size <= b
  a1 : ∀ b, blk nv = some b -> blk hv ≠ some b
  a2 : ∀ b, blk fv = some b -> blk ov ≠ some b
section
variable {R : Rec} {lL lW lY lV : Value} {h0 h h1 : Hp} {W : Nat} {nl : List Nme} {gl : List Bool} {fl : List Int} {hl : List Nme} {ol : List Int} {nv gv fv hv ov s' : Value}
theorem WkR.upd0 (I : WkR R lL lW lY lV h0 W nl gl fl hl ol nv gv fv hv ov h) (u : Upd (fun _ => False) h h1) : WkR R lL lW lY lV h0 W nl gl fl hl ol nv gv fv hv ov h1 :=
  ⟨I.up.trans u, u.get I.row (fun x => x), I.nms.upd u (fun _ _ x => x), I.giv.upd u (fun _ _ x => x), I.fst.upd u (fun _ _ x => x), I.hav.upd u (fun _ _ x => x), I.hol.upd u (fun _ _ x => x), I.nW, I.n1, I.n2, I.n3, I.n4, I.n5, I.a1, I.a2⟩
theorem WkR.app_nms {x : Nme} (I : WkR R lL lW lY lV h0 W nl gl fl hl ol nv gv fv hv ov h) (u : Upd (fun b => blk nv = some b) h h1) (sl : SliceO h1 s' 210 2 (nl.length + 1) ((nl.flatMap nmeL) ++ nmeL x)) (hb : ∀ b, blk s' = some b -> blk nv = some b \/ h.size <= b) :
    WkR R lL lW lY lV h0 W (nl ++ [x]) gl fl hl ol s' gv fv hv ov (hset h1 ⟨W, 8, none⟩ s') := by
  have o1 := u.get I.row (fun hx => sliceO_ne I.nms I.row (by decide) W hx rfl)
  have e1 : hset h1 ⟨W, 8, none⟩ s' = h1.setIfInBounds W (wkO R.e R.log.length lL lW lY lV ⟨[], [], s', gv, fv, hv, ov⟩) := hset_block o1 _
  rw [e1]
  have uW : Upd (fun b => b = W) h1 (h1.setIfInBounds W (wkO R.e R.log.length lL lW lY lV ⟨[], [], s', gv, fv, hv, ov⟩)) := Upd.set _ _ _ rfl
  have hWl := lt_of_get I.row
  have hn : ∀ b, blk s' = some b -> h0.size <= b := fun b hbb => (hb b hbb).elim (I.n1 b) (fun y => Nat.le_trans I.up.size y)
  have hw : ∀ b, blk s' = some b -> b ≠ W := fun b hbb => (hb b hbb).elim (sliceO_ne I.nms I.row (by decide) b) (fun y => by omega)
  have nW := I.nW
  exact ⟨(I.up.over u (fun b hbb => I.n1 b hbb)).over uW (fun b e => by omega), get_set_same o1, by have := sl.upd uW hw; simpa [List.flatMap_append] using this, (I.giv.upd u (fun b hbb hx => sliceO_two I.giv I.nms (by decide) b hbb hx)).upd uW (sliceO_ne I.giv I.row (by decide)), (I.fst.upd u (fun b hbb hx => sliceO_two I.fst I.nms (by decide) b hbb hx)).upd uW (sliceO_ne I.fst I.row (by decide)), (I.hav.upd u (fun b hbb hx => I.a1 b hx hbb)).upd uW (sliceO_ne I.hav I.row (by decide)), (I.hol.upd u (fun b hbb hx => sliceO_two I.hol I.nms (by decide) b hbb hx)).upd uW (sliceO_ne I.hol I.row (by decide)), I.nW, hn, I.n2, I.n3, I.n4, I.n5, fun b hbb hx => (hb b hbb).elim (fun y => I.a1 b y hx) (fun y => by have := I.hav.lt hx; omega), I.a2⟩
theorem WkR.app_giv {x : Bool} (I : WkR R lL lW lY lV h0 W nl gl fl hl ol nv gv fv hv ov h) (u : Upd (fun b => blk gv = some b) h h1) (sl : SliceO h1 s' 4 1 (gl.length + 1) ((gl.map Value.bool) ++ [Value.bool x])) (hb : ∀ b, blk s' = some b -> blk gv = some b \/ h.size <= b) :
    WkR R lL lW lY lV h0 W nl (gl ++ [x]) fl hl ol nv s' fv hv ov (hset h1 ⟨W, 9, none⟩ s') := by
  have o1 := u.get I.row (fun hx => sliceO_ne I.giv I.row (by decide) W hx rfl)
  have e1 : hset h1 ⟨W, 9, none⟩ s' = h1.setIfInBounds W (wkO R.e R.log.length lL lW lY lV ⟨[], [], nv, s', fv, hv, ov⟩) := hset_block o1 _
  rw [e1]
  have uW : Upd (fun b => b = W) h1 (h1.setIfInBounds W (wkO R.e R.log.length lL lW lY lV ⟨[], [], nv, s', fv, hv, ov⟩)) := Upd.set _ _ _ rfl
  have hWl := lt_of_get I.row
  have hn : ∀ b, blk s' = some b -> h0.size <= b := fun b hbb => (hb b hbb).elim (I.n2 b) (fun y => Nat.le_trans I.up.size y)
  have hw : ∀ b, blk s' = some b -> b ≠ W := fun b hbb => (hb b hbb).elim (sliceO_ne I.giv I.row (by decide) b) (fun y => by omega)
  have nW := I.nW
  exact ⟨(I.up.over u (fun b hbb => I.n2 b hbb)).over uW (fun b e => by omega), get_set_same o1, (I.nms.upd u (fun b hbb hx => sliceO_two I.nms I.giv (by decide) b hbb hx)).upd uW (sliceO_ne I.nms I.row (by decide)), by have := sl.upd uW hw; simpa using this, (I.fst.upd u (fun b hbb hx => sliceO_two I.fst I.giv (by decide) b hbb hx)).upd uW (sliceO_ne I.fst I.row (by decide)), (I.hav.upd u (fun b hbb hx => sliceO_two I.hav I.giv (by decide) b hbb hx)).upd uW (sliceO_ne I.hav I.row (by decide)), (I.hol.upd u (fun b hbb hx => sliceO_two I.hol I.giv (by decide) b hbb hx)).upd uW (sliceO_ne I.hol I.row (by decide)), I.nW, I.n1, hn, I.n3, I.n4, I.n5, I.a1, I.a2⟩
theorem WkR.app_fst {x : Int} (I : WkR R lL lW lY lV h0 W nl gl fl hl ol nv gv fv hv ov h) (u : Upd (fun b => blk fv = some b) h h1) (sl : SliceO h1 s' 2 1 (fl.length + 1) ((fl.map fun x => Value.int .i64 x) ++ [Value.int .i64 x])) (hb : ∀ b, blk s' = some b -> blk fv = some b \/ h.size <= b) :
    WkR R lL lW lY lV h0 W nl gl (fl ++ [x]) hl ol nv gv s' hv ov (hset h1 ⟨W, 10, none⟩ s') := by
  have o1 := u.get I.row (fun hx => sliceO_ne I.fst I.row (by decide) W hx rfl)
  have e1 : hset h1 ⟨W, 10, none⟩ s' = h1.setIfInBounds W (wkO R.e R.log.length lL lW lY lV ⟨[], [], nv, gv, s', hv, ov⟩) := hset_block o1 _
  rw [e1]
  have uW : Upd (fun b => b = W) h1 (h1.setIfInBounds W (wkO R.e R.log.length lL lW lY lV ⟨[], [], nv, gv, s', hv, ov⟩)) := Upd.set _ _ _ rfl
  have hWl := lt_of_get I.row
  have hn : ∀ b, blk s' = some b -> h0.size <= b := fun b hbb => (hb b hbb).elim (I.n3 b) (fun y => Nat.le_trans I.up.size y)
  have hw : ∀ b, blk s' = some b -> b ≠ W := fun b hbb => (hb b hbb).elim (sliceO_ne I.fst I.row (by decide) b) (fun y => by omega)
  have nW := I.nW
  exact ⟨(I.up.over u (fun b hbb => I.n3 b hbb)).over uW (fun b e => by omega), get_set_same o1, (I.nms.upd u (fun b hbb hx => sliceO_two I.nms I.fst (by decide) b hbb hx)).upd uW (sliceO_ne I.nms I.row (by decide)), (I.giv.upd u (fun b hbb hx => sliceO_two I.giv I.fst (by decide) b hbb hx)).upd uW (sliceO_ne I.giv I.row (by decide)), by have := sl.upd uW hw; simpa using this, (I.hav.upd u (fun b hbb hx => sliceO_two I.hav I.fst (by decide) b hbb hx)).upd uW (sliceO_ne I.hav I.row (by decide)), (I.hol.upd u (fun b hbb hx => I.a2 b hx hbb)).upd uW (sliceO_ne I.hol I.row (by decide)), I.nW, I.n1, I.n2, hn, I.n4, I.n5, I.a1, fun b hbb hx => (hb b hbb).elim (fun y => I.a2 b y hx) (fun y => by have := I.hol.lt hx; omega)⟩
theorem WkR.app_hav {x : Nme} (I : WkR R lL lW lY lV h0 W nl gl fl hl ol nv gv fv hv ov h) (u : Upd (fun b => blk hv = some b) h h1) (sl : SliceO h1 s' 210 2 (hl.length + 1) ((hl.flatMap nmeL) ++ nmeL x)) (hb : ∀ b, blk s' = some b -> blk hv = some b \/ h.size <= b) :
    WkR R lL lW lY lV h0 W nl gl fl (hl ++ [x]) ol nv gv fv s' ov (hset h1 ⟨W, 11, none⟩ s') := by
  have o1 := u.get I.row (fun hx => sliceO_ne I.hav I.row (by decide) W hx rfl)
  have e1 : hset h1 ⟨W, 11, none⟩ s' = h1.setIfInBounds W (wkO R.e R.log.length lL lW lY lV ⟨[], [], nv, gv, fv, s', ov⟩) := hset_block o1 _
  rw [e1]
  have uW : Upd (fun b => b = W) h1 (h1.setIfInBounds W (wkO R.e R.log.length lL lW lY lV ⟨[], [], nv, gv, fv, s', ov⟩)) := Upd.set _ _ _ rfl
  have hWl := lt_of_get I.row
  have hn : ∀ b, blk s' = some b -> h0.size <= b := fun b hbb => (hb b hbb).elim (I.n4 b) (fun y => Nat.le_trans I.up.size y)
  have hw : ∀ b, blk s' = some b -> b ≠ W := fun b hbb => (hb b hbb).elim (sliceO_ne I.hav I.row (by decide) b) (fun y => by omega)
  have nW := I.nW
  exact ⟨(I.up.over u (fun b hbb => I.n4 b hbb)).over uW (fun b e => by omega), get_set_same o1, (I.nms.upd u (fun b hbb hx => I.a1 b hbb hx)).upd uW (sliceO_ne I.nms I.row (by decide)), (I.giv.upd u (fun b hbb hx => sliceO_two I.giv I.hav (by decide) b hbb hx)).upd uW (sliceO_ne I.giv I.row (by decide)), (I.fst.upd u (fun b hbb hx => sliceO_two I.fst I.hav (by decide) b hbb hx)).upd uW (sliceO_ne I.fst I.row (by decide)), by have := sl.upd uW hw; simpa [List.flatMap_append] using this, (I.hol.upd u (fun b hbb hx => sliceO_two I.hol I.hav (by decide) b hbb hx)).upd uW (sliceO_ne I.hol I.row (by decide)), I.nW, I.n1, I.n2, I.n3, hn, I.n5, fun b hbb hx => (hb b hx).elim (fun y => I.a1 b hbb y) (fun y => by have := I.nms.lt hbb; omega), I.a2⟩
theorem WkR.app_hol {x : Int} (I : WkR R lL lW lY lV h0 W nl gl fl hl ol nv gv fv hv ov h) (u : Upd (fun b => blk ov = some b) h h1) (sl : SliceO h1 s' 2 1 (ol.length + 1) ((ol.map fun x => Value.int .i64 x) ++ [Value.int .i64 x])) (hb : ∀ b, blk s' = some b -> blk ov = some b \/ h.size <= b) :
    WkR R lL lW lY lV h0 W nl gl fl hl (ol ++ [x]) nv gv fv hv s' (hset h1 ⟨W, 12, none⟩ s') := by
  have o1 := u.get I.row (fun hx => sliceO_ne I.hol I.row (by decide) W hx rfl)
  have e1 : hset h1 ⟨W, 12, none⟩ s' = h1.setIfInBounds W (wkO R.e R.log.length lL lW lY lV ⟨[], [], nv, gv, fv, hv, s'⟩) := hset_block o1 _
  rw [e1]
  have uW : Upd (fun b => b = W) h1 (h1.setIfInBounds W (wkO R.e R.log.length lL lW lY lV ⟨[], [], nv, gv, fv, hv, s'⟩)) := Upd.set _ _ _ rfl
  have hWl := lt_of_get I.row
  have hn : ∀ b, blk s' = some b -> h0.size <= b := fun b hbb => (hb b hbb).elim (I.n5 b) (fun y => Nat.le_trans I.up.size y)
  have hw : ∀ b, blk s' = some b -> b ≠ W := fun b hbb => (hb b hbb).elim (sliceO_ne I.hol I.row (by decide) b) (fun y => by omega)
  have nW := I.nW
  exact ⟨(I.up.over u (fun b hbb => I.n5 b hbb)).over uW (fun b e => by omega), get_set_same o1, (I.nms.upd u (fun b hbb hx => sliceO_two I.nms I.hol (by decide) b hbb hx)).upd uW (sliceO_ne I.nms I.row (by decide)), (I.giv.upd u (fun b hbb hx => sliceO_two I.giv I.hol (by decide) b hbb hx)).upd uW (sliceO_ne I.giv I.row (by decide)), (I.fst.upd u (fun b hbb hx => I.a2 b hbb hx)).upd uW (sliceO_ne I.fst I.row (by decide)), (I.hav.upd u (fun b hbb hx => sliceO_two I.hav I.hol (by decide) b hbb hx)).upd uW (sliceO_ne I.hav I.row (by decide)), by have := sl.upd uW hw; simpa using this, I.nW, I.n1, I.n2, I.n3, I.n4, hn, I.a1, fun b hbb hx => (hb b hx).elim (fun y => I.a2 b hbb y) (fun y => by have := I.fst.lt hbb; omega)⟩
end
end
section
open Go Go.TJ Go.Conc Go.Proofs
section
variable {Γ : Type} {main : Bool} {S : Sit Γ} {δ : Ix Γ} {R : Rec} {lL lW lY lV sP : Value} {h0 h h1 h' : Hp} {W : Nat} {nl : List Nme} {gl : List Bool} {fl : List Int} {hl : List Nme} {ol : List Int} {nv gv fv hv ov s' : Value} {picks : List Int} {X : Us} {nm : Nat -> Nme}
theorem WkR.toI {q : List (Bool × Nme)} {hs : List (Nme × Int)} (I : WkR R lL lW lY lV h0 W nl gl fl hl ol nv gv fv hv ov h) (h1 : q.map (·.2) = nl) (h2 : q.map (·.1) = gl) (h3 : hs.map (·.1) = hl) (h4 : hs.map (·.2) = ol) : WkI R nm lL lW lY lV h0 W fl ⟨q, hs, nv, gv, fv, hv, ov⟩ h := by
  subst h1 h2 h3 h4
  refine ⟨I.up, I.row, ?_, ?_, I.fst, ?_, ?_, I.nW, I.n1, I.n2, I.n3, I.n4, I.n5, I.a1, I.a2⟩
  · have := I.nms; rw [List.length_map, List.flatMap_map] at this; exact this
  · have := I.giv; rw [List.length_map, List.map_map] at this; exact this
  · have := I.hav; rw [List.length_map, List.flatMap_map] at this; exact this
  · have := I.hol; rw [List.length_map, List.map_map] at this; exact this
theorem WkR.keep {y : Nat} {a : Array Value} {t : TypeId} (I : WkR R lL lW lY lV h0 W nl gl fl hl ol nv gv fv hv ov h) (hy : h[y]? = some (.cells a t (0, 0))) (h1 : t ≠ 66) (h2 : t ≠ 210) (h3 : t ≠ 4) (h4 : t ≠ 2) :
    y ≠ W /\ ¬ blk nv = some y /\ ¬ blk gv = some y /\ ¬ blk fv = some y /\ ¬ blk hv = some y /\ ¬ blk ov = some y := by
  refine ⟨fun e => ?_, fun e => sliceO_ne I.nms hy (Ne.symm h2) y e rfl, fun e => sliceO_ne I.giv hy (Ne.symm h3) y e rfl, fun e => sliceO_ne I.fst hy (Ne.symm h4) y e rfl, fun e => sliceO_ne I.hav hy (Ne.symm h2) y e rfl, fun e => sliceO_ne I.hol hy (Ne.symm h4) y e rfl⟩
  have := I.row
  rw [<- e, hy] at this
  injection this with this
  injection this with _ this _
  exact h1 this
abbrev repOb (e : Int) (n : Nat) (lL lW lY lV : Value) : Obj := .cells (repL e n lL lW lY lV).toArray 49 (0, 0)
set_option maxHeartbeats 16000000 in
set_option maxRecDepth 8000 in
theorem newwalk_ok (ok : RecOk X picks R) (m : RecM R picks lL lW lY lV sP h) :
    CallW Try.prog main (NoS (Γ := Γ)) 20 #[.agg (repL R.e R.log.length lL lW lY lV).toArray] h δ (Ret fun v h' δ' => δ' = δ /\ ∃ (W : Nat) (nv gv fv : Value), v = ptr W /\ WkR R lL lW lY lV h W (List.replicate (nums R.log).length (0, 0)) (List.replicate (nums R.log).length false) ((nums R.log).map R.v0) [] [] nv gv fv nilS nilS h') := by
  have hlen : R.log.length <= 65536 := Nat.le_trans ok.len ok.most
  have hnl : ∀ k, (nums (R.log.take k)).length <= 65536 := fun k => by
    have h1 := nums_len (R.log.take k)
    have h2 := List.length_take_le k R.log
    have h3 : (R.log.take k).length <= R.log.length := by rw [List.length_take]; omega
    omega
  obtain ⟨aL, kL, eL⟩ := m.log.val
  subst eL
  obtain ⟨y, hy⟩ : ∃ y, y = h.size := ⟨_, rfl⟩
  refine CallW.start (n := 62) rfl rfl ?_
  (repeat (first | refine EK.seq ?_ | refine EK.region ?_ | refine ER.done ?_ | refine ER.assign rfl rfl rfl ?_ | refine ER.boxA rfl rfl rfl ?_))
  refine ER.gen (fun h' => Upd (fun _ => False) h h' /\ h'[y]? = some (repOb R.e R.log.length (.slice aL R.log.length kL) lW lY lV) /\ h'.size = h.size + 1) ⟨Upd.push _ _, by rw [hy]; exact get_push_new _ _, Array.size_push ..⟩ ?_
  rw [<- hy]
  rintro h1 ⟨u1, gy, s1⟩
  refine ER.loadN (vs := repL R.e R.log.length (.slice aL R.log.length kL) lW lY lV) rfl rfl rfl rfl (hrow_block (rest := []) (by rw [List.append_nil]; exact gy)) ?_
  refine ER.buildS (cells := (wkL R.e R.log.length (.slice aL R.log.length kL) lW lY lV ⟨[], [], nilS, nilS, nilS, nilS, nilS⟩).toArray) rfl rfl (by rfl) (by kernel_rfl) ?_
  (repeat (first | refine EK.seq ?_ | refine EK.region ?_ | refine ER.done ?_ | refine EK.block ?_ | refine ER.assign rfl rfl rfl ?_ | refine ER.boxA rfl rfl rfl ?_))
  obtain ⟨W, hW⟩ : ∃ W, W = h1.size := ⟨_, rfl⟩
  rw [<- hW]
  have no : ∀ (P : Prop) (b : Nat), blk nilS = some b -> P := fun P b hb => by cases hb
  refine EK.gen (fun h' => WkR R (.slice aL R.log.length kL) lW lY lV h W [] [] [] [] [] nilS nilS nilS nilS nilS h' /\ h'[y]? = some (repOb R.e R.log.length (.slice aL R.log.length kL) lW lY lV)) ⟨⟨u1.trans (Upd.push _ _), by rw [hW]; exact get_push_new _ _, SliceO.nil, SliceO.nil, SliceO.nil, SliceO.nil, SliceO.nil, by omega, fun b => no _ b, fun b => no _ b, fun b => no _ b, fun b => no _ b, fun b => no _ b, fun b => no _ b, fun b => no _ b⟩, get_push _ gy⟩ ?_
  rintro h2 ⟨I, gy⟩
  clear u1 hW s1 hy
  refine EK.loopInv (fun q : Nat × Value × Value × Value => [(4, .int .i64 q.1), (3, ptr W), (1, ptr y)]) (fun q h' δ' => δ' = δ /\ q.1 <= R.log.length /\ WkR R (.slice aL R.log.length kL) lW lY lV h W (List.replicate (nums (R.log.take q.1)).length (0, 0)) (List.replicate (nums (R.log.take q.1)).length false) ((nums (R.log.take q.1)).map R.v0) [] [] q.2.1 q.2.2.1 q.2.2.2 nilS nilS h' /\ h'[y]? = some (repOb R.e R.log.length (.slice aL R.log.length kL) lW lY lV)) (fun q => R.log.length - q.1) (0, nilS, nilS, nilS) ⟨rfl, rfl, rfl, trivial⟩ ⟨rfl, Nat.zero_le _, I, gy⟩ ?_
  clear I gy
  rintro ⟨k, nv, gv, fv⟩ h3 δ3 ⟨hδ, hk, I, gy⟩ again
  dsimp only at hδ hk I again ⊢
  subst hδ
  have c2 : hcell h3 ⟨y, 2, none⟩ = some (.slice aL R.log.length kL) := hcell_of gy rfl
  by_cases hin : k < R.log.length
  · obtain ⟨e, he⟩ : ∃ e, R.log[k]? = some e := ⟨_, List.getElem?_eq_getElem hin⟩
    obtain ⟨bL, ea, hrow, -⟩ := slice_row (entL_len (nums R.log)) (m.log.upd I.up (fun _ _ x => x)) he
    subst ea
    obtain ⟨i1, i2, i3, i4⟩ := idx_at he
    obtain ⟨w, i, r, cw, hr, e1, ch2⟩ := ok.chain.inv he
    have hwas : e.b ∉ nums (R.log.take k) -> e.was = R.v0 e.b := fun hn => by
      subst e1
      exact cw.first hn
    have w2 : hcell h3 ⟨bL, 0 + k * 8 + 2, none⟩ = some (.int .i64 ((nums R.log).idxOf e.b : Nat)) := hrow 2 _ rfl
    have hnk := hnl k
    have c10 : hcell h3 ⟨W, 10, none⟩ = some fv := hcell_of I.row rfl
    obtain ⟨aF, kF, eF⟩ := I.fst.val
    rw [List.length_map] at eF
    subst eF
    clear cw hr e1 ch2
    generalize (nums R.log).idxOf e.b = ix at i1 i2 i3 i4 w2
    (repeat (first | refine EK.seq ?_ | refine EK.region ?_ | refine ER.done ?_ | refine EK.skip ?_ | refine EK.block ?_ | refine ER.move rfl rfl rfl ?_ | refine ER.fieldAddr rfl rfl rfl ?_ | refine ER.load1 rfl rfl rfl (hcell_of (by assumption) rfl) ?_ | refine ER.cmpT rfl rfl rfl rfl rfl (by first | (dsimp only [cmpP]; omega) | exact rfl | exact Int.le_refl _) ?_ | refine ER.len1 rfl rfl rfl ?_ | refine EK.condT rfl ?_))
    refine EK.regionAny (fun h' => h' = h3) ?_
    have hZ : h3 = h3 := rfl
    refine EA.tField 0 rfl (by kernel_rfl) rfl rfl rfl rfl hZ ?_
    refine EA.tLoad 1 rfl (by kernel_rfl) rfl rfl rfl rfl (fun _ hz => (by rw [hz]; exact c2)) hZ ?_
    refine EA.tMove 2 rfl (by kernel_rfl) rfl rfl rfl rfl hZ ?_
    refine EA.tIdxS 3 rfl (by kernel_rfl) rfl rfl rfl rfl rfl (by omega) (by omega) hZ ?_
    refine EA.tField 4 rfl (by kernel_rfl) rfl rfl rfl rfl hZ ?_
    refine EA.tLoad 5 rfl (by kernel_rfl) rfl rfl rfl rfl (fun _ hz => (by rw [hz]; exact w2)) hZ ?_
    refine EA.tMove 6 rfl (by kernel_rfl) rfl rfl rfl rfl hZ ?_
    refine EA.tNil 7 rfl (by kernel_rfl) rfl rfl rfl rfl hZ ?_
    refine EA.tField 8 rfl (by kernel_rfl) rfl rfl rfl rfl hZ ?_
    refine EA.tLoad 9 rfl (by kernel_rfl) rfl rfl rfl rfl (fun _ hz => (by rw [hz]; exact c10)) hZ ?_
    refine EA.tLen1 10 rfl (by kernel_rfl) rfl rfl rfl rfl hZ ?_
    rcases i4 with ⟨j1, j2, j3⟩ | ⟨j1, j2, j3⟩
    · refine EA.tCmpF 11 rfl (by kernel_rfl) rfl rfl rfl rfl rfl rfl (by first | (dsimp only [cmpP]; omega) | exact rfl | exact Int.le_refl _) hZ ?_
      refine EA.done (by kernel_rfl) ?_
      clear hZ
      (repeat (first | refine EK.region ?_ | refine ER.done ?_ | refine EK.skip ?_ | refine EK.inBlock ?_ | refine ER.move rfl rfl rfl ?_ | refine ER.assign rfl rfl rfl ?_ | refine ER.add (kd := .i64) rfl rfl rfl rfl (i64_in (by omega) (by omega)) ?_ | refine EK.condF rfl ?_))
      exact EK.back (again (k + 1, nv, gv, _) _ _ (by dsimp only; omega) ⟨rfl, by dsimp only; omega, by dsimp only; rw [j2]; exact I, gy⟩) ⟨rfl, rfl, rfl, trivial⟩
    · refine EA.tCmpT 11 rfl (by kernel_rfl) rfl rfl rfl rfl rfl rfl (by first | (dsimp only [cmpP]; omega) | exact rfl | exact Int.le_refl _) hZ ?_
      refine EA.done (by kernel_rfl) ?_
      clear hZ c2 c10 hrow w2
      have b1 : (nums (R.log.take (k + 1))).length = (nums (R.log.take k)).length + 1 := by rw [j2, List.length_append]; rfl
      obtain ⟨aN, kN, eN⟩ := I.nms.val
      rw [List.length_replicate] at eN
      subst eN
      have c8 : hcell h3 ⟨W, 8, none⟩ = some (.slice aN (nums (R.log.take k)).length kN) := hcell_of I.row rfl
      (repeat (first | refine EK.seq ?_ | refine EK.region ?_ | refine ER.move rfl rfl rfl ?_ | refine ER.nilCheck rfl rfl rfl ?_ | refine ER.fieldAddr rfl rfl rfl ?_ | refine EK.condT rfl ?_ | refine ER.load1 rfl rfl rfl (by assumption) ?_))
      refine ER.buildS (cells := #[.int .i64 0, .int .i64 0]) rfl rfl (by rfl) (by rfl) ?_
      refine ER.slice1 (sz := 2) (z := .agg #[.int .i64 0, .int .i64 0]) (cells := #[.int .i64 0, .int .i64 0]) rfl rfl rfl (by omega) (by omega) rfl rfl ?_
      have I1 := I.upd0 (Upd.push h3 (.cells #[.int .i64 0, .int .i64 0] 210))
      have gy1 := get_push (o := .cells #[.int .i64 0, .int .i64 0] 210) gy
      have sl1 := I1.nms
      rw [List.length_replicate] at sl1
      refine ER.append1 (new := [.int .i64 0, .int .i64 0]) rfl rfl rfl rfl sl1 (get_push_new _ _) rfl (by simp [OneCell]) (by omega) (by omega) (by rfl) (fun _ _ _ x => x) ?_
      generalize h3.push (.cells #[.int .i64 0, .int .i64 0] 210) = h4 at I1 gy1 sl1 ⊢
      intro s4 h5 sl4 u4 hb4
      have ky := I1.keep gy1 (by decide) (by decide) (by decide) (by decide)
      have I2 := I1.app_nms (x := (0, 0)) u4 (by rw [List.length_replicate]; exact sl4) (fun b hb => (hb4 b hb).imp id (fun e => Nat.le_of_eq e.symm))
      have gy2 := u4.get gy1 ky.2.1
      have gyW : ∀ v j, (hset h5 ⟨W, j, none⟩ v)[y]? = h5[y]? := fun v j => hset_ne _ _ _ (Ne.symm ky.1)
      have o5 : ∃ v, hcell h5 ⟨W, 0 + 8, none⟩ = some v /\ hfroz h5 ⟨W, 0 + 8, none⟩ = false := by
        have o1 := u4.get I1.row (fun hx => sliceO_ne I1.nms I1.row (by decide) W hx rfl)
        exact ⟨_, hcell_of o1 rfl, hfroz_of o1⟩
      obtain ⟨v5, o5, f5⟩ := o5
      obtain ⟨a4, k4, e4⟩ := sl4.val
      (repeat (first | refine ER.nilCheck rfl rfl rfl ?_ | refine ER.fieldAddr rfl rfl rfl ?_))
      refine ER.store1 rfl rfl rfl (by rw [e4]; exact ⟨nofun, nofun⟩) ⟨_, o5⟩ f5 (fun x => x) ?_
      have gy3 : (hset h5 ⟨W, 8, none⟩ s4)[y]? = _ := (gyW s4 8).trans gy2
      change ER _ _ _ _ _ _ _ _ _ _ (hset h5 ⟨W, 8, none⟩ s4) _ _
      generalize hset h5 ⟨W, 8, none⟩ s4 = h6 at I2 gy3 ⊢
      clear I I1 gy gy1 gy2 gyW sl1 sl4 u4 hb4 ky o5 f5 c8 e4 a4 k4
      obtain ⟨aG, kG, eG⟩ := I2.giv.val
      rw [List.length_replicate] at eG
      subst eG
      have c9 : hcell h6 ⟨W, 9, none⟩ = some (.slice aG (nums (R.log.take k)).length kG) := hcell_of I2.row rfl
      (repeat (first | refine EK.seq ?_ | refine EK.region ?_ | refine ER.done ?_ | refine ER.move rfl rfl rfl ?_ | refine ER.nilCheck rfl rfl rfl ?_ | refine ER.fieldAddr rfl rfl rfl ?_ | refine ER.load1 rfl rfl rfl (by assumption) ?_))
      refine ER.slice1 (sz := 1) (z := .bool false) (cells := #[.bool false]) rfl rfl rfl (by omega) (by omega) rfl rfl ?_
      have I1 := I2.upd0 (Upd.push h6 (.cells #[.bool false] 4))
      have gy1 := get_push (o := .cells #[.bool false] 4) gy3
      have sl1 := I1.giv
      rw [List.length_replicate] at sl1
      refine ER.append1 (new := [.bool false]) rfl rfl rfl rfl sl1 (get_push_new _ _) rfl (by simp [OneCell]) (by omega) (by omega) (by rfl) (fun _ _ _ x => x) ?_
      generalize h6.push (.cells #[.bool false] 4) = h7 at I1 gy1 sl1 ⊢
      intro s5 h8 sl5 u5 hb5
      have ky := I1.keep gy1 (by decide) (by decide) (by decide) (by decide)
      have I3 := I1.app_giv (x := false) u5 (by rw [List.length_replicate]; exact sl5) (fun b hb => (hb5 b hb).imp id (fun e => Nat.le_of_eq e.symm))
      have gy2 := u5.get gy1 ky.2.2.1
      have gyW : ∀ v j, (hset h8 ⟨W, j, none⟩ v)[y]? = h8[y]? := fun v j => hset_ne _ _ _ (Ne.symm ky.1)
      have o5 : ∃ v, hcell h8 ⟨W, 0 + 9, none⟩ = some v /\ hfroz h8 ⟨W, 0 + 9, none⟩ = false := by
        have o1 := u5.get I1.row (fun hx => sliceO_ne I1.giv I1.row (by decide) W hx rfl)
        exact ⟨_, hcell_of o1 rfl, hfroz_of o1⟩
      obtain ⟨v5, o5, f5⟩ := o5
      obtain ⟨a4, k4, e4⟩ := sl5.val
      (repeat (first | refine ER.nilCheck rfl rfl rfl ?_ | refine ER.fieldAddr rfl rfl rfl ?_))
      refine ER.store1 rfl rfl rfl (by rw [e4]; exact ⟨nofun, nofun⟩) ⟨_, o5⟩ f5 (fun x => x) ?_
      have gy3' : (hset h8 ⟨W, 9, none⟩ s5)[y]? = _ := (gyW s5 9).trans gy2
      change ER _ _ _ _ _ _ _ _ _ _ (hset h8 ⟨W, 9, none⟩ s5) _ _
      generalize hset h8 ⟨W, 9, none⟩ s5 = h9 at I3 gy3' ⊢
      clear I2 I1 gy1 gy2 gyW sl1 sl5 u5 hb5 ky o5 f5 c9 e4 a4 k4 gy3
      have c10 : hcell h9 ⟨W, 10, none⟩ = some (.slice aF (nums (R.log.take k)).length kF) := hcell_of I3.row rfl
      have c2 : hcell h9 ⟨y, 2, none⟩ = some (.slice (some ⟨bL, 0, none⟩) R.log.length kL) := hcell_of gy3' rfl
      obtain ⟨bL', ea, hrow, -⟩ := slice_row (entL_len (nums R.log)) (m.log.upd I3.up (fun _ _ x => x)) he
      injection ea with ea
      injection ea with ea
      subst ea
      have w5 : hcell h9 ⟨bL, 0 + k * 8 + 5, none⟩ = some (.int .i64 e.was) := hrow 5 _ rfl
      (repeat refine ER.done ?_)
      refine EK.regionAnyL (fun h' => hcell h' ⟨W, 10, none⟩ = some (.slice aF (nums (R.log.take k)).length kF) /\ hcell h' ⟨y, 2, none⟩ = some (.slice (some ⟨bL, 0, none⟩) R.log.length kL) /\ hcell h' ⟨bL, 0 + k * 8 + 5, none⟩ = some (.int .i64 e.was)) 15 ?_
      have hZ : _ /\ _ /\ _ := And.intro c10 ⟨c2, w5⟩
      refine EA.tMove 0 rfl (by kernel_rfl) rfl rfl rfl rfl hZ ?_
      refine EA.tMove 1 rfl (by kernel_rfl) rfl rfl rfl rfl hZ ?_
      refine EA.tNil 2 rfl (by kernel_rfl) rfl rfl rfl rfl hZ ?_
      refine EA.tField 3 rfl (by kernel_rfl) rfl rfl rfl rfl hZ ?_
      refine EA.tLoad 4 rfl (by kernel_rfl) rfl rfl rfl rfl (fun _ hz => hz.1) hZ ?_
      refine EA.tField 5 rfl (by kernel_rfl) rfl rfl rfl rfl hZ ?_
      refine EA.tLoad 6 rfl (by kernel_rfl) rfl rfl rfl rfl (fun _ hz => hz.2.1) hZ ?_
      refine EA.tMove 7 rfl (by kernel_rfl) rfl rfl rfl rfl hZ ?_
      refine EA.tIdxS 8 rfl (by kernel_rfl) rfl rfl rfl rfl rfl (by omega) (by omega) hZ ?_
      refine EA.tField 9 rfl (by kernel_rfl) rfl rfl rfl rfl hZ ?_
      refine EA.tLoad 10 rfl (by kernel_rfl) rfl rfl rfl rfl (fun _ hz => hz.2.2) hZ ?_
      have up := Upd.push (T := fun _ => False) h9 (.cells #[.int .i64 e.was] 2)
      have hZ5 : _ /\ _ /\ _ := And.intro (up.hcell hZ.1 (fun x => x)) ⟨up.hcell hZ.2.1 (fun x => x), up.hcell hZ.2.2 (fun x => x)⟩
      refine EA.val (v := .slice (some ⟨h9.size, 0, none⟩) 1 1) (h' := h9.push (.cells #[.int .i64 e.was] 2)) 11 rfl (by kernel_rfl) rfl rfl rfl (fun ρ Q X hρ hq => sem_slice1 (sz := 1) hρ rfl (by omega) (by omega) rfl rfl hq) hZ5 ?_
      have I1 := I3.upd0 up
      have gy1 := get_push (o := .cells #[.int .i64 e.was] 2) gy3'
      have sl1 := I1.fst
      rw [List.length_map] at sl1
      refine EA.append1 (new := [.int .i64 e.was]) 12 rfl (by kernel_rfl) rfl rfl rfl rfl rfl sl1 (get_push_new _ _) rfl (by simp [OneCell]) (by omega) (by omega) rfl (fun _ _ _ x => x) ?_
      intro s6 h11 sl6 u6 hb6
      have ky := I1.keep gy1 (by decide) (by decide) (by decide) (by decide)
      have I4 := I1.app_fst (x := e.was) u6 (by rw [List.length_map]; exact sl6) (fun b hb => (hb6 b hb).imp id (fun e => Nat.le_of_eq e.symm))
      have gy2 := u6.get gy1 ky.2.2.2.1
      have o1 := u6.get I1.row (fun hx => sliceO_ne I1.fst I1.row (by decide) W hx rfl)
      have nb : ¬ blk (.slice aF (nums (R.log.take k)).length kF) = some bL := fun hx => by
        have := (m.log.upd I1.up (fun _ _ x => x))
        exact sliceO_two this I1.fst (by decide) bL rfl (by rw [hx])
      have hZ : _ /\ _ /\ _ := And.intro (hcell_of o1 rfl : hcell h11 ⟨W, 10, none⟩ = some (.slice aF (nums (R.log.take k)).length kF)) ⟨(hcell_of gy2 rfl : hcell h11 ⟨y, 2, none⟩ = some (.slice (some ⟨bL, 0, none⟩) R.log.length kL)), u6.hcell hZ5.2.2 nb⟩
      refine ⟨hZ, ?_⟩
      obtain ⟨a4, k4, e4⟩ := sl6.val
      refine EA.val 13 rfl (by kernel_rfl) rfl rfl rfl (fun ρ Q X hρ hq => sem_nilCheck (hρ _ _ rfl) hq) hZ ?_
      refine EA.tField 14 rfl (by kernel_rfl) rfl rfl rfl rfl hZ ?_
      refine EA.unitL (h' := hset h11 ⟨W, 10, none⟩ s6) 15 rfl (by kernel_rfl) rfl rfl rfl (fun ρ Q X hρ hq => sem_store1 (hρ _ _ rfl) (hρ _ _ rfl) (by rw [e4]; exact ⟨nofun, nofun⟩) ⟨_, hZ.1⟩ (hfroz_of o1) (fun x => x) hq) ?_
      refine EA.done (by kernel_rfl) ?_
      have gy3 : (hset h11 ⟨W, 10, none⟩ s6)[y]? = _ := (hset_ne _ _ _ (Ne.symm ky.1)).trans gy2
      (repeat (first | refine EK.region ?_ | refine ER.done ?_ | refine EK.inBlock ?_ | refine ER.move rfl rfl rfl ?_ | refine ER.assign rfl rfl rfl ?_ | refine ER.add (kd := .i64) rfl rfl rfl rfl (i64_in (by omega) (by omega)) ?_))
      refine EK.back (again (k + 1, s4, s5, s6) _ _ (by dsimp only; omega) ⟨rfl, by dsimp only; omega, ?_, gy3⟩) ⟨rfl, rfl, rfl, trivial⟩
      dsimp only
      rw [b1, j2, List.map_append, List.replicate_succ', List.replicate_succ']
      have : [e.b].map R.v0 = [e.was] := by rw [hwas j1]; rfl
      rw [this]
      exact I4
  · obtain rfl : k = R.log.length := by omega
    (repeat (first | refine EK.seq ?_ | refine EK.region ?_ | refine ER.done ?_ | refine ER.move rfl rfl rfl ?_ | refine ER.assign rfl rfl rfl ?_ | refine ER.fieldAddr rfl rfl rfl ?_ | refine ER.load1 rfl rfl rfl (hcell_of (by assumption) rfl) ?_ | refine ER.cmpF rfl rfl rfl rfl rfl (by first | (dsimp only [cmpP]; omega) | exact rfl | exact Int.le_refl _) ?_ | refine ER.len1 rfl rfl rfl ?_ | refine EK.condF rfl ?_ | refine EK.ret ?_ | refine EK.exit rfl ?_))
    rw [List.take_length] at I
    exact EU.ret1 rfl rfl ⟨rfl, W, nv, gv, fv, rfl, I⟩
end
end
section
open Go Go.TJ Go.Conc Go.Proofs
section
variable {Γ : Type} {main : Bool} {S : Sit Γ} {δ : Ix Γ} {R : Rec} {lL lW lY lV sP : Value} {h0 h h1 h' : Hp} {W : Nat} {nl : List Nme} {gl : List Bool} {fl : List Int} {hl : List Nme} {ol : List Int} {nv gv fv hv ov s' : Value} {picks : List Int} {X : Us} {nm : Nat -> Nme}
set_option maxHeartbeats 16000000 in
set_option maxRecDepth 8000 in
theorem have_ok {n : Nme} {v : Int} (I : WkR R lL lW lY lV h0 W nl gl fl hl ol nv gv fv hv ov h) (hh : hl.length <= 5000) (ho : ol.length = hl.length) :
    CallW Try.prog main (NoS (Γ := Γ)) 82 #[ptr W, nmeV n, .int .i64 v] h δ (Ret fun _ h' δ' => δ' = δ /\ ∃ hv' ov', WkR R lL lW lY lV h0 W nl gl fl (hl ++ [n]) (ol ++ [v]) nv gv fv hv' ov' h' /\
      ∀ (y : Nat) (a : Array Value) (t : TypeId), h[y]? = some (.cells a t (0, 0)) -> t ≠ 66 -> t ≠ 210 -> t ≠ 4 -> t ≠ 2 -> h'[y]? = some (.cells a t (0, 0))) := by
  obtain ⟨y, hy⟩ : ∃ y, y = h.size := ⟨_, rfl⟩
  obtain ⟨aH, kH, eH⟩ := I.hav.val
  obtain ⟨aO, kO, eO⟩ := I.hol.val
  subst eH eO
  refine CallW.start (n := 26) rfl rfl ?_
  (repeat (first | refine EK.seq ?_ | refine EK.region ?_ | refine ER.done ?_ | refine ER.boxA rfl rfl rfl ?_))
  refine EK.gen (fun h' => WkR R lL lW lY lV h0 W nl gl fl hl ol nv gv fv (.slice aH hl.length kH) (.slice aO ol.length kO) h' /\ h'[y]? = some (nmeO n) /\ ∀ (y : Nat) (a : Array Value) (t : TypeId), h[y]? = some (.cells a t (0, 0)) -> h'[y]? = some (.cells a t (0, 0))) ⟨I.upd0 (Upd.push _ _), by rw [hy]; exact get_push_new _ _, fun y a t hy => get_push _ hy⟩ ?_
  rw [<- hy]
  have lH : ∀ b, blk (.slice aH hl.length kH) = some b -> b < y := fun b hb => by rw [hy]; exact I.hav.lt hb
  clear I hy
  have yH : ¬ blk (.slice aH hl.length kH) = some y := fun hx => by have := lH y hx; omega
  rintro h1 ⟨I, gy, old⟩
  have c11 : hcell h1 ⟨W, 11, none⟩ = some (.slice aH hl.length kH) := hcell_of I.row rfl
  have rY : TJ.hrow h1 y 0 (nmeL n) := hrow_block (rest := []) (by rw [List.append_nil]; exact gy)
  refine EK.regionAnyL (fun h' => hcell h' ⟨W, 11, none⟩ = some (.slice aH hl.length kH) /\ TJ.hrow h' y 0 (nmeL n)) 10 ?_
  have hZ : _ /\ _ := And.intro c11 rY
  refine EA.tMove 0 rfl (by kernel_rfl) rfl rfl rfl rfl hZ ?_
  refine EA.tMove 1 rfl (by kernel_rfl) rfl rfl rfl rfl hZ ?_
  refine EA.tNil 2 rfl (by kernel_rfl) rfl rfl rfl rfl hZ ?_
  refine EA.tField 3 rfl (by kernel_rfl) rfl rfl rfl rfl hZ ?_
  refine EA.tLoad 4 rfl (by kernel_rfl) rfl rfl rfl rfl (fun _ hz => hz.1) hZ ?_
  refine EA.tLoadN (vs := nmeL n) 5 rfl (by kernel_rfl) rfl rfl rfl rfl rfl (fun _ hz => hz.2) hZ ?_
  have up := Upd.push (T := fun _ => False) h1 (.cells #[.int .i64 n.1, .int .i64 n.2] 210)
  have hZ5 : _ /\ _ := And.intro (up.hcell hZ.1 (fun x => x)) (fun j v hv => up.hcell (hZ.2 j v hv) (fun x => x) : TJ.hrow _ y 0 (nmeL n))
  refine EA.val (v := .slice (some ⟨h1.size, 0, none⟩) 1 1) (h' := h1.push (.cells #[.int .i64 n.1, .int .i64 n.2] 210)) 6 rfl (by kernel_rfl) rfl rfl rfl (fun ρ Q X hρ hq => sem_slice1 (sz := 2) hρ rfl (by omega) (by omega) rfl rfl hq) hZ5 ?_
  have I1 := I.upd0 up
  have old1 : ∀ (y : Nat) (a : Array Value) (t : TypeId), h[y]? = some (.cells a t (0, 0)) -> (h1.push (.cells #[.int .i64 n.1, .int .i64 n.2] 210))[y]? = some (.cells a t (0, 0)) := fun y a t hy => get_push _ (old y a t hy)
  have gy1 := get_push (o := .cells #[.int .i64 n.1, .int .i64 n.2] 210) gy
  have sl1 := I1.hav
  have yl := lt_of_get gy
  refine EA.append1 (new := [.int .i64 n.1, .int .i64 n.2]) 7 rfl (by kernel_rfl) rfl rfl rfl rfl rfl sl1 (get_push_new _ _) rfl (by simp [OneCell]) (by omega) (by omega) rfl (fun _ _ _ x => x) ?_
  intro s6 h3 sl6 u6 hb6
  have hne : ¬ blk (.slice aH hl.length kH) = some y := yH
  have I2 := I1.app_hav (x := n) u6 sl6 (fun b hb => (hb6 b hb).imp id (fun e => Nat.le_of_eq e.symm))
  have o1 := u6.get I1.row (fun hx => sliceO_ne I1.hav I1.row (by decide) W hx rfl)
  have hZ : _ /\ _ := And.intro (hcell_of o1 rfl : hcell h3 ⟨W, 11, none⟩ = some (.slice aH hl.length kH)) (fun j v hv => u6.hcell (hZ5.2 j v hv) hne : TJ.hrow h3 y 0 (nmeL n))
  refine ⟨hZ, ?_⟩
  obtain ⟨a4, k4, e4⟩ := sl6.val
  refine EA.val 8 rfl (by kernel_rfl) rfl rfl rfl (fun ρ Q X hρ hq => sem_nilCheck (hρ _ _ rfl) hq) hZ ?_
  refine EA.tField 9 rfl (by kernel_rfl) rfl rfl rfl rfl hZ ?_
  refine EA.unitL (h' := hset h3 ⟨W, 11, none⟩ s6) 10 rfl (by kernel_rfl) rfl rfl rfl (fun ρ Q X hρ hq => sem_store1 (hρ _ _ rfl) (hρ _ _ rfl) (by rw [e4]; exact ⟨nofun, nofun⟩) ⟨_, hZ.1⟩ (hfroz_of o1) (fun x => x) hq) ?_
  refine EA.done (by kernel_rfl) ?_
  have old2 : ∀ (y : Nat) (a : Array Value) (t : TypeId), h[y]? = some (.cells a t (0, 0)) -> t ≠ 66 -> t ≠ 210 -> t ≠ 4 -> t ≠ 2 -> (hset h3 ⟨W, 11, none⟩ s6)[y]? = some (.cells a t (0, 0)) := fun y a t hy q1 q2 q3 q4 => by
    have ky := I1.keep (old1 y a t hy) q1 q2 q3 q4
    exact (hset_ne _ _ _ (Ne.symm ky.1)).trans (u6.get (old1 y a t hy) ky.2.2.2.2.1)
  generalize hset h3 ⟨W, 11, none⟩ s6 = h4 at I2 old2 ⊢
  clear hZ hZ5 I I1 gy gy1 old old1 up sl1 sl6 u6 hb6 hne o1 c11 rY e4 a4 k4 yH yl
  have c12 : hcell h4 ⟨W, 12, none⟩ = some (.slice aO ol.length kO) := hcell_of I2.row rfl
  (repeat (first | refine EK.region ?_ | refine ER.move rfl rfl rfl ?_ | refine ER.nilCheck rfl rfl rfl ?_ | refine ER.fieldAddr rfl rfl rfl ?_ | refine ER.load1 rfl rfl rfl (by assumption) ?_))
  refine ER.slice1 (sz := 1) (z := .int .i64 0) (cells := #[.int .i64 v]) rfl rfl rfl (by omega) (by omega) rfl rfl ?_
  have I1 := I2.upd0 (Upd.push h4 (.cells #[.int .i64 v] 2))
  have sl1 := I1.hol
  refine ER.append1 (new := [.int .i64 v]) rfl rfl rfl rfl sl1 (get_push_new _ _) rfl (by simp [OneCell]) (by omega) (by omega) (by rfl) (fun _ _ _ x => x) ?_
  have old3 : ∀ (y : Nat) (a : Array Value) (t : TypeId), h[y]? = some (.cells a t (0, 0)) -> t ≠ 66 -> t ≠ 210 -> t ≠ 4 -> t ≠ 2 -> (h4.push (.cells #[.int .i64 v] 2))[y]? = some (.cells a t (0, 0)) := fun y a t hy q1 q2 q3 q4 => get_push _ (old2 y a t hy q1 q2 q3 q4)
  generalize h4.push (.cells #[.int .i64 v] 2) = h5 at I1 sl1 old3 ⊢
  intro s7 h6 sl7 u7 hb7
  have I3 := I1.app_hol (x := v) u7 sl7 (fun b hb => (hb7 b hb).imp id (fun e => Nat.le_of_eq e.symm))
  have o5 : ∃ v, hcell h6 ⟨W, 0 + 12, none⟩ = some v /\ hfroz h6 ⟨W, 0 + 12, none⟩ = false := by
    have o1 := u7.get I1.row (fun hx => sliceO_ne I1.hol I1.row (by decide) W hx rfl)
    exact ⟨_, hcell_of o1 rfl, hfroz_of o1⟩
  obtain ⟨v5, o5, f5⟩ := o5
  obtain ⟨a4, k4, e4⟩ := sl7.val
  (repeat (first | refine ER.nilCheck rfl rfl rfl ?_ | refine ER.fieldAddr rfl rfl rfl ?_))
  refine ER.store1 rfl rfl rfl (by rw [e4]; exact ⟨nofun, nofun⟩) ⟨_, o5⟩ f5 (fun x => x) ?_
  have old4 : ∀ (y : Nat) (a : Array Value) (t : TypeId), h[y]? = some (.cells a t (0, 0)) -> t ≠ 66 -> t ≠ 210 -> t ≠ 4 -> t ≠ 2 -> (hset h6 ⟨W, 12, none⟩ s7)[y]? = some (.cells a t (0, 0)) := fun y a t hy q1 q2 q3 q4 => by
    have ky := I1.keep (old3 y a t hy q1 q2 q3 q4) q1 q2 q3 q4
    exact (hset_ne _ _ _ (Ne.symm ky.1)).trans (u7.get (old3 y a t hy q1 q2 q3 q4) ky.2.2.2.2.2)
  (repeat refine ER.done ?_)
  exact EK.done (EU.ret0 rfl ⟨rfl, _, _, I3, old4⟩)
set_option maxRecDepth 8000 in
theorem of_ok {i : Nat} : CallW Try.prog main S 22 #[ptr W, .int .i64 i] h δ (Ret fun v h' δ' => δ' = δ /\ ∃ x, v = ptr x /\ x = h.size /\ h'[x]? = some (wrO W i false 0) /\ Upd (fun _ => False) h h') := by
  refine CallW.start (n := 9) rfl rfl ?_
  (repeat (first | refine EK.seq ?_ | refine EK.region ?_ | refine ER.done ?_ | refine ER.move rfl rfl rfl ?_ | refine ER.assign rfl rfl rfl ?_))
  refine ER.buildS (cells := #[ptr W, .int .i64 i, .bool false, .int .i64 0]) rfl rfl (by rfl) (by rfl) ?_
  (repeat (first | refine ER.done ?_ | refine ER.assign rfl rfl rfl ?_ | refine ER.boxA rfl rfl rfl ?_ | refine EK.ret ?_))
  exact EU.ret1 rfl rfl ⟨rfl, _, rfl, rfl, get_push_new _ _, Upd.push _ _⟩
end
end
section
open Go Go.TJ Go.Conc Go.Proofs
def nmP (m : Nat) : Key -> Nme
  | (4, _, _) => (180, 0)
  | (5, i, _) => (181, ((i - 1 : Nat) : Int))
  | (6, i, _) => (182, ((i - 1 : Nat) : Int))
  | (7, i, j) => (183, (((i - 1) * m + j : Nat) : Int))
  | (8, i, j) => (184, (((i - 1) * m + j : Nat) : Int))
  | (9, i, j) => (185, (((i - 1) * m + j : Nat) : Int))
  | _ => (0, 0)
theorem csP_key {G : PG} {k : Key} (h : csP G k) : k = kTk \/ (∃ i, i < G.L /\ (k = kIn i \/ k = kOut i)) \/ ∃ t i j, t < 3 /\ i < G.L /\ j < G.m /\ k = (7 + t, i + 1, j) := by
  obtain ⟨hk, hv⟩ := h
  obtain ⟨a, b, c⟩ := k
  have hv' : 4 <= a := hv
  rcases Nat.lt_or_ge a 10 with ha | ha
  · rcases (show a = 4 \/ a = 5 \/ a = 6 \/ a = 7 \/ a = 8 \/ a = 9 by omega) with rfl | rfl | rfl | rfl | rfl | rfl
    · rcases b with _ | b <;> rcases c with _ | c
      · exact .inl rfl
      · exact hk.elim
      · exact hk.elim
      · exact hk.elim
    · rcases b with _ | b <;> rcases c with _ | c
      · exact hk.elim
      · exact hk.elim
      · exact .inr (.inl ⟨b, hk, .inl rfl⟩)
      · exact hk.elim
    · rcases b with _ | b <;> rcases c with _ | c
      · exact hk.elim
      · exact hk.elim
      · exact .inr (.inl ⟨b, hk, .inr rfl⟩)
      · exact hk.elim
    · rcases b with _ | b
      · exact hk.elim
      · exact .inr (.inr ⟨0, b, c, by omega, hk.1, hk.2, rfl⟩)
    · rcases b with _ | b
      · exact hk.elim
      · exact .inr (.inr ⟨1, b, c, by omega, hk.1, hk.2, rfl⟩)
    · rcases b with _ | b
      · exact hk.elim
      · exact .inr (.inr ⟨2, b, c, by omega, hk.1, hk.2, rfl⟩)
  · rcases a with _ | _ | _ | _ | _ | _ | _ | _ | _ | _ | a
    all_goals first | omega | exact hk.elim
theorem nmP_pl {m t i j : Nat} (ht : t < 3) : nmP m (7 + t, i + 1, j) = (((183 + t : Nat) : Int), ((i * m + j : Nat) : Int)) := by
  rcases (show t = 0 \/ t = 1 \/ t = 2 by omega) with rfl | rfl | rfl <;> rfl
theorem divmod {m i j i' j' : Nat} (hj : j < m) (hj' : j' < m) (h : i * m + j = i' * m + j') : i = i' /\ j = j' := by
  have e1 : (i * m + j) % m = j := by rw [Nat.mul_add_mod', Nat.mod_eq_of_lt hj]
  have e2 : (i' * m + j') % m = j' := by rw [Nat.mul_add_mod', Nat.mod_eq_of_lt hj']
  have ej : j = j' := by rw [<- e1, <- e2, h]
  subst ej
  have : i * m = i' * m := by omega
  exact ⟨Nat.eq_of_mul_eq_mul_right (by omega) this, rfl⟩
theorem nmP_inj {G : PG} {j k : Key} (hj : csP G j) (hk : csP G k) (h : nmP G.m j = nmP G.m k) : j = k := by
  rcases csP_key hj with rfl | ⟨i, hi, rfl | rfl⟩ | ⟨t, i, c, ht, hi, hc, rfl⟩ <;> rcases csP_key hk with rfl | ⟨i', hi', rfl | rfl⟩ | ⟨t', i', c', ht', hi', hc', rfl⟩
  all_goals (try rw [nmP_pl ht] at h)
  all_goals (try rw [nmP_pl ht'] at h)
  all_goals (have h1 := congrArg (fun z : Nme => z.1) h; have h2 := congrArg (fun z : Nme => z.2) h; simp only [nmP] at h1 h2)
  all_goals (try omega)
  · rfl
  · have : i = i' := by omega
    rw [this]
  · have : i = i' := by omega
    rw [this]
  · have e1 : t = t' := by omega
    obtain ⟨e2, e3⟩ := divmod hc hc' (by omega : i * G.m + c = i' * G.m + c')
    rw [e1, e2, e3]
def rowP (m i c : Nat) : List (Nme × Int) := (List.range' 1 c).map fun (k : Nat) => ((183, ((i * m + k : Nat) : Int)), (k : Int))
def hsPi (m i : Nat) : List (Nme × Int) := (List.range i).flatMap fun i => rowP m i (m - 1)
def hsP (G : PG) : List (Nme × Int) := hsPi G.m G.L
theorem rowP_succ (m i c : Nat) : rowP m i (c + 1) = rowP m i c ++ [((183, ((i * m + (c + 1) : Nat) : Int)), ((c + 1 : Nat) : Int))] := by
  unfold rowP
  rw [List.range'_1_concat, List.map_append, show 1 + c = c + 1 by omega]
  rfl
theorem rowP_len (m i c : Nat) : (rowP m i c).length = c := by simp [rowP]
theorem hsPi_succ (m i : Nat) : hsPi m (i + 1) = hsPi m i ++ rowP m i (m - 1) := by
  unfold hsPi
  rw [List.range_succ, List.flatMap_append]; simp
theorem hsPi_len (m : Nat) : ∀ i, (hsPi m i).length = i * (m - 1)
  | 0 => by simp [hsPi]
  | i + 1 => by rw [hsPi_succ, List.length_append, hsPi_len m i, rowP_len, Nat.succ_mul]
theorem hsPi_le {m e i : Nat} (hm : m = 2 ^ e) (he : e <= 6) (hi : i <= 8) : (hsPi m i).length + m <= 5000 := by
  have h1 : m ≤ 64 := by have := Nat.pow_le_pow_right (n := 2) (by decide) he; have h6 : 2 ^ 6 = 64 := by decide
                         omega
  rw [hsPi_len]
  have := Nat.mul_le_mul hi (show m - 1 <= 63 by omega)
  omega
theorem hsP_len {G : PG} {e : Nat} (hL : G.L <= 8) (hm : G.m = 2 ^ e) (he : e <= 6) : (hsP G).length <= 5000 := by
  have := hsPi_le (i := G.L) hm he hL
  unfold hsP; omega
theorem mem_hsP {G : PG} {z : Nme × Int} (h : z ∈ hsP G) : ∃ i k, i < G.L /\ 1 <= k /\ k < G.m /\ z = ((183, ((i * G.m + k : Nat) : Int)), (k : Int)) := by
  unfold hsP hsPi at h
  obtain ⟨i, hi, h⟩ := List.mem_flatMap.1 h
  unfold rowP at h
  obtain ⟨k, hk, rfl⟩ := List.mem_map.1 h
  obtain ⟨k1, k2⟩ := List.mem_range'_1.1 hk
  exact ⟨i, k, List.mem_range.1 hi, k1, by omega, rfl⟩
theorem lookN_val {n : Nme} {v : Int} : ∀ {l : List (Nme × Int)}, (∀ z, z ∈ l -> z.1 = n -> z.2 = v) -> (∃ z, z ∈ l /\ z.1 = n) -> lookN l n = v
  | [], _, ⟨_, h, _⟩ => by cases h
  | (q, w) :: l, h1, h2 => by
    unfold lookN
    by_cases e : q = n
    · rw [if_pos e]; exact h1 (q, w) List.mem_cons_self e
    · rw [if_neg e]
      refine lookN_val (fun z hz => h1 z (List.mem_cons_of_mem _ hz)) ?_
      obtain ⟨z, hz, e2⟩ := h2
      rcases List.mem_cons.1 hz with rfl | hz
      · exact absurd e2 e
      · exact ⟨z, hz, e2⟩
theorem look_hsP {G : PG} {k : Key} (hk : csP G k) : lookN (hsP G) (nmP G.m k) = v0 k := by
  have no : ∀ q : Nme, q.1 ≠ 183 -> lookN (hsP G) q = 0 := fun q hq => lookN_no fun z hz e => by
    obtain ⟨i, c, -, -, -, rfl⟩ := mem_hsP hz
    exact hq (by rw [<- e])
  rcases csP_key hk with rfl | ⟨i, hi, rfl | rfl⟩ | ⟨t, i, j, ht, hi, hj, rfl⟩
  · exact no _ (show (180 : Int) ≠ 183 by decide)
  · exact no _ (show (181 : Int) ≠ 183 by decide)
  · exact no _ (show (182 : Int) ≠ 183 by decide)
  · rcases (show t = 0 \/ t = 1 \/ t = 2 by omega) with rfl | rfl | rfl
    · show lookN (hsP G) (183, ((i * G.m + j : Nat) : Int)) = (j : Int)
      rcases Nat.eq_zero_or_pos j with rfl | h1
      · refine lookN_no fun z hz e => ?_
        obtain ⟨i', c, hi', c1, c2, rfl⟩ := mem_hsP hz
        have e2 := congrArg (fun z : Nme => z.2) e
        dsimp only at e2
        have := (divmod c2 hj (by omega : i' * G.m + c = i * G.m + 0)).2
        omega
      · refine lookN_val (fun z hz e => ?_) ⟨((183, ((i * G.m + j : Nat) : Int)), (j : Int)), ?_, rfl⟩
        · obtain ⟨i', c, hi', c1, c2, rfl⟩ := mem_hsP hz
          have e2 := congrArg (fun z : Nme => z.2) e
          dsimp only at e2
          have := (divmod c2 hj (by omega : i' * G.m + c = i * G.m + j)).2
          show (c : Int) = j
          omega
        · unfold hsP hsPi
          refine List.mem_flatMap.2 ⟨i, List.mem_range.2 hi, ?_⟩
          unfold rowP
          exact List.mem_map.2 ⟨j, List.mem_range'_1.2 ⟨h1, by omega⟩, rfl⟩
    · exact no _ (show (184 : Int) ≠ 183 by decide)
    · exact no _ (show (185 : Int) ≠ 183 by decide)
section
variable {Γ : Type} {main : Bool} {S : Sit Γ} {δ : Ix Γ} {h : Hp}
abbrev madP (a b : Nat) : List Value := [.int .i64 (a : Int), .int .i64 (b : Int)]
theorem rin_ok {k : Int} : CallW Try.prog main (NoS (Γ := Γ)) 165 #[.int .i64 k] h δ (Ret fun v h' δ' => δ' = δ /\ v = nmeV (181, k) /\ Upd (fun _ => False) h h') := by
  refine CallW.start (n := 5) rfl rfl ?_
  (repeat (first | refine EK.seq ?_ | refine EK.region ?_ | refine ER.done ?_ | refine ER.move rfl rfl rfl ?_ | refine ER.allocA rfl rfl ?_))
  refine ER.buildS (cells := #[.int .i64 181, .int .i64 k]) rfl rfl (by rfl) (by rfl) ?_
  refine ER.storeN (vs := nmeL (181, k)) rfl rfl rfl rfl (by simp [nmeL, OneCell]) (nme_all (n := (0, 0)) (get_push_new _ _)) ?_
  rw [hsetRow_push (c := [.int .i64 0, .int .i64 0]) (vs := nmeL (181, k)) rfl]
  (repeat (first | refine ER.done ?_ | refine EK.ret ?_))
  exact EU.retCell1 (vs := nmeL (181, k)) rfl rfl rfl (hrow_block (rest := []) (by rw [List.append_nil]; exact get_push_new _ _)) ⟨rfl, rfl, Upd.push _ _⟩
theorem rout_ok {k : Int} : CallW Try.prog main (NoS (Γ := Γ)) 167 #[.int .i64 k] h δ (Ret fun v h' δ' => δ' = δ /\ v = nmeV (182, k) /\ Upd (fun _ => False) h h') := by
  refine CallW.start (n := 5) rfl rfl ?_
  (repeat (first | refine EK.seq ?_ | refine EK.region ?_ | refine ER.done ?_ | refine ER.move rfl rfl rfl ?_ | refine ER.allocA rfl rfl ?_))
  refine ER.buildS (cells := #[.int .i64 182, .int .i64 k]) rfl rfl (by rfl) (by rfl) ?_
  refine ER.storeN (vs := nmeL (182, k)) rfl rfl rfl rfl (by simp [nmeL, OneCell]) (nme_all (n := (0, 0)) (get_push_new _ _)) ?_
  rw [hsetRow_push (c := [.int .i64 0, .int .i64 0]) (vs := nmeL (182, k)) rfl]
  (repeat (first | refine ER.done ?_ | refine EK.ret ?_))
  exact EU.retCell1 (vs := nmeL (182, k)) rfl rfl rfl (hrow_block (rest := []) (by rw [List.append_nil]; exact get_push_new _ _)) ⟨rfl, rfl, Upd.push _ _⟩
theorem rtk_ok : CallW Try.prog main (NoS (Γ := Γ)) 166 #[] h δ (Ret fun v h' δ' => δ' = δ /\ v = nmeV (180, 0) /\ Upd (fun _ => False) h h') := by
  refine CallW.start (n := 2) rfl rfl ?_
  (repeat (first | refine EK.seq ?_ | refine EK.region ?_ | refine ER.done ?_ | refine ER.allocA rfl rfl ?_))
  refine ER.buildS (cells := #[.int .i64 180, .int .i64 0]) rfl rfl (by rfl) (by rfl) ?_
  refine ER.storeN (vs := nmeL (180, 0)) rfl rfl rfl rfl (by simp [nmeL, OneCell]) (nme_all (n := (0, 0)) (get_push_new _ _)) ?_
  rw [hsetRow_push (c := [.int .i64 0, .int .i64 0]) (vs := nmeL (180, 0)) rfl]
  (repeat (first | refine ER.done ?_ | refine EK.ret ?_))
  exact EU.retCell1 (vs := nmeL (180, 0)) rfl rfl rfl (hrow_block (rest := []) (by rw [List.append_nil]; exact get_push_new _ _)) ⟨rfl, rfl, Upd.push _ _⟩
set_option maxRecDepth 8000 in
set_option maxHeartbeats 4000000 in
theorem rof_ok {a m l t : Nat} {p : Int} (hm0 : 0 < m) (hm : m <= 64) (hl : l <= 8) (ht : t < 3) (hp : 0 <= p /\ p <= 70000) : CallW Try.prog main (NoS (Γ := Γ)) 122 #[.agg (madP a m).toArray, .int .i64 t, .int .i64 l, .int .i64 p] h δ (Ret fun v h' δ' => δ' = δ /\ v = nmeV (((183 + t : Nat) : Int), ((l * m + pj m p : Nat) : Int)) /\ Upd (fun _ => False) h h') := by
  obtain ⟨P, rfl⟩ : ∃ P : Nat, p = P := ⟨p.toNat, by omega⟩
  rw [pj_nat]
  have hlm : l * m <= 8 * 64 := Nat.mul_le_mul hl hm
  have hlt : P % m < m := Nat.mod_lt _ hm0
  have hmul : IntKind.i64.wrap ((l : Int) * (m : Int)) = ((l * m : Nat) : Int) := by
    rw [<- Int.natCast_mul]; exact i64_in (by omega) (by omega)
  have hrem : ((P : Int)).tmod (m : Int) = ((P % m : Nat) : Int) := by
    rw [Int.tmod_eq_emod_of_nonneg (by omega)]; rfl
  refine CallW.start (n := 21) rfl rfl ?_
  have q0 : ((h.push (.cells (madP a m).toArray 129)).push (nmeO (0, 0)))[h.size]? = some (.cells (madP a m).toArray 129 (0, 0)) := get_push _ (get_push_new _ _)
  have q1 : hcell ((h.push (.cells (madP a m).toArray 129)).push (nmeO (0, 0))) ⟨h.size, 1, none⟩ = some (.int .i64 m) := hcell_of q0 rfl
  (repeat (first | refine EK.seq ?_ | refine EK.region ?_ | refine ER.done ?_ | refine ER.boxA rfl rfl rfl ?_ | refine ER.allocA rfl rfl ?_))
  refine EK.regionAnyL (fun h' => h' = ((h.push (.cells (madP a m).toArray 129)).push (nmeO (0, 0)))) 12 ?_
  have hZ : ((h.push (.cells (madP a m).toArray 129)).push (nmeO (0, 0))) = ((h.push (.cells (madP a m).toArray 129)).push (nmeO (0, 0))) := rfl
  refine EA.tMove 0 rfl (by kernel_rfl) rfl rfl rfl rfl hZ ?_
  refine EA.tAdd (kd := .i64) 1 rfl (by kernel_rfl) rfl rfl rfl rfl rfl (i64_in (by omega) (by omega)) hZ ?_
  refine EA.tMove 2 rfl (by kernel_rfl) rfl rfl rfl rfl hZ ?_
  refine EA.tField 3 rfl (by kernel_rfl) rfl rfl rfl rfl hZ ?_
  refine EA.tLoad 4 rfl (by kernel_rfl) rfl rfl rfl rfl (fun _ hz => hz ▸ q1) hZ ?_
  refine EA.tMul (kd := .i64) 5 rfl (by kernel_rfl) rfl rfl rfl rfl rfl hmul hZ ?_
  refine EA.tMove 6 rfl (by kernel_rfl) rfl rfl rfl rfl hZ ?_
  refine EA.tField 7 rfl (by kernel_rfl) rfl rfl rfl rfl hZ ?_
  refine EA.tLoad 8 rfl (by kernel_rfl) rfl rfl rfl rfl (fun _ hz => hz ▸ q1) hZ ?_
  refine EA.tBinI (kd := .i64) (v := .int .i64 ((P % m : Nat) : Int)) 9 rfl (by kernel_rfl) rfl rfl rfl rfl rfl ((Go.TJ.binOp_rem (by omega)).trans (by rw [hrem])) hZ ?_
  refine EA.tAdd (kd := .i64) 10 rfl (by kernel_rfl) rfl rfl rfl rfl rfl (i64_in (by omega) (by omega)) hZ ?_
  refine EA.val (v := .agg (nmeL (((183 + t : Nat) : Int), ((l * m + P % m : Nat) : Int))).toArray) (h' := ((h.push (.cells (madP a m).toArray 129)).push (nmeO (0, 0)))) 11 rfl (by kernel_rfl) rfl rfl rfl (fun ρ Q X hρ hq => sem_buildS (cells := (nmeL (((183 + t : Nat) : Int), ((l * m + P % m : Nat) : Int))).toArray) hρ rfl rfl hq) hZ ?_
  refine EA.unitL (h' := (h.push (.cells (madP a m).toArray 129)).push (nmeO (((183 + t : Nat) : Int), ((l * m + P % m : Nat) : Int)))) 12 rfl (by kernel_rfl) rfl rfl rfl (fun ρ Q X hρ hq => sem_storeN (vs := nmeL (((183 + t : Nat) : Int), ((l * m + P % m : Nat) : Int))) (hρ _ _ rfl) (hρ _ _ rfl) rfl (by simp [nmeL, OneCell]) (nme_all (n := (0, 0)) (get_push_new _ _)) (by rw [hsetRow_push (c := [.int .i64 0, .int .i64 0]) (vs := nmeL (((183 + t : Nat) : Int), ((l * m + P % m : Nat) : Int))) rfl]; exact hq)) ?_
  refine EA.done (by kernel_rfl) ?_
  (repeat refine EK.ret ?_)
  exact EU.retCell1 (vs := nmeL (((183 + t : Nat) : Int), ((l * m + P % m : Nat) : Int))) rfl rfl rfl (hrow_block (rest := []) (by rw [List.append_nil]; exact get_push_new _ _)) ⟨rfl, rfl, (Upd.push _ _).trans (Upd.push _ _)⟩
end
section
variable {Γ : Type} {main : Bool} {S : Sit Γ} {δ : Ix Γ} {R : Rec} {lL lW lY lV sP : Value} {h0 h h1 h' : Hp} {W e : Nat} {G : PG} {nl : List Nme} {gl : List Bool} {fl : List Int} {nv gv fv : Value}
set_option maxRecDepth 8000 in
set_option maxHeartbeats 4000000 in
theorem gbegin_ok (I : WkR R lL lW lY lV h0 W nl gl fl [] [] nv gv fv nilS nilS h) (hL8 : G.L <= 8) (hm : G.m = 2 ^ e) (he : e <= 6) :
    CallW Try.prog main (NoS (Γ := Γ)) 57 #[ptr W, .agg #[.int .i64 (G.L : Int), .int .i64 (G.m : Int)]] h δ (Ret fun _ h' δ' => δ' = δ /\ ∃ hv ov, WkR R lL lW lY lV h0 W nl gl fl ((hsP G).map (·.1)) ((hsP G).map (·.2)) nv gv fv hv ov h') := by
  have hm0 : 0 < G.m := by rw [hm]; exact Nat.two_pow_pos e
  have hm1 : G.m ≤ 64 := by have := Nat.pow_le_pow_right (n := 2) (by decide) he; have h6 : 2 ^ 6 = 64 := by decide
                            omega
  obtain ⟨y, hy⟩ : ∃ y, y = h.size := ⟨_, rfl⟩
  refine CallW.start (n := 25) rfl rfl ?_
  (repeat (first | refine EK.seq ?_ | refine EK.region ?_ | refine ER.done ?_ | refine EK.block ?_ | refine ER.assign rfl rfl rfl ?_ | refine ER.boxA rfl rfl rfl ?_))
  refine EK.gen (fun h' => WkR R lL lW lY lV h0 W nl gl fl [] [] nv gv fv nilS nilS h' /\ h'[y]? = some (.cells (madP G.L G.m).toArray 129 (0, 0))) ⟨I.upd0 (Upd.push _ _), by rw [hy]; exact get_push_new _ _⟩ ?_
  rw [<- hy]
  clear I hy
  rintro h1 ⟨I, gy⟩
  refine EK.loopInv (fun q : Nat × Value × Value => [(4, .int .i64 (q.1 : Int)), (3, ptr y), (0, ptr W)]) (fun q h' δ' => δ' = δ /\ q.1 <= G.L /\ WkR R lL lW lY lV h0 W nl gl fl ((hsPi G.m q.1).map (·.1)) ((hsPi G.m q.1).map (·.2)) nv gv fv q.2.1 q.2.2 h' /\ h'[y]? = some (.cells (madP G.L G.m).toArray 129 (0, 0))) (fun q => G.L - q.1) (0, nilS, nilS) ⟨rfl, rfl, rfl, trivial⟩ ⟨rfl, Nat.zero_le _, I, gy⟩ ?_
  clear I gy h1
  rintro ⟨i, hv, ov⟩ h4 δ4 ⟨hδ, hi, I, gy⟩ again
  dsimp only at hδ hi I again ⊢
  subst hδ
  have c0 : hcell h4 ⟨y, 0, none⟩ = some (.int .i64 G.L) := hcell_of gy rfl
  by_cases hin : i < G.L
  · have hlen := hsPi_le (i := i) hm he (by omega)
    (repeat (first | refine EK.seq ?_ | refine EK.region ?_ | refine ER.done ?_ | refine EK.skip ?_ | refine EK.block ?_ | refine ER.move rfl rfl rfl ?_ | refine ER.assign rfl rfl rfl ?_ | refine ER.fieldAddr rfl rfl rfl ?_ | refine ER.load1 rfl rfl rfl (hcell_of (by assumption) rfl) ?_ | refine ER.cmpT rfl rfl rfl rfl rfl (by first | (dsimp only [cmpP]; omega) | exact rfl | exact Int.le_refl _) ?_ | refine EK.condT rfl ?_))
    clear c0
    refine EK.loopInv (fun q : Nat × Value × Value => [(5, .int .i64 ((q.1 + 1 : Nat) : Int)), (4, .int .i64 (i : Int)), (3, ptr y), (0, ptr W)]) (fun q h' δ' => δ' = δ4 /\ q.1 + 1 <= G.m /\ WkR R lL lW lY lV h0 W nl gl fl ((hsPi G.m i ++ rowP G.m i q.1).map (·.1)) ((hsPi G.m i ++ rowP G.m i q.1).map (·.2)) nv gv fv q.2.1 q.2.2 h' /\ h'[y]? = some (.cells (madP G.L G.m).toArray 129 (0, 0))) (fun q => G.m - q.1) (0, hv, ov) ⟨rfl, rfl, rfl, rfl, trivial⟩ ⟨rfl, by dsimp only; omega, by dsimp only; rw [show rowP G.m i 0 = [] from rfl, List.append_nil]; exact I, gy⟩ ?_
    clear I gy hv ov h4
    rintro ⟨c, hv, ov⟩ h5 δ5 ⟨hδ, hc, I, gy⟩ again2
    dsimp only at hδ hc I again2 ⊢
    subst hδ
    have c1 : hcell h5 ⟨y, 1, none⟩ = some (.int .i64 G.m) := hcell_of gy rfl
    by_cases hcn : c + 1 < G.m
    · (repeat (first | refine EK.seq ?_ | refine EK.region ?_ | refine ER.done ?_ | refine EK.skip ?_ | refine EK.block ?_ | refine ER.move rfl rfl rfl ?_ | refine ER.fieldAddr rfl rfl rfl ?_ | refine ER.load1 rfl rfl rfl (hcell_of (by assumption) rfl) ?_ | refine ER.cmpT rfl rfl rfl rfl rfl (by first | (dsimp only [cmpP]; omega) | exact rfl | exact Int.le_refl _) ?_ | refine EK.condT rfl ?_))
      refine ER.loadN (vs := madP G.L G.m) rfl rfl rfl rfl (hrow_block (rest := []) (by rw [List.append_nil]; exact gy)) ?_
      (repeat refine ER.move rfl rfl rfl ?_)
      refine ER.callR rfl rfl rfl rfl rfl (rof_ok (t := 0) (l := i) (p := ((c + 1 : Nat) : Int)) hm0 hm1 (by omega) (by omega) (by omega)) ?_
      rintro _ h6 δ6 ⟨rfl, rfl, u6⟩
      rw [pj_nat, Nat.mod_eq_of_lt hcn]
      replace I := I.upd0 u6
      replace gy := u6.get gy (fun x => x)
      clear u6 c1
      (repeat refine ER.move rfl rfl rfl ?_)
      refine ER.callR rfl rfl rfl rfl rfl (have_ok I (by rw [List.length_map, List.length_append, rowP_len]; omega) (by rw [List.length_map, List.length_map])) ?_
      clear I
      rintro _ h7 δ7 ⟨rfl, hv, ov, I, keep⟩
      replace gy := keep y _ _ gy (by decide) (by decide) (by decide) (by decide)
      clear keep
      (repeat (first | refine EK.region ?_ | refine ER.done ?_ | refine EK.inBlock ?_ | refine ER.move rfl rfl rfl ?_ | refine ER.assign rfl rfl rfl ?_ | refine ER.add (kd := .i64) rfl rfl rfl rfl (i64_in (by omega) (by omega)) ?_))
      refine EK.back (again2 (c + 1, hv, ov) _ _ (by dsimp only; omega) ⟨rfl, by dsimp only; omega, ?_, gy⟩) ⟨rfl, rfl, rfl, rfl, trivial⟩
      dsimp only
      rw [rowP_succ, <- List.append_assoc, List.map_append (l₁ := hsPi G.m i ++ rowP G.m i c), List.map_append (l₁ := hsPi G.m i ++ rowP G.m i c)]
      have e0 : (((183 + 0 : Nat)) : Int) = 183 := rfl
      rw [e0] at I
      exact I
    · obtain rfl : c = G.m - 1 := by omega
      clear again2
      rw [<- hsPi_succ] at I
      (repeat (first | refine EK.seq ?_ | refine EK.region ?_ | refine ER.done ?_ | refine EK.inBlock ?_ | refine ER.move rfl rfl rfl ?_ | refine ER.assign rfl rfl rfl ?_ | refine ER.fieldAddr rfl rfl rfl ?_ | refine ER.load1 rfl rfl rfl (hcell_of (by assumption) rfl) ?_ | refine ER.cmpF rfl rfl rfl rfl rfl (by first | (dsimp only [cmpP]; omega) | exact rfl | exact Int.le_refl _) ?_ | refine ER.add (kd := .i64) rfl rfl rfl rfl (i64_in (by omega) (by omega)) ?_ | refine EK.condF rfl ?_ | refine EK.exit rfl ?_))
      exact EK.back (again (i + 1, hv, ov) _ _ (by dsimp only; omega) ⟨rfl, by dsimp only; omega, I, gy⟩) ⟨rfl, rfl, rfl, trivial⟩
  · obtain rfl : i = G.L := by omega
    clear again
    (repeat (first | refine EK.seq ?_ | refine EK.region ?_ | refine ER.done ?_ | refine ER.move rfl rfl rfl ?_ | refine ER.fieldAddr rfl rfl rfl ?_ | refine ER.load1 rfl rfl rfl (hcell_of (by assumption) rfl) ?_ | refine ER.cmpF rfl rfl rfl rfl rfl (by first | (dsimp only [cmpP]; omega) | exact rfl | exact Int.le_refl _) ?_ | refine EK.condF rfl ?_ | refine EK.exit rfl ?_))
    exact EK.done (EU.ret0 rfl ⟨rfl, hv, ov, I⟩)
end
section
variable {Γ : Type} {main : Bool} {S : Sit Γ} {δ : Ix Γ} {R : Rec} {nm : Nat -> Nme} {lL lW lY lV sP : Value} {h0 h h' : Hp} {W x i t e m : Nat} {G : PG} {s : WS} {picks : List Int} {X : Us} {A : Type} {pf p : Pr A} {l : List Ev} {o : List A} {k : Int -> Pr A}
def NmsP (G : PG) (nm : Nat -> Nme) : Prop := ∀ k, csP G k -> nm (G.B k) = nmP G.m k
theorem NmsP.tk (N : NmsP G nm) : ((180 : Int), (0 : Int)) = nm (G.B kTk) := (N kTk ⟨trivial, vv (by omega)⟩).symm
theorem NmsP.inn (N : NmsP G nm) {l : Nat} (hl : l < G.L) : ((181 : Int), (l : Int)) = nm (G.B (kIn l)) := (N (kIn l) ⟨hl, vv (by omega)⟩).symm
theorem NmsP.out (N : NmsP G nm) {l : Nat} (hl : l < G.L) : ((182 : Int), (l : Int)) = nm (G.B (kOut l)) := (N (kOut l) ⟨hl, vv (by omega)⟩).symm
theorem NmsP.pl (N : NmsP G nm) {t l j : Nat} (ht : t < 3) (hl : l < G.L) (hj : j < G.m) : (((183 + t : Nat) : Int), ((l * G.m + j : Nat) : Int)) = nm (G.B (7 + t, l + 1, j)) := by
  rw [<- nmP_pl ht]
  refine (N (7 + t, l + 1, j) ⟨?_, vv (by omega)⟩).symm
  rcases (show t = 0 \/ t = 1 \/ t = 2 by omega) with rfl | rfl | rfl <;> exact ⟨hl, hj⟩
def LgP (G : PG) (R : Rec) : Prop := ∀ ev, ev ∈ R.log -> (∃ k, okP G.L G.m k /\ isB k /\ ev.b = G.B k) -> 0 <= ev.was /\ ev.was <= 70000
theorem wloadB (C : WC X picks R nm lL lW lY lV sP h0 s) (hpf : PF R i pf) (Lg : LgP G R) {kk : Key} (hk : okP G.L G.m kk) (hb : isB kk) (w : WX R nm lL lW lY lV h0 W s pf x i o (.step ⟨1, G.B kk, 0, 0⟩ k) m h) {n : Nme} (hn : n = nm (G.B kk)) :
    CallW Try.prog main (NoS (Γ := Γ)) 89 #[ptr x, nmeV n] h δ (Ret fun v h' δ' => δ' = δ /\ Upd (WT s x) h h' /\ ∃ z, v = .int .i64 z /\ (0 <= z /\ z <= 70000) /\ WX R nm lL lW lY lV h0 W s pf x i o (k z) (m - 1) h') := by
  rcases w with ⟨l, hl, w⟩ | ⟨ho, w⟩
  · have wa := w.at_.at_
    refine (wload_ok C hpf w hn).mono ?_
    rintro (v | ps) h' δ' hq
    · obtain ⟨e, u, ⟨z, l', e1, hv, w'⟩ | ⟨e1, hv, w'⟩⟩ := hq
      · refine ⟨e, u, z, hv, ?_, .inl ⟨l', by rw [e1] at hl; simp only [List.length_cons] at hl; omega, w'⟩⟩
        obtain ⟨t, ht, hl2, -⟩ := wa
        have hm : evOf i ⟨1, G.B kk, 0, 0⟩ z ∈ ownFrom R i t := by rw [hl2, e1]; simp
        exact Lg _ (List.mem_of_mem_drop (List.mem_filter.1 hm).1) ⟨kk, hk, hb, rfl⟩
      · exact ⟨e, u, 0, hv, by omega, .inr ⟨e1, w'⟩⟩
    · exact hq.elim
  · refine (wload_out w).mono ?_
    rintro (v | ps) h' δ' hq
    · obtain ⟨e, hv, u, w'⟩ := hq
      exact ⟨e, u.mono (fun _ _ z => z.elim), 0, hv, by omega, .inr ⟨ho, w'⟩⟩
    · exact hq.elim
theorem waddB (C : WC X picks R nm lL lW lY lV sP h0 s) (hpf : PF R i pf) (Lg : LgP G R) {kk : Key} (hk : okP G.L G.m kk) (hb : isB kk) (w : WX R nm lL lW lY lV h0 W s pf x i o (.step ⟨4, G.B kk, 1, 0⟩ k) m h) {n : Nme} (hn : n = nm (G.B kk)) :
    CallW Try.prog main (NoS (Γ := Γ)) 120 #[ptr x, nmeV n, .int .i64 1] h δ (Ret fun q h' δ' => δ' = δ /\ Upd (WT s x) h h' /\ ∃ z, q = .int .i64 (z + 1) /\ WX R nm lL lW lY lV h0 W s pf x i o (k z) (m - 1) h') := by
  rcases w with ⟨l, hl, w⟩ | ⟨ho, w⟩
  · have wa := w.at_.at_
    refine (wadd_ok C hpf w hn).mono ?_
    rintro (q | ps) h' δ' hq
    · obtain ⟨e, u, ⟨z, l', e1, hv, w'⟩ | ⟨e1, hv, w'⟩⟩ := hq
      · obtain ⟨t, ht, hl2, -⟩ := wa
        have hm : evOf i ⟨4, G.B kk, 1, 0⟩ z ∈ ownFrom R i t := by rw [hl2, e1]; simp
        have hz : 0 <= z /\ z <= 70000 := Lg _ (List.mem_of_mem_drop (List.mem_filter.1 hm).1) ⟨kk, hk, hb, rfl⟩
        exact ⟨e, u, z, by rw [hv]; exact congrArg (Value.int .i64) (i64_in (by omega) (by omega)), .inl ⟨l', by rw [e1] at hl; simp only [List.length_cons] at hl; omega, w'⟩⟩
      · exact ⟨e, u, -1, by rw [hv]; rfl, .inr ⟨e1, w'⟩⟩
    · exact hq.elim
  · refine (wadd_out w).mono ?_
    rintro (q | ps) h' δ' hq
    · obtain ⟨e, hv, u, w'⟩ := hq
      exact ⟨e, u.mono (fun _ _ z => z.elim), -1, by rw [hv]; rfl, .inr ⟨ho, w'⟩⟩
    · exact hq.elim
end
end
section
open Go Go.TJ Go.Proofs
def wt (H : Nat -> Hd) (q : Nat) : Int := 64 * (q : Int) - (H q).2.2
def stepB (H : Nat -> Hd) (n : Nat) : Option Nat -> Option Nat
  | none => if (H n).1 = true then some n else none
  | some b => if (H n).1 = true /\ (wt H n > wt H b \/ (wt H n = wt H b /\ (H n).2.2 < (H b).2.2)) then some n else some b
def bB (H : Nat -> Hd) : Nat -> Nat -> Option Nat
  | 0, _ => none
  | c + 1, n => stepB H n (bB H c (n + 1))
def Best (H : Nat -> Hd) (a z : Nat) : Option Nat -> Prop
  | none => ∀ q, a <= q -> q < z -> (H q).1 = false
  | some b => a <= b /\ b < z /\ (H b).1 = true /\ ∀ q, a <= q -> q < z -> (H q).1 = true -> wt H q <= wt H b /\ (wt H q = wt H b -> b <= q)
theorem Best.uniq {H : Nat -> Hd} {a z : Nat} {o o' : Option Nat} (h : Best H a z o) (h' : Best H a z o') : o = o' := by
  cases o with
  | none =>
    cases o' with
    | none => rfl
    | some b =>
      obtain ⟨h1, h2, h3, -⟩ := h'
      have := h b h1 h2
      rw [this] at h3; cases h3
  | some b =>
    obtain ⟨h1, h2, h3, h4⟩ := h
    cases o' with
    | none =>
      have := h' b h1 h2
      rw [this] at h3; cases h3
    | some b' =>
      obtain ⟨k1, k2, k3, k4⟩ := h'
      have x := h4 b' k1 k2 k3
      have y := k4 b h1 h2 h3
      have e : wt H b = wt H b' := by omega
      have := x.2 e.symm
      have := y.2 e
      exact congrArg some (by omega)
theorem bst_best (H : Nat -> Hd) : ∀ n, Best H 0 n (bst H n)
  | 0 => fun q _ h => by omega
  | n + 1 => by
    have ih := bst_best H n
    show Best H 0 (n + 1) (if (H n).1 = true /\ ∀ b, bst H n = some b -> 64 * ((n : Int) - b) > (H n).2.2 - (H b).2.2 then some n else bst H n)
    generalize bst H n = o at ih
    by_cases hc : (H n).1 = true /\ ∀ b, o = some b -> 64 * ((n : Int) - b) > (H n).2.2 - (H b).2.2
    · rw [if_pos hc]
      refine ⟨Nat.zero_le _, by omega, hc.1, fun q _ hq ht => ?_⟩
      by_cases e : q = n
      · subst e; exact ⟨Int.le_refl _, fun _ => Nat.le_refl _⟩
      · cases o with
        | none => have := ih q (Nat.zero_le _) (by omega); rw [this] at ht; cases ht
        | some b =>
          have h1 := (ih.2.2.2 q (Nat.zero_le _) (by omega) ht).1
          have h2 := hc.2 b rfl
          unfold wt at h1 ⊢
          exact ⟨by omega, fun _ => by omega⟩
    · rw [if_neg hc]
      cases o with
      | none =>
        intro q _ hq
        by_cases e : q = n
        · subst e
          cases ht : (H q).1
          · rfl
          · exact absurd ⟨ht, fun b hb => by cases hb⟩ hc
        · exact ih q (Nat.zero_le _) (by omega)
      | some b =>
        obtain ⟨h1, h2, h3, h4⟩ := ih
        refine ⟨h1, by omega, h3, fun q _ hq ht => ?_⟩
        by_cases e : q = n
        · subst e
          have : ¬ 64 * ((q : Int) - b) > (H q).2.2 - (H b).2.2 := fun x => hc ⟨ht, fun b' hb' => by cases hb'; exact x⟩
          unfold wt
          exact ⟨by omega, fun _ => by omega⟩
        · exact h4 q (Nat.zero_le _) (by omega) ht
theorem stepB_some {H : Nat -> Hd} {n b : Nat} : stepB H n (some b) = if (H n).1 = true /\ (wt H n > wt H b \/ (wt H n = wt H b /\ (H n).2.2 < (H b).2.2)) then some n else some b := rfl
theorem stepB_none {H : Nat -> Hd} {n : Nat} : stepB H n none = if (H n).1 = true then some n else none := rfl
theorem bB_best (H : Nat -> Hd) : ∀ c n, Best H n (n + c) (bB H c n)
  | 0, n => fun q h1 h2 => by omega
  | c + 1, n => by
    have ih := bB_best H c (n + 1)
    show Best H n (n + (c + 1)) (stepB H n (bB H c (n + 1)))
    rw [show n + 1 + c = n + (c + 1) by omega] at ih
    generalize bB H c (n + 1) = o at ih
    cases o with
    | none =>
      rw [stepB_none]
      by_cases ht : (H n).1 = true
      · rw [if_pos ht]
        refine ⟨Nat.le_refl _, by omega, ht, fun q h1 h2 h3 => ?_⟩
        by_cases e : q = n
        · subst e; exact ⟨Int.le_refl _, fun _ => Nat.le_refl _⟩
        · have := ih q (by omega) h2; rw [this] at h3; cases h3
      · rw [if_neg ht]
        intro q h1 h2
        by_cases e : q = n
        · subst e; simpa using ht
        · exact ih q (by omega) h2
    | some b =>
      obtain ⟨h1, h2, h3, h4⟩ := ih
      rw [stepB_some]
      by_cases hc : (H n).1 = true /\ (wt H n > wt H b \/ (wt H n = wt H b /\ (H n).2.2 < (H b).2.2))
      · rw [if_pos hc]
        refine ⟨Nat.le_refl _, by omega, hc.1, fun q q1 q2 q3 => ?_⟩
        by_cases e : q = n
        · subst e; exact ⟨Int.le_refl _, fun _ => Nat.le_refl _⟩
        · have := (h4 q (by omega) q2 q3).1
          exact ⟨by omega, fun _ => by omega⟩
      · rw [if_neg hc]
        refine ⟨by omega, h2, h3, fun q q1 q2 q3 => ?_⟩
        by_cases e : q = n
        · subst e
          have hno : ¬ (wt H q > wt H b \/ (wt H q = wt H b /\ (H q).2.2 < (H b).2.2)) := fun x => hc ⟨q3, x⟩
          unfold wt at hno ⊢
          exact ⟨by omega, fun _ => by omega⟩
        · exact h4 q (by omega) q2 q3
theorem bB_bst {H : Nat -> Hd} {L : Nat} (hL : L <= 8) (hno : ∀ q, L <= q -> (H q).1 = false) : bB H L 0 = bst H 8 := by
  refine Best.uniq (a := 0) (z := 8) ?_ (bst_best H 8)
  have := bB_best H L 0
  rw [Nat.zero_add] at this
  generalize bB H L 0 = o at this
  cases o with
  | none =>
    intro q _ _
    rcases Nat.lt_or_ge q L with y | y
    · exact this q (Nat.zero_le _) y
    · exact hno q y
  | some b =>
    obtain ⟨h1, h2, h3, h4⟩ := this
    refine ⟨h1, by omega, h3, fun q _ _ ht => ?_⟩
    rcases Nat.lt_or_ge q L with y | y
    · exact h4 q (Nat.zero_le _) y ht
    · rw [hno q y] at ht; cases ht
theorem bB_congr {H H' : Nat -> Hd} : ∀ c n, (∀ q, n <= q -> H q = H' q) -> bB H c n = bB H' c n
  | 0, _, _ => rfl
  | c + 1, n, h => by
    have ih := bB_congr c (n + 1) (fun q hq => h q (by omega))
    show stepB H n (bB H c (n + 1)) = stepB H' n (bB H' c (n + 1))
    have hb : ∀ b, bB H' c (n + 1) = some b -> n + 1 <= b := fun b hb => by
      have := bB_best H' c (n + 1)
      rw [hb] at this
      exact this.1
    rw [ih]
    cases ho : bB H' c (n + 1) with
    | none => rw [stepB_none, stepB_none, h n (Nat.le_refl _)]
    | some b => rw [stepB_some, stepB_some]; unfold wt; rw [h n (Nat.le_refl _), h b (by have := hb b ho; omega)]
end
section
open Go Go.TJ Go.Conc Go.Proofs
class EqIIBI (P : Program) (t : TypeId) (k1 k2 k4 : outParam IntKind) : Prop where
  out : P.stoodInHeld t = false /\ P.eqGuardType P.depth t = false /\ ∃ f1 f2 f3 f4 : Field, P.underlying t = some (.struct #[f1, f2, f3, f4]) /\ f1.name ≠ "_" /\ f2.name ≠ "_" /\ f3.name ≠ "_" /\ f4.name ≠ "_" /\ f1.offset = 0 /\ f2.offset = 1 /\ f3.offset = 2 /\ f4.offset = 3 /\ P.underlying f1.type = some (.int k1) /\ P.underlying f2.type = some (.int k2) /\ P.underlying f3.type = some .bool /\ P.underlying f4.type = some (.int k4)
section
variable {Γ : Type} {P : Program} {main : Bool} {S : Sit Γ} {f : FuncId} {n : Nat} {k : List Item} {env : Env} {ds : List Deferred} {h : Hp} {δ : Ix Γ} {R : Post Γ}
variable {ops : Array Oper} {l : List Oper} {d : Nat} {ty : TypeId} {pos : String} {af : Array Edge} {g : Option (Nat × Bool)} {Z : Hp -> Prop} {zz : Nat} {m : Nat} {listed l' : Array Bool}
theorem semW_partB {t : TypeId} {cs : Array Value} {o : Nat} {v : Value} (hu : P.underlying t = some .bool) (hv : cs[o]? = some v) {Q : Value -> Hp -> Ix Γ -> Prop} {X : Value -> Hp -> Ix Γ -> Prop} (hq : Q v h δ) : SemW P S (part t cs o) h δ Q X := by
  unfold part isAgg
  refine semW_bind _ _ _ _ _ _ ?_
  refine semW_underlying hu ?_
  simp only [hv]
  exact hq
theorem semW_eqBool {dd : Nat} {t : TypeId} {a : Bool} (hu : P.underlying t = some .bool) {Q : Bool -> Hp -> Ix Γ -> Prop} {X : Value -> Hp -> Ix Γ -> Prop} (hq : Q true h δ) : SemW P S (Op.equalIn (dd + 1) t (.bool a) (.bool a)) h δ Q X := by
  unfold Op.equalIn
  refine semW_underlying hu ?_
  simp only [beq_self_eq_true]
  exact hq
theorem semW_eqI4 {t : TypeId} {k1 k2 k4 : IntKind} [e : EqIIBI P t k1 k2 k4] {a1 a2 a4 : Int} {a3 : Bool} {Q : Bool -> Hp -> Ix Γ -> Prop} {X : Value -> Hp -> Ix Γ -> Prop} (hq : Q true h δ) :
    SemW P S (Op.equal t (.agg #[.int k1 a1, .int k2 a2, .bool a3, .int k4 a4]) (.agg #[.int k1 a1, .int k2 a2, .bool a3, .int k4 a4])) h δ Q X := by
  obtain ⟨hs, -, f1, f2, f3, f4, hu, hn1, hn2, hn3, hn4, ho1, ho2, ho3, ho4, hu1, hu2, hu3, hu4⟩ := e.out
  unfold Op.equal Op.maxDepth Op.equalIn
  refine semW_underlying hu ?_
  simp only
  change SemW P S (Sem.bind (Sem.program Sem.pure) _) h δ Q X
  simp only [Sem.bind, SemW, hs]
  rw [if_neg (by simp)]
  rw [<- Array.forIn_toList]
  simp only [List.forIn_cons, List.forIn_nil, hn1, hn2, hn3, hn4, ho1, ho2, ho3, ho4, ne_eq, not_false_eq_true, if_true]
  refine semW_bind _ _ _ _ _ _ (semW_bind _ _ _ _ _ _ (semW_bind _ _ _ _ _ _ (semW_partI hu1 rfl (semW_bind _ _ _ _ _ _ (semW_partI hu1 rfl (semW_bind _ _ _ _ _ _ (semW_eqInt (dd := 9998) hu1 ?_)))))))
  rw [beq_self_eq_true]
  simp only [Bool.not_true, Bool.false_eq_true, if_false]
  refine semW_pure (Q := _) ?_
  simp only
  refine semW_bind _ _ _ _ _ _ (semW_bind _ _ _ _ _ _ (semW_partI hu2 rfl (semW_bind _ _ _ _ _ _ (semW_partI hu2 rfl (semW_bind _ _ _ _ _ _ (semW_eqInt (dd := 9998) hu2 ?_))))))
  rw [beq_self_eq_true]
  simp only [Bool.not_true, Bool.false_eq_true, if_false]
  refine semW_pure (Q := _) ?_
  simp only
  refine semW_bind _ _ _ _ _ _ (semW_bind _ _ _ _ _ _ (semW_partB hu3 rfl (semW_bind _ _ _ _ _ _ (semW_partB hu3 rfl (semW_bind _ _ _ _ _ _ (semW_eqBool (dd := 9998) hu3 ?_))))))
  simp only [Bool.not_true, Bool.false_eq_true, if_false]
  refine semW_pure (Q := _) ?_
  simp only
  refine semW_bind _ _ _ _ _ _ (semW_bind _ _ _ _ _ _ (semW_partI hu4 rfl (semW_bind _ _ _ _ _ _ (semW_partI hu4 rfl (semW_bind _ _ _ _ _ _ (semW_eqInt (dd := 9998) hu4 ?_))))))
  rw [beq_self_eq_true]
  exact hq
theorem eqGuard_agg4 {op : BinOp} {t : TypeId} {k1 k2 k4 : IntKind} [e : EqIIBI P t k1 k2 k4] {x y : Operand} {a b : Array Value} {Q : Unit -> Hp -> Ix Γ -> Prop} {X : Value -> Hp -> Ix Γ -> Prop} (hq : Q () h δ) : SemW P S (eqGuard op t x y (.agg a) (.agg b)) h δ Q X := by
  obtain ⟨-, hg, -⟩ := e.out
  unfold eqGuard
  have key : SemW P S (do if !(← program).eqGuardType (← program).depth t then return
                          if <- Op.eqGuardIn Op.maxDepth t (.agg a) (.agg b) then unsupported (.noEntry "binop/eql: two nil values of an interface type with methods, in a part of a struct or an array")) h δ Q X := by
    change SemW P S (Sem.bind (Sem.program Sem.pure) fun p => Sem.bind (Sem.program Sem.pure) fun q => if (!p.eqGuardType q.depth t) = true then _ else _) h δ Q X
    simp only [Sem.bind, SemW, hg]
    exact hq
  cases op <;> first | exact hq | exact key
theorem sem_neqA4 {t t2 : TypeId} {k1 k2 k4 : IntKind} [EqIIBI P t k1 k2 k4] {x y : Operand} {a1 a2 a4 : Int} {a3 : Bool} {ρ : Operand -> Value} {dst : Option Nat} {Q : Next -> Hp -> Ix Γ -> Prop} {X : Value -> Hp -> Ix Γ -> Prop} (hx : ρ x = .agg #[.int k1 a1, .int k2 a2, .bool a3, .int k4 a4]) (hy : ρ y = .agg #[.int k1 a1, .int k2 a2, .bool a3, .int k4 a4]) (hq : Q (.value (.bool false)) h δ) : SemW P S (execOp ρ ⟨dst, .binOp .neq t x y t2, ty, pos, af, g⟩) h δ Q X :=
  semW_binOp (by
    rw [hx, hy]
    exact eqGuard_agg4 (by
      show SemW P S (Op.equal t _ _ >>= fun b => pure (Value.bool (!b))) h δ _ X
      exact semW_bind _ _ _ _ _ _ (semW_eqI4 (by exact hq))))
end
instance : EqIIBI Try.prog 137 .i64 .i64 .i64 := ⟨by kernel_rfl, by kernel_rfl, _, _, _, _, Try.underlying137, by decide, by decide, by decide, by decide, rfl, rfl, rfl, rfl, Try.underlying2, Try.underlying3, Try.underlying4, Try.underlying34⟩
end
section
open Go Go.TJ Go.Conc Go.Proofs
section
variable {Γ : Type} {main : Bool} {S : Sit Γ} {δ : Ix Γ} {R : Rec} {nm : Nat -> Nme} {lL lW lY lV sP : Value} {h0 h h' : Hp} {W x i t e m : Nat} {G : PG} {s : WS} {picks : List Int} {X : Us} {pf p : Pr GAns} {l : List Ev} {o : List GAns}
theorem ans_all {y : Nat} {a : GAns} {h : Hp} (hy : h[y]? = some (gansO a)) : ∀ j, j < 4 -> (∃ u, hcell h ⟨y, 0 + j, none⟩ = some u) /\ hfroz h ⟨y, 0 + j, none⟩ = false /\ ¬ (NoS (Γ := Γ)).still δ.g ⟨y, 0 + j, none⟩ := fun j hj => by
  refine ⟨?_, hfroz_of hy, fun x => x⟩
  rcases (show j = 0 \/ j = 1 \/ j = 2 \/ j = 3 by omega) with rfl | rfl | rfl | rfl <;> exact ⟨_, hcell_of hy rfl⟩
set_option maxRecDepth 8000 in
set_option maxHeartbeats 16000000 in
theorem rput_w (C : WC X picks R nm lL lW lY lV sP h0 s) (hpf : PF R i pf) (Lg : LgP G R) (N : NmsP G nm) (hm : G.m = 2 ^ e) (he : e <= 6) (hL8 : G.L <= 8) {lv f : Nat} (hl : lv < G.L) {v : Int} {k : GAns -> Pr GAns} (w : WX R nm lL lW lY lV h0 W s pf x i o (putP G lv v (fun e => k (0, 0, false, e)) f) m h) (hf : m <= f) :
    CallW Try.prog main (NoS (Γ := Γ)) 123 #[ptr x, .agg (madP G.L G.m).toArray, .agg (gcallL (0, (lv : Int), v)).toArray] h δ (Ret fun v h' δ' => δ' = δ /\ RDidX R nm lL lW lY lV h0 W s gansL pf x i o k m h v h') := by
  have hm0 : 0 < G.m := by rw [hm]; exact Nat.two_pow_pos e
  have hm1 : G.m ≤ 64 := by have := Nat.pow_le_pow_right (n := 2) (by decide) he; have h6 : 2 ^ 6 = 64 := by decide
                            omega
  have wt := w.wt
  have hh0 : h0.size <= h.size := by have := (wt x (.inl rfl)); omega
  obtain ⟨y4, hy4⟩ : ∃ y4, y4 = h.size := ⟨_, rfl⟩
  obtain ⟨y5, hy5⟩ : ∃ y5, y5 = h.size + 1 := ⟨_, rfl⟩
  obtain ⟨y6, hy6⟩ : ∃ y6, y6 = h.size + 1 + 1 := ⟨_, rfl⟩
  refine CallW.start (n := 76) rfl rfl ?_
  have u0 : Upd (fun _ => False) h (((h.push (.cells (madP G.L G.m).toArray 129)).push (.cells (gcallL (0, (lv : Int), v)).toArray 140)).push (gansO (0, 0, false, 0))) := ((Upd.push _ _).trans (Upd.push _ _)).trans (Upd.push _ _)
  refine EK.seq ?_
  refine EK.region ?_
  refine ER.box rfl rfl rfl ?_
  refine ER.box rfl rfl rfl ?_
  refine ER.allocA rfl rfl ?_
  refine ER.done ?_
  simp only [Array.size_push]
  refine EK.gen (fun h' => WX R nm lL lW lY lV h0 W s pf x i o (putP G lv v (fun e => k (0, 0, false, e)) f) m h' /\ Upd (fun _ => False) h h' /\ h'[y4]? = some (.cells (madP G.L G.m).toArray 129 (0, 0)) /\ h'[y5]? = some (.cells (gcallL (0, (lv : Int), v)).toArray 140 (0, 0)) /\ h'[y6]? = some (gansO (0, 0, false, 0))) ⟨w.upd0 u0, u0, ?_, ?_, ?_⟩ ?_
  · rw [hy4]; exact get_push _ (get_push _ (get_push_new _ _))
  · have := get_push (o := gansO (0, 0, false, 0)) (get_push_new (h.push (.cells (madP G.L G.m).toArray 129)) (.cells (gcallL (0, (lv : Int), v)).toArray 140))
    rw [Array.size_push] at this
    rw [hy5]; exact this
  · have := get_push_new ((h.push (.cells (madP G.L G.m).toArray 129)).push (.cells (gcallL (0, (lv : Int), v)).toArray 140)) (gansO (0, 0, false, 0))
    rw [Array.size_push, Array.size_push] at this
    rw [hy6]; exact this
  rw [<- hy6, <- hy5, <- hy4]
  clear w u0
  rintro hh ⟨w, u1, g4, g5, g6⟩
  have n4 : ¬ WT s x y4 := fun hc => by have := (wt _ hc).2; omega
  have n5 : ¬ WT s x y5 := fun hc => by have := (wt _ hc).2; omega
  have n6 : ¬ WT s x y6 := fun hc => by have := (wt _ hc).2; omega
  have uu : Upd (WT s x) h hh := u1.mono (fun _ _ z => z.elim)
  clear u1 wt
  have c51 : hcell hh ⟨y5, 1, none⟩ = some (.int .i64 lv) := hcell_of g5 rfl
  (repeat (first | refine EK.seq ?_ | refine EK.region ?_ | refine ER.done ?_ | refine EK.block ?_ | refine ER.assign rfl rfl rfl ?_ | refine ER.fieldAddr rfl rfl rfl ?_ | refine ER.load1 rfl rfl rfl (hcell_of (by assumption) rfl) ?_))
  clear c51
  refine EK.loopInv (fun _ : Nat × Nat => [(0, ptr x), (4, ptr y4), (5, ptr y5), (6, ptr y6), (7, .int .i64 lv)]) (fun q h' δ' => δ' = δ /\ Upd (WT s x) h h' /\ h'[y4]? = some (.cells (madP G.L G.m).toArray 129 (0, 0)) /\ h'[y5]? = some (.cells (gcallL (0, (lv : Int), v)).toArray 140 (0, 0)) /\ h'[y6]? = some (gansO (0, 0, false, 0)) /\ WX R nm lL lW lY lV h0 W s pf x i o (putP G lv v (fun e => k (0, 0, false, e)) q.1) q.2 h' /\ q.2 <= q.1 /\ q.2 <= m) (fun q => q.2) (f, m) ⟨rfl, rfl, rfl, rfl, rfl, trivial⟩ ⟨rfl, uu, g4, g5, g6, w, hf, Nat.le_refl _⟩ ?_
  clear w uu g4 g5 g6 hf
  rintro ⟨f1, m1⟩ hh δ1 ⟨rfl, uu, g4, g5, g6, w, hf1, hm1'⟩ again
  dsimp only at w hf1 hm1' again
  rcases w with ⟨l1, hl1, w⟩ | ⟨ho, w⟩
  · have r1 := w.row
    obtain ⟨f2, rfl⟩ : ∃ f2, f1 = f2 + 1 := ⟨f1 - 1, by omega⟩
    replace w : WX R nm lL lW lY lV h0 W s pf x i o (putP G lv v (fun e => k (0, 0, false, e)) (f2 + 1)) m1 hh := .inl ⟨l1, hl1, w⟩
    unfold putP at w
    (repeat (first | refine EK.seq ?_ | refine EK.region ?_ | refine ER.done ?_ | refine EK.skip ?_ | refine EK.block ?_ | refine ER.move rfl rfl rfl ?_ | refine ER.nilCheck rfl rfl rfl ?_ | refine ER.fieldAddr rfl rfl rfl ?_ | refine ER.notB rfl rfl rfl ?_ | refine EK.condT rfl ?_ | refine ER.load1 rfl rfl rfl (by assumption) ?_))
    clear r1
    refine ER.callR rfl rfl rfl rfl rfl rin_ok ?_
    rintro _ hh δ2 ⟨rfl, rfl, u2⟩
    replace w := w.upd0 u2
    replace uu : Upd (WT s x) h hh := uu.trans (u2.mono (fun _ _ z => z.elim))
    replace g4 := u2.get g4 (fun z => z)
    replace g5 := u2.get g5 (fun z => z)
    replace g6 := u2.get g6 (fun z => z)
    clear u2
    refine ER.callR rfl rfl rfl rfl rfl (wloadB C hpf Lg (kk := kIn lv) hl (.inr (.inl rfl)) w (N.inn hl)) ?_
    rintro _ hh δ2 ⟨rfl, u2, p, rfl, hp, w2⟩
    clear w
    replace uu := uu.trans u2
    replace g4 := u2.get g4 n4
    replace g5 := u2.get g5 n5
    replace g6 := u2.get g6 n6
    clear u2
    have w := w2
    clear w2
    have hlt := pj_lt hm0 p
    (repeat (first | refine EK.seq ?_ | refine EK.region ?_ | refine ER.done ?_ | refine ER.move rfl rfl rfl ?_ | refine ER.assign rfl rfl rfl ?_))
    refine ER.loadN (vs := madP G.L G.m) rfl rfl rfl rfl (hrow_block (rest := []) (by rw [List.append_nil]; exact g4)) ?_
    (repeat refine ER.move rfl rfl rfl ?_)
    refine ER.callR rfl rfl rfl rfl rfl (rof_ok (t := 0) (l := lv) hm0 hm1 (by omega) (by omega) hp) ?_
    rintro _ hh δ2 ⟨rfl, rfl, u2⟩
    replace w := w.upd0 u2
    replace uu : Upd (WT s x) h hh := uu.trans (u2.mono (fun _ _ z => z.elim))
    replace g4 := u2.get g4 (fun z => z)
    replace g5 := u2.get g5 (fun z => z)
    replace g6 := u2.get g6 (fun z => z)
    clear u2
    refine ER.callR rfl rfl rfl rfl rfl (wloadX C hpf w (N.pl (t := 0) (by omega) hl hlt)) ?_
    rintro _ hh δ2 ⟨rfl, u2, tn, rfl, w2⟩
    clear w
    replace uu := uu.trans u2
    replace g4 := u2.get g4 n4
    replace g5 := u2.get g5 n5
    replace g6 := u2.get g6 n6
    clear u2
    have w := w2
    clear w2
    (repeat refine ER.move rfl rfl rfl ?_)
    refine ER.sub' (r := IntKind.i64.wrap (tn - p)) rfl rfl rfl rfl rfl ?_
    rcases w with ⟨l2, hl2, w⟩ | ⟨ho, w⟩
    · have r2 := w.row
      generalize hdd : IntKind.i64.wrap (tn - p) = dd at w ⊢
      by_cases h0' : dd < 0
      · rw [if_pos h0'] at w
        (repeat (first | refine EK.seq ?_ | refine EK.region ?_ | refine ER.done ?_ | refine EK.skip ?_ | refine ER.move rfl rfl rfl ?_ | refine ER.assign rfl rfl rfl ?_ | refine ER.nilCheck rfl rfl rfl ?_ | refine ER.fieldAddr rfl rfl rfl ?_ | refine ER.cmpT rfl rfl rfl rfl rfl (by first | (dsimp only [cmpP]; omega) | exact rfl | exact Int.le_refl _) ?_ | refine EK.condT rfl ?_ | refine EK.condF rfl ?_ | refine ER.load1 rfl rfl rfl (by assumption) ?_))
        refine ER.buildS (cells := (gansL (0, 0, false, 12)).toArray) rfl rfl (by rfl) (by rfl) ?_
        refine ER.storeN (vs := gansL (0, 0, false, 12)) rfl rfl rfl rfl (by simp [gansL, OneCell]) (ans_all g6) ?_
        rw [row_set (c := gansL (0, 0, false, 0)) (vs := gansL (0, 0, false, 12)) g6 rfl]
        (repeat (first | refine ER.done ?_ | refine EK.ret ?_))
        exact EU.retCell1 (vs := gansL (0, 0, false, 12)) rfl rfl rfl (hrow_block (rest := []) (by rw [List.append_nil]; exact get_set_same g6)) ⟨rfl, upd_then uu (Upd.set (T := fun c => c = y6) _ _ _ rfl) (fun c hc e => by omega), (0, 0, false, 12), rfl, ((show WX R nm lL lW lY lV h0 W s pf x i o (k (0, 0, false, 12)) m hh from .inl ⟨l2, by omega, w⟩)).setA g6 (by omega) (by decide) (by decide) (by decide) (by decide) (by decide) _⟩
      · rw [if_neg h0'] at w
        by_cases hz : dd = 0
        · rw [if_pos hz] at w
          subst hz
          replace w : WX R nm lL lW lY lV h0 W s pf x i o _ (m1 - 1 - 1) hh := .inl ⟨l2, hl2, w⟩
          (repeat (first | refine EK.seq ?_ | refine EK.region ?_ | refine ER.done ?_ | refine EK.skip ?_ | refine ER.move rfl rfl rfl ?_ | refine ER.assign rfl rfl rfl ?_ | refine ER.nilCheck rfl rfl rfl ?_ | refine ER.fieldAddr rfl rfl rfl ?_ | refine ER.cmpT rfl rfl rfl rfl rfl (by first | (dsimp only [cmpP]; omega) | exact rfl | exact Int.le_refl _) ?_ | refine ER.cmpF rfl rfl rfl rfl rfl (by first | (dsimp only [cmpP]; omega) | exact rfl | exact Int.le_refl _) ?_ | refine EK.condF rfl ?_ | refine ER.load1 rfl rfl rfl (by assumption) ?_))
          clear r2
          refine ER.callR rfl rfl rfl rfl rfl rin_ok ?_
          rintro _ hh δ2 ⟨rfl, rfl, u2⟩
          replace w := w.upd0 u2
          replace uu : Upd (WT s x) h hh := uu.trans (u2.mono (fun _ _ z => z.elim))
          replace g4 := u2.get g4 (fun z => z)
          replace g5 := u2.get g5 (fun z => z)
          replace g6 := u2.get g6 (fun z => z)
          clear u2
          (repeat (first | refine ER.move rfl rfl rfl ?_ | refine ER.add (kd := .i64) rfl rfl rfl rfl (i64_in (by omega) (by omega)) ?_))
          refine ER.callR rfl rfl rfl rfl rfl (wcasX C hpf w (N.inn hl)) ?_
          rintro _ hh δ2 ⟨rfl, u2, c, rfl, w2⟩
          clear w
          replace uu := uu.trans u2
          replace g4 := u2.get g4 n4
          replace g5 := u2.get g5 n5
          replace g6 := u2.get g6 n6
          clear u2
          have w := w2
          clear w2
          by_cases hw : c = p
          · rw [if_pos hw] at w
            rw [decide_eq_true hw]
            (repeat (first | refine EK.seq ?_ | refine EK.region ?_ | refine ER.done ?_ | refine ER.move rfl rfl rfl ?_ | refine ER.pickT rfl rfl rfl rfl ?_ | refine EK.condT rfl ?_))
            refine ER.callR rfl rfl rfl rfl rfl rtk_ok ?_
            rintro _ hh δ2 ⟨rfl, rfl, u2⟩
            replace w := w.upd0 u2
            replace uu : Upd (WT s x) h hh := uu.trans (u2.mono (fun _ _ z => z.elim))
            replace g4 := u2.get g4 (fun z => z)
            replace g5 := u2.get g5 (fun z => z)
            replace g6 := u2.get g6 (fun z => z)
            clear u2
            refine ER.callR rfl rfl rfl rfl rfl (waddB C hpf Lg (kk := kTk) trivial (.inl rfl) w N.tk) ?_
            rintro _ hh δ2 ⟨rfl, u2, tk, rfl, w2⟩
            clear w
            replace uu := uu.trans u2
            replace g4 := u2.get g4 n4
            replace g5 := u2.get g5 n5
            replace g6 := u2.get g6 n6
            clear u2
            have w := w2
            clear w2
            (repeat (first | refine EK.seq ?_ | refine EK.region ?_ | refine ER.done ?_ | refine ER.move rfl rfl rfl ?_ | refine ER.assign rfl rfl rfl ?_))
            refine ER.loadN (vs := madP G.L G.m) rfl rfl rfl rfl (hrow_block (rest := []) (by rw [List.append_nil]; exact g4)) ?_
            (repeat refine ER.move rfl rfl rfl ?_)
            refine ER.callR rfl rfl rfl rfl rfl (rof_ok (t := 1) (l := lv) hm0 hm1 (by omega) (by omega) hp) ?_
            rintro _ hh δ2 ⟨rfl, rfl, u2⟩
            replace w := w.upd0 u2
            replace uu : Upd (WT s x) h hh := uu.trans (u2.mono (fun _ _ z => z.elim))
            replace g4 := u2.get g4 (fun z => z)
            replace g5 := u2.get g5 (fun z => z)
            replace g6 := u2.get g6 (fun z => z)
            clear u2
            (repeat refine ER.move rfl rfl rfl ?_)
            refine ER.callR rfl rfl rfl rfl rfl (wstoreX C hpf w (N.pl (t := 1) (by omega) hl hlt)) ?_
            rintro _ hh δ2 ⟨rfl, u2, w2⟩
            clear w
            replace uu := uu.trans u2
            replace g4 := u2.get g4 n4
            replace g5 := u2.get g5 n5
            replace g6 := u2.get g6 n6
            clear u2
            have w := w2
            clear w2
            (repeat (first | refine EK.seq ?_ | refine ER.done ?_))
            refine EK.regionAny (fun h' => h'[y4]? = some (.cells (madP G.L G.m).toArray 129 (0, 0)) /\ h'[y5]? = some (.cells (gcallL (0, (lv : Int), v)).toArray 140 (0, 0))) ?_
            have hZ := And.intro g4 g5
            refine EA.tMove 0 rfl (by kernel_rfl) rfl rfl rfl rfl hZ ?_
            refine EA.tLoadN (vs := madP G.L G.m) 1 rfl (by kernel_rfl) rfl rfl rfl rfl rfl (fun _ hz => hrow_block (rest := []) (by rw [List.append_nil]; exact hz.1)) hZ ?_
            refine EA.tMove 2 rfl (by kernel_rfl) rfl rfl rfl rfl hZ ?_
            refine EA.tMove 3 rfl (by kernel_rfl) rfl rfl rfl rfl hZ ?_
            refine EA.tField 5 rfl (by kernel_rfl) rfl rfl rfl rfl hZ ?_
            refine EA.tLoad 6 rfl (by kernel_rfl) rfl rfl rfl rfl (fun _ hz => (hcell_of hz.2 rfl)) hZ ?_
            refine EA.callR 4 rfl (by kernel_rfl) rfl rfl rfl rfl rfl rfl (rof_ok (t := 2) (l := lv) hm0 hm1 (by omega) (by omega) hp) ?_
            rintro _ hh δ2 ⟨rfl, rfl, u2⟩
            replace w := w.upd0 u2
            replace uu : Upd (WT s x) h hh := uu.trans (u2.mono (fun _ _ z => z.elim))
            replace g4 := u2.get g4 (fun z => z)
            replace g5 := u2.get g5 (fun z => z)
            replace g6 := u2.get g6 (fun z => z)
            refine ⟨⟨g4, g5⟩, ?_⟩
            clear u2 hZ
            refine EA.callR 7 rfl (by kernel_rfl) rfl rfl rfl rfl rfl rfl (wstoreX C hpf w (N.pl (t := 2) (by omega) hl hlt)) ?_
            rintro _ hh δ2 ⟨rfl, u2, w2⟩
            clear w
            replace uu := uu.trans u2
            replace g4 := u2.get g4 n4
            replace g5 := u2.get g5 n5
            replace g6 := u2.get g6 n6
            clear u2
            have w := w2
            clear w2
            refine ⟨⟨g4, g5⟩, EA.done (by kernel_rfl) ?_⟩
            (repeat (first | refine EK.seq ?_ | refine EK.region ?_ | refine ER.move rfl rfl rfl ?_))
            refine ER.loadN (vs := madP G.L G.m) rfl rfl rfl rfl (hrow_block (rest := []) (by rw [List.append_nil]; exact g4)) ?_
            (repeat refine ER.move rfl rfl rfl ?_)
            refine ER.callR rfl rfl rfl rfl rfl (rof_ok (t := 0) (l := lv) hm0 hm1 (by omega) (by omega) hp) ?_
            rintro _ hh δ2 ⟨rfl, rfl, u2⟩
            replace w := w.upd0 u2
            replace uu : Upd (WT s x) h hh := uu.trans (u2.mono (fun _ _ z => z.elim))
            replace g4 := u2.get g4 (fun z => z)
            replace g5 := u2.get g5 (fun z => z)
            replace g6 := u2.get g6 (fun z => z)
            clear u2
            (repeat (first | refine ER.move rfl rfl rfl ?_ | refine ER.add (kd := .i64) rfl rfl rfl rfl (i64_in (by omega) (by omega)) ?_))
            refine ER.callR rfl rfl rfl rfl rfl (wstoreX C hpf w (N.pl (t := 0) (by omega) hl hlt)) ?_
            rintro _ hh δ2 ⟨rfl, u2, w2⟩
            clear w
            replace uu := uu.trans u2
            replace g4 := u2.get g4 n4
            replace g5 := u2.get g5 n5
            replace g6 := u2.get g6 n6
            clear u2
            have w := w2
            clear w2
            (repeat (first | refine EK.seq ?_ | refine EK.region ?_ | refine ER.done ?_))
            refine ER.buildS (cells := (gansL (0, 0, false, 0)).toArray) rfl rfl (by rfl) (by rfl) ?_
            refine ER.storeN (vs := gansL (0, 0, false, 0)) rfl rfl rfl rfl (by simp [gansL, OneCell]) (ans_all g6) ?_
            rw [row_set (c := gansL (0, 0, false, 0)) (vs := gansL (0, 0, false, 0)) g6 rfl]
            (repeat (first | refine ER.done ?_ | refine EK.ret ?_))
            exact EU.retCell1 (vs := gansL (0, 0, false, 0)) rfl rfl rfl (hrow_block (rest := []) (by rw [List.append_nil]; exact get_set_same g6)) ⟨rfl, upd_then uu (Upd.set (T := fun c => c = y6) _ _ _ rfl) (fun c hc e => by omega), (0, 0, false, 0), rfl, ((w.mono (by omega))).setA g6 (by omega) (by decide) (by decide) (by decide) (by decide) (by decide) _⟩
          · rw [if_neg hw] at w
            rw [decide_eq_false hw]
            (repeat (first | refine ER.done ?_ | refine EK.skip ?_ | refine EK.inBlock ?_ | refine ER.pickT rfl rfl rfl rfl ?_ | refine EK.condF rfl ?_))
            exact EK.back (again (f2, m1 - 1 - 1 - 1) _ _ (by dsimp only; omega) ⟨rfl, uu, g4, g5, g6, w, by dsimp only; omega, by dsimp only; omega⟩) ⟨rfl, rfl, rfl, rfl, rfl, trivial⟩
        · rw [if_neg hz] at w
          (repeat (first | refine EK.seq ?_ | refine EK.region ?_ | refine ER.done ?_ | refine EK.skip ?_ | refine EK.inBlock ?_ | refine ER.move rfl rfl rfl ?_ | refine ER.assign rfl rfl rfl ?_ | refine ER.nilCheck rfl rfl rfl ?_ | refine ER.fieldAddr rfl rfl rfl ?_ | refine ER.no rfl rfl ?_ | refine ER.pickF rfl rfl rfl rfl ?_ | refine ER.cmpF rfl rfl rfl rfl rfl (by first | (dsimp only [cmpP]; omega) | exact rfl | exact Int.le_refl _) ?_ | refine EK.condF rfl ?_ | refine ER.load1 rfl rfl rfl (by assumption) ?_))
          exact EK.back (again (f2, m1 - 1 - 1) _ _ (by dsimp only; omega) ⟨rfl, uu, g4, g5, g6, .inl ⟨l2, hl2, w⟩, by dsimp only; omega, by dsimp only; omega⟩) ⟨rfl, rfl, rfl, rfl, rfl, trivial⟩
    · have r2 := w.row
      clear again
      (repeat (first | refine EK.seq ?_ | refine EK.region ?_ | refine ER.done ?_ | refine ER.move rfl rfl rfl ?_ | refine ER.assign rfl rfl rfl ?_ | refine ER.nilCheck rfl rfl rfl ?_ | refine ER.fieldAddr rfl rfl rfl ?_ | refine EK.condT rfl ?_ | refine EK.exit rfl ?_ | refine ER.load1 rfl rfl rfl (by assumption) ?_))
      refine ER.buildS (cells := (gansL (0, 0, false, 0)).toArray) rfl rfl (by rfl) (by rfl) ?_
      refine ER.storeN (vs := gansL (0, 0, false, 0)) rfl rfl rfl rfl (by simp [gansL, OneCell]) (ans_all g6) ?_
      rw [row_set (c := gansL (0, 0, false, 0)) (vs := gansL (0, 0, false, 0)) g6 rfl]
      (repeat (first | refine ER.done ?_ | refine EK.ret ?_))
      exact EU.retCell1 (vs := gansL (0, 0, false, 0)) rfl rfl rfl (hrow_block (rest := []) (by rw [List.append_nil]; exact get_set_same g6)) ⟨rfl, upd_then uu (Upd.set (T := fun c => c = y6) _ _ _ rfl) (fun c hc e => by omega), (0, 0, false, 0), rfl, ((show WX R nm lL lW lY lV h0 W s pf x i o (k (0, 0, false, 0)) m hh from .inr ⟨ho, w⟩)).setA g6 (by omega) (by decide) (by decide) (by decide) (by decide) (by decide) _⟩
  · have r1 := w.row
    clear again
    (repeat (first | refine EK.seq ?_ | refine EK.region ?_ | refine ER.done ?_ | refine ER.move rfl rfl rfl ?_ | refine ER.nilCheck rfl rfl rfl ?_ | refine ER.fieldAddr rfl rfl rfl ?_ | refine ER.notB rfl rfl rfl ?_ | refine EK.condF rfl ?_ | refine EK.exit rfl ?_ | refine ER.load1 rfl rfl rfl (by assumption) ?_))
    refine ER.buildS (cells := (gansL (0, 0, false, 0)).toArray) rfl rfl (by rfl) (by rfl) ?_
    refine ER.storeN (vs := gansL (0, 0, false, 0)) rfl rfl rfl rfl (by simp [gansL, OneCell]) (ans_all g6) ?_
    rw [row_set (c := gansL (0, 0, false, 0)) (vs := gansL (0, 0, false, 0)) g6 rfl]
    (repeat (first | refine ER.done ?_ | refine EK.ret ?_))
    exact EU.retCell1 (vs := gansL (0, 0, false, 0)) rfl rfl rfl (hrow_block (rest := []) (by rw [List.append_nil]; exact get_set_same g6)) ⟨rfl, upd_then uu (Upd.set (T := fun c => c = y6) _ _ _ rfl) (fun c hc e => by omega), (0, 0, false, 0), rfl, ((show WX R nm lL lW lY lV h0 W s pf x i o (k (0, 0, false, 0)) m hh from .inr ⟨ho, w⟩)).setA g6 (by omega) (by decide) (by decide) (by decide) (by decide) (by decide) _⟩
end
end
section
open Go Go.TJ Go.Conc Go.Proofs
abbrev arrO (A : Nat -> Int) : Obj := .cells ((List.range 8).map fun i => Value.int .i64 (A i)).toArray 154 (0, 0)
theorem arr_get {h : Hp} {y : Nat} {A : Nat -> Int} (hy : h[y]? = some (arrO A)) {n : Nat} (hn : n < 8) : hcell h ⟨y, 0 + n * 1, none⟩ = some (.int .i64 (A n)) := hcell_of hy (by
  rw [show 0 + n * 1 = n by omega]
  simp [hn])
theorem arr_set {h : Hp} {y : Nat} {A : Nat -> Int} (hy : h[y]? = some (arrO A)) {n : Nat} (hn : n < 8) (v : Int) : hset h ⟨y, 0 + n * 1, none⟩ (.int .i64 v) = h.setIfInBounds y (arrO (ut A n v)) := by
  have e : hset h ⟨y, 0 + n * 1, none⟩ (.int .i64 v) = h.setIfInBounds y (.cells (((List.range 8).map fun i => Value.int .i64 (A i)).toArray.setIfInBounds (0 + n * 1) (.int .i64 v)) 154 (0, 0)) := hset_block hy _
  rw [e]
  congr 2
  rcases lt8 hn with rfl | rfl | rfl | rfl | rfl | rfl | rfl | rfl <;> rfl
section
variable {Γ : Type} {main : Bool} {S : Sit Γ} {δ : Ix Γ} {R : Rec} {nm : Nat -> Nme} {lL lW lY lV sP : Value} {h0 h h' : Hp} {W x i t e m : Nat} {G : PG} {s : WS} {picks : List Int} {X : Us} {pf p : Pr GAns} {l : List Ev} {o : List GAns}
structure TkS where
  n : Nat
  m : Nat
  H : Nat -> Hd
  A : Nat -> Int
  T : Nat -> Int
set_option maxRecDepth 8000 in
set_option maxHeartbeats 16000000 in
theorem rtake_w (C : WC X picks R nm lL lW lY lV sP h0 s) (hpf : PF R i pf) (Lg : LgP G R) (N : NmsP G nm) (hm : G.m = 2 ^ e) (he : e <= 6) (hL1 : 1 <= G.L) (hL8 : G.L <= 8) {f : Nat} {k : GAns -> Pr GAns} (w : WX R nm lL lW lY lV h0 W s pf x i o (takeP G (fun v l is => k (v, l, is, 0)) (f + 1)) m h) :
    CallW Try.prog main (NoS (Γ := Γ)) 124 #[ptr x, .agg (madP G.L G.m).toArray] h δ (Ret fun v h' δ' => δ' = δ /\ Upd (WT s x) h h' /\ ∃ (a : GAns) (again : Bool), v = .tuple #[.agg (gansL a).toArray, .bool again] /\ ((again = false /\ WX R nm lL lW lY lV h0 W s pf x i o (k a) m h') \/ (again = true /\ WX R nm lL lW lY lV h0 W s pf x i o (takeP G (fun v l is => k (v, l, is, 0)) f) (m - 1) h'))) := by
  have hm0 : 0 < G.m := by rw [hm]; exact Nat.two_pow_pos e
  have hm1 : G.m ≤ 64 := by have := Nat.pow_le_pow_right (n := 2) (by decide) he; have h6 : 2 ^ 6 = 64 := by decide
                            omega
  have wt0 := w.wt
  have hh0 : h0.size <= h.size := by have := (wt0 x (.inl rfl)); omega
  obtain ⟨y4, hy4⟩ : ∃ y4, y4 = h.size := ⟨_, rfl⟩
  obtain ⟨y6, hy6⟩ : ∃ y6, y6 = h.size + 1 := ⟨_, rfl⟩
  obtain ⟨yA, hyA⟩ : ∃ yA, yA = h.size + 1 + 1 := ⟨_, rfl⟩
  obtain ⟨yT, hyT⟩ : ∃ yT, yT = h.size + 1 + 1 + 1 := ⟨_, rfl⟩
  refine CallW.start (n := 119) rfl rfl ?_
  have q4 : ((((h.push (.cells (madP G.L G.m).toArray 129)).push (gansO (0, 0, false, 0))).push (arrO fun _ => 0)).push (arrO fun _ => 0))[h.size]? = some (.cells (madP G.L G.m).toArray 129 (0, 0)) := get_push _ (get_push _ (get_push _ (get_push_new _ _)))
  have q40 : hcell ((((h.push (.cells (madP G.L G.m).toArray 129)).push (gansO (0, 0, false, 0))).push (arrO fun _ => 0)).push (arrO fun _ => 0)) ⟨h.size, 0, none⟩ = some (.int .i64 G.L) := hcell_of q4 rfl
  (repeat (first | refine EK.seq ?_ | refine EK.region ?_ | refine ER.done ?_ | refine EK.block ?_ | refine ER.assign rfl rfl rfl ?_ | refine ER.fieldAddr rfl rfl rfl ?_ | refine ER.load1 rfl rfl rfl (hcell_of (by assumption) rfl) ?_ | refine ER.boxA rfl rfl rfl ?_ | refine ER.allocA rfl rfl ?_ | refine ER.sub' (kd := .i64) rfl rfl rfl rfl (i64_in (by omega) (by omega)) ?_))
  change EK _ _ _ _ _ _ _ _ ((((h.push (.cells (madP G.L G.m).toArray 129)).push (gansO (0, 0, false, 0))).push (arrO fun _ => 0)).push (arrO fun _ => 0)) _ _
  simp only [Array.size_push]
  have u0 : Upd (fun _ => False) h ((((h.push (.cells (madP G.L G.m).toArray 129)).push (gansO (0, 0, false, 0))).push (arrO fun _ => 0)).push (arrO fun _ => 0)) := (((Upd.push _ _).trans (Upd.push _ _)).trans (Upd.push _ _)).trans (Upd.push _ _)
  refine EK.gen (fun h' => WX R nm lL lW lY lV h0 W s pf x i o (takeP G (fun v l is => k (v, l, is, 0)) (f + 1)) m h' /\ Upd (fun _ => False) h h' /\ h'[y4]? = some (.cells (madP G.L G.m).toArray 129 (0, 0)) /\ h'[y6]? = some (gansO (0, 0, false, 0)) /\ h'[yA]? = some (arrO fun _ => 0) /\ h'[yT]? = some (arrO fun _ => 0)) ⟨w.upd0 u0, u0, ?_, ?_, ?_, ?_⟩ ?_
  · rw [hy4]; exact q4
  · have := get_push (o := arrO fun _ => 0) (get_push (o := arrO fun _ => 0) (get_push_new (h.push (.cells (madP G.L G.m).toArray 129)) (gansO (0, 0, false, 0))))
    rw [Array.size_push] at this
    rw [hy6]; exact this
  · have := get_push (o := arrO fun _ => 0) (get_push_new ((h.push (.cells (madP G.L G.m).toArray 129)).push (gansO (0, 0, false, 0))) (arrO fun _ => 0))
    rw [Array.size_push, Array.size_push] at this
    rw [hyA]; exact this
  · have := get_push_new (((h.push (.cells (madP G.L G.m).toArray 129)).push (gansO (0, 0, false, 0))).push (arrO fun _ => 0)) (arrO fun _ => 0)
    rw [Array.size_push, Array.size_push, Array.size_push] at this
    rw [hyT]; exact this
  rw [<- hyT, <- hyA, <- hy6, <- hy4]
  clear w u0 q4 q40
  rintro hh ⟨w, u1, g4, g6, gA, gT⟩
  have n4 : ¬ WT s x y4 := fun hc => by have := (wt0 _ hc).2; omega
  have nA : ¬ WT s x yA := fun hc => by have := (wt0 _ hc).2; omega
  have nT : ¬ WT s x yT := fun hc => by have := (wt0 _ hc).2; omega
  have n6 : ¬ WT s x y6 := fun hc => by have := (wt0 _ hc).2; omega
  have uu : Upd (WT s x) h hh := u1.mono (fun _ _ z => z.elim)
  clear u1 wt0
  change WX R nm lL lW lY lV h0 W s pf x i o (looksP G (chooseP G (fun v l is => k (v, l, is, 0)) (takeP G (fun v l is => k (v, l, is, 0)) f)) G.L H0) m hh at w
  obtain ⟨Kc, hKc⟩ : ∃ Kc, Kc = chooseP G (fun v l is => k (v, l, is, 0)) (takeP G (fun v l is => k (v, l, is, 0)) f) := ⟨_, rfl⟩
  rw [<- hKc] at w
  refine EK.loopInv (fun q : TkS => [(9, .int .i64 ((q.n : Int) - 1)), (8, .int .i64 (bv (bB q.H (G.L - q.n) q.n))), (0, ptr x), (3, ptr y4), (4, ptr y6), (5, .bool false), (6, ptr yA), (7, ptr yT)]) (fun q h' δ' => δ' = δ /\ q.n <= G.L /\ Upd (WT s x) h h' /\ h'[y4]? = some (.cells (madP G.L G.m).toArray 129 (0, 0)) /\ h'[y6]? = some (gansO (0, 0, false, 0)) /\ h'[yA]? = some (arrO q.A) /\ h'[yT]? = some (arrO q.T) /\ WX R nm lL lW lY lV h0 W s pf x i o (looksP G Kc q.n q.H) q.m h' /\ q.m <= m /\ (q.n < G.L -> q.m <= m - 1) /\ Sml q.H /\ (∀ j, q.n <= j -> (q.H j).1 = true -> q.A j = (q.H j).2.1 /\ q.T j = (q.H j).2.2) /\ (∀ j, G.L <= j \/ j < q.n -> (q.H j).1 = false)) (fun q => q.n) ⟨G.L, m, H0, fun _ => 0, fun _ => 0⟩ ⟨rfl, by rw [Nat.sub_self]; rfl, rfl, rfl, rfl, rfl, rfl, rfl, trivial⟩ ⟨rfl, Nat.le_refl _, uu, g4, g6, gA, gT, w, Nat.le_refl _, fun x => by dsimp only at x; omega, sml0, fun j _ hj => (by cases hj), fun j _ => rfl⟩ ?_
  clear w uu g4 g6 gA gT
  rintro ⟨n, m1, H, A, T⟩ hh δ1 ⟨rfl, hn, uu, g4, g6, gA, gT, w, hmm, hmn, hs, hat, hno⟩ again
  dsimp only at hn gA gT w hmm hmn hs hat hno again ⊢
  rcases n with _ | n
  · clear again
    have hbb := bB_bst hL8 (fun q hq => hno q (.inl hq))
    rw [Nat.sub_zero, hbb]
    have hlow : ∀ b, bst H 8 = some b -> b < G.L := fun b hb => by
      rcases Nat.lt_or_ge b G.L with z | z
      · exact z
      · have := (bst_lt hb).2
        rw [hno b (.inl z)] at this; cases this
    replace hmn := hmn (by omega)
    have w1 : WX R nm lL lW lY lV h0 W s pf x i o (Kc H) m1 hh := w
    clear w
    rcases w1 with ⟨l1, hl1, w⟩ | ⟨ho, w⟩
    · have r1 := w.row
      cases hb : bst H 8 with
      | none =>
        have hc : Kc H = k (0, 0, false, 0) := by rw [hKc]; unfold chooseP; rw [hb]
        rw [hc] at w
        have hv : (bv none : Int) = -1 := rfl
        rw [hv]
        (repeat (first | refine EK.seq ?_ | refine EK.region ?_ | refine ER.done ?_ | refine ER.move rfl rfl rfl ?_ | refine ER.nilCheck rfl rfl rfl ?_ | refine ER.fieldAddr rfl rfl rfl ?_ | refine ER.pickF rfl rfl rfl rfl ?_ | refine ER.cmpT rfl rfl rfl rfl rfl (by first | (dsimp only [cmpP]; omega) | exact rfl | exact Int.le_refl _) ?_ | refine ER.cmpF rfl rfl rfl rfl rfl (by first | (dsimp only [cmpP]; omega) | exact rfl | exact Int.le_refl _) ?_ | refine EK.condT rfl ?_ | refine EK.condF rfl ?_ | refine EK.exit rfl ?_ | refine ER.load1 rfl rfl rfl (by assumption) ?_))
        refine ER.buildS (cells := (gansL (0, 0, false, 0)).toArray) rfl rfl (by rfl) (by rfl) ?_
        refine ER.storeN (vs := gansL (0, 0, false, 0)) rfl rfl rfl rfl (by simp [gansL, OneCell]) (ans_all g6) ?_
        rw [row_set (c := gansL (0, 0, false, 0)) (vs := gansL (0, 0, false, 0)) g6 rfl]
        (repeat (first | refine ER.done ?_ | refine ER.assign rfl rfl rfl ?_ | refine EK.ret ?_))
        exact EU.retCell (vs := gansL (0, 0, false, 0)) rfl rfl rfl (hrow_block (rest := []) (by rw [List.append_nil]; exact get_set_same g6)) rfl ⟨rfl, upd_then uu (Upd.set (T := fun c => c = y6) _ _ _ rfl) (fun c hc e => by omega), (0, 0, false, 0), false, rfl, .inl ⟨rfl, (show WX R nm lL lW lY lV h0 W s pf x i o (k (0, 0, false, 0)) m hh from .inl ⟨l1, by omega, w⟩).setA g6 (by omega) (by decide) (by decide) (by decide) (by decide) (by decide) _⟩⟩
      | some b =>
        have hc : Kc H = gotP G (fun v l is => k (v, l, is, 0)) (takeP G (fun v l is => k (v, l, is, 0)) f) H b := by rw [hKc]; unfold chooseP; rw [hb]
        rw [hc] at w
        clear hc
        have hbL := hlow b hb
        have hb8 := (bst_lt hb).1
        have hp := hs b
        have hA := (hat b (Nat.zero_le _) (bst_lt hb).2).1
        have hv : (bv (some b) : Int) = b := rfl
        rw [hv]
        unfold gotP at w
        rw [<- hA] at w hp
        have cA := arr_get gA hb8
        generalize A b = p at w hp cA
        have hp2 : 0 <= p /\ p <= 70000 := ⟨hp.1, hp.2.1⟩
        have hlt := pj_lt hm0 p
        replace w : WX R nm lL lW lY lV h0 W s pf x i o _ m1 hh := .inl ⟨l1, hl1, w⟩
        (repeat (first | refine EK.seq ?_ | refine EK.region ?_ | refine ER.done ?_ | refine EK.skip ?_ | refine ER.move rfl rfl rfl ?_ | refine ER.assign rfl rfl rfl ?_ | refine ER.nilCheck rfl rfl rfl ?_ | refine ER.fieldAddr rfl rfl rfl ?_ | refine ER.pickF rfl rfl rfl rfl ?_ | refine ER.cmpF rfl rfl rfl rfl rfl (by first | (dsimp only [cmpP]; omega) | exact rfl | exact Int.le_refl _) ?_ | refine ER.indexArr rfl rfl rfl rfl (by omega) (by omega) ?_ | refine EK.condF rfl ?_ | refine EK.exit rfl ?_ | refine ER.load1 rfl rfl rfl (by assumption) ?_))
        clear cA r1
        refine ER.callR rfl rfl rfl rfl rfl rout_ok ?_
        rintro _ hh δ2 ⟨rfl, rfl, u2⟩
        replace w := w.upd0 u2
        replace uu : Upd (WT s x) h hh := uu.trans (u2.mono (fun _ _ z => z.elim))
        replace g4 := u2.get g4 (fun z => z)
        replace gA := u2.get gA (fun z => z)
        replace gT := u2.get gT (fun z => z)
        replace g6 := u2.get g6 (fun z => z)
        clear u2
        (repeat (first | refine ER.move rfl rfl rfl ?_ | refine ER.add (kd := .i64) rfl rfl rfl rfl (i64_in (by omega) (by omega)) ?_))
        refine ER.callR rfl rfl rfl rfl rfl (wcasX C hpf w (N.out hbL)) ?_
        rintro _ hh δ2 ⟨rfl, u2, c, rfl, w2⟩
        clear w
        replace uu := uu.trans u2
        replace g4 := u2.get g4 n4
        replace gA := u2.get gA nA
        replace gT := u2.get gT nT
        replace g6 := u2.get g6 n6
        clear u2
        have w := w2
        clear w2
        by_cases hw : c = p
        · rw [if_pos hw] at w
          rw [decide_eq_true hw]
          (repeat (first | refine EK.seq ?_ | refine EK.region ?_ | refine ER.done ?_ | refine EK.skip ?_ | refine ER.move rfl rfl rfl ?_ | refine ER.notB rfl rfl rfl ?_ | refine EK.condF rfl ?_))
          refine ER.loadN (vs := madP G.L G.m) rfl rfl rfl rfl (hrow_block (rest := []) (by rw [List.append_nil]; exact g4)) ?_
          (repeat refine ER.move rfl rfl rfl ?_)
          refine ER.callR rfl rfl rfl rfl rfl (rof_ok (t := 2) (l := b) hm0 hm1 (by omega) (by omega) hp2) ?_
          rintro _ hh δ2 ⟨rfl, rfl, u2⟩
          replace w := w.upd0 u2
          replace uu : Upd (WT s x) h hh := uu.trans (u2.mono (fun _ _ z => z.elim))
          replace g4 := u2.get g4 (fun z => z)
          replace gA := u2.get gA (fun z => z)
          replace gT := u2.get gT (fun z => z)
          replace g6 := u2.get g6 (fun z => z)
          clear u2
          refine ER.callR rfl rfl rfl rfl rfl (wloadX C hpf w (N.pl (t := 2) (by omega) hbL hlt)) ?_
          rintro _ hh δ2 ⟨rfl, u2, v, rfl, w2⟩
          clear w
          replace uu := uu.trans u2
          replace g4 := u2.get g4 n4
          replace gA := u2.get gA nA
          replace gT := u2.get gT nT
          replace g6 := u2.get g6 n6
          clear u2
          have w := w2
          clear w2
          (repeat (first | refine EK.seq ?_ | refine ER.done ?_ | refine ER.assign rfl rfl rfl ?_))
          refine EK.regionAny (fun h' => h'[y4]? = some (.cells (madP G.L G.m).toArray 129 (0, 0))) ?_
          have hZ := g4
          refine EA.tMove 0 rfl (by kernel_rfl) rfl rfl rfl rfl hZ ?_
          refine EA.tLoadN (vs := madP G.L G.m) 1 rfl (by kernel_rfl) rfl rfl rfl rfl rfl (fun _ hz => hrow_block (rest := []) (by rw [List.append_nil]; exact hz)) hZ ?_
          refine EA.tMove 2 rfl (by kernel_rfl) rfl rfl rfl rfl hZ ?_
          refine EA.tMove 3 rfl (by kernel_rfl) rfl rfl rfl rfl hZ ?_
          refine EA.tMove 5 rfl (by kernel_rfl) rfl rfl rfl rfl hZ ?_
          refine EA.tField 6 rfl (by kernel_rfl) rfl rfl rfl rfl hZ ?_
          refine EA.tLoad 7 rfl (by kernel_rfl) rfl rfl rfl rfl (fun _ hz => (hcell_of hz rfl)) hZ ?_
          refine EA.tAdd (kd := .i64) (r := p + G.m) 8 rfl (by kernel_rfl) rfl rfl rfl rfl rfl (i64_in (by omega) (by omega)) hZ ?_
          refine EA.callR 4 rfl (by kernel_rfl) rfl rfl rfl rfl rfl rfl (rof_ok (t := 0) (l := b) hm0 hm1 (by omega) (by omega) hp2) ?_
          rintro _ hh δ2 ⟨rfl, rfl, u2⟩
          replace w := w.upd0 u2
          replace uu : Upd (WT s x) h hh := uu.trans (u2.mono (fun _ _ z => z.elim))
          replace g4 := u2.get g4 (fun z => z)
          replace gA := u2.get gA (fun z => z)
          replace gT := u2.get gT (fun z => z)
          replace g6 := u2.get g6 (fun z => z)
          refine ⟨g4, ?_⟩
          clear u2 hZ
          refine EA.callR 9 rfl (by kernel_rfl) rfl rfl rfl rfl rfl rfl (wstoreX C hpf w (N.pl (t := 0) (by omega) hbL hlt)) ?_
          rintro _ hh δ2 ⟨rfl, u2, w2⟩
          clear w
          replace uu := uu.trans u2
          replace g4 := u2.get g4 n4
          replace gA := u2.get gA nA
          replace gT := u2.get gT nT
          replace g6 := u2.get g6 n6
          clear u2
          have w := w2
          clear w2
          refine ⟨g4, EA.done (by kernel_rfl) ?_⟩
          (repeat (first | refine EK.seq ?_ | refine EK.region ?_ | refine ER.move rfl rfl rfl ?_))
          refine ER.buildS (cells := (gansL (v, (b : Int), true, 0)).toArray) rfl rfl (by rfl) (by rfl) ?_
          refine ER.storeN (vs := gansL (v, (b : Int), true, 0)) rfl rfl rfl rfl (by simp [gansL, OneCell]) (ans_all g6) ?_
          rw [row_set (c := gansL (0, 0, false, 0)) (vs := gansL (v, (b : Int), true, 0)) g6 rfl]
          (repeat (first | refine ER.done ?_ | refine ER.assign rfl rfl rfl ?_ | refine EK.ret ?_))
          exact EU.retCell (vs := gansL (v, (b : Int), true, 0)) rfl rfl rfl (hrow_block (rest := []) (by rw [List.append_nil]; exact get_set_same g6)) rfl ⟨rfl, upd_then uu (Upd.set (T := fun c => c = y6) _ _ _ rfl) (fun c hc e => by omega), (v, (b : Int), true, 0), false, rfl, .inl ⟨rfl, (w.mono (by omega)).setA g6 (by omega) (by decide) (by decide) (by decide) (by decide) (by decide) _⟩⟩
        · rw [if_neg hw] at w
          rw [decide_eq_false hw]
          (repeat (first | refine EK.seq ?_ | refine EK.region ?_ | refine ER.done ?_ | refine ER.notB rfl rfl rfl ?_ | refine EK.condT rfl ?_))
          refine ER.buildS (cells := (gansL (0, 0, false, 0)).toArray) rfl rfl (by rfl) (by rfl) ?_
          refine ER.storeN (vs := gansL (0, 0, false, 0)) rfl rfl rfl rfl (by simp [gansL, OneCell]) (ans_all g6) ?_
          rw [row_set (c := gansL (0, 0, false, 0)) (vs := gansL (0, 0, false, 0)) g6 rfl]
          (repeat (first | refine ER.done ?_ | refine ER.assign rfl rfl rfl ?_ | refine EK.ret ?_))
          exact EU.retCell (vs := gansL (0, 0, false, 0)) rfl rfl rfl (hrow_block (rest := []) (by rw [List.append_nil]; exact get_set_same g6)) rfl ⟨rfl, upd_then uu (Upd.set (T := fun c => c = y6) _ _ _ rfl) (fun c hc e => by omega), (0, 0, false, 0), true, rfl, .inr ⟨rfl, (w.mono (by omega)).setA g6 (by omega) (by decide) (by decide) (by decide) (by decide) (by decide) _⟩⟩
    · have r1 := w.row
      (repeat (first | refine EK.seq ?_ | refine EK.region ?_ | refine ER.done ?_ | refine ER.move rfl rfl rfl ?_ | refine ER.nilCheck rfl rfl rfl ?_ | refine ER.fieldAddr rfl rfl rfl ?_ | refine ER.no rfl rfl ?_ | refine ER.pickT rfl rfl rfl rfl ?_ | refine ER.cmpF rfl rfl rfl rfl rfl (by first | (dsimp only [cmpP]; omega) | exact rfl | exact Int.le_refl _) ?_ | refine EK.condT rfl ?_ | refine EK.condF rfl ?_ | refine EK.exit rfl ?_ | refine ER.load1 rfl rfl rfl (by assumption) ?_))
      refine ER.buildS (cells := (gansL (0, 0, false, 0)).toArray) rfl rfl (by rfl) (by rfl) ?_
      refine ER.storeN (vs := gansL (0, 0, false, 0)) rfl rfl rfl rfl (by simp [gansL, OneCell]) (ans_all g6) ?_
      rw [row_set (c := gansL (0, 0, false, 0)) (vs := gansL (0, 0, false, 0)) g6 rfl]
      (repeat (first | refine ER.done ?_ | refine ER.assign rfl rfl rfl ?_ | refine EK.ret ?_))
      exact EU.retCell (vs := gansL (0, 0, false, 0)) rfl rfl rfl (hrow_block (rest := []) (by rw [List.append_nil]; exact get_set_same g6)) rfl ⟨rfl, upd_then uu (Upd.set (T := fun c => c = y6) _ _ _ rfl) (fun c hc e => by omega), (0, 0, false, 0), false, rfl, .inl ⟨rfl, (show WX R nm lL lW lY lV h0 W s pf x i o (k (0, 0, false, 0)) m hh from .inr ⟨ho, w⟩).setA g6 (by omega) (by decide) (by decide) (by decide) (by decide) (by decide) _⟩⟩
  · have ex : (((n + 1 : Nat) : Int) - 1) = (n : Int) := by omega
    rw [ex]
    have hnL : n < G.L := by omega
    have hn8 : n < 8 := by omega
    have hcn : G.L - n = (G.L - (n + 1)) + 1 := by omega
    have w1 : WX R nm lL lW lY lV h0 W s pf x i o (.step ⟨1, G.B (kOut n), 0, 0⟩ fun p => .step ⟨1, G.B (kTurn n (pj G.m p)), 0, 0⟩ fun t =>
      if t = p + 1 then .step ⟨1, G.B (kTick n (pj G.m p)), 0, 0⟩ fun x => looksP G Kc n (Go.TJ.up H n (true, p, x)) else looksP G Kc n H) m1 hh := w
    clear w
    have w := w1
    clear w1
    have hHn := hno n (.inr (by omega))
    (repeat (first | refine EK.seq ?_ | refine EK.region ?_ | refine ER.done ?_ | refine EK.skip ?_ | refine EK.block ?_ | refine ER.move rfl rfl rfl ?_ | refine ER.cmpT rfl rfl rfl rfl rfl (by first | (dsimp only [cmpP]; omega) | exact rfl | exact Int.le_refl _) ?_ | refine EK.condT rfl ?_))
    refine ER.callR rfl rfl rfl rfl rfl rout_ok ?_
    rintro _ hh δ2 ⟨rfl, rfl, u2⟩
    replace w := w.upd0 u2
    replace uu : Upd (WT s x) h hh := uu.trans (u2.mono (fun _ _ z => z.elim))
    replace g4 := u2.get g4 (fun z => z)
    replace gA := u2.get gA (fun z => z)
    replace gT := u2.get gT (fun z => z)
    replace g6 := u2.get g6 (fun z => z)
    clear u2
    refine ER.callR rfl rfl rfl rfl rfl (wloadB C hpf Lg (kk := kOut n) hnL (.inr (.inr (.inl rfl))) w (N.out hnL)) ?_
    rintro _ hh δ2 ⟨rfl, u2, p, rfl, hp, w2⟩
    clear w
    replace uu := uu.trans u2
    replace g4 := u2.get g4 n4
    replace gA := u2.get gA nA
    replace gT := u2.get gT nT
    replace g6 := u2.get g6 n6
    clear u2
    have w := w2
    clear w2
    have hlt := pj_lt hm0 p
    (repeat (first | refine EK.seq ?_ | refine EK.region ?_ | refine ER.done ?_ | refine ER.move rfl rfl rfl ?_ | refine ER.assign rfl rfl rfl ?_ | refine ER.indexArr rfl rfl rfl rfl (by omega) (by omega) ?_))
    refine ER.store1 rfl rfl rfl ⟨nofun, nofun⟩ ⟨_, arr_get gA hn8⟩ (hfroz_of gA) (fun x => x) ?_
    change ER _ _ _ _ _ _ _ _ _ _ (hset hh ⟨yA, 0 + n * 1, none⟩ (.int .i64 p)) _ _
    rw [arr_set gA hn8]
    replace w := w.setA gA (by omega) (by decide) (by decide) (by decide) (by decide) (by decide) (arrO (ut A n p))
    replace uu := upd_then uu (Upd.set (T := fun c => c = yA) hh yA (arrO (ut A n p)) rfl) (fun c hc e => by omega)
    replace g4 : _ := (get_set_ne (arrO (ut A n p)) (show yA ≠ y4 by omega)).trans g4
    replace g6 : _ := (get_set_ne (arrO (ut A n p)) (show yA ≠ y6 by omega)).trans g6
    replace gT : _ := (get_set_ne (arrO (ut A n p)) (show yA ≠ yT by omega)).trans gT
    replace gA : (hh.setIfInBounds yA (arrO (ut A n p)))[yA]? = some (arrO (ut A n p)) := get_set_same gA
    generalize hh.setIfInBounds yA (arrO (ut A n p)) = hh at w uu g4 g6 gT gA ⊢
    (repeat (first | refine EK.seq ?_ | refine EK.region ?_ | refine ER.done ?_ | refine ER.move rfl rfl rfl ?_))
    refine ER.loadN (vs := madP G.L G.m) rfl rfl rfl rfl (hrow_block (rest := []) (by rw [List.append_nil]; exact g4)) ?_
    (repeat refine ER.move rfl rfl rfl ?_)
    refine ER.callR rfl rfl rfl rfl rfl (rof_ok (t := 0) (l := n) hm0 hm1 (by omega) (by omega) hp) ?_
    rintro _ hh δ2 ⟨rfl, rfl, u2⟩
    replace w := w.upd0 u2
    replace uu : Upd (WT s x) h hh := uu.trans (u2.mono (fun _ _ z => z.elim))
    replace g4 := u2.get g4 (fun z => z)
    replace gA := u2.get gA (fun z => z)
    replace gT := u2.get gT (fun z => z)
    replace g6 := u2.get g6 (fun z => z)
    clear u2
    refine ER.callR rfl rfl rfl rfl rfl (wloadX C hpf w (N.pl (t := 0) (by omega) hnL hlt)) ?_
    rintro _ hh δ2 ⟨rfl, u2, tn, rfl, w2⟩
    clear w
    replace uu := uu.trans u2
    replace g4 := u2.get g4 n4
    replace gA := u2.get gA nA
    replace gT := u2.get gT nT
    replace g6 := u2.get g6 n6
    clear u2
    have w := w2
    clear w2
    by_cases htn : tn = p + 1
    · rw [if_pos htn] at w
      subst htn
      (repeat (first | refine EK.seq ?_ | refine EK.region ?_ | refine ER.done ?_ | refine EK.skip ?_ | refine ER.move rfl rfl rfl ?_ | refine ER.cmpF rfl rfl rfl rfl rfl (by first | (dsimp only [cmpP]; omega) | exact rfl | exact Int.le_refl _) ?_ | refine ER.add (kd := .i64) rfl rfl rfl rfl (i64_in (by omega) (by omega)) ?_ | refine EK.condF rfl ?_))
      refine ER.loadN (vs := madP G.L G.m) rfl rfl rfl rfl (hrow_block (rest := []) (by rw [List.append_nil]; exact g4)) ?_
      (repeat refine ER.move rfl rfl rfl ?_)
      refine ER.callR rfl rfl rfl rfl rfl (rof_ok (t := 1) (l := n) hm0 hm1 (by omega) (by omega) hp) ?_
      rintro _ hh δ2 ⟨rfl, rfl, u2⟩
      replace w := w.upd0 u2
      replace uu : Upd (WT s x) h hh := uu.trans (u2.mono (fun _ _ z => z.elim))
      replace g4 := u2.get g4 (fun z => z)
      replace gA := u2.get gA (fun z => z)
      replace gT := u2.get gT (fun z => z)
      replace g6 := u2.get g6 (fun z => z)
      clear u2
      refine ER.callR rfl rfl rfl rfl rfl (wloadB C hpf Lg (kk := kTick n (pj G.m p)) ⟨hnL, hlt⟩ (.inr (.inr (.inr rfl))) w (N.pl (t := 1) (by omega) hnL hlt)) ?_
      rintro _ hh δ2 ⟨rfl, u2, tk, rfl, htk, w2⟩
      clear w
      replace uu := uu.trans u2
      replace g4 := u2.get g4 n4
      replace gA := u2.get gA nA
      replace gT := u2.get gT nT
      replace g6 := u2.get g6 n6
      clear u2
      have w := w2
      clear w2
      (repeat refine ER.indexArr rfl rfl rfl rfl (by omega) (by omega) ?_)
      refine ER.store1 rfl rfl rfl ⟨nofun, nofun⟩ ⟨_, arr_get gT hn8⟩ (hfroz_of gT) (fun x => x) ?_
      change ER _ _ _ _ _ _ _ _ _ _ (hset hh ⟨yT, 0 + n * 1, none⟩ (.int .i64 tk)) _ _
      rw [arr_set gT hn8]
      replace w := w.setA gT (by omega) (by decide) (by decide) (by decide) (by decide) (by decide) (arrO (ut T n tk))
      replace uu := upd_then uu (Upd.set (T := fun c => c = yT) hh yT (arrO (ut T n tk)) rfl) (fun c hc e => by omega)
      replace g4 : _ := (get_set_ne (arrO (ut T n tk)) (show yT ≠ y4 by omega)).trans g4
      replace g6 : _ := (get_set_ne (arrO (ut T n tk)) (show yT ≠ y6 by omega)).trans g6
      replace gA : _ := (get_set_ne (arrO (ut T n tk)) (show yT ≠ yA by omega)).trans gA
      replace gT : (hh.setIfInBounds yT (arrO (ut T n tk)))[yT]? = some (arrO (ut T n tk)) := get_set_same gT
      generalize hh.setIfInBounds yT (arrO (ut T n tk)) = hh at w uu g4 g6 gT gA ⊢
      have hbc : bB (Go.TJ.up H n (true, p, tk)) (G.L - (n + 1)) (n + 1) = bB H (G.L - (n + 1)) (n + 1) := bB_congr _ _ (fun q hq => up_ne _ _ (by omega))
      have hgo : bB (Go.TJ.up H n (true, p, tk)) (G.L - n) n = stepB (Go.TJ.up H n (true, p, tk)) n (bB H (G.L - (n + 1)) (n + 1)) := by rw [hcn]; exact congrArg (stepB _ n) hbc
      have hbt := bB_best H (G.L - (n + 1)) (n + 1)
      have fin : ∀ b : Option Nat, stepB (Go.TJ.up H n (true, p, tk)) n (bB H (G.L - (n + 1)) (n + 1)) = b -> EK Try.prog main (NoS (Γ := Γ)) 124 119 _ [(9, .int .i64 ((n : Int) - 1)), (8, .int .i64 (bv b)), (0, ptr x), (3, ptr y4), (4, ptr y6), (5, .bool false), (6, ptr yA), (7, ptr yT)] [] hh δ2 _ := fun b hb => by
        rw [<- hgo] at hb
        subst hb
        refine again ⟨n, m1 - 1 - 1 - 1, Go.TJ.up H n (true, p, tk), ut A n p, ut T n tk⟩ _ _ (by dsimp only; omega) ⟨rfl, by dsimp only; omega, uu, g4, g6, gA, gT, w, by dsimp only; omega, fun _ => by dsimp only; omega, hs.up hp htk, fun j hj ht => ?_, fun j hj => ?_⟩
        · dsimp only at hj ht ⊢
          by_cases e : j = n
          · subst e; rw [up_same, ut_same, ut_same]; exact ⟨rfl, rfl⟩
          · rw [up_ne _ _ e] at ht ⊢; rw [ut_ne _ _ e, ut_ne _ _ e]; exact hat j (by omega) ht
        · dsimp only at hj ⊢
          rw [up_ne _ _ (by omega)]
          exact hno j (by omega)
      generalize bB H (G.L - (n + 1)) (n + 1) = ob at hbt fin ⊢
      cases ob with
      | none =>
        have hv : (bv none : Int) = -1 := rfl
        rw [hv]
        have hst : stepB (Go.TJ.up H n (true, p, tk)) n none = some n := by rw [stepB_none, up_same]; rfl
        have fin' := fin _ hst
        clear fin
        (repeat (first | refine EK.seq ?_ | refine EK.region ?_ | refine ER.done ?_ | refine ER.move rfl rfl rfl ?_ | refine ER.assign rfl rfl rfl ?_ | refine ER.cmpT rfl rfl rfl rfl rfl (by first | (dsimp only [cmpP]; omega) | exact rfl | exact Int.le_refl _) ?_ | refine ER.sub' (kd := .i64) rfl rfl rfl rfl (i64_in (by omega) (by omega)) ?_ | refine EK.condT rfl ?_ | refine EK.exit rfl ?_))
        exact EK.back fin' ⟨rfl, rfl, rfl, rfl, rfl, rfl, rfl, rfl, trivial⟩
      | some b =>
        have hv : (bv (some b) : Int) = b := rfl
        rw [hv]
        obtain ⟨hbn, hbz, hbt, -⟩ := hbt
        have hb8 : b < 8 := by omega
        have hTb := (hat b hbn hbt).2
        have hsb := hs b
        have cn : hcell hh ⟨yT, 0 + n * 1, none⟩ = some (.int .i64 tk) := by rw [arr_get gT hn8, ut_same]
        have cb : hcell hh ⟨yT, 0 + b * 1, none⟩ = some (.int .i64 (H b).2.2) := by rw [arr_get gT hb8, ut_ne _ _ (by omega), hTb]
        have hw1 : wt (Go.TJ.up H n (true, p, tk)) n = 64 * (n : Int) - tk := by unfold wt; rw [up_same]
        have hw2 : wt (Go.TJ.up H n (true, p, tk)) b = 64 * (b : Int) - (H b).2.2 := by unfold wt; rw [up_ne _ _ (by omega)]
        have hst : stepB (Go.TJ.up H n (true, p, tk)) n (some b) = if 64 * (n : Int) - tk > 64 * (b : Int) - (H b).2.2 \/ (64 * (n : Int) - tk = 64 * (b : Int) - (H b).2.2 /\ tk < (H b).2.2) then some n else some b := by
          rw [stepB_some, hw1, hw2, up_same, up_ne _ _ (show b ≠ n by omega)]
          simp only [true_and]
        have fin' := fin _ hst
        clear fin
        generalize (H b).2.2 = tb at hsb cb fin'
        (repeat (first | refine EK.seq ?_ | refine EK.region ?_ | refine ER.done ?_ | refine EK.skip ?_ | refine ER.move rfl rfl rfl ?_ | refine ER.assign rfl rfl rfl ?_ | refine ER.cmpF rfl rfl rfl rfl rfl (by first | (dsimp only [cmpP]; omega) | exact rfl | exact Int.le_refl _) ?_ | refine ER.sub' (kd := .i64) rfl rfl rfl rfl (i64_in (by omega) (by omega)) ?_ | refine ER.mul (kd := .i64) rfl rfl rfl rfl (i64_in (by omega) (by omega)) ?_ | refine ER.indexArr rfl rfl rfl rfl (by omega) (by omega) ?_ | refine EK.condF rfl ?_ | refine ER.load1 rfl rfl rfl (by assumption) ?_))
        refine EK.regionAny (fun h' => h' = hh) ?_
        have hZ : hh = hh := rfl
        by_cases c1 : 64 * (n : Int) - tk > 64 * (b : Int) - tb
        · rw [if_pos (.inl c1)] at fin'
          refine EA.tMove 0 rfl (by kernel_rfl) rfl rfl rfl rfl hZ ?_
          refine EA.tMove 1 rfl (by kernel_rfl) rfl rfl rfl rfl hZ ?_
          refine EA.tCmpT 2 rfl (by kernel_rfl) rfl rfl rfl rfl rfl rfl (by first | (dsimp only [cmpP]; omega) | exact rfl | exact Int.le_refl _) hZ ?_
          refine EA.tMove 3 rfl (by kernel_rfl) rfl rfl rfl rfl hZ ?_
          refine EA.takeNo 4 rfl (by kernel_rfl) rfl rfl rfl hZ ?_
          refine EA.takeNo 5 rfl (by kernel_rfl) rfl rfl rfl hZ ?_
          refine EA.takeNo 6 rfl (by kernel_rfl) rfl rfl rfl hZ ?_
          refine EA.takeNo 7 rfl (by kernel_rfl) rfl rfl rfl hZ ?_
          refine EA.takeNo 8 rfl (by kernel_rfl) rfl rfl rfl hZ ?_
          refine EA.takeNo 9 rfl (by kernel_rfl) rfl rfl rfl hZ ?_
          refine EA.takeNo 10 rfl (by kernel_rfl) rfl rfl rfl hZ ?_
          refine EA.takeNo 11 rfl (by kernel_rfl) rfl rfl rfl hZ ?_
          refine EA.takeNo 12 rfl (by kernel_rfl) rfl rfl rfl hZ ?_
          refine EA.takeNo 13 rfl (by kernel_rfl) rfl rfl rfl hZ ?_
          refine EA.takeNo 14 rfl (by kernel_rfl) rfl rfl rfl hZ ?_
          refine EA.takeNo 15 rfl (by kernel_rfl) rfl rfl rfl hZ ?_
          refine EA.tPickT 16 rfl (by kernel_rfl) rfl rfl rfl rfl rfl hZ ?_
          refine EA.done (by kernel_rfl) ?_
          (repeat (first | refine EK.region ?_ | refine ER.done ?_ | refine EK.inBlock ?_ | refine ER.move rfl rfl rfl ?_ | refine ER.assign rfl rfl rfl ?_ | refine ER.sub' (kd := .i64) rfl rfl rfl rfl (i64_in (by omega) (by omega)) ?_ | refine EK.condT rfl ?_))
          exact EK.back fin' ⟨rfl, rfl, rfl, rfl, rfl, rfl, rfl, rfl, trivial⟩
        · by_cases c2 : 64 * (n : Int) - tk = 64 * (b : Int) - tb
          · have c3 : tk < tb := by omega
            rw [if_pos (.inr ⟨c2, c3⟩)] at fin'
            refine EA.tMove 0 rfl (by kernel_rfl) rfl rfl rfl rfl hZ ?_
            refine EA.tMove 1 rfl (by kernel_rfl) rfl rfl rfl rfl hZ ?_
            refine EA.tCmpF 2 rfl (by kernel_rfl) rfl rfl rfl rfl rfl rfl (by first | (dsimp only [cmpP]; omega) | exact rfl | exact Int.le_refl _) hZ ?_
            refine EA.tMove 3 rfl (by kernel_rfl) rfl rfl rfl rfl hZ ?_
            refine EA.tMove 4 rfl (by kernel_rfl) rfl rfl rfl rfl hZ ?_
            refine EA.tMove 5 rfl (by kernel_rfl) rfl rfl rfl rfl hZ ?_
            refine EA.tCmpT 6 rfl (by kernel_rfl) rfl rfl rfl rfl rfl rfl (by first | (dsimp only [cmpP]; omega) | exact rfl | exact Int.le_refl _) hZ ?_
            refine EA.tMove 7 rfl (by kernel_rfl) rfl rfl rfl rfl hZ ?_
            refine EA.tMove 8 rfl (by kernel_rfl) rfl rfl rfl rfl hZ ?_
            refine EA.tIdxA 9 rfl (by kernel_rfl) rfl rfl rfl rfl rfl (by omega) (by omega) hZ ?_
            refine EA.tLoad 10 rfl (by kernel_rfl) rfl rfl rfl rfl (fun _ hz => hz ▸ cn) hZ ?_
            refine EA.tMove 11 rfl (by kernel_rfl) rfl rfl rfl rfl hZ ?_
            refine EA.tIdxA 12 rfl (by kernel_rfl) rfl rfl rfl rfl rfl (by omega) (by omega) hZ ?_
            refine EA.tLoad 13 rfl (by kernel_rfl) rfl rfl rfl rfl (fun _ hz => hz ▸ cb) hZ ?_
            refine EA.tCmpT 14 rfl (by kernel_rfl) rfl rfl rfl rfl rfl rfl (by first | (dsimp only [cmpP]; omega) | exact rfl | exact Int.le_refl _) hZ ?_
            refine EA.tPickT 15 rfl (by kernel_rfl) rfl rfl rfl rfl rfl hZ ?_
            refine EA.tPickF 16 rfl (by kernel_rfl) rfl rfl rfl rfl rfl hZ ?_
            refine EA.done (by kernel_rfl) ?_
            (repeat (first | refine EK.region ?_ | refine ER.done ?_ | refine EK.inBlock ?_ | refine ER.move rfl rfl rfl ?_ | refine ER.assign rfl rfl rfl ?_ | refine ER.sub' (kd := .i64) rfl rfl rfl rfl (i64_in (by omega) (by omega)) ?_ | refine EK.condT rfl ?_))
            exact EK.back fin' ⟨rfl, rfl, rfl, rfl, rfl, rfl, rfl, rfl, trivial⟩
          · rw [if_neg (fun z => z.elim c1 (fun z => c2 z.1))] at fin'
            refine EA.tMove 0 rfl (by kernel_rfl) rfl rfl rfl rfl hZ ?_
            refine EA.tMove 1 rfl (by kernel_rfl) rfl rfl rfl rfl hZ ?_
            refine EA.tCmpF 2 rfl (by kernel_rfl) rfl rfl rfl rfl rfl rfl (by first | (dsimp only [cmpP]; omega) | exact rfl | exact Int.le_refl _) hZ ?_
            refine EA.tMove 3 rfl (by kernel_rfl) rfl rfl rfl rfl hZ ?_
            refine EA.tMove 4 rfl (by kernel_rfl) rfl rfl rfl rfl hZ ?_
            refine EA.tMove 5 rfl (by kernel_rfl) rfl rfl rfl rfl hZ ?_
            refine EA.tCmpF 6 rfl (by kernel_rfl) rfl rfl rfl rfl rfl rfl (by first | (dsimp only [cmpP]; omega) | exact rfl | exact Int.le_refl _) hZ ?_
            refine EA.tMove 7 rfl (by kernel_rfl) rfl rfl rfl rfl hZ ?_
            refine EA.takeNo 8 rfl (by kernel_rfl) rfl rfl rfl hZ ?_
            refine EA.takeNo 9 rfl (by kernel_rfl) rfl rfl rfl hZ ?_
            refine EA.takeNo 10 rfl (by kernel_rfl) rfl rfl rfl hZ ?_
            refine EA.takeNo 11 rfl (by kernel_rfl) rfl rfl rfl hZ ?_
            refine EA.takeNo 12 rfl (by kernel_rfl) rfl rfl rfl hZ ?_
            refine EA.takeNo 13 rfl (by kernel_rfl) rfl rfl rfl hZ ?_
            refine EA.takeNo 14 rfl (by kernel_rfl) rfl rfl rfl hZ ?_
            refine EA.tPickF 15 rfl (by kernel_rfl) rfl rfl rfl rfl rfl hZ ?_
            refine EA.tPickF 16 rfl (by kernel_rfl) rfl rfl rfl rfl rfl hZ ?_
            refine EA.done (by kernel_rfl) ?_
            (repeat (first | refine EK.region ?_ | refine ER.done ?_ | refine EK.skip ?_ | refine EK.inBlock ?_ | refine ER.move rfl rfl rfl ?_ | refine ER.assign rfl rfl rfl ?_ | refine ER.sub' (kd := .i64) rfl rfl rfl rfl (i64_in (by omega) (by omega)) ?_ | refine EK.condF rfl ?_))
            exact EK.back fin' ⟨rfl, rfl, rfl, rfl, rfl, rfl, rfl, rfl, trivial⟩
    · rw [if_neg htn] at w
      have hst : bB H (G.L - n) n = bB H (G.L - (n + 1)) (n + 1) := by
        rw [hcn]
        show stepB H n _ = _
        cases bB H (G.L - (n + 1)) (n + 1) with
        | none => rw [stepB_none, if_neg (by rw [hHn]; decide)]
        | some b => rw [stepB_some, if_neg (fun z => by have := z.1; rw [hHn] at this; cases this)]
      (repeat (first | refine EK.region ?_ | refine ER.done ?_ | refine ER.move rfl rfl rfl ?_ | refine ER.assign rfl rfl rfl ?_ | refine ER.cmpT rfl rfl rfl rfl rfl (by first | (dsimp only [cmpP]; omega) | exact rfl | exact Int.le_refl _) ?_ | refine ER.add (kd := .i64) rfl rfl rfl rfl (i64_in (by omega) (by omega)) ?_ | refine ER.sub' (kd := .i64) rfl rfl rfl rfl (i64_in (by omega) (by omega)) ?_ | refine EK.condT rfl ?_ | refine EK.exit rfl ?_))
      refine EK.back (again ⟨n, m1 - 1 - 1, H, ut A n p, T⟩ _ _ (by dsimp only; omega) ⟨rfl, by dsimp only; omega, uu, g4, g6, gA, gT, w, by dsimp only; omega, fun _ => by dsimp only; omega, hs, fun j hj ht => ?_, fun j hj => hno j (by dsimp only at hj; omega)⟩) ⟨rfl, by dsimp only; rw [hst]; rfl, rfl, rfl, rfl, rfl, rfl, rfl, trivial⟩
      dsimp only at hj ht ⊢
      by_cases e : j = n
      · subst e; rw [hHn] at ht; cases ht
      · rw [ut_ne _ _ e]; exact hat j (by omega) ht
end
end
section
open Go Go.TJ Go.Conc Go.Proofs
section
variable {Γ : Type} {main : Bool} {S : Sit Γ} {δ : Ix Γ} {R : Rec} {nm : Nat -> Nme} {lL lW lY lV sP : Value} {h0 h h' : Hp} {W x i t e m : Nat} {G : PG} {s : WS} {picks : List Int} {X : Us} {pf p : Pr GAns} {l : List Ev} {o : List GAns}
set_option maxRecDepth 8000 in
set_option maxHeartbeats 16000000 in
theorem gdoes_w (C : WC X picks R nm lL lW lY lV sP h0 s) (hpf : PF R i pf) {q : GCall} {f : Nat} {k : GAns -> Pr GAns} (w : WX R nm lL lW lY lV h0 W s pf x i o (callPr G f q k) f h) (N : NmsP G nm) (hm : G.m = 2 ^ e) (he : e <= 6) (hL1 : 1 <= G.L) (hL8 : G.L <= 8) (Lg : LgP G R) :
    CallW Try.prog main (NoS (Γ := Γ)) 58 #[ptr x, .agg (madP G.L G.m).toArray, .agg (gcallL q).toArray] h δ (Ret fun v h' δ' => δ' = δ /\ RDidX R nm lL lW lY lV h0 W s gansL pf x i o k f h v h') := by
  obtain ⟨d, lv, v⟩ := q
  have wt0 := w.wt
  have hh0 : h0.size <= h.size := by have := (wt0 x (.inl rfl)); omega
  obtain ⟨y4, hy4⟩ : ∃ y4, y4 = h.size := ⟨_, rfl⟩
  obtain ⟨y5, hy5⟩ : ∃ y5, y5 = h.size + 1 := ⟨_, rfl⟩
  obtain ⟨y6, hy6⟩ : ∃ y6, y6 = h.size + 1 + 1 := ⟨_, rfl⟩
  refine CallW.start (n := 45) rfl rfl ?_
  have u0 : Upd (fun _ => False) h (((h.push (.cells (madP G.L G.m).toArray 129)).push (.cells (gcallL (d, lv, v)).toArray 140)).push (gansO (0, 0, false, 0))) := ((Upd.push _ _).trans (Upd.push _ _)).trans (Upd.push _ _)
  refine EK.seq ?_
  refine EK.region ?_
  refine ER.box rfl rfl rfl ?_
  refine ER.box rfl rfl rfl ?_
  refine ER.allocA rfl rfl ?_
  refine ER.done ?_
  simp only [Array.size_push]
  refine EK.gen (fun h' => WX R nm lL lW lY lV h0 W s pf x i o (callPr G f (d, lv, v) k) f h' /\ Upd (fun _ => False) h h' /\ h'[y4]? = some (.cells (madP G.L G.m).toArray 129 (0, 0)) /\ h'[y5]? = some (.cells (gcallL (d, lv, v)).toArray 140 (0, 0)) /\ h'[y6]? = some (gansO (0, 0, false, 0))) ⟨w.upd0 u0, u0, ?_, ?_, ?_⟩ ?_
  · rw [hy4]; exact get_push _ (get_push _ (get_push_new _ _))
  · have := get_push (o := gansO (0, 0, false, 0)) (get_push_new (h.push (.cells (madP G.L G.m).toArray 129)) (.cells (gcallL (d, lv, v)).toArray 140))
    rw [Array.size_push] at this
    rw [hy5]; exact this
  · have := get_push_new ((h.push (.cells (madP G.L G.m).toArray 129)).push (.cells (gcallL (d, lv, v)).toArray 140)) (gansO (0, 0, false, 0))
    rw [Array.size_push, Array.size_push] at this
    rw [hy6]; exact this
  rw [<- hy6, <- hy5, <- hy4]
  clear w u0
  rintro hh ⟨w, u1, g4, g5, g6⟩
  have n4 : ¬ WT s x y4 := fun hc => by have := (wt0 _ hc).2; omega
  have n6 : ¬ WT s x y6 := fun hc => by have := (wt0 _ hc).2; omega
  have uu : Upd (WT s x) h hh := u1.mono (fun _ _ z => z.elim)
  clear u1 wt0
  have c50 : hcell hh ⟨y5, 0, none⟩ = some (.int .i64 d) := hcell_of g5 rfl
  by_cases h0' : d = 0
  · subst h0'
    have c51 : hcell hh ⟨y5, 1, none⟩ = some (.int .i64 lv) := hcell_of g5 rfl
    have c40 : hcell hh ⟨y4, 0, none⟩ = some (.int .i64 G.L) := hcell_of g4 rfl
    by_cases hl : lv < 0 \/ (G.L : Int) <= lv
    · rw [callPr0a hl] at w
      by_cases hl0 : lv < 0
      · (repeat (first | refine EK.seq ?_ | refine EK.region ?_ | refine ER.done ?_ | refine EK.block ?_ | refine ER.move rfl rfl rfl ?_ | refine ER.assign rfl rfl rfl ?_ | refine ER.fieldAddr rfl rfl rfl ?_ | refine ER.load1 rfl rfl rfl (hcell_of (by assumption) rfl) ?_ | refine ER.no rfl rfl ?_ | refine ER.pickT rfl rfl rfl rfl ?_ | refine ER.cmpT rfl rfl rfl rfl rfl (by first | (dsimp only [cmpP]; omega) | exact rfl | exact Int.le_refl _) ?_ | refine EK.condT rfl ?_))
        refine ER.buildS (cells := (gansL (0, 0, false, 1)).toArray) rfl rfl (by rfl) (by rfl) ?_
        refine ER.storeN (vs := gansL (0, 0, false, 1)) rfl rfl rfl rfl (by simp [gansL, OneCell]) (ans_all g6) ?_
        rw [row_set (c := gansL (0, 0, false, 0)) (vs := gansL (0, 0, false, 1)) g6 rfl]
        (repeat (first | refine ER.done ?_ | refine EK.ret ?_))
        exact EU.retCell1 (vs := gansL (0, 0, false, 1)) rfl rfl rfl (hrow_block (rest := []) (by rw [List.append_nil]; exact get_set_same g6)) ⟨rfl, upd_then uu (Upd.set (T := fun c => c = y6) _ _ _ rfl) (fun c hc e => by omega), (0, 0, false, 1), rfl, (w).setA g6 (by omega) (by decide) (by decide) (by decide) (by decide) (by decide) _⟩
      · have hl1 : (G.L : Int) <= lv := hl.resolve_left hl0
        (repeat (first | refine EK.seq ?_ | refine EK.region ?_ | refine ER.done ?_ | refine EK.block ?_ | refine ER.move rfl rfl rfl ?_ | refine ER.assign rfl rfl rfl ?_ | refine ER.fieldAddr rfl rfl rfl ?_ | refine ER.load1 rfl rfl rfl (hcell_of (by assumption) rfl) ?_ | refine ER.pickF rfl rfl rfl rfl ?_ | refine ER.cmpT rfl rfl rfl rfl rfl (by first | (dsimp only [cmpP]; omega) | exact rfl | exact Int.le_refl _) ?_ | refine ER.cmpF rfl rfl rfl rfl rfl (by first | (dsimp only [cmpP]; omega) | exact rfl | exact Int.le_refl _) ?_ | refine EK.condT rfl ?_))
        refine ER.buildS (cells := (gansL (0, 0, false, 1)).toArray) rfl rfl (by rfl) (by rfl) ?_
        refine ER.storeN (vs := gansL (0, 0, false, 1)) rfl rfl rfl rfl (by simp [gansL, OneCell]) (ans_all g6) ?_
        rw [row_set (c := gansL (0, 0, false, 0)) (vs := gansL (0, 0, false, 1)) g6 rfl]
        (repeat (first | refine ER.done ?_ | refine EK.ret ?_))
        exact EU.retCell1 (vs := gansL (0, 0, false, 1)) rfl rfl rfl (hrow_block (rest := []) (by rw [List.append_nil]; exact get_set_same g6)) ⟨rfl, upd_then uu (Upd.set (T := fun c => c = y6) _ _ _ rfl) (fun c hc e => by omega), (0, 0, false, 1), rfl, (w).setA g6 (by omega) (by decide) (by decide) (by decide) (by decide) (by decide) _⟩
    · obtain ⟨ln, rfl⟩ : ∃ ln : Nat, lv = ln := ⟨lv.toNat, by omega⟩
      rw [callPr0 (by omega)] at w
      (repeat (first | refine EK.seq ?_ | refine EK.region ?_ | refine ER.done ?_ | refine EK.skip ?_ | refine EK.block ?_ | refine ER.move rfl rfl rfl ?_ | refine ER.assign rfl rfl rfl ?_ | refine ER.fieldAddr rfl rfl rfl ?_ | refine ER.load1 rfl rfl rfl (hcell_of (by assumption) rfl) ?_ | refine ER.pickF rfl rfl rfl rfl ?_ | refine ER.cmpT rfl rfl rfl rfl rfl (by first | (dsimp only [cmpP]; omega) | exact rfl | exact Int.le_refl _) ?_ | refine ER.cmpF rfl rfl rfl rfl rfl (by first | (dsimp only [cmpP]; omega) | exact rfl | exact Int.le_refl _) ?_ | refine EK.condT rfl ?_ | refine EK.condF rfl ?_))
      refine ER.loadN (vs := madP G.L G.m) rfl rfl rfl rfl (hrow_block (rest := []) (by rw [List.append_nil]; exact g4)) ?_
      refine ER.loadN (vs := gcallL (0, (ln : Int), v)) rfl rfl rfl rfl (hrow_block (rest := []) (by rw [List.append_nil]; exact g5)) ?_
      refine ER.callR rfl rfl rfl rfl rfl (rput_w C hpf Lg N hm he hL8 (by omega) w (Nat.le_refl _)) ?_
      clear w
      rintro _ hh δ2 ⟨rfl, u2, AV, rfl, w⟩
      replace uu := uu.trans u2
      replace g6 := u2.get g6 n6
      clear u2 g4 g5 c50 c51 c40
      refine ER.storeN (vs := gansL AV) rfl rfl rfl rfl (by simp [gansL, OneCell]) (ans_all g6) ?_
      rw [row_set (c := gansL (0, 0, false, 0)) (vs := gansL AV) g6 rfl]
      (repeat (first | refine ER.done ?_ | refine EK.ret ?_))
      exact EU.retCell1 (vs := gansL AV) rfl rfl rfl (hrow_block (rest := []) (by rw [List.append_nil]; exact get_set_same g6)) ⟨rfl, upd_then uu (Upd.set (T := fun c => c = y6) _ _ _ rfl) (fun c hc e => by omega), AV, rfl, w.setA g6 (by omega) (by decide) (by decide) (by decide) (by decide) (by decide) _⟩
  by_cases h1' : d = 1
  · subst h1'
    rw [callPr1] at w
    (repeat (first | refine EK.seq ?_ | refine EK.region ?_ | refine ER.done ?_ | refine EK.block ?_ | refine ER.assign rfl rfl rfl ?_ | refine ER.fieldAddr rfl rfl rfl ?_ | refine ER.load1 rfl rfl rfl (hcell_of (by assumption) rfl) ?_ | refine ER.cmpT rfl rfl rfl rfl rfl (by first | (dsimp only [cmpP]; omega) | exact rfl | exact Int.le_refl _) ?_ | refine ER.cmpF rfl rfl rfl rfl rfl (by first | (dsimp only [cmpP]; omega) | exact rfl | exact Int.le_refl _) ?_ | refine EK.condT rfl ?_ | refine EK.condF rfl ?_))
    clear c50 g5
    refine EK.loopInv (fun _ : Nat × Nat => [(0, ptr x), (4, ptr y4), (6, ptr y6)]) (fun q h' δ' => δ' = δ /\ Upd (WT s x) h h' /\ h'[y4]? = some (.cells (madP G.L G.m).toArray 129 (0, 0)) /\ h'[y6]? = some (gansO (0, 0, false, 0)) /\ WX R nm lL lW lY lV h0 W s pf x i o (takeP G (fun v l is => k (v, l, is, 0)) q.1) q.2 h' /\ q.2 <= q.1 /\ q.2 <= f) (fun q => q.2) (f, f) ⟨rfl, rfl, rfl, trivial⟩ ⟨rfl, uu, g4, g6, w, Nat.le_refl _, Nat.le_refl _⟩ ?_
    clear w uu g4 g6
    rintro ⟨f1, m1⟩ hh δ1 ⟨rfl, uu, g4, g6, w, hf1, hm1'⟩ again
    dsimp only at w hf1 hm1' again
    rcases w with ⟨l1, hl1, w⟩ | ⟨ho, w⟩
    · have r1 := w.row
      obtain ⟨f2, rfl⟩ : ∃ f2, f1 = f2 + 1 := ⟨f1 - 1, by omega⟩
      have wt1 := w.wt
      replace w : WX R nm lL lW lY lV h0 W s pf x i o (takeP G (fun v l is => k (v, l, is, 0)) (f2 + 1)) m1 hh := .inl ⟨l1, hl1, w⟩
      (repeat (first | refine EK.seq ?_ | refine EK.region ?_ | refine ER.done ?_ | refine EK.skip ?_ | refine EK.block ?_ | refine ER.move rfl rfl rfl ?_ | refine ER.nilCheck rfl rfl rfl ?_ | refine ER.fieldAddr rfl rfl rfl ?_ | refine ER.notB rfl rfl rfl ?_ | refine EK.condT rfl ?_ | refine ER.load1 rfl rfl rfl (by assumption) ?_))
      clear r1
      refine ER.loadN (vs := madP G.L G.m) rfl rfl rfl rfl (hrow_block (rest := []) (by rw [List.append_nil]; exact g4)) ?_
      refine ER.callR rfl rfl rfl rfl rfl (rtake_w C hpf Lg N hm he hL1 hL8 w) ?_
      clear w
      rintro _ hh δ2 ⟨rfl, u2, AV, AG, rfl, hc⟩
      replace uu := uu.trans u2
      replace g4 := u2.get g4 n4
      replace g6 := u2.get g6 n6
      clear u2
      have hs6 := lt_of_get g6
      (repeat (first | refine ER.move rfl rfl rfl ?_ | refine ER.extract rfl rfl rfl rfl ?_ | refine ER.allocA rfl rfl ?_))
      change ER _ _ _ _ _ _ _ _ _ _ (hh.push (gansO (0, 0, false, 0))) _ _
      refine ER.storeN (vs := gansL AV) rfl rfl rfl rfl (by simp [gansL, OneCell]) (ans_all (get_push_new _ _)) ?_
      rw [hsetRow_push (c := gansL (0, 0, false, 0)) (vs := gansL AV) rfl]
      have u3 := Upd.push (T := fun _ => False) hh (gansO AV)
      have g7 := get_push_new hh (gansO AV)
      replace uu := uu.trans (u3.mono (fun _ _ z => z.elim))
      replace g4 := u3.get g4 (fun z => z)
      replace g6 := u3.get g6 (fun z => z)
      have hc2 := hc.imp (fun z => And.intro z.1 (z.2.upd0 u3)) (fun z => And.intro z.1 (z.2.upd0 u3))
      clear hc u3
      generalize hy7 : hh.size = y7 at g7 ⊢
      generalize hh.push (.cells (gansL AV).toArray 137) = hh at uu g4 g6 hc2 g7 ⊢
      rcases hc2 with ⟨rfl, w⟩ | ⟨rfl, w⟩
      · clear again
        (repeat (first | refine EK.seq ?_ | refine EK.region ?_ | refine ER.done ?_ | refine ER.move rfl rfl rfl ?_ | refine ER.assign rfl rfl rfl ?_ | refine ER.notB rfl rfl rfl ?_ | refine EK.condT rfl ?_))
        refine ER.loadN (vs := gansL AV) rfl rfl rfl rfl (hrow_block (rest := []) (by rw [List.append_nil]; exact g7)) ?_
        refine ER.storeN (vs := gansL AV) rfl rfl rfl rfl (by simp [gansL, OneCell]) (ans_all g6) ?_
        rw [row_set (c := gansL (0, 0, false, 0)) (vs := gansL AV) g6 rfl]
        (repeat (first | refine ER.done ?_ | refine EK.ret ?_))
        exact EU.retCell1 (vs := gansL AV) rfl rfl rfl (hrow_block (rest := []) (by rw [List.append_nil]; exact get_set_same g6)) ⟨rfl, upd_then uu (Upd.set (T := fun c => c = y6) _ _ _ rfl) (fun c hc e => by omega), AV, rfl, (w.mono hm1').setA g6 (by omega) (by decide) (by decide) (by decide) (by decide) (by decide) _⟩
      · (repeat (first | refine EK.seq ?_ | refine EK.region ?_ | refine ER.done ?_ | refine EK.skip ?_ | refine EK.inBlock ?_ | refine ER.move rfl rfl rfl ?_ | refine ER.assign rfl rfl rfl ?_ | refine ER.notB rfl rfl rfl ?_ | refine EK.condF rfl ?_))
        exact EK.back (again (f2, m1 - 1) _ _ (by dsimp only; omega) ⟨rfl, uu, g4, g6, w, by dsimp only; omega, by dsimp only; omega⟩) ⟨rfl, rfl, rfl, trivial⟩
    · have r1 := w.row
      clear again
      (repeat (first | refine EK.seq ?_ | refine EK.region ?_ | refine ER.done ?_ | refine EK.inBlock ?_ | refine ER.move rfl rfl rfl ?_ | refine ER.nilCheck rfl rfl rfl ?_ | refine ER.fieldAddr rfl rfl rfl ?_ | refine ER.notB rfl rfl rfl ?_ | refine EK.condF rfl ?_ | refine EK.exit rfl ?_ | refine ER.load1 rfl rfl rfl (by assumption) ?_))
      refine ER.buildS (cells := (gansL (0, 0, false, 0)).toArray) rfl rfl (by rfl) (by rfl) ?_
      refine ER.storeN (vs := gansL (0, 0, false, 0)) rfl rfl rfl rfl (by simp [gansL, OneCell]) (ans_all g6) ?_
      rw [row_set (c := gansL (0, 0, false, 0)) (vs := gansL (0, 0, false, 0)) g6 rfl]
      (repeat (first | refine ER.done ?_ | refine EK.ret ?_))
      exact EU.retCell1 (vs := gansL (0, 0, false, 0)) rfl rfl rfl (hrow_block (rest := []) (by rw [List.append_nil]; exact get_set_same g6)) ⟨rfl, upd_then uu (Upd.set (T := fun c => c = y6) _ _ _ rfl) (fun c hc e => by omega), (0, 0, false, 0), rfl, ((show WX R nm lL lW lY lV h0 W s pf x i o (k (0, 0, false, 0)) f hh from .inr ⟨ho, w⟩)).setA g6 (by omega) (by decide) (by decide) (by decide) (by decide) (by decide) _⟩
  · rw [callPr2 h0' h1'] at w
    (repeat (first | refine EK.seq ?_ | refine EK.region ?_ | refine ER.done ?_ | refine EK.skip ?_ | refine EK.block ?_ | refine EK.inBlock ?_ | refine ER.assign rfl rfl rfl ?_ | refine ER.fieldAddr rfl rfl rfl ?_ | refine ER.load1 rfl rfl rfl (hcell_of (by assumption) rfl) ?_ | refine ER.cmpF rfl rfl rfl rfl rfl (by first | (dsimp only [cmpP]; omega) | exact rfl | exact Int.le_refl _) ?_ | refine EK.condF rfl ?_))
    refine ER.buildS (cells := (gansL (0, 0, false, 0)).toArray) rfl rfl (by rfl) (by rfl) ?_
    refine ER.storeN (vs := gansL (0, 0, false, 0)) rfl rfl rfl rfl (by simp [gansL, OneCell]) (ans_all g6) ?_
    rw [row_set (c := gansL (0, 0, false, 0)) (vs := gansL (0, 0, false, 0)) g6 rfl]
    (repeat (first | refine ER.done ?_ | refine EK.ret ?_))
    exact EU.retCell1 (vs := gansL (0, 0, false, 0)) rfl rfl rfl (hrow_block (rest := []) (by rw [List.append_nil]; exact get_set_same g6)) ⟨rfl, upd_then uu (Upd.set (T := fun c => c = y6) _ _ _ rfl) (fun c hc e => by omega), (0, 0, false, 0), rfl, (w).setA g6 (by omega) (by decide) (by decide) (by decide) (by decide) (by decide) _⟩
end
end
section
open Go Go.TJ Go.Conc Go.Proofs
def Rec.aliveP (R : Rec) (k j : Nat) : Bool := R.left.any (fun q => q.1 == j) || (R.log.drop k).any (fun e => e.thr == j)
def Rec.aliveTo (R : Rec) (k i : Nat) : List Nat := (List.range i).filter (R.aliveP k)
theorem aliveTo_yes {R : Rec} {k i : Nat} (_h : i < R.nb) (hm : i ∈ R.alive k) : R.aliveTo k (i + 1) = R.aliveTo k i ++ [i] := by
  have : R.aliveP k i = true := (List.mem_filter.1 (show i ∈ (List.range R.nb).filter (R.aliveP k) from hm)).2
  unfold Rec.aliveTo
  rw [List.range_succ, List.filter_append]
  simp [this]
theorem aliveTo_no {R : Rec} {k i : Nat} (h : i < R.nb) (hm : ¬ i ∈ R.alive k) : R.aliveTo k (i + 1) = R.aliveTo k i := by
  have : R.aliveP k i = false := by
    cases e : R.aliveP k i
    · rfl
    · exact absurd (List.mem_filter.2 ⟨List.mem_range.2 h, e⟩ : i ∈ (List.range R.nb).filter (R.aliveP k)) hm
  unfold Rec.aliveTo
  rw [List.range_succ, List.filter_append]
  simp [this]
theorem aliveTo_len {R : Rec} {k i : Nat} : (R.aliveTo k i).length <= i := by
  have := List.length_filter_le (R.aliveP k) (List.range i)
  simpa [Rec.aliveTo] using this
section
variable {Γ : Type} {main : Bool} {S : Sit Γ} {δ : Ix Γ} {h h' h0 : Hp} {R : Rec} {picks : List Int} {lL lW lY lV sP tv cv : Value} {last : Int} {C n k j : Nat} {e : Int} {X : Us} {thr : List Nat} {cl : List Int}
set_option maxHeartbeats 8000000 in
set_option maxRecDepth 8000 in
theorem able_ok (ok : RecOk X picks R) (m : RecM R picks lL lW lY lV sP h0) (I : ChkI R lL lW lY lV sP h0 C tv cv last thr cl h) (hl : thr.length = R.nb) (hcl : cl.length = (nums R.log).length) (ti : TI R k thr) (hk : k <= R.log.length) :
    CallW Try.prog main (NoS (Γ := Γ)) 149 #[ptr C, .int .i64 k] h δ (Ret fun v h' δ' => δ' = δ /\ ∃ (thr' : List Nat) (lv : Value), v = .tuple #[lv, .int .i64 (R.alive k).length] /\ SliceO h' lv 3 1 (R.alive k).length ((R.alive k).map fun (n : Nat) => Value.int .i64 (n : Int)) /\
      thr'.length = R.nb /\ TI R k thr' /\ ChkI R lL lW lY lV sP h0 C tv cv last thr' cl h' /\ Upd (fun b => blk tv = some b) h h') := by
  have hlen := ok.len
  have hmost := ok.most
  have hnb := ok.nb
  have htl : ∀ b, blk tv = some b -> b < h.size := fun b hb => I.thr.lt hb
  obtain ⟨aT, kT, eT⟩ := I.thr.val
  rw [hl] at eT
  subst eT
  have h00 := I.up.size
  refine CallW.start (n := 60) rfl rfl ?_
  (repeat (first | refine EK.seq ?_ | refine EK.region ?_ | refine ER.done ?_ | refine EK.block ?_ | refine ER.assign rfl rfl rfl ?_))
  refine EK.loopInv (fun q : Nat × Value × List Nat => [(8, .int .i64 q.1), (7, .int .i64 (R.aliveTo k q.1).length), (6, q.2.1), (0, ptr C), (1, .int .i64 k)]) (fun q h' δ' => q.1 <= R.nb /\ δ' = δ /\ q.2.2.length = R.nb /\ TI R k q.2.2 /\ ChkI R lL lW lY lV sP h0 C (.slice aT R.nb kT) cv last q.2.2 cl h' /\ SliceO h' q.2.1 3 1 (R.aliveTo k q.1).length ((R.aliveTo k q.1).map fun (n : Nat) => Value.int .i64 (n : Int)) /\ (∀ b, blk q.2.1 = some b -> h.size <= b) /\ Upd (fun b => blk (.slice aT R.nb kT) = some b) h h') (fun q => R.nb - q.1) (0, nilS, thr) ⟨rfl, rfl, rfl, rfl, rfl, trivial⟩ ⟨Nat.zero_le _, rfl, hl, ti, I, SliceO.nil, fun b hb => (by cases hb), Upd.refl _ _⟩ ?_
  clear hl ti I thr
  rintro ⟨i, lv, thr⟩ h1 δ1 ⟨hi, hδ, hl, ti, I, sl, hb, up⟩ again
  dsimp only at hi hl ti I sl hb up again hδ ⊢
  subst hδ
  have c9 : hcell h1 ⟨C, 9, none⟩ = some (.slice aT R.nb kT) := hcell_of I.row rfl
  have hal := aliveTo_len (R := R) (k := k) (i := i)
  by_cases hin : i < R.nb
  · (repeat (first | refine EK.seq ?_ | refine EK.region ?_ | refine ER.done ?_ | refine EK.skip ?_ | refine EK.block ?_ | refine ER.move rfl rfl rfl ?_ | refine ER.nilCheck rfl rfl rfl ?_ | refine ER.fieldAddr rfl rfl rfl ?_ | refine ER.cmpT rfl rfl rfl rfl rfl (by first | (dsimp only [cmpP]; omega) | exact rfl | exact Int.le_refl _) ?_ | refine ER.len1 rfl rfl rfl ?_ | refine EK.condT rfl ?_ | refine ER.load1 rfl rfl rfl (by assumption) ?_))
    refine ER.callR rfl rfl rfl rfl rfl (next_ok ok m I hl ti hin hk) ?_
    clear ti I hl c9
    rintro _ h2 δ2 ⟨rfl, thr, t, o, c, a, nw, w, x, f, b, rfl, hbi, hbp, hl, ti, I, u2⟩
    have sl2 := sl.upd u2 (fun b' hb' e => by have := htl b' e; have := hb b' hb'; omega)
    have up2 := up.trans u2
    clear sl up u2
    have es := up2.size
    obtain ⟨y, hy⟩ : ∃ y, y = h2.size := ⟨_, rfl⟩
    (repeat (first | refine ER.move rfl rfl rfl ?_ | refine ER.extract rfl rfl rfl rfl ?_ | refine ER.allocA rfl rfl ?_))
    refine ER.storeN (vs := accL t o c a nw w x f) rfl rfl rfl rfl (by simp [accL, OneCell]) (by rw [<- hy]; exact acc_all (vs := [.int .i64 0, .int .i8 0, .int .i64 0, .int .i64 0, .int .i64 0, .int .i64 0, .int .i64 0, .bool false]) rfl (by rw [hy]; exact get_push_new _ _)) ?_
    rw [hsetRow_push (c := [.int .i64 0, .int .i8 0, .int .i64 0, .int .i64 0, .int .i64 0, .int .i64 0, .int .i64 0, .bool false]) (vs := accL t o c a nw w x f) rfl]
    refine ER.gen (fun h' => ChkI R lL lW lY lV sP h0 C (.slice aT R.nb kT) cv last thr cl h' /\ SliceO h' lv 3 1 (R.aliveTo k i).length ((R.aliveTo k i).map fun (n : Nat) => Value.int .i64 (n : Int)) /\ Upd (fun b => blk (.slice aT R.nb kT) = some b) h h' /\ h'[y]? = some (accO (accL t o c a nw w x f))) ⟨I.upd0 (Upd.push _ _), sl2.upd (Upd.push (T := fun _ => False) _ _) (fun _ _ x => x), up2.trans (Upd.push _ _), by rw [hy]; exact get_push_new _ _⟩ ?_
    rw [<- hy]
    clear I sl2 up2 hy
    rintro h3 ⟨I, sl, up, ly⟩
    have y1 : hcell h3 ⟨y, 1, none⟩ = some (.int .i8 o) := hcell_of ly rfl
    have y2 : hcell h3 ⟨y, 2, none⟩ = some (.int .i64 c) := hcell_of ly rfl
    have y5 : hcell h3 ⟨y, 5, none⟩ = some (.int .i64 w) := hcell_of ly rfl
    cases b with
    | false =>
      have hna : ¬ i ∈ R.alive k := fun hm => by have := hbi.2 hm; cases this
      rw [<- aliveTo_no hin hna] at sl
      (repeat (first | refine EK.seq ?_ | refine EK.region ?_ | refine ER.done ?_ | refine ER.move rfl rfl rfl ?_ | refine ER.assign rfl rfl rfl ?_ | refine ER.notB rfl rfl rfl ?_ | refine ER.add (kd := .i64) rfl rfl rfl rfl (i64_in (by omega) (by omega)) ?_ | refine EK.condT rfl ?_ | refine EK.exit rfl ?_))
      refine EK.back (again (i + 1, lv, thr) _ _ (by dsimp only; omega) ⟨by dsimp only; omega, rfl, hl, ti, I, sl, hb, up⟩) ⟨rfl, ?_, rfl, rfl, rfl, trivial⟩
      rw [aliveTo_no hin hna]
      rfl
    | true =>
      obtain ⟨o1, o2, c1, c2⟩ := hbp rfl
      have hna : i ∈ R.alive k := hbi.1 rfl
      have sl' := sl
      obtain ⟨aA, kA, eA⟩ := sl.val
      (repeat (first | refine EK.seq ?_ | refine EK.region ?_ | refine ER.done ?_ | refine EK.skip ?_ | refine ER.move rfl rfl rfl ?_ | refine ER.assign rfl rfl rfl ?_ | refine ER.fieldAddr rfl rfl rfl ?_ | refine ER.load1 rfl rfl rfl (hcell_of (by assumption) rfl) ?_ | refine ER.notB rfl rfl rfl ?_ | refine ER.add (kd := .i64) rfl rfl rfl rfl (i64_in (by omega) (by omega)) ?_ | refine EK.condF rfl ?_))
      refine ER.cmpB (r := decide (0 <= c)) rfl rfl rfl rfl rfl rfl ?_
      refine ER.done ?_
      refine EK.join (fun _ : Unit => [(9, ptr y), (8, .int .i64 i), (7, .int .i64 ((R.aliveTo k i).length + 1 : Nat)), (6, lv), (0, ptr C), (1, .int .i64 k)]) (fun _ h' δ' => h' = h3 /\ δ' = δ2) (fun key => ?_) ?_
      · by_cases hc : 0 <= c
        · rw [decide_eq_true hc]
          obtain ⟨cc, rfl⟩ : ∃ cc : Nat, c = cc := ⟨c.toNat, by omega⟩
          obtain ⟨xx, hxx⟩ : ∃ xx, cl[cc]? = some xx := ⟨_, List.getElem?_eq_getElem (by omega)⟩
          obtain ⟨aC, kC, eC⟩ := I.cel.val
          subst eC
          obtain ⟨bC, eC, cC, -⟩ := slice_at I.cel hxx
          subst eC
          have c10 : hcell h3 ⟨C, 10, none⟩ = some (.slice (some ⟨bC, 0, none⟩) cl.length kC) := hcell_of I.row rfl
          refine EK.condT rfl ?_
          refine EK.regionAny (fun h' => h' = h3) ?_
          have hZ : h3 = h3 := rfl
          refine EA.tMove 0 rfl (by kernel_rfl) rfl rfl rfl rfl hZ ?_
          refine EA.tNil 1 rfl (by kernel_rfl) rfl rfl rfl rfl hZ ?_
          refine EA.tField 2 rfl (by kernel_rfl) rfl rfl rfl rfl hZ ?_
          refine EA.tLoad 3 rfl (by kernel_rfl) rfl rfl rfl rfl (fun _ hz => (by rw [hz]; exact c10)) hZ ?_
          refine EA.tField 4 rfl (by kernel_rfl) rfl rfl rfl rfl hZ ?_
          refine EA.tLoad 5 rfl (by kernel_rfl) rfl rfl rfl rfl (fun _ hz => (by rw [hz]; exact y2)) hZ ?_
          refine EA.tIdxS 6 rfl (by kernel_rfl) rfl rfl rfl rfl rfl (by omega) (by omega) hZ ?_
          refine EA.tLoad 7 rfl (by kernel_rfl) rfl rfl rfl rfl (fun _ hz => (by rw [hz]; exact cC)) hZ ?_
          refine EA.tAssign 8 rfl (by kernel_rfl) rfl rfl rfl rfl hZ ?_
          refine EA.done (by kernel_rfl) ?_
          exact EK.back (key () _ _ ⟨rfl, rfl⟩) ⟨rfl, rfl, rfl, rfl, rfl, rfl, trivial⟩
        · rw [decide_eq_false hc]
          refine EK.condF rfl (EK.skip ?_)
          exact EK.back (key () _ _ ⟨rfl, rfl⟩) ⟨rfl, rfl, rfl, rfl, rfl, rfl, trivial⟩
      rintro _ h3 δ2 ⟨rfl, rfl⟩
      clear y2 y5
      (repeat (first | refine EK.seq ?_ | refine EK.region ?_ | refine ER.done ?_ | refine ER.move rfl rfl rfl ?_ | refine ER.fieldAddr rfl rfl rfl ?_ | refine ER.load1 rfl rfl rfl (hcell_of (by assumption) rfl) ?_ | refine ER.no rfl rfl ?_ | refine ER.pickT rfl rfl rfl rfl ?_ | refine ER.cmpT rfl rfl rfl rfl rfl (by first | (dsimp only [cmpP]; omega) | exact rfl | exact Int.le_refl _) ?_ | refine EK.condT rfl ?_))
      refine ER.slice1 (sz := 1) (z := .int .i64 0) (cells := #[.int .i64 i]) rfl rfl rfl (by omega) (by omega) rfl rfl ?_
      refine ER.append1 (new := [.int .i64 i]) rfl rfl rfl rfl (sl.upd (Upd.push (T := fun _ => False) h3 _) (fun _ _ x => x)) (get_push_new _ _) rfl (by simp [OneCell]) (by omega) (by omega) (by rfl) (fun _ _ _ x => x) ?_
      intro s4 h4 sl4 u4 hb4
      have p4 : Upd (fun b => blk lv = some b) h3 h4 := (Upd.push (T := fun b => blk lv = some b) h3 (.cells #[.int .i64 i] 3)).trans u4
      have hlvC : ∀ b, blk lv = some b -> b ≠ C := sliceO_ne sl I.row (by decide)
      have I4 : ChkI R lL lW lY lV sP h0 C (.slice aT R.nb kT) cv last thr cl h4 := ⟨I.up.over p4 (fun b hb' => by have := hb b hb'; omega), p4.get I.row (fun e => hlvC C e rfl), I.thr.upd p4 (fun b hb' e => by have := htl b hb'; have := hb b e; omega), I.cel.upd p4 (fun b hb' e => sliceO_two sl I.cel (by decide) b e hb'), I.nC, I.nt, I.nc⟩
      have e4 : (R.aliveTo k (i + 1)).length = (R.aliveTo k i).length + 1 := by rw [aliveTo_yes hin hna, List.length_append]; rfl
      have sl5 : SliceO h4 s4 3 1 (R.aliveTo k (i + 1)).length ((R.aliveTo k (i + 1)).map fun (n : Nat) => Value.int .i64 (n : Int)) := by rw [e4, aliveTo_yes hin hna, List.map_append]; exact sl4
      have nb4 : ∀ b, blk s4 = some b -> h.size <= b := fun b hb' => by
        rcases hb4 b hb' with z | z
        · exact hb b z
        · rw [Array.size_push] at z; have := up.size; omega
      (repeat (first | refine EK.region ?_ | refine ER.done ?_ | refine EK.inBlock ?_ | refine ER.move rfl rfl rfl ?_ | refine ER.assign rfl rfl rfl ?_ | refine ER.add (kd := .i64) rfl rfl rfl rfl (i64_in (by omega) (by omega)) ?_))
      refine EK.back (again (i + 1, s4, thr) _ _ (by dsimp only; omega) ⟨by dsimp only; omega, rfl, hl, ti, I4, sl5, nb4, upd_then up p4 (fun b hb' e => by have := hb b e; omega)⟩) ⟨rfl, ?_, rfl, rfl, rfl, trivial⟩
      rw [e4]
      rfl
  · obtain rfl : i = R.nb := by omega
    clear again
    (repeat (first | refine EK.seq ?_ | refine EK.region ?_ | refine ER.done ?_ | refine ER.move rfl rfl rfl ?_ | refine ER.assign rfl rfl rfl ?_ | refine ER.nilCheck rfl rfl rfl ?_ | refine ER.fieldAddr rfl rfl rfl ?_ | refine ER.cmpF rfl rfl rfl rfl rfl (by first | (dsimp only [cmpP]; omega) | exact rfl | exact Int.le_refl _) ?_ | refine ER.len1 rfl rfl rfl ?_ | refine EK.condF rfl ?_ | refine EK.ret ?_ | refine EK.exit rfl ?_ | refine ER.load1 rfl rfl rfl (by assumption) ?_))
    exact EU.ret2 rfl rfl rfl ⟨rfl, thr, lv, rfl, sl, hl, ti, I, up⟩
set_option maxHeartbeats 8000000 in
set_option maxRecDepth 8000 in
theorem picked_ok {l went : List Nat} {lv : Value} (m : RecM R picks lL lW lY lV sP h) (hC : h[C]? = some (chkO e n lL lW lY lV sP k tv cv (lastOf went))) (hl : SliceO h lv 3 1 l.length (l.map fun (n : Nat) => Value.int .i64 (n : Int))) (hne : l ≠ []) (hlen : l.length <= 1000) (hwl : went.length <= 65536) :
    CallW Try.prog main S 150 #[ptr C, lv, .int .i64 went.length] h δ (Ret (Det (.int .i64 (pickOf picks went l)) h δ)) := by
  have hpos : 0 < l.length := List.length_pos_iff.2 hne
  obtain ⟨aP, kP, eP⟩ := m.picks.val
  rw [List.length_map] at eP
  obtain ⟨aA, kA, eA⟩ := hl.val
  subst eP eA
  have c7 : hcell h ⟨C, 7, none⟩ = some (.slice aP picks.length kP) := hcell_of hC rfl
  have c11 : hcell h ⟨C, 11, none⟩ = some (.int .i64 (lastOf went)) := hcell_of hC rfl
  refine CallW.start (n := 33) rfl rfl ?_
  by_cases hlt : went.length < picks.length
  · obtain ⟨x, hx⟩ : ∃ x, picks[went.length]? = some x := ⟨_, List.getElem?_eq_getElem hlt⟩
    obtain ⟨bP, oP, kP', e2, cP⟩ := m.picks.cell went.length (.int .i64 x) (by rw [List.getElem?_map, hx]; rfl)
    injection e2 with e2
    subst e2
    obtain ⟨q, hq, hq2, hq3⟩ := placed_mem x hne
    obtain ⟨bA, e2, cA, -⟩ := slice_at hl hq2
    subst e2
    have h3 := Int.emod_nonneg x (b := (l.length : Int)) (by omega)
    have h4 := Int.emod_lt_of_pos x (b := (l.length : Int)) (by omega)
    rw [<- hq3] at cA
    rw [show pickOf picks went l = placed x l by unfold pickOf; rw [hx]]
    (repeat (first | refine EK.seq ?_ | refine EK.region ?_ | refine ER.done ?_ | refine ER.move rfl rfl rfl ?_ | refine ER.assign rfl rfl rfl ?_ | refine ER.nilCheck rfl rfl rfl ?_ | refine ER.fieldAddr rfl rfl rfl ?_ | refine ER.load1 rfl rfl rfl (hcell_of (by assumption) rfl) ?_ | refine ER.cmpT rfl rfl rfl rfl rfl (by first | (dsimp only [cmpP]; omega) | exact rfl | exact Int.le_refl _) ?_ | refine ER.len1 rfl rfl rfl ?_ | refine ER.indexSl rfl rfl rfl rfl (by omega) (by omega) ?_ | refine EK.condT rfl ?_ | refine ER.load1 rfl rfl rfl (by assumption) ?_))
    refine ER.callD rfl rfl rfl rfl rfl (place_ok hpos hlen) ?_
    generalize x % (l.length : Int) = r at h3 h4 cA ⊢
    (repeat (first | refine ER.done ?_ | refine ER.assign rfl rfl rfl ?_ | refine ER.indexSl rfl rfl rfl rfl (by omega) (by omega) ?_ | refine EK.ret ?_ | refine ER.load1 rfl rfl rfl (by assumption) ?_))
    exact EU.ret1 rfl rfl det
  · have hx : picks[went.length]? = none := List.getElem?_eq_none (by omega)
    rw [show pickOf picks went l = roundOf l (lastOf went) by unfold pickOf; rw [hx]]
    (repeat (first | refine EK.seq ?_ | refine EK.region ?_ | refine ER.done ?_ | refine EK.skip ?_ | refine ER.move rfl rfl rfl ?_ | refine ER.assign rfl rfl rfl ?_ | refine ER.nilCheck rfl rfl rfl ?_ | refine ER.fieldAddr rfl rfl rfl ?_ | refine ER.load1 rfl rfl rfl (hcell_of (by assumption) rfl) ?_ | refine ER.cmpF rfl rfl rfl rfl rfl (by first | (dsimp only [cmpP]; omega) | exact rfl | exact Int.le_refl _) ?_ | refine ER.len1 rfl rfl rfl ?_ | refine EK.condF rfl ?_))
    refine ER.callD rfl rfl rfl rfl rfl (most_ok hl hne hlen) ?_
    (repeat (first | refine ER.done ?_ | refine ER.assign rfl rfl rfl ?_ | refine EK.ret ?_))
    exact EU.ret1 rfl rfl det
end
end
section
open Go Go.TJ Go.Conc Go.Proofs
theorem filter_rise : ∀ (m s : Nat) {l : List Nat}, l.Pairwise (· < ·) -> (∀ a, a ∈ l -> s <= a /\ a < s + m) -> (List.range' s m).filter (fun j => l.any (· == j)) = l
  | 0, s, l, h, hl => by
    cases l with
    | nil => rfl
    | cons a t => have := hl a (by simp); omega
  | m + 1, s, l, h, hl => by
    rw [List.range'_succ]
    cases l with
    | nil => simp
    | cons a t =>
      obtain ⟨h1, h2⟩ := List.pairwise_cons.1 h
      have ha := hl a (by simp)
      by_cases e : a = s
      · subst e
        rw [List.filter_cons_of_pos (by simp)]
        congr 1
        have ih := filter_rise m (a + 1) h2 (fun b hb => ⟨h1 b hb, by have := hl b (by simp [hb]); omega⟩)
        rw [<- ih]
        refine List.filter_congr fun j hj => ?_
        have hja : a ≠ j := by have := (List.mem_range'_1.1 hj).1; omega
        rw [ih]
        have : (a == j) = false := by simpa using hja
        simp [this]
      · have hs : ((a :: t).any fun x => x == s) = false := by
          refine List.any_eq_false.2 fun x hx => ?_
          have : s < x := by
            rcases List.mem_cons.1 hx with rfl | hx
            · omega
            · have := h1 x hx; omega
          simp; omega
        rw [List.filter_cons_of_neg (by rw [hs]; decide)]
        refine filter_rise m (s + 1) h fun b hb => ?_
        have hb2 := hl b hb
        rcases List.mem_cons.1 hb with rfl | hb
        · omega
        · have := h1 b hb; omega
theorem RecOk.alive_end {X : Us} {picks : List Int} {R : Rec} (ok : RecOk X picks R) : R.alive R.log.length = R.left.map (·.1) := by
  unfold Rec.alive
  rw [List.drop_eq_nil_of_le (Nat.le_refl _)]
  have := filter_rise R.nb 0 (l := R.left.map (·.1)) (List.pairwise_map.2 ok.rise) (fun a ha => by
    obtain ⟨q, hq, rfl⟩ := List.mem_map.1 ha
    have := (ok.left q hq).1
    omega)
  rw [<- List.range_eq_range'] at this
  rw [<- this]
  refine List.filter_congr fun j hj => ?_
  rw [List.any_map]
  simp
  rfl
theorem lastOf_take {l : List Ev} {k : Nat} {e : Ev} (h : l[k]? = some e) : lastOf ((l.take (k + 1)).map (·.thr)) = (e.thr : Int) := by
  rw [(take_mid h).1, List.map_append]
  unfold lastOf
  simp
section
variable {Γ : Type} {main : Bool} {S : Sit Γ} {δ : Ix Γ} {h h' h0 : Hp} {R : Rec} {picks : List Int} {lL lW lY lV sP tv cv : Value} {last : Int} {C n k j : Nat} {e : Int} {X : Us} {thr : List Nat} {cl : List Int}
theorem ChkI.setLast (I : ChkI R lL lW lY lV sP h0 C tv cv last thr cl h) (x : Int) : ChkI R lL lW lY lV sP h0 C tv cv x thr cl (hset h ⟨C, 11, none⟩ (.int .i64 x)) := by
  have e7 : hset h ⟨C, 11, none⟩ (.int .i64 x) = h.setIfInBounds C (chkO R.e R.log.length lL lW lY lV sP R.most tv cv x) := hset_block I.row _
  rw [e7]
  have u : Upd (fun b => b = C) h (h.setIfInBounds C (chkO R.e R.log.length lL lW lY lV sP R.most tv cv x)) := Upd.set _ _ _ rfl
  have := I.nC
  exact ⟨I.up.over u (fun b hb => by omega), get_set_same I.row, I.thr.upd u (sliceO_ne I.thr I.row (by decide)), I.cel.upd u (sliceO_ne I.cel I.row (by decide)), I.nC, I.nt, I.nc⟩
theorem ChkI.setC {b cap i : Nat} (I : ChkI R lL lW lY lV sP h0 C tv (.slice (some ⟨b, 0, none⟩) cl.length cap) last thr cl h) (hi : i < cl.length) (x : Int) : ChkI R lL lW lY lV sP h0 C tv (.slice (some ⟨b, 0, none⟩) cl.length cap) last thr (cl.set i x) (hset h ⟨b, 0 + i * 1, none⟩ (.int .i64 x)) := by
  have u : Upd (fun x => x = b) h (hset h ⟨b, 0 + i * 1, none⟩ (.int .i64 x)) := Upd.hset _ _ _ rfl
  have hb := I.nc b rfl
  have e1 : 0 + i * 1 = i := by omega
  refine ⟨I.up.over u (fun b' hb' => by omega), u.get I.row (fun e => sliceO_ne I.cel I.row (by decide) b rfl e.symm), I.thr.upd u (fun b' hb' e => sliceO_two I.cel I.thr (by decide) b rfl (by rw [<- e]; exact hb')), ?_, I.nC, I.nt, I.nc⟩
  have := I.cel.set (j := i) (by rw [List.length_map]; exact hi) (.int .i64 x)
  rw [e1, List.map_set, List.length_set]
  exact this
set_option maxHeartbeats 8000000 in
set_option maxRecDepth 8000 in
theorem turns_all (ok : RecOk X picks R) (m : RecM R picks lL lW lY lV sP h0) (I : ChkI R lL lW lY lV sP h0 C tv cv (-1) thr cl h) (hl : thr.length = R.nb) (hcl : cl.length = (nums R.log).length) (ti : TI R 0 thr) :
    CallW Try.prog main (NoS (Γ := Γ)) 81 #[ptr C] h δ (Ret fun v h' δ' => δ' = δ /\ v = .bool true /\ Upd (fun _ => False) h0 h') := by
  have hlen := ok.len
  have hmost := ok.most
  have hnb := ok.nb
  have h00 := I.up.size
  obtain ⟨aT, kT, eT⟩ := I.thr.val
  obtain ⟨aC, kC, eC⟩ := I.cel.val
  obtain ⟨aL, kL, eL⟩ := m.log.val
  obtain ⟨aW, kW, eW⟩ := m.went.val
  obtain ⟨aY, kY, eY⟩ := m.rdy.val
  obtain ⟨aV, kV, eV⟩ := m.left.val
  have hrd := ok.rdy
  have hwl : (R.log.map (·.thr)).length = R.log.length := List.length_map _
  rw [hl] at eT
  rw [hcl] at eC
  rw [hwl] at eW
  rw [hrd] at eY
  subst eT eC eL eW eY eV
  refine CallW.start (n := 180) rfl rfl ?_
  (repeat (first | refine EK.seq ?_ | refine EK.region ?_ | refine ER.done ?_ | refine EK.block ?_ | refine ER.assign rfl rfl rfl ?_))
  refine EK.loopInv (fun q : Nat × List Nat × List Int => [(4, .int .i64 q.1), (3, .int .i64 q.1), (0, ptr C)]) (fun q h' δ' => q.1 <= R.log.length /\ δ' = δ /\ q.2.1.length = R.nb /\ q.2.2.length = (nums R.log).length /\ TI R q.1 q.2.1 /\ ChkI R (.slice aL R.log.length kL) (.slice aW R.log.length kW) (.slice aY R.log.length kY) (.slice aV R.left.length kV) sP h0 C (.slice aT R.nb kT) (.slice aC (nums R.log).length kC) (lastOf ((R.log.take q.1).map (·.thr))) q.2.1 q.2.2 h') (fun q => R.log.length - q.1) (0, thr, cl) ⟨rfl, rfl, rfl, trivial⟩ ⟨Nat.zero_le _, rfl, hl, hcl, ti, I⟩ ?_
  clear hl hcl ti I thr cl h00
  rintro ⟨k, thr, cl⟩ h1 δ1 ⟨hk, hδ, hl, hcl, ti, I⟩ again
  dsimp only at hk hl hcl ti I again hδ ⊢
  subst hδ
  have c2 : hcell h1 ⟨C, 2, none⟩ = some (.slice aL R.log.length kL) := hcell_of I.row rfl
  by_cases hin : k < R.log.length
  · obtain ⟨e, he⟩ : ∃ e, R.log[k]? = some e := ⟨_, List.getElem?_eq_getElem hin⟩
    obtain ⟨bL, ea, hrow, -⟩ := slice_row (entL_len (nums R.log)) (m.log.upd I.up (fun _ _ x => x)) he
    subst ea
    (repeat (first | refine EK.seq ?_ | refine EK.region ?_ | refine ER.done ?_ | refine EK.skip ?_ | refine EK.block ?_ | refine ER.move rfl rfl rfl ?_ | refine ER.nilCheck rfl rfl rfl ?_ | refine ER.fieldAddr rfl rfl rfl ?_ | refine ER.cmpT rfl rfl rfl rfl rfl (by first | (dsimp only [cmpP]; omega) | exact rfl | exact Int.le_refl _) ?_ | refine ER.len1 rfl rfl rfl ?_ | refine ER.indexSl rfl rfl rfl rfl (by omega) (by omega) ?_ | refine EK.condT rfl ?_ | refine ER.load1 rfl rfl rfl (by assumption) ?_))
    refine ER.loadN (vs := entL (nums R.log) e) rfl rfl rfl rfl hrow ?_
    (repeat refine ER.allocA rfl rfl ?_)
    obtain ⟨y, hy⟩ : ∃ y, y = h1.size := ⟨_, rfl⟩
    refine ER.storeN (vs := entL (nums R.log) e) rfl rfl rfl rfl (by simp [entL, accL, OneCell]) (by rw [<- hy]; exact acc_all (vs := [.int .i64 0, .int .i8 0, .int .i64 0, .int .i64 0, .int .i64 0, .int .i64 0, .int .i64 0, .bool false]) rfl (by rw [hy]; exact get_push_new _ _)) ?_
    rw [hsetRow_push (c := [.int .i64 0, .int .i8 0, .int .i64 0, .int .i64 0, .int .i64 0, .int .i64 0, .int .i64 0, .bool false]) (vs := entL (nums R.log) e) rfl]
    refine ER.gen (fun h' => ChkI R (.slice (some ⟨bL, 0, none⟩) R.log.length kL) (.slice aW R.log.length kW) (.slice aY R.log.length kY) (.slice aV R.left.length kV) sP h0 C (.slice aT R.nb kT) (.slice aC (nums R.log).length kC) (lastOf ((R.log.take k).map (·.thr))) thr cl h' /\ h'[y]? = some (accO (entL (nums R.log) e)) /\ y < h'.size) ⟨I.upd0 (Upd.push _ _), by rw [hy]; exact get_push_new _ _, by rw [Array.size_push]; omega⟩ ?_
    rw [<- hy]
    clear I hrow c2 hy
    rintro h2 ⟨I, ly, hyl⟩
    obtain ⟨w, i1, r, cw, hr, e1, ch2⟩ := ok.chain.inv he
    have hop1 : 1 <= e.op := by rw [e1]; exact hr.op1
    have hop2 : e.op <= 5 := by rw [e1]; exact hr.op2
    have hixl : (nums R.log).idxOf e.b < (nums R.log).length := List.idxOf_lt_length_iff.2 ((nums_mem _ _).2 ⟨e, List.mem_of_getElem? he, rfl⟩)
    obtain ⟨tn1, tn2, tn3⟩ := ok.turns k e he
    have hthr : e.thr < R.nb := (mem_alive.1 tn3).1
    have htn2 : ((R.log.take k).map (·.thr)).length = k := by rw [List.length_map, List.length_take]; omega
    clear cw e1 ch2 hr
    have ea : entL (nums R.log) e = accL e.thr e.op ((nums R.log).idxOf e.b : Nat) e.arg e.new e.was e.now e.ok := rfl
    rw [ea] at ly
    generalize (nums R.log).idxOf e.b = ix at hixl ly
    have y0 : hcell h2 ⟨y, 0, none⟩ = some (.int .i64 e.thr) := hcell_of ly rfl
    have y1 : hcell h2 ⟨y, 1, none⟩ = some (.int .i8 e.op) := hcell_of ly rfl
    have c9 : hcell h2 ⟨C, 9, none⟩ = some (.slice aT R.nb kT) := hcell_of I.row rfl
    refine ER.done (EK.seq (EK.seq ?_))
    refine EK.regionAny (fun h' => h' = h2) ?_
    have hZ : h2 = h2 := rfl
    refine EA.tField 0 rfl (by kernel_rfl) rfl rfl rfl rfl hZ ?_
    refine EA.tLoad 1 rfl (by kernel_rfl) rfl rfl rfl rfl (fun _ hz => (by rw [hz]; exact y0)) hZ ?_
    refine EA.tCmpF 2 rfl (by kernel_rfl) rfl rfl rfl rfl rfl rfl (by first | (dsimp only [cmpP]; omega) | exact rfl | exact Int.le_refl _) hZ ?_
    refine EA.tMove 3 rfl (by kernel_rfl) rfl rfl rfl rfl hZ ?_
    refine EA.tField 4 rfl (by kernel_rfl) rfl rfl rfl rfl hZ ?_
    refine EA.tLoad 5 rfl (by kernel_rfl) rfl rfl rfl rfl (fun _ hz => (by rw [hz]; exact y0)) hZ ?_
    refine EA.tMove 6 rfl (by kernel_rfl) rfl rfl rfl rfl hZ ?_
    refine EA.tNil 7 rfl (by kernel_rfl) rfl rfl rfl rfl hZ ?_
    refine EA.tField 8 rfl (by kernel_rfl) rfl rfl rfl rfl hZ ?_
    refine EA.tLoad 9 rfl (by kernel_rfl) rfl rfl rfl rfl (fun _ hz => (by rw [hz]; exact c9)) hZ ?_
    refine EA.tLen1 10 rfl (by kernel_rfl) rfl rfl rfl rfl hZ ?_
    refine EA.tCmpF 11 rfl (by kernel_rfl) rfl rfl rfl rfl rfl rfl (by first | (dsimp only [cmpP]; omega) | exact rfl | exact Int.le_refl _) hZ ?_
    refine EA.tPickF 12 rfl (by kernel_rfl) rfl rfl rfl rfl rfl hZ ?_
    refine EA.done (by kernel_rfl) ?_
    clear hZ
    (repeat (first | refine EK.seq ?_ | refine EK.region ?_ | refine ER.done ?_ | refine EK.skip ?_ | refine ER.move rfl rfl rfl ?_ | refine ER.fieldAddr rfl rfl rfl ?_ | refine ER.load1 rfl rfl rfl (hcell_of (by assumption) rfl) ?_ | refine ER.cmpF rfl rfl rfl rfl rfl (by first | (dsimp only [cmpP]; omega) | exact rfl | exact Int.le_refl _) ?_ | refine EK.condF rfl ?_))
    have nyT : ¬ blk (.slice aT R.nb kT) = some y := fun hx => sliceO_ne I.thr ly (by decide) y hx rfl
    refine ER.callR rfl rfl rfl rfl rfl (able_ok ok m I hl hcl ti hk) ?_
    clear I ti hl thr y0 y1 c9
    rintro _ h3 δ2 ⟨rfl, thr, lv, rfl, sl, hl, ti, I, u3⟩
    have ly := u3.get ly nyT
    have y0 : hcell h3 ⟨y, 0, none⟩ = some (.int .i64 e.thr) := hcell_of ly rfl
    have y1 : hcell h3 ⟨y, 1, none⟩ = some (.int .i8 e.op) := hcell_of ly rfl
    have y2 : hcell h3 ⟨y, 2, none⟩ = some (.int .i64 ix) := hcell_of ly rfl
    have y6 : hcell h3 ⟨y, 6, none⟩ = some (.int .i64 e.now) := hcell_of ly rfl
    have c1 : hcell h3 ⟨C, 1, none⟩ = some (.int .i64 R.log.length) := hcell_of I.row rfl
    have c3 : hcell h3 ⟨C, 3, none⟩ = some (.slice aW R.log.length kW) := hcell_of I.row rfl
    have c4 : hcell h3 ⟨C, 4, none⟩ = some (.slice aY R.log.length kY) := hcell_of I.row rfl
    have hne : R.alive k ≠ [] := fun x => by rw [x] at tn3; cases tn3
    have hal : (R.alive k).length <= 64 := by have := aliveTo_len (R := R) (k := k) (i := R.nb); exact Nat.le_trans this hnb
    have hpos : 0 < (R.alive k).length := List.length_pos_iff.2 hne
    have m3 := m.upd I.up
    obtain ⟨bY, eY, cY, -⟩ := slice_at (l := R.rdy) (f := fun (n : Nat) => Value.int .i64 (n : Int)) m3.rdy tn1
    subst eY
    obtain ⟨bW, eW, cW, -⟩ := slice_at (l := R.log.map (·.thr)) (f := fun (n : Nat) => Value.int .i64 (n : Int)) m3.went (k := k) (q := e.thr) (by rw [List.getElem?_map, he]; rfl)
    subst eW
    have hpk := picked_ok (S := NoS (Γ := Γ)) (main := main) (δ := δ2) (went := (R.log.take k).map (·.thr)) m3 I.row sl hne (by omega) (by omega)
    rw [htn2, <- tn2] at hpk
    obtain ⟨aA, kA, eA⟩ := sl.val
    subst eA
    clear sl u3 hne m3
    (repeat (first | refine EK.seq ?_ | refine ER.done ?_ | refine ER.move rfl rfl rfl ?_ | refine ER.assign rfl rfl rfl ?_ | refine ER.extract rfl rfl rfl rfl ?_))
    refine EK.regionAny (fun h' => h' = h3) ?_
    have hZ : h3 = h3 := rfl
    refine EA.tMove 0 rfl (by kernel_rfl) rfl rfl rfl rfl hZ ?_
    refine EA.tMove 1 rfl (by kernel_rfl) rfl rfl rfl rfl hZ ?_
    refine EA.tNil 2 rfl (by kernel_rfl) rfl rfl rfl rfl hZ ?_
    refine EA.tField 3 rfl (by kernel_rfl) rfl rfl rfl rfl hZ ?_
    refine EA.tField 4 rfl (by kernel_rfl) rfl rfl rfl rfl hZ ?_
    refine EA.tLoad 5 rfl (by kernel_rfl) rfl rfl rfl rfl (fun _ hz => (by rw [hz]; exact c1)) hZ ?_
    refine EA.tCmpF 6 rfl (by kernel_rfl) rfl rfl rfl rfl rfl rfl (by first | (dsimp only [cmpP]; omega) | exact rfl | exact Int.le_refl _) hZ ?_
    refine EA.tMove 7 rfl (by kernel_rfl) rfl rfl rfl rfl hZ ?_
    refine EA.tMove 8 rfl (by kernel_rfl) rfl rfl rfl rfl hZ ?_
    refine EA.tLen1 9 rfl (by kernel_rfl) rfl rfl rfl rfl hZ ?_
    refine EA.tCmpF 10 rfl (by kernel_rfl) rfl rfl rfl rfl rfl rfl (by first | (dsimp only [cmpP]; omega) | exact rfl | exact Int.le_refl _) hZ ?_
    refine EA.tPickF 11 rfl (by kernel_rfl) rfl rfl rfl rfl rfl hZ ?_
    refine EA.tMove 12 rfl (by kernel_rfl) rfl rfl rfl rfl hZ ?_
    refine EA.tMove 13 rfl (by kernel_rfl) rfl rfl rfl rfl hZ ?_
    refine EA.tNil 14 rfl (by kernel_rfl) rfl rfl rfl rfl hZ ?_
    refine EA.tField 15 rfl (by kernel_rfl) rfl rfl rfl rfl hZ ?_
    refine EA.tField 16 rfl (by kernel_rfl) rfl rfl rfl rfl hZ ?_
    refine EA.tLoad 17 rfl (by kernel_rfl) rfl rfl rfl rfl (fun _ hz => (by rw [hz]; exact c4)) hZ ?_
    refine EA.tMove 18 rfl (by kernel_rfl) rfl rfl rfl rfl hZ ?_
    refine EA.tIdxS 19 rfl (by kernel_rfl) rfl rfl rfl rfl rfl (by omega) (by omega) hZ ?_
    refine EA.tLoad 20 rfl (by kernel_rfl) rfl rfl rfl rfl (fun _ hz => (by rw [hz]; exact cY)) hZ ?_
    refine EA.tMove 21 rfl (by kernel_rfl) rfl rfl rfl rfl hZ ?_
    refine EA.tLen1 22 rfl (by kernel_rfl) rfl rfl rfl rfl hZ ?_
    refine EA.tCmpF 23 rfl (by kernel_rfl) rfl rfl rfl rfl rfl rfl (by first | (dsimp only [cmpP]; omega) | exact rfl | exact Int.le_refl _) hZ ?_
    refine EA.tPickF 24 rfl (by kernel_rfl) rfl rfl rfl rfl rfl hZ ?_
    refine EA.tMove 25 rfl (by kernel_rfl) rfl rfl rfl rfl hZ ?_
    refine EA.tMove 26 rfl (by kernel_rfl) rfl rfl rfl rfl hZ ?_
    refine EA.tNil 27 rfl (by kernel_rfl) rfl rfl rfl rfl hZ ?_
    refine EA.tField 28 rfl (by kernel_rfl) rfl rfl rfl rfl hZ ?_
    refine EA.tField 29 rfl (by kernel_rfl) rfl rfl rfl rfl hZ ?_
    refine EA.tLoad 30 rfl (by kernel_rfl) rfl rfl rfl rfl (fun _ hz => (by rw [hz]; exact c3)) hZ ?_
    refine EA.tMove 31 rfl (by kernel_rfl) rfl rfl rfl rfl hZ ?_
    refine EA.tIdxS 32 rfl (by kernel_rfl) rfl rfl rfl rfl rfl (by omega) (by omega) hZ ?_
    refine EA.tLoad 33 rfl (by kernel_rfl) rfl rfl rfl rfl (fun _ hz => (by rw [hz]; exact cW)) hZ ?_
    refine EA.tField 34 rfl (by kernel_rfl) rfl rfl rfl rfl hZ ?_
    refine EA.tLoad 35 rfl (by kernel_rfl) rfl rfl rfl rfl (fun _ hz => (by rw [hz]; exact y0)) hZ ?_
    refine EA.tCmpF 36 rfl (by kernel_rfl) rfl rfl rfl rfl rfl rfl (by first | (dsimp only [cmpP]; omega) | exact rfl | exact Int.le_refl _) hZ ?_
    refine EA.tPickF 37 rfl (by kernel_rfl) rfl rfl rfl rfl rfl hZ ?_
    refine EA.tMove 38 rfl (by kernel_rfl) rfl rfl rfl rfl hZ ?_
    refine EA.tField 39 rfl (by kernel_rfl) rfl rfl rfl rfl hZ ?_
    refine EA.tLoad 40 rfl (by kernel_rfl) rfl rfl rfl rfl (fun _ hz => (by rw [hz]; exact y0)) hZ ?_
    refine EA.tMove 41 rfl (by kernel_rfl) rfl rfl rfl rfl hZ ?_
    refine EA.tMove 42 rfl (by kernel_rfl) rfl rfl rfl rfl hZ ?_
    refine EA.tMove 43 rfl (by kernel_rfl) rfl rfl rfl rfl hZ ?_
    refine EA.callD 44 rfl (by kernel_rfl) rfl rfl rfl rfl rfl rfl hpk hZ ?_
    refine EA.tCmpF 45 rfl (by kernel_rfl) rfl rfl rfl rfl rfl rfl (by first | (dsimp only [cmpP]; omega) | exact rfl | exact Int.le_refl _) hZ ?_
    refine EA.tPickF 46 rfl (by kernel_rfl) rfl rfl rfl rfl rfl hZ ?_
    refine EA.done (by kernel_rfl) ?_
    clear hZ hpk cY cW c1 c3 c4 y2 y6
    refine EK.condF rfl (EK.skip ?_)
    (repeat (first | refine EK.seq ?_ | refine EK.region ?_ | refine ER.move rfl rfl rfl ?_ | refine ER.nilCheck rfl rfl rfl ?_ | refine ER.fieldAddr rfl rfl rfl ?_ | refine ER.load1 rfl rfl rfl (hcell_of (by assumption) rfl) ?_))
    refine ER.store1 rfl rfl rfl ⟨nofun, nofun⟩ ⟨_, hcell_of I.row rfl⟩ (hfroz_of I.row) (fun x => x) ?_
    have I2 := I.setLast e.thr
    have ly2 : (hset h3 ⟨C, 11, none⟩ (.int .i64 e.thr))[y]? = some (accO (accL e.thr e.op ix e.arg e.new e.was e.now e.ok)) := by
      rw [hset_ne]
      · exact ly
      · intro hx
        have := I.row
        change C = y at hx
        rw [hx, ly] at this
        injection this with this
        injection this with _ this _
        revert this; decide
    change ER _ _ _ _ _ _ _ _ _ _ (hset h3 ⟨C, 11, none⟩ (.int .i64 e.thr)) _ _
    generalize hset h3 ⟨C, 11, none⟩ (.int .i64 e.thr) = h4 at I2 ly2 ⊢
    clear I ly y0 y1
    have y1 : hcell h4 ⟨y, 1, none⟩ = some (.int .i8 e.op) := hcell_of ly2 rfl
    have y2 : hcell h4 ⟨y, 2, none⟩ = some (.int .i64 ix) := hcell_of ly2 rfl
    have y6 : hcell h4 ⟨y, 6, none⟩ = some (.int .i64 e.now) := hcell_of ly2 rfl
    obtain ⟨xx, hxx⟩ : ∃ xx, cl[ix]? = some xx := ⟨_, List.getElem?_eq_getElem (by omega)⟩
    obtain ⟨bC, eC, cC, fC⟩ := slice_at I2.cel hxx
    subst eC
    have c10 : hcell h4 ⟨C, 10, none⟩ = some (.slice (some ⟨bC, 0, none⟩) (nums R.log).length kC) := hcell_of I2.row rfl
    (repeat (first | refine EK.seq ?_ | refine EK.region ?_ | refine ER.done ?_ | refine EK.skip ?_ | refine ER.move rfl rfl rfl ?_ | refine ER.assign rfl rfl rfl ?_ | refine ER.fieldAddr rfl rfl rfl ?_ | refine ER.load1 rfl rfl rfl (hcell_of (by assumption) rfl) ?_ | refine ER.no rfl rfl ?_ | refine ER.pickF rfl rfl rfl rfl ?_ | refine ER.cmpT rfl rfl rfl rfl rfl (by first | (dsimp only [cmpP]; omega) | exact rfl | exact Int.le_refl _) ?_ | refine ER.cmpF rfl rfl rfl rfl rfl (by first | (dsimp only [cmpP]; omega) | exact rfl | exact Int.le_refl _) ?_ | refine ER.add (kd := .i64) rfl rfl rfl rfl (i64_in (by omega) (by omega)) ?_ | refine EK.condT rfl ?_ | refine EK.condF rfl ?_))
    refine EK.regionAnyL (fun h' => h' = h4) 9 ?_
    have hZ : h4 = h4 := rfl
    refine EA.tMove 0 rfl (by kernel_rfl) rfl rfl rfl rfl hZ ?_
    refine EA.tNil 1 rfl (by kernel_rfl) rfl rfl rfl rfl hZ ?_
    refine EA.tField 2 rfl (by kernel_rfl) rfl rfl rfl rfl hZ ?_
    refine EA.tLoad 3 rfl (by kernel_rfl) rfl rfl rfl rfl (fun _ hz => (by rw [hz]; exact c10)) hZ ?_
    refine EA.tField 4 rfl (by kernel_rfl) rfl rfl rfl rfl hZ ?_
    refine EA.tLoad 5 rfl (by kernel_rfl) rfl rfl rfl rfl (fun _ hz => (by rw [hz]; exact y2)) hZ ?_
    refine EA.tField 6 rfl (by kernel_rfl) rfl rfl rfl rfl hZ ?_
    refine EA.tLoad 7 rfl (by kernel_rfl) rfl rfl rfl rfl (fun _ hz => (by rw [hz]; exact y6)) hZ ?_
    refine EA.val 8 rfl (by kernel_rfl) rfl rfl rfl (fun ρ Q X hρ hq => sem_indexSl (hρ _ _ rfl) (hρ _ _ rfl) (by omega) (by omega) hq) hZ ?_
    refine EA.unitL (h' := hset h4 ⟨bC, 0 + ix * 1, none⟩ (.int .i64 e.now)) 9 rfl (by kernel_rfl) rfl rfl rfl (fun ρ Q X hρ hq => sem_store1 (hρ _ _ rfl) (hρ _ _ rfl) ⟨nofun, nofun⟩ ⟨_, cC⟩ (fC _) (fun x => x) hq) ?_
    refine EA.done (by kernel_rfl) ?_
    have I3 := (hcl ▸ I2).setC (i := ix) (by omega) e.now
    rw [hcl] at I3
    (repeat (first | refine EK.region ?_ | refine ER.done ?_ | refine EK.inBlock ?_ | refine ER.move rfl rfl rfl ?_ | refine ER.assign rfl rfl rfl ?_ | refine ER.add (kd := .i64) rfl rfl rfl rfl (i64_in (by omega) (by omega)) ?_))
    refine EK.back (again (k + 1, thr, cl.set ix e.now) _ _ (by dsimp only; omega) ⟨by dsimp only; omega, rfl, hl, by dsimp only; rw [List.length_set]; exact hcl, ti.mono (by omega), by dsimp only; rw [lastOf_take he]; exact I3⟩) ⟨rfl, rfl, rfl, trivial⟩
  · obtain rfl : k = R.log.length := by omega
    clear again
    (repeat (first | refine EK.seq ?_ | refine EK.region ?_ | refine ER.done ?_ | refine ER.move rfl rfl rfl ?_ | refine ER.nilCheck rfl rfl rfl ?_ | refine ER.fieldAddr rfl rfl rfl ?_ | refine ER.cmpF rfl rfl rfl rfl rfl (by first | (dsimp only [cmpP]; omega) | exact rfl | exact Int.le_refl _) ?_ | refine ER.len1 rfl rfl rfl ?_ | refine EK.condF rfl ?_ | refine EK.exit rfl ?_ | refine ER.load1 rfl rfl rfl (by assumption) ?_))
    refine ER.callR rfl rfl rfl rfl rfl (able_ok ok m I hl hcl ti (Nat.le_refl _)) ?_
    clear I ti hl thr c2
    rintro _ h3 δ2 ⟨rfl, thr, lv, rfl, sl, hl, ti, I, u3⟩
    have hae : (R.alive R.log.length).length = R.left.length := by rw [ok.alive_end, List.length_map]
    rw [hae] at sl ⊢
    obtain ⟨aA, kA, eA⟩ := sl.val
    subst eA
    have c0 : hcell h3 ⟨C, 0, none⟩ = some (.int .i8 R.e) := hcell_of I.row rfl
    have c1 : hcell h3 ⟨C, 1, none⟩ = some (.int .i64 R.log.length) := hcell_of I.row rfl
    have c5 : hcell h3 ⟨C, 5, none⟩ = some (.slice aV R.left.length kV) := hcell_of I.row rfl
    have c8 : hcell h3 ⟨C, 8, none⟩ = some (.int .i64 R.most) := hcell_of I.row rfl
    rcases ok.how with ⟨w1, w2⟩ | ⟨w1, w2, w3⟩
    · have w3 : R.left.length = 0 := by rw [w2]; rfl
      rw [w1] at c0
      (repeat (first | refine EK.seq ?_ | refine EK.region ?_ | refine ER.done ?_ | refine ER.move rfl rfl rfl ?_ | refine ER.assign rfl rfl rfl ?_ | refine ER.nilCheck rfl rfl rfl ?_ | refine ER.fieldAddr rfl rfl rfl ?_ | refine ER.no rfl rfl ?_ | refine ER.pickT rfl rfl rfl rfl ?_ | refine ER.extract rfl rfl rfl rfl ?_ | refine ER.cmpT rfl rfl rfl rfl rfl (by first | (dsimp only [cmpP]; omega) | exact rfl | exact Int.le_refl _) ?_ | refine ER.len1 rfl rfl rfl ?_ | refine EK.condT rfl ?_ | refine EK.ret ?_ | refine ER.load1 rfl rfl rfl (by assumption) ?_))
      exact EU.ret1 rfl rfl ⟨rfl, rfl, I.up⟩
    · have w4 : 0 < R.left.length := List.length_pos_iff.2 w2
      rw [w1] at c0
      (repeat (first | refine EK.seq ?_ | refine EK.region ?_ | refine ER.done ?_ | refine EK.skip ?_ | refine ER.move rfl rfl rfl ?_ | refine ER.assign rfl rfl rfl ?_ | refine ER.nilCheck rfl rfl rfl ?_ | refine ER.fieldAddr rfl rfl rfl ?_ | refine ER.pickT rfl rfl rfl rfl ?_ | refine ER.pickF rfl rfl rfl rfl ?_ | refine ER.extract rfl rfl rfl rfl ?_ | refine ER.cmpT rfl rfl rfl rfl rfl (by first | (dsimp only [cmpP]; omega) | exact rfl | exact Int.le_refl _) ?_ | refine ER.cmpF rfl rfl rfl rfl rfl (by first | (dsimp only [cmpP]; omega) | exact rfl | exact Int.le_refl _) ?_ | refine ER.len1 rfl rfl rfl ?_ | refine EK.condF rfl ?_ | refine EK.ret ?_ | refine ER.load1 rfl rfl rfl (by assumption) ?_))
      exact EU.ret1 rfl rfl ⟨rfl, rfl, I.up⟩
end
end
section
open Go Go.TJ Go.Conc Go.Proofs
theorem sem_boxB {Γ : Type} {P : Program} {S : Sit Γ} {h : Hp} {δ : Ix Γ} {ty : TypeId} {pos : String} {af : Array Edge} {g : Option (Nat × Bool)} {t : TypeId} {x : Operand} {cs : Array Value} {ρ : Operand -> Value} {dst : Option Nat} {Q : Next -> Hp -> Ix Γ -> Prop} {X : Value -> Hp -> Ix Γ -> Prop} (hx : ρ x = .agg cs)
    (hq : Q (.value (.pointer (some ⟨h.size, 0, none⟩))) (h.push (.cells cs t)) δ) : SemW P S (execOp ρ ⟨dst, .box t x, ty, pos, af, g⟩) h δ Q X := by
  show SemW P S (Instr.box t (ρ x) >>= fun v => pure (.value v)) h δ Q X
  rw [hx]
  exact ⟨thawed, hq⟩
section
variable {Γ : Type} {main : Bool} {S : Sit Γ} {δ : Ix Γ} {h h' h0 : Hp} {R : Rec} {picks : List Int} {lL lW lY lV sP tv cv : Value} {X : Us}
theorem ChkI.appT {C : Nat} {thr : List Nat} {cl : List Int} {last : Int} {s' : Value} {h1 : Hp} (I : ChkI R lL lW lY lV sP h0 C tv cv last thr cl h) (u : Upd (fun b => blk tv = some b) h h1) (sl : SliceO h1 s' 3 1 (thr.length + 1) ((thr.map fun (n : Nat) => Value.int .i64 (n : Int)) ++ [.int .i64 0])) (hb : ∀ b, blk s' = some b -> blk tv = some b \/ h.size <= b) :
    ChkI R lL lW lY lV sP h0 C s' cv last (thr ++ [0]) cl (hset h1 ⟨C, 9, none⟩ s') := by
  have o1 := u.get I.row (fun hx => sliceO_ne I.thr I.row (by decide) C hx rfl)
  have e1 : hset h1 ⟨C, 9, none⟩ s' = h1.setIfInBounds C (chkO R.e R.log.length lL lW lY lV sP R.most s' cv last) := hset_block o1 _
  rw [e1]
  have uW : Upd (fun b => b = C) h1 (h1.setIfInBounds C (chkO R.e R.log.length lL lW lY lV sP R.most s' cv last)) := Upd.set _ _ _ rfl
  have hCl := lt_of_get I.row
  have nC := I.nC
  refine ⟨(I.up.over u (fun b hbb => I.nt b hbb)).over uW (fun b e => by omega), get_set_same o1, ?_, (I.cel.upd u (fun b hbb hx => sliceO_two I.cel I.thr (by decide) b hbb hx)).upd uW (sliceO_ne I.cel I.row (by decide)), I.nC, fun b hbb => (hb b hbb).elim (I.nt b) (fun y => Nat.le_trans I.up.size y), I.nc⟩
  have := sl.upd uW (fun b hbb => (hb b hbb).elim (sliceO_ne I.thr I.row (by decide) b) (fun y => by omega))
  rw [List.map_append, List.length_append]
  exact this
set_option maxHeartbeats 8000000 in
set_option maxRecDepth 8000 in
theorem checked_ok (ok : RecOk X picks R) (m : RecM R picks lL lW lY lV sP h) :
    CallW Try.prog main (NoS (Γ := Γ)) 19 #[.agg (repL R.e R.log.length lL lW lY lV).toArray, .int .i64 R.nb, sP, .int .i64 R.most] h δ (Ret fun v h' δ' => δ' = δ /\ v = .bool true /\ Upd (fun _ => False) h h') := by
  have hlen := ok.len
  have hmost := ok.most
  have hnb := ok.nb
  obtain ⟨aP, kP, eP⟩ := m.picks.val
  rw [List.length_map] at eP
  subst eP
  refine CallW.start (n := 41) rfl rfl ?_
  (repeat (first | refine EK.seq ?_ | refine EK.region ?_ | refine ER.done ?_ | refine ER.assign rfl rfl rfl ?_ | refine ER.boxA rfl rfl rfl ?_))
  have u0 : Upd (fun _ => False) h (h.push (.cells (repL R.e R.log.length lL lW lY lV).toArray 49)) := Upd.push _ _
  have g0 : (h.push (.cells (repL R.e R.log.length lL lW lY lV).toArray 49))[h.size]? = some (.cells (repL R.e R.log.length lL lW lY lV).toArray 49 (0, 0)) := get_push_new _ _
  generalize h.push (.cells (repL R.e R.log.length lL lW lY lV).toArray 49) = h1 at u0 g0 ⊢
  have hr1 : hrow h1 h.size 0 (repL R.e R.log.length lL lW lY lV) := hrow_block (rest := []) (by rw [List.append_nil]; exact g0)
  refine EK.regionAny (fun h' => TJ.hrow h' h.size 0 (repL R.e R.log.length lL lW lY lV)) ?_
  have hZ : TJ.hrow h1 h.size 0 (repL R.e R.log.length lL lW lY lV) := hr1
  refine EA.tLoadN (vs := repL R.e R.log.length lL lW lY lV) 0 rfl (by kernel_rfl) rfl rfl rfl rfl rfl (fun _ hz => hz) hZ ?_
  refine EA.tMove 1 rfl (by kernel_rfl) rfl rfl rfl rfl hZ ?_
  refine EA.tMove 2 rfl (by kernel_rfl) rfl rfl rfl rfl hZ ?_
  refine EA.callD 3 rfl (by kernel_rfl) rfl rfl rfl rfl rfl rfl (turns_ok hmost) hZ ?_
  refine EA.val (v := .agg (chkL R.e R.log.length lL lW lY lV (.slice aP picks.length kP) R.most nilS nilS (-1)).toArray) (h' := h1) 4 rfl (by kernel_rfl) rfl rfl rfl (fun ρ Q X hρ hq => sem_buildS hρ (by rfl) (by kernel_rfl) hq) hZ ?_
  refine EA.val (v := ptr h1.size) (h' := h1.push (chkO R.e R.log.length lL lW lY lV (.slice aP picks.length kP) R.most nilS nilS (-1))) 5 rfl (by kernel_rfl) rfl rfl rfl (fun ρ Q X hρ hq => sem_boxB (hρ _ _ rfl) hq) (fun j v hv => hcell_push (hr1 j v hv)) ?_
  have up := Upd.push (T := fun _ => False) h1 (chkO R.e R.log.length lL lW lY lV (.slice aP picks.length kP) R.most nilS nilS (-1))
  have hZ : TJ.hrow (h1.push (chkO R.e R.log.length lL lW lY lV (.slice aP picks.length kP) R.most nilS nilS (-1))) h.size 0 (repL R.e R.log.length lL lW lY lV) := fun j v hv => up.hcell (hr1 j v hv) (fun x => x)
  refine EA.tAssign 6 rfl (by kernel_rfl) rfl rfl rfl rfl hZ ?_
  refine EA.done (by kernel_rfl) ?_
  obtain ⟨C, hC⟩ : ∃ C, C = h1.size := ⟨_, rfl⟩
  have h10 : h.size <= C := by rw [hC]; exact u0.size
  (repeat (first | refine EK.seq ?_ | refine EK.region ?_ | refine ER.done ?_ | refine EK.block ?_ | refine ER.assign rfl rfl rfl ?_))
  refine EK.gen (fun h' => ChkI R lL lW lY lV (.slice aP picks.length kP) h C nilS nilS (-1) [] [] h') ⟨u0.trans up, by rw [hC]; exact get_push_new _ _, SliceO.nil, SliceO.nil, h10, fun b hb => (by cases hb), fun b hb => (by cases hb)⟩ ?_
  rw [<- hC]
  clear hZ hr1 g0 u0 up hC
  intro h2 I
  refine EK.loopInv (fun q : Nat × Value => [(10, .int .i64 q.1), (9, ptr C), (1, .int .i64 R.nb), (8, .bool false)]) (fun q h' δ' => δ' = δ /\ q.1 <= R.nb /\ ChkI R lL lW lY lV (.slice aP picks.length kP) h C q.2 nilS (-1) (List.replicate q.1 0) [] h') (fun q => R.nb - q.1) (0, nilS) ⟨rfl, rfl, rfl, rfl, trivial⟩ ⟨rfl, Nat.zero_le _, I⟩ ?_
  clear I h2
  rintro ⟨k, tv⟩ h2 δ2 ⟨hδ, hk, I⟩ again
  dsimp only at hδ hk I again ⊢
  subst hδ
  by_cases hin : k < R.nb
  · obtain ⟨aT, kT, eT⟩ := I.thr.val
    rw [List.length_replicate] at eT
    subst eT
    have c9 : hcell h2 ⟨C, 9, none⟩ = some (.slice aT k kT) := hcell_of I.row rfl
    (repeat (first | refine EK.seq ?_ | refine EK.region ?_ | refine ER.done ?_ | refine EK.skip ?_ | refine EK.block ?_ | refine ER.move rfl rfl rfl ?_ | refine ER.nilCheck rfl rfl rfl ?_ | refine ER.fieldAddr rfl rfl rfl ?_ | refine ER.cmpT rfl rfl rfl rfl rfl (by first | (dsimp only [cmpP]; omega) | exact rfl | exact Int.le_refl _) ?_ | refine EK.condT rfl ?_ | refine ER.load1 rfl rfl rfl (by assumption) ?_))
    refine ER.slice1 (sz := 1) (z := .int .i64 0) (cells := #[.int .i64 0]) rfl rfl rfl (by omega) (by omega) rfl rfl ?_
    have I1 := I.upd0 (Upd.push h2 (.cells #[.int .i64 0] 3))
    have sl1 := I1.thr
    rw [List.length_replicate] at sl1
    refine ER.append1 (new := [.int .i64 0]) rfl rfl rfl rfl sl1 (get_push_new _ _) rfl (by simp [OneCell]) (by omega) (by omega) (by rfl) (fun _ _ _ x => x) ?_
    generalize h2.push (.cells #[.int .i64 0] 3) = h3 at I1 sl1 ⊢
    intro s4 h4 sl4 u4 hb4
    have I2 := I1.appT u4 (by rw [List.length_replicate]; exact sl4) (fun b hb => (hb4 b hb).imp id (fun e => Nat.le_of_eq e.symm))
    have o5 : ∃ v, hcell h4 ⟨C, 0 + 9, none⟩ = some v /\ hfroz h4 ⟨C, 0 + 9, none⟩ = false := by
      have o1 := u4.get I1.row (fun hx => sliceO_ne I1.thr I1.row (by decide) C hx rfl)
      exact ⟨_, hcell_of o1 rfl, hfroz_of o1⟩
    obtain ⟨v5, o5, f5⟩ := o5
    obtain ⟨a4, k4, e4⟩ := sl4.val
    (repeat (first | refine ER.nilCheck rfl rfl rfl ?_ | refine ER.fieldAddr rfl rfl rfl ?_))
    refine ER.store1 rfl rfl rfl (by rw [e4]; exact ⟨nofun, nofun⟩) ⟨_, o5⟩ f5 (fun x => x) ?_
    change ER _ _ _ _ _ _ _ _ _ _ (hset h4 ⟨C, 9, none⟩ s4) _ _
    generalize hset h4 ⟨C, 9, none⟩ s4 = h5 at I2 ⊢
    clear o5 f5 sl4 u4 hb4 I1 sl1 I c9
    (repeat (first | refine EK.region ?_ | refine ER.done ?_ | refine EK.inBlock ?_ | refine ER.move rfl rfl rfl ?_ | refine ER.assign rfl rfl rfl ?_ | refine ER.add (kd := .i64) rfl rfl rfl rfl (i64_in (by omega) (by omega)) ?_))
    exact EK.back (again (k + 1, s4) _ _ (by dsimp only; omega) ⟨rfl, by dsimp only; omega, by dsimp only; rw [List.replicate_succ']; exact I2⟩) ⟨rfl, rfl, rfl, rfl, trivial⟩
  · obtain rfl : k = R.nb := by omega
    clear again hin
    have m2 := m.upd I.up
    (repeat (first | refine EK.seq ?_ | refine EK.region ?_ | refine ER.done ?_ | refine ER.move rfl rfl rfl ?_ | refine ER.cmpF rfl rfl rfl rfl rfl (by first | (dsimp only [cmpP]; omega) | exact rfl | exact Int.le_refl _) ?_ | refine EK.condF rfl ?_ | refine EK.exit rfl ?_))
    refine ER.callR rfl rfl rfl rfl rfl (memory_ok ok m2 I.row (fun hp b hb e => by
      have := m.picks.lt (fun e => hp (List.map_eq_nil_iff.1 e)) b hb
      omega)) ?_
    rintro _ h3 δ3 ⟨rfl, rfl, cv, row3, u3, sl3, nb3⟩
    have I3 : ChkI R lL lW lY lV (.slice aP picks.length kP) h C tv cv (-1) (List.replicate R.nb 0) ((nums R.log).map R.v0) h3 := by
      refine ⟨I.up.over u3 (fun b e => by omega), row3, I.thr.upd u3 (sliceO_ne I.thr I.row (by decide)), ?_, I.nC, I.nt, fun b hb => Nat.le_trans I.up.size (nb3 b hb)⟩
      rw [List.length_map, List.map_map]
      exact sl3
    clear I row3 u3 sl3 nb3 m2
    have m3 := m.upd I3.up
    (repeat (first | refine ER.move rfl rfl rfl ?_ | refine ER.notB rfl rfl rfl ?_))
    refine ER.callD rfl rfl rfl rfl rfl (shape_ok ok m3 I3.row) ?_
    (repeat (first | refine EK.seq ?_ | refine EK.region ?_ | refine ER.done ?_ | refine EK.skip ?_ | refine ER.move rfl rfl rfl ?_ | refine ER.notB rfl rfl rfl ?_ | refine ER.pickF rfl rfl rfl rfl ?_ | refine EK.condF rfl ?_))
    refine ER.callR rfl rfl rfl rfl rfl (turns_all ok m I3 (by rw [List.length_replicate]) (by rw [List.length_map]) (fun j t ht => by
      have : t = 0 := List.eq_of_mem_replicate (List.mem_of_getElem? ht)
      subst this
      exact ⟨Nat.zero_le _, fun i e h1 h2 => by omega⟩)) ?_
    rintro _ h4 δ4 ⟨rfl, rfl, u4⟩
    (repeat (first | refine ER.done ?_ | refine ER.assign rfl rfl rfl ?_ | refine EK.ret ?_))
    exact EU.ret1 rfl rfl ⟨rfl, rfl, u4⟩
end
end
end Go.Proofs.Ytcpcdnkemobneaa
