/- Steps of the walk and of the plain law (WkE to WkK). Conditions: as each lemma says. -/
import Derived.Test.YtcpcdnkemobneaaSPE
section
namespace Go.Proofs.Ytcpcdnkemobneaa
open Go Go.TJ Go.Conc Go.Proofs
structure WC (X : Us) (picks : List Int) (R : Rec) (nm : Nat → Nme) (lL lW lY lV sP : Value) (h0 : Hp) (s : WS) : Prop where
  ok : RecOk X picks R
  m : RecM R picks lL lW lY lV sP h0
  inj : ∀ b b', X.isC b → X.isC b' → nm b = nm b' → b = b'
  beg : ∀ b, X.isC b → lookN s.hs (nm b) = R.v0 b
  hsl : s.hs.length ≤ 5000
def WAll (R : Rec) (nm : Nat → Nme) (lL lW lY lV : Value) (h0 : Hp) (W : Nat) (s : WS) (h : Hp) : Prop := ∃ q, WkI R nm lL lW lY lV h0 W ((nums R.log).map R.v0) { s with q := q } h ∧ Named R nm q
def WT (s : WS) (x b : Nat) : Prop := b = x ∨ blk s.nv = some b ∨ blk s.gv = some b
structure WIn (R : Rec) (nm : Nat → Nme) (lL lW lY lV : Value) (h0 : Hp) (W : Nat) (s : WS) {A : Type} (pf : Pr A) (x i : Nat) (p : Pr A) (l : List Ev) (o : List A) (h : Hp) : Prop where
  all : WAll R nm lL lW lY lV h0 W s h
  at_ : WAt R pf x W i p l o h
  x0 : h0.size ≤ x
structure WOu (R : Rec) (nm : Nat → Nme) (lL lW lY lV : Value) (h0 : Hp) (W : Nat) (s : WS) (x i : Nat) (h : Hp) : Prop where
  all : WAll R nm lL lW lY lV h0 W s h
  out : WOut R x W i h
  x0 : h0.size ≤ x
section
variable {Γ : Type} {main : Bool} {S : Sit Γ} {δ : Ix Γ} {R : Rec} {nm : Nat → Nme} {lL lW lY lV sP : Value} {h0 h h' : Hp} {W x i t : Nat} {s : WS} {picks : List Int} {X : Us} {A : Type} {pf p : Pr A} {r : Rq} {k : Int → Pr A} {l : List Ev} {o : List A}
theorem WAll.upd0 (a : WAll R nm lL lW lY lV h0 W s h) (u : Upd (fun _ => False) h h') : WAll R nm lL lW lY lV h0 W s h' := by
  obtain ⟨q, I, N⟩ := a
  exact ⟨q, I.upd0 u, N⟩
theorem WIn.upd0 (w : WIn R nm lL lW lY lV h0 W s pf x i p l o h) (u : Upd (fun _ => False) h h') : WIn R nm lL lW lY lV h0 W s pf x i p l o h' := by
  obtain ⟨a, ⟨⟨t, h1, h2, h3⟩, g⟩, x0⟩ := w
  exact ⟨a.upd0 u, ⟨⟨t, h1, h2, u.get h3 (fun x => x)⟩, g⟩, x0⟩
theorem WOu.upd0 (w : WOu R nm lL lW lY lV h0 W s x i h) (u : Upd (fun _ => False) h h') : WOu R nm lL lW lY lV h0 W s x i h' := by
  obtain ⟨a, ⟨⟨t, h1, h2, h3⟩, g⟩, x0⟩ := w
  exact ⟨a.upd0 u, ⟨⟨t, h1, h2, u.get h3 (fun x => x)⟩, g⟩, x0⟩
theorem WAll.lt (a : WAll R nm lL lW lY lV h0 W s h) : ∀ b, blk s.nv = some b ∨ blk s.gv = some b → b < h.size := by
  obtain ⟨q, I, N⟩ := a
  exact fun b hb => hb.elim I.nms.lt I.giv.lt
theorem WAll.ge (a : WAll R nm lL lW lY lV h0 W s h) : ∀ b, blk s.nv = some b ∨ blk s.gv = some b → h0.size ≤ b := by
  obtain ⟨q, I, N⟩ := a
  exact fun b hb => hb.elim (I.n1 b) (I.n2 b)
theorem WIn.wt (w : WIn R nm lL lW lY lV h0 W s pf x i p l o h) : ∀ b, WT s x b → h0.size ≤ b ∧ b < h.size := by
  obtain ⟨t, h1, h2, h3⟩ := w.at_.at_
  rintro b (rfl | hb)
  · exact ⟨w.x0, lt_of_get h3⟩
  · exact ⟨w.all.ge b hb, w.all.lt b hb⟩
theorem WOu.wt (w : WOu R nm lL lW lY lV h0 W s x i h) : ∀ b, WT s x b → h0.size ≤ b ∧ b < h.size := by
  obtain ⟨t, h1, h2, h3⟩ := w.out.at_
  rintro b (rfl | hb)
  · exact ⟨w.x0, lt_of_get h3⟩
  · exact ⟨w.all.ge b hb, w.all.lt b hb⟩
theorem WIn.cases (w : WIn R nm lL lW lY lV h0 W s pf x i (.step r k) l o h) : (∃ v l', l = evOf i r v :: l' ∧ Goes i (k v) l' o pf) ∨ (l = [] ∧ o = [] ∧ pf = .step r k) := by
  have g := w.at_.goes
  generalize hp : Pr.step r k = p at g
  cases g with
  | nil => exact .inr ⟨rfl, rfl, rfl⟩
  | emit => cases hp
  | step v g =>
    injection hp with h1 h2
    subst h1 h2
    exact .inl ⟨v, _, rfl, g⟩
theorem does_out {op : Int} {n : Nme} {a c : Value} (hx : h[x]? = some (wrO W i true t)) :
    CallW Try.prog main (NoS (Γ := Γ)) 154 #[ptr x, .int .i8 op, nmeV n, a, c] h δ (Ret fun v h' δ' => δ' = δ ∧ v = .agg acc0.toArray ∧ Upd (fun _ => False) h h') := by
  refine CallW.start (n := 122) rfl rfl ?_
  (repeat (first | refine EK.seq ?_ | refine EK.region ?_ | refine ER.done ?_ | refine ER.move rfl rfl rfl ?_ | refine ER.nilCheck rfl rfl rfl ?_ | refine ER.fieldAddr rfl rfl rfl ?_ | refine ER.boxA rfl rfl rfl ?_ | refine ER.allocA rfl rfl ?_))
  simp only [Array.size_push]
  have u0 : Upd (fun _ => False) h ((h.push (nmeO n)).push (accO acc0)) := (Upd.push _ _).trans (Upd.push _ _)
  have gx : ((h.push (nmeO n)).push (accO acc0))[x]? = some (wrO W i true t) := get_push _ (get_push _ hx)
  have gy : ((h.push (nmeO n)).push (accO acc0))[h.size + 1]? = some (accO acc0) := by
    have := get_push_new (h.push (nmeO n)) (accO acc0)
    rwa [Array.size_push] at this
  refine ER.gen (fun h' => Upd (fun _ => False) h h' ∧ h'[x]? = some (wrO W i true t) ∧ h'[h.size + 1]? = some (accO acc0)) ⟨u0, gx, gy⟩ ?_
  clear u0 gx gy
  rintro h1 ⟨u0, gx, gy⟩
  have x2 : hcell h1 ⟨x, 2, none⟩ = some (.bool true) := hcell_of gx rfl
  (repeat (first | refine EK.seq ?_ | refine EK.region ?_ | refine ER.done ?_ | refine ER.load1 rfl rfl rfl (hcell_of (by assumption) rfl) ?_ | refine EK.condT rfl ?_))
  refine ER.buildS (cells := acc0.toArray) rfl rfl (by rfl) rfl ?_
  refine ER.storeN (vs := acc0) rfl rfl rfl rfl (by simp [accL, OneCell]) (acc_all rfl gy) ?_
  rw [row_set (c := acc0) (vs := acc0) gy rfl]
  (repeat (first | refine ER.done ?_ | refine EK.ret ?_))
  exact EU.retCell1 (vs := acc0) rfl rfl rfl (hrow_block (rest := []) (by rw [List.append_nil]; exact get_set_same gy)) ⟨rfl, rfl, upd_then u0 (Upd.set (T := fun b => b = h.size + 1) _ _ _ rfl) (fun b hb e => by omega)⟩
end
end Go.Proofs.Ytcpcdnkemobneaa
end
section
namespace Go.Proofs.Ytcpcdnkemobneaa
open Go Go.TJ Go.Conc Go.Proofs
section
variable {Γ : Type} {main : Bool} {S : Sit Γ} {δ : Ix Γ} {R : Rec} {nm : Nat → Nme} {lL lW lY lV sP : Value} {h0 h h' : Hp} {W x i t : Nat} {s : WS} {picks : List Int} {X : Us} {A : Type} {pf p : Pr A} {r : Rq} {k : Int → Pr A} {l : List Ev} {o : List A}
theorem WC.log_at (C : WC X picks R nm lL lW lY lV sP h0 s) {e : Ev} (he : e ∈ R.log) : X.isC e.b ∧ (nums R.log)[(nums R.log).idxOf e.b]? = some e.b := by
  obtain ⟨k, hk, rfl⟩ := List.mem_iff_getElem.1 he
  have hk' := List.getElem?_eq_getElem hk
  obtain ⟨w, i, r, _, hr, e1, _⟩ := C.ok.chain.inv hk'
  refine ⟨by rw [e1]; exact hr.cell, ?_⟩
  have hm : (R.log[k]).b ∈ nums R.log := (nums_mem _ _).2 ⟨_, he, rfl⟩
  have hlt := List.idxOf_lt_length_iff.2 hm
  rw [List.getElem?_eq_getElem hlt]
  simp
theorem RecOk.left_uniq (ok : RecOk X picks R) {q q' : Nat × Rq} (h : q ∈ R.left) (h' : q' ∈ R.left) (e : q.1 = q'.1) : q = q' := by
  obtain ⟨j, hj, rfl⟩ := List.mem_iff_getElem.1 h
  obtain ⟨j', hj', rfl⟩ := List.mem_iff_getElem.1 h'
  have hp := List.pairwise_iff_getElem.1 ok.rise
  rcases Nat.lt_trichotomy j j' with y | y | y
  · have := hp j j' hj hj' y; omega
  · subst y; rfl
  · have := hp j' j hj' hj y; omega
set_option maxHeartbeats 16000000 in
set_option maxRecDepth 8000 in
theorem does_ok (C : WC X picks R nm lL lW lY lV sP h0 s) (hpf : PF R i pf) (w : WIn R nm lL lW lY lV h0 W s pf x i (.step r k) l o h) {n : Nme} (hn : n = nm r.b) :
    CallW Try.prog main (NoS (Γ := Γ)) 154 #[ptr x, .int .i8 r.op, nmeV n, .int .i64 r.arg, .int .i64 r.new] h δ (Ret fun v h' δ' => δ' = δ ∧ Upd (WT s x) h h' ∧ ((∃ w l', l = evOf i r w :: l' ∧ v = .agg (entL (nums R.log) (evOf i r w)).toArray ∧ WIn R nm lL lW lY lV h0 W s pf x i (k w) l' o h') ∨ (o = [] ∧ v = .agg acc0.toArray ∧ WOu R nm lL lW lY lV h0 W s x i h'))) := by
  subst hn
  have hlen : R.log.length ≤ 65536 := Nat.le_trans C.ok.len C.ok.most
  have hnl := Nat.le_trans (nums_len R.log) hlen
  have hll := C.ok.left_len
  have wcases := w.cases
  have wt := w.wt
  obtain ⟨op, b, arg, new⟩ := r
  obtain ⟨⟨q, I, N⟩, ⟨⟨t, ht, hl, hx⟩, -⟩, hx0⟩ := w
  dsimp only
  have u0 : Upd (fun _ => False) h ((h.push (nmeO (nm b))).push (accO acc0)) := (Upd.push _ _).trans (Upd.push _ _)
  obtain ⟨yN, hyN⟩ : ∃ yN, yN = h.size := ⟨_, rfl⟩
  obtain ⟨y, hy⟩ : ∃ y, y = h.size + 1 := ⟨_, rfl⟩
  have gN : ((h.push (nmeO (nm b))).push (accO acc0))[yN]? = some (nmeO (nm b)) := by rw [hyN]; exact get_push _ (get_push_new _ _)
  have gy : ((h.push (nmeO (nm b))).push (accO acc0))[y]? = some (accO acc0) := by
    have := get_push_new (h.push (nmeO (nm b))) (accO acc0)
    rw [Array.size_push] at this
    rw [hy]; exact this
  refine CallW.start (n := 122) rfl rfl ?_
  (repeat (first | refine EK.seq ?_ | refine EK.region ?_ | refine ER.done ?_ | refine ER.move rfl rfl rfl ?_ | refine ER.nilCheck rfl rfl rfl ?_ | refine ER.fieldAddr rfl rfl rfl ?_ | refine ER.boxA rfl rfl rfl ?_ | refine ER.allocA rfl rfl ?_))
  simp only [Array.size_push]
  refine ER.gen (fun h' => WkI R nm lL lW lY lV h0 W ((nums R.log).map R.v0) { s with q := q } h' ∧ Upd (fun _ => False) h h' ∧ h'[x]? = some (wrO W i false t) ∧ h'[yN]? = some (nmeO (nm b)) ∧ h'[y]? = some (accO acc0)) ⟨I.upd0 u0, u0, get_push _ (get_push _ hx), gN, gy⟩ ?_
  rw [← hy, ← hyN]
  have hxl := lt_of_get hx
  have h00 := I.up.size
  have nT : ∀ c, (blk s.nv = some c ∨ blk s.gv = some c) → c < h.size := fun c hc => (wt c (.inr hc)).2
  clear I hx gN gy u0
  rintro h1 ⟨I, u1, hx, gN, gy⟩
  have x2 : hcell h1 ⟨x, 2, none⟩ = some (.bool false) := hcell_of hx rfl
  have hs1 := u1.size
  (repeat (first | refine EK.seq ?_ | refine EK.region ?_ | refine ER.done ?_ | refine EK.skip ?_ | refine ER.move rfl rfl rfl ?_ | refine ER.load1 rfl rfl rfl (hcell_of (by assumption) rfl) ?_ | refine EK.condF rfl ?_))
  refine ER.callR rfl rfl rfl rfl rfl (wnext_ok C.m hlen I hx hx0 ht) ?_
  clear I hx x2
  rintro _ h2 δ2 ⟨rfl, t2, ht2, hx, I, u2, hc⟩
  replace gN := u2.get gN (by omega)
  replace gy := u2.get gy (by omega)
  have hs2 := u2.size
  have hgy := lt_of_get gy
  have uu : Upd (WT s x) h h2 := upd_then (u1.mono (fun _ _ z => z.elim)) u2 (fun c _ hc => .inl hc)
  clear u1 u2
  rcases hc with ⟨e, ho, he, rfl⟩ | ⟨ho, ho2, rfl⟩
  · obtain ⟨w', l', e1, gk⟩ : ∃ v l', ownFrom R i t2 = l' ∧ e = evOf i ⟨op, b, arg, new⟩ v ∧ l = e :: l' ∧ Goes i (k v) l' o pf := by
      rw [hl] at ho
      rcases wcases with ⟨v, l', e1, g⟩ | ⟨e1, -, -⟩
      · rw [ho] at e1
        injection e1 with e1 e2
        exact ⟨v, l', e2, e1, by rw [ho, e2], g⟩
      · rw [ho] at e1; cases e1
    obtain ⟨e2, e3, gk⟩ := gk
    subst e2
    obtain ⟨hbc, hb⟩ := C.log_at he
    change X.isC b at hbc
    change (nums R.log)[(nums R.log).idxOf b]? = some b at hb
    have hF : ((nums R.log).map R.v0)[(nums R.log).idxOf b]? = some (lookN s.hs (nm b)) := by rw [List.getElem?_map, hb, C.beg b hbc]; rfl
    have hinj : ∀ b', b' ∈ nums R.log → nm b' = nm b → b' = b := fun b' hb' e => C.inj b' b (by
      obtain ⟨e', he', rfl⟩ := (nums_mem _ _).1 hb'
      exact (C.log_at he').1) hbc e
    obtain ⟨z, hz⟩ : ∃ z, z = h2.size := ⟨_, rfl⟩
    (repeat (first | refine ER.move rfl rfl rfl ?_ | refine ER.extract rfl rfl rfl rfl ?_ | refine ER.allocA rfl rfl ?_))
    refine ER.storeN (vs := entL (nums R.log) (evOf i ⟨op, b, arg, new⟩ w')) rfl rfl rfl rfl (by simp [entL, accL, OneCell]) (acc_all (vs := acc0) rfl (get_push_new _ _)) ?_
    rw [hsetRow_push (c := [.int .i64 0, .int .i8 0, .int .i64 0, .int .i64 0, .int .i64 0, .int .i64 0, .int .i64 0, .bool false]) (vs := entL (nums R.log) (evOf i ⟨op, b, arg, new⟩ w')) rfl]
    refine ER.gen (fun h' => WkI R nm lL lW lY lV h0 W ((nums R.log).map R.v0) { s with q := q } h' ∧ Upd (WT s x) h h' ∧ h'[x]? = some (wrO W i false t2) ∧ h'[yN]? = some (nmeO (nm b)) ∧ h'[y]? = some (accO acc0) ∧ h'[z]? = some (accO (entL (nums R.log) (evOf i ⟨op, b, arg, new⟩ w')))) ⟨I.upd0 (Upd.push _ _), uu.trans (Upd.push _ _), get_push _ hx, get_push _ gN, get_push _ gy, by rw [hz]; exact get_push_new _ _⟩ ?_
    rw [← hz]
    clear I uu hx gN gy
    rintro h3 ⟨I, u3, hx, gN, gy, gz⟩
    have z1 : hcell h3 ⟨z, 1, none⟩ = some (.int .i8 op) := hcell_of gz rfl
    have z2 : hcell h3 ⟨z, 2, none⟩ = some (.int .i64 ((nums R.log).idxOf b : Nat)) := hcell_of gz rfl
    have z3 : hcell h3 ⟨z, 3, none⟩ = some (.int .i64 arg) := hcell_of gz rfl
    have z4 : hcell h3 ⟨z, 4, none⟩ = some (.int .i64 new) := hcell_of gz rfl
    have x0 : hcell h3 ⟨x, 0, none⟩ = some (ptr W) := hcell_of hx rfl
    have rN : TJ.hrow h3 yN 0 (nmeL (nm b)) := hrow_block (rest := []) (by rw [List.append_nil]; exact gN)
    generalize (nums R.log).idxOf b = ix at hb hF z2
    (repeat (first | refine EK.seq ?_ | refine EK.region ?_ | refine ER.done ?_ | refine ER.move rfl rfl rfl ?_ | refine ER.assign rfl rfl rfl ?_ | refine EK.condT rfl ?_))
    refine EK.regionAny (fun h' => hcell h' ⟨z, 1, none⟩ = some (.int .i8 op) ∧ hcell h' ⟨z, 2, none⟩ = some (.int .i64 ix) ∧ hcell h' ⟨z, 3, none⟩ = some (.int .i64 arg) ∧ hcell h' ⟨z, 4, none⟩ = some (.int .i64 new) ∧ hcell h' ⟨x, 0, none⟩ = some (ptr W) ∧ TJ.hrow h' yN 0 (nmeL (nm b))) ?_
    have hZ : _ ∧ _ ∧ _ ∧ _ ∧ _ ∧ _ := And.intro z1 ⟨z2, z3, z4, x0, rN⟩
    refine EA.tField 0 rfl (by kernel_rfl) (by kernel_rfl) (by kernel_rfl) rfl rfl rfl rfl hZ ?_
    refine EA.tLoad 1 rfl (by kernel_rfl) (by kernel_rfl) (by kernel_rfl) rfl rfl rfl rfl (fun _ hz => hz.1) hZ ?_
    refine EA.tMove 2 rfl (by kernel_rfl) (by kernel_rfl) (by kernel_rfl) rfl rfl rfl rfl hZ ?_
    refine EA.tCmpF 3 rfl (by kernel_rfl) (by kernel_rfl) (by kernel_rfl) rfl rfl rfl rfl rfl rfl (by first | (dsimp only [cmpP]; omega) | exact rfl | exact Int.le_refl _) hZ ?_
    refine EA.tMove 4 rfl (by kernel_rfl) (by kernel_rfl) (by kernel_rfl) rfl rfl rfl rfl hZ ?_
    refine EA.tField 5 rfl (by kernel_rfl) (by kernel_rfl) (by kernel_rfl) rfl rfl rfl rfl hZ ?_
    refine EA.tLoad 6 rfl (by kernel_rfl) (by kernel_rfl) (by kernel_rfl) rfl rfl rfl rfl (fun _ hz => hz.2.2.1) hZ ?_
    refine EA.tMove 7 rfl (by kernel_rfl) (by kernel_rfl) (by kernel_rfl) rfl rfl rfl rfl hZ ?_
    refine EA.tCmpF 8 rfl (by kernel_rfl) (by kernel_rfl) (by kernel_rfl) rfl rfl rfl rfl rfl rfl (by first | (dsimp only [cmpP]; omega) | exact rfl | exact Int.le_refl _) hZ ?_
    refine EA.tPickF 9 rfl (by kernel_rfl) (by kernel_rfl) (by kernel_rfl) rfl rfl rfl rfl rfl hZ ?_
    refine EA.tMove 10 rfl (by kernel_rfl) (by kernel_rfl) (by kernel_rfl) rfl rfl rfl rfl hZ ?_
    refine EA.tField 11 rfl (by kernel_rfl) (by kernel_rfl) (by kernel_rfl) rfl rfl rfl rfl hZ ?_
    refine EA.tLoad 12 rfl (by kernel_rfl) (by kernel_rfl) (by kernel_rfl) rfl rfl rfl rfl (fun _ hz => hz.2.2.2.1) hZ ?_
    refine EA.tMove 13 rfl (by kernel_rfl) (by kernel_rfl) (by kernel_rfl) rfl rfl rfl rfl hZ ?_
    refine EA.tCmpF 14 rfl (by kernel_rfl) (by kernel_rfl) (by kernel_rfl) rfl rfl rfl rfl rfl rfl (by first | (dsimp only [cmpP]; omega) | exact rfl | exact Int.le_refl _) hZ ?_
    refine EA.tPickF 15 rfl (by kernel_rfl) (by kernel_rfl) (by kernel_rfl) rfl rfl rfl rfl rfl hZ ?_
    refine EA.tMove 16 rfl (by kernel_rfl) (by kernel_rfl) (by kernel_rfl) rfl rfl rfl rfl hZ ?_
    refine EA.tMove 17 rfl (by kernel_rfl) (by kernel_rfl) (by kernel_rfl) rfl rfl rfl rfl hZ ?_
    refine EA.tNil 18 rfl (by kernel_rfl) (by kernel_rfl) (by kernel_rfl) rfl rfl rfl rfl hZ ?_
    refine EA.tField 19 rfl (by kernel_rfl) (by kernel_rfl) (by kernel_rfl) rfl rfl rfl rfl hZ ?_
    refine EA.tLoad 20 rfl (by kernel_rfl) (by kernel_rfl) (by kernel_rfl) rfl rfl rfl rfl (fun _ hz => hz.2.2.2.2.1) hZ ?_
    refine EA.tField 21 rfl (by kernel_rfl) (by kernel_rfl) (by kernel_rfl) rfl rfl rfl rfl hZ ?_
    refine EA.tLoad 22 rfl (by kernel_rfl) (by kernel_rfl) (by kernel_rfl) rfl rfl rfl rfl (fun _ hz => hz.2.1) hZ ?_
    refine EA.tLoadN (vs := nmeL (nm b)) 23 rfl (by kernel_rfl) (by kernel_rfl) (by kernel_rfl) rfl rfl rfl rfl rfl (fun _ hz => hz.2.2.2.2.2) hZ ?_
    refine EA.callR 24 rfl (by kernel_rfl) rfl rfl rfl rfl rfl rfl (is_ok (s := { s with q := q }) I N hb hF hinj hnl C.hsl) ?_
    rintro _ h4 δ4 ⟨rfl, rfl, I4, u4⟩
    have nx : ∀ c, (blk s.nv = some c ∨ blk s.gv = some c) → c ≠ x := fun c hc => hc.elim (fun y => sliceO_ne I.nms hx (by decide) c y) (fun y => sliceO_ne I.giv hx (by decide) c y)
    have nz : ¬ (blk s.nv = some z ∨ blk s.gv = some z) := fun hc => by have := nT _ hc; omega
    have nN : ¬ (blk s.nv = some yN ∨ blk s.gv = some yN) := fun hc => by have := nT _ hc; omega
    have ny : ¬ (blk s.nv = some y ∨ blk s.gv = some y) := fun hc => by have := nT _ hc; omega
    replace hx := u4.get hx (fun hc => nx x hc rfl)
    replace gN := u4.get gN nN
    replace gy := u4.get gy ny
    replace gz := u4.get gz nz
    have z1 : hcell h4 ⟨z, 1, none⟩ = some (.int .i8 op) := u4.hcell z1 nz
    have z2 : hcell h4 ⟨z, 2, none⟩ = some (.int .i64 ix) := u4.hcell z2 nz
    have z3 : hcell h4 ⟨z, 3, none⟩ = some (.int .i64 arg) := u4.hcell z3 nz
    have z4 : hcell h4 ⟨z, 4, none⟩ = some (.int .i64 new) := u4.hcell z4 nz
    have x0 : hcell h4 ⟨x, 0, none⟩ = some (ptr W) := hcell_of hx rfl
    have rN : TJ.hrow h4 yN 0 (nmeL (nm b)) := hrow_block (rest := []) (by rw [List.append_nil]; exact gN)
    have hZ : _ ∧ _ ∧ _ ∧ _ ∧ _ ∧ _ := And.intro z1 ⟨z2, z3, z4, x0, rN⟩
    refine ⟨hZ, ?_⟩
    refine EA.tNot 25 rfl (by kernel_rfl) (by kernel_rfl) (by kernel_rfl) rfl rfl rfl rfl hZ ?_
    refine EA.tPickF 26 rfl (by kernel_rfl) (by kernel_rfl) (by kernel_rfl) rfl rfl rfl rfl rfl hZ ?_
    refine EA.done (by kernel_rfl) ?_
    have uu : Upd (WT s x) h h4 := upd_then u3 u4 (fun c _ hc => .inr hc)
    clear hZ I u3 u4 z1 z2 z3 z4 x0 rN nx
    (repeat (first | refine EK.seq ?_ | refine EK.region ?_ | refine EK.skip ?_ | refine EK.condF rfl ?_))
    refine ER.loadN (vs := entL (nums R.log) (evOf i ⟨op, b, arg, new⟩ w')) rfl rfl rfl rfl (hrow_block (rest := []) (by rw [List.append_nil]; exact gz)) ?_
    refine ER.storeN (vs := entL (nums R.log) (evOf i ⟨op, b, arg, new⟩ w')) rfl rfl rfl rfl (by simp [entL, accL, OneCell]) (acc_all rfl gy) ?_
    rw [row_set (c := acc0) (vs := entL (nums R.log) (evOf i ⟨op, b, arg, new⟩ w')) gy rfl]
    (repeat (first | refine ER.done ?_ | refine EK.ret ?_))
    refine EU.retCell1 (vs := entL (nums R.log) (evOf i ⟨op, b, arg, new⟩ w')) rfl rfl rfl (hrow_block (rest := []) (by rw [List.append_nil]; exact get_set_same gy)) ⟨rfl, upd_then uu (Upd.set (T := fun c => c = y) _ _ _ rfl) (fun c hc e => by omega), .inl ⟨w', l', e3, rfl, ⟨⟨_, I4.other gy (by omega) (by decide) (by decide) (by decide) (by decide) _, N.set hb⟩, ⟨⟨t2, ht2, e1, by rw [get_set_ne _ (by omega)]; exact hx⟩, gk⟩, hx0⟩⟩⟩
  · obtain ⟨eo, epf⟩ : o = [] ∧ pf = .step ⟨op, b, arg, new⟩ k := by
      rw [hl] at ho
      rcases wcases with ⟨v, l', e1, g⟩ | ⟨-, e2, e3⟩
      · rw [ho] at e1; cases e1
      · exact ⟨e2, e3⟩
    subst eo
    have hmem : (i, (⟨op, b, arg, new⟩ : Rq)) ∈ R.left := by
      rcases hpf with ⟨r', k', hm, e⟩ | ⟨-, e⟩
      · rw [epf] at e
        injection e with e e'
        subst e
        exact hm
      · rw [epf] at e; cases e
    clear wcases hpf epf ho
    have hbc : X.isC b := (C.ok.left _ hmem).2.cell
    obtain ⟨z, hz⟩ : ∃ z, z = h2.size := ⟨_, rfl⟩
    (repeat (first | refine ER.move rfl rfl rfl ?_ | refine ER.extract rfl rfl rfl rfl ?_ | refine ER.allocA rfl rfl ?_))
    refine ER.storeN (vs := acc0) rfl rfl rfl rfl (by simp [accL, OneCell]) (acc_all (vs := acc0) rfl (get_push_new _ _)) ?_
    rw [hsetRow_push (c := [.int .i64 0, .int .i8 0, .int .i64 0, .int .i64 0, .int .i64 0, .int .i64 0, .int .i64 0, .bool false]) (vs := acc0) rfl]
    refine ER.gen (fun h' => WkI R nm lL lW lY lV h0 W ((nums R.log).map R.v0) { s with q := q } h' ∧ Upd (WT s x) h h' ∧ h'[x]? = some (wrO W i false t2) ∧ h'[yN]? = some (nmeO (nm b)) ∧ h'[y]? = some (accO acc0) ∧ h'[z]? = some (accO acc0)) ⟨I.upd0 (Upd.push _ _), uu.trans (Upd.push _ _), get_push _ hx, get_push _ gN, get_push _ gy, by rw [hz]; exact get_push_new _ _⟩ ?_
    rw [← hz]
    clear I uu hx gN gy
    rintro h3 ⟨I, u3, hx, gN, gy, gz⟩
    (repeat (first | refine EK.seq ?_ | refine EK.region ?_ | refine ER.done ?_ | refine EK.skip ?_ | refine ER.move rfl rfl rfl ?_ | refine ER.assign rfl rfl rfl ?_ | refine EK.condF rfl ?_))
    refine ER.callR rfl rfl rfl rfl rfl (wleft_ok C.m (Nat.le_trans hll (by decide)) I hx hx0) ?_
    rintro _ h4 δ4 ⟨rfl, u4, hc⟩
    obtain ⟨q', hq', e4, rfl⟩ : ∃ q', q' ∈ R.left ∧ q'.1 = i ∧ _ := hc.resolve_right fun hn => hn.1 _ hmem rfl
    obtain rfl := C.ok.left_uniq hq' hmem e4
    clear e4 hq' hc
    replace I := I.upd0 u4
    replace hx := u4.get hx (fun z => z)
    replace gN := u4.get gN (fun z => z)
    replace gy := u4.get gy (fun z => z)
    replace gz := u4.get gz (fun z => z)
    replace u3 : Upd (WT s x) h h4 := upd_then u3 u4 (fun _ _ z => z.elim)
    clear u4
    obtain ⟨cv, hcv⟩ : ∃ cv : Int, cv = if b ∈ nums R.log then ((nums R.log).idxOf b : Int) else -1 := ⟨_, rfl⟩
    have eL : leftE (nums R.log) R.val (i, ⟨op, b, arg, new⟩) = accL i op cv arg new (R.val b) (R.val b) false := by rw [hcv]; rfl
    rw [eL]
    (repeat (first | refine ER.move rfl rfl rfl ?_ | refine ER.extract rfl rfl rfl rfl ?_))
    refine ER.storeN (vs := accL i op cv arg new (R.val b) (R.val b) false) rfl rfl rfl rfl (by simp [accL, OneCell]) (acc_all rfl gz) ?_
    rw [row_set (c := acc0) (vs := accL i op cv arg new (R.val b) (R.val b) false) gz rfl]
    refine ER.gen (fun h' => WkI R nm lL lW lY lV h0 W ((nums R.log).map R.v0) { s with q := q } h' ∧ Upd (WT s x) h h' ∧ h'[x]? = some (wrO W i false t2) ∧ h'[yN]? = some (nmeO (nm b)) ∧ h'[y]? = some (accO acc0) ∧ h'[z]? = some (accO (accL i op cv arg new (R.val b) (R.val b) false))) ⟨I.other gz (by omega) (by decide) (by decide) (by decide) (by decide) _, upd_then u3 (Upd.set (T := fun c => c = z) _ _ _ rfl) (fun c hc e => by omega), by rw [get_set_ne _ (by omega)]; exact hx, by rw [get_set_ne _ (by omega)]; exact gN, by rw [get_set_ne _ (by omega)]; exact gy, get_set_same gz⟩ ?_
    clear I u3 hx gN gy gz
    rintro h5 ⟨I, u5, hx, gN, gy, gz⟩
    have z1 : hcell h5 ⟨z, 1, none⟩ = some (.int .i8 op) := hcell_of gz rfl
    have z2 : hcell h5 ⟨z, 2, none⟩ = some (.int .i64 cv) := hcell_of gz rfl
    have z3 : hcell h5 ⟨z, 3, none⟩ = some (.int .i64 arg) := hcell_of gz rfl
    have z4 : hcell h5 ⟨z, 4, none⟩ = some (.int .i64 new) := hcell_of gz rfl
    have z5 : hcell h5 ⟨z, 5, none⟩ = some (.int .i64 (R.val b)) := hcell_of gz rfl
    have x0 : hcell h5 ⟨x, 0, none⟩ = some (ptr W) := hcell_of hx rfl
    have rN : TJ.hrow h5 yN 0 (nmeL (nm b)) := hrow_block (rest := []) (by rw [List.append_nil]; exact gN)
    (repeat (first | refine EK.seq ?_ | refine ER.done ?_ | refine ER.assign rfl rfl rfl ?_))
    refine EK.join (fun _ : Unit => [(10, ptr y), (0, ptr x), (111, .bool false)]) (fun _ h' δ' => δ' = δ4 ∧ WAll R nm lL lW lY lV h0 W s h' ∧ Upd (WT s x) h h' ∧ h'[x]? = some (wrO W i false t2) ∧ h'[y]? = some (accO acc0)) (fun key => ?_) ?_
    · refine EK.regionAny (fun h' => hcell h' ⟨z, 1, none⟩ = some (.int .i8 op) ∧ hcell h' ⟨z, 2, none⟩ = some (.int .i64 cv) ∧ hcell h' ⟨z, 3, none⟩ = some (.int .i64 arg) ∧ hcell h' ⟨z, 4, none⟩ = some (.int .i64 new) ∧ hcell h' ⟨z, 5, none⟩ = some (.int .i64 (R.val b)) ∧ hcell h' ⟨x, 0, none⟩ = some (ptr W) ∧ TJ.hrow h' yN 0 (nmeL (nm b))) ?_
      have hZ : _ ∧ _ ∧ _ ∧ _ ∧ _ ∧ _ ∧ _ := And.intro z1 ⟨z2, z3, z4, z5, x0, rN⟩
      refine EA.tMove 0 rfl (by kernel_rfl) (by kernel_rfl) (by kernel_rfl) rfl rfl rfl rfl hZ ?_
      refine EA.tNot 1 rfl (by kernel_rfl) (by kernel_rfl) (by kernel_rfl) rfl rfl rfl rfl hZ ?_
      refine EA.tMove 2 rfl (by kernel_rfl) (by kernel_rfl) (by kernel_rfl) rfl rfl rfl rfl hZ ?_
      refine EA.tField 3 rfl (by kernel_rfl) (by kernel_rfl) (by kernel_rfl) rfl rfl rfl rfl hZ ?_
      refine EA.tLoad 4 rfl (by kernel_rfl) (by kernel_rfl) (by kernel_rfl) rfl rfl rfl rfl (fun _ hz => hz.1) hZ ?_
      refine EA.tMove 5 rfl (by kernel_rfl) (by kernel_rfl) (by kernel_rfl) rfl rfl rfl rfl hZ ?_
      refine EA.tCmpF 6 rfl (by kernel_rfl) (by kernel_rfl) (by kernel_rfl) rfl rfl rfl rfl rfl rfl (by first | (dsimp only [cmpP]; omega) | exact rfl | exact Int.le_refl _) hZ ?_
      refine EA.tPickF 7 rfl (by kernel_rfl) (by kernel_rfl) (by kernel_rfl) rfl rfl rfl rfl rfl hZ ?_
      refine EA.tMove 8 rfl (by kernel_rfl) (by kernel_rfl) (by kernel_rfl) rfl rfl rfl rfl hZ ?_
      refine EA.tField 9 rfl (by kernel_rfl) (by kernel_rfl) (by kernel_rfl) rfl rfl rfl rfl hZ ?_
      refine EA.tLoad 10 rfl (by kernel_rfl) (by kernel_rfl) (by kernel_rfl) rfl rfl rfl rfl (fun _ hz => hz.2.2.1) hZ ?_
      refine EA.tMove 11 rfl (by kernel_rfl) (by kernel_rfl) (by kernel_rfl) rfl rfl rfl rfl hZ ?_
      refine EA.tCmpF 12 rfl (by kernel_rfl) (by kernel_rfl) (by kernel_rfl) rfl rfl rfl rfl rfl rfl (by first | (dsimp only [cmpP]; omega) | exact rfl | exact Int.le_refl _) hZ ?_
      refine EA.tPickF 13 rfl (by kernel_rfl) (by kernel_rfl) (by kernel_rfl) rfl rfl rfl rfl rfl hZ ?_
      refine EA.tMove 14 rfl (by kernel_rfl) (by kernel_rfl) (by kernel_rfl) rfl rfl rfl rfl hZ ?_
      refine EA.tField 15 rfl (by kernel_rfl) (by kernel_rfl) (by kernel_rfl) rfl rfl rfl rfl hZ ?_
      refine EA.tLoad 16 rfl (by kernel_rfl) (by kernel_rfl) (by kernel_rfl) rfl rfl rfl rfl (fun _ hz => hz.2.2.2.1) hZ ?_
      refine EA.tMove 17 rfl (by kernel_rfl) (by kernel_rfl) (by kernel_rfl) rfl rfl rfl rfl hZ ?_
      refine EA.tCmpF 18 rfl (by kernel_rfl) (by kernel_rfl) (by kernel_rfl) rfl rfl rfl rfl rfl rfl (by first | (dsimp only [cmpP]; omega) | exact rfl | exact Int.le_refl _) hZ ?_
      refine EA.tPickF 19 rfl (by kernel_rfl) (by kernel_rfl) (by kernel_rfl) rfl rfl rfl rfl rfl hZ ?_
      refine EA.tMove 20 rfl (by kernel_rfl) (by kernel_rfl) (by kernel_rfl) rfl rfl rfl rfl hZ ?_
      refine EA.tField 21 rfl (by kernel_rfl) (by kernel_rfl) (by kernel_rfl) rfl rfl rfl rfl hZ ?_
      refine EA.tLoad 22 rfl (by kernel_rfl) (by kernel_rfl) (by kernel_rfl) rfl rfl rfl rfl (fun _ hz => hz.2.1) hZ ?_
      by_cases hbn : b ∈ nums R.log
      · rw [if_pos hbn] at hcv
        obtain ⟨-, hb⟩ : True ∧ (nums R.log)[(nums R.log).idxOf b]? = some b := ⟨trivial, by
          have hlt := List.idxOf_lt_length_iff.2 hbn
          rw [List.getElem?_eq_getElem hlt]; simp⟩
        have hF : ((nums R.log).map R.v0)[(nums R.log).idxOf b]? = some (lookN s.hs (nm b)) := by rw [List.getElem?_map, hb, C.beg b hbc]; rfl
        have hinj : ∀ b', b' ∈ nums R.log → nm b' = nm b → b' = b := fun b' hb' e => C.inj b' b (by
          obtain ⟨e', he', rfl⟩ := (nums_mem _ _).1 hb'
          exact (C.log_at he').1) hbc e
        generalize (nums R.log).idxOf b = ix at hb hF hcv
        subst hcv
        refine EA.tCmpT 23 rfl (by kernel_rfl) (by kernel_rfl) (by kernel_rfl) rfl rfl rfl rfl rfl rfl (by first | (dsimp only [cmpP]; omega) | exact rfl | exact Int.le_refl _) hZ ?_
        refine EA.tMove 24 rfl (by kernel_rfl) (by kernel_rfl) (by kernel_rfl) rfl rfl rfl rfl hZ ?_
        refine EA.tMove 25 rfl (by kernel_rfl) (by kernel_rfl) (by kernel_rfl) rfl rfl rfl rfl hZ ?_
        refine EA.tNil 26 rfl (by kernel_rfl) (by kernel_rfl) (by kernel_rfl) rfl rfl rfl rfl hZ ?_
        refine EA.tField 27 rfl (by kernel_rfl) (by kernel_rfl) (by kernel_rfl) rfl rfl rfl rfl hZ ?_
        refine EA.tLoad 28 rfl (by kernel_rfl) (by kernel_rfl) (by kernel_rfl) rfl rfl rfl rfl (fun _ hz => hz.2.2.2.2.2.1) hZ ?_
        refine EA.tField 29 rfl (by kernel_rfl) (by kernel_rfl) (by kernel_rfl) rfl rfl rfl rfl hZ ?_
        refine EA.tLoad 30 rfl (by kernel_rfl) (by kernel_rfl) (by kernel_rfl) rfl rfl rfl rfl (fun _ hz => hz.2.1) hZ ?_
        refine EA.tLoadN (vs := nmeL (nm b)) 31 rfl (by kernel_rfl) (by kernel_rfl) (by kernel_rfl) rfl rfl rfl rfl rfl (fun _ hz => hz.2.2.2.2.2.2) hZ ?_
        refine EA.callR 32 rfl (by kernel_rfl) rfl rfl rfl rfl rfl rfl (is_ok (s := { s with q := q }) I N hb hF hinj hnl C.hsl) ?_
        rintro _ h6 δ6 ⟨rfl, rfl, I6, u6⟩
        have nx : ¬ (blk s.nv = some x ∨ blk s.gv = some x) := fun hc => hc.elim (fun y => sliceO_ne I.nms hx (by decide) x y rfl) (fun y => sliceO_ne I.giv hx (by decide) x y rfl)
        have nz : ¬ (blk s.nv = some z ∨ blk s.gv = some z) := fun hc => by have := nT _ hc; omega
        have nN : ¬ (blk s.nv = some yN ∨ blk s.gv = some yN) := fun hc => by have := nT _ hc; omega
        have ny : ¬ (blk s.nv = some y ∨ blk s.gv = some y) := fun hc => by have := nT _ hc; omega
        have hZ : _ ∧ _ ∧ _ ∧ _ ∧ _ ∧ _ ∧ _ := And.intro (u6.hcell z1 nz) ⟨u6.hcell z2 nz, u6.hcell z3 nz, u6.hcell z4 nz, u6.hcell z5 nz, u6.hcell x0 nx, fun j v hv => u6.hcell (rN j v hv) nN⟩
        refine ⟨hZ, ?_⟩
        refine EA.tNot 33 rfl (by kernel_rfl) (by kernel_rfl) (by kernel_rfl) rfl rfl rfl rfl hZ ?_
        refine EA.tPickT 34 rfl (by kernel_rfl) (by kernel_rfl) (by kernel_rfl) rfl rfl rfl rfl rfl hZ ?_
        refine EA.tPickF 35 rfl (by kernel_rfl) (by kernel_rfl) (by kernel_rfl) rfl rfl rfl rfl rfl hZ ?_
        refine EA.tMove 36 rfl (by kernel_rfl) (by kernel_rfl) (by kernel_rfl) rfl rfl rfl rfl hZ ?_
        refine EA.tField 37 rfl (by kernel_rfl) (by kernel_rfl) (by kernel_rfl) rfl rfl rfl rfl hZ ?_
        refine EA.tLoad 38 rfl (by kernel_rfl) (by kernel_rfl) (by kernel_rfl) rfl rfl rfl rfl (fun _ hz => hz.2.1) hZ ?_
        refine EA.tCmpF 39 rfl (by kernel_rfl) (by kernel_rfl) (by kernel_rfl) rfl rfl rfl rfl rfl rfl (by first | (dsimp only [cmpP]; omega) | exact rfl | exact Int.le_refl _) hZ ?_
        refine EA.tMove 40 rfl (by kernel_rfl) (by kernel_rfl) (by kernel_rfl) rfl rfl rfl rfl hZ ?_
        refine EA.takeNo 41 rfl (by kernel_rfl) (by kernel_rfl) (by kernel_rfl) rfl rfl rfl hZ ?_
        refine EA.takeNo 42 rfl (by kernel_rfl) (by kernel_rfl) (by kernel_rfl) rfl rfl rfl hZ ?_
        refine EA.takeNo 43 rfl (by kernel_rfl) (by kernel_rfl) (by kernel_rfl) rfl rfl rfl hZ ?_
        refine EA.takeNo 44 rfl (by kernel_rfl) (by kernel_rfl) (by kernel_rfl) rfl rfl rfl hZ ?_
        refine EA.takeNo 45 rfl (by kernel_rfl) (by kernel_rfl) (by kernel_rfl) rfl rfl rfl hZ ?_
        refine EA.takeNo 46 rfl (by kernel_rfl) (by kernel_rfl) (by kernel_rfl) rfl rfl rfl hZ ?_
        refine EA.takeNo 47 rfl (by kernel_rfl) (by kernel_rfl) (by kernel_rfl) rfl rfl rfl hZ ?_
        refine EA.takeNo 48 rfl (by kernel_rfl) (by kernel_rfl) (by kernel_rfl) rfl rfl rfl hZ ?_
        refine EA.takeNo 49 rfl (by kernel_rfl) (by kernel_rfl) (by kernel_rfl) rfl rfl rfl hZ ?_
        refine EA.tPickF 50 rfl (by kernel_rfl) (by kernel_rfl) (by kernel_rfl) rfl rfl rfl rfl rfl hZ ?_
        refine EA.tPickF 51 rfl (by kernel_rfl) (by kernel_rfl) (by kernel_rfl) rfl rfl rfl rfl rfl hZ ?_
        refine EA.done (by kernel_rfl) ?_
        exact EK.back (key () _ _ ⟨rfl, ⟨_, I6, N.set hb⟩, upd_then u5 u6 (fun c _ hc => .inr hc), u6.get hx nx, u6.get gy ny⟩) ⟨rfl, rfl, rfl, trivial⟩
      · rw [if_neg hbn] at hcv
        subst hcv
        have hvb : R.val b = lookN s.hs (nm b) := by rw [C.ok.chain.first hbn, C.beg b hbc]
        refine EA.tCmpF 23 rfl (by kernel_rfl) (by kernel_rfl) (by kernel_rfl) rfl rfl rfl rfl rfl rfl (by first | (dsimp only [cmpP]; omega) | exact rfl | exact Int.le_refl _) hZ ?_
        refine EA.tMove 24 rfl (by kernel_rfl) (by kernel_rfl) (by kernel_rfl) rfl rfl rfl rfl hZ ?_
        refine EA.takeNo 25 rfl (by kernel_rfl) (by kernel_rfl) (by kernel_rfl) rfl rfl rfl hZ ?_
        refine EA.takeNo 26 rfl (by kernel_rfl) (by kernel_rfl) (by kernel_rfl) rfl rfl rfl hZ ?_
        refine EA.takeNo 27 rfl (by kernel_rfl) (by kernel_rfl) (by kernel_rfl) rfl rfl rfl hZ ?_
        refine EA.takeNo 28 rfl (by kernel_rfl) (by kernel_rfl) (by kernel_rfl) rfl rfl rfl hZ ?_
        refine EA.takeNo 29 rfl (by kernel_rfl) (by kernel_rfl) (by kernel_rfl) rfl rfl rfl hZ ?_
        refine EA.takeNo 30 rfl (by kernel_rfl) (by kernel_rfl) (by kernel_rfl) rfl rfl rfl hZ ?_
        refine EA.takeNo 31 rfl (by kernel_rfl) (by kernel_rfl) (by kernel_rfl) rfl rfl rfl hZ ?_
        refine EA.takeNo 32 rfl (by kernel_rfl) (by kernel_rfl) (by kernel_rfl) rfl rfl rfl hZ ?_
        refine EA.takeNo 33 rfl (by kernel_rfl) (by kernel_rfl) (by kernel_rfl) rfl rfl rfl hZ ?_
        refine EA.tPickF 34 rfl (by kernel_rfl) (by kernel_rfl) (by kernel_rfl) rfl rfl rfl rfl rfl hZ ?_
        refine EA.tPickF 35 rfl (by kernel_rfl) (by kernel_rfl) (by kernel_rfl) rfl rfl rfl rfl rfl hZ ?_
        refine EA.tMove 36 rfl (by kernel_rfl) (by kernel_rfl) (by kernel_rfl) rfl rfl rfl rfl hZ ?_
        refine EA.tField 37 rfl (by kernel_rfl) (by kernel_rfl) (by kernel_rfl) rfl rfl rfl rfl hZ ?_
        refine EA.tLoad 38 rfl (by kernel_rfl) (by kernel_rfl) (by kernel_rfl) rfl rfl rfl rfl (fun _ hz => hz.2.1) hZ ?_
        refine EA.tCmpT 39 rfl (by kernel_rfl) (by kernel_rfl) (by kernel_rfl) rfl rfl rfl rfl rfl rfl (by first | (dsimp only [cmpP]; omega) | exact rfl | exact Int.le_refl _) hZ ?_
        refine EA.tMove 40 rfl (by kernel_rfl) (by kernel_rfl) (by kernel_rfl) rfl rfl rfl rfl hZ ?_
        refine EA.tField 41 rfl (by kernel_rfl) (by kernel_rfl) (by kernel_rfl) rfl rfl rfl rfl hZ ?_
        refine EA.tLoad 42 rfl (by kernel_rfl) (by kernel_rfl) (by kernel_rfl) rfl rfl rfl rfl (fun _ hz => hz.2.2.2.2.1) hZ ?_
        refine EA.tMove 43 rfl (by kernel_rfl) (by kernel_rfl) (by kernel_rfl) rfl rfl rfl rfl hZ ?_
        refine EA.tNil 44 rfl (by kernel_rfl) (by kernel_rfl) (by kernel_rfl) rfl rfl rfl rfl hZ ?_
        refine EA.tField 45 rfl (by kernel_rfl) (by kernel_rfl) (by kernel_rfl) rfl rfl rfl rfl hZ ?_
        refine EA.tLoad 46 rfl (by kernel_rfl) (by kernel_rfl) (by kernel_rfl) rfl rfl rfl rfl (fun _ hz => hz.2.2.2.2.2.1) hZ ?_
        refine EA.tLoadN (vs := nmeL (nm b)) 47 rfl (by kernel_rfl) (by kernel_rfl) (by kernel_rfl) rfl rfl rfl rfl rfl (fun _ hz => hz.2.2.2.2.2.2) hZ ?_
        refine EA.callR 48 rfl (by kernel_rfl) rfl rfl rfl rfl rfl rfl (begins_ok (s := { s with q := q }) I C.hsl) ?_
        rintro _ h6 δ6 ⟨rfl, rfl, u6⟩
        have hZ : _ ∧ _ ∧ _ ∧ _ ∧ _ ∧ _ ∧ _ := And.intro (u6.hcell z1 (fun x => x)) ⟨u6.hcell z2 (fun x => x), u6.hcell z3 (fun x => x), u6.hcell z4 (fun x => x), u6.hcell z5 (fun x => x), u6.hcell x0 (fun x => x), fun j v hv => u6.hcell (rN j v hv) (fun x => x)⟩
        refine ⟨hZ, ?_⟩
        refine EA.tCmpF 49 rfl (by kernel_rfl) (by kernel_rfl) (by kernel_rfl) rfl rfl rfl rfl rfl rfl (by first | (dsimp only [cmpP]; omega) | exact rfl | exact Int.le_refl _) hZ ?_
        refine EA.tPickT 50 rfl (by kernel_rfl) (by kernel_rfl) (by kernel_rfl) rfl rfl rfl rfl rfl hZ ?_
        refine EA.tPickF 51 rfl (by kernel_rfl) (by kernel_rfl) (by kernel_rfl) rfl rfl rfl rfl rfl hZ ?_
        refine EA.done (by kernel_rfl) ?_
        exact EK.back (key () _ _ ⟨rfl, ⟨q, I.upd0 u6, N⟩, upd_then u5 u6 (fun _ _ hc => hc.elim), u6.get hx (fun x => x), u6.get gy (fun x => x)⟩) ⟨rfl, rfl, rfl, trivial⟩
    clear I u5 hx gN gy gz z1 z2 z3 z4 z5 x0 rN eL hcv
    rintro _ h6 δ6 ⟨rfl, ⟨q6, I, N⟩, u6, hx, gy⟩
    refine EK.condF rfl (EK.skip ?_)
    (repeat (first | refine EK.seq ?_ | refine EK.region ?_ | refine ER.move rfl rfl rfl ?_ | refine ER.nilCheck rfl rfl rfl ?_ | refine ER.fieldAddr rfl rfl rfl ?_))
    have x2 : hcell h6 ⟨x, 2, none⟩ = some (.bool false) := hcell_of hx rfl
    refine ER.store1 rfl rfl rfl ⟨nofun, nofun⟩ ⟨_, x2⟩ (hfroz_of hx) (fun x => x) ?_
    have e7 : hset h6 ⟨x, 2, none⟩ (.bool true) = h6.setIfInBounds x (wrO W i true t2) := hset_block hx _
    change ER _ _ _ _ _ _ _ _ _ _ (hset h6 ⟨x, 2, none⟩ (.bool true)) _ _
    rw [e7]
    have hx7 : (h6.setIfInBounds x (wrO W i true t2))[x]? = some (wrO W i true t2) := get_set_same hx
    have gy7 : (h6.setIfInBounds x (wrO W i true t2))[y]? = some (accO acc0) := by rw [get_set_ne _ (by omega)]; exact gy
    have I7 := I.other hx hx0 (by decide) (by decide) (by decide) (by decide) (wrO W i true t2)
    have u7 : Upd (WT s x) h (h6.setIfInBounds x (wrO W i true t2)) := u6.trans (Upd.set _ _ _ (.inl rfl))
    clear e7 I u6 hx gy x2
    generalize h6.setIfInBounds x (wrO W i true t2) = h7 at hx7 gy7 I7 u7 ⊢
    (repeat (first | refine EK.seq ?_ | refine EK.region ?_ | refine ER.done ?_))
    refine ER.buildS (cells := acc0.toArray) rfl rfl (by rfl) rfl ?_
    refine ER.storeN (vs := acc0) rfl rfl rfl rfl (by simp [accL, OneCell]) (acc_all rfl gy7) ?_
    rw [row_set (c := acc0) (vs := acc0) gy7 rfl]
    (repeat (first | refine ER.done ?_ | refine EK.ret ?_))
    refine EU.retCell1 (vs := acc0) rfl rfl rfl (hrow_block (rest := []) (by rw [List.append_nil]; exact get_set_same gy7)) ⟨rfl, upd_then u7 (Upd.set (T := fun c => c = y) _ _ _ rfl) (fun c hc e => by omega), .inr ⟨rfl, rfl, ⟨⟨_, I7.other gy7 (by omega) (by decide) (by decide) (by decide) (by decide) _, N⟩, ⟨⟨t2, ht2, ho2, by rw [get_set_ne _ (by omega)]; exact hx7⟩, ⟨_, hmem⟩⟩, hx0⟩⟩⟩
end
end Go.Proofs.Ytcpcdnkemobneaa
end
section
namespace Go.Proofs.Ytcpcdnkemobneaa
open Go Go.TJ Go.Conc Go.Proofs
section
variable {Γ : Type} {main : Bool} {S : Sit Γ} {δ : Ix Γ} {R : Rec} {nm : Nat → Nme} {lL lW lY lV sP : Value} {h0 h h' : Hp} {W x i t : Nat} {s : WS} {picks : List Int} {X : Us} {A : Type} {pf p : Pr A} {k : Int → Pr A} {l : List Ev} {o : List A}
def WRes (R : Rec) (nm : Nat → Nme) (lL lW lY lV : Value) (h0 : Hp) (W : Nat) (s : WS) (pf : Pr A) (x i : Nat) (r : Rq) (k : Int → Pr A) (l : List Ev) (o : List A) (f : Int → Value) (z : Value) (h : Hp) (v : Value) (h' : Hp) : Prop :=
  Upd (WT s x) h h' ∧ ((∃ w l', l = evOf i r w :: l' ∧ v = f w ∧ WIn R nm lL lW lY lV h0 W s pf x i (k w) l' o h') ∨ (o = [] ∧ v = z ∧ WOu R nm lL lW lY lV h0 W s x i h'))
set_option maxRecDepth 8000 in
set_option maxHeartbeats 1000000 in
theorem wload_ok (C : WC X picks R nm lL lW lY lV sP h0 s) (hpf : PF R i pf) {b : Nat} (w : WIn R nm lL lW lY lV h0 W s pf x i (.step ⟨1, b, 0, 0⟩ k) l o h) {n : Nme} (hn : n = nm b) :
    CallW Try.prog main (NoS (Γ := Γ)) 89 #[ptr x, nmeV n] h δ (Ret fun v h' δ' => δ' = δ ∧ WRes R nm lL lW lY lV h0 W s pf x i ⟨1, b, 0, 0⟩ k l o (fun w => .int .i64 w) (.int .i64 0) h v h') := by
  subst hn
  refine CallW.start (n := 9) rfl rfl ?_
  (repeat (first | refine EK.seq ?_ | refine EK.region ?_ | refine ER.done ?_ | refine ER.move rfl rfl rfl ?_ | refine ER.assign rfl rfl rfl ?_ | refine ER.boxA rfl rfl rfl ?_))
  refine ER.loadN (vs := nmeL (nm b)) rfl rfl rfl rfl (hrow_block (rest := []) (by rw [List.append_nil]; exact get_push_new _ _)) ?_
  skip
  refine ER.callR rfl rfl rfl rfl rfl (does_ok (r := ⟨1, b, 0, 0⟩) C hpf (w.upd0 (Upd.push _ _)) rfl) ?_
  rintro _ h2 δ2 ⟨rfl, u2, hc⟩
  have uu : Upd (WT s x) h h2 := upd_then (Upd.push (T := WT s x) h (nmeO (nm b))) u2 (fun _ _ z => z)
  rcases hc with ⟨w', l', e1, rfl, w2⟩ | ⟨e1, rfl, w2⟩
  · refine ER.field (v := .int .i64 w') Try.underlying75 rfl Try.underlying2 rfl rfl rfl rfl rfl ?_
    (repeat (first | refine ER.done ?_ | refine ER.assign rfl rfl rfl ?_ | refine EK.ret ?_))
    exact EU.ret1 rfl rfl ⟨rfl, uu, .inl ⟨w', l', e1, rfl, w2⟩⟩
  · refine ER.field (v := .int .i64 0) Try.underlying75 rfl Try.underlying2 rfl rfl rfl rfl rfl ?_
    (repeat (first | refine ER.done ?_ | refine ER.assign rfl rfl rfl ?_ | refine EK.ret ?_))
    exact EU.ret1 rfl rfl ⟨rfl, uu, .inr ⟨e1, rfl, w2⟩⟩
set_option maxRecDepth 8000 in
set_option maxHeartbeats 1000000 in
theorem wstore_ok (C : WC X picks R nm lL lW lY lV sP h0 s) (hpf : PF R i pf) {b : Nat} {v : Int} (w : WIn R nm lL lW lY lV h0 W s pf x i (.step ⟨2, b, v, 0⟩ k) l o h) {n : Nme} (hn : n = nm b) :
    CallW Try.prog main (NoS (Γ := Γ)) 86 #[ptr x, nmeV n, .int .i64 v] h δ (Ret fun z h' δ' => δ' = δ ∧ WRes R nm lL lW lY lV h0 W s pf x i ⟨2, b, v, 0⟩ k l o (fun _ => .tuple #[]) (.tuple #[]) h (.tuple #[]) h') := by
  subst hn
  refine CallW.start (n := 10) rfl rfl ?_
  (repeat (first | refine EK.seq ?_ | refine EK.region ?_ | refine ER.done ?_ | refine ER.move rfl rfl rfl ?_ | refine ER.boxA rfl rfl rfl ?_))
  refine ER.loadN (vs := nmeL (nm b)) rfl rfl rfl rfl (hrow_block (rest := []) (by rw [List.append_nil]; exact get_push_new _ _)) ?_
  (repeat refine ER.move rfl rfl rfl ?_)
  refine ER.callR rfl rfl rfl rfl rfl (does_ok (r := ⟨2, b, v, 0⟩) C hpf (w.upd0 (Upd.push _ _)) rfl) ?_
  rintro _ h2 δ2 ⟨rfl, u2, hc⟩
  have uu : Upd (WT s x) h h2 := upd_then (Upd.push (T := WT s x) h (nmeO (nm b))) u2 (fun _ _ z => z)
  rcases hc with ⟨w', l', e1, rfl, w2⟩ | ⟨e1, rfl, w2⟩
  · (repeat refine ER.done ?_)
    exact EK.done (EU.ret0 rfl ⟨rfl, uu, .inl ⟨w', l', e1, rfl, w2⟩⟩)
  · (repeat refine ER.done ?_)
    exact EK.done (EU.ret0 rfl ⟨rfl, uu, .inr ⟨e1, rfl, w2⟩⟩)
set_option maxRecDepth 8000 in
set_option maxHeartbeats 1000000 in
theorem wcas_ok (C : WC X picks R nm lL lW lY lV sP h0 s) (hpf : PF R i pf) {b : Nat} {v c : Int} (w : WIn R nm lL lW lY lV h0 W s pf x i (.step ⟨3, b, v, c⟩ k) l o h) {n : Nme} (hn : n = nm b) :
    CallW Try.prog main (NoS (Γ := Γ)) 103 #[ptr x, nmeV n, .int .i64 v, .int .i64 c] h δ (Ret fun z h' δ' => δ' = δ ∧ WRes R nm lL lW lY lV h0 W s pf x i ⟨3, b, v, c⟩ k l o (fun w => .bool (decide (w = v))) (.bool false) h z h') := by
  subst hn
  refine CallW.start (n := 15) rfl rfl ?_
  (repeat (first | refine EK.seq ?_ | refine EK.region ?_ | refine ER.done ?_ | refine ER.move rfl rfl rfl ?_ | refine ER.assign rfl rfl rfl ?_ | refine ER.boxA rfl rfl rfl ?_))
  refine ER.loadN (vs := nmeL (nm b)) rfl rfl rfl rfl (hrow_block (rest := []) (by rw [List.append_nil]; exact get_push_new _ _)) ?_
  (repeat refine ER.move rfl rfl rfl ?_)
  refine ER.callR rfl rfl rfl rfl rfl (does_ok (r := ⟨3, b, v, c⟩) C hpf (w.upd0 (Upd.push _ _)) rfl) ?_
  rintro _ h2 δ2 ⟨rfl, u2, hc⟩
  have uu : Upd (WT s x) h h2 := upd_then (Upd.push (T := WT s x) h (nmeO (nm b))) u2 (fun _ _ z => z)
  rcases hc with ⟨w', l', e1, rfl, w2⟩ | ⟨e1, rfl, w2⟩
  · refine ER.field (v := .bool (decide (w' = v))) Try.underlying75 rfl Try.underlying4 rfl rfl rfl rfl (by
      by_cases e : w' = v
      · simp [entL, accL, evOf, behind, e]
      · simp [entL, accL, evOf, behind, e]) ?_
    (repeat (first | refine ER.done ?_ | refine ER.assign rfl rfl rfl ?_ | refine EK.ret ?_))
    exact EU.ret1 rfl rfl ⟨rfl, uu, .inl ⟨w', l', e1, rfl, w2⟩⟩
  · refine ER.field (v := .bool false) Try.underlying75 rfl Try.underlying4 rfl rfl rfl rfl rfl ?_
    (repeat (first | refine ER.done ?_ | refine ER.assign rfl rfl rfl ?_ | refine EK.ret ?_))
    exact EU.ret1 rfl rfl ⟨rfl, uu, .inr ⟨e1, rfl, w2⟩⟩
def WNil (s : WS) (R : Rec) (nm : Nat → Nme) (lL lW lY lV : Value) (h0 : Hp) (W x i : Nat) (h h' : Hp) : Prop := Upd (fun _ => False) h h' ∧ WOu R nm lL lW lY lV h0 W s x i h'
set_option maxRecDepth 8000 in
set_option maxHeartbeats 1000000 in
theorem wstore_out {n : Nme} {v : Int} (w : WOu R nm lL lW lY lV h0 W s x i h) :
    CallW Try.prog main (NoS (Γ := Γ)) 86 #[ptr x, nmeV n, .int .i64 v] h δ (Ret fun _ h' δ' => δ' = δ ∧ WNil s R nm lL lW lY lV h0 W x i h h') := by
  refine CallW.start (n := 10) rfl rfl ?_
  obtain ⟨t, ht, hl, hx⟩ := w.out.at_
  (repeat (first | refine EK.seq ?_ | refine EK.region ?_ | refine ER.done ?_ | refine ER.move rfl rfl rfl ?_ | refine ER.boxA rfl rfl rfl ?_))
  refine ER.loadN (vs := nmeL n) rfl rfl rfl rfl (hrow_block (rest := []) (by rw [List.append_nil]; exact get_push_new _ _)) ?_
  (repeat refine ER.move rfl rfl rfl ?_)
  refine ER.callR rfl rfl rfl rfl rfl (does_out (get_push _ hx)) ?_
  rintro _ h2 δ2 ⟨rfl, rfl, u2⟩
  have uu : Upd (fun _ => False) h h2 := (Upd.push h (nmeO n)).trans u2
  have w2 := w.upd0 uu
  (repeat refine ER.done ?_)
  exact EK.done (EU.ret0 rfl ⟨rfl, uu, w2⟩)
set_option maxRecDepth 8000 in
set_option maxHeartbeats 1000000 in
theorem wcas_out {n : Nme} {v c : Int} (w : WOu R nm lL lW lY lV h0 W s x i h) :
    CallW Try.prog main (NoS (Γ := Γ)) 103 #[ptr x, nmeV n, .int .i64 v, .int .i64 c] h δ (Ret fun z h' δ' => δ' = δ ∧ z = .bool false ∧ WNil s R nm lL lW lY lV h0 W x i h h') := by
  refine CallW.start (n := 15) rfl rfl ?_
  obtain ⟨t, ht, hl, hx⟩ := w.out.at_
  (repeat (first | refine EK.seq ?_ | refine EK.region ?_ | refine ER.done ?_ | refine ER.move rfl rfl rfl ?_ | refine ER.assign rfl rfl rfl ?_ | refine ER.boxA rfl rfl rfl ?_))
  refine ER.loadN (vs := nmeL n) rfl rfl rfl rfl (hrow_block (rest := []) (by rw [List.append_nil]; exact get_push_new _ _)) ?_
  (repeat refine ER.move rfl rfl rfl ?_)
  refine ER.callR rfl rfl rfl rfl rfl (does_out (get_push _ hx)) ?_
  rintro _ h2 δ2 ⟨rfl, rfl, u2⟩
  have uu : Upd (fun _ => False) h h2 := (Upd.push h (nmeO n)).trans u2
  have w2 := w.upd0 uu
  refine ER.field (v := .bool false) Try.underlying75 rfl Try.underlying4 rfl rfl rfl rfl rfl ?_
  (repeat (first | refine ER.done ?_ | refine ER.assign rfl rfl rfl ?_ | refine EK.ret ?_))
  exact EU.ret1 rfl rfl ⟨rfl, rfl, uu, w2⟩
end
end Go.Proofs.Ytcpcdnkemobneaa
end
section
namespace Go.Proofs.Ytcpcdnkemobneaa
open Go Go.TJ Go.Conc Go.Proofs
section
variable {Γ : Type} {main : Bool} {S : Sit Γ} {δ : Ix Γ} {h : Hp}
theorem nme_all {y : Nat} {n : Nme} {h : Hp} (hy : h[y]? = some (nmeO n)) : ∀ j, j < 2 → (∃ u, hcell h ⟨y, 0 + j, none⟩ = some u) ∧ hfroz h ⟨y, 0 + j, none⟩ = false ∧ ¬ (NoS (Γ := Γ)).still δ.g ⟨y, 0 + j, none⟩ := fun j hj => by
  refine ⟨?_, hfroz_of hy, fun x => x⟩
  rcases (show j = 0 ∨ j = 1 by omega) with rfl | rfl
  · exact ⟨_, hcell_of hy rfl⟩
  · exact ⟨_, hcell_of hy rfl⟩
theorem rlist_ok {k : Int} : CallW Try.prog main (NoS (Γ := Γ)) 83 #[.int .i64 k] h δ (Ret fun v h' δ' => δ' = δ ∧ v = nmeV (80, k) ∧ Upd (fun _ => False) h h') := by
  refine CallW.start (n := 5) rfl rfl ?_
  (repeat (first | refine EK.seq ?_ | refine EK.region ?_ | refine ER.done ?_ | refine ER.move rfl rfl rfl ?_ | refine ER.allocA rfl rfl ?_))
  refine ER.buildS (cells := #[.int .i64 80, .int .i64 k]) rfl rfl (by rfl) (by rfl) ?_
  refine ER.storeN (vs := nmeL (80, k)) rfl rfl rfl rfl (by simp [nmeL, OneCell]) (nme_all (n := (0, 0)) (get_push_new _ _)) ?_
  rw [hsetRow_push (c := [.int .i64 0, .int .i64 0]) (vs := nmeL (80, k)) rfl]
  (repeat (first | refine ER.done ?_ | refine EK.ret ?_))
  exact EU.retCell1 (vs := nmeL (80, k)) rfl rfl rfl (hrow_block (rest := []) (by rw [List.append_nil]; exact get_push_new _ _)) ⟨rfl, rfl, Upd.push _ _⟩
theorem rnext_ok {k : Int} : CallW Try.prog main (NoS (Γ := Γ)) 84 #[.int .i64 k] h δ (Ret fun v h' δ' => δ' = δ ∧ v = nmeV (81, k) ∧ Upd (fun _ => False) h h') := by
  refine CallW.start (n := 5) rfl rfl ?_
  (repeat (first | refine EK.seq ?_ | refine EK.region ?_ | refine ER.done ?_ | refine ER.move rfl rfl rfl ?_ | refine ER.allocA rfl rfl ?_))
  refine ER.buildS (cells := #[.int .i64 81, .int .i64 k]) rfl rfl (by rfl) (by rfl) ?_
  refine ER.storeN (vs := nmeL (81, k)) rfl rfl rfl rfl (by simp [nmeL, OneCell]) (nme_all (n := (0, 0)) (get_push_new _ _)) ?_
  rw [hsetRow_push (c := [.int .i64 0, .int .i64 0]) (vs := nmeL (81, k)) rfl]
  (repeat (first | refine ER.done ?_ | refine EK.ret ?_))
  exact EU.retCell1 (vs := nmeL (81, k)) rfl rfl rfl (hrow_block (rest := []) (by rw [List.append_nil]; exact get_push_new _ _)) ⟨rfl, rfl, Upd.push _ _⟩
theorem rvalue_ok {k : Int} : CallW Try.prog main (NoS (Γ := Γ)) 87 #[.int .i64 k] h δ (Ret fun v h' δ' => δ' = δ ∧ v = nmeV (82, k) ∧ Upd (fun _ => False) h h') := by
  refine CallW.start (n := 5) rfl rfl ?_
  (repeat (first | refine EK.seq ?_ | refine EK.region ?_ | refine ER.done ?_ | refine ER.move rfl rfl rfl ?_ | refine ER.allocA rfl rfl ?_))
  refine ER.buildS (cells := #[.int .i64 82, .int .i64 k]) rfl rfl (by rfl) (by rfl) ?_
  refine ER.storeN (vs := nmeL (82, k)) rfl rfl rfl rfl (by simp [nmeL, OneCell]) (nme_all (n := (0, 0)) (get_push_new _ _)) ?_
  rw [hsetRow_push (c := [.int .i64 0, .int .i64 0]) (vs := nmeL (82, k)) rfl]
  (repeat (first | refine ER.done ?_ | refine EK.ret ?_))
  exact EU.retCell1 (vs := nmeL (82, k)) rfl rfl rfl (hrow_block (rest := []) (by rw [List.append_nil]; exact get_push_new _ _)) ⟨rfl, rfl, Upd.push _ _⟩
theorem rnode_ok {x : Int} : CallW Try.prog main S 152 #[.int .i64 x] h δ (Ret (Det (.int .i64 (x % 65536)) h δ)) := by
  have h1 := Int.lt_tmod_of_pos x (b := 65536) (by omega)
  have h2 := Int.tmod_lt_of_pos x (b := 65536) (by omega)
  have h5 : x.tmod 65536 = x % 65536 ∨ x.tmod 65536 + 65536 = x % 65536 := by
    have k := tmod_twice x (m := 65536) (by omega)
    have k2 : (x.tmod 65536 + 65536).tmod 65536 = (x.tmod 65536 + 65536) % 65536 := Int.tmod_eq_emod_of_nonneg (by omega)
    rcases Int.lt_or_le (x.tmod 65536) 0 with y | y
    · right
      rw [← k, k2, Int.emod_eq_of_lt (by omega) (by omega)]
    · left
      rw [← k, k2, Int.add_emod_right, Int.emod_eq_of_lt (by omega) (by omega)]
  have h3 : 0 ≤ x % 65536 := by omega
  have h4 : x % 65536 < 65536 := by omega
  generalize x % 65536 = r at h3 h4 h5 ⊢
  refine CallW.start (n := 11) rfl rfl ?_
  (repeat (first | refine EK.seq ?_ | refine EK.region ?_ | refine ER.done ?_ | refine ER.move rfl rfl rfl ?_ | refine ER.assign rfl rfl rfl ?_ | refine ER.rem (kd := .i64) rfl rfl rfl rfl (by decide) rfl ?_))
  generalize x.tmod 65536 = q at h1 h2 h5 ⊢
  by_cases hq : q < 0
  · obtain rfl : r = q + 65536 := by omega
    (repeat (first | refine EK.seq ?_ | refine EK.region ?_ | refine ER.done ?_ | refine ER.move rfl rfl rfl ?_ | refine ER.assign rfl rfl rfl ?_ | refine ER.cmpT rfl rfl rfl rfl rfl (by first | (dsimp only [cmpP]; omega) | exact rfl | exact Int.le_refl _) ?_ | refine ER.add (kd := .i64) rfl rfl rfl rfl (i64_in (by omega) (by omega)) ?_ | refine EK.condT rfl ?_ | refine EK.ret ?_))
    exact EU.ret1 rfl rfl det
  · obtain rfl : r = q := by omega
    (repeat (first | refine EK.seq ?_ | refine EK.region ?_ | refine ER.done ?_ | refine EK.skip ?_ | refine ER.move rfl rfl rfl ?_ | refine ER.assign rfl rfl rfl ?_ | refine ER.cmpF rfl rfl rfl rfl rfl (by first | (dsimp only [cmpP]; omega) | exact rfl | exact Int.le_refl _) ?_ | refine EK.condF rfl ?_ | refine EK.ret ?_))
    exact EU.ret1 rfl rfl det
theorem rlaid_ok {x k : Int} : CallW Try.prog main S 153 #[.int .i64 x, .int .i64 k] h δ (Ret (Det (.int .i64 (laidZ x k)) h δ)) := by
  refine CallW.start (n := 12) rfl rfl ?_
  (repeat (first | refine EK.seq ?_ | refine EK.region ?_ | refine ER.done ?_ | refine ER.move rfl rfl rfl ?_ | refine ER.assign rfl rfl rfl ?_))
  refine ER.callD rfl rfl rfl rfl rfl rnode_ok ?_
  refine ER.sub' (r := IntKind.i64.wrap (x - x % 65536)) rfl rfl rfl rfl rfl ?_
  (repeat refine ER.move rfl rfl rfl ?_)
  refine ER.add (r := IntKind.i64.wrap (IntKind.i64.wrap (x - x % 65536) + k)) rfl rfl rfl rfl rfl ?_
  refine ER.add (r := laidZ x k) rfl rfl rfl rfl rfl ?_
  (repeat (first | refine ER.done ?_ | refine ER.assign rfl rfl rfl ?_ | refine EK.ret ?_))
  exact EU.ret1 rfl rfl det
end
end Go.Proofs.Ytcpcdnkemobneaa
end
section
namespace Go.Proofs.Ytcpcdnkemobneaa
open Go Go.TJ Go.Conc Go.Proofs
structure NmS (X : Us) (n : Nat) (B : Nat → Nat) (nm : Nat → Nme) : Prop where
  c : ∀ c, c = 2 ∨ c = 3 → nm (B c) = (80, (c : Int) - 2)
  x : ∀ k, k ≤ n → nm (B (4 + 2 * k)) = (81, (k : Int))
  v : ∀ k, k ≤ n → nm (B (5 + 2 * k)) = (82, (k : Int))
  out : ∀ k, X.isC (B k) → 2 ≤ k ∧ k < 6 + 2 * n
section
variable {Γ : Type} {main : Bool} {S : Sit Γ} {δ : Ix Γ} {R : Rec} {nm : Nat → Nme} {lL lW lY lV sP : Value} {h0 h h' : Hp} {W x i t n : Nat} {B : Nat → Nat} {s : WS} {picks : List Int} {X : Us} {A : Type} {pf p : Pr A} {l : List Ev} {o : List A}
theorem WIn.cell {r : Rq} {k : Int → Pr A} (C : WC X picks R nm lL lW lY lV sP h0 s) (hpf : PF R i pf) (w : WIn R nm lL lW lY lV h0 W s pf x i (.step r k) l o h) : X.isC r.b := by
  rcases w.cases with ⟨v, l', e, -⟩ | ⟨-, -, e⟩
  · obtain ⟨t, ht, hl, -⟩ := w.at_.at_
    have hm : evOf i r v ∈ ownFrom R i t := by rw [hl, e]; simp
    have hm2 : evOf i r v ∈ R.log := List.mem_of_mem_drop (List.mem_filter.1 hm).1
    exact (C.log_at hm2).1
  · rcases hpf with ⟨r', k', hm, e'⟩ | ⟨-, e'⟩
    · rw [e] at e'
      injection e' with e' _
      subst e'
      exact (C.ok.left _ hm).2.cell
    · rw [e] at e'; cases e'
theorem WIn.row (w : WIn R nm lL lW lY lV h0 W s pf x i p l o h) : hcell h ⟨x, 2, none⟩ = some (.bool false) := by
  obtain ⟨t, ht, hl, hx⟩ := w.at_.at_
  exact hcell_of hx rfl
theorem WOu.row (w : WOu R nm lL lW lY lV h0 W s x i h) : hcell h ⟨x, 2, none⟩ = some (.bool true) := by
  obtain ⟨t, ht, hl, hx⟩ := w.out.at_
  exact hcell_of hx rfl
def WGo (R : Rec) (nm : Nat → Nme) (lL lW lY lV : Value) (h0 : Hp) (W : Nat) (s : WS) (pf : Pr A) (x i : Nat) (o : List A) (P : Nat → Pr A) (m : Nat) (h : Hp) : Option (Nat × List Ev) → Prop
  | some (f, l) => WIn R nm lL lW lY lV h0 W s pf x i (P f) l o h ∧ l.length < f ∧ l.length ≤ m
  | none => o = [] ∧ WOu R nm lL lW lY lV h0 W s x i h
def WGot (R : Rec) (nm : Nat → Nme) (lL lW lY lV : Value) (h0 : Hp) (W : Nat) (s : WS) (pf : Pr A) (x i : Nat) (o : List A) (k : Int → Pr A) (m : Nat) (h : Hp) (v : Value) (h' : Hp) : Prop :=
  Upd (WT s x) h h' ∧ ((∃ (z : Int) (l' : List Ev), v = .int .i64 z ∧ 0 ≤ z ∧ l'.length ≤ m ∧ WIn R nm lL lW lY lV h0 W s pf x i (k z) l' o h') ∨ (v = .int .i64 0 ∧ o = [] ∧ WOu R nm lL lW lY lV h0 W s x i h'))
set_option maxRecDepth 8000 in
set_option maxHeartbeats 4000000 in
theorem get_w (C : WC X picks R nm lL lW lY lV sP h0 s) (N : NmS X n B nm) (hpf : PF R i pf) {c f : Nat} {k : Int → Pr A} (w : WIn R nm lL lW lY lV h0 W s pf x i (getP B c k f) l o h) (hc : c = 2 ∨ c = 3) (hf : l.length < f) (hn : n ≤ 4096) {wh : Int} (hw : wh = (c : Int) - 2) :
    CallW Try.prog main (NoS (Γ := Γ)) 85 #[ptr x, .int .i64 wh] h δ (Ret fun v h' δ' => δ' = δ ∧ WGot R nm lL lW lY lV h0 W s pf x i o k l.length h v h') := by
  refine CallW.start (n := 34) rfl rfl ?_
  (repeat (first | refine EK.seq ?_ | refine EK.region ?_ | refine ER.done ?_ | refine EK.block ?_ | refine ER.assign rfl rfl rfl ?_))
  refine EK.loopInv (fun _ : Option (Nat × List Ev) => [(0, ptr x), (1, .int .i64 wh)]) (fun q h' δ' => δ' = δ ∧ Upd (WT s x) h h' ∧ WGo R nm lL lW lY lV h0 W s pf x i o (fun f => getP B c k f) l.length h' q) (fun q => match q with | some (f, _) => f + 1 | none => 0) (some (f, l)) ⟨rfl, rfl, trivial⟩ ⟨rfl, Upd.refl _ _, w, hf, Nat.le_refl _⟩ ?_
  clear w hf
  rintro q h1 δ1 ⟨rfl, u1, w1⟩ again
  cases q with
  | none =>
    obtain ⟨ho, w1⟩ := w1
    have r1 := w1.row
    clear again
    (repeat (first | refine EK.seq ?_ | refine EK.region ?_ | refine ER.done ?_ | refine ER.move rfl rfl rfl ?_ | refine ER.assign rfl rfl rfl ?_ | refine ER.nilCheck rfl rfl rfl ?_ | refine ER.fieldAddr rfl rfl rfl ?_ | refine ER.notB rfl rfl rfl ?_ | refine EK.condF rfl ?_ | refine EK.ret ?_ | refine EK.exit rfl ?_ | refine ER.load1 rfl rfl rfl (by assumption) ?_))
    exact EU.ret1 rfl rfl ⟨rfl, u1, .inr ⟨rfl, ho, w1⟩⟩
  | some q =>
    obtain ⟨f1, l1⟩ := q
    obtain ⟨w1, hf1, hl1⟩ := w1
    obtain ⟨f2, rfl⟩ : ∃ f2, f1 = f2 + 1 := ⟨f1 - 1, by omega⟩
    have r1 := w1.row
    dsimp only at w1 again
    unfold getP at w1
    (repeat (first | refine EK.seq ?_ | refine EK.region ?_ | refine ER.done ?_ | refine EK.skip ?_ | refine EK.block ?_ | refine ER.move rfl rfl rfl ?_ | refine ER.nilCheck rfl rfl rfl ?_ | refine ER.fieldAddr rfl rfl rfl ?_ | refine ER.notB rfl rfl rfl ?_ | refine EK.condT rfl ?_ | refine ER.load1 rfl rfl rfl (by assumption) ?_))
    refine ER.callR rfl rfl rfl rfl rfl rlist_ok ?_
    rintro _ h2 δ2 ⟨rfl, rfl, u2⟩
    replace w1 := w1.upd0 u2
    replace u1 : Upd (WT s x) h h2 := u1.trans (u2.mono (fun _ _ z => z.elim))
    clear u2 r1
    refine ER.callR rfl rfl rfl rfl rfl (wload_ok C hpf w1 (by rw [hw]; exact (N.c c hc).symm)) ?_
    clear w1
    rintro _ h3 δ3 ⟨rfl, u3, ⟨v, l2, e1, hv, w3⟩ | ⟨ho, rfl, w3⟩⟩
    · dsimp only at w3 hv
      subst hv
      replace u1 := u1.trans u3
      have hl2 : l2.length + 1 = l1.length := by rw [e1]; rfl
      clear e1 u3
      (repeat (first | refine EK.seq ?_ | refine EK.region ?_ | refine ER.done ?_ | refine ER.move rfl rfl rfl ?_ | refine ER.assign rfl rfl rfl ?_))
      refine ER.callD rfl rfl rfl rfl rfl rnode_ok ?_
      by_cases hz : v % 65536 = 0
      · rw [if_pos hz] at w3
        (repeat (first | refine EK.seq ?_ | refine EK.region ?_ | refine ER.done ?_ | refine ER.assign rfl rfl rfl ?_ | refine ER.cmpT rfl rfl rfl rfl rfl (by first | (dsimp only [cmpP]; omega) | exact rfl | exact Int.le_refl _) ?_ | refine EK.condT rfl ?_ | refine EK.ret ?_))
        exact EU.ret1 rfl rfl ⟨rfl, u1, .inl ⟨0, l2, rfl, by omega, by omega, w3⟩⟩
      · rw [if_neg hz] at w3
        have hcl := w3.cell C hpf
        obtain ⟨kk, hk⟩ : ∃ kk : Nat, v % 65536 = kk := ⟨(v % 65536).toNat, by omega⟩
        have ho := N.out _ hcl
        rw [hk, Int.toNat_natCast] at ho w3
        (repeat (first | refine EK.seq ?_ | refine EK.region ?_ | refine ER.done ?_ | refine EK.skip ?_ | refine ER.move rfl rfl rfl ?_ | refine ER.cmpF rfl rfl rfl rfl rfl (by first | (dsimp only [cmpP]; omega) | exact rfl | exact Int.le_refl _) ?_ | refine EK.condF rfl ?_))
        refine ER.callD rfl rfl rfl rfl rfl rnode_ok ?_
        skip
        refine ER.callR rfl rfl rfl rfl rfl rnext_ok ?_
        rintro _ h4 δ4 ⟨rfl, rfl, u4⟩
        replace w3 := w3.upd0 u4
        replace u1 : Upd (WT s x) h h4 := u1.trans (u4.mono (fun _ _ z => z.elim))
        clear u4
        refine ER.callR rfl rfl rfl rfl rfl (wload_ok C hpf w3 (by rw [hk]; exact (N.x kk (by omega)).symm)) ?_
        clear w3
        rintro _ h5 δ5 ⟨rfl, u5, ⟨m, l3, e2, hv, w5⟩ | ⟨ho, rfl, w5⟩⟩
        · dsimp only at w5 hv
          subst hv
          replace u1 := u1.trans u5
          have hl3 : l3.length + 1 = l2.length := by rw [e2]; rfl
          clear e2 u5
          (repeat (first | refine EK.seq ?_ | refine EK.region ?_ | refine ER.done ?_ | refine ER.move rfl rfl rfl ?_ | refine ER.assign rfl rfl rfl ?_))
          refine ER.callR rfl rfl rfl rfl rfl rlist_ok ?_
          rintro _ h6 δ6 ⟨rfl, rfl, u6⟩
          replace w5 := w5.upd0 u6
          replace u1 : Upd (WT s x) h h6 := u1.trans (u6.mono (fun _ _ z => z.elim))
          clear u6
          (repeat refine ER.move rfl rfl rfl ?_)
          refine ER.callD rfl rfl rfl rfl rfl rlaid_ok ?_
          refine ER.callR rfl rfl rfl rfl rfl (wcas_ok C hpf w5 (by rw [hw]; exact (N.c c hc).symm)) ?_
          clear w5
          rintro _ h7 δ7 ⟨rfl, u7, ⟨w', l4, e3, hv, w7⟩ | ⟨ho, rfl, w7⟩⟩
          · dsimp only at w7 hv
            replace u1 := u1.trans u7
            have hl4 : l4.length + 1 = l3.length := by rw [e3]; rfl
            by_cases hww : w' = v
            · rw [if_pos hww] at w7
              rw [decide_eq_true hww] at hv
              subst hv
              (repeat (first | refine EK.seq ?_ | refine EK.region ?_ | refine ER.done ?_ | refine ER.move rfl rfl rfl ?_ | refine EK.condT rfl ?_))
              refine ER.callD rfl rfl rfl rfl rfl rnode_ok ?_
              (repeat (first | refine ER.done ?_ | refine ER.assign rfl rfl rfl ?_ | refine EK.ret ?_))
              exact EU.ret1 rfl rfl ⟨rfl, u1, .inl ⟨v % 65536, l4, rfl, by omega, by omega, by rw [hk]; exact w7⟩⟩
            · rw [if_neg hww] at w7
              rw [decide_eq_false hww] at hv
              subst hv
              (repeat (first | refine ER.done ?_ | refine EK.skip ?_ | refine EK.inBlock ?_ | refine EK.condF rfl ?_))
              exact EK.back (again (some (f2, l4)) _ _ (by dsimp only; omega) ⟨rfl, u1, w7, by omega, by omega⟩) ⟨rfl, rfl, trivial⟩
          · replace u1 := u1.trans u7
            (repeat (first | refine ER.done ?_ | refine EK.skip ?_ | refine EK.inBlock ?_ | refine EK.condF rfl ?_))
            exact EK.back (again none _ _ (by dsimp only; omega) ⟨rfl, u1, ho, w7⟩) ⟨rfl, rfl, trivial⟩
        · replace u1 := u1.trans u5
          (repeat (first | refine EK.seq ?_ | refine EK.region ?_ | refine ER.done ?_ | refine ER.move rfl rfl rfl ?_ | refine ER.assign rfl rfl rfl ?_))
          refine ER.callR rfl rfl rfl rfl rfl rlist_ok ?_
          rintro _ h6 δ6 ⟨rfl, rfl, u6⟩
          replace w5 := w5.upd0 u6
          replace u1 : Upd (WT s x) h h6 := u1.trans (u6.mono (fun _ _ z => z.elim))
          (repeat refine ER.move rfl rfl rfl ?_)
          refine ER.callD rfl rfl rfl rfl rfl rlaid_ok ?_
          refine ER.callR rfl rfl rfl rfl rfl (wcas_out w5) ?_
          rintro _ h7 δ7 ⟨rfl, rfl, u7, w7⟩
          replace u1 : Upd (WT s x) h h7 := u1.trans (u7.mono (fun _ _ z => z.elim))
          (repeat (first | refine ER.done ?_ | refine EK.skip ?_ | refine EK.inBlock ?_ | refine EK.condF rfl ?_))
          exact EK.back (again none _ _ (by dsimp only; omega) ⟨rfl, u1, ho, w7⟩) ⟨rfl, rfl, trivial⟩
    · replace u1 := u1.trans u3
      (repeat (first | refine EK.seq ?_ | refine EK.region ?_ | refine ER.done ?_ | refine ER.move rfl rfl rfl ?_ | refine ER.assign rfl rfl rfl ?_))
      refine ER.callD rfl rfl rfl rfl rfl rnode_ok ?_
      (repeat (first | refine EK.seq ?_ | refine EK.region ?_ | refine ER.done ?_ | refine ER.assign rfl rfl rfl ?_ | refine ER.cmpT rfl rfl rfl rfl rfl (by first | (dsimp only [cmpP]; omega) | exact rfl | exact Int.le_refl _) ?_ | refine EK.condT rfl ?_ | refine EK.ret ?_))
      exact EU.ret1 rfl rfl ⟨rfl, u1, .inr ⟨rfl, ho, w3⟩⟩
end
end Go.Proofs.Ytcpcdnkemobneaa
end
section
namespace Go.Proofs.Ytcpcdnkemobneaa
open Go Go.TJ Go.Conc Go.Proofs
section
variable {Γ : Type} {main : Bool} {S : Sit Γ} {δ : Ix Γ} {R : Rec} {nm : Nat → Nme} {lL lW lY lV sP : Value} {h0 h h' : Hp} {W x i t n : Nat} {B : Nat → Nat} {s : WS} {picks : List Int} {X : Us} {A : Type} {pf p : Pr A} {l : List Ev} {o : List A}
def WGot0 (R : Rec) (nm : Nat → Nme) (lL lW lY lV : Value) (h0 : Hp) (W : Nat) (s : WS) (pf : Pr A) (x i : Nat) (o : List A) (p : Pr A) (m : Nat) (h : Hp) (h' : Hp) : Prop :=
  Upd (WT s x) h h' ∧ ((∃ l' : List Ev, l'.length ≤ m ∧ WIn R nm lL lW lY lV h0 W s pf x i p l' o h') ∨ (o = [] ∧ WOu R nm lL lW lY lV h0 W s x i h'))
set_option maxRecDepth 8000 in
theorem lay_out {a b : Value} (w : WOu R nm lL lW lY lV h0 W s x i h) : CallW Try.prog main (NoS (Γ := Γ)) 88 #[ptr x, a, b] h δ (Ret fun _ h' δ' => δ' = δ ∧ h' = h) := by
  have r1 := w.row
  refine CallW.start (n := 30) rfl rfl ?_
  (repeat refine EK.block ?_)
  refine EK.loop ?_
  (repeat (first | refine EK.seq ?_ | refine EK.region ?_ | refine ER.done ?_ | refine ER.move rfl rfl rfl ?_ | refine ER.nilCheck rfl rfl rfl ?_ | refine ER.fieldAddr rfl rfl rfl ?_ | refine ER.notB rfl rfl rfl ?_ | refine EK.condF rfl ?_ | refine EK.exit rfl ?_ | refine ER.load1 rfl rfl rfl (by assumption) ?_))
  exact EK.done (EU.ret0 rfl ⟨rfl, rfl⟩)
set_option maxRecDepth 8000 in
set_option maxHeartbeats 4000000 in
theorem lay_w (C : WC X picks R nm lL lW lY lV sP h0 s) (N : NmS X n B nm) (hpf : PF R i pf) {c f xn : Nat} {k : Pr A} (w : WIn R nm lL lW lY lV h0 W s pf x i (layP B c xn k f) l o h) (hc : c = 2 ∨ c = 3) (hx : xn ≤ n) (hf : l.length < f) (hn : n ≤ 4096) {wh : Int} (hw : wh = (c : Int) - 2) :
    CallW Try.prog main (NoS (Γ := Γ)) 88 #[ptr x, .int .i64 wh, .int .i64 xn] h δ (Ret fun _ h' δ' => δ' = δ ∧ WGot0 R nm lL lW lY lV h0 W s pf x i o k l.length h h') := by
  refine CallW.start (n := 30) rfl rfl ?_
  (repeat refine EK.block ?_)
  refine EK.loopInv (fun _ : Option (Nat × List Ev) => [(0, ptr x), (1, .int .i64 wh), (2, .int .i64 xn)]) (fun q h' δ' => δ' = δ ∧ Upd (WT s x) h h' ∧ WGo R nm lL lW lY lV h0 W s pf x i o (fun f => layP B c xn k f) l.length h' q) (fun q => match q with | some (f, _) => f + 1 | none => 0) (some (f, l)) ⟨rfl, rfl, rfl, trivial⟩ ⟨rfl, Upd.refl _ _, w, hf, Nat.le_refl _⟩ ?_
  clear w hf
  rintro q h1 δ1 ⟨rfl, u1, w1⟩ again
  cases q with
  | none =>
    obtain ⟨ho, w1⟩ := w1
    have r1 := w1.row
    clear again
    (repeat (first | refine EK.seq ?_ | refine EK.region ?_ | refine ER.done ?_ | refine ER.move rfl rfl rfl ?_ | refine ER.nilCheck rfl rfl rfl ?_ | refine ER.fieldAddr rfl rfl rfl ?_ | refine ER.notB rfl rfl rfl ?_ | refine EK.condF rfl ?_ | refine EK.exit rfl ?_ | refine ER.load1 rfl rfl rfl (by assumption) ?_))
    exact EK.done (EU.ret0 rfl ⟨rfl, u1, .inr ⟨ho, w1⟩⟩)
  | some q =>
    obtain ⟨f1, l1⟩ := q
    obtain ⟨w1, hf1, hl1⟩ := w1
    obtain ⟨f2, rfl⟩ : ∃ f2, f1 = f2 + 1 := ⟨f1 - 1, by omega⟩
    have r1 := w1.row
    dsimp only at w1 again
    unfold layP at w1
    (repeat (first | refine EK.seq ?_ | refine EK.region ?_ | refine ER.done ?_ | refine EK.skip ?_ | refine EK.block ?_ | refine ER.move rfl rfl rfl ?_ | refine ER.nilCheck rfl rfl rfl ?_ | refine ER.fieldAddr rfl rfl rfl ?_ | refine ER.notB rfl rfl rfl ?_ | refine EK.condT rfl ?_ | refine ER.load1 rfl rfl rfl (by assumption) ?_))
    refine ER.callR rfl rfl rfl rfl rfl rlist_ok ?_
    rintro _ h2 δ2 ⟨rfl, rfl, u2⟩
    replace w1 := w1.upd0 u2
    replace u1 : Upd (WT s x) h h2 := u1.trans (u2.mono (fun _ _ z => z.elim))
    clear u2 r1
    refine ER.callR rfl rfl rfl rfl rfl (wload_ok C hpf w1 (by rw [hw]; exact (N.c c hc).symm)) ?_
    clear w1
    rintro _ h3 δ3 ⟨rfl, u3, ⟨v, l2, e1, hv, w3⟩ | ⟨ho, rfl, w3⟩⟩
    · dsimp only at w3 hv
      subst hv
      replace u1 := u1.trans u3
      have hl2 : l2.length + 1 = l1.length := by rw [e1]; rfl
      clear e1 u3
      (repeat (first | refine EK.seq ?_ | refine EK.region ?_ | refine ER.done ?_ | refine ER.move rfl rfl rfl ?_ | refine ER.assign rfl rfl rfl ?_))
      refine ER.callR rfl rfl rfl rfl rfl rnext_ok ?_
      rintro _ h4 δ4 ⟨rfl, rfl, u4⟩
      replace w3 := w3.upd0 u4
      replace u1 : Upd (WT s x) h h4 := u1.trans (u4.mono (fun _ _ z => z.elim))
      clear u4
      (repeat refine ER.move rfl rfl rfl ?_)
      refine ER.callD rfl rfl rfl rfl rfl rnode_ok ?_
      refine ER.callR rfl rfl rfl rfl rfl (wstore_ok C hpf w3 (N.x xn hx).symm) ?_
      clear w3
      rintro _ h5 δ5 ⟨rfl, u5, ⟨m, l3, e2, -, w5⟩ | ⟨ho, -, w5⟩⟩
      · dsimp only at w5
        replace u1 := u1.trans u5
        have hl3 : l3.length + 1 = l2.length := by rw [e2]; rfl
        clear e2 u5
        (repeat (first | refine EK.seq ?_ | refine EK.region ?_ | refine ER.done ?_ | refine ER.move rfl rfl rfl ?_))
        refine ER.callR rfl rfl rfl rfl rfl rlist_ok ?_
        rintro _ h6 δ6 ⟨rfl, rfl, u6⟩
        replace w5 := w5.upd0 u6
        replace u1 : Upd (WT s x) h h6 := u1.trans (u6.mono (fun _ _ z => z.elim))
        clear u6
        (repeat refine ER.move rfl rfl rfl ?_)
        refine ER.callD rfl rfl rfl rfl rfl rlaid_ok ?_
        refine ER.callR rfl rfl rfl rfl rfl (wcas_ok C hpf w5 (by rw [hw]; exact (N.c c hc).symm)) ?_
        clear w5
        rintro _ h7 δ7 ⟨rfl, u7, ⟨w', l4, e3, hv, w7⟩ | ⟨ho, rfl, w7⟩⟩
        · dsimp only at w7 hv
          replace u1 := u1.trans u7
          have hl4 : l4.length + 1 = l3.length := by rw [e3]; rfl
          by_cases hww : w' = v
          · rw [if_pos hww] at w7
            rw [decide_eq_true hww] at hv
            subst hv
            (repeat (first | refine ER.done ?_ | refine EK.condT rfl ?_ | refine EK.ret ?_))
            exact EU.ret0 rfl ⟨rfl, u1, .inl ⟨l4, by omega, w7⟩⟩
          · rw [if_neg hww] at w7
            rw [decide_eq_false hww] at hv
            subst hv
            (repeat (first | refine ER.done ?_ | refine EK.skip ?_ | refine EK.inBlock ?_ | refine EK.condF rfl ?_))
            exact EK.back (again (some (f2, l4)) _ _ (by dsimp only; omega) ⟨rfl, u1, w7, by omega, by omega⟩) ⟨rfl, rfl, rfl, trivial⟩
        · replace u1 := u1.trans u7
          (repeat (first | refine ER.done ?_ | refine EK.skip ?_ | refine EK.inBlock ?_ | refine EK.condF rfl ?_))
          exact EK.back (again none _ _ (by dsimp only; omega) ⟨rfl, u1, ho, w7⟩) ⟨rfl, rfl, rfl, trivial⟩
      · replace u1 := u1.trans u5
        (repeat (first | refine EK.seq ?_ | refine EK.region ?_ | refine ER.done ?_ | refine ER.move rfl rfl rfl ?_))
        refine ER.callR rfl rfl rfl rfl rfl rlist_ok ?_
        rintro _ h6 δ6 ⟨rfl, rfl, u6⟩
        replace w5 := w5.upd0 u6
        replace u1 : Upd (WT s x) h h6 := u1.trans (u6.mono (fun _ _ z => z.elim))
        (repeat refine ER.move rfl rfl rfl ?_)
        refine ER.callD rfl rfl rfl rfl rfl rlaid_ok ?_
        refine ER.callR rfl rfl rfl rfl rfl (wcas_out w5) ?_
        rintro _ h7 δ7 ⟨rfl, rfl, u7, w7⟩
        replace u1 : Upd (WT s x) h h7 := u1.trans (u7.mono (fun _ _ z => z.elim))
        (repeat (first | refine ER.done ?_ | refine EK.skip ?_ | refine EK.inBlock ?_ | refine EK.condF rfl ?_))
        exact EK.back (again none _ _ (by dsimp only; omega) ⟨rfl, u1, ho, w7⟩) ⟨rfl, rfl, rfl, trivial⟩
    · replace u1 := u1.trans u3
      (repeat (first | refine EK.seq ?_ | refine EK.region ?_ | refine ER.done ?_ | refine ER.move rfl rfl rfl ?_ | refine ER.assign rfl rfl rfl ?_))
      refine ER.callR rfl rfl rfl rfl rfl rnext_ok ?_
      rintro _ h4 δ4 ⟨rfl, rfl, u4⟩
      replace w3 := w3.upd0 u4
      replace u1 : Upd (WT s x) h h4 := u1.trans (u4.mono (fun _ _ z => z.elim))
      clear u4
      (repeat refine ER.move rfl rfl rfl ?_)
      refine ER.callD rfl rfl rfl rfl rfl rnode_ok ?_
      refine ER.callR rfl rfl rfl rfl rfl (wstore_out w3) ?_
      rintro _ h5 δ5 ⟨rfl, u5, w5⟩
      replace u1 : Upd (WT s x) h h5 := u1.trans (u5.mono (fun _ _ z => z.elim))
      (repeat (first | refine EK.seq ?_ | refine EK.region ?_ | refine ER.done ?_ | refine ER.move rfl rfl rfl ?_))
      refine ER.callR rfl rfl rfl rfl rfl rlist_ok ?_
      rintro _ h6 δ6 ⟨rfl, rfl, u6⟩
      replace w5 := w5.upd0 u6
      replace u1 : Upd (WT s x) h h6 := u1.trans (u6.mono (fun _ _ z => z.elim))
      (repeat refine ER.move rfl rfl rfl ?_)
      refine ER.callD rfl rfl rfl rfl rfl rlaid_ok ?_
      refine ER.callR rfl rfl rfl rfl rfl (wcas_out w5) ?_
      rintro _ h7 δ7 ⟨rfl, rfl, u7, w7⟩
      replace u1 : Upd (WT s x) h h7 := u1.trans (u7.mono (fun _ _ z => z.elim))
      (repeat (first | refine ER.done ?_ | refine EK.skip ?_ | refine EK.inBlock ?_ | refine EK.condF rfl ?_))
      exact EK.back (again none _ _ (by dsimp only; omega) ⟨rfl, u1, ho, w7⟩) ⟨rfl, rfl, rfl, trivial⟩
end
end Go.Proofs.Ytcpcdnkemobneaa
end
section
namespace Go.Proofs.Ytcpcdnkemobneaa
open Go Go.TJ Go.Conc Go.Proofs
section
variable {Γ : Type} {main : Bool} {S : Sit Γ} {δ : Ix Γ} {R : Rec} {nm : Nat → Nme} {lL lW lY lV sP : Value} {h0 h h' : Hp} {W x i t n : Nat} {B : Nat → Nat} {s : WS} {picks : List Int} {X : Us} {pf p : Pr SAns} {l : List Ev} {o : List SAns}
theorem ans_all {y : Nat} {a : SAns} {h : Hp} (hy : h[y]? = some (sansO a)) : ∀ j, j < 3 → (∃ u, hcell h ⟨y, 0 + j, none⟩ = some u) ∧ hfroz h ⟨y, 0 + j, none⟩ = false ∧ ¬ (NoS (Γ := Γ)).still δ.g ⟨y, 0 + j, none⟩ := fun j hj => by
  refine ⟨?_, hfroz_of hy, fun x => x⟩
  rcases (show j = 0 ∨ j = 1 ∨ j = 2 by omega) with rfl | rfl | rfl <;> exact ⟨_, hcell_of hy rfl⟩
def RDid (R : Rec) (nm : Nat → Nme) (lL lW lY lV : Value) (h0 : Hp) (W : Nat) (s : WS) (pf : Pr SAns) (x i : Nat) (o : List SAns) (k : SAns → Pr SAns) (m : Nat) (h : Hp) (v : Value) (h' : Hp) : Prop :=
  Upd (WT s x) h h' ∧ ((∃ (a : SAns) (l' : List Ev), v = .agg (sansL a).toArray ∧ l'.length ≤ m ∧ WIn R nm lL lW lY lV h0 W s pf x i (k a) l' o h') ∨ ((∃ a, v = .agg (sansL a).toArray) ∧ o = [] ∧ WOu R nm lL lW lY lV h0 W s x i h'))
theorem WIn.setA {l : List Ev} (w : WIn R nm lL lW lY lV h0 W s pf x i p l o h) {y : Nat} {a : Array Value} {t : TypeId} (hy : h[y]? = some (.cells a t (0, 0))) (hy0 : h0.size ≤ y) (h1 : t ≠ 66) (h2 : t ≠ 210) (h3 : t ≠ 4) (h4 : t ≠ 2) (h5 : t ≠ 60) (ob : Obj) : WIn R nm lL lW lY lV h0 W s pf x i p l o (h.setIfInBounds y ob) := by
  obtain ⟨⟨q, I, N⟩, ⟨⟨t', q1, q2, q3⟩, g⟩, x0⟩ := w
  refine ⟨⟨q, I.other hy hy0 h1 h2 h3 h4 ob, N⟩, ⟨⟨t', q1, q2, ?_⟩, g⟩, x0⟩
  rw [get_set_ne _ (fun e => by
    rw [e, q3] at hy
    injection hy with hy
    injection hy with _ hy _
    exact h5 hy.symm)]
  exact q3
theorem WOu.setA (w : WOu R nm lL lW lY lV h0 W s x i h) {y : Nat} {a : Array Value} {t : TypeId} (hy : h[y]? = some (.cells a t (0, 0))) (hy0 : h0.size ≤ y) (h1 : t ≠ 66) (h2 : t ≠ 210) (h3 : t ≠ 4) (h4 : t ≠ 2) (h5 : t ≠ 60) (ob : Obj) : WOu R nm lL lW lY lV h0 W s x i (h.setIfInBounds y ob) := by
  obtain ⟨⟨q, I, N⟩, ⟨⟨t', q1, q2, q3⟩, g⟩, x0⟩ := w
  refine ⟨⟨q, I.other hy hy0 h1 h2 h3 h4 ob, N⟩, ⟨⟨t', q1, q2, ?_⟩, g⟩, x0⟩
  rw [get_set_ne _ (fun e => by
    rw [e, q3] at hy
    injection hy with hy
    injection hy with _ hy _
    exact h5 hy.symm)]
  exact q3
set_option maxRecDepth 8000 in
set_option maxHeartbeats 16000000 in
theorem does_w (C : WC X picks R nm lL lW lY lV sP h0 s) (N : NmS X n B nm) (hpf : PF R i pf) {q : SCall} {f : Nat} {k : SAns → Pr SAns} {mv : Int} (w : WIn R nm lL lW lY lV h0 W s pf x i (callS B f q k) l o h) (hf : l.length < f) (hn : n ≤ 4096) :
    CallW Try.prog main (NoS (Γ := Γ)) 23 #[ptr x, .agg #[.int .i64 mv], .agg (scallL q).toArray] h δ (Ret fun v h' δ' => δ' = δ ∧ RDid R nm lL lW lY lV h0 W s pf x i o k l.length h v h') := by
  obtain ⟨d, v⟩ := q
  have wt := w.wt
  have hh0 : h0.size ≤ h.size := by have := (wt x (.inl rfl)); omega
  obtain ⟨y5, hy5⟩ : ∃ y5, y5 = h.size + 1 := ⟨_, rfl⟩
  obtain ⟨y6, hy6⟩ : ∃ y6, y6 = h.size + 1 + 1 := ⟨_, rfl⟩
  refine CallW.start (n := 56) rfl rfl ?_
  (repeat (first | refine EK.seq ?_ | refine EK.region ?_ | refine ER.done ?_ | refine ER.fieldAddr rfl rfl rfl ?_ | refine ER.boxA rfl rfl rfl ?_ | refine ER.allocA rfl rfl ?_))
  simp only [Array.size_push]
  have u0 : Upd (fun _ => False) h (((h.push (.cells #[.int .i64 mv] 23)).push (.cells (scallL (d, v)).toArray 39)).push (sansO (0, false, 0))) := ((Upd.push _ _).trans (Upd.push _ _)).trans (Upd.push _ _)
  refine ER.gen (fun h' => WIn R nm lL lW lY lV h0 W s pf x i (callS B f (d, v) k) l o h' ∧ Upd (fun _ => False) h h' ∧ h'[y5]? = some (.cells (scallL (d, v)).toArray 39 (0, 0)) ∧ h'[y6]? = some (sansO (0, false, 0))) ⟨w.upd0 u0, u0, ?_, ?_⟩ ?_
  · have := get_push (o := sansO (0, false, 0)) (get_push_new (h.push (.cells #[.int .i64 mv] 23)) (.cells (scallL (d, v)).toArray 39))
    rw [Array.size_push] at this
    rw [hy5]; exact this
  · have := get_push_new ((h.push (.cells #[.int .i64 mv] 23)).push (.cells (scallL (d, v)).toArray 39)) (sansO (0, false, 0))
    rw [Array.size_push, Array.size_push] at this
    rw [hy6]; exact this
  rw [← hy6, ← hy5]
  clear w u0
  rintro h1 ⟨w, u1, g5, g6⟩
  have nT : ∀ c, WT s x c → c < h.size := fun c hc => (wt c hc).2
  have nt5 : ¬ WT s x y5 := fun hc => by have := nT _ hc; omega
  have nt6 : ¬ WT s x y6 := fun hc => by have := nT _ hc; omega
  have u1' : Upd (WT s x) h h1 := u1.mono (fun _ _ z => z.elim)
  clear u1
  by_cases h0' : d = 0
  · subst h0'
    rw [callS0] at w
    unfold pushP at w
    (repeat (first | refine EK.seq ?_ | refine EK.region ?_ | refine ER.done ?_ | refine EK.block ?_ | refine ER.move rfl rfl rfl ?_ | refine ER.assign rfl rfl rfl ?_ | refine ER.load1 rfl rfl rfl (hcell_of (by assumption) rfl) ?_ | refine ER.cmpT rfl rfl rfl rfl rfl (by first | (dsimp only [cmpP]; omega) | exact rfl | exact Int.le_refl _) ?_ | refine EK.condT rfl ?_))
    refine ER.callR rfl rfl rfl rfl rfl (get_w C N hpf w (c := 3) (.inr rfl) hf hn rfl) ?_
    clear w
    rintro _ h2 δ2 ⟨rfl, u2, ⟨z, l2, rfl, hz0, hl2, w⟩ | ⟨rfl, ho, w⟩⟩
    · dsimp only at w
      replace g5 := u2.get g5 nt5
      replace g6 := u2.get g6 nt6
      have uu := u1'.trans u2
      clear u2 u1'
      have r2 := w.row
      by_cases hz : z = 0
      · rw [if_pos hz] at w
        (repeat (first | refine EK.seq ?_ | refine EK.region ?_ | refine ER.done ?_ | refine EK.skip ?_ | refine ER.move rfl rfl rfl ?_ | refine ER.assign rfl rfl rfl ?_ | refine ER.nilCheck rfl rfl rfl ?_ | refine ER.fieldAddr rfl rfl rfl ?_ | refine ER.cmpT rfl rfl rfl rfl rfl (by first | (dsimp only [cmpP]; omega) | exact rfl | exact Int.le_refl _) ?_ | refine EK.condT rfl ?_ | refine EK.condF rfl ?_ | refine ER.load1 rfl rfl rfl (by assumption) ?_))
        refine ER.buildS (cells := (sansL (0, false, 12)).toArray) rfl rfl (by rfl) (by rfl) ?_
        refine ER.storeN (vs := sansL (0, false, 12)) rfl rfl rfl rfl (by simp [sansL, OneCell]) (ans_all g6) ?_
        rw [row_set (c := sansL (0, false, 0)) (vs := sansL (0, false, 12)) g6 rfl]
        (repeat (first | refine ER.done ?_ | refine EK.ret ?_))
        exact EU.retCell1 (vs := sansL (0, false, 12)) rfl rfl rfl (hrow_block (rest := []) (by rw [List.append_nil]; exact get_set_same g6)) ⟨rfl, upd_then uu (Upd.set (T := fun c => c = y6) _ _ _ rfl) (fun c hc e => by omega), .inl ⟨(0, false, 12), l2, rfl, hl2, w.setA g6 (by omega) (by decide) (by decide) (by decide) (by decide) (by decide) _⟩⟩
      · rw [if_neg hz] at w
        have hcl := N.out _ (w.cell C hpf)
        obtain ⟨zn, rfl⟩ : ∃ zn : Nat, z = zn := ⟨z.toNat, by omega⟩
        rw [Int.toNat_natCast] at hcl w
        have c5 : hcell h2 ⟨y5, 1, none⟩ = some (.int .i64 v) := hcell_of g5 rfl
        (repeat (first | refine EK.seq ?_ | refine EK.region ?_ | refine ER.done ?_ | refine EK.skip ?_ | refine ER.move rfl rfl rfl ?_ | refine ER.assign rfl rfl rfl ?_ | refine ER.nilCheck rfl rfl rfl ?_ | refine ER.fieldAddr rfl rfl rfl ?_ | refine ER.cmpF rfl rfl rfl rfl rfl (by first | (dsimp only [cmpP]; omega) | exact rfl | exact Int.le_refl _) ?_ | refine EK.condF rfl ?_ | refine ER.load1 rfl rfl rfl (by assumption) ?_))
        clear r2
        refine EK.regionAny (fun h' => hcell h' ⟨y5, 1, none⟩ = some (.int .i64 v)) ?_
        have hZ : hcell h2 ⟨y5, 1, none⟩ = some (.int .i64 v) := c5
        refine EA.tMove 0 rfl (by kernel_rfl) (by kernel_rfl) (by kernel_rfl) rfl rfl rfl rfl hZ ?_
        refine EA.tMove 1 rfl (by kernel_rfl) (by kernel_rfl) (by kernel_rfl) rfl rfl rfl rfl hZ ?_
        refine EA.tField 3 rfl (by kernel_rfl) (by kernel_rfl) (by kernel_rfl) rfl rfl rfl rfl hZ ?_
        refine EA.tLoad 4 rfl (by kernel_rfl) (by kernel_rfl) (by kernel_rfl) rfl rfl rfl rfl (fun _ hz => hz) hZ ?_
        refine EA.callR 2 rfl (by kernel_rfl) rfl rfl rfl rfl rfl rfl rvalue_ok ?_
        rintro _ h3 δ3 ⟨rfl, rfl, u3⟩
        replace w := w.upd0 u3
        replace uu : Upd (WT s x) h h3 := uu.trans (u3.mono (fun _ _ z => z.elim))
        replace g6 := u3.get g6 (fun z => z)
        replace g5 := u3.get g5 (fun z => z)
        have hZ : hcell h3 ⟨y5, 1, none⟩ = some (.int .i64 v) := hcell_of g5 rfl
        refine ⟨hZ, ?_⟩
        refine EA.callR 5 rfl (by kernel_rfl) rfl rfl rfl rfl rfl rfl (wstore_ok C hpf w (N.v zn (by omega)).symm) ?_
        clear w u3
        rintro _ h4 δ4 ⟨rfl, u4, ⟨w', l3, e3, -, w⟩ | ⟨ho, -, w⟩⟩
        · dsimp only at w
          replace uu := uu.trans u4
          replace g6 := u4.get g6 nt6
          have hZ : hcell h4 ⟨y5, 1, none⟩ = some (.int .i64 v) := hcell_of (u4.get g5 nt5) rfl
          refine ⟨hZ, EA.done (by kernel_rfl) ?_⟩
          have hl3 : l3.length + 1 = l2.length := by rw [e3]; rfl
          clear u4 g5 hZ c5 e3
          (repeat (first | refine EK.region ?_ | refine ER.move rfl rfl rfl ?_))
          refine ER.callR rfl rfl rfl rfl rfl (lay_w C N hpf w (c := 2) (xn := zn) (.inl rfl) (by omega) (by omega) hn rfl) ?_
          clear w
          rintro _ h5 δ5 ⟨rfl, u5, ⟨l5, hl5, w⟩ | ⟨ho, w⟩⟩
          · replace uu := uu.trans u5
            replace g6 := u5.get g6 nt6
            (repeat (first | refine EK.seq ?_ | refine EK.region ?_ | refine ER.done ?_ | refine EK.inBlock ?_))
            refine ER.buildS (cells := (sansL (0, false, 0)).toArray) rfl rfl (by rfl) (by rfl) ?_
            refine ER.storeN (vs := sansL (0, false, 0)) rfl rfl rfl rfl (by simp [sansL, OneCell]) (ans_all g6) ?_
            rw [row_set (c := sansL (0, false, 0)) (vs := sansL (0, false, 0)) g6 rfl]
            (repeat (first | refine ER.done ?_ | refine EK.ret ?_))
            exact EU.retCell1 (vs := sansL (0, false, 0)) rfl rfl rfl (hrow_block (rest := []) (by rw [List.append_nil]; exact get_set_same g6)) ⟨rfl, upd_then uu (Upd.set (T := fun c => c = y6) _ _ _ rfl) (fun c hc e => by omega), .inl ⟨(0, false, 0), l5, rfl, by omega, w.setA g6 (by omega) (by decide) (by decide) (by decide) (by decide) (by decide) _⟩⟩
          · replace uu := uu.trans u5
            replace g6 := u5.get g6 nt6
            (repeat (first | refine EK.seq ?_ | refine EK.region ?_ | refine ER.done ?_ | refine EK.inBlock ?_))
            refine ER.buildS (cells := (sansL (0, false, 0)).toArray) rfl rfl (by rfl) (by rfl) ?_
            refine ER.storeN (vs := sansL (0, false, 0)) rfl rfl rfl rfl (by simp [sansL, OneCell]) (ans_all g6) ?_
            rw [row_set (c := sansL (0, false, 0)) (vs := sansL (0, false, 0)) g6 rfl]
            (repeat (first | refine ER.done ?_ | refine EK.ret ?_))
            exact EU.retCell1 (vs := sansL (0, false, 0)) rfl rfl rfl (hrow_block (rest := []) (by rw [List.append_nil]; exact get_set_same g6)) ⟨rfl, upd_then uu (Upd.set (T := fun c => c = y6) _ _ _ rfl) (fun c hc e => by omega), .inr ⟨⟨_, rfl⟩, ho, w.setA g6 (by omega) (by decide) (by decide) (by decide) (by decide) (by decide) _⟩⟩
        · replace uu := uu.trans u4
          replace g6 := u4.get g6 nt6
          have hZ : hcell h4 ⟨y5, 1, none⟩ = some (.int .i64 v) := hcell_of (u4.get g5 nt5) rfl
          refine ⟨hZ, EA.done (by kernel_rfl) ?_⟩
          clear u4 g5 hZ c5
          (repeat (first | refine EK.region ?_ | refine ER.move rfl rfl rfl ?_))
          refine ER.callR rfl rfl rfl rfl rfl (lay_out w) ?_
          rintro _ h5 δ5 ⟨rfl, rfl⟩
          (repeat (first | refine EK.seq ?_ | refine EK.region ?_ | refine ER.done ?_ | refine EK.inBlock ?_))
          refine ER.buildS (cells := (sansL (0, false, 0)).toArray) rfl rfl (by rfl) (by rfl) ?_
          refine ER.storeN (vs := sansL (0, false, 0)) rfl rfl rfl rfl (by simp [sansL, OneCell]) (ans_all g6) ?_
          rw [row_set (c := sansL (0, false, 0)) (vs := sansL (0, false, 0)) g6 rfl]
          (repeat (first | refine ER.done ?_ | refine EK.ret ?_))
          exact EU.retCell1 (vs := sansL (0, false, 0)) rfl rfl rfl (hrow_block (rest := []) (by rw [List.append_nil]; exact get_set_same g6)) ⟨rfl, upd_then uu (Upd.set (T := fun c => c = y6) _ _ _ rfl) (fun c hc e => by omega), .inr ⟨⟨_, rfl⟩, ho, w.setA g6 (by omega) (by decide) (by decide) (by decide) (by decide) (by decide) _⟩⟩
    · replace g6 := u2.get g6 nt6
      have uu := u1'.trans u2
      have r2 := w.row
      (repeat (first | refine EK.seq ?_ | refine EK.region ?_ | refine ER.done ?_ | refine ER.move rfl rfl rfl ?_ | refine ER.assign rfl rfl rfl ?_ | refine ER.nilCheck rfl rfl rfl ?_ | refine ER.fieldAddr rfl rfl rfl ?_ | refine EK.condT rfl ?_ | refine ER.load1 rfl rfl rfl (by assumption) ?_))
      refine ER.buildS (cells := (sansL (0, false, 0)).toArray) rfl rfl (by rfl) (by rfl) ?_
      refine ER.storeN (vs := sansL (0, false, 0)) rfl rfl rfl rfl (by simp [sansL, OneCell]) (ans_all g6) ?_
      rw [row_set (c := sansL (0, false, 0)) (vs := sansL (0, false, 0)) g6 rfl]
      (repeat (first | refine ER.done ?_ | refine EK.ret ?_))
      exact EU.retCell1 (vs := sansL (0, false, 0)) rfl rfl rfl (hrow_block (rest := []) (by rw [List.append_nil]; exact get_set_same g6)) ⟨rfl, upd_then uu (Upd.set (T := fun c => c = y6) _ _ _ rfl) (fun c hc e => by omega), .inr ⟨⟨_, rfl⟩, ho, w.setA g6 (by omega) (by decide) (by decide) (by decide) (by decide) (by decide) _⟩⟩
  · by_cases h1' : d = 1
    · subst h1'
      rw [callS1] at w
      unfold popP at w
      (repeat (first | refine EK.seq ?_ | refine EK.region ?_ | refine ER.done ?_ | refine EK.block ?_ | refine ER.move rfl rfl rfl ?_ | refine ER.assign rfl rfl rfl ?_ | refine ER.load1 rfl rfl rfl (hcell_of (by assumption) rfl) ?_ | refine ER.cmpT rfl rfl rfl rfl rfl (by first | (dsimp only [cmpP]; omega) | exact rfl | exact Int.le_refl _) ?_ | refine ER.cmpF rfl rfl rfl rfl rfl (by first | (dsimp only [cmpP]; omega) | exact rfl | exact Int.le_refl _) ?_ | refine EK.condT rfl ?_ | refine EK.condF rfl ?_))
      refine ER.callR rfl rfl rfl rfl rfl (get_w C N hpf w (c := 2) (.inl rfl) hf hn rfl) ?_
      clear w
      rintro _ h2 δ2 ⟨rfl, u2, ⟨z, l2, rfl, hz0, hl2, w⟩ | ⟨rfl, ho, w⟩⟩
      · dsimp only at w
        replace g6 := u2.get g6 nt6
        have uu := u1'.trans u2
        clear u2 u1' g5
        have r2 := w.row
        by_cases hz : z = 0
        · rw [if_pos hz] at w
          (repeat (first | refine EK.seq ?_ | refine EK.region ?_ | refine ER.done ?_ | refine ER.move rfl rfl rfl ?_ | refine ER.assign rfl rfl rfl ?_ | refine ER.no rfl rfl ?_ | refine ER.pickT rfl rfl rfl rfl ?_ | refine ER.cmpT rfl rfl rfl rfl rfl (by first | (dsimp only [cmpP]; omega) | exact rfl | exact Int.le_refl _) ?_ | refine EK.condT rfl ?_))
          refine ER.buildS (cells := (sansL (0, false, 0)).toArray) rfl rfl (by rfl) (by rfl) ?_
          refine ER.storeN (vs := sansL (0, false, 0)) rfl rfl rfl rfl (by simp [sansL, OneCell]) (ans_all g6) ?_
          rw [row_set (c := sansL (0, false, 0)) (vs := sansL (0, false, 0)) g6 rfl]
          (repeat (first | refine ER.done ?_ | refine EK.ret ?_))
          exact EU.retCell1 (vs := sansL (0, false, 0)) rfl rfl rfl (hrow_block (rest := []) (by rw [List.append_nil]; exact get_set_same g6)) ⟨rfl, upd_then uu (Upd.set (T := fun c => c = y6) _ _ _ rfl) (fun c hc e => by omega), .inl ⟨(0, false, 0), l2, rfl, hl2, w.setA g6 (by omega) (by decide) (by decide) (by decide) (by decide) (by decide) _⟩⟩
        · rw [if_neg hz] at w
          have hcl := N.out _ (w.cell C hpf)
          obtain ⟨zn, rfl⟩ : ∃ zn : Nat, z = zn := ⟨z.toNat, by omega⟩
          rw [Int.toNat_natCast] at hcl w
          (repeat (first | refine EK.seq ?_ | refine EK.region ?_ | refine ER.done ?_ | refine EK.skip ?_ | refine ER.move rfl rfl rfl ?_ | refine ER.assign rfl rfl rfl ?_ | refine ER.nilCheck rfl rfl rfl ?_ | refine ER.fieldAddr rfl rfl rfl ?_ | refine ER.pickF rfl rfl rfl rfl ?_ | refine ER.cmpF rfl rfl rfl rfl rfl (by first | (dsimp only [cmpP]; omega) | exact rfl | exact Int.le_refl _) ?_ | refine EK.condF rfl ?_ | refine ER.load1 rfl rfl rfl (by assumption) ?_))
          refine ER.callR rfl rfl rfl rfl rfl rvalue_ok ?_
          rintro _ h3 δ3 ⟨rfl, rfl, u3⟩
          replace w := w.upd0 u3
          replace uu : Upd (WT s x) h h3 := uu.trans (u3.mono (fun _ _ z => z.elim))
          replace g6 := u3.get g6 (fun z => z)
          clear u3 r2
          refine ER.callR rfl rfl rfl rfl rfl (wload_ok C hpf w (N.v zn (by omega)).symm) ?_
          clear w
          rintro _ h4 δ4 ⟨rfl, u4, ⟨w', l3, e3, hv, w⟩ | ⟨ho, rfl, w⟩⟩
          · dsimp only at w hv
            subst hv
            replace uu := uu.trans u4
            replace g6 := u4.get g6 nt6
            have hl3 : l3.length + 1 = l2.length := by rw [e3]; rfl
            clear u4 e3
            (repeat (first | refine EK.seq ?_ | refine EK.region ?_ | refine ER.done ?_ | refine ER.move rfl rfl rfl ?_ | refine ER.assign rfl rfl rfl ?_))
            refine ER.callR rfl rfl rfl rfl rfl (lay_w C N hpf w (c := 3) (xn := zn) (.inr rfl) (by omega) (by omega) hn rfl) ?_
            clear w
            rintro _ h5 δ5 ⟨rfl, u5, ⟨l5, hl5, w⟩ | ⟨ho, w⟩⟩
            · replace uu := uu.trans u5
              replace g6 := u5.get g6 nt6
              (repeat (first | refine EK.seq ?_ | refine EK.region ?_ | refine ER.done ?_ | refine ER.move rfl rfl rfl ?_))
              refine ER.buildS (cells := (sansL (w', true, 0)).toArray) rfl rfl (by rfl) (by rfl) ?_
              refine ER.storeN (vs := sansL (w', true, 0)) rfl rfl rfl rfl (by simp [sansL, OneCell]) (ans_all g6) ?_
              rw [row_set (c := sansL (0, false, 0)) (vs := sansL (w', true, 0)) g6 rfl]
              (repeat (first | refine ER.done ?_ | refine EK.ret ?_))
              exact EU.retCell1 (vs := sansL (w', true, 0)) rfl rfl rfl (hrow_block (rest := []) (by rw [List.append_nil]; exact get_set_same g6)) ⟨rfl, upd_then uu (Upd.set (T := fun c => c = y6) _ _ _ rfl) (fun c hc e => by omega), .inl ⟨(w', true, 0), l5, rfl, by omega, w.setA g6 (by omega) (by decide) (by decide) (by decide) (by decide) (by decide) _⟩⟩
            · replace uu := uu.trans u5
              replace g6 := u5.get g6 nt6
              (repeat (first | refine EK.seq ?_ | refine EK.region ?_ | refine ER.done ?_ | refine ER.move rfl rfl rfl ?_))
              refine ER.buildS (cells := (sansL (w', true, 0)).toArray) rfl rfl (by rfl) (by rfl) ?_
              refine ER.storeN (vs := sansL (w', true, 0)) rfl rfl rfl rfl (by simp [sansL, OneCell]) (ans_all g6) ?_
              rw [row_set (c := sansL (0, false, 0)) (vs := sansL (w', true, 0)) g6 rfl]
              (repeat (first | refine ER.done ?_ | refine EK.ret ?_))
              exact EU.retCell1 (vs := sansL (w', true, 0)) rfl rfl rfl (hrow_block (rest := []) (by rw [List.append_nil]; exact get_set_same g6)) ⟨rfl, upd_then uu (Upd.set (T := fun c => c = y6) _ _ _ rfl) (fun c hc e => by omega), .inr ⟨⟨_, rfl⟩, ho, w.setA g6 (by omega) (by decide) (by decide) (by decide) (by decide) (by decide) _⟩⟩
          · replace uu := uu.trans u4
            replace g6 := u4.get g6 nt6
            (repeat (first | refine EK.seq ?_ | refine EK.region ?_ | refine ER.done ?_ | refine ER.move rfl rfl rfl ?_ | refine ER.assign rfl rfl rfl ?_))
            refine ER.callR rfl rfl rfl rfl rfl (lay_out w) ?_
            rintro _ h5 δ5 ⟨rfl, rfl⟩
            (repeat (first | refine EK.seq ?_ | refine EK.region ?_ | refine ER.done ?_ | refine ER.move rfl rfl rfl ?_))
            refine ER.buildS (cells := (sansL (0, true, 0)).toArray) rfl rfl (by rfl) (by rfl) ?_
            refine ER.storeN (vs := sansL (0, true, 0)) rfl rfl rfl rfl (by simp [sansL, OneCell]) (ans_all g6) ?_
            rw [row_set (c := sansL (0, false, 0)) (vs := sansL (0, true, 0)) g6 rfl]
            (repeat (first | refine ER.done ?_ | refine EK.ret ?_))
            exact EU.retCell1 (vs := sansL (0, true, 0)) rfl rfl rfl (hrow_block (rest := []) (by rw [List.append_nil]; exact get_set_same g6)) ⟨rfl, upd_then uu (Upd.set (T := fun c => c = y6) _ _ _ rfl) (fun c hc e => by omega), .inr ⟨⟨(0, true, 0), rfl⟩, ho, w.setA g6 (by omega) (by decide) (by decide) (by decide) (by decide) (by decide) _⟩⟩
      · replace g6 := u2.get g6 nt6
        have uu := u1'.trans u2
        have r2 := w.row
        (repeat (first | refine EK.seq ?_ | refine EK.region ?_ | refine ER.done ?_ | refine ER.move rfl rfl rfl ?_ | refine ER.assign rfl rfl rfl ?_ | refine ER.no rfl rfl ?_ | refine ER.pickT rfl rfl rfl rfl ?_ | refine ER.cmpT rfl rfl rfl rfl rfl (by first | (dsimp only [cmpP]; omega) | exact rfl | exact Int.le_refl _) ?_ | refine EK.condT rfl ?_))
        refine ER.buildS (cells := (sansL (0, false, 0)).toArray) rfl rfl (by rfl) (by rfl) ?_
        refine ER.storeN (vs := sansL (0, false, 0)) rfl rfl rfl rfl (by simp [sansL, OneCell]) (ans_all g6) ?_
        rw [row_set (c := sansL (0, false, 0)) (vs := sansL (0, false, 0)) g6 rfl]
        (repeat (first | refine ER.done ?_ | refine EK.ret ?_))
        exact EU.retCell1 (vs := sansL (0, false, 0)) rfl rfl rfl (hrow_block (rest := []) (by rw [List.append_nil]; exact get_set_same g6)) ⟨rfl, upd_then uu (Upd.set (T := fun c => c = y6) _ _ _ rfl) (fun c hc e => by omega), .inr ⟨⟨_, rfl⟩, ho, w.setA g6 (by omega) (by decide) (by decide) (by decide) (by decide) (by decide) _⟩⟩
    · rw [callS2 h0' h1'] at w
      have uu := u1'
      (repeat (first | refine EK.seq ?_ | refine EK.region ?_ | refine ER.done ?_ | refine EK.skip ?_ | refine EK.block ?_ | refine EK.inBlock ?_ | refine ER.assign rfl rfl rfl ?_ | refine ER.load1 rfl rfl rfl (hcell_of (by assumption) rfl) ?_ | refine ER.cmpF rfl rfl rfl rfl rfl (by first | (dsimp only [cmpP]; omega) | exact rfl | exact Int.le_refl _) ?_ | refine EK.condF rfl ?_))
      refine ER.buildS (cells := (sansL (0, false, 0)).toArray) rfl rfl (by rfl) (by rfl) ?_
      refine ER.storeN (vs := sansL (0, false, 0)) rfl rfl rfl rfl (by simp [sansL, OneCell]) (ans_all g6) ?_
      rw [row_set (c := sansL (0, false, 0)) (vs := sansL (0, false, 0)) g6 rfl]
      (repeat (first | refine ER.done ?_ | refine EK.ret ?_))
      exact EU.retCell1 (vs := sansL (0, false, 0)) rfl rfl rfl (hrow_block (rest := []) (by rw [List.append_nil]; exact get_set_same g6)) ⟨rfl, upd_then uu (Upd.set (T := fun c => c = y6) _ _ _ rfl) (fun c hc e => by omega), .inl ⟨(0, false, 0), l, rfl, Nat.le_refl _, w.setA g6 (by omega) (by decide) (by decide) (by decide) (by decide) (by decide) _⟩⟩
end
end Go.Proofs.Ytcpcdnkemobneaa
end
section
namespace Go.Proofs.Ytcpcdnkemobneaa
open Go Go.TJ Go.Conc Go.Proofs
section
variable {Γ : Type} {main : Bool} {S : Sit Γ} {δ : Ix Γ} {h h' : Hp} {base : Nat} {scv pv : Value} {sc : List (List SCall)} {N : Int}
theorem copy_ok {vs : List Value} {sv : Value} (hs : RdS h sv vs) (hl : vs.length ≤ 2000) : CallW Try.prog main S 18 #[sv] h δ (Ret fun v h' δ' => δ' = δ ∧ SliceO h' v 3 1 vs.length vs ∧ Upd (fun _ => False) h h' ∧ ∀ b, blk v = some b → b = h.size) := by
  refine CallW.start (n := 7) rfl rfl ?_
  (repeat (first | refine EK.seq ?_ | refine EK.region ?_ | refine ER.done ?_ | refine ER.move rfl rfl rfl ?_ | refine ER.assign rfl rfl rfl ?_))
  refine ER.appendNil rfl rfl rfl rfl hs (by omega) (by omega) rfl ?_
  intro s' h' sl u hb
  (repeat (first | refine ER.done ?_ | refine ER.assign rfl rfl rfl ?_ | refine EK.ret ?_))
  exact EU.ret1 rfl rfl ⟨rfl, sl, u, hb⟩
set_option maxRecDepth 8000 in
set_option maxHeartbeats 4000000 in
theorem snew_ok {n : Nat} (hn1 : 1 ≤ n) (hn : n ≤ 200) {a : Option Addr} {k : Nat} (hsl : sc.length ≤ 8) :
    CallW Try.prog main (NoS (Γ := Γ)) 14 #[.agg #[.int .i64 n, .slice a sc.length k, pv]] h δ (Ret fun v h' δ' => δ' = δ ∧ Upd (fun _ => False) h h' ∧ ∃ (S0 T : Nat) (B : Nat → Nat), v = ptr S0 ∧
      h'[S0]? = some (.cells #[ptr (B 0), .slice (some ⟨T, 0, none⟩) sc.length sc.length] 44 (0, 0)) ∧ h'[T]? = some (.cells (List.replicate sc.length nilS).toArray 40 (0, 0)) ∧
      Rep h' (stkM n B fun k => if k = 2 then 0 else if k = 3 then 1 else if k % 2 = 0 then (((k - 4) / 2 + 1) % (n + 1) : Nat) else 0) ∧ (∀ k, k < 6 + 2 * n → h.size ≤ B k) ∧ h.size ≤ S0 ∧ h.size ≤ T) := by
  refine CallW.start (n := 25) rfl rfl ?_
  have gp0 := get_push_new h (.cells #[.int .i64 n, .slice a sc.length k, pv] 27)
  (repeat (first | refine EK.seq ?_ | refine EK.region ?_ | refine ER.done ?_ | refine ER.assign rfl rfl rfl ?_ | refine ER.fieldAddr rfl rfl rfl ?_ | refine ER.load1 rfl rfl rfl (hcell_of (by assumption) rfl) ?_ | refine ER.boxA rfl rfl rfl ?_))
  refine ER.callR rfl rfl rfl rfl rfl (stknew_ok (n := n) hn1 (by omega) (fun _ _ _ x => x)) ?_
  rintro _ h2 δ2 ⟨rfl, u2, B, rfl, r2, ab⟩
  have u02 : Upd (fun _ => False) h h2 := (Upd.push _ _).trans u2
  have gp : h2[h.size]? = some (.cells #[.int .i64 n, .slice a sc.length k, pv] 27 (0, 0)) := u2.get (get_push_new _ _) (fun x => x)
  have ab' : ∀ k, k < 6 + 2 * n → h.size ≤ B k := fun k hk => by have := ab k hk; rw [Array.size_push] at this; omega
  have y1 : hcell h2 ⟨h.size, 1, none⟩ = some (.slice a sc.length k) := hcell_of gp rfl
  revert r2
  generalize (fun k => if k = 2 then (0 : Int) else if k = 3 then 1 else if k % 2 = 0 then (((k - 4) / 2 + 1) % (n + 1) : Nat) else 0) = v1
  intro r2
  clear ab u2
  (repeat (first | refine EK.seq ?_ | refine EK.region ?_ | refine ER.done ?_ | refine EK.skip ?_ | refine ER.move rfl rfl rfl ?_ | refine ER.assign rfl rfl rfl ?_ | refine ER.fieldAddr rfl rfl rfl ?_ | refine ER.load1 rfl rfl rfl (hcell_of (by assumption) rfl) ?_ | refine ER.eqV rfl rfl rfl rfl rfl ?_ | refine ER.pickF rfl rfl rfl rfl ?_ | refine ER.extract rfl rfl rfl rfl ?_ | refine ER.cmpF rfl rfl rfl rfl rfl (by first | (dsimp only [cmpP]; omega) | exact rfl | exact Int.le_refl _) ?_ | refine ER.len1 rfl rfl rfl ?_ | refine EK.condF rfl ?_))
  refine ER.makeSlice rfl rfl rfl rfl (by omega) (by omega) rfl ?_
  rintro s h3 sl eh hb
  have hh2 := u02.size
  have gpT := get_push_new h2 (.cells (List.replicate sc.length nilS).toArray 40)
  obtain ⟨T, hT⟩ : ∃ T, T = h2.size := ⟨_, rfl⟩
  have es : s = .slice (some ⟨T, 0, none⟩) sc.length sc.length := by
    obtain ⟨_, ⟨rfl, _⟩ | ⟨b, cap, rest, rfl, q1, q2, q3⟩⟩ := sl
    · cases hb
    · cases hb
      have q4 : h3[h2.size]? = some (.cells (List.replicate sc.length nilS).toArray 40 (0, 0)) := by rw [eh]; exact gpT
      have q5 := q4.symm.trans q3
      injection q5 with q5
      injection q5 with q5 _ _
      have q6 := congrArg Array.size q5
      simp only [List.size_toArray, List.length_append, List.length_replicate] at q6
      have : cap = sc.length := by omega
      rw [this, hT]
      rfl
  subst es
  have u3 : Upd (fun _ => False) h2 h3 := by rw [eh]; exact Upd.push _ _
  have gT : h3[T]? = some (.cells (List.replicate sc.length nilS).toArray 40 (0, 0)) := by rw [eh, hT]; exact gpT
  replace r2 := r2.upd0 u3
  have uu := u02.trans u3
  clear sl eh hb gpT y1 gp gp0 u3 u02
  refine ER.buildS (cells := #[ptr (B 0), .slice (some ⟨T, 0, none⟩) sc.length sc.length]) rfl rfl (by rfl) (by rfl) ?_
  (repeat (first | refine ER.done ?_ | refine ER.assign rfl rfl rfl ?_ | refine ER.boxA rfl rfl rfl ?_ | refine EK.ret ?_))
  have hs3 := uu.size
  exact EU.ret1 rfl rfl ⟨rfl, uu.trans (Upd.push _ _), _, T, B, rfl, get_push_new _ _, get_push _ gT, r2.upd0 (Upd.push _ _), ab', hs3, by omega⟩
end
end Go.Proofs.Ytcpcdnkemobneaa
end
section
namespace Go.Proofs.Ytcpcdnkemobneaa
open Go Go.TJ Go.Conc Go.Proofs
structure WkR (R : Rec) (lL lW lY lV : Value) (h0 : Hp) (W : Nat) (nl : List Nme) (gl : List Bool) (fl : List Int) (hl : List Nme) (ol : List Int) (nv gv fv hv ov : Value) (h : Hp) : Prop where
  up : Upd (fun _ => False) h0 h
  row : h[W]? = some (wkO R.e R.log.length lL lW lY lV ⟨[], [], nv, gv, fv, hv, ov⟩)
  nms : SliceO h nv 210 2 nl.length (nl.flatMap nmeL)
  giv : SliceO h gv 4 1 gl.length (gl.map Value.bool)
  fst : SliceO h fv 2 1 fl.length (fl.map fun x => Value.int .i64 x)
  hav : SliceO h hv 210 2 hl.length (hl.flatMap nmeL)
  hol : SliceO h ov 2 1 ol.length (ol.map fun x => Value.int .i64 x)
  nW : h0.size ≤ W
  n1 : ∀ b, blk nv = some b → h0.size ≤ b
  n2 : ∀ b, blk gv = some b → h0.size ≤ b
  n3 : ∀ b, blk fv = some b → h0.size ≤ b
  n4 : ∀ b, blk hv = some b → h0.size ≤ b
  n5 : ∀ b, blk ov = some b → h0.size ≤ b
  a1 : ∀ b, blk nv = some b → blk hv ≠ some b
  a2 : ∀ b, blk fv = some b → blk ov ≠ some b
section
variable {R : Rec} {lL lW lY lV : Value} {h0 h h1 : Hp} {W : Nat} {nl : List Nme} {gl : List Bool} {fl : List Int} {hl : List Nme} {ol : List Int} {nv gv fv hv ov s' : Value}
theorem WkR.upd0 (I : WkR R lL lW lY lV h0 W nl gl fl hl ol nv gv fv hv ov h) (u : Upd (fun _ => False) h h1) : WkR R lL lW lY lV h0 W nl gl fl hl ol nv gv fv hv ov h1 :=
  ⟨I.up.trans u, u.get I.row (fun x => x), I.nms.upd u (fun _ _ x => x), I.giv.upd u (fun _ _ x => x), I.fst.upd u (fun _ _ x => x), I.hav.upd u (fun _ _ x => x), I.hol.upd u (fun _ _ x => x), I.nW, I.n1, I.n2, I.n3, I.n4, I.n5, I.a1, I.a2⟩
theorem WkR.app_nms {x : Nme} (I : WkR R lL lW lY lV h0 W nl gl fl hl ol nv gv fv hv ov h) (u : Upd (fun b => blk nv = some b) h h1) (sl : SliceO h1 s' 210 2 (nl.length + 1) ((nl.flatMap nmeL) ++ nmeL x)) (hb : ∀ b, blk s' = some b → blk nv = some b ∨ h.size ≤ b) :
    WkR R lL lW lY lV h0 W (nl ++ [x]) gl fl hl ol s' gv fv hv ov (hset h1 ⟨W, 8, none⟩ s') := by
  have o1 := u.get I.row (fun hx => sliceO_ne I.nms I.row (by decide) W hx rfl)
  have e1 : hset h1 ⟨W, 8, none⟩ s' = h1.setIfInBounds W (wkO R.e R.log.length lL lW lY lV ⟨[], [], s', gv, fv, hv, ov⟩) := hset_block o1 _
  rw [e1]
  have uW : Upd (fun b => b = W) h1 (h1.setIfInBounds W (wkO R.e R.log.length lL lW lY lV ⟨[], [], s', gv, fv, hv, ov⟩)) := Upd.set _ _ _ rfl
  have hWl := lt_of_get I.row
  have hn : ∀ b, blk s' = some b → h0.size ≤ b := fun b hbb => (hb b hbb).elim (I.n1 b) (fun y => Nat.le_trans I.up.size y)
  have hw : ∀ b, blk s' = some b → b ≠ W := fun b hbb => (hb b hbb).elim (sliceO_ne I.nms I.row (by decide) b) (fun y => by omega)
  have nW := I.nW
  exact ⟨(I.up.over u (fun b hbb => I.n1 b hbb)).over uW (fun b e => by omega), get_set_same o1, by have := sl.upd uW hw; simpa [List.flatMap_append] using this, (I.giv.upd u (fun b hbb hx => sliceO_two I.giv I.nms (by decide) b hbb hx)).upd uW (sliceO_ne I.giv I.row (by decide)), (I.fst.upd u (fun b hbb hx => sliceO_two I.fst I.nms (by decide) b hbb hx)).upd uW (sliceO_ne I.fst I.row (by decide)), (I.hav.upd u (fun b hbb hx => I.a1 b hx hbb)).upd uW (sliceO_ne I.hav I.row (by decide)), (I.hol.upd u (fun b hbb hx => sliceO_two I.hol I.nms (by decide) b hbb hx)).upd uW (sliceO_ne I.hol I.row (by decide)), I.nW, hn, I.n2, I.n3, I.n4, I.n5, fun b hbb hx => (hb b hbb).elim (fun y => I.a1 b y hx) (fun y => by have := I.hav.lt hx; omega), I.a2⟩
theorem WkR.app_giv {x : Bool} (I : WkR R lL lW lY lV h0 W nl gl fl hl ol nv gv fv hv ov h) (u : Upd (fun b => blk gv = some b) h h1) (sl : SliceO h1 s' 4 1 (gl.length + 1) ((gl.map Value.bool) ++ [Value.bool x])) (hb : ∀ b, blk s' = some b → blk gv = some b ∨ h.size ≤ b) :
    WkR R lL lW lY lV h0 W nl (gl ++ [x]) fl hl ol nv s' fv hv ov (hset h1 ⟨W, 9, none⟩ s') := by
  have o1 := u.get I.row (fun hx => sliceO_ne I.giv I.row (by decide) W hx rfl)
  have e1 : hset h1 ⟨W, 9, none⟩ s' = h1.setIfInBounds W (wkO R.e R.log.length lL lW lY lV ⟨[], [], nv, s', fv, hv, ov⟩) := hset_block o1 _
  rw [e1]
  have uW : Upd (fun b => b = W) h1 (h1.setIfInBounds W (wkO R.e R.log.length lL lW lY lV ⟨[], [], nv, s', fv, hv, ov⟩)) := Upd.set _ _ _ rfl
  have hWl := lt_of_get I.row
  have hn : ∀ b, blk s' = some b → h0.size ≤ b := fun b hbb => (hb b hbb).elim (I.n2 b) (fun y => Nat.le_trans I.up.size y)
  have hw : ∀ b, blk s' = some b → b ≠ W := fun b hbb => (hb b hbb).elim (sliceO_ne I.giv I.row (by decide) b) (fun y => by omega)
  have nW := I.nW
  exact ⟨(I.up.over u (fun b hbb => I.n2 b hbb)).over uW (fun b e => by omega), get_set_same o1, (I.nms.upd u (fun b hbb hx => sliceO_two I.nms I.giv (by decide) b hbb hx)).upd uW (sliceO_ne I.nms I.row (by decide)), by have := sl.upd uW hw; simpa using this, (I.fst.upd u (fun b hbb hx => sliceO_two I.fst I.giv (by decide) b hbb hx)).upd uW (sliceO_ne I.fst I.row (by decide)), (I.hav.upd u (fun b hbb hx => sliceO_two I.hav I.giv (by decide) b hbb hx)).upd uW (sliceO_ne I.hav I.row (by decide)), (I.hol.upd u (fun b hbb hx => sliceO_two I.hol I.giv (by decide) b hbb hx)).upd uW (sliceO_ne I.hol I.row (by decide)), I.nW, I.n1, hn, I.n3, I.n4, I.n5, I.a1, I.a2⟩
theorem WkR.app_fst {x : Int} (I : WkR R lL lW lY lV h0 W nl gl fl hl ol nv gv fv hv ov h) (u : Upd (fun b => blk fv = some b) h h1) (sl : SliceO h1 s' 2 1 (fl.length + 1) ((fl.map fun x => Value.int .i64 x) ++ [Value.int .i64 x])) (hb : ∀ b, blk s' = some b → blk fv = some b ∨ h.size ≤ b) :
    WkR R lL lW lY lV h0 W nl gl (fl ++ [x]) hl ol nv gv s' hv ov (hset h1 ⟨W, 10, none⟩ s') := by
  have o1 := u.get I.row (fun hx => sliceO_ne I.fst I.row (by decide) W hx rfl)
  have e1 : hset h1 ⟨W, 10, none⟩ s' = h1.setIfInBounds W (wkO R.e R.log.length lL lW lY lV ⟨[], [], nv, gv, s', hv, ov⟩) := hset_block o1 _
  rw [e1]
  have uW : Upd (fun b => b = W) h1 (h1.setIfInBounds W (wkO R.e R.log.length lL lW lY lV ⟨[], [], nv, gv, s', hv, ov⟩)) := Upd.set _ _ _ rfl
  have hWl := lt_of_get I.row
  have hn : ∀ b, blk s' = some b → h0.size ≤ b := fun b hbb => (hb b hbb).elim (I.n3 b) (fun y => Nat.le_trans I.up.size y)
  have hw : ∀ b, blk s' = some b → b ≠ W := fun b hbb => (hb b hbb).elim (sliceO_ne I.fst I.row (by decide) b) (fun y => by omega)
  have nW := I.nW
  exact ⟨(I.up.over u (fun b hbb => I.n3 b hbb)).over uW (fun b e => by omega), get_set_same o1, (I.nms.upd u (fun b hbb hx => sliceO_two I.nms I.fst (by decide) b hbb hx)).upd uW (sliceO_ne I.nms I.row (by decide)), (I.giv.upd u (fun b hbb hx => sliceO_two I.giv I.fst (by decide) b hbb hx)).upd uW (sliceO_ne I.giv I.row (by decide)), by have := sl.upd uW hw; simpa using this, (I.hav.upd u (fun b hbb hx => sliceO_two I.hav I.fst (by decide) b hbb hx)).upd uW (sliceO_ne I.hav I.row (by decide)), (I.hol.upd u (fun b hbb hx => I.a2 b hx hbb)).upd uW (sliceO_ne I.hol I.row (by decide)), I.nW, I.n1, I.n2, hn, I.n4, I.n5, I.a1, fun b hbb hx => (hb b hbb).elim (fun y => I.a2 b y hx) (fun y => by have := I.hol.lt hx; omega)⟩
theorem WkR.app_hav {x : Nme} (I : WkR R lL lW lY lV h0 W nl gl fl hl ol nv gv fv hv ov h) (u : Upd (fun b => blk hv = some b) h h1) (sl : SliceO h1 s' 210 2 (hl.length + 1) ((hl.flatMap nmeL) ++ nmeL x)) (hb : ∀ b, blk s' = some b → blk hv = some b ∨ h.size ≤ b) :
    WkR R lL lW lY lV h0 W nl gl fl (hl ++ [x]) ol nv gv fv s' ov (hset h1 ⟨W, 11, none⟩ s') := by
  have o1 := u.get I.row (fun hx => sliceO_ne I.hav I.row (by decide) W hx rfl)
  have e1 : hset h1 ⟨W, 11, none⟩ s' = h1.setIfInBounds W (wkO R.e R.log.length lL lW lY lV ⟨[], [], nv, gv, fv, s', ov⟩) := hset_block o1 _
  rw [e1]
  have uW : Upd (fun b => b = W) h1 (h1.setIfInBounds W (wkO R.e R.log.length lL lW lY lV ⟨[], [], nv, gv, fv, s', ov⟩)) := Upd.set _ _ _ rfl
  have hWl := lt_of_get I.row
  have hn : ∀ b, blk s' = some b → h0.size ≤ b := fun b hbb => (hb b hbb).elim (I.n4 b) (fun y => Nat.le_trans I.up.size y)
  have hw : ∀ b, blk s' = some b → b ≠ W := fun b hbb => (hb b hbb).elim (sliceO_ne I.hav I.row (by decide) b) (fun y => by omega)
  have nW := I.nW
  exact ⟨(I.up.over u (fun b hbb => I.n4 b hbb)).over uW (fun b e => by omega), get_set_same o1, (I.nms.upd u (fun b hbb hx => I.a1 b hbb hx)).upd uW (sliceO_ne I.nms I.row (by decide)), (I.giv.upd u (fun b hbb hx => sliceO_two I.giv I.hav (by decide) b hbb hx)).upd uW (sliceO_ne I.giv I.row (by decide)), (I.fst.upd u (fun b hbb hx => sliceO_two I.fst I.hav (by decide) b hbb hx)).upd uW (sliceO_ne I.fst I.row (by decide)), by have := sl.upd uW hw; simpa [List.flatMap_append] using this, (I.hol.upd u (fun b hbb hx => sliceO_two I.hol I.hav (by decide) b hbb hx)).upd uW (sliceO_ne I.hol I.row (by decide)), I.nW, I.n1, I.n2, I.n3, hn, I.n5, fun b hbb hx => (hb b hx).elim (fun y => I.a1 b hbb y) (fun y => by have := I.nms.lt hbb; omega), I.a2⟩
theorem WkR.app_hol {x : Int} (I : WkR R lL lW lY lV h0 W nl gl fl hl ol nv gv fv hv ov h) (u : Upd (fun b => blk ov = some b) h h1) (sl : SliceO h1 s' 2 1 (ol.length + 1) ((ol.map fun x => Value.int .i64 x) ++ [Value.int .i64 x])) (hb : ∀ b, blk s' = some b → blk ov = some b ∨ h.size ≤ b) :
    WkR R lL lW lY lV h0 W nl gl fl hl (ol ++ [x]) nv gv fv hv s' (hset h1 ⟨W, 12, none⟩ s') := by
  have o1 := u.get I.row (fun hx => sliceO_ne I.hol I.row (by decide) W hx rfl)
  have e1 : hset h1 ⟨W, 12, none⟩ s' = h1.setIfInBounds W (wkO R.e R.log.length lL lW lY lV ⟨[], [], nv, gv, fv, hv, s'⟩) := hset_block o1 _
  rw [e1]
  have uW : Upd (fun b => b = W) h1 (h1.setIfInBounds W (wkO R.e R.log.length lL lW lY lV ⟨[], [], nv, gv, fv, hv, s'⟩)) := Upd.set _ _ _ rfl
  have hWl := lt_of_get I.row
  have hn : ∀ b, blk s' = some b → h0.size ≤ b := fun b hbb => (hb b hbb).elim (I.n5 b) (fun y => Nat.le_trans I.up.size y)
  have hw : ∀ b, blk s' = some b → b ≠ W := fun b hbb => (hb b hbb).elim (sliceO_ne I.hol I.row (by decide) b) (fun y => by omega)
  have nW := I.nW
  exact ⟨(I.up.over u (fun b hbb => I.n5 b hbb)).over uW (fun b e => by omega), get_set_same o1, (I.nms.upd u (fun b hbb hx => sliceO_two I.nms I.hol (by decide) b hbb hx)).upd uW (sliceO_ne I.nms I.row (by decide)), (I.giv.upd u (fun b hbb hx => sliceO_two I.giv I.hol (by decide) b hbb hx)).upd uW (sliceO_ne I.giv I.row (by decide)), (I.fst.upd u (fun b hbb hx => I.a2 b hbb hx)).upd uW (sliceO_ne I.fst I.row (by decide)), (I.hav.upd u (fun b hbb hx => sliceO_two I.hav I.hol (by decide) b hbb hx)).upd uW (sliceO_ne I.hav I.row (by decide)), by have := sl.upd uW hw; simpa using this, I.nW, I.n1, I.n2, I.n3, I.n4, hn, I.a1, fun b hbb hx => (hb b hx).elim (fun y => I.a2 b hbb y) (fun y => by have := I.fst.lt hbb; omega)⟩
end
end Go.Proofs.Ytcpcdnkemobneaa
end
section
namespace Go.Proofs.Ytcpcdnkemobneaa
open Go Go.TJ Go.Conc Go.Proofs
section
variable {Γ : Type} {main : Bool} {S : Sit Γ} {δ : Ix Γ} {R : Rec} {lL lW lY lV sP : Value} {h0 h h1 h' : Hp} {W : Nat} {nl : List Nme} {gl : List Bool} {fl : List Int} {hl : List Nme} {ol : List Int} {nv gv fv hv ov s' : Value} {picks : List Int} {X : Us} {nm : Nat → Nme}
theorem WkR.toI {q : List (Bool × Nme)} {hs : List (Nme × Int)} (I : WkR R lL lW lY lV h0 W nl gl fl hl ol nv gv fv hv ov h) (h1 : q.map (·.2) = nl) (h2 : q.map (·.1) = gl) (h3 : hs.map (·.1) = hl) (h4 : hs.map (·.2) = ol) : WkI R nm lL lW lY lV h0 W fl ⟨q, hs, nv, gv, fv, hv, ov⟩ h := by
  subst h1 h2 h3 h4
  refine ⟨I.up, I.row, ?_, ?_, I.fst, ?_, ?_, I.nW, I.n1, I.n2, I.n3, I.n4, I.n5, I.a1, I.a2⟩
  · have := I.nms; rw [List.length_map, List.flatMap_map] at this; exact this
  · have := I.giv; rw [List.length_map, List.map_map] at this; exact this
  · have := I.hav; rw [List.length_map, List.flatMap_map] at this; exact this
  · have := I.hol; rw [List.length_map, List.map_map] at this; exact this
theorem WkR.keep {y : Nat} {a : Array Value} {t : TypeId} (I : WkR R lL lW lY lV h0 W nl gl fl hl ol nv gv fv hv ov h) (hy : h[y]? = some (.cells a t (0, 0))) (h1 : t ≠ 66) (h2 : t ≠ 210) (h3 : t ≠ 4) (h4 : t ≠ 2) :
    y ≠ W ∧ ¬ blk nv = some y ∧ ¬ blk gv = some y ∧ ¬ blk fv = some y ∧ ¬ blk hv = some y ∧ ¬ blk ov = some y := by
  refine ⟨fun e => ?_, fun e => sliceO_ne I.nms hy (Ne.symm h2) y e rfl, fun e => sliceO_ne I.giv hy (Ne.symm h3) y e rfl, fun e => sliceO_ne I.fst hy (Ne.symm h4) y e rfl, fun e => sliceO_ne I.hav hy (Ne.symm h2) y e rfl, fun e => sliceO_ne I.hol hy (Ne.symm h4) y e rfl⟩
  have := I.row
  rw [← e, hy] at this
  injection this with this
  injection this with _ this _
  exact h1 this
abbrev repOb (e : Int) (n : Nat) (lL lW lY lV : Value) : Obj := .cells (repL e n lL lW lY lV).toArray 49 (0, 0)
set_option maxHeartbeats 16000000 in
set_option maxRecDepth 8000 in
theorem newwalk_ok (ok : RecOk X picks R) (m : RecM R picks lL lW lY lV sP h) :
    CallW Try.prog main (NoS (Γ := Γ)) 20 #[.agg (repL R.e R.log.length lL lW lY lV).toArray] h δ (Ret fun v h' δ' => δ' = δ ∧ ∃ (W : Nat) (nv gv fv : Value), v = ptr W ∧ WkR R lL lW lY lV h W (List.replicate (nums R.log).length (0, 0)) (List.replicate (nums R.log).length false) ((nums R.log).map R.v0) [] [] nv gv fv nilS nilS h') := by
  have hlen : R.log.length ≤ 65536 := Nat.le_trans ok.len ok.most
  have hnl : ∀ k, (nums (R.log.take k)).length ≤ 65536 := fun k => by
    have h1 := nums_len (R.log.take k)
    have h2 := List.length_take_le k R.log
    have h3 : (R.log.take k).length ≤ R.log.length := by rw [List.length_take]; omega
    omega
  obtain ⟨aL, kL, eL⟩ := m.log.val
  subst eL
  obtain ⟨y, hy⟩ : ∃ y, y = h.size := ⟨_, rfl⟩
  refine CallW.start (n := 62) rfl rfl ?_
  (repeat (first | refine EK.seq ?_ | refine EK.region ?_ | refine ER.done ?_ | refine ER.assign rfl rfl rfl ?_ | refine ER.boxA rfl rfl rfl ?_))
  refine ER.gen (fun h' => Upd (fun _ => False) h h' ∧ h'[y]? = some (repOb R.e R.log.length (.slice aL R.log.length kL) lW lY lV) ∧ h'.size = h.size + 1) ⟨Upd.push _ _, by rw [hy]; exact get_push_new _ _, Array.size_push ..⟩ ?_
  rw [← hy]
  rintro h1 ⟨u1, gy, s1⟩
  refine ER.loadN (vs := repL R.e R.log.length (.slice aL R.log.length kL) lW lY lV) rfl rfl rfl rfl (hrow_block (rest := []) (by rw [List.append_nil]; exact gy)) ?_
  refine ER.buildS (cells := (wkL R.e R.log.length (.slice aL R.log.length kL) lW lY lV ⟨[], [], nilS, nilS, nilS, nilS, nilS⟩).toArray) rfl rfl (by rfl) (by kernel_rfl) ?_
  (repeat (first | refine EK.seq ?_ | refine EK.region ?_ | refine ER.done ?_ | refine EK.block ?_ | refine ER.assign rfl rfl rfl ?_ | refine ER.boxA rfl rfl rfl ?_))
  obtain ⟨W, hW⟩ : ∃ W, W = h1.size := ⟨_, rfl⟩
  rw [← hW]
  have no : ∀ (P : Prop) (b : Nat), blk nilS = some b → P := fun P b hb => by cases hb
  refine EK.gen (fun h' => WkR R (.slice aL R.log.length kL) lW lY lV h W [] [] [] [] [] nilS nilS nilS nilS nilS h' ∧ h'[y]? = some (repOb R.e R.log.length (.slice aL R.log.length kL) lW lY lV)) ⟨⟨u1.trans (Upd.push _ _), by rw [hW]; exact get_push_new _ _, SliceO.nil, SliceO.nil, SliceO.nil, SliceO.nil, SliceO.nil, by omega, fun b => no _ b, fun b => no _ b, fun b => no _ b, fun b => no _ b, fun b => no _ b, fun b => no _ b, fun b => no _ b⟩, get_push _ gy⟩ ?_
  rintro h2 ⟨I, gy⟩
  clear u1 hW s1 hy
  refine EK.loopInv (fun q : Nat × Value × Value × Value => [(4, .int .i64 q.1), (3, ptr W), (1, ptr y)]) (fun q h' δ' => δ' = δ ∧ q.1 ≤ R.log.length ∧ WkR R (.slice aL R.log.length kL) lW lY lV h W (List.replicate (nums (R.log.take q.1)).length (0, 0)) (List.replicate (nums (R.log.take q.1)).length false) ((nums (R.log.take q.1)).map R.v0) [] [] q.2.1 q.2.2.1 q.2.2.2 nilS nilS h' ∧ h'[y]? = some (repOb R.e R.log.length (.slice aL R.log.length kL) lW lY lV)) (fun q => R.log.length - q.1) (0, nilS, nilS, nilS) ⟨rfl, rfl, rfl, trivial⟩ ⟨rfl, Nat.zero_le _, I, gy⟩ ?_
  clear I gy
  rintro ⟨k, nv, gv, fv⟩ h3 δ3 ⟨hδ, hk, I, gy⟩ again
  dsimp only at hδ hk I again ⊢
  subst hδ
  have c2 : hcell h3 ⟨y, 2, none⟩ = some (.slice aL R.log.length kL) := hcell_of gy rfl
  by_cases hin : k < R.log.length
  · obtain ⟨e, he⟩ : ∃ e, R.log[k]? = some e := ⟨_, List.getElem?_eq_getElem hin⟩
    obtain ⟨bL, ea, hrow, -⟩ := slice_row (entL_len (nums R.log)) (m.log.upd I.up (fun _ _ x => x)) he
    subst ea
    obtain ⟨i1, i2, i3, i4⟩ := idx_at he
    obtain ⟨w, i, r, cw, hr, e1, ch2⟩ := ok.chain.inv he
    have hwas : e.b ∉ nums (R.log.take k) → e.was = R.v0 e.b := fun hn => by
      subst e1
      exact cw.first hn
    have w2 : hcell h3 ⟨bL, 0 + k * 8 + 2, none⟩ = some (.int .i64 ((nums R.log).idxOf e.b : Nat)) := hrow 2 _ rfl
    have hnk := hnl k
    have c10 : hcell h3 ⟨W, 10, none⟩ = some fv := hcell_of I.row rfl
    obtain ⟨aF, kF, eF⟩ := I.fst.val
    rw [List.length_map] at eF
    subst eF
    clear cw hr e1 ch2
    generalize (nums R.log).idxOf e.b = ix at i1 i2 i3 i4 w2
    (repeat (first | refine EK.seq ?_ | refine EK.region ?_ | refine ER.done ?_ | refine EK.skip ?_ | refine EK.block ?_ | refine ER.move rfl rfl rfl ?_ | refine ER.fieldAddr rfl rfl rfl ?_ | refine ER.load1 rfl rfl rfl (hcell_of (by assumption) rfl) ?_ | refine ER.cmpT rfl rfl rfl rfl rfl (by first | (dsimp only [cmpP]; omega) | exact rfl | exact Int.le_refl _) ?_ | refine ER.len1 rfl rfl rfl ?_ | refine EK.condT rfl ?_))
    refine EK.regionAny (fun h' => h' = h3) ?_
    have hZ : h3 = h3 := rfl
    refine EA.tField 0 rfl (by kernel_rfl) (by kernel_rfl) (by kernel_rfl) rfl rfl rfl rfl hZ ?_
    refine EA.tLoad 1 rfl (by kernel_rfl) (by kernel_rfl) (by kernel_rfl) rfl rfl rfl rfl (fun _ hz => (by rw [hz]; exact c2)) hZ ?_
    refine EA.tMove 2 rfl (by kernel_rfl) (by kernel_rfl) (by kernel_rfl) rfl rfl rfl rfl hZ ?_
    refine EA.tIdxS 3 rfl (by kernel_rfl) (by kernel_rfl) (by kernel_rfl) rfl rfl rfl rfl rfl (by omega) (by omega) hZ ?_
    refine EA.tField 4 rfl (by kernel_rfl) (by kernel_rfl) (by kernel_rfl) rfl rfl rfl rfl hZ ?_
    refine EA.tLoad 5 rfl (by kernel_rfl) (by kernel_rfl) (by kernel_rfl) rfl rfl rfl rfl (fun _ hz => (by rw [hz]; exact w2)) hZ ?_
    refine EA.tMove 6 rfl (by kernel_rfl) (by kernel_rfl) (by kernel_rfl) rfl rfl rfl rfl hZ ?_
    refine EA.tNil 7 rfl (by kernel_rfl) (by kernel_rfl) (by kernel_rfl) rfl rfl rfl rfl hZ ?_
    refine EA.tField 8 rfl (by kernel_rfl) (by kernel_rfl) (by kernel_rfl) rfl rfl rfl rfl hZ ?_
    refine EA.tLoad 9 rfl (by kernel_rfl) (by kernel_rfl) (by kernel_rfl) rfl rfl rfl rfl (fun _ hz => (by rw [hz]; exact c10)) hZ ?_
    refine EA.tLen1 10 rfl (by kernel_rfl) (by kernel_rfl) (by kernel_rfl) rfl rfl rfl rfl hZ ?_
    rcases i4 with ⟨j1, j2, j3⟩ | ⟨j1, j2, j3⟩
    · refine EA.tCmpF 11 rfl (by kernel_rfl) (by kernel_rfl) (by kernel_rfl) rfl rfl rfl rfl rfl rfl (by first | (dsimp only [cmpP]; omega) | exact rfl | exact Int.le_refl _) hZ ?_
      refine EA.done (by kernel_rfl) ?_
      clear hZ
      (repeat (first | refine EK.region ?_ | refine ER.done ?_ | refine EK.skip ?_ | refine EK.inBlock ?_ | refine ER.move rfl rfl rfl ?_ | refine ER.assign rfl rfl rfl ?_ | refine ER.add (kd := .i64) rfl rfl rfl rfl (i64_in (by omega) (by omega)) ?_ | refine EK.condF rfl ?_))
      exact EK.back (again (k + 1, nv, gv, _) _ _ (by dsimp only; omega) ⟨rfl, by dsimp only; omega, by dsimp only; rw [j2]; exact I, gy⟩) ⟨rfl, rfl, rfl, trivial⟩
    · refine EA.tCmpT 11 rfl (by kernel_rfl) (by kernel_rfl) (by kernel_rfl) rfl rfl rfl rfl rfl rfl (by first | (dsimp only [cmpP]; omega) | exact rfl | exact Int.le_refl _) hZ ?_
      refine EA.done (by kernel_rfl) ?_
      clear hZ c2 c10 hrow w2
      have b1 : (nums (R.log.take (k + 1))).length = (nums (R.log.take k)).length + 1 := by rw [j2, List.length_append]; rfl
      obtain ⟨aN, kN, eN⟩ := I.nms.val
      rw [List.length_replicate] at eN
      subst eN
      have c8 : hcell h3 ⟨W, 8, none⟩ = some (.slice aN (nums (R.log.take k)).length kN) := hcell_of I.row rfl
      (repeat (first | refine EK.seq ?_ | refine EK.region ?_ | refine ER.move rfl rfl rfl ?_ | refine ER.nilCheck rfl rfl rfl ?_ | refine ER.fieldAddr rfl rfl rfl ?_ | refine EK.condT rfl ?_ | refine ER.load1 rfl rfl rfl (by assumption) ?_))
      refine ER.buildS (cells := #[.int .i64 0, .int .i64 0]) rfl rfl (by rfl) (by rfl) ?_
      refine ER.slice1 (sz := 2) (z := .agg #[.int .i64 0, .int .i64 0]) (cells := #[.int .i64 0, .int .i64 0]) rfl rfl rfl (by omega) (by omega) rfl rfl ?_
      have I1 := I.upd0 (Upd.push h3 (.cells #[.int .i64 0, .int .i64 0] 210))
      have gy1 := get_push (o := .cells #[.int .i64 0, .int .i64 0] 210) gy
      have sl1 := I1.nms
      rw [List.length_replicate] at sl1
      refine ER.append1 (new := [.int .i64 0, .int .i64 0]) rfl rfl rfl rfl sl1 (get_push_new _ _) rfl (by simp [OneCell]) (by omega) (by omega) (by rfl) (fun _ _ _ x => x) ?_
      generalize h3.push (.cells #[.int .i64 0, .int .i64 0] 210) = h4 at I1 gy1 sl1 ⊢
      intro s4 h5 sl4 u4 hb4
      have ky := I1.keep gy1 (by decide) (by decide) (by decide) (by decide)
      have I2 := I1.app_nms (x := (0, 0)) u4 (by rw [List.length_replicate]; exact sl4) (fun b hb => (hb4 b hb).imp id (fun e => Nat.le_of_eq e.symm))
      have gy2 := u4.get gy1 ky.2.1
      have gyW : ∀ v j, (hset h5 ⟨W, j, none⟩ v)[y]? = h5[y]? := fun v j => hset_ne _ _ _ (Ne.symm ky.1)
      have o5 : ∃ v, hcell h5 ⟨W, 0 + 8, none⟩ = some v ∧ hfroz h5 ⟨W, 0 + 8, none⟩ = false := by
        have o1 := u4.get I1.row (fun hx => sliceO_ne I1.nms I1.row (by decide) W hx rfl)
        exact ⟨_, hcell_of o1 rfl, hfroz_of o1⟩
      obtain ⟨v5, o5, f5⟩ := o5
      obtain ⟨a4, k4, e4⟩ := sl4.val
      (repeat (first | refine ER.nilCheck rfl rfl rfl ?_ | refine ER.fieldAddr rfl rfl rfl ?_))
      refine ER.store1 rfl rfl rfl (by rw [e4]; exact ⟨nofun, nofun⟩) ⟨_, o5⟩ f5 (fun x => x) ?_
      have gy3 : (hset h5 ⟨W, 8, none⟩ s4)[y]? = _ := (gyW s4 8).trans gy2
      change ER _ _ _ _ _ _ _ _ _ _ (hset h5 ⟨W, 8, none⟩ s4) _ _
      generalize hset h5 ⟨W, 8, none⟩ s4 = h6 at I2 gy3 ⊢
      clear I I1 gy gy1 gy2 gyW sl1 sl4 u4 hb4 ky o5 f5 c8 e4 a4 k4
      obtain ⟨aG, kG, eG⟩ := I2.giv.val
      rw [List.length_replicate] at eG
      subst eG
      have c9 : hcell h6 ⟨W, 9, none⟩ = some (.slice aG (nums (R.log.take k)).length kG) := hcell_of I2.row rfl
      (repeat (first | refine EK.seq ?_ | refine EK.region ?_ | refine ER.done ?_ | refine ER.move rfl rfl rfl ?_ | refine ER.nilCheck rfl rfl rfl ?_ | refine ER.fieldAddr rfl rfl rfl ?_ | refine ER.load1 rfl rfl rfl (by assumption) ?_))
      refine ER.slice1 (sz := 1) (z := .bool false) (cells := #[.bool false]) rfl rfl rfl (by omega) (by omega) rfl rfl ?_
      have I1 := I2.upd0 (Upd.push h6 (.cells #[.bool false] 4))
      have gy1 := get_push (o := .cells #[.bool false] 4) gy3
      have sl1 := I1.giv
      rw [List.length_replicate] at sl1
      refine ER.append1 (new := [.bool false]) rfl rfl rfl rfl sl1 (get_push_new _ _) rfl (by simp [OneCell]) (by omega) (by omega) (by rfl) (fun _ _ _ x => x) ?_
      generalize h6.push (.cells #[.bool false] 4) = h7 at I1 gy1 sl1 ⊢
      intro s5 h8 sl5 u5 hb5
      have ky := I1.keep gy1 (by decide) (by decide) (by decide) (by decide)
      have I3 := I1.app_giv (x := false) u5 (by rw [List.length_replicate]; exact sl5) (fun b hb => (hb5 b hb).imp id (fun e => Nat.le_of_eq e.symm))
      have gy2 := u5.get gy1 ky.2.2.1
      have gyW : ∀ v j, (hset h8 ⟨W, j, none⟩ v)[y]? = h8[y]? := fun v j => hset_ne _ _ _ (Ne.symm ky.1)
      have o5 : ∃ v, hcell h8 ⟨W, 0 + 9, none⟩ = some v ∧ hfroz h8 ⟨W, 0 + 9, none⟩ = false := by
        have o1 := u5.get I1.row (fun hx => sliceO_ne I1.giv I1.row (by decide) W hx rfl)
        exact ⟨_, hcell_of o1 rfl, hfroz_of o1⟩
      obtain ⟨v5, o5, f5⟩ := o5
      obtain ⟨a4, k4, e4⟩ := sl5.val
      (repeat (first | refine ER.nilCheck rfl rfl rfl ?_ | refine ER.fieldAddr rfl rfl rfl ?_))
      refine ER.store1 rfl rfl rfl (by rw [e4]; exact ⟨nofun, nofun⟩) ⟨_, o5⟩ f5 (fun x => x) ?_
      have gy3' : (hset h8 ⟨W, 9, none⟩ s5)[y]? = _ := (gyW s5 9).trans gy2
      change ER _ _ _ _ _ _ _ _ _ _ (hset h8 ⟨W, 9, none⟩ s5) _ _
      generalize hset h8 ⟨W, 9, none⟩ s5 = h9 at I3 gy3' ⊢
      clear I2 I1 gy1 gy2 gyW sl1 sl5 u5 hb5 ky o5 f5 c9 e4 a4 k4 gy3
      have c10 : hcell h9 ⟨W, 10, none⟩ = some (.slice aF (nums (R.log.take k)).length kF) := hcell_of I3.row rfl
      have c2 : hcell h9 ⟨y, 2, none⟩ = some (.slice (some ⟨bL, 0, none⟩) R.log.length kL) := hcell_of gy3' rfl
      obtain ⟨bL', ea, hrow, -⟩ := slice_row (entL_len (nums R.log)) (m.log.upd I3.up (fun _ _ x => x)) he
      injection ea with ea
      injection ea with ea
      subst ea
      have w5 : hcell h9 ⟨bL, 0 + k * 8 + 5, none⟩ = some (.int .i64 e.was) := hrow 5 _ rfl
      (repeat refine ER.done ?_)
      refine EK.regionAnyL (fun h' => hcell h' ⟨W, 10, none⟩ = some (.slice aF (nums (R.log.take k)).length kF) ∧ hcell h' ⟨y, 2, none⟩ = some (.slice (some ⟨bL, 0, none⟩) R.log.length kL) ∧ hcell h' ⟨bL, 0 + k * 8 + 5, none⟩ = some (.int .i64 e.was)) 15 ?_
      have hZ : _ ∧ _ ∧ _ := And.intro c10 ⟨c2, w5⟩
      refine EA.tMove 0 rfl (by kernel_rfl) (by kernel_rfl) (by kernel_rfl) rfl rfl rfl rfl hZ ?_
      refine EA.tMove 1 rfl (by kernel_rfl) (by kernel_rfl) (by kernel_rfl) rfl rfl rfl rfl hZ ?_
      refine EA.tNil 2 rfl (by kernel_rfl) (by kernel_rfl) (by kernel_rfl) rfl rfl rfl rfl hZ ?_
      refine EA.tField 3 rfl (by kernel_rfl) (by kernel_rfl) (by kernel_rfl) rfl rfl rfl rfl hZ ?_
      refine EA.tLoad 4 rfl (by kernel_rfl) (by kernel_rfl) (by kernel_rfl) rfl rfl rfl rfl (fun _ hz => hz.1) hZ ?_
      refine EA.tField 5 rfl (by kernel_rfl) (by kernel_rfl) (by kernel_rfl) rfl rfl rfl rfl hZ ?_
      refine EA.tLoad 6 rfl (by kernel_rfl) (by kernel_rfl) (by kernel_rfl) rfl rfl rfl rfl (fun _ hz => hz.2.1) hZ ?_
      refine EA.tMove 7 rfl (by kernel_rfl) (by kernel_rfl) (by kernel_rfl) rfl rfl rfl rfl hZ ?_
      refine EA.tIdxS 8 rfl (by kernel_rfl) (by kernel_rfl) (by kernel_rfl) rfl rfl rfl rfl rfl (by omega) (by omega) hZ ?_
      refine EA.tField 9 rfl (by kernel_rfl) (by kernel_rfl) (by kernel_rfl) rfl rfl rfl rfl hZ ?_
      refine EA.tLoad 10 rfl (by kernel_rfl) (by kernel_rfl) (by kernel_rfl) rfl rfl rfl rfl (fun _ hz => hz.2.2) hZ ?_
      have up := Upd.push (T := fun _ => False) h9 (.cells #[.int .i64 e.was] 2)
      have hZ5 : _ ∧ _ ∧ _ := And.intro (up.hcell hZ.1 (fun x => x)) ⟨up.hcell hZ.2.1 (fun x => x), up.hcell hZ.2.2 (fun x => x)⟩
      refine EA.val (v := .slice (some ⟨h9.size, 0, none⟩) 1 1) (h' := h9.push (.cells #[.int .i64 e.was] 2)) 11 rfl (by kernel_rfl) rfl rfl rfl (fun ρ Q X hρ hq => sem_slice1 (sz := 1) hρ rfl (by omega) (by omega) rfl rfl hq) hZ5 ?_
      have I1 := I3.upd0 up
      have gy1 := get_push (o := .cells #[.int .i64 e.was] 2) gy3'
      have sl1 := I1.fst
      rw [List.length_map] at sl1
      refine EA.append1 (new := [.int .i64 e.was]) 12 rfl (by kernel_rfl) rfl rfl rfl rfl rfl sl1 (get_push_new _ _) rfl (by simp [OneCell]) (by omega) (by omega) rfl (fun _ _ _ x => x) ?_
      intro s6 h11 sl6 u6 hb6
      have ky := I1.keep gy1 (by decide) (by decide) (by decide) (by decide)
      have I4 := I1.app_fst (x := e.was) u6 (by rw [List.length_map]; exact sl6) (fun b hb => (hb6 b hb).imp id (fun e => Nat.le_of_eq e.symm))
      have gy2 := u6.get gy1 ky.2.2.2.1
      have o1 := u6.get I1.row (fun hx => sliceO_ne I1.fst I1.row (by decide) W hx rfl)
      have nb : ¬ blk (.slice aF (nums (R.log.take k)).length kF) = some bL := fun hx => by
        have := (m.log.upd I1.up (fun _ _ x => x))
        exact sliceO_two this I1.fst (by decide) bL rfl (by rw [hx])
      have hZ : _ ∧ _ ∧ _ := And.intro (hcell_of o1 rfl : hcell h11 ⟨W, 10, none⟩ = some (.slice aF (nums (R.log.take k)).length kF)) ⟨(hcell_of gy2 rfl : hcell h11 ⟨y, 2, none⟩ = some (.slice (some ⟨bL, 0, none⟩) R.log.length kL)), u6.hcell hZ5.2.2 nb⟩
      refine ⟨hZ, ?_⟩
      obtain ⟨a4, k4, e4⟩ := sl6.val
      refine EA.val 13 rfl (by kernel_rfl) rfl rfl rfl (fun ρ Q X hρ hq => sem_nilCheck (hρ _ _ rfl) hq) hZ ?_
      refine EA.tField 14 rfl (by kernel_rfl) (by kernel_rfl) (by kernel_rfl) rfl rfl rfl rfl hZ ?_
      refine EA.unitL (h' := hset h11 ⟨W, 10, none⟩ s6) 15 rfl (by kernel_rfl) rfl rfl rfl (fun ρ Q X hρ hq => sem_store1 (hρ _ _ rfl) (hρ _ _ rfl) (by rw [e4]; exact ⟨nofun, nofun⟩) ⟨_, hZ.1⟩ (hfroz_of o1) (fun x => x) hq) ?_
      refine EA.done (by kernel_rfl) ?_
      have gy3 : (hset h11 ⟨W, 10, none⟩ s6)[y]? = _ := (hset_ne _ _ _ (Ne.symm ky.1)).trans gy2
      (repeat (first | refine EK.region ?_ | refine ER.done ?_ | refine EK.inBlock ?_ | refine ER.move rfl rfl rfl ?_ | refine ER.assign rfl rfl rfl ?_ | refine ER.add (kd := .i64) rfl rfl rfl rfl (i64_in (by omega) (by omega)) ?_))
      refine EK.back (again (k + 1, s4, s5, s6) _ _ (by dsimp only; omega) ⟨rfl, by dsimp only; omega, ?_, gy3⟩) ⟨rfl, rfl, rfl, trivial⟩
      dsimp only
      rw [b1, j2, List.map_append, List.replicate_succ', List.replicate_succ']
      have : [e.b].map R.v0 = [e.was] := by rw [hwas j1]; rfl
      rw [this]
      exact I4
  · obtain rfl : k = R.log.length := by omega
    (repeat (first | refine EK.seq ?_ | refine EK.region ?_ | refine ER.done ?_ | refine ER.move rfl rfl rfl ?_ | refine ER.assign rfl rfl rfl ?_ | refine ER.fieldAddr rfl rfl rfl ?_ | refine ER.load1 rfl rfl rfl (hcell_of (by assumption) rfl) ?_ | refine ER.cmpF rfl rfl rfl rfl rfl (by first | (dsimp only [cmpP]; omega) | exact rfl | exact Int.le_refl _) ?_ | refine ER.len1 rfl rfl rfl ?_ | refine EK.condF rfl ?_ | refine EK.ret ?_ | refine EK.exit rfl ?_))
    rw [List.take_length] at I
    exact EU.ret1 rfl rfl ⟨rfl, W, nv, gv, fv, rfl, I⟩
end
end Go.Proofs.Ytcpcdnkemobneaa
end
section
namespace Go.Proofs.Ytcpcdnkemobneaa
open Go Go.TJ Go.Conc Go.Proofs
section
variable {Γ : Type} {main : Bool} {S : Sit Γ} {δ : Ix Γ} {R : Rec} {lL lW lY lV sP : Value} {h0 h h1 h' : Hp} {W : Nat} {nl : List Nme} {gl : List Bool} {fl : List Int} {hl : List Nme} {ol : List Int} {nv gv fv hv ov s' : Value} {picks : List Int} {X : Us} {nm : Nat → Nme}
set_option maxHeartbeats 16000000 in
set_option maxRecDepth 8000 in
theorem have_ok {n : Nme} {v : Int} (I : WkR R lL lW lY lV h0 W nl gl fl hl ol nv gv fv hv ov h) (hh : hl.length ≤ 5000) (ho : ol.length = hl.length) :
    CallW Try.prog main (NoS (Γ := Γ)) 82 #[ptr W, nmeV n, .int .i64 v] h δ (Ret fun _ h' δ' => δ' = δ ∧ ∃ hv' ov', WkR R lL lW lY lV h0 W nl gl fl (hl ++ [n]) (ol ++ [v]) nv gv fv hv' ov' h' ∧
      ∀ (y : Nat) (a : Array Value) (t : TypeId), h[y]? = some (.cells a t (0, 0)) → t ≠ 66 → t ≠ 210 → t ≠ 4 → t ≠ 2 → h'[y]? = some (.cells a t (0, 0))) := by
  obtain ⟨y, hy⟩ : ∃ y, y = h.size := ⟨_, rfl⟩
  obtain ⟨aH, kH, eH⟩ := I.hav.val
  obtain ⟨aO, kO, eO⟩ := I.hol.val
  subst eH eO
  refine CallW.start (n := 26) rfl rfl ?_
  (repeat (first | refine EK.seq ?_ | refine EK.region ?_ | refine ER.done ?_ | refine ER.boxA rfl rfl rfl ?_))
  refine EK.gen (fun h' => WkR R lL lW lY lV h0 W nl gl fl hl ol nv gv fv (.slice aH hl.length kH) (.slice aO ol.length kO) h' ∧ h'[y]? = some (nmeO n) ∧ ∀ (y : Nat) (a : Array Value) (t : TypeId), h[y]? = some (.cells a t (0, 0)) → h'[y]? = some (.cells a t (0, 0))) ⟨I.upd0 (Upd.push _ _), by rw [hy]; exact get_push_new _ _, fun y a t hy => get_push _ hy⟩ ?_
  rw [← hy]
  have lH : ∀ b, blk (.slice aH hl.length kH) = some b → b < y := fun b hb => by rw [hy]; exact I.hav.lt hb
  clear I hy
  have yH : ¬ blk (.slice aH hl.length kH) = some y := fun hx => by have := lH y hx; omega
  rintro h1 ⟨I, gy, old⟩
  have c11 : hcell h1 ⟨W, 11, none⟩ = some (.slice aH hl.length kH) := hcell_of I.row rfl
  have rY : TJ.hrow h1 y 0 (nmeL n) := hrow_block (rest := []) (by rw [List.append_nil]; exact gy)
  refine EK.regionAnyL (fun h' => hcell h' ⟨W, 11, none⟩ = some (.slice aH hl.length kH) ∧ TJ.hrow h' y 0 (nmeL n)) 10 ?_
  have hZ : _ ∧ _ := And.intro c11 rY
  refine EA.tMove 0 rfl (by kernel_rfl) (by kernel_rfl) (by kernel_rfl) rfl rfl rfl rfl hZ ?_
  refine EA.tMove 1 rfl (by kernel_rfl) (by kernel_rfl) (by kernel_rfl) rfl rfl rfl rfl hZ ?_
  refine EA.tNil 2 rfl (by kernel_rfl) (by kernel_rfl) (by kernel_rfl) rfl rfl rfl rfl hZ ?_
  refine EA.tField 3 rfl (by kernel_rfl) (by kernel_rfl) (by kernel_rfl) rfl rfl rfl rfl hZ ?_
  refine EA.tLoad 4 rfl (by kernel_rfl) (by kernel_rfl) (by kernel_rfl) rfl rfl rfl rfl (fun _ hz => hz.1) hZ ?_
  refine EA.tLoadN (vs := nmeL n) 5 rfl (by kernel_rfl) (by kernel_rfl) (by kernel_rfl) rfl rfl rfl rfl rfl (fun _ hz => hz.2) hZ ?_
  have up := Upd.push (T := fun _ => False) h1 (.cells #[.int .i64 n.1, .int .i64 n.2] 210)
  have hZ5 : _ ∧ _ := And.intro (up.hcell hZ.1 (fun x => x)) (fun j v hv => up.hcell (hZ.2 j v hv) (fun x => x) : TJ.hrow _ y 0 (nmeL n))
  refine EA.val (v := .slice (some ⟨h1.size, 0, none⟩) 1 1) (h' := h1.push (.cells #[.int .i64 n.1, .int .i64 n.2] 210)) 6 rfl (by kernel_rfl) rfl rfl rfl (fun ρ Q X hρ hq => sem_slice1 (sz := 2) hρ rfl (by omega) (by omega) rfl rfl hq) hZ5 ?_
  have I1 := I.upd0 up
  have old1 : ∀ (y : Nat) (a : Array Value) (t : TypeId), h[y]? = some (.cells a t (0, 0)) → (h1.push (.cells #[.int .i64 n.1, .int .i64 n.2] 210))[y]? = some (.cells a t (0, 0)) := fun y a t hy => get_push _ (old y a t hy)
  have gy1 := get_push (o := .cells #[.int .i64 n.1, .int .i64 n.2] 210) gy
  have sl1 := I1.hav
  have yl := lt_of_get gy
  refine EA.append1 (new := [.int .i64 n.1, .int .i64 n.2]) 7 rfl (by kernel_rfl) rfl rfl rfl rfl rfl sl1 (get_push_new _ _) rfl (by simp [OneCell]) (by omega) (by omega) rfl (fun _ _ _ x => x) ?_
  intro s6 h3 sl6 u6 hb6
  have hne : ¬ blk (.slice aH hl.length kH) = some y := yH
  have I2 := I1.app_hav (x := n) u6 sl6 (fun b hb => (hb6 b hb).imp id (fun e => Nat.le_of_eq e.symm))
  have o1 := u6.get I1.row (fun hx => sliceO_ne I1.hav I1.row (by decide) W hx rfl)
  have hZ : _ ∧ _ := And.intro (hcell_of o1 rfl : hcell h3 ⟨W, 11, none⟩ = some (.slice aH hl.length kH)) (fun j v hv => u6.hcell (hZ5.2 j v hv) hne : TJ.hrow h3 y 0 (nmeL n))
  refine ⟨hZ, ?_⟩
  obtain ⟨a4, k4, e4⟩ := sl6.val
  refine EA.val 8 rfl (by kernel_rfl) rfl rfl rfl (fun ρ Q X hρ hq => sem_nilCheck (hρ _ _ rfl) hq) hZ ?_
  refine EA.tField 9 rfl (by kernel_rfl) (by kernel_rfl) (by kernel_rfl) rfl rfl rfl rfl hZ ?_
  refine EA.unitL (h' := hset h3 ⟨W, 11, none⟩ s6) 10 rfl (by kernel_rfl) rfl rfl rfl (fun ρ Q X hρ hq => sem_store1 (hρ _ _ rfl) (hρ _ _ rfl) (by rw [e4]; exact ⟨nofun, nofun⟩) ⟨_, hZ.1⟩ (hfroz_of o1) (fun x => x) hq) ?_
  refine EA.done (by kernel_rfl) ?_
  have old2 : ∀ (y : Nat) (a : Array Value) (t : TypeId), h[y]? = some (.cells a t (0, 0)) → t ≠ 66 → t ≠ 210 → t ≠ 4 → t ≠ 2 → (hset h3 ⟨W, 11, none⟩ s6)[y]? = some (.cells a t (0, 0)) := fun y a t hy q1 q2 q3 q4 => by
    have ky := I1.keep (old1 y a t hy) q1 q2 q3 q4
    exact (hset_ne _ _ _ (Ne.symm ky.1)).trans (u6.get (old1 y a t hy) ky.2.2.2.2.1)
  generalize hset h3 ⟨W, 11, none⟩ s6 = h4 at I2 old2 ⊢
  clear hZ hZ5 I I1 gy gy1 old old1 up sl1 sl6 u6 hb6 hne o1 c11 rY e4 a4 k4 yH yl
  have c12 : hcell h4 ⟨W, 12, none⟩ = some (.slice aO ol.length kO) := hcell_of I2.row rfl
  (repeat (first | refine EK.region ?_ | refine ER.move rfl rfl rfl ?_ | refine ER.nilCheck rfl rfl rfl ?_ | refine ER.fieldAddr rfl rfl rfl ?_ | refine ER.load1 rfl rfl rfl (by assumption) ?_))
  refine ER.slice1 (sz := 1) (z := .int .i64 0) (cells := #[.int .i64 v]) rfl rfl rfl (by omega) (by omega) rfl rfl ?_
  have I1 := I2.upd0 (Upd.push h4 (.cells #[.int .i64 v] 2))
  have sl1 := I1.hol
  refine ER.append1 (new := [.int .i64 v]) rfl rfl rfl rfl sl1 (get_push_new _ _) rfl (by simp [OneCell]) (by omega) (by omega) (by rfl) (fun _ _ _ x => x) ?_
  have old3 : ∀ (y : Nat) (a : Array Value) (t : TypeId), h[y]? = some (.cells a t (0, 0)) → t ≠ 66 → t ≠ 210 → t ≠ 4 → t ≠ 2 → (h4.push (.cells #[.int .i64 v] 2))[y]? = some (.cells a t (0, 0)) := fun y a t hy q1 q2 q3 q4 => get_push _ (old2 y a t hy q1 q2 q3 q4)
  generalize h4.push (.cells #[.int .i64 v] 2) = h5 at I1 sl1 old3 ⊢
  intro s7 h6 sl7 u7 hb7
  have I3 := I1.app_hol (x := v) u7 sl7 (fun b hb => (hb7 b hb).imp id (fun e => Nat.le_of_eq e.symm))
  have o5 : ∃ v, hcell h6 ⟨W, 0 + 12, none⟩ = some v ∧ hfroz h6 ⟨W, 0 + 12, none⟩ = false := by
    have o1 := u7.get I1.row (fun hx => sliceO_ne I1.hol I1.row (by decide) W hx rfl)
    exact ⟨_, hcell_of o1 rfl, hfroz_of o1⟩
  obtain ⟨v5, o5, f5⟩ := o5
  obtain ⟨a4, k4, e4⟩ := sl7.val
  (repeat (first | refine ER.nilCheck rfl rfl rfl ?_ | refine ER.fieldAddr rfl rfl rfl ?_))
  refine ER.store1 rfl rfl rfl (by rw [e4]; exact ⟨nofun, nofun⟩) ⟨_, o5⟩ f5 (fun x => x) ?_
  have old4 : ∀ (y : Nat) (a : Array Value) (t : TypeId), h[y]? = some (.cells a t (0, 0)) → t ≠ 66 → t ≠ 210 → t ≠ 4 → t ≠ 2 → (hset h6 ⟨W, 12, none⟩ s7)[y]? = some (.cells a t (0, 0)) := fun y a t hy q1 q2 q3 q4 => by
    have ky := I1.keep (old3 y a t hy q1 q2 q3 q4) q1 q2 q3 q4
    exact (hset_ne _ _ _ (Ne.symm ky.1)).trans (u7.get (old3 y a t hy q1 q2 q3 q4) ky.2.2.2.2.2)
  (repeat refine ER.done ?_)
  exact EK.done (EU.ret0 rfl ⟨rfl, _, _, I3, old4⟩)
set_option maxRecDepth 8000 in
theorem of_ok {i : Nat} : CallW Try.prog main S 22 #[ptr W, .int .i64 i] h δ (Ret fun v h' δ' => δ' = δ ∧ ∃ x, v = ptr x ∧ x = h.size ∧ h'[x]? = some (wrO W i false 0) ∧ Upd (fun _ => False) h h') := by
  refine CallW.start (n := 9) rfl rfl ?_
  (repeat (first | refine EK.seq ?_ | refine EK.region ?_ | refine ER.done ?_ | refine ER.move rfl rfl rfl ?_ | refine ER.assign rfl rfl rfl ?_))
  refine ER.buildS (cells := #[ptr W, .int .i64 i, .bool false, .int .i64 0]) rfl rfl (by rfl) (by rfl) ?_
  (repeat (first | refine ER.done ?_ | refine ER.assign rfl rfl rfl ?_ | refine ER.boxA rfl rfl rfl ?_ | refine EK.ret ?_))
  exact EU.ret1 rfl rfl ⟨rfl, _, rfl, rfl, get_push_new _ _, Upd.push _ _⟩
end
end Go.Proofs.Ytcpcdnkemobneaa
end
section
namespace Go.Proofs.Ytcpcdnkemobneaa
open Go Go.TJ Go.Conc Go.Proofs
def hsUp (m : Nat) : List (Nme × Int) := ((80, 1), 1) :: (List.range' 1 m).map fun (k : Nat) => ((81, (k : Int)), (k : Int) + 1)
theorem hsUp_succ (m : Nat) : hsUp (m + 1) = hsUp m ++ [((81, ((m + 1 : Nat) : Int)), ((m + 1 : Nat) : Int) + 1)] := by
  unfold hsUp
  rw [List.range'_1_concat, List.map_append, List.cons_append, show 1 + m = m + 1 by omega]
  rfl
theorem hsUp_len (m : Nat) : (hsUp m).length = m + 1 := by simp [hsUp]
section
variable {Γ : Type} {main : Bool} {S : Sit Γ} {δ : Ix Γ} {R : Rec} {lL lW lY lV sP : Value} {h0 h h1 h' : Hp} {W n : Nat} {nl : List Nme} {gl : List Bool} {fl : List Int} {nv gv fv : Value}
set_option maxRecDepth 8000 in
set_option maxHeartbeats 4000000 in
theorem sbegin_ok (I : WkR R lL lW lY lV h0 W nl gl fl [] [] nv gv fv nilS nilS h) (hn1 : 1 ≤ n) (hn : n ≤ 200) :
    CallW Try.prog main (NoS (Γ := Γ)) 21 #[ptr W, .agg #[.int .i64 n]] h δ (Ret fun _ h' δ' => δ' = δ ∧ ∃ hv ov, WkR R lL lW lY lV h0 W nl gl fl ((hsUp (n - 1)).map (·.1)) ((hsUp (n - 1)).map (·.2)) nv gv fv hv ov h') := by
  obtain ⟨y, hy⟩ : ∃ y, y = h.size := ⟨_, rfl⟩
  refine CallW.start (n := 20) rfl rfl ?_
  (repeat (first | refine EK.seq ?_ | refine EK.region ?_ | refine ER.done ?_ | refine ER.move rfl rfl rfl ?_ | refine ER.boxA rfl rfl rfl ?_))
  refine ER.gen (fun h' => WkR R lL lW lY lV h0 W nl gl fl [] [] nv gv fv nilS nilS h' ∧ h'[y]? = some (.cells #[.int .i64 n] 23 (0, 0))) ⟨I.upd0 (Upd.push _ _), by rw [hy]; exact get_push_new _ _⟩ ?_
  rw [← hy]
  clear I hy
  rintro h1 ⟨I, gy⟩
  refine ER.callR rfl rfl rfl rfl rfl rlist_ok ?_
  rintro _ h2 δ2 ⟨rfl, rfl, u2⟩
  replace I := I.upd0 u2
  replace gy := u2.get gy (fun x => x)
  clear u2
  refine ER.callR rfl rfl rfl rfl rfl (have_ok I (by simp) rfl) ?_
  clear I
  rintro _ h3 δ3 ⟨rfl, hv, ov, I, keep⟩
  replace gy := keep y _ _ gy (by decide) (by decide) (by decide) (by decide)
  clear keep
  (repeat (first | refine EK.seq ?_ | refine EK.region ?_ | refine ER.done ?_ | refine EK.block ?_ | refine ER.assign rfl rfl rfl ?_))
  refine EK.loopInv (fun q : Nat × Value × Value => [(4, .int .i64 ((q.1 + 1 : Nat) : Int)), (3, ptr y), (0, ptr W)]) (fun q h' δ' => δ' = δ3 ∧ q.1 + 1 ≤ n ∧ WkR R lL lW lY lV h0 W nl gl fl ((hsUp q.1).map (·.1)) ((hsUp q.1).map (·.2)) nv gv fv q.2.1 q.2.2 h' ∧ h'[y]? = some (.cells #[.int .i64 n] 23 (0, 0))) (fun q => n - q.1) (0, hv, ov) ⟨rfl, rfl, rfl, trivial⟩ ⟨rfl, hn1, I, gy⟩ ?_
  clear I gy
  rintro ⟨m, hv, ov⟩ h4 δ4 ⟨hδ, hm, I, gy⟩ again
  dsimp only at hδ hm I again ⊢
  subst hδ
  by_cases hin : m + 1 < n
  · (repeat (first | refine EK.seq ?_ | refine EK.region ?_ | refine ER.done ?_ | refine EK.skip ?_ | refine EK.block ?_ | refine ER.move rfl rfl rfl ?_ | refine ER.fieldAddr rfl rfl rfl ?_ | refine ER.load1 rfl rfl rfl (hcell_of (by assumption) rfl) ?_ | refine ER.cmpT rfl rfl rfl rfl rfl (by first | (dsimp only [cmpP]; omega) | exact rfl | exact Int.le_refl _) ?_ | refine EK.condT rfl ?_))
    refine ER.callR rfl rfl rfl rfl rfl rnext_ok ?_
    rintro _ h5 δ5 ⟨rfl, rfl, u5⟩
    replace I := I.upd0 u5
    replace gy := u5.get gy (fun x => x)
    clear u5
    (repeat (first | refine ER.move rfl rfl rfl ?_ | refine ER.add (kd := .i64) rfl rfl rfl rfl (i64_in (by omega) (by omega)) ?_))
    refine ER.callR rfl rfl rfl rfl rfl (have_ok I (by rw [List.length_map, hsUp_len]; omega) (by rw [List.length_map, List.length_map])) ?_
    clear I
    rintro _ h6 δ6 ⟨rfl, hv, ov, I, keep⟩
    replace gy := keep y _ _ gy (by decide) (by decide) (by decide) (by decide)
    clear keep
    (repeat (first | refine EK.region ?_ | refine ER.done ?_ | refine EK.inBlock ?_ | refine ER.move rfl rfl rfl ?_ | refine ER.assign rfl rfl rfl ?_ | refine ER.add (kd := .i64) rfl rfl rfl rfl (i64_in (by omega) (by omega)) ?_))
    refine EK.back (again (m + 1, hv, ov) _ _ (by dsimp only; omega) ⟨rfl, by dsimp only; omega, ?_, gy⟩) ⟨rfl, rfl, rfl, trivial⟩
    dsimp only
    rw [hsUp_succ, List.map_append, List.map_append]
    exact I
  · obtain rfl : n = m + 1 := by omega
    clear again
    (repeat (first | refine EK.seq ?_ | refine EK.region ?_ | refine ER.done ?_ | refine ER.move rfl rfl rfl ?_ | refine ER.fieldAddr rfl rfl rfl ?_ | refine ER.load1 rfl rfl rfl (hcell_of (by assumption) rfl) ?_ | refine ER.cmpF rfl rfl rfl rfl rfl (by first | (dsimp only [cmpP]; omega) | exact rfl | exact Int.le_refl _) ?_ | refine EK.condF rfl ?_ | refine EK.exit rfl ?_))
    exact EK.done (EU.ret0 rfl ⟨rfl, hv, ov, by rw [Nat.add_sub_cancel]; exact I⟩)
end
end Go.Proofs.Ytcpcdnkemobneaa
end
section
namespace Go.Proofs.Ytcpcdnkemobneaa
open Go Go.TJ Go.Conc Go.Proofs
section
variable {Γ : Type} {main : Bool} {S : Sit Γ} {δ : Ix Γ} {h h' : Hp} {base : Nat} {scv pv : Value} {sc : List (List SCall)} {N : Int}
set_option maxRecDepth 8000 in
set_option maxHeartbeats 8000000 in
theorem slong_ok {vp : List Value} (hs : ScrM base h scv sc) (hp : RdS h pv vp) (hpl : vp.length ≤ 1000000000000000) :
    CallW Try.prog main S 13 #[.agg #[.int .i64 N, scv, pv]] h δ (Ret fun v h' δ' => δ' = δ ∧ Upd (fun _ => False) h h' ∧ ∃ b, v = .bool b ∧ (b = false → sc.length ≤ 8 ∧ (∀ l, l ∈ sc → l.length ≤ 400) ∧ vp.length ≤ 2000 ∧ 1 ≤ N ∧ N ≤ 200)) := by
  obtain ⟨aS, kS, eS⟩ := hs.val
  obtain ⟨aP, kP, eP⟩ := hp.val
  subst eS eP
  have big1 := hs.big.1
  obtain ⟨y, hy⟩ : ∃ y, y = h.size := ⟨_, rfl⟩
  refine CallW.start (n := 51) rfl rfl ?_
  (repeat (first | refine EK.seq ?_ | refine EK.region ?_ | refine ER.done ?_ | refine EK.block ?_ | refine ER.assign rfl rfl rfl ?_ | refine ER.boxA rfl rfl rfl ?_))
  refine EK.gen (fun h' => ScrM base h' (.slice aS sc.length kS) sc ∧ Upd (fun _ => False) h h' ∧ h'[y]? = some (.cells #[.int .i64 N, .slice aS sc.length kS, .slice aP vp.length kP] 27 (0, 0))) ⟨?_, Upd.push _ _, by rw [hy]; exact get_push_new _ _⟩ ?_
  · refine ⟨hs.val, hs.big, fun i l hl => ?_⟩
    obtain ⟨b, o, k, a', k', e1, e2, e3, e4⟩ := hs.row i l hl
    refine ⟨b, o, k, a', k', e1, e2, hcell_push e3, fun j q hq => ?_⟩
    obtain ⟨b', o', f1, f2, f3⟩ := e4 j q hq
    exact ⟨b', o', f1, f2, fun j v hv => hcell_push (f3 j v hv)⟩
  rw [← hy]
  clear hs hp hy
  rintro h1 ⟨hs, uu, gy⟩
  have y1 : hcell h1 ⟨y, 1, none⟩ = some (.slice aS sc.length kS) := hcell_of gy rfl
  refine EK.loopInv (fun q : Nat × Nat => [(4, .int .i64 q.1), (3, .int .i64 q.2), (1, ptr y)]) (fun q h' δ' => δ' = δ ∧ h' = h1 ∧ q.1 ≤ sc.length ∧ q.2 ≤ 2000000000000000 ∧ ∀ j l, j < q.1 → sc[j]? = some l → l.length ≤ q.2) (fun q => sc.length - q.1) (0, 0) ⟨rfl, rfl, rfl, trivial⟩ ⟨rfl, rfl, Nat.zero_le _, by omega, fun j l hj => by omega⟩ ?_
  rintro ⟨i, m⟩ h2 δ2 ⟨rfl, rfl, hi, hm, hno⟩ again
  dsimp only at hi hm hno again ⊢
  by_cases hin : i < sc.length
  · by_cases hm4 : m ≤ 400
    · obtain ⟨l, hl⟩ : ∃ l, sc[i]? = some l := ⟨_, List.getElem?_eq_getElem hin⟩
      obtain ⟨b, o, k, a', k', e1, e2, e3, e4⟩ := hs.row i l hl
      injection e1 with e1
      subst e1
      have hlb := hs.big.2 l (List.mem_of_getElem? hl)
      (repeat (first | refine EK.seq ?_ | refine EK.region ?_ | refine ER.done ?_ | refine EK.skip ?_ | refine EK.block ?_ | refine EK.inBlock ?_ | refine ER.move rfl rfl rfl ?_ | refine ER.assign rfl rfl rfl ?_ | refine ER.fieldAddr rfl rfl rfl ?_ | refine ER.load1 rfl rfl rfl (hcell_of (by assumption) rfl) ?_ | refine ER.pickT rfl rfl rfl rfl ?_ | refine ER.cmpT rfl rfl rfl rfl rfl (by first | (dsimp only [cmpP]; omega) | exact rfl | exact Int.le_refl _) ?_ | refine ER.add (kd := .i64) rfl rfl rfl rfl (i64_in (by omega) (by omega)) ?_ | refine ER.len1 rfl rfl rfl ?_ | refine ER.indexSl rfl rfl rfl rfl (by omega) (by omega) ?_ | refine EK.condT rfl ?_ | refine ER.load1 rfl rfl rfl (by assumption) ?_))
      exact EK.back (again (i + 1, m + 1 + l.length) _ _ (by dsimp only; omega) ⟨rfl, rfl, by dsimp only; omega, by dsimp only; omega, fun j l' hj hl' => by
        dsimp only at hj ⊢
        by_cases e : j = i
        · subst e; rw [hl] at hl'; cases hl'; omega
        · have := hno j l' (by omega) hl'; omega⟩) ⟨rfl, rfl, rfl, trivial⟩
    · have y2 : hcell h2 ⟨y, 2, none⟩ = some (.slice aP vp.length kP) := hcell_of gy rfl
      (repeat (first | refine EK.seq ?_ | refine EK.region ?_ | refine ER.done ?_ | refine ER.move rfl rfl rfl ?_ | refine ER.assign rfl rfl rfl ?_ | refine ER.fieldAddr rfl rfl rfl ?_ | refine ER.load1 rfl rfl rfl (hcell_of (by assumption) rfl) ?_ | refine ER.no rfl rfl ?_ | refine ER.pickT rfl rfl rfl rfl ?_ | refine ER.cmpT rfl rfl rfl rfl rfl (by first | (dsimp only [cmpP]; omega) | exact rfl | exact Int.le_refl _) ?_ | refine ER.cmpF rfl rfl rfl rfl rfl (by first | (dsimp only [cmpP]; omega) | exact rfl | exact Int.le_refl _) ?_ | refine ER.len1 rfl rfl rfl ?_ | refine EK.condF rfl ?_ | refine EK.ret ?_ | refine EK.exit rfl ?_))
      exact EU.ret1 rfl rfl ⟨rfl, uu, _, rfl, fun e => by cases e⟩
  · obtain rfl : i = sc.length := by omega
    have y2 : hcell h2 ⟨y, 2, none⟩ = some (.slice aP vp.length kP) := hcell_of gy rfl
    have y0 : hcell h2 ⟨y, 0, none⟩ = some (.int .i64 N) := hcell_of gy rfl
    clear again
    by_cases c1 : m ≤ 400
    · by_cases c2 : sc.length ≤ 8
      · by_cases c3 : vp.length ≤ 2000
        · by_cases c4 : 1 ≤ N
          · by_cases c5 : N ≤ 200
            · (repeat (first | refine EK.seq ?_ | refine EK.region ?_ | refine ER.done ?_ | refine ER.move rfl rfl rfl ?_ | refine ER.assign rfl rfl rfl ?_ | refine ER.fieldAddr rfl rfl rfl ?_ | refine ER.load1 rfl rfl rfl (hcell_of (by assumption) rfl) ?_ | refine ER.no rfl rfl ?_ | refine ER.pickF rfl rfl rfl rfl ?_ | refine ER.cmpF rfl rfl rfl rfl rfl (by first | (dsimp only [cmpP]; omega) | exact rfl | exact Int.le_refl _) ?_ | refine ER.len1 rfl rfl rfl ?_ | refine EK.condF rfl ?_ | refine EK.ret ?_ | refine EK.exit rfl ?_))
              exact EU.ret1 rfl rfl ⟨rfl, uu, _, rfl, fun _ => ⟨c2, fun l hl => by
                obtain ⟨j, hj, rfl⟩ := List.mem_iff_getElem.1 hl
                have := hno j _ hj (List.getElem?_eq_getElem hj)
                omega, c3, c4, c5⟩⟩
            · skip
              (repeat (first | refine EK.seq ?_ | refine EK.region ?_ | refine ER.done ?_ | refine ER.move rfl rfl rfl ?_ | refine ER.assign rfl rfl rfl ?_ | refine ER.fieldAddr rfl rfl rfl ?_ | refine ER.load1 rfl rfl rfl (hcell_of (by assumption) rfl) ?_ | refine ER.no rfl rfl ?_ | refine ER.pickF rfl rfl rfl rfl ?_ | refine ER.cmpT rfl rfl rfl rfl rfl (by first | (dsimp only [cmpP]; omega) | exact rfl | exact Int.le_refl _) ?_ | refine ER.cmpF rfl rfl rfl rfl rfl (by first | (dsimp only [cmpP]; omega) | exact rfl | exact Int.le_refl _) ?_ | refine ER.len1 rfl rfl rfl ?_ | refine EK.condF rfl ?_ | refine EK.ret ?_ | refine EK.exit rfl ?_))
              exact EU.ret1 rfl rfl ⟨rfl, uu, _, rfl, fun e => by cases e⟩
          · skip
            (repeat (first | refine EK.seq ?_ | refine EK.region ?_ | refine ER.done ?_ | refine ER.move rfl rfl rfl ?_ | refine ER.assign rfl rfl rfl ?_ | refine ER.fieldAddr rfl rfl rfl ?_ | refine ER.load1 rfl rfl rfl (hcell_of (by assumption) rfl) ?_ | refine ER.no rfl rfl ?_ | refine ER.pickT rfl rfl rfl rfl ?_ | refine ER.pickF rfl rfl rfl rfl ?_ | refine ER.cmpT rfl rfl rfl rfl rfl (by first | (dsimp only [cmpP]; omega) | exact rfl | exact Int.le_refl _) ?_ | refine ER.cmpF rfl rfl rfl rfl rfl (by first | (dsimp only [cmpP]; omega) | exact rfl | exact Int.le_refl _) ?_ | refine ER.len1 rfl rfl rfl ?_ | refine EK.condF rfl ?_ | refine EK.ret ?_ | refine EK.exit rfl ?_))
            exact EU.ret1 rfl rfl ⟨rfl, uu, _, rfl, fun e => by cases e⟩
        · skip
          (repeat (first | refine EK.seq ?_ | refine EK.region ?_ | refine ER.done ?_ | refine ER.move rfl rfl rfl ?_ | refine ER.assign rfl rfl rfl ?_ | refine ER.fieldAddr rfl rfl rfl ?_ | refine ER.load1 rfl rfl rfl (hcell_of (by assumption) rfl) ?_ | refine ER.no rfl rfl ?_ | refine ER.pickT rfl rfl rfl rfl ?_ | refine ER.pickF rfl rfl rfl rfl ?_ | refine ER.cmpT rfl rfl rfl rfl rfl (by first | (dsimp only [cmpP]; omega) | exact rfl | exact Int.le_refl _) ?_ | refine ER.cmpF rfl rfl rfl rfl rfl (by first | (dsimp only [cmpP]; omega) | exact rfl | exact Int.le_refl _) ?_ | refine ER.len1 rfl rfl rfl ?_ | refine EK.condF rfl ?_ | refine EK.ret ?_ | refine EK.exit rfl ?_))
          exact EU.ret1 rfl rfl ⟨rfl, uu, _, rfl, fun e => by cases e⟩
      · skip
        (repeat (first | refine EK.seq ?_ | refine EK.region ?_ | refine ER.done ?_ | refine ER.move rfl rfl rfl ?_ | refine ER.assign rfl rfl rfl ?_ | refine ER.fieldAddr rfl rfl rfl ?_ | refine ER.load1 rfl rfl rfl (hcell_of (by assumption) rfl) ?_ | refine ER.no rfl rfl ?_ | refine ER.pickT rfl rfl rfl rfl ?_ | refine ER.pickF rfl rfl rfl rfl ?_ | refine ER.cmpT rfl rfl rfl rfl rfl (by first | (dsimp only [cmpP]; omega) | exact rfl | exact Int.le_refl _) ?_ | refine ER.cmpF rfl rfl rfl rfl rfl (by first | (dsimp only [cmpP]; omega) | exact rfl | exact Int.le_refl _) ?_ | refine ER.len1 rfl rfl rfl ?_ | refine EK.condF rfl ?_ | refine EK.ret ?_ | refine EK.exit rfl ?_))
        exact EU.ret1 rfl rfl ⟨rfl, uu, _, rfl, fun e => by cases e⟩
    · skip
      (repeat (first | refine EK.seq ?_ | refine EK.region ?_ | refine ER.done ?_ | refine ER.move rfl rfl rfl ?_ | refine ER.assign rfl rfl rfl ?_ | refine ER.fieldAddr rfl rfl rfl ?_ | refine ER.load1 rfl rfl rfl (hcell_of (by assumption) rfl) ?_ | refine ER.no rfl rfl ?_ | refine ER.pickT rfl rfl rfl rfl ?_ | refine ER.pickF rfl rfl rfl rfl ?_ | refine ER.cmpT rfl rfl rfl rfl rfl (by first | (dsimp only [cmpP]; omega) | exact rfl | exact Int.le_refl _) ?_ | refine ER.cmpF rfl rfl rfl rfl rfl (by first | (dsimp only [cmpP]; omega) | exact rfl | exact Int.le_refl _) ?_ | refine ER.len1 rfl rfl rfl ?_ | refine EK.condF rfl ?_ | refine EK.ret ?_ | refine EK.exit rfl ?_))
      exact EU.ret1 rfl rfl ⟨rfl, uu, _, rfl, fun e => by cases e⟩
end
end Go.Proofs.Ytcpcdnkemobneaa
end
section
namespace Go.Proofs.Ytcpcdnkemobneaa
open Go Go.TJ Go.Conc Go.Proofs
def v1S (n : Nat) : Nat → Int := fun k => if k = 2 then 0 else if k = 3 then 1 else if k % 2 = 0 then (((k - 4) / 2 + 1) % (n + 1) : Nat) else 0
def nmK (k : Nat) : Nme := if k = 2 then (80, 0) else if k = 3 then (80, 1) else if k % 2 = 0 then (81, (((k - 4) / 2 : Nat) : Int)) else (82, (((k - 5) / 2 : Nat) : Int))
theorem nmK_inj {j k : Nat} (hj : 2 ≤ j) (hk : 2 ≤ k) (h : nmK j = nmK k) : j = k := by
  unfold nmK at h
  split at h <;> split at h <;> (try split at h) <;> (try split at h) <;> (try split at h) <;> (try split at h) <;> first | omega | (injection h with h1 h2; omega)
theorem look_none {m : Nat} {q : Nme} (h1 : q ≠ (80, 1)) (h2 : ∀ k : Nat, 1 ≤ k → k ≤ m → q ≠ (81, (k : Int))) : lookN (hsUp m) q = 0 := by
  refine lookN_no fun z hz => ?_
  unfold hsUp at hz
  rcases List.mem_cons.1 hz with rfl | hz
  · exact Ne.symm h1
  · obtain ⟨k, hk, rfl⟩ := List.mem_map.1 hz
    obtain ⟨k1, k2⟩ := List.mem_range'_1.1 hk
    exact Ne.symm (h2 k k1 (by omega))
theorem look_at {m k : Nat} (h1 : 1 ≤ k) (h2 : k ≤ m) : lookN (hsUp m) (81, (k : Int)) = (k : Int) + 1 := by
  refine lookN_at (k := k) (fun j z hj hz => ?_) ?_
  · unfold hsUp at hz
    cases j with
    | zero =>
      injection hz with hz
      subst hz
      intro e
      injection e with e _
      exact absurd e (by decide)
    | succ j =>
      rw [List.getElem?_cons_succ, List.getElem?_map] at hz
      obtain ⟨x, hx, rfl⟩ := Option.map_eq_some_iff.1 hz
      rw [List.getElem?_range' (by omega)] at hx
      injection hx with hx
      intro e
      injection e with _ e
      omega
  · unfold hsUp
    obtain ⟨k', rfl⟩ : ∃ k', k = k' + 1 := ⟨k - 1, by omega⟩
    rw [List.getElem?_cons_succ, List.getElem?_map, List.getElem?_range' (by omega)]
    simp only [Option.map_some, Nat.one_mul]
    rw [show 1 + k' = k' + 1 by omega]
theorem look_hs {n k : Nat} (hn1 : 1 ≤ n) (h2 : 2 ≤ k) (hk : k < 6 + 2 * n) (h4 : k ≠ 4) (h5 : k ≠ 5) : lookN (hsUp (n - 1)) (nmK k) = v1S n k := by
  unfold nmK v1S
  by_cases e2 : k = 2
  · rw [if_pos e2, if_pos e2]
    exact look_none (by decide) (fun k _ _ e => by injection e with e _; exact absurd e (by decide))
  · rw [if_neg e2, if_neg e2]
    by_cases e3 : k = 3
    · rw [if_pos e3, if_pos e3]
      exact lookN_at (k := 0) (fun j z hj => by omega) rfl
    · rw [if_neg e3, if_neg e3]
      by_cases ev : k % 2 = 0
      · rw [if_pos ev, if_pos ev]
        by_cases el : (k - 4) / 2 ≤ n - 1
        · rw [look_at (by omega) el, Nat.mod_eq_of_lt (by omega)]
          omega
        · have : (k - 4) / 2 = n := by omega
          rw [this, Nat.mod_self]
          refine look_none (fun e => by injection e with e _; exact absurd e (by decide)) (fun j j1 j2 e => ?_)
          injection e with _ e
          omega
      · rw [if_neg ev, if_neg ev]
        exact look_none (fun e => by injection e with e _; exact absurd e (by decide)) (fun j _ _ e => by injection e with e _; exact absurd e (by decide))
theorem exists_idx {m : Nat} {B : Nat → Nat} (inj : ∀ j k, j < m → k < m → B j = B k → j = k) : ∃ idx : Nat → Nat, ∀ k, k < m → idx (B k) = k := by
  classical
  refine ⟨fun b => if h : ∃ k, k < m ∧ B k = b then Classical.choose h else 0, fun k hk => ?_⟩
  have h : ∃ j, j < m ∧ B j = B k := ⟨k, hk, rfl⟩
  simp only [dif_pos h]
  exact inj _ _ (Classical.choose_spec h).1 hk (Classical.choose_spec h).2
def isCS (n : Nat) (B : Nat → Nat) (b : Nat) : Prop := ∃ k, 2 ≤ k ∧ k < 6 + 2 * n ∧ k ≠ 4 ∧ k ≠ 5 ∧ b = B k
abbrev sfunV (pB sB b : Nat) : Value := .func (.func 15) #[] #[ptr pB, ptr b, ptr sB]
structure SPre (base n : Nat) (B : Nat → Nat) (sc : List (List SCall)) (hN : Hp) (pB sB S0 T : Nat) (scv pv pv2 bv : Value) (iBs : List Nat) (picks : List Int) : Prop where
  rep : Rep hN (stkM n B (v1S n))
  tot : ∀ k, 6 + 2 * n ≤ k → B k = B 0
  hn1 : 1 ≤ n
  hn : n ≤ 200
  lowB : ∀ k, k < 6 + 2 * n → base ≤ B k
  p : hN[pB]? = some (.cells #[.int .i64 n, scv, pv] 27 (0, 0))
  s : hN[sB]? = some (.cells #[ptr S0] 29 (0, 0))
  st : hN[S0]? = some (.cells #[ptr (B 0), .slice (some ⟨T, 0, none⟩) sc.length sc.length] 44 (0, 0))
  t : hN[T]? = some (.cells (List.replicate sc.length nilS).toArray 40 (0, 0))
  tb : base ≤ T
  scr : ScrM base hN scv sc
  l8 : sc.length ≤ 8
  small : ∀ l, l ∈ sc → l.length ≤ 400
  bods : SliceO hN bv 45 1 sc.length (iBs.map fun b => sfunV pB sB b)
  nb : ∀ b, blk bv = some b → base ≤ b
  ib : iBs.length = sc.length
  ibx : ∀ (j b : Nat), iBs[j]? = some b → hN[b]? = some (.cells #[.int .i64 (j : Int)] 3 (0, 0)) ∧ blk pv2 ≠ some b
  pk : SliceO hN pv2 3 1 picks.length (picks.map fun x => .int .i64 x)
  np : ∀ b, blk pv2 = some b → base ≤ b
def tcS (n : Nat) (B : Nat → Nat) (f : Nat) (sc : List (List SCall)) (hN : Hp) (T : Nat) (pv2 bv : Value) : TC SAns where
  n := sc.length
  hN := hN
  isC := isCS n B
  ex := fun b => blk bv = some b ∨ blk pv2 = some b
  T := T
  tS := 40
  e := 36
  sz := 3
  enc := sansL
  J := fun _ _ v => JStk n B v
  P := fun i => scriptS B f (sc.getD i [])
section
variable {base n : Nat} {B : Nat → Nat} {f : Nat} {sc : List (List SCall)} {hN : Hp} {pB sB S0 T : Nat} {scv pv pv2 bv : Value} {iBs : List Nat} {picks : List Int}
theorem SPre.inj (x : SPre base n B sc hN pB sB S0 T scv pv pv2 bv iBs picks) : ∀ j k, j < 6 + 2 * n → k < 6 + 2 * n → B j = B k → j = k := fun j k hj hk e => x.rep.inj j k hj hk e
theorem SPre.cell (x : SPre base n B sc hN pB sB S0 T scv pv pv2 bv iBs picks) {k : Nat} (h2 : 2 ≤ k) (hk : k < 6 + 2 * n) : hN[B k]? = some (cellO (v1S n k)) := stk_cell x.rep h2 hk rfl
theorem SPre.notC (x : SPre base n B sc hN pB sB S0 T scv pv pv2 bv iBs picks) {y : Nat} {a : Array Value} {t : TypeId} (hy : hN[y]? = some (.cells a t (0, 0))) (ht : t ≠ 317) : ¬ isCS n B y := by
  rintro ⟨k, h2, hk, -, -, rfl⟩
  rw [x.cell h2 hk] at hy
  injection hy with hy
  injection hy with _ hy _
  exact ht hy.symm
theorem SPre.old (x : SPre base n B sc hN pB sB S0 T scv pv pv2 bv iBs picks) {y : Nat} {a : Array Value} {t : TypeId} (hy : hN[y]? = some (.cells a t (0, 0))) (ht : t ≠ 317) (h1 : t ≠ 45) (h2 : t ≠ 3) : (tcS n B f sc hN T pv2 bv).old y :=
  ⟨lt_of_get hy, x.notC hy ht, fun e => e.elim (fun e => sliceO_ne x.bods hy (Ne.symm h1) y e rfl) (fun e => sliceO_ne x.pk hy (Ne.symm h2) y e rfl)⟩
theorem SPre.neT (x : SPre base n B sc hN pB sB S0 T scv pv pv2 bv iBs picks) {y : Nat} {a : Array Value} {t : TypeId} (hy : hN[y]? = some (.cells a t (0, 0))) (ht : t ≠ 40) : y ≠ T := fun e => by
  rw [e, x.t] at hy
  injection hy with hy
  injection hy with _ hy _
  exact ht hy.symm
theorem SPre.stkH (x : SPre base n B sc hN pB sB S0 T scv pv pv2 bv iBs picks) : StkH n B hN := ⟨x.rep.get (k := 0) (show 0 < 6 + 2 * n by omega) rfl, x.rep.get (k := 1) (show 1 < 6 + 2 * n by omega) rfl⟩
theorem jstk0 {n : Nat} {B : Nat → Nat} {v : Nat → Int} (hn1 : 1 ≤ n) (hv : ∀ k, 2 ≤ k → k < 6 + 2 * n → v (B k) = v1S n k) : JStk n B v := by
  refine ⟨?_, ?_, fun k h1 h2 => ?_⟩
  · rw [hv 2 (by omega) (by omega)]; show (0 : Int) % 65536 ≤ n; omega
  · rw [hv 3 (by omega) (by omega)]; show (1 : Int) % 65536 ≤ n; omega
  · rw [hv (4 + 2 * k) (by omega) (by omega)]
    unfold v1S
    rw [if_neg (by omega), if_neg (by omega), if_pos (by omega)]
    have := Nat.mod_lt ((4 + 2 * k - 4) / 2 + 1) (show n + 1 > 0 by omega)
    omega
theorem senv_of (x : SPre base n B sc hN pB sB S0 T scv pv pv2 bv iBs picks) (hf : 65536 < f) (hb : base ≤ hN.size) : SEnv (tcS n B f sc hN T pv2 bv) n B f base sc pB sB S0 scv pv := by
  have hT : (tcS n B f sc hN T pv2 bv).old T := x.old x.t (by decide) (by decide) (by decide)
  have ja : ∀ {i : Nat} {γ : GG (UsT (tcS n B f sc hN T pv2 bv))} {u : (UsT (tcS n B f sc hN T pv2 bv)).U} {L : List (Nat × Obj)} {h : Hp}, Thr (UsT (tcS n B f sc hN T pv2 bv)) i γ u L h → PendS n B i γ → (UsT (tcS n B f sc hN T pv2 bv)).J (γ.p.acc i).log u (γ.p.acc i).val := by
    intro i γ u L h T pd
    have hJ : JStk n B γ.p.val := T.J
    rcases pd with hb | ⟨r, hr, hfine⟩
    · rw [acc_born _ _ hb]; exact hJ
    · rw [acc_stands _ _ hr]
      exact hJ.fine (fun j k h1 h2 h3 h4 e => x.inj j k h2 h4 e) hfine
  have sh := x.stkH
  refine ⟨hT, ⟨usT_ok hT, usT_prog, fun k h1 h2 h3 h4 => ⟨k, h1, h2, h3, h4, rfl⟩, fun u h I => ?_, fun l u v hJ => hJ, fun T pd _ => ja T pd, x.hn1, by have := x.hn; omega⟩, fun b hb' => ?_, ⟨x.old x.p (by decide) (by decide) (by decide), x.neT x.p (by decide), x.p⟩, ⟨x.old x.s (by decide) (by decide) (by decide), x.neT x.s (by decide), x.s⟩, ⟨x.old x.st (by decide) (by decide) (by decide), x.neT x.st (by decide), x.st⟩, x.scr, rfl, fun i q hq => ?_, hf, x.small, ja, rfl, rfl, rfl, rfl⟩
  · have I' : ToldI (tcS n B f sc hN T pv2 bv) u h := I
    exact ⟨(I'.old _ (x.old sh.o0 (by decide) (by decide) (by decide)) (x.neT sh.o0 (by decide))).trans sh.o0, (I'.old _ (x.old sh.o1 (by decide) (by decide) (by decide)) (x.neT sh.o1 (by decide))).trans sh.o1⟩
  · refine ⟨⟨Nat.lt_of_lt_of_le hb' hb, fun ⟨k, h1, h2, _, _, e⟩ => by have := x.lowB k h2; omega, fun e => e.elim (fun e => by have := x.nb b e; omega) (fun e => by have := x.np b e; omega)⟩, fun e => by have := x.tb; change b = T at e; omega⟩
  · show scriptS B f (sc.getD i []) = _
    rw [List.getD_eq_getElem?_getD, hq]; rfl
end
end Go.Proofs.Ytcpcdnkemobneaa
end
section
namespace Go.TJ
open Go Go.Conc
open Go.ConcN (sumTo upd sumTo_upd upd_ne upd_same)
def SwS (P : Program) : Sit Nat where
  still := fun _ _ => False
  yld g h δ Y := δ.d = 0 ∧ ∃ (Γ' : Type) (X : Proto Γ') (γ : Γ'), X.Ok ∧ X.num γ = δ.g ∧ δ.g = 1 ∧
    Runs P true (SitM P X) (fun g' h' δ' => δ'.d = 0 ∧ (∀ i, i ≠ 0 → i < X.num δ'.g → X.ch δ'.g i = none) ∧ Y g' h' ⟨0, X.num δ'.g⟩) g h ⟨0, γ⟩
theorem CallW.sw {P : Program} {Γ' : Type} {X : Proto Γ'} (hX : X.Ok) {γ : Γ'} (h1 : X.num γ = 1) {f : FuncId} {args : Array Value} {h : Hp} {R : Post Nat} (hc : CallW P true (SitM P X) f args h ⟨0, γ⟩ fun r h' δ' => δ'.d = 0 ∧ (∀ i, i ≠ 0 → i < X.num δ'.g → X.ch δ'.g i = none) ∧ R r h' ⟨0, X.num δ'.g⟩) : CallW P true (SwS P) f args h ⟨0, 1⟩ R := by
  intro kind hk cs
  refine .hands (fun g' h' δ' => Left P f kind cs R g' h' δ') (fun g' h' δ' y => .stop y) ⟨rfl, Γ', X, γ, hX, h1, rfl, (hc kind hk cs).mono ?_⟩
  rintro g' h' δ' ⟨a, todo, mode, fn, h1, h2, h3, ⟨h5, v, h6, h7, h8, h9⟩ | ⟨c, h5, h7, h8, h9⟩⟩
  · exact ⟨h7, h8, a, todo, mode, fn, h1, h2, h3, .inl ⟨h5, v, h6, h9⟩⟩
  · exact ⟨h7, h8, a, todo, mode, fn, h1, h2, h3, .inr ⟨c, h5, h9⟩⟩
def PN : Proto Nat where
  num n := n
  ch _ _ := none
  cells _ _ _ := none
  R _ _ _ := True
  Pass _ _ _ := True
section
variable {P : Program}
theorem lk_none {h : Nat} {n : Nat} {I : Nat → Option Wait} (hI : ∀ i, i ≠ h → I i = none) : Lk P PN h n I n :=
  ⟨rfl, fun i hi _ => (by rw [hI i hi]; rfl), fun i W hi e => (by rw [hI i hi] at e; cases e), fun i W hi _ e => (by rw [hI i hi] at e; cases e)⟩
theorem lk_end {Γ' : Type} {X : Proto Γ'} {γ : Γ'} {I : Nat → Option Wait} {T : Trace} {gs : Array Goroutine} {w : World} {q : Nat → Nat} (F : Fr P 0 I T gs w q) (L : Lk P X 0 γ I gs.size) (hch : ∀ i, i ≠ 0 → i < X.num γ → X.ch γ i = none) : ∀ i, i ≠ 0 → I i = none := fun i hi => by
  cases e : I i with
  | none => rfl
  | some V =>
    have hlt := F.room i hi (by rw [e]; rfl)
    have h1 := L.ch i hi hlt
    rw [hch i hi (by rw [L.num]; exact hlt), e] at h1
    cases h1
theorem company_sw {Stop : Goroutine → Hp → Ix Nat → Prop} {g : Goroutine} {hp : Hp} {δ : Ix Nat} (H : Runs P true (SwS P) Stop g hp δ) :
    ∀ {I : Nat → Option Wait} {T : Trace} {gs : Array Goroutine} {w : World} {q : Nat → Nat} {sl : Option (Nat × Nat)}, w.heap = hp → Fr P 0 I T gs w q → (∀ i, i ≠ 0 → I i = none) → gs.size = δ.g → gs[0]? = some g → Deaf T 0 = δ.d →
    ∃ (N : Nat) (gs' : Array Goroutine) (g' : Goroutine) (w' : World) (sl' : Option (Nat × Nat)) (T' : Trace) (q' : Nat → Nat) (δ' : Ix Nat) (I' : Nat → Option Wait),
      runNT P N (crowd gs w sl) T = (.next (crowd gs' w' sl'), T') ∧ gs'[0]? = some g' ∧ Fr P 0 I' T' gs' w' q' ∧ (∀ i, i ≠ 0 → I' i = none) ∧ Deaf T' 0 = δ'.d ∧ Same w w' ∧ Stop g' w'.heap δ' := by
  induction H with
  | stop hs =>
    intro I T gs w q sl hw F hI hn hg hd
    subst hw
    exact ⟨0, gs, _, w, sl, T, q, _, I, rfl, hg, F, hI, hd, Same.refl _, hs⟩
  | step Y _ hst ih =>
    intro I T gs w q sl hw F hI hn hg hd
    subst hw
    obtain ⟨N, gs', g', w', sl', T', q', δ', h1, h2, h3, h4, h5, h6, h7, h8⟩ := step_run (X := PN) (i := 0) (by rfl) (S := SwS P) (funext fun n => funext fun a => propext ⟨fun x => x.elim, fun ⟨j, _, _, x, _⟩ => by cases x⟩) (sl := sl) F (by rw [hn]; exact lk_none hI) hg hd hst
    obtain ⟨N₂, gs₂, g₂, w₂, sl₂, T₂, q₂, δ₂, I', k1, k3, k5, k6, k7, k8, k9⟩ := ih _ _ _ h8 (sl := sl') rfl h4 hI (by rw [h5, h2]; exact hn) h3 h6
    exact ⟨N + N₂, gs₂, g₂, w₂, sl₂, T₂, q₂, δ₂, I', runNT_then h1 k1, k3, k5, k6, k7, h7.trans k8, k9⟩
  | @hands g hp δ Y _ hY ih =>
    intro I T gs w q sl hw F hI hn hg hd
    subst hw
    obtain ⟨hd0, Γ', X, γ, hX, e1, e2, hrun⟩ := hY
    obtain ⟨N, gs', g', w', sl', T', q', δ', I', h1, h2, h3, h4, h5, h6, h7, h8, h9⟩ := company hX hrun (sl := sl) rfl F ⟨by rw [e1, hn], fun i hi hlt => by omega, fun i W hi e => (by rw [hI i hi] at e; cases e), fun i W hi _ e => (by rw [hI i hi] at e; cases e)⟩ hg (hd.trans hd0)
    obtain ⟨N₂, gs₂, g₂, w₂, sl₂, T₂, q₂, δ₂, I₂, k1, k3, k5, k6, k7, k8, k9⟩ := ih _ _ _ h9 (sl := sl') rfl h3 (lk_end h3 h4 h8) h4.num.symm h2 (h5.trans h7)
    exact ⟨N + N₂, gs₂, g₂, w₂, sl₂, T₂, q₂, δ₂, I₂, runNT_then h1 k1, k3, k5, k6, k7, h6.trans k8, k9⟩
theorem sw_run {f : FuncId} {args : Array Value} {W : World} {R : Value → Hp → Prop} (hini : P.inits.idxOf? f = none)
    (hc : CallW P true (SwS P) f args W.heap ⟨0, 1⟩ fun
      | .ret v, h', δ' => δ'.d = 0 ∧ R v h'
      | .pan _, _, _ => False) :
    ∃ M last o w' t', runNT P (M + 1) (solo (G (Frame.enter P f args .normal) []) W) #[] = (.ended o w', t') ∧ runN P M (solo (G (Frame.enter P f args .normal) []) W) = .next last ∧ step P last = .ended o w' ∧
      Conc.Good P (fun v W' => R v W'.heap ∧ Same W W') last o w' t' := by
  obtain ⟨N, gs, g', w, sl, T, q, δ, I, hr, hg, F, hI, hd, hs, a, todo, mode, fn, rfl, hda, hf, hend⟩ := company_sw (hc .normal (by simp) []) (sl := none) (w := W) rfl (fr_one P _ W) (fun i _ => rfl) rfl rfl rfl
  rcases hend with ⟨rfl, v, hv, hd0, hR⟩ | ⟨_, _, hp⟩
  · obtain ⟨N₂, gs₂, d, d', sl₂, sl₃, T₂, q₂, hr₂, hst, hsz, ha₂, F₂, hd₂⟩ := F.picked (sl := sl) hg rfl
    obtain ⟨es, hrun, hes⟩ := hv (w.at d') rfl
    have hend := stepG_last (w := w.at d') (todo := todo) hda hf hini hrun
    have hrt := runT_many_ended (P := P) (sl := sl₃) (i := 0) ha₂ hend
    have hops : ∀ op ∈ MemOp.ofEvents 0 f (G { (fb f .normal).at a todo with mode := .returning } []).frame.place (seen P f es), op.g = 0 := fun op hop => by obtain ⟨e, _, rfl⟩ := Go.Conc.mem_ofEvents hop; rfl
    have hTr : Tr 0 (loOf 0 I) (stOf I) (T₂ ++ MemOp.ofEvents 0 f (G { (fb f .normal).at a todo with mode := .returning } []).frame.place (seen P f es)) :=
      F₂.tr.own (fun x => x.1 rfl) hops fun op hop b hb g hg' hS => by
        have := hg'.2
        rw [hI g hg'.1] at this
        cases this
    refine ⟨N + N₂, _, .done v, w.at d', _, runNT_succ_end (runNT_then hr hr₂) (hst.trans hrt), runN_of_runNT _ _ _ _ _ (runNT_then hr hr₂), ?_, v, rfl, ⟨hR, hs.trans (same_at w d')⟩, hTr.clean, tr_over hTr hI, ⟨fun x hx => ?_, rfl⟩, fun j x hx hj => ?_⟩
    · rw [step, hst, hrt]
    · obtain ⟨j, hj⟩ := List.mem_iff_getElem?.1 hx
      rw [List.getElem?_drop] at hj
      have hid := F₂.idle (1 + j) x (by omega) (by simpa [crowd] using hj)
      rw [hI _ (by omega)] at hid
      exact ⟨_, hid.2.leaves⟩
    · have hid := F₂.idle j x hj hx
      rw [hI j hj] at hid
      refine ⟨q₂ j, ?_⟩
      have e : (T₂ ++ MemOp.ofEvents 0 f (G { (fb f .normal).at a todo with mode := .returning } []).frame.place (seen P f es)).deaf j (T₂ ++ MemOp.ofEvents 0 f (G { (fb f .normal).at a todo with mode := .returning } []).frame.place (seen P f es)).size = Deaf T₂ j :=
        Deaf_other T₂ (g := j) (g' := 0) (Ne.symm hj) _ hops
      rw [show (G { (fb f .normal).at a todo with mode := .returning } []).frame.fn = f from rfl, e]
      exact hid.2.hears _
  · exact hp.elim
end
end Go.TJ
end
section
namespace Go.Proofs.Ytcpcdnkemobneaa
open Go Go.TJ Go.Conc Go.Proofs
section
variable {base n : Nat} {B : Nat → Nat} {f : Nat} {sc : List (List SCall)} {hN : Hp} {pB sB S0 T : Nat} {scv pv pv2 bv : Value} {iBs : List Nat} {picks : List Int}
abbrev u0S : Nat → List SAns × Value := fun _ => ([], nilS)
set_option maxRecDepth 8000 in
set_option maxHeartbeats 4000000 in
theorem srun_ok (x : SPre base n B sc hN pB sB S0 T scv pv pv2 bv iBs picks) (hb : base ≤ hN.size) (hf : 65536 < f) {v0 : Nat → Int} (hv0 : ∀ k, 2 ≤ k → k < 6 + 2 * n → v0 (B k) = v1S n k) :
    CallW Try.prog true (SwS Try.prog) 17 #[pv2, .int .i64 16384, bv] hN ⟨0, 1⟩ (Ret fun v h' δ' => (∃ m, δ' = ⟨0, m⟩) ∧ ∃ (p : PS (UsT (tcS n B f sc hN T pv2 bv)).U) (e : Int) (lL lW lY lV : Value), v = .agg (repL e p.log.length lL lW lY lV).toArray ∧ Ended (UsT (tcS n B f sc hN T pv2 bv)) v0 picks sc.length 16384 p e lL lW lY lV h' ∧ Upd (fun b => (UsT (tcS n B f sc hN T pv2 bv)).isC b ∨ (UsT (tcS n B f sc hN T pv2 bv)).Dom u0S b) hN h') := by
  have E := senv_of (f := f) x hf hb
  have hX : (UsT (tcS n B f sc hN T pv2 bv)).Ok := E.K.ok
  have hnD : ∀ c, (UsT (tcS n B f sc hN T pv2 bv)).Dom u0S c → (tcS n B f sc hN T pv2 bv).old c := fun c hc => hc.elim id (fun ⟨_, i, _, e⟩ => by cases e)
  have lb : (iBs.map fun b => ((15, #[ptr pB, ptr b, ptr sB]) : FuncId × Array Value)).length = sc.length := by rw [List.length_map]; exact x.ib
  have hI0 : ToldI (tcS n B f sc hN T pv2 bv) u0S hN := by
    refine ⟨fun b _ _ => rfl, ?_, fun i hi => SliceO.nil, fun i b hi e => (by cases e), fun i j b hi hj e => (by cases e)⟩
    have := x.t
    show hN[T]? = some (.cells ((List.range sc.length).map fun i => nilS).toArray _ (0, 0))
    rw [this]
    congr 2
    rw [List.map_const', List.length_range]
  have hrun := runG (X := UsT (tcS n B f sc hN T pv2 bv)) (γ := ⟨psZ 0 0 v0 u0S, psZ 0 0 v0 u0S, hN, fun _ => False, 0⟩) (h := hN) hX (v0 := v0) (u0 := u0S) (picks := picks) (m := 16384) (bods := iBs.map fun b => (15, #[ptr pB, ptr b, ptr sB])) (sP := pv2) (sB := bv) rfl (by decide) (by decide)
    (fun b hb => by
      obtain ⟨k, h2, hk, -, -, rfl⟩ := hb
      rw [hv0 k h2 hk]; exact x.cell h2 hk)
    (fun b hb => (hnD b hb).1) hI0 (jstk0 x.hn1 hv0) (fun i => ⟨_, .nil _, rfl⟩) (by rw [lb]; have := x.l8; omega)
    (by rw [lb, List.map_map]; exact x.bods)
    (fun c hc => ⟨fun ⟨k, h2, hk, _, _, e⟩ => sliceO_ne x.bods (x.cell h2 hk) (by decide) c hc e, fun hd => (hnD c hd).2.2 (.inl hc)⟩)
    x.pk
    (fun c hc => ⟨fun ⟨k, h2, hk, _, _, e⟩ => sliceO_ne x.pk (x.cell h2 hk) (by decide) c hc e, fun hd => (hnD c hd).2.2 (.inr hc)⟩)
    (fun k q hq => by
      rw [List.getElem?_map] at hq
      obtain ⟨b, hb, rfl⟩ := Option.map_eq_some_iff.1 hq
      obtain ⟨r1, r2⟩ := x.ibx k b hb
      have hk : k < sc.length := by rw [← x.ib]; exact (take_mid hb).2.2
      obtain ⟨l, hl⟩ : ∃ l, sc[k]? = some l := ⟨_, List.getElem?_eq_getElem hk⟩
      exact ⟨inferInstance, sbody_ok E ⟨⟨lt_of_get r1, x.notC r1 (by decide), fun e => e.elim (fun e => sliceO_ne x.bods r1 (by decide) b e rfl) r2⟩, x.neT r1 (by decide), r1⟩ hl⟩)
  refine CallW.sw (px_ok hX) rfl (hrun.mono ?_)
  rintro (v | ps) h' δ' y
  · obtain ⟨γ', p, e, lL, lW, lY, lV, rfl, h1, h2, h3, h4, h5⟩ := y
    rw [lb] at h4
    exact ⟨rfl, h2, ⟨_, rfl⟩, p, e, lL, lW, lY, lV, h3, h4, h5⟩
  · exact y.elim
end
end Go.Proofs.Ytcpcdnkemobneaa
end
section
namespace Go.Proofs.Ytcpcdnkemobneaa
open Go Go.TJ Go.Conc Go.Proofs
class EqIBI (P : Program) (t : TypeId) (k1 k3 : outParam IntKind) : Prop where
  out : P.stoodInHeld t = false ∧ P.eqGuardType P.depth t = false ∧ ∃ f1 f2 f3 : Field, P.underlying t = some (.struct #[f1, f2, f3]) ∧ f1.name ≠ "_" ∧ f2.name ≠ "_" ∧ f3.name ≠ "_" ∧ f1.offset = 0 ∧ f2.offset = 1 ∧ f3.offset = 2 ∧ P.underlying f1.type = some (.int k1) ∧ P.underlying f2.type = some .bool ∧ P.underlying f3.type = some (.int k3)
section
variable {Γ : Type} {P : Program} {main : Bool} {S : Sit Γ} {f : FuncId} {n : Nat} {k : List Item} {env : Env} {ds : List Deferred} {h : Hp} {δ : Ix Γ} {R : Post Γ}
variable {ops : Array Oper} {l : List Oper} {d : Nat} {ty : TypeId} {pos : String} {af : Array Edge} {g : Option (Nat × Bool)} {Z : Hp → Prop} {zz : Nat} {m : Nat} {listed l' : Array Bool}
theorem semW_partB {t : TypeId} {cs : Array Value} {o : Nat} {v : Value} (hu : P.underlying t = some .bool) (hv : cs[o]? = some v) {Q : Value → Hp → Ix Γ → Prop} {X : Value → Hp → Ix Γ → Prop} (hq : Q v h δ) : SemW P S (part t cs o) h δ Q X := by
  unfold part isAgg
  refine semW_bind _ _ _ _ _ _ ?_
  refine semW_underlying hu ?_
  simp only [hv]
  exact hq
theorem semW_eqBool {dd : Nat} {t : TypeId} {a : Bool} (hu : P.underlying t = some .bool) {Q : Bool → Hp → Ix Γ → Prop} {X : Value → Hp → Ix Γ → Prop} (hq : Q true h δ) : SemW P S (Op.equalIn (dd + 1) t (.bool a) (.bool a)) h δ Q X := by
  unfold Op.equalIn
  refine semW_underlying hu ?_
  simp only [beq_self_eq_true]
  exact hq
theorem semW_eqI3 {t : TypeId} {k1 k3 : IntKind} [e : EqIBI P t k1 k3] {a1 a3 : Int} {a2 : Bool} {Q : Bool → Hp → Ix Γ → Prop} {X : Value → Hp → Ix Γ → Prop} (hq : Q true h δ) :
    SemW P S (Op.equal t (.agg #[.int k1 a1, .bool a2, .int k3 a3]) (.agg #[.int k1 a1, .bool a2, .int k3 a3])) h δ Q X := by
  obtain ⟨hs, -, f1, f2, f3, hu, hn1, hn2, hn3, ho1, ho2, ho3, hu1, hu2, hu3⟩ := e.out
  unfold Op.equal Op.maxDepth Op.equalIn
  refine semW_underlying hu ?_
  simp only
  change SemW P S (Sem.bind (Sem.program Sem.pure) _) h δ Q X
  simp only [Sem.bind, SemW, hs]
  rw [if_neg (by simp)]
  rw [← Array.forIn_toList]
  simp only [List.forIn_cons, List.forIn_nil, hn1, hn2, hn3, ho1, ho2, ho3, ne_eq, not_false_eq_true, if_true]
  refine semW_bind _ _ _ _ _ _ (semW_bind _ _ _ _ _ _ (semW_bind _ _ _ _ _ _ (semW_partI hu1 rfl (semW_bind _ _ _ _ _ _ (semW_partI hu1 rfl (semW_bind _ _ _ _ _ _ (semW_eqInt (dd := 9998) hu1 ?_)))))))
  rw [beq_self_eq_true]
  simp only [Bool.not_true, Bool.false_eq_true, if_false]
  refine semW_pure (Q := _) ?_
  simp only
  refine semW_bind _ _ _ _ _ _ (semW_bind _ _ _ _ _ _ (semW_partB hu2 rfl (semW_bind _ _ _ _ _ _ (semW_partB hu2 rfl (semW_bind _ _ _ _ _ _ (semW_eqBool (dd := 9998) hu2 ?_))))))
  simp only [Bool.not_true, Bool.false_eq_true, if_false]
  refine semW_pure (Q := _) ?_
  simp only
  refine semW_bind _ _ _ _ _ _ (semW_bind _ _ _ _ _ _ (semW_partI hu3 rfl (semW_bind _ _ _ _ _ _ (semW_partI hu3 rfl (semW_bind _ _ _ _ _ _ (semW_eqInt (dd := 9998) hu3 ?_))))))
  rw [beq_self_eq_true]
  exact hq
theorem eqGuard_agg3 {op : BinOp} {t : TypeId} {k1 k3 : IntKind} [e : EqIBI P t k1 k3] {x y : Operand} {a b : Array Value} {Q : Unit → Hp → Ix Γ → Prop} {X : Value → Hp → Ix Γ → Prop} (hq : Q () h δ) : SemW P S (eqGuard op t x y (.agg a) (.agg b)) h δ Q X := by
  obtain ⟨-, hg, -⟩ := e.out
  unfold eqGuard
  have key : SemW P S (do if !(← program).eqGuardType (← program).depth t then return
                          if ← Op.eqGuardIn Op.maxDepth t (.agg a) (.agg b) then unsupported (.noEntry "binop/eql: two nil values of an interface type with methods, in a part of a struct or an array")) h δ Q X := by
    change SemW P S (Sem.bind (Sem.program Sem.pure) fun p => Sem.bind (Sem.program Sem.pure) fun q => if (!p.eqGuardType q.depth t) = true then _ else _) h δ Q X
    simp only [Sem.bind, SemW, hg]
    exact hq
  cases op <;> first | exact hq | exact key
theorem sem_neqA3 {t t2 : TypeId} {k1 k3 : IntKind} [EqIBI P t k1 k3] {x y : Operand} {a1 a3 : Int} {a2 : Bool} {ρ : Operand → Value} {dst : Option Nat} {Q : Next → Hp → Ix Γ → Prop} {X : Value → Hp → Ix Γ → Prop} (hx : ρ x = .agg #[.int k1 a1, .bool a2, .int k3 a3]) (hy : ρ y = .agg #[.int k1 a1, .bool a2, .int k3 a3]) (hq : Q (.value (.bool false)) h δ) : SemW P S (execOp ρ ⟨dst, .binOp .neq t x y t2, ty, pos, af, g⟩) h δ Q X :=
  semW_binOp (by
    rw [hx, hy]
    exact eqGuard_agg3 (by
      show SemW P S (Op.equal t _ _ >>= fun b => pure (Value.bool (!b))) h δ _ X
      exact semW_bind _ _ _ _ _ _ (semW_eqI3 (by exact hq))))
end
instance : EqIBI Try.prog 36 .i64 .i64 := ⟨by kernel_rfl, by kernel_rfl, _, _, _, Try.underlying36, by decide, by decide, by decide, rfl, rfl, rfl, Try.underlying2, Try.underlying4, Try.underlying34⟩
end Go.Proofs.Ytcpcdnkemobneaa
end
section
namespace Go.Proofs.Ytcpcdnkemobneaa
open Go Go.TJ Go.Conc Go.Proofs
def Rec.aliveP (R : Rec) (k j : Nat) : Bool := R.left.any (fun q => q.1 == j) || (R.log.drop k).any (fun e => e.thr == j)
def Rec.aliveTo (R : Rec) (k i : Nat) : List Nat := (List.range i).filter (R.aliveP k)
theorem aliveTo_yes {R : Rec} {k i : Nat} (h : i < R.nb) (hm : i ∈ R.alive k) : R.aliveTo k (i + 1) = R.aliveTo k i ++ [i] := by
  have : R.aliveP k i = true := (List.mem_filter.1 (show i ∈ (List.range R.nb).filter (R.aliveP k) from hm)).2
  unfold Rec.aliveTo
  rw [List.range_succ, List.filter_append]
  simp [this]
theorem aliveTo_no {R : Rec} {k i : Nat} (h : i < R.nb) (hm : ¬ i ∈ R.alive k) : R.aliveTo k (i + 1) = R.aliveTo k i := by
  have : R.aliveP k i = false := by
    cases e : R.aliveP k i
    · rfl
    · exact absurd (List.mem_filter.2 ⟨List.mem_range.2 h, e⟩ : i ∈ (List.range R.nb).filter (R.aliveP k)) hm
  unfold Rec.aliveTo
  rw [List.range_succ, List.filter_append]
  simp [this]
theorem aliveTo_len {R : Rec} {k i : Nat} : (R.aliveTo k i).length ≤ i := by
  have := List.length_filter_le (R.aliveP k) (List.range i)
  simpa [Rec.aliveTo] using this
section
variable {Γ : Type} {main : Bool} {S : Sit Γ} {δ : Ix Γ} {h h' h0 : Hp} {R : Rec} {picks : List Int} {lL lW lY lV sP tv cv : Value} {last : Int} {C n k j : Nat} {e : Int} {X : Us} {thr : List Nat} {cl : List Int}
set_option maxHeartbeats 8000000 in
set_option maxRecDepth 8000 in
theorem able_ok (ok : RecOk X picks R) (m : RecM R picks lL lW lY lV sP h0) (I : ChkI R lL lW lY lV sP h0 C tv cv last thr cl h) (hl : thr.length = R.nb) (hcl : cl.length = (nums R.log).length) (ti : TI R k thr) (hk : k ≤ R.log.length) :
    CallW Try.prog main (NoS (Γ := Γ)) 149 #[ptr C, .int .i64 k] h δ (Ret fun v h' δ' => δ' = δ ∧ ∃ (thr' : List Nat) (lv : Value), v = .tuple #[lv, .int .i64 (R.alive k).length] ∧ SliceO h' lv 3 1 (R.alive k).length ((R.alive k).map fun (n : Nat) => Value.int .i64 (n : Int)) ∧
      thr'.length = R.nb ∧ TI R k thr' ∧ ChkI R lL lW lY lV sP h0 C tv cv last thr' cl h' ∧ Upd (fun b => blk tv = some b) h h') := by
  have hlen := ok.len
  have hmost := ok.most
  have hnb := ok.nb
  have htl : ∀ b, blk tv = some b → b < h.size := fun b hb => I.thr.lt hb
  obtain ⟨aT, kT, eT⟩ := I.thr.val
  rw [hl] at eT
  subst eT
  have h00 := I.up.size
  refine CallW.start (n := 60) rfl rfl ?_
  (repeat (first | refine EK.seq ?_ | refine EK.region ?_ | refine ER.done ?_ | refine EK.block ?_ | refine ER.assign rfl rfl rfl ?_))
  refine EK.loopInv (fun q : Nat × Value × List Nat => [(8, .int .i64 q.1), (7, .int .i64 (R.aliveTo k q.1).length), (6, q.2.1), (0, ptr C), (1, .int .i64 k)]) (fun q h' δ' => q.1 ≤ R.nb ∧ δ' = δ ∧ q.2.2.length = R.nb ∧ TI R k q.2.2 ∧ ChkI R lL lW lY lV sP h0 C (.slice aT R.nb kT) cv last q.2.2 cl h' ∧ SliceO h' q.2.1 3 1 (R.aliveTo k q.1).length ((R.aliveTo k q.1).map fun (n : Nat) => Value.int .i64 (n : Int)) ∧ (∀ b, blk q.2.1 = some b → h.size ≤ b) ∧ Upd (fun b => blk (.slice aT R.nb kT) = some b) h h') (fun q => R.nb - q.1) (0, nilS, thr) ⟨rfl, rfl, rfl, rfl, rfl, trivial⟩ ⟨Nat.zero_le _, rfl, hl, ti, I, SliceO.nil, fun b hb => (by cases hb), Upd.refl _ _⟩ ?_
  clear hl ti I thr
  rintro ⟨i, lv, thr⟩ h1 δ1 ⟨hi, hδ, hl, ti, I, sl, hb, up⟩ again
  dsimp only at hi hl ti I sl hb up again hδ ⊢
  subst hδ
  have c9 : hcell h1 ⟨C, 9, none⟩ = some (.slice aT R.nb kT) := hcell_of I.row rfl
  have hal := aliveTo_len (R := R) (k := k) (i := i)
  by_cases hin : i < R.nb
  · (repeat (first | refine EK.seq ?_ | refine EK.region ?_ | refine ER.done ?_ | refine EK.skip ?_ | refine EK.block ?_ | refine ER.move rfl rfl rfl ?_ | refine ER.nilCheck rfl rfl rfl ?_ | refine ER.fieldAddr rfl rfl rfl ?_ | refine ER.cmpT rfl rfl rfl rfl rfl (by first | (dsimp only [cmpP]; omega) | exact rfl | exact Int.le_refl _) ?_ | refine ER.len1 rfl rfl rfl ?_ | refine EK.condT rfl ?_ | refine ER.load1 rfl rfl rfl (by assumption) ?_))
    refine ER.callR rfl rfl rfl rfl rfl (next_ok ok m I hl ti hin hk) ?_
    clear ti I hl c9
    rintro _ h2 δ2 ⟨rfl, thr, t, o, c, a, nw, w, x, f, b, rfl, hbi, hbp, hl, ti, I, u2⟩
    have sl2 := sl.upd u2 (fun b' hb' e => by have := htl b' e; have := hb b' hb'; omega)
    have up2 := up.trans u2
    clear sl up u2
    have es := up2.size
    obtain ⟨y, hy⟩ : ∃ y, y = h2.size := ⟨_, rfl⟩
    (repeat (first | refine ER.move rfl rfl rfl ?_ | refine ER.extract rfl rfl rfl rfl ?_ | refine ER.allocA rfl rfl ?_))
    refine ER.storeN (vs := accL t o c a nw w x f) rfl rfl rfl rfl (by simp [accL, OneCell]) (by rw [← hy]; exact acc_all (vs := [.int .i64 0, .int .i8 0, .int .i64 0, .int .i64 0, .int .i64 0, .int .i64 0, .int .i64 0, .bool false]) rfl (by rw [hy]; exact get_push_new _ _)) ?_
    rw [hsetRow_push (c := [.int .i64 0, .int .i8 0, .int .i64 0, .int .i64 0, .int .i64 0, .int .i64 0, .int .i64 0, .bool false]) (vs := accL t o c a nw w x f) rfl]
    refine ER.gen (fun h' => ChkI R lL lW lY lV sP h0 C (.slice aT R.nb kT) cv last thr cl h' ∧ SliceO h' lv 3 1 (R.aliveTo k i).length ((R.aliveTo k i).map fun (n : Nat) => Value.int .i64 (n : Int)) ∧ Upd (fun b => blk (.slice aT R.nb kT) = some b) h h' ∧ h'[y]? = some (accO (accL t o c a nw w x f))) ⟨I.upd0 (Upd.push _ _), sl2.upd (Upd.push (T := fun _ => False) _ _) (fun _ _ x => x), up2.trans (Upd.push _ _), by rw [hy]; exact get_push_new _ _⟩ ?_
    rw [← hy]
    clear I sl2 up2 hy
    rintro h3 ⟨I, sl, up, ly⟩
    have y1 : hcell h3 ⟨y, 1, none⟩ = some (.int .i8 o) := hcell_of ly rfl
    have y2 : hcell h3 ⟨y, 2, none⟩ = some (.int .i64 c) := hcell_of ly rfl
    have y5 : hcell h3 ⟨y, 5, none⟩ = some (.int .i64 w) := hcell_of ly rfl
    cases b with
    | false =>
      have hna : ¬ i ∈ R.alive k := fun hm => by have := hbi.2 hm; cases this
      rw [← aliveTo_no hin hna] at sl
      (repeat (first | refine EK.seq ?_ | refine EK.region ?_ | refine ER.done ?_ | refine ER.move rfl rfl rfl ?_ | refine ER.assign rfl rfl rfl ?_ | refine ER.notB rfl rfl rfl ?_ | refine ER.add (kd := .i64) rfl rfl rfl rfl (i64_in (by omega) (by omega)) ?_ | refine EK.condT rfl ?_ | refine EK.exit rfl ?_))
      refine EK.back (again (i + 1, lv, thr) _ _ (by dsimp only; omega) ⟨by dsimp only; omega, rfl, hl, ti, I, sl, hb, up⟩) ⟨rfl, ?_, rfl, rfl, rfl, trivial⟩
      rw [aliveTo_no hin hna]
      rfl
    | true =>
      obtain ⟨o1, o2, c1, c2⟩ := hbp rfl
      have hna : i ∈ R.alive k := hbi.1 rfl
      have sl' := sl
      obtain ⟨aA, kA, eA⟩ := sl.val
      (repeat (first | refine EK.seq ?_ | refine EK.region ?_ | refine ER.done ?_ | refine EK.skip ?_ | refine ER.move rfl rfl rfl ?_ | refine ER.assign rfl rfl rfl ?_ | refine ER.fieldAddr rfl rfl rfl ?_ | refine ER.load1 rfl rfl rfl (hcell_of (by assumption) rfl) ?_ | refine ER.notB rfl rfl rfl ?_ | refine ER.add (kd := .i64) rfl rfl rfl rfl (i64_in (by omega) (by omega)) ?_ | refine EK.condF rfl ?_))
      refine ER.cmpB (r := decide (0 ≤ c)) rfl rfl rfl rfl rfl rfl ?_
      refine ER.done ?_
      refine EK.join (fun _ : Unit => [(9, ptr y), (8, .int .i64 i), (7, .int .i64 ((R.aliveTo k i).length + 1 : Nat)), (6, lv), (0, ptr C), (1, .int .i64 k)]) (fun _ h' δ' => h' = h3 ∧ δ' = δ2) (fun key => ?_) ?_
      · by_cases hc : 0 ≤ c
        · rw [decide_eq_true hc]
          obtain ⟨cc, rfl⟩ : ∃ cc : Nat, c = cc := ⟨c.toNat, by omega⟩
          obtain ⟨xx, hxx⟩ : ∃ xx, cl[cc]? = some xx := ⟨_, List.getElem?_eq_getElem (by omega)⟩
          obtain ⟨aC, kC, eC⟩ := I.cel.val
          subst eC
          obtain ⟨bC, eC, cC, -⟩ := slice_at I.cel hxx
          subst eC
          have c10 : hcell h3 ⟨C, 10, none⟩ = some (.slice (some ⟨bC, 0, none⟩) cl.length kC) := hcell_of I.row rfl
          refine EK.condT rfl ?_
          refine EK.regionAny (fun h' => h' = h3) ?_
          have hZ : h3 = h3 := rfl
          refine EA.tMove 0 rfl (by kernel_rfl) (by kernel_rfl) (by kernel_rfl) rfl rfl rfl rfl hZ ?_
          refine EA.tNil 1 rfl (by kernel_rfl) (by kernel_rfl) (by kernel_rfl) rfl rfl rfl rfl hZ ?_
          refine EA.tField 2 rfl (by kernel_rfl) (by kernel_rfl) (by kernel_rfl) rfl rfl rfl rfl hZ ?_
          refine EA.tLoad 3 rfl (by kernel_rfl) (by kernel_rfl) (by kernel_rfl) rfl rfl rfl rfl (fun _ hz => (by rw [hz]; exact c10)) hZ ?_
          refine EA.tField 4 rfl (by kernel_rfl) (by kernel_rfl) (by kernel_rfl) rfl rfl rfl rfl hZ ?_
          refine EA.tLoad 5 rfl (by kernel_rfl) (by kernel_rfl) (by kernel_rfl) rfl rfl rfl rfl (fun _ hz => (by rw [hz]; exact y2)) hZ ?_
          refine EA.tIdxS 6 rfl (by kernel_rfl) (by kernel_rfl) (by kernel_rfl) rfl rfl rfl rfl rfl (by omega) (by omega) hZ ?_
          refine EA.tLoad 7 rfl (by kernel_rfl) (by kernel_rfl) (by kernel_rfl) rfl rfl rfl rfl (fun _ hz => (by rw [hz]; exact cC)) hZ ?_
          refine EA.tAssign 8 rfl (by kernel_rfl) (by kernel_rfl) (by kernel_rfl) rfl rfl rfl rfl hZ ?_
          refine EA.done (by kernel_rfl) ?_
          exact EK.back (key () _ _ ⟨rfl, rfl⟩) ⟨rfl, rfl, rfl, rfl, rfl, rfl, trivial⟩
        · rw [decide_eq_false hc]
          refine EK.condF rfl (EK.skip ?_)
          exact EK.back (key () _ _ ⟨rfl, rfl⟩) ⟨rfl, rfl, rfl, rfl, rfl, rfl, trivial⟩
      rintro _ h3 δ2 ⟨rfl, rfl⟩
      clear y2 y5
      (repeat (first | refine EK.seq ?_ | refine EK.region ?_ | refine ER.done ?_ | refine ER.move rfl rfl rfl ?_ | refine ER.fieldAddr rfl rfl rfl ?_ | refine ER.load1 rfl rfl rfl (hcell_of (by assumption) rfl) ?_ | refine ER.no rfl rfl ?_ | refine ER.pickT rfl rfl rfl rfl ?_ | refine ER.cmpT rfl rfl rfl rfl rfl (by first | (dsimp only [cmpP]; omega) | exact rfl | exact Int.le_refl _) ?_ | refine EK.condT rfl ?_))
      refine ER.slice1 (sz := 1) (z := .int .i64 0) (cells := #[.int .i64 i]) rfl rfl rfl (by omega) (by omega) rfl rfl ?_
      refine ER.append1 (new := [.int .i64 i]) rfl rfl rfl rfl (sl.upd (Upd.push (T := fun _ => False) h3 _) (fun _ _ x => x)) (get_push_new _ _) rfl (by simp [OneCell]) (by omega) (by omega) (by rfl) (fun _ _ _ x => x) ?_
      intro s4 h4 sl4 u4 hb4
      have p4 : Upd (fun b => blk lv = some b) h3 h4 := (Upd.push (T := fun b => blk lv = some b) h3 (.cells #[.int .i64 i] 3)).trans u4
      have hlvC : ∀ b, blk lv = some b → b ≠ C := sliceO_ne sl I.row (by decide)
      have I4 : ChkI R lL lW lY lV sP h0 C (.slice aT R.nb kT) cv last thr cl h4 := ⟨I.up.over p4 (fun b hb' => by have := hb b hb'; omega), p4.get I.row (fun e => hlvC C e rfl), I.thr.upd p4 (fun b hb' e => by have := htl b hb'; have := hb b e; omega), I.cel.upd p4 (fun b hb' e => sliceO_two sl I.cel (by decide) b e hb'), I.nC, I.nt, I.nc⟩
      have e4 : (R.aliveTo k (i + 1)).length = (R.aliveTo k i).length + 1 := by rw [aliveTo_yes hin hna, List.length_append]; rfl
      have sl5 : SliceO h4 s4 3 1 (R.aliveTo k (i + 1)).length ((R.aliveTo k (i + 1)).map fun (n : Nat) => Value.int .i64 (n : Int)) := by rw [e4, aliveTo_yes hin hna, List.map_append]; exact sl4
      have nb4 : ∀ b, blk s4 = some b → h.size ≤ b := fun b hb' => by
        rcases hb4 b hb' with z | z
        · exact hb b z
        · rw [Array.size_push] at z; have := up.size; omega
      (repeat (first | refine EK.region ?_ | refine ER.done ?_ | refine EK.inBlock ?_ | refine ER.move rfl rfl rfl ?_ | refine ER.assign rfl rfl rfl ?_ | refine ER.add (kd := .i64) rfl rfl rfl rfl (i64_in (by omega) (by omega)) ?_))
      refine EK.back (again (i + 1, s4, thr) _ _ (by dsimp only; omega) ⟨by dsimp only; omega, rfl, hl, ti, I4, sl5, nb4, upd_then up p4 (fun b hb' e => by have := hb b e; omega)⟩) ⟨rfl, ?_, rfl, rfl, rfl, trivial⟩
      rw [e4]
      rfl
  · obtain rfl : i = R.nb := by omega
    clear again
    (repeat (first | refine EK.seq ?_ | refine EK.region ?_ | refine ER.done ?_ | refine ER.move rfl rfl rfl ?_ | refine ER.assign rfl rfl rfl ?_ | refine ER.nilCheck rfl rfl rfl ?_ | refine ER.fieldAddr rfl rfl rfl ?_ | refine ER.cmpF rfl rfl rfl rfl rfl (by first | (dsimp only [cmpP]; omega) | exact rfl | exact Int.le_refl _) ?_ | refine ER.len1 rfl rfl rfl ?_ | refine EK.condF rfl ?_ | refine EK.ret ?_ | refine EK.exit rfl ?_ | refine ER.load1 rfl rfl rfl (by assumption) ?_))
    exact EU.ret2 rfl rfl rfl ⟨rfl, thr, lv, rfl, sl, hl, ti, I, up⟩
set_option maxHeartbeats 8000000 in
set_option maxRecDepth 8000 in
theorem picked_ok {l went : List Nat} {lv : Value} (m : RecM R picks lL lW lY lV sP h) (hC : h[C]? = some (chkO e n lL lW lY lV sP k tv cv (lastOf went))) (hl : SliceO h lv 3 1 l.length (l.map fun (n : Nat) => Value.int .i64 (n : Int))) (hne : l ≠ []) (hlen : l.length ≤ 1000) (hwl : went.length ≤ 65536) :
    CallW Try.prog main S 150 #[ptr C, lv, .int .i64 went.length] h δ (Ret (Det (.int .i64 (pickOf picks went l)) h δ)) := by
  have hpos : 0 < l.length := List.length_pos_iff.2 hne
  obtain ⟨aP, kP, eP⟩ := m.picks.val
  rw [List.length_map] at eP
  obtain ⟨aA, kA, eA⟩ := hl.val
  subst eP eA
  have c7 : hcell h ⟨C, 7, none⟩ = some (.slice aP picks.length kP) := hcell_of hC rfl
  have c11 : hcell h ⟨C, 11, none⟩ = some (.int .i64 (lastOf went)) := hcell_of hC rfl
  refine CallW.start (n := 33) rfl rfl ?_
  by_cases hlt : went.length < picks.length
  · obtain ⟨x, hx⟩ : ∃ x, picks[went.length]? = some x := ⟨_, List.getElem?_eq_getElem hlt⟩
    obtain ⟨bP, oP, kP', e2, cP⟩ := m.picks.cell went.length (.int .i64 x) (by rw [List.getElem?_map, hx]; rfl)
    injection e2 with e2
    subst e2
    obtain ⟨q, hq, hq2, hq3⟩ := placed_mem x hne
    obtain ⟨bA, e2, cA, -⟩ := slice_at hl hq2
    subst e2
    have h3 := Int.emod_nonneg x (b := (l.length : Int)) (by omega)
    have h4 := Int.emod_lt_of_pos x (b := (l.length : Int)) (by omega)
    rw [← hq3] at cA
    rw [show pickOf picks went l = placed x l by unfold pickOf; rw [hx]]
    (repeat (first | refine EK.seq ?_ | refine EK.region ?_ | refine ER.done ?_ | refine ER.move rfl rfl rfl ?_ | refine ER.assign rfl rfl rfl ?_ | refine ER.nilCheck rfl rfl rfl ?_ | refine ER.fieldAddr rfl rfl rfl ?_ | refine ER.load1 rfl rfl rfl (hcell_of (by assumption) rfl) ?_ | refine ER.cmpT rfl rfl rfl rfl rfl (by first | (dsimp only [cmpP]; omega) | exact rfl | exact Int.le_refl _) ?_ | refine ER.len1 rfl rfl rfl ?_ | refine ER.indexSl rfl rfl rfl rfl (by omega) (by omega) ?_ | refine EK.condT rfl ?_ | refine ER.load1 rfl rfl rfl (by assumption) ?_))
    refine ER.callD rfl rfl rfl rfl rfl (place_ok hpos hlen) ?_
    generalize x % (l.length : Int) = r at h3 h4 cA ⊢
    (repeat (first | refine ER.done ?_ | refine ER.assign rfl rfl rfl ?_ | refine ER.indexSl rfl rfl rfl rfl (by omega) (by omega) ?_ | refine EK.ret ?_ | refine ER.load1 rfl rfl rfl (by assumption) ?_))
    exact EU.ret1 rfl rfl det
  · have hx : picks[went.length]? = none := List.getElem?_eq_none (by omega)
    rw [show pickOf picks went l = roundOf l (lastOf went) by unfold pickOf; rw [hx]]
    (repeat (first | refine EK.seq ?_ | refine EK.region ?_ | refine ER.done ?_ | refine EK.skip ?_ | refine ER.move rfl rfl rfl ?_ | refine ER.assign rfl rfl rfl ?_ | refine ER.nilCheck rfl rfl rfl ?_ | refine ER.fieldAddr rfl rfl rfl ?_ | refine ER.load1 rfl rfl rfl (hcell_of (by assumption) rfl) ?_ | refine ER.cmpF rfl rfl rfl rfl rfl (by first | (dsimp only [cmpP]; omega) | exact rfl | exact Int.le_refl _) ?_ | refine ER.len1 rfl rfl rfl ?_ | refine EK.condF rfl ?_))
    refine ER.callD rfl rfl rfl rfl rfl (most_ok hl hne hlen) ?_
    (repeat (first | refine ER.done ?_ | refine ER.assign rfl rfl rfl ?_ | refine EK.ret ?_))
    exact EU.ret1 rfl rfl det
end
end Go.Proofs.Ytcpcdnkemobneaa
end
section
namespace Go.Proofs.Ytcpcdnkemobneaa
open Go Go.TJ Go.Conc Go.Proofs
theorem filter_rise : ∀ (m s : Nat) {l : List Nat}, l.Pairwise (· < ·) → (∀ a, a ∈ l → s ≤ a ∧ a < s + m) → (List.range' s m).filter (fun j => l.any (· == j)) = l
  | 0, s, l, h, hl => by
    cases l with
    | nil => rfl
    | cons a t => have := hl a (by simp); omega
  | m + 1, s, l, h, hl => by
    rw [List.range'_succ]
    cases l with
    | nil => simp
    | cons a t =>
      obtain ⟨h1, h2⟩ := List.pairwise_cons.1 h
      have ha := hl a (by simp)
      by_cases e : a = s
      · subst e
        rw [List.filter_cons_of_pos (by simp)]
        congr 1
        have ih := filter_rise m (a + 1) h2 (fun b hb => ⟨h1 b hb, by have := hl b (by simp [hb]); omega⟩)
        rw [← ih]
        refine List.filter_congr fun j hj => ?_
        have hja : a ≠ j := by have := (List.mem_range'_1.1 hj).1; omega
        rw [ih]
        have : (a == j) = false := by simpa using hja
        simp [this]
      · have hs : ((a :: t).any fun x => x == s) = false := by
          refine List.any_eq_false.2 fun x hx => ?_
          have : s < x := by
            rcases List.mem_cons.1 hx with rfl | hx
            · omega
            · have := h1 x hx; omega
          simp; omega
        rw [List.filter_cons_of_neg (by rw [hs]; decide)]
        refine filter_rise m (s + 1) h fun b hb => ?_
        have hb2 := hl b hb
        rcases List.mem_cons.1 hb with rfl | hb
        · omega
        · have := h1 b hb; omega
theorem RecOk.alive_end {X : Us} {picks : List Int} {R : Rec} (ok : RecOk X picks R) : R.alive R.log.length = R.left.map (·.1) := by
  unfold Rec.alive
  rw [List.drop_eq_nil_of_le (Nat.le_refl _)]
  have := filter_rise R.nb 0 (l := R.left.map (·.1)) (List.pairwise_map.2 ok.rise) (fun a ha => by
    obtain ⟨q, hq, rfl⟩ := List.mem_map.1 ha
    have := (ok.left q hq).1
    omega)
  rw [← List.range_eq_range'] at this
  rw [← this]
  refine List.filter_congr fun j hj => ?_
  rw [List.any_map]
  simp
  rfl
theorem lastOf_take {l : List Ev} {k : Nat} {e : Ev} (h : l[k]? = some e) : lastOf ((l.take (k + 1)).map (·.thr)) = (e.thr : Int) := by
  rw [(take_mid h).1, List.map_append]
  unfold lastOf
  simp
section
variable {Γ : Type} {main : Bool} {S : Sit Γ} {δ : Ix Γ} {h h' h0 : Hp} {R : Rec} {picks : List Int} {lL lW lY lV sP tv cv : Value} {last : Int} {C n k j : Nat} {e : Int} {X : Us} {thr : List Nat} {cl : List Int}
theorem ChkI.setLast (I : ChkI R lL lW lY lV sP h0 C tv cv last thr cl h) (x : Int) : ChkI R lL lW lY lV sP h0 C tv cv x thr cl (hset h ⟨C, 11, none⟩ (.int .i64 x)) := by
  have e7 : hset h ⟨C, 11, none⟩ (.int .i64 x) = h.setIfInBounds C (chkO R.e R.log.length lL lW lY lV sP R.most tv cv x) := hset_block I.row _
  rw [e7]
  have u : Upd (fun b => b = C) h (h.setIfInBounds C (chkO R.e R.log.length lL lW lY lV sP R.most tv cv x)) := Upd.set _ _ _ rfl
  have := I.nC
  exact ⟨I.up.over u (fun b hb => by omega), get_set_same I.row, I.thr.upd u (sliceO_ne I.thr I.row (by decide)), I.cel.upd u (sliceO_ne I.cel I.row (by decide)), I.nC, I.nt, I.nc⟩
theorem ChkI.setC {b cap i : Nat} (I : ChkI R lL lW lY lV sP h0 C tv (.slice (some ⟨b, 0, none⟩) cl.length cap) last thr cl h) (hi : i < cl.length) (x : Int) : ChkI R lL lW lY lV sP h0 C tv (.slice (some ⟨b, 0, none⟩) cl.length cap) last thr (cl.set i x) (hset h ⟨b, 0 + i * 1, none⟩ (.int .i64 x)) := by
  have u : Upd (fun x => x = b) h (hset h ⟨b, 0 + i * 1, none⟩ (.int .i64 x)) := Upd.hset _ _ _ rfl
  have hb := I.nc b rfl
  have e1 : 0 + i * 1 = i := by omega
  refine ⟨I.up.over u (fun b' hb' => by omega), u.get I.row (fun e => sliceO_ne I.cel I.row (by decide) b rfl e.symm), I.thr.upd u (fun b' hb' e => sliceO_two I.cel I.thr (by decide) b rfl (by rw [← e]; exact hb')), ?_, I.nC, I.nt, I.nc⟩
  have := I.cel.set (j := i) (by rw [List.length_map]; exact hi) (.int .i64 x)
  rw [e1, List.map_set, List.length_set]
  exact this
set_option maxHeartbeats 8000000 in
set_option maxRecDepth 8000 in
theorem turns_all (ok : RecOk X picks R) (m : RecM R picks lL lW lY lV sP h0) (I : ChkI R lL lW lY lV sP h0 C tv cv (-1) thr cl h) (hl : thr.length = R.nb) (hcl : cl.length = (nums R.log).length) (ti : TI R 0 thr) :
    CallW Try.prog main (NoS (Γ := Γ)) 81 #[ptr C] h δ (Ret fun v h' δ' => δ' = δ ∧ v = .bool true ∧ Upd (fun _ => False) h0 h') := by
  have hlen := ok.len
  have hmost := ok.most
  have hnb := ok.nb
  have h00 := I.up.size
  obtain ⟨aT, kT, eT⟩ := I.thr.val
  obtain ⟨aC, kC, eC⟩ := I.cel.val
  obtain ⟨aL, kL, eL⟩ := m.log.val
  obtain ⟨aW, kW, eW⟩ := m.went.val
  obtain ⟨aY, kY, eY⟩ := m.rdy.val
  obtain ⟨aV, kV, eV⟩ := m.left.val
  have hrd := ok.rdy
  have hwl : (R.log.map (·.thr)).length = R.log.length := List.length_map _
  rw [hl] at eT
  rw [hcl] at eC
  rw [hwl] at eW
  rw [hrd] at eY
  subst eT eC eL eW eY eV
  refine CallW.start (n := 180) rfl rfl ?_
  (repeat (first | refine EK.seq ?_ | refine EK.region ?_ | refine ER.done ?_ | refine EK.block ?_ | refine ER.assign rfl rfl rfl ?_))
  refine EK.loopInv (fun q : Nat × List Nat × List Int => [(4, .int .i64 q.1), (3, .int .i64 q.1), (0, ptr C)]) (fun q h' δ' => q.1 ≤ R.log.length ∧ δ' = δ ∧ q.2.1.length = R.nb ∧ q.2.2.length = (nums R.log).length ∧ TI R q.1 q.2.1 ∧ ChkI R (.slice aL R.log.length kL) (.slice aW R.log.length kW) (.slice aY R.log.length kY) (.slice aV R.left.length kV) sP h0 C (.slice aT R.nb kT) (.slice aC (nums R.log).length kC) (lastOf ((R.log.take q.1).map (·.thr))) q.2.1 q.2.2 h') (fun q => R.log.length - q.1) (0, thr, cl) ⟨rfl, rfl, rfl, trivial⟩ ⟨Nat.zero_le _, rfl, hl, hcl, ti, I⟩ ?_
  clear hl hcl ti I thr cl h00
  rintro ⟨k, thr, cl⟩ h1 δ1 ⟨hk, hδ, hl, hcl, ti, I⟩ again
  dsimp only at hk hl hcl ti I again hδ ⊢
  subst hδ
  have c2 : hcell h1 ⟨C, 2, none⟩ = some (.slice aL R.log.length kL) := hcell_of I.row rfl
  by_cases hin : k < R.log.length
  · obtain ⟨e, he⟩ : ∃ e, R.log[k]? = some e := ⟨_, List.getElem?_eq_getElem hin⟩
    obtain ⟨bL, ea, hrow, -⟩ := slice_row (entL_len (nums R.log)) (m.log.upd I.up (fun _ _ x => x)) he
    subst ea
    (repeat (first | refine EK.seq ?_ | refine EK.region ?_ | refine ER.done ?_ | refine EK.skip ?_ | refine EK.block ?_ | refine ER.move rfl rfl rfl ?_ | refine ER.nilCheck rfl rfl rfl ?_ | refine ER.fieldAddr rfl rfl rfl ?_ | refine ER.cmpT rfl rfl rfl rfl rfl (by first | (dsimp only [cmpP]; omega) | exact rfl | exact Int.le_refl _) ?_ | refine ER.len1 rfl rfl rfl ?_ | refine ER.indexSl rfl rfl rfl rfl (by omega) (by omega) ?_ | refine EK.condT rfl ?_ | refine ER.load1 rfl rfl rfl (by assumption) ?_))
    refine ER.loadN (vs := entL (nums R.log) e) rfl rfl rfl rfl hrow ?_
    (repeat refine ER.allocA rfl rfl ?_)
    obtain ⟨y, hy⟩ : ∃ y, y = h1.size := ⟨_, rfl⟩
    refine ER.storeN (vs := entL (nums R.log) e) rfl rfl rfl rfl (by simp [entL, accL, OneCell]) (by rw [← hy]; exact acc_all (vs := [.int .i64 0, .int .i8 0, .int .i64 0, .int .i64 0, .int .i64 0, .int .i64 0, .int .i64 0, .bool false]) rfl (by rw [hy]; exact get_push_new _ _)) ?_
    rw [hsetRow_push (c := [.int .i64 0, .int .i8 0, .int .i64 0, .int .i64 0, .int .i64 0, .int .i64 0, .int .i64 0, .bool false]) (vs := entL (nums R.log) e) rfl]
    refine ER.gen (fun h' => ChkI R (.slice (some ⟨bL, 0, none⟩) R.log.length kL) (.slice aW R.log.length kW) (.slice aY R.log.length kY) (.slice aV R.left.length kV) sP h0 C (.slice aT R.nb kT) (.slice aC (nums R.log).length kC) (lastOf ((R.log.take k).map (·.thr))) thr cl h' ∧ h'[y]? = some (accO (entL (nums R.log) e)) ∧ y < h'.size) ⟨I.upd0 (Upd.push _ _), by rw [hy]; exact get_push_new _ _, by rw [Array.size_push]; omega⟩ ?_
    rw [← hy]
    clear I hrow c2 hy
    rintro h2 ⟨I, ly, hyl⟩
    obtain ⟨w, i1, r, cw, hr, e1, ch2⟩ := ok.chain.inv he
    have hop1 : 1 ≤ e.op := by rw [e1]; exact hr.op1
    have hop2 : e.op ≤ 5 := by rw [e1]; exact hr.op2
    have hixl : (nums R.log).idxOf e.b < (nums R.log).length := List.idxOf_lt_length_iff.2 ((nums_mem _ _).2 ⟨e, List.mem_of_getElem? he, rfl⟩)
    obtain ⟨tn1, tn2, tn3⟩ := ok.turns k e he
    have hthr : e.thr < R.nb := (mem_alive.1 tn3).1
    have htn2 : ((R.log.take k).map (·.thr)).length = k := by rw [List.length_map, List.length_take]; omega
    clear cw e1 ch2 hr
    have ea : entL (nums R.log) e = accL e.thr e.op ((nums R.log).idxOf e.b : Nat) e.arg e.new e.was e.now e.ok := rfl
    rw [ea] at ly
    generalize (nums R.log).idxOf e.b = ix at hixl ly
    have y0 : hcell h2 ⟨y, 0, none⟩ = some (.int .i64 e.thr) := hcell_of ly rfl
    have y1 : hcell h2 ⟨y, 1, none⟩ = some (.int .i8 e.op) := hcell_of ly rfl
    have c9 : hcell h2 ⟨C, 9, none⟩ = some (.slice aT R.nb kT) := hcell_of I.row rfl
    refine ER.done (EK.seq (EK.seq ?_))
    refine EK.regionAny (fun h' => h' = h2) ?_
    have hZ : h2 = h2 := rfl
    refine EA.tField 0 rfl (by kernel_rfl) (by kernel_rfl) (by kernel_rfl) rfl rfl rfl rfl hZ ?_
    refine EA.tLoad 1 rfl (by kernel_rfl) (by kernel_rfl) (by kernel_rfl) rfl rfl rfl rfl (fun _ hz => (by rw [hz]; exact y0)) hZ ?_
    refine EA.tCmpF 2 rfl (by kernel_rfl) (by kernel_rfl) (by kernel_rfl) rfl rfl rfl rfl rfl rfl (by first | (dsimp only [cmpP]; omega) | exact rfl | exact Int.le_refl _) hZ ?_
    refine EA.tMove 3 rfl (by kernel_rfl) (by kernel_rfl) (by kernel_rfl) rfl rfl rfl rfl hZ ?_
    refine EA.tField 4 rfl (by kernel_rfl) (by kernel_rfl) (by kernel_rfl) rfl rfl rfl rfl hZ ?_
    refine EA.tLoad 5 rfl (by kernel_rfl) (by kernel_rfl) (by kernel_rfl) rfl rfl rfl rfl (fun _ hz => (by rw [hz]; exact y0)) hZ ?_
    refine EA.tMove 6 rfl (by kernel_rfl) (by kernel_rfl) (by kernel_rfl) rfl rfl rfl rfl hZ ?_
    refine EA.tNil 7 rfl (by kernel_rfl) (by kernel_rfl) (by kernel_rfl) rfl rfl rfl rfl hZ ?_
    refine EA.tField 8 rfl (by kernel_rfl) (by kernel_rfl) (by kernel_rfl) rfl rfl rfl rfl hZ ?_
    refine EA.tLoad 9 rfl (by kernel_rfl) (by kernel_rfl) (by kernel_rfl) rfl rfl rfl rfl (fun _ hz => (by rw [hz]; exact c9)) hZ ?_
    refine EA.tLen1 10 rfl (by kernel_rfl) (by kernel_rfl) (by kernel_rfl) rfl rfl rfl rfl hZ ?_
    refine EA.tCmpF 11 rfl (by kernel_rfl) (by kernel_rfl) (by kernel_rfl) rfl rfl rfl rfl rfl rfl (by first | (dsimp only [cmpP]; omega) | exact rfl | exact Int.le_refl _) hZ ?_
    refine EA.tPickF 12 rfl (by kernel_rfl) (by kernel_rfl) (by kernel_rfl) rfl rfl rfl rfl rfl hZ ?_
    refine EA.done (by kernel_rfl) ?_
    clear hZ
    (repeat (first | refine EK.seq ?_ | refine EK.region ?_ | refine ER.done ?_ | refine EK.skip ?_ | refine ER.move rfl rfl rfl ?_ | refine ER.fieldAddr rfl rfl rfl ?_ | refine ER.load1 rfl rfl rfl (hcell_of (by assumption) rfl) ?_ | refine ER.cmpF rfl rfl rfl rfl rfl (by first | (dsimp only [cmpP]; omega) | exact rfl | exact Int.le_refl _) ?_ | refine EK.condF rfl ?_))
    have nyT : ¬ blk (.slice aT R.nb kT) = some y := fun hx => sliceO_ne I.thr ly (by decide) y hx rfl
    refine ER.callR rfl rfl rfl rfl rfl (able_ok ok m I hl hcl ti hk) ?_
    clear I ti hl thr y0 y1 c9
    rintro _ h3 δ2 ⟨rfl, thr, lv, rfl, sl, hl, ti, I, u3⟩
    have ly := u3.get ly nyT
    have y0 : hcell h3 ⟨y, 0, none⟩ = some (.int .i64 e.thr) := hcell_of ly rfl
    have y1 : hcell h3 ⟨y, 1, none⟩ = some (.int .i8 e.op) := hcell_of ly rfl
    have y2 : hcell h3 ⟨y, 2, none⟩ = some (.int .i64 ix) := hcell_of ly rfl
    have y6 : hcell h3 ⟨y, 6, none⟩ = some (.int .i64 e.now) := hcell_of ly rfl
    have c1 : hcell h3 ⟨C, 1, none⟩ = some (.int .i64 R.log.length) := hcell_of I.row rfl
    have c3 : hcell h3 ⟨C, 3, none⟩ = some (.slice aW R.log.length kW) := hcell_of I.row rfl
    have c4 : hcell h3 ⟨C, 4, none⟩ = some (.slice aY R.log.length kY) := hcell_of I.row rfl
    have hne : R.alive k ≠ [] := fun x => by rw [x] at tn3; cases tn3
    have hal : (R.alive k).length ≤ 64 := by have := aliveTo_len (R := R) (k := k) (i := R.nb); exact Nat.le_trans this hnb
    have hpos : 0 < (R.alive k).length := List.length_pos_iff.2 hne
    have m3 := m.upd I.up
    obtain ⟨bY, eY, cY, -⟩ := slice_at (l := R.rdy) (f := fun (n : Nat) => Value.int .i64 (n : Int)) m3.rdy tn1
    subst eY
    obtain ⟨bW, eW, cW, -⟩ := slice_at (l := R.log.map (·.thr)) (f := fun (n : Nat) => Value.int .i64 (n : Int)) m3.went (k := k) (q := e.thr) (by rw [List.getElem?_map, he]; rfl)
    subst eW
    have hpk := picked_ok (S := NoS (Γ := Γ)) (main := main) (δ := δ2) (went := (R.log.take k).map (·.thr)) m3 I.row sl hne (by omega) (by omega)
    rw [htn2, ← tn2] at hpk
    obtain ⟨aA, kA, eA⟩ := sl.val
    subst eA
    clear sl u3 hne m3
    (repeat (first | refine EK.seq ?_ | refine ER.done ?_ | refine ER.move rfl rfl rfl ?_ | refine ER.assign rfl rfl rfl ?_ | refine ER.extract rfl rfl rfl rfl ?_))
    refine EK.regionAny (fun h' => h' = h3) ?_
    have hZ : h3 = h3 := rfl
    refine EA.tMove 0 rfl (by kernel_rfl) (by kernel_rfl) (by kernel_rfl) rfl rfl rfl rfl hZ ?_
    refine EA.tMove 1 rfl (by kernel_rfl) (by kernel_rfl) (by kernel_rfl) rfl rfl rfl rfl hZ ?_
    refine EA.tNil 2 rfl (by kernel_rfl) (by kernel_rfl) (by kernel_rfl) rfl rfl rfl rfl hZ ?_
    refine EA.tField 3 rfl (by kernel_rfl) (by kernel_rfl) (by kernel_rfl) rfl rfl rfl rfl hZ ?_
    refine EA.tField 4 rfl (by kernel_rfl) (by kernel_rfl) (by kernel_rfl) rfl rfl rfl rfl hZ ?_
    refine EA.tLoad 5 rfl (by kernel_rfl) (by kernel_rfl) (by kernel_rfl) rfl rfl rfl rfl (fun _ hz => (by rw [hz]; exact c1)) hZ ?_
    refine EA.tCmpF 6 rfl (by kernel_rfl) (by kernel_rfl) (by kernel_rfl) rfl rfl rfl rfl rfl rfl (by first | (dsimp only [cmpP]; omega) | exact rfl | exact Int.le_refl _) hZ ?_
    refine EA.tMove 7 rfl (by kernel_rfl) (by kernel_rfl) (by kernel_rfl) rfl rfl rfl rfl hZ ?_
    refine EA.tMove 8 rfl (by kernel_rfl) (by kernel_rfl) (by kernel_rfl) rfl rfl rfl rfl hZ ?_
    refine EA.tLen1 9 rfl (by kernel_rfl) (by kernel_rfl) (by kernel_rfl) rfl rfl rfl rfl hZ ?_
    refine EA.tCmpF 10 rfl (by kernel_rfl) (by kernel_rfl) (by kernel_rfl) rfl rfl rfl rfl rfl rfl (by first | (dsimp only [cmpP]; omega) | exact rfl | exact Int.le_refl _) hZ ?_
    refine EA.tPickF 11 rfl (by kernel_rfl) (by kernel_rfl) (by kernel_rfl) rfl rfl rfl rfl rfl hZ ?_
    refine EA.tMove 12 rfl (by kernel_rfl) (by kernel_rfl) (by kernel_rfl) rfl rfl rfl rfl hZ ?_
    refine EA.tMove 13 rfl (by kernel_rfl) (by kernel_rfl) (by kernel_rfl) rfl rfl rfl rfl hZ ?_
    refine EA.tNil 14 rfl (by kernel_rfl) (by kernel_rfl) (by kernel_rfl) rfl rfl rfl rfl hZ ?_
    refine EA.tField 15 rfl (by kernel_rfl) (by kernel_rfl) (by kernel_rfl) rfl rfl rfl rfl hZ ?_
    refine EA.tField 16 rfl (by kernel_rfl) (by kernel_rfl) (by kernel_rfl) rfl rfl rfl rfl hZ ?_
    refine EA.tLoad 17 rfl (by kernel_rfl) (by kernel_rfl) (by kernel_rfl) rfl rfl rfl rfl (fun _ hz => (by rw [hz]; exact c4)) hZ ?_
    refine EA.tMove 18 rfl (by kernel_rfl) (by kernel_rfl) (by kernel_rfl) rfl rfl rfl rfl hZ ?_
    refine EA.tIdxS 19 rfl (by kernel_rfl) (by kernel_rfl) (by kernel_rfl) rfl rfl rfl rfl rfl (by omega) (by omega) hZ ?_
    refine EA.tLoad 20 rfl (by kernel_rfl) (by kernel_rfl) (by kernel_rfl) rfl rfl rfl rfl (fun _ hz => (by rw [hz]; exact cY)) hZ ?_
    refine EA.tMove 21 rfl (by kernel_rfl) (by kernel_rfl) (by kernel_rfl) rfl rfl rfl rfl hZ ?_
    refine EA.tLen1 22 rfl (by kernel_rfl) (by kernel_rfl) (by kernel_rfl) rfl rfl rfl rfl hZ ?_
    refine EA.tCmpF 23 rfl (by kernel_rfl) (by kernel_rfl) (by kernel_rfl) rfl rfl rfl rfl rfl rfl (by first | (dsimp only [cmpP]; omega) | exact rfl | exact Int.le_refl _) hZ ?_
    refine EA.tPickF 24 rfl (by kernel_rfl) (by kernel_rfl) (by kernel_rfl) rfl rfl rfl rfl rfl hZ ?_
    refine EA.tMove 25 rfl (by kernel_rfl) (by kernel_rfl) (by kernel_rfl) rfl rfl rfl rfl hZ ?_
    refine EA.tMove 26 rfl (by kernel_rfl) (by kernel_rfl) (by kernel_rfl) rfl rfl rfl rfl hZ ?_
    refine EA.tNil 27 rfl (by kernel_rfl) (by kernel_rfl) (by kernel_rfl) rfl rfl rfl rfl hZ ?_
    refine EA.tField 28 rfl (by kernel_rfl) (by kernel_rfl) (by kernel_rfl) rfl rfl rfl rfl hZ ?_
    refine EA.tField 29 rfl (by kernel_rfl) (by kernel_rfl) (by kernel_rfl) rfl rfl rfl rfl hZ ?_
    refine EA.tLoad 30 rfl (by kernel_rfl) (by kernel_rfl) (by kernel_rfl) rfl rfl rfl rfl (fun _ hz => (by rw [hz]; exact c3)) hZ ?_
    refine EA.tMove 31 rfl (by kernel_rfl) (by kernel_rfl) (by kernel_rfl) rfl rfl rfl rfl hZ ?_
    refine EA.tIdxS 32 rfl (by kernel_rfl) (by kernel_rfl) (by kernel_rfl) rfl rfl rfl rfl rfl (by omega) (by omega) hZ ?_
    refine EA.tLoad 33 rfl (by kernel_rfl) (by kernel_rfl) (by kernel_rfl) rfl rfl rfl rfl (fun _ hz => (by rw [hz]; exact cW)) hZ ?_
    refine EA.tField 34 rfl (by kernel_rfl) (by kernel_rfl) (by kernel_rfl) rfl rfl rfl rfl hZ ?_
    refine EA.tLoad 35 rfl (by kernel_rfl) (by kernel_rfl) (by kernel_rfl) rfl rfl rfl rfl (fun _ hz => (by rw [hz]; exact y0)) hZ ?_
    refine EA.tCmpF 36 rfl (by kernel_rfl) (by kernel_rfl) (by kernel_rfl) rfl rfl rfl rfl rfl rfl (by first | (dsimp only [cmpP]; omega) | exact rfl | exact Int.le_refl _) hZ ?_
    refine EA.tPickF 37 rfl (by kernel_rfl) (by kernel_rfl) (by kernel_rfl) rfl rfl rfl rfl rfl hZ ?_
    refine EA.tMove 38 rfl (by kernel_rfl) (by kernel_rfl) (by kernel_rfl) rfl rfl rfl rfl hZ ?_
    refine EA.tField 39 rfl (by kernel_rfl) (by kernel_rfl) (by kernel_rfl) rfl rfl rfl rfl hZ ?_
    refine EA.tLoad 40 rfl (by kernel_rfl) (by kernel_rfl) (by kernel_rfl) rfl rfl rfl rfl (fun _ hz => (by rw [hz]; exact y0)) hZ ?_
    refine EA.tMove 41 rfl (by kernel_rfl) (by kernel_rfl) (by kernel_rfl) rfl rfl rfl rfl hZ ?_
    refine EA.tMove 42 rfl (by kernel_rfl) (by kernel_rfl) (by kernel_rfl) rfl rfl rfl rfl hZ ?_
    refine EA.tMove 43 rfl (by kernel_rfl) (by kernel_rfl) (by kernel_rfl) rfl rfl rfl rfl hZ ?_
    refine EA.callD 44 rfl (by kernel_rfl) rfl rfl rfl rfl rfl rfl hpk hZ ?_
    refine EA.tCmpF 45 rfl (by kernel_rfl) (by kernel_rfl) (by kernel_rfl) rfl rfl rfl rfl rfl rfl (by first | (dsimp only [cmpP]; omega) | exact rfl | exact Int.le_refl _) hZ ?_
    refine EA.tPickF 46 rfl (by kernel_rfl) (by kernel_rfl) (by kernel_rfl) rfl rfl rfl rfl rfl hZ ?_
    refine EA.done (by kernel_rfl) ?_
    clear hZ hpk cY cW c1 c3 c4 y2 y6
    refine EK.condF rfl (EK.skip ?_)
    (repeat (first | refine EK.seq ?_ | refine EK.region ?_ | refine ER.move rfl rfl rfl ?_ | refine ER.nilCheck rfl rfl rfl ?_ | refine ER.fieldAddr rfl rfl rfl ?_ | refine ER.load1 rfl rfl rfl (hcell_of (by assumption) rfl) ?_))
    refine ER.store1 rfl rfl rfl ⟨nofun, nofun⟩ ⟨_, hcell_of I.row rfl⟩ (hfroz_of I.row) (fun x => x) ?_
    have I2 := I.setLast e.thr
    have ly2 : (hset h3 ⟨C, 11, none⟩ (.int .i64 e.thr))[y]? = some (accO (accL e.thr e.op ix e.arg e.new e.was e.now e.ok)) := by
      rw [hset_ne]
      · exact ly
      · intro hx
        have := I.row
        change C = y at hx
        rw [hx, ly] at this
        injection this with this
        injection this with _ this _
        revert this; decide
    change ER _ _ _ _ _ _ _ _ _ _ (hset h3 ⟨C, 11, none⟩ (.int .i64 e.thr)) _ _
    generalize hset h3 ⟨C, 11, none⟩ (.int .i64 e.thr) = h4 at I2 ly2 ⊢
    clear I ly y0 y1
    have y1 : hcell h4 ⟨y, 1, none⟩ = some (.int .i8 e.op) := hcell_of ly2 rfl
    have y2 : hcell h4 ⟨y, 2, none⟩ = some (.int .i64 ix) := hcell_of ly2 rfl
    have y6 : hcell h4 ⟨y, 6, none⟩ = some (.int .i64 e.now) := hcell_of ly2 rfl
    obtain ⟨xx, hxx⟩ : ∃ xx, cl[ix]? = some xx := ⟨_, List.getElem?_eq_getElem (by omega)⟩
    obtain ⟨bC, eC, cC, fC⟩ := slice_at I2.cel hxx
    subst eC
    have c10 : hcell h4 ⟨C, 10, none⟩ = some (.slice (some ⟨bC, 0, none⟩) (nums R.log).length kC) := hcell_of I2.row rfl
    (repeat (first | refine EK.seq ?_ | refine EK.region ?_ | refine ER.done ?_ | refine EK.skip ?_ | refine ER.move rfl rfl rfl ?_ | refine ER.assign rfl rfl rfl ?_ | refine ER.fieldAddr rfl rfl rfl ?_ | refine ER.load1 rfl rfl rfl (hcell_of (by assumption) rfl) ?_ | refine ER.no rfl rfl ?_ | refine ER.pickF rfl rfl rfl rfl ?_ | refine ER.cmpT rfl rfl rfl rfl rfl (by first | (dsimp only [cmpP]; omega) | exact rfl | exact Int.le_refl _) ?_ | refine ER.cmpF rfl rfl rfl rfl rfl (by first | (dsimp only [cmpP]; omega) | exact rfl | exact Int.le_refl _) ?_ | refine ER.add (kd := .i64) rfl rfl rfl rfl (i64_in (by omega) (by omega)) ?_ | refine EK.condT rfl ?_ | refine EK.condF rfl ?_))
    refine EK.regionAnyL (fun h' => h' = h4) 9 ?_
    have hZ : h4 = h4 := rfl
    refine EA.tMove 0 rfl (by kernel_rfl) (by kernel_rfl) (by kernel_rfl) rfl rfl rfl rfl hZ ?_
    refine EA.tNil 1 rfl (by kernel_rfl) (by kernel_rfl) (by kernel_rfl) rfl rfl rfl rfl hZ ?_
    refine EA.tField 2 rfl (by kernel_rfl) (by kernel_rfl) (by kernel_rfl) rfl rfl rfl rfl hZ ?_
    refine EA.tLoad 3 rfl (by kernel_rfl) (by kernel_rfl) (by kernel_rfl) rfl rfl rfl rfl (fun _ hz => (by rw [hz]; exact c10)) hZ ?_
    refine EA.tField 4 rfl (by kernel_rfl) (by kernel_rfl) (by kernel_rfl) rfl rfl rfl rfl hZ ?_
    refine EA.tLoad 5 rfl (by kernel_rfl) (by kernel_rfl) (by kernel_rfl) rfl rfl rfl rfl (fun _ hz => (by rw [hz]; exact y2)) hZ ?_
    refine EA.tField 6 rfl (by kernel_rfl) (by kernel_rfl) (by kernel_rfl) rfl rfl rfl rfl hZ ?_
    refine EA.tLoad 7 rfl (by kernel_rfl) (by kernel_rfl) (by kernel_rfl) rfl rfl rfl rfl (fun _ hz => (by rw [hz]; exact y6)) hZ ?_
    refine EA.val 8 rfl (by kernel_rfl) rfl rfl rfl (fun ρ Q X hρ hq => sem_indexSl (hρ _ _ rfl) (hρ _ _ rfl) (by omega) (by omega) hq) hZ ?_
    refine EA.unitL (h' := hset h4 ⟨bC, 0 + ix * 1, none⟩ (.int .i64 e.now)) 9 rfl (by kernel_rfl) rfl rfl rfl (fun ρ Q X hρ hq => sem_store1 (hρ _ _ rfl) (hρ _ _ rfl) ⟨nofun, nofun⟩ ⟨_, cC⟩ (fC _) (fun x => x) hq) ?_
    refine EA.done (by kernel_rfl) ?_
    have I3 := (hcl ▸ I2).setC (i := ix) (by omega) e.now
    rw [hcl] at I3
    (repeat (first | refine EK.region ?_ | refine ER.done ?_ | refine EK.inBlock ?_ | refine ER.move rfl rfl rfl ?_ | refine ER.assign rfl rfl rfl ?_ | refine ER.add (kd := .i64) rfl rfl rfl rfl (i64_in (by omega) (by omega)) ?_))
    refine EK.back (again (k + 1, thr, cl.set ix e.now) _ _ (by dsimp only; omega) ⟨by dsimp only; omega, rfl, hl, by dsimp only; rw [List.length_set]; exact hcl, ti.mono (by omega), by dsimp only; rw [lastOf_take he]; exact I3⟩) ⟨rfl, rfl, rfl, trivial⟩
  · obtain rfl : k = R.log.length := by omega
    clear again
    (repeat (first | refine EK.seq ?_ | refine EK.region ?_ | refine ER.done ?_ | refine ER.move rfl rfl rfl ?_ | refine ER.nilCheck rfl rfl rfl ?_ | refine ER.fieldAddr rfl rfl rfl ?_ | refine ER.cmpF rfl rfl rfl rfl rfl (by first | (dsimp only [cmpP]; omega) | exact rfl | exact Int.le_refl _) ?_ | refine ER.len1 rfl rfl rfl ?_ | refine EK.condF rfl ?_ | refine EK.exit rfl ?_ | refine ER.load1 rfl rfl rfl (by assumption) ?_))
    refine ER.callR rfl rfl rfl rfl rfl (able_ok ok m I hl hcl ti (Nat.le_refl _)) ?_
    clear I ti hl thr c2
    rintro _ h3 δ2 ⟨rfl, thr, lv, rfl, sl, hl, ti, I, u3⟩
    have hae : (R.alive R.log.length).length = R.left.length := by rw [ok.alive_end, List.length_map]
    rw [hae] at sl ⊢
    obtain ⟨aA, kA, eA⟩ := sl.val
    subst eA
    have c0 : hcell h3 ⟨C, 0, none⟩ = some (.int .i8 R.e) := hcell_of I.row rfl
    have c1 : hcell h3 ⟨C, 1, none⟩ = some (.int .i64 R.log.length) := hcell_of I.row rfl
    have c5 : hcell h3 ⟨C, 5, none⟩ = some (.slice aV R.left.length kV) := hcell_of I.row rfl
    have c8 : hcell h3 ⟨C, 8, none⟩ = some (.int .i64 R.most) := hcell_of I.row rfl
    rcases ok.how with ⟨w1, w2⟩ | ⟨w1, w2, w3⟩
    · have w3 : R.left.length = 0 := by rw [w2]; rfl
      rw [w1] at c0
      (repeat (first | refine EK.seq ?_ | refine EK.region ?_ | refine ER.done ?_ | refine ER.move rfl rfl rfl ?_ | refine ER.assign rfl rfl rfl ?_ | refine ER.nilCheck rfl rfl rfl ?_ | refine ER.fieldAddr rfl rfl rfl ?_ | refine ER.no rfl rfl ?_ | refine ER.pickT rfl rfl rfl rfl ?_ | refine ER.extract rfl rfl rfl rfl ?_ | refine ER.cmpT rfl rfl rfl rfl rfl (by first | (dsimp only [cmpP]; omega) | exact rfl | exact Int.le_refl _) ?_ | refine ER.len1 rfl rfl rfl ?_ | refine EK.condT rfl ?_ | refine EK.ret ?_ | refine ER.load1 rfl rfl rfl (by assumption) ?_))
      exact EU.ret1 rfl rfl ⟨rfl, rfl, I.up⟩
    · have w4 : 0 < R.left.length := List.length_pos_iff.2 w2
      rw [w1] at c0
      (repeat (first | refine EK.seq ?_ | refine EK.region ?_ | refine ER.done ?_ | refine EK.skip ?_ | refine ER.move rfl rfl rfl ?_ | refine ER.assign rfl rfl rfl ?_ | refine ER.nilCheck rfl rfl rfl ?_ | refine ER.fieldAddr rfl rfl rfl ?_ | refine ER.pickT rfl rfl rfl rfl ?_ | refine ER.pickF rfl rfl rfl rfl ?_ | refine ER.extract rfl rfl rfl rfl ?_ | refine ER.cmpT rfl rfl rfl rfl rfl (by first | (dsimp only [cmpP]; omega) | exact rfl | exact Int.le_refl _) ?_ | refine ER.cmpF rfl rfl rfl rfl rfl (by first | (dsimp only [cmpP]; omega) | exact rfl | exact Int.le_refl _) ?_ | refine ER.len1 rfl rfl rfl ?_ | refine EK.condF rfl ?_ | refine EK.ret ?_ | refine ER.load1 rfl rfl rfl (by assumption) ?_))
      exact EU.ret1 rfl rfl ⟨rfl, rfl, I.up⟩
end
end Go.Proofs.Ytcpcdnkemobneaa
end
section
namespace Go.Proofs.Ytcpcdnkemobneaa
open Go Go.TJ Go.Conc Go.Proofs
theorem sem_boxB {Γ : Type} {P : Program} {S : Sit Γ} {h : Hp} {δ : Ix Γ} {ty : TypeId} {pos : String} {af : Array Edge} {g : Option (Nat × Bool)} {t : TypeId} {x : Operand} {cs : Array Value} {ρ : Operand → Value} {dst : Option Nat} {Q : Next → Hp → Ix Γ → Prop} {X : Value → Hp → Ix Γ → Prop} (hx : ρ x = .agg cs)
    (hq : Q (.value (.pointer (some ⟨h.size, 0, none⟩))) (h.push (.cells cs t)) δ) : SemW P S (execOp ρ ⟨dst, .box t x, ty, pos, af, g⟩) h δ Q X := by
  show SemW P S (Instr.box t (ρ x) >>= fun v => pure (.value v)) h δ Q X
  rw [hx]
  exact ⟨thawed, hq⟩
section
variable {Γ : Type} {main : Bool} {S : Sit Γ} {δ : Ix Γ} {h h' h0 : Hp} {R : Rec} {picks : List Int} {lL lW lY lV sP tv cv : Value} {X : Us}
theorem ChkI.appT {C : Nat} {thr : List Nat} {cl : List Int} {last : Int} {s' : Value} {h1 : Hp} (I : ChkI R lL lW lY lV sP h0 C tv cv last thr cl h) (u : Upd (fun b => blk tv = some b) h h1) (sl : SliceO h1 s' 3 1 (thr.length + 1) ((thr.map fun (n : Nat) => Value.int .i64 (n : Int)) ++ [.int .i64 0])) (hb : ∀ b, blk s' = some b → blk tv = some b ∨ h.size ≤ b) :
    ChkI R lL lW lY lV sP h0 C s' cv last (thr ++ [0]) cl (hset h1 ⟨C, 9, none⟩ s') := by
  have o1 := u.get I.row (fun hx => sliceO_ne I.thr I.row (by decide) C hx rfl)
  have e1 : hset h1 ⟨C, 9, none⟩ s' = h1.setIfInBounds C (chkO R.e R.log.length lL lW lY lV sP R.most s' cv last) := hset_block o1 _
  rw [e1]
  have uW : Upd (fun b => b = C) h1 (h1.setIfInBounds C (chkO R.e R.log.length lL lW lY lV sP R.most s' cv last)) := Upd.set _ _ _ rfl
  have hCl := lt_of_get I.row
  have nC := I.nC
  refine ⟨(I.up.over u (fun b hbb => I.nt b hbb)).over uW (fun b e => by omega), get_set_same o1, ?_, (I.cel.upd u (fun b hbb hx => sliceO_two I.cel I.thr (by decide) b hbb hx)).upd uW (sliceO_ne I.cel I.row (by decide)), I.nC, fun b hbb => (hb b hbb).elim (I.nt b) (fun y => Nat.le_trans I.up.size y), I.nc⟩
  have := sl.upd uW (fun b hbb => (hb b hbb).elim (sliceO_ne I.thr I.row (by decide) b) (fun y => by omega))
  rw [List.map_append, List.length_append]
  exact this
set_option maxHeartbeats 8000000 in
set_option maxRecDepth 8000 in
theorem checked_ok (ok : RecOk X picks R) (m : RecM R picks lL lW lY lV sP h) :
    CallW Try.prog main (NoS (Γ := Γ)) 19 #[.agg (repL R.e R.log.length lL lW lY lV).toArray, .int .i64 R.nb, sP, .int .i64 R.most] h δ (Ret fun v h' δ' => δ' = δ ∧ v = .bool true ∧ Upd (fun _ => False) h h') := by
  have hlen := ok.len
  have hmost := ok.most
  have hnb := ok.nb
  obtain ⟨aP, kP, eP⟩ := m.picks.val
  rw [List.length_map] at eP
  subst eP
  refine CallW.start (n := 41) rfl rfl ?_
  (repeat (first | refine EK.seq ?_ | refine EK.region ?_ | refine ER.done ?_ | refine ER.assign rfl rfl rfl ?_ | refine ER.boxA rfl rfl rfl ?_))
  have u0 : Upd (fun _ => False) h (h.push (.cells (repL R.e R.log.length lL lW lY lV).toArray 49)) := Upd.push _ _
  have g0 : (h.push (.cells (repL R.e R.log.length lL lW lY lV).toArray 49))[h.size]? = some (.cells (repL R.e R.log.length lL lW lY lV).toArray 49 (0, 0)) := get_push_new _ _
  generalize h.push (.cells (repL R.e R.log.length lL lW lY lV).toArray 49) = h1 at u0 g0 ⊢
  have hr1 : hrow h1 h.size 0 (repL R.e R.log.length lL lW lY lV) := hrow_block (rest := []) (by rw [List.append_nil]; exact g0)
  refine EK.regionAny (fun h' => TJ.hrow h' h.size 0 (repL R.e R.log.length lL lW lY lV)) ?_
  have hZ : TJ.hrow h1 h.size 0 (repL R.e R.log.length lL lW lY lV) := hr1
  refine EA.tLoadN (vs := repL R.e R.log.length lL lW lY lV) 0 rfl (by kernel_rfl) (by kernel_rfl) (by kernel_rfl) rfl rfl rfl rfl rfl (fun _ hz => hz) hZ ?_
  refine EA.tMove 1 rfl (by kernel_rfl) (by kernel_rfl) (by kernel_rfl) rfl rfl rfl rfl hZ ?_
  refine EA.tMove 2 rfl (by kernel_rfl) (by kernel_rfl) (by kernel_rfl) rfl rfl rfl rfl hZ ?_
  refine EA.callD 3 rfl (by kernel_rfl) rfl rfl rfl rfl rfl rfl (turns_ok hmost) hZ ?_
  refine EA.val (v := .agg (chkL R.e R.log.length lL lW lY lV (.slice aP picks.length kP) R.most nilS nilS (-1)).toArray) (h' := h1) 4 rfl (by kernel_rfl) rfl rfl rfl (fun ρ Q X hρ hq => sem_buildS hρ (by rfl) (by kernel_rfl) hq) hZ ?_
  refine EA.val (v := ptr h1.size) (h' := h1.push (chkO R.e R.log.length lL lW lY lV (.slice aP picks.length kP) R.most nilS nilS (-1))) 5 rfl (by kernel_rfl) rfl rfl rfl (fun ρ Q X hρ hq => sem_boxB (hρ _ _ rfl) hq) (fun j v hv => hcell_push (hr1 j v hv)) ?_
  have up := Upd.push (T := fun _ => False) h1 (chkO R.e R.log.length lL lW lY lV (.slice aP picks.length kP) R.most nilS nilS (-1))
  have hZ : TJ.hrow (h1.push (chkO R.e R.log.length lL lW lY lV (.slice aP picks.length kP) R.most nilS nilS (-1))) h.size 0 (repL R.e R.log.length lL lW lY lV) := fun j v hv => up.hcell (hr1 j v hv) (fun x => x)
  refine EA.tAssign 6 rfl (by kernel_rfl) (by kernel_rfl) (by kernel_rfl) rfl rfl rfl rfl hZ ?_
  refine EA.done (by kernel_rfl) ?_
  obtain ⟨C, hC⟩ : ∃ C, C = h1.size := ⟨_, rfl⟩
  have h10 : h.size ≤ C := by rw [hC]; exact u0.size
  (repeat (first | refine EK.seq ?_ | refine EK.region ?_ | refine ER.done ?_ | refine EK.block ?_ | refine ER.assign rfl rfl rfl ?_))
  refine EK.gen (fun h' => ChkI R lL lW lY lV (.slice aP picks.length kP) h C nilS nilS (-1) [] [] h') ⟨u0.trans up, by rw [hC]; exact get_push_new _ _, SliceO.nil, SliceO.nil, h10, fun b hb => (by cases hb), fun b hb => (by cases hb)⟩ ?_
  rw [← hC]
  clear hZ hr1 g0 u0 up hC
  intro h2 I
  refine EK.loopInv (fun q : Nat × Value => [(10, .int .i64 q.1), (9, ptr C), (1, .int .i64 R.nb), (8, .bool false)]) (fun q h' δ' => δ' = δ ∧ q.1 ≤ R.nb ∧ ChkI R lL lW lY lV (.slice aP picks.length kP) h C q.2 nilS (-1) (List.replicate q.1 0) [] h') (fun q => R.nb - q.1) (0, nilS) ⟨rfl, rfl, rfl, rfl, trivial⟩ ⟨rfl, Nat.zero_le _, I⟩ ?_
  clear I h2
  rintro ⟨k, tv⟩ h2 δ2 ⟨hδ, hk, I⟩ again
  dsimp only at hδ hk I again ⊢
  subst hδ
  by_cases hin : k < R.nb
  · obtain ⟨aT, kT, eT⟩ := I.thr.val
    rw [List.length_replicate] at eT
    subst eT
    have c9 : hcell h2 ⟨C, 9, none⟩ = some (.slice aT k kT) := hcell_of I.row rfl
    (repeat (first | refine EK.seq ?_ | refine EK.region ?_ | refine ER.done ?_ | refine EK.skip ?_ | refine EK.block ?_ | refine ER.move rfl rfl rfl ?_ | refine ER.nilCheck rfl rfl rfl ?_ | refine ER.fieldAddr rfl rfl rfl ?_ | refine ER.cmpT rfl rfl rfl rfl rfl (by first | (dsimp only [cmpP]; omega) | exact rfl | exact Int.le_refl _) ?_ | refine EK.condT rfl ?_ | refine ER.load1 rfl rfl rfl (by assumption) ?_))
    refine ER.slice1 (sz := 1) (z := .int .i64 0) (cells := #[.int .i64 0]) rfl rfl rfl (by omega) (by omega) rfl rfl ?_
    have I1 := I.upd0 (Upd.push h2 (.cells #[.int .i64 0] 3))
    have sl1 := I1.thr
    rw [List.length_replicate] at sl1
    refine ER.append1 (new := [.int .i64 0]) rfl rfl rfl rfl sl1 (get_push_new _ _) rfl (by simp [OneCell]) (by omega) (by omega) (by rfl) (fun _ _ _ x => x) ?_
    generalize h2.push (.cells #[.int .i64 0] 3) = h3 at I1 sl1 ⊢
    intro s4 h4 sl4 u4 hb4
    have I2 := I1.appT u4 (by rw [List.length_replicate]; exact sl4) (fun b hb => (hb4 b hb).imp id (fun e => Nat.le_of_eq e.symm))
    have o5 : ∃ v, hcell h4 ⟨C, 0 + 9, none⟩ = some v ∧ hfroz h4 ⟨C, 0 + 9, none⟩ = false := by
      have o1 := u4.get I1.row (fun hx => sliceO_ne I1.thr I1.row (by decide) C hx rfl)
      exact ⟨_, hcell_of o1 rfl, hfroz_of o1⟩
    obtain ⟨v5, o5, f5⟩ := o5
    obtain ⟨a4, k4, e4⟩ := sl4.val
    (repeat (first | refine ER.nilCheck rfl rfl rfl ?_ | refine ER.fieldAddr rfl rfl rfl ?_))
    refine ER.store1 rfl rfl rfl (by rw [e4]; exact ⟨nofun, nofun⟩) ⟨_, o5⟩ f5 (fun x => x) ?_
    change ER _ _ _ _ _ _ _ _ _ _ (hset h4 ⟨C, 9, none⟩ s4) _ _
    generalize hset h4 ⟨C, 9, none⟩ s4 = h5 at I2 ⊢
    clear o5 f5 sl4 u4 hb4 I1 sl1 I c9
    (repeat (first | refine EK.region ?_ | refine ER.done ?_ | refine EK.inBlock ?_ | refine ER.move rfl rfl rfl ?_ | refine ER.assign rfl rfl rfl ?_ | refine ER.add (kd := .i64) rfl rfl rfl rfl (i64_in (by omega) (by omega)) ?_))
    exact EK.back (again (k + 1, s4) _ _ (by dsimp only; omega) ⟨rfl, by dsimp only; omega, by dsimp only; rw [List.replicate_succ']; exact I2⟩) ⟨rfl, rfl, rfl, rfl, trivial⟩
  · obtain rfl : k = R.nb := by omega
    clear again hin
    have m2 := m.upd I.up
    (repeat (first | refine EK.seq ?_ | refine EK.region ?_ | refine ER.done ?_ | refine ER.move rfl rfl rfl ?_ | refine ER.cmpF rfl rfl rfl rfl rfl (by first | (dsimp only [cmpP]; omega) | exact rfl | exact Int.le_refl _) ?_ | refine EK.condF rfl ?_ | refine EK.exit rfl ?_))
    refine ER.callR rfl rfl rfl rfl rfl (memory_ok ok m2 I.row (fun hp b hb e => by
      have := m.picks.lt (fun e => hp (List.map_eq_nil_iff.1 e)) b hb
      omega)) ?_
    rintro _ h3 δ3 ⟨rfl, rfl, cv, row3, u3, sl3, nb3⟩
    have I3 : ChkI R lL lW lY lV (.slice aP picks.length kP) h C tv cv (-1) (List.replicate R.nb 0) ((nums R.log).map R.v0) h3 := by
      refine ⟨I.up.over u3 (fun b e => by omega), row3, I.thr.upd u3 (sliceO_ne I.thr I.row (by decide)), ?_, I.nC, I.nt, fun b hb => Nat.le_trans I.up.size (nb3 b hb)⟩
      rw [List.length_map, List.map_map]
      exact sl3
    clear I row3 u3 sl3 nb3 m2
    have m3 := m.upd I3.up
    (repeat (first | refine ER.move rfl rfl rfl ?_ | refine ER.notB rfl rfl rfl ?_))
    refine ER.callD rfl rfl rfl rfl rfl (shape_ok ok m3 I3.row) ?_
    (repeat (first | refine EK.seq ?_ | refine EK.region ?_ | refine ER.done ?_ | refine EK.skip ?_ | refine ER.move rfl rfl rfl ?_ | refine ER.notB rfl rfl rfl ?_ | refine ER.pickF rfl rfl rfl rfl ?_ | refine EK.condF rfl ?_))
    refine ER.callR rfl rfl rfl rfl rfl (turns_all ok m I3 (by rw [List.length_replicate]) (by rw [List.length_map]) (fun j t ht => by
      have : t = 0 := List.eq_of_mem_replicate (List.mem_of_getElem? ht)
      subst this
      exact ⟨Nat.zero_le _, fun i e h1 h2 => by omega⟩)) ?_
    rintro _ h4 δ4 ⟨rfl, rfl, u4⟩
    (repeat (first | refine ER.done ?_ | refine ER.assign rfl rfl rfl ?_ | refine EK.ret ?_))
    exact EU.ret1 rfl rfl ⟨rfl, rfl, u4⟩
end
end Go.Proofs.Ytcpcdnkemobneaa
end
section
namespace Go.Proofs.Ytcpcdnkemobneaa
open Go Go.TJ Go.Conc Go.Proofs
section
variable {Γ : Type} {main : Bool} {S : Sit Γ} {δ : Ix Γ} {R : Rec} {nm : Nat → Nme} {lL lW lY lV sP : Value} {h0 h h' : Hp} {W x i t : Nat} {s : WS} {picks : List Int} {X : Us} {A : Type} {pf p : Pr A} {out : Bool}
set_option maxHeartbeats 8000000 in
set_option maxRecDepth 8000 in
theorem end_ok (C : WC X picks R nm lL lW lY lV sP h0 s) (a : WAll R nm lL lW lY lV h0 W s h) (hx : h[x]? = some (wrO W i out t)) (hx0 : h0.size ≤ x) (ht : t ≤ R.log.length) (ho : ownFrom R i t = []) (hl : out = true ↔ ∃ q, q ∈ R.left ∧ q.1 = i) :
    CallW Try.prog main (NoS (Γ := Γ)) 24 #[ptr x, .bool false] h δ (Ret fun _ h' δ' => δ' = δ ∧ WAll R nm lL lW lY lV h0 W s h' ∧ Upd (fun b => b = x) h h') := by
  obtain ⟨q, I, N⟩ := a
  have hlen : R.log.length ≤ 65536 := Nat.le_trans C.ok.len C.ok.most
  have hll := Nat.le_trans C.ok.left_len (show 64 ≤ 65536 by decide)
  refine CallW.start (n := 72) rfl rfl ?_
  (repeat (first | refine EK.seq ?_ | refine EK.region ?_ | refine ER.move rfl rfl rfl ?_))
  refine ER.callR rfl rfl rfl rfl rfl (wnext_ok C.m hlen I hx hx0 ht) ?_
  clear I hx
  rintro _ h2 δ2 ⟨rfl, t2, ht2, hx, I, u2, ⟨e, ho2, -, -⟩ | ⟨-, ho2, rfl⟩⟩
  · rw [ho] at ho2; cases ho2
  (repeat (first | refine ER.move rfl rfl rfl ?_ | refine ER.extract rfl rfl rfl rfl ?_ | refine ER.allocA rfl rfl ?_))
  refine ER.storeN (vs := acc0) rfl rfl rfl rfl (by simp [accL, OneCell]) (acc_all (vs := acc0) rfl (get_push_new _ _)) ?_
  rw [hsetRow_push (c := [.int .i64 0, .int .i8 0, .int .i64 0, .int .i64 0, .int .i64 0, .int .i64 0, .int .i64 0, .bool false]) (vs := acc0) rfl]
  refine ER.gen (fun h' => WkI R nm lL lW lY lV h0 W ((nums R.log).map R.v0) { s with q := q } h' ∧ Upd (fun b => b = x) h h' ∧ h'[x]? = some (wrO W i out t2)) ⟨I.upd0 (Upd.push _ _), u2.trans (Upd.push _ _), get_push _ hx⟩ ?_
  clear I u2 hx
  rintro h3 ⟨I, u3, hx⟩
  (repeat (first | refine EK.seq ?_ | refine EK.region ?_ | refine ER.done ?_ | refine ER.move rfl rfl rfl ?_ | refine ER.assign rfl rfl rfl ?_))
  refine ER.callR rfl rfl rfl rfl rfl (wleft_ok C.m hll I hx hx0) ?_
  rintro v4 h4 δ4 ⟨rfl, u4, hc⟩
  obtain ⟨vs, hvs, rfl, hl8⟩ : ∃ vs : List Value, vs.length = 8 ∧ v4 = Value.tuple #[.agg vs.toArray, .bool out] ∧ ∀ v ∈ vs, OneCell v := by
    rcases hc with ⟨q', hq', e, rfl⟩ | ⟨hn, rfl⟩
    · have : out = true := hl.2 ⟨q', hq', e⟩
      subst this
      exact ⟨leftE (nums R.log) R.val q', rfl, rfl, by simp [leftE, accL, OneCell]⟩
    · have : out = false := by
        cases out with
        | false => rfl
        | true => obtain ⟨q', hq', e⟩ := hl.1 rfl; exact absurd e (hn q' hq')
      subst this
      exact ⟨acc0, rfl, rfl, by simp [accL, OneCell]⟩
  replace I := I.upd0 u4
  replace hx := u4.get hx (fun z => z)
  replace u3 : Upd (fun b => b = x) h h4 := u3.trans (u4.mono (fun _ _ z => z.elim))
  clear u4 hc
  (repeat (first | refine ER.move rfl rfl rfl ?_ | refine ER.extract rfl rfl rfl rfl ?_ | refine ER.allocA rfl rfl ?_))
  refine ER.storeN (vs := vs) rfl rfl rfl hvs hl8 (acc_all (vs := acc0) rfl (get_push_new _ _)) ?_
  rw [hsetRow_push (c := [.int .i64 0, .int .i8 0, .int .i64 0, .int .i64 0, .int .i64 0, .int .i64 0, .int .i64 0, .bool false]) (vs := vs) (by rw [hvs]; rfl)]
  refine ER.gen (fun h' => WkI R nm lL lW lY lV h0 W ((nums R.log).map R.v0) { s with q := q } h' ∧ Upd (fun b => b = x) h h' ∧ h'[x]? = some (wrO W i out t2)) ⟨I.upd0 (Upd.push _ _), u3.trans (Upd.push _ _), get_push _ hx⟩ ?_
  clear I u3 hx
  rintro h5 ⟨I, u5, hx⟩
  have x0 : hcell h5 ⟨x, 0, none⟩ = some (ptr W) := hcell_of hx rfl
  have x1 : hcell h5 ⟨x, 1, none⟩ = some (.int .i64 i) := hcell_of hx rfl
  have x2 : hcell h5 ⟨x, 2, none⟩ = some (.bool out) := hcell_of hx rfl
  (repeat (first | refine EK.seq ?_ | refine ER.done ?_ | refine ER.assign rfl rfl rfl ?_))
  refine EK.regionAny (fun h' => h' = h5) ?_
  have hZ : h5 = h5 := rfl
  refine EA.tMove 0 rfl (by kernel_rfl) (by kernel_rfl) (by kernel_rfl) rfl rfl rfl rfl hZ ?_
  refine EA.tMove 1 rfl (by kernel_rfl) (by kernel_rfl) (by kernel_rfl) rfl rfl rfl rfl hZ ?_
  refine EA.tMove 2 rfl (by kernel_rfl) (by kernel_rfl) (by kernel_rfl) rfl rfl rfl rfl hZ ?_
  refine EA.tMove 3 rfl (by kernel_rfl) (by kernel_rfl) (by kernel_rfl) rfl rfl rfl rfl hZ ?_
  refine EA.tNil 4 rfl (by kernel_rfl) (by kernel_rfl) (by kernel_rfl) rfl rfl rfl rfl hZ ?_
  refine EA.tField 5 rfl (by kernel_rfl) (by kernel_rfl) (by kernel_rfl) rfl rfl rfl rfl hZ ?_
  refine EA.tLoad 6 rfl (by kernel_rfl) (by kernel_rfl) (by kernel_rfl) rfl rfl rfl rfl (fun _ hz => (by rw [hz]; exact x2)) hZ ?_
  refine EA.tNeqB (r := true) 7 rfl (by kernel_rfl) (by kernel_rfl) (by kernel_rfl) rfl rfl rfl rfl rfl (by cases out <;> rfl) hZ ?_
  refine EA.tPickF 8 rfl (by kernel_rfl) (by kernel_rfl) (by kernel_rfl) rfl rfl rfl rfl rfl hZ ?_
  refine EA.tMove 9 rfl (by kernel_rfl) (by kernel_rfl) (by kernel_rfl) rfl rfl rfl rfl hZ ?_
  refine EA.tMove 10 rfl (by kernel_rfl) (by kernel_rfl) (by kernel_rfl) rfl rfl rfl rfl hZ ?_
  refine EA.tMove 11 rfl (by kernel_rfl) (by kernel_rfl) (by kernel_rfl) rfl rfl rfl rfl hZ ?_
  refine EA.takeNo 12 rfl (by kernel_rfl) (by kernel_rfl) (by kernel_rfl) rfl rfl rfl hZ ?_
  refine EA.takeNo 13 rfl (by kernel_rfl) (by kernel_rfl) (by kernel_rfl) rfl rfl rfl hZ ?_
  refine EA.takeNo 14 rfl (by kernel_rfl) (by kernel_rfl) (by kernel_rfl) rfl rfl rfl hZ ?_
  refine EA.takeNo 15 rfl (by kernel_rfl) (by kernel_rfl) (by kernel_rfl) rfl rfl rfl hZ ?_
  refine EA.takeNo 16 rfl (by kernel_rfl) (by kernel_rfl) (by kernel_rfl) rfl rfl rfl hZ ?_
  refine EA.takeNo 17 rfl (by kernel_rfl) (by kernel_rfl) (by kernel_rfl) rfl rfl rfl hZ ?_
  refine EA.takeNo 18 rfl (by kernel_rfl) (by kernel_rfl) (by kernel_rfl) rfl rfl rfl hZ ?_
  refine EA.takeNo 19 rfl (by kernel_rfl) (by kernel_rfl) (by kernel_rfl) rfl rfl rfl hZ ?_
  refine EA.takeNo 20 rfl (by kernel_rfl) (by kernel_rfl) (by kernel_rfl) rfl rfl rfl hZ ?_
  refine EA.takeNo 21 rfl (by kernel_rfl) (by kernel_rfl) (by kernel_rfl) rfl rfl rfl hZ ?_
  refine EA.takeNo 22 rfl (by kernel_rfl) (by kernel_rfl) (by kernel_rfl) rfl rfl rfl hZ ?_
  refine EA.takeNo 23 rfl (by kernel_rfl) (by kernel_rfl) (by kernel_rfl) rfl rfl rfl hZ ?_
  refine EA.takeNo 24 rfl (by kernel_rfl) (by kernel_rfl) (by kernel_rfl) rfl rfl rfl hZ ?_
  refine EA.takeNo 25 rfl (by kernel_rfl) (by kernel_rfl) (by kernel_rfl) rfl rfl rfl hZ ?_
  refine EA.takeNo 26 rfl (by kernel_rfl) (by kernel_rfl) (by kernel_rfl) rfl rfl rfl hZ ?_
  refine EA.tPickF 27 rfl (by kernel_rfl) (by kernel_rfl) (by kernel_rfl) rfl rfl rfl rfl rfl hZ ?_
  refine EA.tPickF 28 rfl (by kernel_rfl) (by kernel_rfl) (by kernel_rfl) rfl rfl rfl rfl rfl hZ ?_
  refine EA.done (by kernel_rfl) ?_
  (repeat (first | refine EK.seq ?_ | refine EK.skip ?_ | refine EK.condF rfl ?_))
  refine EK.regionAny (fun h' => h' = h5) ?_
  refine EA.tMove 0 rfl (by kernel_rfl) (by kernel_rfl) (by kernel_rfl) rfl rfl rfl rfl hZ ?_
  refine EA.tNot 1 rfl (by kernel_rfl) (by kernel_rfl) (by kernel_rfl) rfl rfl rfl rfl hZ ?_
  refine EA.tMove 2 rfl (by kernel_rfl) (by kernel_rfl) (by kernel_rfl) rfl rfl rfl rfl hZ ?_
  refine EA.tMove 3 rfl (by kernel_rfl) (by kernel_rfl) (by kernel_rfl) rfl rfl rfl rfl hZ ?_
  refine EA.tNil 4 rfl (by kernel_rfl) (by kernel_rfl) (by kernel_rfl) rfl rfl rfl rfl hZ ?_
  refine EA.tField 5 rfl (by kernel_rfl) (by kernel_rfl) (by kernel_rfl) rfl rfl rfl rfl hZ ?_
  refine EA.tLoad 6 rfl (by kernel_rfl) (by kernel_rfl) (by kernel_rfl) rfl rfl rfl rfl (fun _ hz => (by rw [hz]; exact x0)) hZ ?_
  refine EA.tMove 7 rfl (by kernel_rfl) (by kernel_rfl) (by kernel_rfl) rfl rfl rfl rfl hZ ?_
  refine EA.tNil 8 rfl (by kernel_rfl) (by kernel_rfl) (by kernel_rfl) rfl rfl rfl rfl hZ ?_
  refine EA.tField 9 rfl (by kernel_rfl) (by kernel_rfl) (by kernel_rfl) rfl rfl rfl rfl hZ ?_
  refine EA.tLoad 10 rfl (by kernel_rfl) (by kernel_rfl) (by kernel_rfl) rfl rfl rfl rfl (fun _ hz => (by rw [hz]; exact x1)) hZ ?_
  refine EA.callD 11 rfl (by kernel_rfl) rfl rfl rfl rfl rfl rfl (fell_ok I) hZ ?_
  refine EA.tPickT 12 rfl (by kernel_rfl) (by kernel_rfl) (by kernel_rfl) rfl rfl rfl rfl rfl hZ ?_
  refine EA.done (by kernel_rfl) ?_
  (repeat (first | refine EK.skip ?_ | refine EK.condF rfl ?_))
  exact EK.done (EU.ret0 rfl ⟨rfl, ⟨q, I, N⟩, u5⟩)
end
end Go.Proofs.Ytcpcdnkemobneaa
end
