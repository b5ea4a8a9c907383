/- Steps of the walk and of the plain law (SfI to TjGR). Conditions: as each lemma says. -/
import Derived.Test.YtakioblpgmjdaaaSFE
set_option linter.unusedSectionVars false
set_option linter.unusedVariables false
set_option linter.unusedSimpArgs false
namespace Go.Proofs.Ytakioblpgmjdaaa
section
open Go Go.TJ Go.Proofs
variable [Dm]
structure Fin2 (n vP pb vQ qb : Nat) (sp sq : Nat -> Value) (pu po : Nat -> List Int) (h : Hp) : Prop where
  P : hcell h ⟨vP, 0, none⟩ = some (.slice (some ⟨pb, 0, none⟩) n n)
  p : ∀ w, w < n -> hcell h ⟨pb, w, none⟩ = some (sp w) /\ Rd 0 h (sp w) (pu w)
  Q : hcell h ⟨vQ, 0, none⟩ = some (.slice (some ⟨qb, 0, none⟩) (n + 1) (n + 1))
  q : ∀ w, w < n + 1 -> hcell h ⟨qb, w, none⟩ = some (sq w) /\ Rd 0 h (sq w) (po w)
theorem Fin2.upd {n vP pb vQ qb : Nat} {sp sq : Nat -> Value} {pu po : Nat -> List Int} {h h' : Hp} {T : Nat -> Prop} (x : Fin2 n vP pb vQ qb sp sq pu po h) (u : Upd T h h') (hT : ∀ b, T b -> h.size <= b) : Fin2 n vP pb vQ qb sp sq pu po h' := by
  have key : ∀ {b o : Nat} {v : Value}, hcell h ⟨b, o, none⟩ = some v -> hcell h' ⟨b, o, none⟩ = some v := fun {b o v} hc => u.hcell hc fun z => by
    obtain ⟨_, _, _, h1, _⟩ := hcell_some hc
    have h2 : b < h.size := lt_of_get h1
    have h3 : h.size <= b := hT _ z
    omega
  exact ⟨key x.P, fun w hw => ⟨key (x.p w hw).1, (x.p w hw).2.mono (Nat.le_refl _) fun b o v _ => key⟩, key x.Q, fun w hw => ⟨key (x.q w hw).1, (x.q w hw).2.mono (Nat.le_refl _) fun b o v _ => key⟩⟩
theorem Rd.val {top : Nat} {h : Hp} {v : Value} {l : List Int} (x : Rd top h v l) : ∃ a cap, v = .slice a l.length cap /\ ∀ k, k < l.length -> ∃ b, a = some ⟨b, 0, none⟩ /\ hcell h ⟨b, k, none⟩ = some (.int .i64 (l.getD k 0)) := by
  obtain ⟨a, cap, rfl, g⟩ := x
  refine ⟨a, cap, rfl, fun k hk => ?_⟩
  obtain ⟨b, e, _, h2⟩ := g k l[k] (List.getElem?_eq_getElem hk)
  refine ⟨b, e, ?_⟩
  rw [List.getD_eq_getElem?_getD, List.getElem?_eq_getElem hk]
  exact h2
def tcells (m : Nat) (T : Nat -> Int) : Obj := .cells ((List.range m).map fun j => Value.int .i64 (T j)).toArray 3 (0, 0)
theorem tcells_get {m j : Nat} {T : Nat -> Int} {h : Hp} {b : Nat} (hb : h[b]? = some (tcells m T)) (hj : j < m) : hcell h ⟨b, j, none⟩ = some (.int .i64 (T j)) := hcell_of hb (by simp [hj])
theorem tcells_set {m j : Nat} {T : Nat -> Int} {h : Hp} {b : Nat} {v : Int} (hb : h[b]? = some (tcells m T)) : (hset h ⟨b, j, none⟩ (.int .i64 v))[b]? = some (tcells m (u1 T j v)) := by
  rw [hset_get, if_pos rfl, hb]
  unfold tcells
  rw [map_u1 (fun z : Int => Value.int .i64 z)]
  rfl
def TIn (T : Nat -> Int) (L : List Int) : Prop := ∀ j : Nat, T j = if (j : Int) ∈ L then 1 else 0
theorem TIn.add {T : Nat -> Int} {L : List Int} {v : Int} (x : TIn T L) (v0 : 0 <= v) (hv : v ∉ L) : T v.toNat = 0 /\ TIn (u1 T v.toNat 1) (L ++ [v]) := by
  have e : ((v.toNat : Nat) : Int) = v := Int.toNat_of_nonneg v0
  refine ⟨by rw [x, e, if_neg hv], fun j => ?_⟩
  by_cases h : j = v.toNat
  · subst h
    rw [u1_same, e, if_pos (by simp)]
  · rw [u1_ne h, x]
    have : (j : Int) ≠ v := by omega
    simp [this]
theorem TIn.take {T : Nat -> Int} {L : List Int} {v : Int} (x : TIn T (v :: L)) (v0 : 0 <= v) (hv : v ∉ L) : T v.toNat = 1 /\ TIn (u1 T v.toNat 0) L := by
  have e : ((v.toNat : Nat) : Int) = v := Int.toNat_of_nonneg v0
  refine ⟨by rw [x, e, if_pos (by simp)], fun j => ?_⟩
  by_cases h : j = v.toNat
  · subst h
    rw [u1_same, e, if_neg hv]
  · rw [u1_ne h, x]
    have : (j : Int) ≠ v := by omega
    simp [this]
theorem TIn.perm {T : Nat -> Int} {L L' : List Int} (x : TIn T L) (p : L.Perm L') : TIn T L' := fun j => by
  rw [x]
  by_cases h : (j : Int) ∈ L
  · rw [if_pos h, if_pos (p.mem_iff.1 h)]
  · rw [if_neg h, if_neg fun z => h (p.mem_iff.2 z)]
def upL (f : Nat -> List Int) (i k : Nat) : List Int := (List.range i).flatMap f ++ (f i).take k
theorem upL_zero (f : Nat -> List Int) (i : Nat) : upL f i 0 = (List.range i).flatMap f := by simp [upL]
theorem upL_succ {f : Nat -> List Int} {i k : Nat} (h : k < (f i).length) : upL f i (k + 1) = upL f i k ++ [(f i).getD k 0] := by
  unfold upL
  rw [List.take_add_one, List.getElem?_eq_getElem h, List.getD_eq_getElem?_getD, List.getElem?_eq_getElem h, List.append_assoc]
  rfl
theorem upL_end (f : Nat -> List Int) (i : Nat) : upL f i (f i).length = upL f (i + 1) 0 := by
  rw [upL_zero, List.range_succ, List.flatMap_append]
  simp [upL]
def dnL (f : Nat -> List Int) (n i k : Nat) : List Int := (f i).drop k ++ (List.range' (i + 1) (n - i)).flatMap f
theorem dnL_succ {f : Nat -> List Int} {n i k : Nat} (h : k < (f i).length) : dnL f n i k = (f i).getD k 0 :: dnL f n i (k + 1) := by
  unfold dnL
  rw [List.drop_eq_getElem_cons h, List.getD_eq_getElem?_getD, List.getElem?_eq_getElem h]
  rfl
theorem dnL_zero (f : Nat -> List Int) (n : Nat) : dnL f n 0 0 = (List.range (n + 1)).flatMap f := by
  unfold dnL
  rw [List.drop_zero, Nat.sub_zero, List.range_eq_range', List.range'_succ, List.flatMap_cons]
def rtL (f : Nat -> List Int) (n i : Nat) : List Int := (List.range' i (n + 1 - i)).flatMap f
theorem rtL_dn {f : Nat -> List Int} {n i : Nat} (h : i <= n) : rtL f n i = dnL f n i 0 := by
  unfold rtL dnL
  rw [show n + 1 - i = (n - i) + 1 by omega, List.range'_succ, List.flatMap_cons, List.drop_zero]
theorem rtL_end {f : Nat -> List Int} {n i : Nat} (h : i <= n) : dnL f n i (f i).length = rtL f n (i + 1) := by
  unfold rtL dnL
  rw [List.drop_length, List.nil_append, show n + 1 - (i + 1) = n - i by omega]
theorem rtL_last (f : Nat -> List Int) (n : Nat) : rtL f n (n + 1) = [] := by
  unfold rtL
  rw [Nat.sub_self]
  rfl
theorem nodup_len : ∀ (m : Nat) (a : Int) (l : List Int), l.Nodup -> (∀ z, z ∈ l -> a <= z /\ z < a + m) -> l.length <= m
  | 0, a, l, _, h => by
    rcases l with _ | ⟨z, l⟩
    · exact Nat.le_refl _
    · have := h z (by simp)
      omega
  | m + 1, a, l, hn, h => by
    by_cases e : a + m ∈ l
    · have h1 := nodup_len m a (l.erase (a + m)) (hn.erase _) fun z hz => by
        have h2 := h z (List.mem_of_mem_erase hz)
        have h3 : z ≠ a + m := fun e' => by
          subst e'
          exact (hn.mem_erase_iff.1 hz).1 rfl
        omega
      rw [List.length_erase_of_mem e] at h1
      omega
    · have := nodup_len m a l hn fun z hz => by
        have h2 := h z hz
        have h3 : z ≠ a + m := fun e' => e (e' ▸ hz)
        omega
      omega
theorem upL_mem {f : Nat -> List Int} {i k : Nat} {z : Int} (h : z ∈ upL f i k) : (∃ w, w < i /\ z ∈ f w) \/ z ∈ (f i).take k := by
  unfold upL at h
  rcases List.mem_append.1 h with h | h
  · obtain ⟨w, hw, hz⟩ := List.mem_flatMap.1 h
    exact .inl ⟨w, List.mem_range.1 hw, hz⟩
  · exact .inr h
section
variable {pu : Nat -> List Int} {n m i k : Nat} (hm : m <= 1000) (nd : ∀ w, w < n -> (pu w).Nodup) (rg : ∀ w, w < n -> ∀ z, z ∈ pu w -> 1000 * (w : Int) <= z /\ z < 1000 * (w : Int) + m)
include hm rg in
theorem up_bound (hi : i < n) {z : Int} (h : z ∈ upL pu i k) : 0 <= z /\ z < 0 + ((1000 * n : Nat) : Int) := by
  rcases upL_mem h with ⟨w, hw, hz⟩ | hz
  · have := rg w (by omega) z hz
    omega
  · have := rg i hi z (List.mem_of_mem_take hz)
    omega
include hm nd rg in
theorem up_new (hi : i < n) (hk : k < (pu i).length) : (pu i).getD k 0 ∈ pu i /\ (pu i).getD k 0 ∉ upL pu i k := by
  have e : (pu i).getD k 0 = (pu i)[k] := by rw [List.getD_eq_getElem?_getD, List.getElem?_eq_getElem hk]; rfl
  have hmem : (pu i)[k] ∈ pu i := List.getElem_mem hk
  rw [e]
  refine ⟨hmem, fun h => ?_⟩
  rcases upL_mem h with ⟨w, hw, hz⟩ | hz
  · have h1 := rg w (by omega) _ hz
    have h2 := rg i hi _ hmem
    omega
  · obtain ⟨j, hj, e'⟩ := List.mem_iff_getElem.1 hz
    rw [List.getElem_take] at e'
    rw [List.length_take] at hj
    exact List.pairwise_iff_getElem.1 (nd i hi) j k (by omega) hk (by omega) e'
end
end
section
open Go Go.TJ Go.Proofs
variable [Dm]
theorem sx_inj {n : Nat} (B : Nat -> Nat) (m : Nat) (inj : ∀ j k, j < n -> k < n -> B j = B k -> j = k) (lt : ∀ k, k < n -> B k < m) : ∃ B' : Nat -> Nat, (∀ k, k < n -> B' k = B k) /\ ∀ j k, B' j = B' k -> j = k := by
  refine ⟨fun k => if k < n then B k else m + k, fun k hk => if_pos hk, fun j k e => ?_⟩
  dsimp only at e
  by_cases hj : j < n <;> by_cases hk : k < n
  · rw [if_pos hj, if_pos hk] at e; exact inj j k hj hk e
  · rw [if_pos hj, if_neg hk] at e; have := lt j hj; omega
  · rw [if_neg hj, if_pos hk] at e; have := lt k hk; omega
  · rw [if_neg hj, if_neg hk] at e; omega
theorem sx_back {B : Nat -> Nat} (inj : ∀ j k, B j = B k -> j = k) : ∃ idx : Nat -> Nat, ∀ k, idx (B k) = k := by
  classical
  refine ⟨fun b => if h : ∃ k, B k = b then Classical.choose h else 0, fun k => ?_⟩
  have h : ∃ j, B j = B k := ⟨k, rfl⟩
  simp only [dif_pos h]
  exact inj _ _ (Classical.choose_spec h)
theorem stkM_congr {n : Nat} {B B' : Nat -> Nat} {v : Nat -> Int} {h : Hp} (r : Rep h (stkM n B v)) (hB : ∀ k, k < 6 + 2 * n -> B' k = B k) : Rep h (stkM n B' v) := by
  refine r.congr (fun k hk => hk) hB (fun k hk => ?_)
  have hk' : k < 6 + 2 * n := hk
  show (if k = 0 then _ else if k = 1 then _ else _) = (if k = 0 then _ else if k = 1 then _ else _)
  by_cases k0 : k = 0
  · rw [if_pos k0, if_pos k0, hB 2 (by omega), hB 3 (by omega), hB 1 (by omega)]
  · by_cases k1 : k = 1
    · rw [if_neg k0, if_pos k1, if_neg k0, if_pos k1, itemsL_congr (B := B') (B' := B) (i := n + 1) (fun k _ hk => hB k (by omega))]
    · rw [if_neg k0, if_neg k1, if_neg k0, if_neg k1]
theorem upd_trans' {T T' : Nat -> Prop} {a b c : Hp} (x : Upd T a b) (y : Upd T' b c) (h : ∀ i, i < a.size -> ¬ T' i) : Upd T a c :=
  ⟨Nat.le_trans x.size y.size, fun i hi hT => (y.same i (Nat.lt_of_lt_of_le hi x.size) (h i hi)).trans (x.same i hi hT)⟩
set_option maxRecDepth 8000 in
set_option maxHeartbeats 16000000 in
theorem slaw_ok {w s t : Int} {h : Hp} {γ₀ : Gf Sy} (hst : γ₀.st = 0) (hnum : γ₀.num = 1) (hnd : ∀ (b : Nat) (o : Obj), h[b]? = some o -> o ≠ dum) (t0 : 0 <= t) (t1 : t <= 255) :
    CallW Try.prog true (SitM Try.prog (XF TT sL)) 3 #[.int .i64 w, .int .i64 s, .int .u8 t] h ⟨0, γ₀⟩ (Ret fun v h' δ' => v = .bool true /\ δ'.d = 0 /\ Upd (fun _ => False) h h' /\ ((XF TT sL).jn δ'.g \/ ((XF TT sL).lone δ'.g /\ δ'.g.num = 1))) := by
  have hlo : (SitM Try.prog (XF TT sL)).lone γ₀ := ⟨by omega, fun j j0 hj => by have hj' : j < γ₀.num := hj; omega⟩
  have hsl : ∀ a, ¬ (SitM Try.prog (XF TT sL)).still γ₀ a := fun a z => by have : γ₀.st = 1 := z.1; omega
  have lft : ∀ {f : FuncId} {args : Array Value} {hh : Hp} {R : Post (Gf Sy)}, CallW Try.prog true NoS f args hh ⟨0, γ₀⟩ R -> CallW Try.prog true (SitM Try.prog (XF TT sL)) f args hh ⟨0, γ₀⟩ R := fun hc => hc.noS hsl hlo (fun z => z)
  obtain ⟨n, hn, n1, n8⟩ : ∃ n : Nat, w % ((8 : Nat) : Int) + 1 = n /\ 1 <= n /\ n <= 8 := ⟨(w % 8 + 1).toNat, by omega, by omega, by omega⟩
  obtain ⟨m, hm, m1⟩ : ∃ m : Nat, s % ((100 : Nat) : Int) = m /\ m <= 99 := ⟨(s % 100).toNat, by omega, by omega⟩
  obtain ⟨N, hN, N1, N2⟩ : ∃ N : Nat, t + 1 = N /\ 1 <= N /\ N <= 256 := ⟨(t + 1).toNat, by omega, by omega, by omega⟩
  refine CallW.start (n := 153) rfl rfl ?_
  (repeat (first | refine EK.seq ?_ | refine EK.region ?_ | refine ER.done ?_ | refine ER.assign rfl rfl rfl ?_))
  refine ER.callR rfl rfl rfl rfl rfl (lft stkworks_ok) ?_
  rintro _ h1 δ1 ⟨rfl, u1, rfl⟩
  (repeat (first | refine EK.seq ?_ | refine EK.region ?_ | refine ER.done ?_ | refine ER.move rfl rfl rfl ?_ | refine ER.assign rfl rfl rfl ?_))
  refine ER.callD rfl rfl rfl rfl rfl (lft (place_ok (n := 8) (by omega) (by omega))) ?_
  refine ER.add (kd := .i64) (r := (n : Int)) rfl rfl rfl rfl (by rw [<- hn]; exact i64_in (by omega) (by omega)) ?_
  (repeat (first | refine EK.seq ?_ | refine EK.region ?_ | refine ER.done ?_ | refine ER.move rfl rfl rfl ?_ | refine ER.assign rfl rfl rfl ?_))
  refine ER.callD rfl rfl rfl rfl rfl (lft (place_ok (n := 100) (by omega) (by omega))) ?_
  rw [hm]
  (repeat refine ER.alloc rfl rfl ?_)
  refine ER.storeNew rfl rfl rfl rfl (by simp [OneCell]) (hsl _) ?_
  refine ER.gen (fun h' => Upd (fun _ => False) h h' /\ h'[h1.size]? = some (.cells #[.int .i64 m] 3 (0, 0))) ⟨u1.trans (Upd.push _ _), get_push_new _ _⟩ ?_
  clear u1
  generalize h1.size = vM
  rintro h2 ⟨uu, M⟩
  (repeat (first | refine EK.seq ?_ | refine EK.region ?_ | refine ER.done ?_ | refine ER.move rfl rfl rfl ?_))
  refine ER.conv (kd := .u8) (r := t) rfl rfl rfl (i64_in (by omega) (by omega)) ?_
  refine ER.add (kd := .i64) (r := (N : Int)) rfl rfl rfl rfl (by rw [<- hN]; exact i64_in (by omega) (by omega)) ?_
  refine ER.callR rfl rfl rfl rfl rfl (lft (stknew_ok (n := N) N1 (by omega) (fun _ _ _ z => z))) ?_
  rintro _ h3 δ3 ⟨rfl, u3, B₀, rfl, r₀, ab₀⟩
  obtain ⟨B, hB, inj⟩ := sx_inj (n := 6 + 2 * N) B₀ h3.size (fun j k hj hk e => r₀.inj j k hj hk e) (fun k hk => r₀.lt (k := k) hk)
  obtain ⟨idx, bi⟩ := sx_back inj
  have r : Rep h3 (stkM N B (stk0 N)) := stkM_congr r₀ hB
  have ab : ∀ k, k < 6 + 2 * N -> h.size <= B k := fun k hk => by rw [hB k hk]; exact Nat.le_trans uu.size (ab₀ k hk)
  rw [<- hB 0 (by omega)]
  clear r₀ ab₀ hB inj
  (repeat (first | refine ER.move rfl rfl rfl ?_ | refine ER.extract rfl rfl rfl rfl ?_ | refine ER.alloc rfl rfl ?_))
  refine ER.storeNew rfl rfl rfl rfl (by simp [OneCell]) (hsl _) ?_
  refine ER.gen (fun h' => Upd (fun _ => False) h h' /\ h'[vM]? = some (.cells #[.int .i64 m] 3 (0, 0)) /\ Rep h' (stkM N B (stk0 N)) /\ h'[h3.size]? = some (.cells #[.pointer (some ⟨B 0, 0, none⟩)] 24 (0, 0)))
    ⟨(uu.trans u3).trans (Upd.push _ _), get_push _ (u3.get M fun z => z), r.upd0 (Upd.push _ _), get_push_new _ _⟩ ?_
  clear uu M u3 r
  generalize h3.size = vS
  rintro h4 ⟨uu, M, r, S⟩
  (repeat (first | refine EK.seq ?_ | refine EK.region ?_ | refine ER.done ?_ | refine EK.skip ?_ | refine ER.move rfl rfl rfl ?_ | refine ER.assign rfl rfl rfl ?_ | refine ER.load1 rfl rfl rfl (hcell_of (by assumption) rfl) ?_ | refine ER.eqV rfl rfl rfl rfl rfl ?_ | refine ER.notB rfl rfl rfl ?_ | refine ER.pickF rfl rfl rfl rfl ?_ | refine ER.cmpF rfl rfl rfl rfl rfl (by first | (dsimp only [cmpP]; omega) | exact rfl | exact Int.le_refl _) ?_ | refine EK.condF rfl ?_))
  refine ER.makeSliceD rfl rfl rfl rfl (by omega) (by omega) rfl ?_
  (repeat refine ER.alloc rfl rfl ?_)
  refine ER.storeNew rfl rfl rfl rfl (by simp [OneCell]) (hsl _) ?_
  refine ER.gen (fun h5 => Upd (fun _ => False) h4 h5 /\ h5[h4.size]? = some (.cells (List.replicate n (Value.slice none 0 0)).toArray 31 (0, 0)) /\ h5[(Array.push h4 (Obj.cells (List.replicate n (Value.slice none 0 0)).toArray 31 (0, 0))).size]? = some (.cells #[.slice (some ⟨h4.size, 0, none⟩) n n] 28 (0, 0)))
    ⟨(Upd.push _ _).trans (Upd.push _ _), get_push _ (get_push_new _ _), get_push_new _ _⟩ ?_
  have pl : h.size <= h4.size := uu.size
  generalize (Array.push h4 (Obj.cells (List.replicate n (Value.slice none 0 0)).toArray 31 (0, 0))).size = vP
  generalize hpb : h4.size = pb at pl ⊢
  rintro h5 ⟨u5, Pb, Pv⟩
  have pb5 : pb < h5.size := lt_of_get Pb
  (repeat (first | refine EK.seq ?_ | refine EK.region ?_ | refine ER.done ?_ | refine ER.move rfl rfl rfl ?_ | refine ER.add (kd := .i64) rfl rfl rfl rfl (i64_in (by omega) (by omega)) ?_))
  refine ER.makeSliceD (m := n + 1) rfl rfl rfl rfl (by omega) (by omega) rfl ?_
  (repeat refine ER.alloc rfl rfl ?_)
  refine ER.storeNew rfl rfl rfl rfl (by simp [OneCell]) (hsl _) ?_
  refine ER.gen (fun h6 => Upd (fun _ => False) h5 h6 /\ h6[h5.size]? = some (.cells (List.replicate (n + 1) (Value.slice none 0 0)).toArray 31 (0, 0)) /\ h6[(Array.push h5 (Obj.cells (List.replicate (n + 1) (Value.slice none 0 0)).toArray 31 (0, 0))).size]? = some (.cells #[.slice (some ⟨h5.size, 0, none⟩) (n + 1) (n + 1)] 28 (0, 0)) /\ h.size <= (Array.push h5 (Obj.cells (List.replicate (n + 1) (Value.slice none 0 0)).toArray 31 (0, 0))).size)
    ⟨(Upd.push _ _).trans (Upd.push _ _), get_push _ (get_push_new _ _), get_push_new _ _, by have := uu.size; have := u5.size; rw [Array.size_push]; omega⟩ ?_
  have ql : h.size <= h5.size := Nat.le_trans uu.size u5.size
  generalize (Array.push h5 (Obj.cells (List.replicate (n + 1) (Value.slice none 0 0)).toArray 31 (0, 0))).size = vQ
  generalize hqb : h5.size = qb at ql pb5 ⊢
  rintro h6 ⟨u6, Qb, Qv, vql⟩
  have ua := u5.trans u6
  have K : Sst h ⟨n, m, N, B, idx, vM, vS, vP, vQ, pb, qb⟩ h6 := ⟨uu.trans ua, ua.get M fun z => z, ua.get S fun z => z, r.upd0 ua, ab, bi, u6.get Pv fun z => z, u6.get Pb fun z => z, Qv, Qb, pl, ql, by show pb ≠ qb; omega, vql, n1, n8, by show m <= 100; omega, N1, N2⟩
  clear ua u5 Pb Pv u6 Qb Qv r M S uu ab bi vql pl ql pb5
  (repeat (first | refine EK.seq ?_ | refine EK.region ?_ | refine ER.done ?_ | refine ER.move rfl rfl rfl ?_))
  refine ER.makeF rfl rfl rfl rfl rfl rfl ?_
  refine ER.callR rfl rfl rfl rfl rfl (all08_ok (L := sL) (n := n) (fb := 12) (R := fun _ h' δ' => δ'.d = 0 /\ ∃ hF, Sst h ⟨n, m, N, B, idx, vM, vS, vP, vQ, pb, qb⟩ hF /\ Freed sL (sY ⟨n, m, N, B, idx, vM, vS, vP, vQ, pb, qb⟩ (kSc ⟨n, m, N, B, idx, vM, vS, vP, vQ, pb, qb⟩ hF)) hF n h' δ'.g) hst hnum (by omega) (by omega) fun hF B' cap' fB ib uF _ hfB hib hB1 hBk => ?_) ?_
  · refine (K.free uF hst hnum hfB (fun j hj => (hib j hj).2) hB1 hBk).mono ?_
    rintro (v | v) h' δ' z
    · exact ⟨z.2.1, hF, K.upd uF, z.2.2⟩
    · exact z.elim
  rintro _ hz ⟨dz, γz⟩ ⟨_, e, hF, kF, fr⟩
  simp only at e fr
  subst e
  obtain ⟨T, vals, sp, sq, pu, po, E⟩ := kF.fin hnd fr
  have hjn := fr.jn
  have hst2 := fr.st
  clear fr kF K hF lft hlo hsl hst hnum
  have hlo : (SitM Try.prog (XF TT sL)).lone γz := (xf_ok TT sL sL_ok).jl _ hjn
  have hsl : ∀ a, ¬ (SitM Try.prog (XF TT sL)).still γz a := fun a z => by have : γz.st = 1 := z.1; omega
  have lft : ∀ {f : FuncId} {args : Array Value} {hh : Hp} {R : Post (Gf Sy)}, CallW Try.prog true NoS f args hh ⟨0, γz⟩ R -> CallW Try.prog true (SitM Try.prog (XF TT sL)) f args hh ⟨0, γz⟩ R := fun hc => hc.noS hsl hlo (fun z => z)
  have hvl := E.s.len
  dsimp only at hvl
  (repeat (first | refine EK.seq ?_ | refine EK.region ?_ | refine ER.done ?_ | refine EK.block ?_ | refine ER.assign rfl rfl rfl ?_))
  refine EK.loopInv (fun q : Nat × List Int × List Int × Value => [(14, .int .i64 q.1), (2, .int .u8 t), (8, .int .i64 n), (10, .pointer (some ⟨vS, 0, none⟩)), (12, .pointer (some ⟨vP, 0, none⟩)), (13, .pointer (some ⟨vQ, 0, none⟩))])
    (fun q h' δ' => δ' = ⟨0, γz⟩ /\ q.1 + q.2.1.length <= N /\ vals = q.2.2.1 ++ q.2.1 /\ Upd (fun b => KOwn N B b \/ b = qb) hz h' /\ StkP N B q.2.1 h' /\ h'[qb]? = some (.cells ((List.range (n + 1)).map (u1 sq n q.2.2.2)).toArray 31 (0, 0)) /\ SliceO h' q.2.2.2 2 1 q.2.2.1.length (q.2.2.1.map intv) /\ ∀ b, blk q.2.2.2 = some b -> hz.size <= b)
    (fun q => q.2.1.length) (0, vals, [], nilSl) ⟨rfl, rfl, rfl, rfl, rfl, rfl, trivial⟩ ⟨rfl, by dsimp only; omega, rfl, Upd.refl _ _, E.s, ?_, SliceO.nil, fun b hb => by cases hb⟩ ?_
  · rw [E.qb]
    congr 3
    refine List.map_congr_left fun w hw => ?_
    by_cases e : w = n
    · subst e; rw [u1_same]; exact E.qn
    · rw [u1_ne e]
  rintro ⟨k, rem, got, sl⟩ h1 δ1 ⟨rfl, hk, hv, u1', st, qc, sO, sb⟩ again
  dsimp only at hk hv u1' st qc sO sb again ⊢
  have nown : ∀ b o v, (∀ j, j < 6 + 2 * N -> B j ≠ b) -> b ≠ qb -> hcell hz ⟨b, o, none⟩ = some v -> hcell h1 ⟨b, o, none⟩ = some v := fun b o v h1 h2 hc => u1'.hcell hc fun z => z.elim (fun ⟨j, hj, e⟩ => h1 j hj e.symm) h2
  have hS := nown _ _ _ (fun j hj => (E.bl j hj).2.2.2.2.1) (fun z => E.ql.2.2.2.1 z.symm) E.S
  have hQ := nown _ _ _ (fun j hj => (E.bl j hj).2.2.2.2.2.2) (fun z => E.ql.2.2.2.2.2 z.symm) E.Q
  have hP := nown _ _ _ (fun j hj => (E.bl j hj).2.2.2.2.2.1) (fun z => E.ql.2.2.2.2.1 z.symm) E.P
  dsimp only at hS hQ hP
  rcases rem with _ | ⟨z, rem⟩
  · (repeat (first | refine EK.seq ?_ | refine EK.region ?_ | refine ER.move rfl rfl rfl ?_))
    refine ER.conv (kd := .u8) (r := t) rfl rfl rfl (i64_in (by omega) (by omega)) ?_
    (repeat (first | refine EK.seq ?_ | refine EK.region ?_ | refine ER.done ?_ | refine EK.skip ?_ | refine EK.block ?_ | refine ER.cmpT rfl rfl rfl rfl rfl (by first | (dsimp only [cmpP]; omega) | exact rfl | exact Int.le_refl _) ?_ | refine ER.add (kd := .i64) rfl rfl rfl rfl (i64_in (by omega) (by omega)) ?_ | refine EK.condT rfl ?_ | refine ER.load1 rfl rfl rfl (by assumption) ?_))
    refine ER.callD rfl rfl rfl rfl rfl (lft (ss_none st)) ?_
    (repeat (first | refine EK.seq ?_ | refine EK.region ?_ | refine ER.done ?_ | refine ER.move rfl rfl rfl ?_ | refine ER.assign rfl rfl rfl ?_ | refine ER.notB rfl rfl rfl ?_ | refine ER.extract rfl rfl rfl rfl ?_ | refine ER.mul (kd := .i64) rfl rfl rfl rfl (i64_in (by omega) (by omega)) ?_ | refine EK.condT rfl ?_ | refine EK.exit rfl ?_))
    clear again
    obtain rfl : vals = got := by rw [hv, List.append_nil]
    have uu : Upd (fun _ => False) h h1 := E.u.over u1' fun b hb => hb.elim (fun ⟨j, hj, e⟩ => e ▸ (E.bl j hj).1) fun e => e ▸ E.ql.1
    have big : ∀ b o v, T <= b -> hcell hz ⟨b, o, none⟩ = some v -> hcell h1 ⟨b, o, none⟩ = some v := fun b o v hb hc => nown b o v (fun j hj e => by
      have h2 : B j < T := (E.bl j hj).2.1
      omega) (fun e => by
      have h2 : qb < T := E.ql.2.1
      omega) hc
    have F : Fin2 n vP pb vQ qb sp (u1 sq n sl) pu (u1 po n vals) h1 := by
      refine ⟨hP, fun w hw => ⟨nown _ _ _ (fun j hj => (E.bl j hj).2.2.1) (fun z => E.ql.2.2.1 z.symm) (E.pb w hw), (E.pr w hw).mono (Nat.zero_le _) big⟩, hQ, fun w hw => ⟨hcell_of qc (range_get hw), ?_⟩⟩
      by_cases e : w = n
      · subst e
        rw [u1_same, u1_same]
        exact rd_of sO fun b _ => Nat.zero_le _
      · rw [u1_ne e, u1_ne e]
        exact (E.qr w (by show w < n; omega)).mono (Nat.zero_le _) big
    have pm : ((List.range n).flatMap pu).Perm (dnL (u1 po n vals) n 0 0) := by
      rw [dnL_zero, List.range_succ, List.flatMap_append, List.flatMap_singleton, u1_same]
      have e : (List.range n).flatMap (u1 po n vals) = (List.range n).flatMap po := by
        rw [List.flatMap_def, List.flatMap_def]
        congr 1
        refine List.map_congr_left fun w hw => u1_ne ?_
        have := List.mem_range.1 hw
        omega
      rw [e]
      exact E.vp.trans List.perm_append_comm
    have nd := E.nd
    have rg := E.rg
    have m9 : m <= 1000 := by omega
    dsimp only at nd rg
    clear u1' st qc sO sb nown hS hQ hP big E
    refine ER.makeSliceD (m := 1000 * n) rfl rfl rfl rfl (by omega) (by omega) rfl ?_
    (repeat (first | refine EK.seq ?_ | refine EK.region ?_ | refine ER.done ?_ | refine EK.block ?_ | refine ER.assign rfl rfl rfl ?_))
    have htb : (Array.push h1 (Obj.cells (List.replicate (1000 * n) (Value.int .i64 0)).toArray 3))[h1.size]? = some (tcells (1000 * n) fun _ => 0) := by
      rw [get_push_new]
      unfold tcells
      rw [List.map_const', List.length_range]
    have uT : Upd (fun b => b = h1.size) h1 (Array.push h1 (Obj.cells (List.replicate (1000 * n) (Value.int .i64 0)).toArray 3)) := Upd.push _ _
    generalize Array.push h1 (Obj.cells (List.replicate (1000 * n) (Value.int .i64 0)).toArray 3) = h2 at htb uT ⊢
    generalize htbd : h1.size = tb at htb uT ⊢
    have hFT : ∀ b, b = tb -> h1.size <= b := fun b e => by omega
    have uuT : ∀ h', Upd (fun b => b = tb) h1 h' -> Upd (fun _ => False) h h' := fun h' u => uu.over u fun b e => by have := uu.size; omega
    refine EK.loopInv (fun q : Nat × (Nat -> Int) => [(19, .int .i64 q.1), (18, .int .i64 ((upL pu q.1 0).length : Nat)), (17, .slice (some ⟨tb, 0, none⟩) (1000 * n) (1000 * n)), (8, .int .i64 n), (12, .pointer (some ⟨vP, 0, none⟩)), (13, .pointer (some ⟨vQ, 0, none⟩))])
      (fun q h' δ' => δ' = ⟨0, γz⟩ /\ q.1 <= n /\ Upd (fun b => b = tb) h1 h' /\ h'[tb]? = some (tcells (1000 * n) q.2) /\ TIn q.2 (upL pu q.1 0) /\ (upL pu q.1 0).Nodup) (fun q => n - q.1) (0, fun _ => 0) ⟨rfl, rfl, rfl, rfl, rfl, rfl, trivial⟩ ⟨rfl, Nat.zero_le _, uT, htb, fun j => by simp [upL], by simp [upL]⟩ ?_
    clear htb uT h2
    rintro ⟨i, Tf⟩ h2 δ2 ⟨rfl, hi, uT, ht, ti, tn⟩ again
    dsimp only at hi ht ti tn again ⊢
    rcases Nat.lt_or_ge i n with hlt | hge
    · (repeat (first | refine EK.seq ?_ | refine EK.region ?_ | refine ER.done ?_ | refine EK.skip ?_ | refine EK.block ?_ | refine ER.move rfl rfl rfl ?_ | refine ER.assign rfl rfl rfl ?_ | refine ER.cmpT rfl rfl rfl rfl rfl (by first | (dsimp only [cmpP]; omega) | exact rfl | exact Int.le_refl _) ?_ | refine EK.condT rfl ?_))
      refine EK.loopInv (fun q : Nat × (Nat -> Int) => [(20, .int .i64 q.1), (18, .int .i64 ((upL pu i q.1).length : Nat)), (19, .int .i64 i), (17, .slice (some ⟨tb, 0, none⟩) (1000 * n) (1000 * n)), (8, .int .i64 n), (12, .pointer (some ⟨vP, 0, none⟩)), (13, .pointer (some ⟨vQ, 0, none⟩))])
        (fun q h' δ' => δ' = ⟨0, γz⟩ /\ q.1 <= (pu i).length /\ Upd (fun b => b = tb) h1 h' /\ h'[tb]? = some (tcells (1000 * n) q.2) /\ TIn q.2 (upL pu i q.1) /\ (upL pu i q.1).Nodup) (fun q => (pu i).length - q.1) (0, Tf) ⟨rfl, rfl, rfl, rfl, rfl, rfl, rfl, trivial⟩ ⟨rfl, Nat.zero_le _, uT, ht, ti, tn⟩ ?_
      clear uT ht ti tn h2
      rintro ⟨k, Tf⟩ h2 δ2 ⟨rfl, hk, uT, ht, ti, tn⟩ again2
      dsimp only at hk ht ti tn again2 ⊢
      have F' := F.upd uT hFT
      have hP := F'.P
      obtain ⟨a, cap, ea, ga⟩ := (F'.p i hlt).2.val
      have hp := (F'.p i hlt).1
      rw [ea] at hp
      have hp' : hcell h2 ⟨pb, 0 + ((i : Nat) : Int).toNat * 1, none⟩ = some (.slice a (pu i).length cap) := by rw [show 0 + ((i : Nat) : Int).toNat * 1 = i by simp]; exact hp
      rcases Nat.lt_or_ge k (pu i).length with klt | kge
      · obtain ⟨b, eb, hb⟩ := ga k klt
        subst eb
        have hb' : hcell h2 ⟨b, 0 + ((k : Nat) : Int).toNat * 1, none⟩ = some (.int .i64 ((pu i).getD k 0)) := by rw [show 0 + ((k : Nat) : Int).toNat * 1 = k by simp]; exact hb
        obtain ⟨vm, vn⟩ := up_new m9 nd rg hlt klt
        have vr := rg i hlt _ vm
        have hll := nodup_len (1000 * n) 0 (upL pu i k) tn fun z hz => up_bound m9 rg hlt hz
        have es := upL_succ (f := pu) klt
        have hlp := nodup_len m (1000 * (i : Int)) (pu i) (nd i hlt) (rg i hlt)
        have tn' : (upL pu i (k + 1)).Nodup := by
          rw [es]
          refine List.nodup_append.2 ⟨tn, by simp, fun x hx y hy e => vn ?_⟩
          have hy' : y = (pu i).getD k 0 := by simpa using hy
          rw [<- hy', <- e]
          exact hx
        generalize (pu i).getD k 0 = v at hb' hb vm vn vr es
        obtain ⟨tz, ti'⟩ := ti.add (v := v) (by omega) vn
        rw [<- es] at ti'
        have hc := tcells_get (j := v.toNat) ht (by omega)
        rw [tz] at hc
        have hc' : hcell h2 ⟨tb, 0 + v.toNat * 1, none⟩ = some (.int .i64 0) := by rw [show 0 + v.toNat * 1 = v.toNat by omega]; exact hc
        have vv1 : v < ((1000 * n : Nat) : Int) := by omega
        have vv0 : 0 <= v := by omega
        (repeat (first | refine EK.seq ?_ | refine EK.region ?_ | refine ER.done ?_ | refine EK.skip ?_ | refine EK.block ?_ | refine ER.move rfl rfl rfl ?_ | refine ER.cmpT rfl rfl rfl rfl rfl (by first | (dsimp only [cmpP]; omega) | exact rfl | exact Int.le_refl _) ?_ | refine ER.add (kd := .i64) rfl rfl rfl rfl (i64_in (by omega) (by omega)) ?_ | refine ER.len1 rfl rfl rfl ?_ | refine ER.indexSl rfl rfl rfl rfl (by omega) (by omega) ?_ | refine EK.condT rfl ?_ | refine ER.load1 rfl rfl rfl (by assumption) ?_))
        refine ER.store1 rfl rfl rfl (by simp [OneCell]) ⟨_, hc'⟩ (hfroz_of (by unfold tcells at ht; exact ht)) (hsl _) ?_
        rw [show 0 + v.toNat * 1 = v.toNat by omega, show (0 : Int) + 1 = 1 by rfl]
        have ht' := tcells_set (j := v.toNat) (v := 1) ht
        have u' : Upd (fun b => b = tb) h2 (hset h2 ⟨tb, v.toNat, none⟩ (.int .i64 1)) := Upd.hset _ _ _ rfl
        (repeat (first | refine EK.region ?_ | refine ER.done ?_ | refine EK.inBlock ?_ | refine ER.move rfl rfl rfl ?_ | refine ER.assign rfl rfl rfl ?_ | refine ER.add (kd := .i64) rfl rfl rfl rfl (i64_in (by omega) (by omega)) ?_))
        refine EK.back (again2 (k + 1, u1 Tf v.toNat 1) _ _ (by dsimp only; omega) ⟨rfl, klt, uT.trans u', ht', ti', tn'⟩) ⟨rfl, ?_, rfl, rfl, rfl, rfl, rfl, trivial⟩
        show some (Value.int .i64 (((upL pu i k).length : Int) + 1)) = some (Value.int .i64 ((upL pu i (k + 1)).length : Nat))
        rw [es, List.length_append]
        rfl
      · obtain rfl : k = (pu i).length := by omega
        rw [upL_end] at ti tn
        (repeat (first | refine EK.seq ?_ | refine EK.region ?_ | refine ER.done ?_ | refine EK.inBlock ?_ | refine ER.move rfl rfl rfl ?_ | refine ER.assign rfl rfl rfl ?_ | refine ER.cmpF rfl rfl rfl rfl rfl (by first | (dsimp only [cmpP]; omega) | exact rfl | exact Int.le_refl _) ?_ | refine ER.add (kd := .i64) rfl rfl rfl rfl (i64_in (by omega) (by omega)) ?_ | refine ER.len1 rfl rfl rfl ?_ | refine ER.indexSl rfl rfl rfl rfl (by omega) (by omega) ?_ | refine EK.condF rfl ?_ | refine EK.exit rfl ?_ | refine ER.load1 rfl rfl rfl (by assumption) ?_))
        refine EK.back (again (i + 1, Tf) _ _ (by dsimp only; omega) ⟨rfl, hlt, uT, ht, ti, tn⟩) ⟨rfl, ?_, rfl, rfl, rfl, rfl, trivial⟩
        show some (Value.int .i64 ((upL pu i (pu i).length).length : Nat)) = some (Value.int .i64 ((upL pu (i + 1) 0).length : Nat))
        rw [upL_end]
    · obtain rfl : i = n := by omega
      clear again hi hge
      rw [upL_zero] at ti tn
      have bnd : ∀ z, z ∈ (List.range i).flatMap pu -> 0 <= z /\ z < ((1000 * i : Nat) : Int) := fun z hz => by
        obtain ⟨w, hw, hz⟩ := List.mem_flatMap.1 hz
        have := List.mem_range.1 hw
        have := rg w this z hz
        omega
      have e18 : (upL pu i 0).length = (rtL (u1 po i vals) i 0).length := by rw [upL_zero, rtL_dn (Nat.zero_le _)]; exact pm.length_eq
      rw [e18]
      (repeat (first | refine EK.seq ?_ | refine EK.region ?_ | refine ER.done ?_ | refine EK.block ?_ | refine ER.move rfl rfl rfl ?_ | refine ER.assign rfl rfl rfl ?_ | refine ER.cmpF rfl rfl rfl rfl rfl (by first | (dsimp only [cmpP]; omega) | exact rfl | exact Int.le_refl _) ?_ | refine EK.condF rfl ?_ | refine EK.exit rfl ?_))
      refine EK.loopInv (fun q : Nat × (Nat -> Int) => [(21, .int .i64 q.1), (18, .int .i64 ((rtL (u1 po i vals) i q.1).length : Nat)), (17, .slice (some ⟨tb, 0, none⟩) (1000 * i) (1000 * i)), (8, .int .i64 i), (13, .pointer (some ⟨vQ, 0, none⟩))])
        (fun q h' δ' => δ' = ⟨0, γz⟩ /\ q.1 <= i + 1 /\ Upd (fun b => b = tb) h1 h' /\ h'[tb]? = some (tcells (1000 * i) q.2) /\ TIn q.2 (rtL (u1 po i vals) i q.1) /\ (rtL (u1 po i vals) i q.1).Nodup /\ ∀ z, z ∈ rtL (u1 po i vals) i q.1 -> 0 <= z /\ z < ((1000 * i : Nat) : Int)) (fun q => i + 1 - q.1) (0, Tf) ⟨rfl, rfl, rfl, rfl, rfl, trivial⟩ ⟨rfl, Nat.zero_le _, uT, ht, ?_, ?_, ?_⟩ ?_
      · rw [rtL_dn (Nat.zero_le _)]
        exact ti.perm pm
      · rw [rtL_dn (Nat.zero_le _)]
        exact pm.nodup_iff.1 tn
      · rw [rtL_dn (Nat.zero_le _)]
        exact fun z hz => bnd z (pm.mem_iff.2 hz)
      clear uT ht ti tn h2 bnd e18
      generalize u1 po i vals = po' at F ⊢
      rintro ⟨j, Tf⟩ h2 δ2 ⟨rfl, hj, uT, ht, ti, tn, bnd⟩ again
      dsimp only at hj ht ti tn bnd again ⊢
      rcases Nat.lt_or_ge j (i + 1) with hlt | hge
      · have hji : j <= i := by omega
        rw [rtL_dn hji] at ti tn bnd
        have e18 : (rtL po' i j).length = (dnL po' i j 0).length := by rw [rtL_dn hji]
        rw [e18]
        (repeat (first | refine EK.seq ?_ | refine EK.region ?_ | refine ER.done ?_ | refine EK.skip ?_ | refine EK.block ?_ | refine ER.move rfl rfl rfl ?_ | refine ER.assign rfl rfl rfl ?_ | refine ER.cmpT rfl rfl rfl rfl rfl (by first | (dsimp only [cmpP]; omega) | exact rfl | exact Int.le_refl _) ?_ | refine EK.condT rfl ?_))
        refine EK.loopInv (fun q : Nat × (Nat -> Int) => [(22, .int .i64 q.1), (18, .int .i64 ((dnL po' i j q.1).length : Nat)), (21, .int .i64 j), (17, .slice (some ⟨tb, 0, none⟩) (1000 * i) (1000 * i)), (8, .int .i64 i), (13, .pointer (some ⟨vQ, 0, none⟩))])
          (fun q h' δ' => δ' = ⟨0, γz⟩ /\ q.1 <= (po' j).length /\ Upd (fun b => b = tb) h1 h' /\ h'[tb]? = some (tcells (1000 * i) q.2) /\ TIn q.2 (dnL po' i j q.1) /\ (dnL po' i j q.1).Nodup /\ ∀ z, z ∈ dnL po' i j q.1 -> 0 <= z /\ z < ((1000 * i : Nat) : Int)) (fun q => (po' j).length - q.1) (0, Tf) ⟨rfl, rfl, rfl, rfl, rfl, rfl, trivial⟩ ⟨rfl, Nat.zero_le _, uT, ht, ti, tn, bnd⟩ ?_
        have hlq : (po' j).length <= 1000 * i := by
          have := nodup_len (1000 * i) 0 (dnL po' i j 0) tn fun z hz => by have := bnd z hz; omega
          unfold dnL at this
          rw [List.length_append, List.drop_zero] at this
          omega
        clear uT ht ti tn h2 bnd e18
        rintro ⟨k, Tf⟩ h2 δ2 ⟨rfl, hk, uT, ht, ti, tn, bnd⟩ again2
        dsimp only at hk ht ti tn bnd again2 ⊢
        have F' := F.upd uT hFT
        have hQ := F'.Q
        obtain ⟨a, cap, ea, ga⟩ := (F'.q j hlt).2.val
        have hp := (F'.q j hlt).1
        rw [ea] at hp
        have hp' : hcell h2 ⟨qb, 0 + ((j : Nat) : Int).toNat * 1, none⟩ = some (.slice a (po' j).length cap) := by rw [show 0 + ((j : Nat) : Int).toNat * 1 = j by simp]; exact hp
        rcases Nat.lt_or_ge k (po' j).length with klt | kge
        · obtain ⟨b, eb, hb⟩ := ga k klt
          subst eb
          have hb' : hcell h2 ⟨b, 0 + ((k : Nat) : Int).toNat * 1, none⟩ = some (.int .i64 ((po' j).getD k 0)) := by rw [show 0 + ((k : Nat) : Int).toNat * 1 = k by simp]; exact hb
          have es := dnL_succ (f := po') (n := i) (i := j) klt
          have hll := nodup_len (1000 * i) 0 (dnL po' i j k) tn fun z hz => by have := bnd z hz; omega
          rw [es] at ti tn bnd
          generalize (po' j).getD k 0 = v at hb' hb es ti tn bnd
          have vr := bnd v (by simp)
          have vn := (List.nodup_cons.1 tn).1
          obtain ⟨tz, ti'⟩ := ti.take (by omega) vn
          have hc := tcells_get (j := v.toNat) ht (by omega)
          rw [tz] at hc
          have hc' : hcell h2 ⟨tb, 0 + v.toNat * 1, none⟩ = some (.int .i64 1) := by rw [show 0 + v.toNat * 1 = v.toNat by omega]; exact hc
          obtain ⟨vv0, vv1⟩ := vr
          have hl1 : (dnL po' i j k).length = (dnL po' i j (k + 1)).length + 1 := by rw [es]; rfl
          (repeat (first | refine EK.seq ?_ | refine EK.region ?_ | refine ER.done ?_ | refine EK.skip ?_ | refine EK.block ?_ | refine ER.move rfl rfl rfl ?_ | refine ER.assign rfl rfl rfl ?_ | refine ER.pickF rfl rfl rfl rfl ?_ | refine ER.cmpT rfl rfl rfl rfl rfl (by first | (dsimp only [cmpP]; omega) | exact rfl | exact Int.le_refl _) ?_ | refine ER.cmpF rfl rfl rfl rfl rfl (by first | (dsimp only [cmpP]; omega) | exact rfl | exact Int.le_refl _) ?_ | refine ER.len1 rfl rfl rfl ?_ | refine ER.indexSl rfl rfl rfl rfl (by omega) (by omega) ?_ | refine EK.condT rfl ?_ | refine EK.condF rfl ?_ | refine ER.load1 rfl rfl rfl (by assumption) ?_))
          refine ER.store1 rfl rfl rfl (by simp [OneCell]) ⟨_, hc'⟩ (hfroz_of (by unfold tcells at ht; exact ht)) (hsl _) ?_
          rw [show 0 + v.toNat * 1 = v.toNat by omega]
          have ht' := tcells_set (j := v.toNat) (v := 0) ht
          have u' : Upd (fun b => b = tb) h2 (hset h2 ⟨tb, v.toNat, none⟩ (.int .i64 0)) := Upd.hset _ _ _ rfl
          (repeat (first | refine EK.region ?_ | refine ER.done ?_ | refine EK.inBlock ?_ | refine ER.move rfl rfl rfl ?_ | refine ER.assign rfl rfl rfl ?_ | refine ER.add (kd := .i64) rfl rfl rfl rfl (i64_in (by omega) (by omega)) ?_ | refine ER.sub' (kd := .i64) rfl rfl rfl rfl (i64_in (by omega) (by omega)) ?_))
          refine EK.back (again2 (k + 1, u1 Tf v.toNat 0) _ _ (by dsimp only; omega) ⟨rfl, klt, uT.trans u', ht', ti', (List.nodup_cons.1 tn).2, fun z hz => bnd z (List.mem_cons_of_mem _ hz)⟩) ⟨rfl, ?_, rfl, rfl, rfl, rfl, trivial⟩
          show some (Value.int .i64 (((dnL po' i j k).length : Int) - 1)) = some (Value.int .i64 ((dnL po' i j (k + 1)).length : Nat))
          rw [hl1]
          congr 2
          omega
        · obtain rfl : k = (po' j).length := by omega
          rw [rtL_end hji] at ti tn bnd
          (repeat (first | refine EK.seq ?_ | refine EK.region ?_ | refine ER.done ?_ | refine EK.inBlock ?_ | refine ER.move rfl rfl rfl ?_ | refine ER.assign rfl rfl rfl ?_ | refine ER.cmpF rfl rfl rfl rfl rfl (by first | (dsimp only [cmpP]; omega) | exact rfl | exact Int.le_refl _) ?_ | refine ER.add (kd := .i64) rfl rfl rfl rfl (i64_in (by omega) (by omega)) ?_ | refine ER.len1 rfl rfl rfl ?_ | refine ER.indexSl rfl rfl rfl rfl (by omega) (by omega) ?_ | refine EK.condF rfl ?_ | refine EK.exit rfl ?_ | refine ER.load1 rfl rfl rfl (by assumption) ?_))
          refine EK.back (again (j + 1, Tf) _ _ (by dsimp only; omega) ⟨rfl, by dsimp only; omega, uT, ht, ti, tn, bnd⟩) ⟨rfl, ?_, rfl, rfl, rfl, trivial⟩
          show some (Value.int .i64 ((dnL po' i j (po' j).length).length : Nat)) = some (Value.int .i64 ((rtL po' i (j + 1)).length : Nat))
          rw [rtL_end hji]
      · obtain rfl : j = i + 1 := by omega
        clear again
        have e18 : (rtL po' i (i + 1)).length = 0 := by rw [rtL_last]; rfl
        rw [e18]
        (repeat (first | refine EK.seq ?_ | refine EK.region ?_ | refine ER.done ?_ | refine ER.move rfl rfl rfl ?_ | refine ER.assign rfl rfl rfl ?_ | refine ER.cmpT rfl rfl rfl rfl rfl (by first | (dsimp only [cmpP]; omega) | exact rfl | exact Int.le_refl _) ?_ | refine ER.cmpF rfl rfl rfl rfl rfl (by first | (dsimp only [cmpP]; omega) | exact rfl | exact Int.le_refl _) ?_ | refine EK.condF rfl ?_ | refine EK.ret ?_ | refine EK.exit rfl ?_))
        exact EU.ret1 rfl rfl ⟨rfl, rfl, uuT _ uT, .inl hjn⟩
  · have hk' : k + (rem.length + 1) <= N := hk
    (repeat (first | refine EK.seq ?_ | refine EK.region ?_ | refine ER.move rfl rfl rfl ?_))
    refine ER.conv (kd := .u8) (r := t) rfl rfl rfl (i64_in (by omega) (by omega)) ?_
    (repeat (first | refine EK.seq ?_ | refine EK.region ?_ | refine ER.done ?_ | refine EK.skip ?_ | refine EK.block ?_ | refine ER.cmpT rfl rfl rfl rfl rfl (by first | (dsimp only [cmpP]; omega) | exact rfl | exact Int.le_refl _) ?_ | refine ER.add (kd := .i64) rfl rfl rfl rfl (i64_in (by omega) (by omega)) ?_ | refine EK.condT rfl ?_ | refine ER.load1 rfl rfl rfl (by assumption) ?_))
    refine ER.callR rfl rfl rfl rfl rfl (lft (ss_pop st (by omega))) ?_
    rintro _ h2 δ2 ⟨rfl, rfl, st2, u2⟩
    have sob : ∀ b, blk sl = some b -> ¬ KOwn N B b := fun b hb ⟨j, hj, e⟩ => by
      have h1 := sb b hb
      have h2 : B j < T := (E.bl j hj).2.1
      have h3 : T <= hz.size := E.hT
      omega
    have sqb : ¬ blk sl = some qb := fun hb => by
      have h1 := sb _ hb
      have h2 : qb < T := E.ql.2.1
      have h3 : T <= hz.size := E.hT
      omega
    have svq : ¬ blk sl = some vQ := fun hb => by
      have h1 := sb _ hb
      obtain ⟨_, _, _, h2, _⟩ := hcell_some E.Q
      have h3 : vQ < hz.size := lt_of_get h2
      omega
    have kqb : ¬ KOwn N B qb := fun ⟨j, hj, e⟩ => (E.bl j hj).2.2.2.1 e.symm
    have kvq : ¬ KOwn N B vQ := fun ⟨j, hj, e⟩ => (E.bl j hj).2.2.2.2.2.2 e.symm
    replace qc := u2.get qc kqb
    replace hQ := u2.hcell hQ kvq
    replace sO := sO.upd u2 sob
    have qcell : ∀ {hh : Hp}, hh[qb]? = some (.cells ((List.range (n + 1)).map (u1 sq n sl)).toArray 31 (0, 0)) -> hcell hh ⟨qb, 0 + ((n : Nat) : Int).toNat * 1, none⟩ = some sl := fun hq => by
      rw [show 0 + ((n : Nat) : Int).toNat * 1 = n by simp]
      exact hcell_of hq ((range_get (Nat.lt_succ_self n)).trans (congrArg some u1_same))
    have hlg : got.length <= 1000 := by
      have := congrArg List.length hv
      rw [List.length_append] at this
      omega
    clear hS hP st
    (repeat (first | refine EK.seq ?_ | refine EK.region ?_ | refine ER.done ?_ | refine EK.skip ?_ | refine ER.move rfl rfl rfl ?_ | refine ER.assign rfl rfl rfl ?_ | refine ER.notB rfl rfl rfl ?_ | refine ER.extract rfl rfl rfl rfl ?_ | refine EK.condF rfl ?_))
    refine EK.regionAnyL (fun h' => hcell h' ⟨vQ, 0, none⟩ = some (.slice (some ⟨qb, 0, none⟩) (n + 1) (n + 1)) /\ hcell h' ⟨qb, 0 + ((n : Nat) : Int).toNat * 1, none⟩ = some sl) 10 ?_
    have hZ := And.intro hQ (qcell qc)
    refine EA.tLoad 0 rfl (by kernel_rfl) rfl rfl rfl rfl (fun _ hz => hz.1) hZ ?_
    refine EA.tMove 1 rfl (by kernel_rfl) rfl rfl rfl rfl hZ ?_
    refine EA.tLoad 2 rfl (by kernel_rfl) rfl rfl rfl rfl (fun _ hz => hz.1) hZ ?_
    refine EA.tMove 3 rfl (by kernel_rfl) rfl rfl rfl rfl hZ ?_
    refine EA.tIdxS 4 rfl (by kernel_rfl) rfl rfl rfl rfl rfl (by omega) (by omega) hZ ?_
    refine EA.tLoad 5 rfl (by kernel_rfl) rfl rfl rfl rfl (fun _ hz => hz.2) hZ ?_
    refine EA.tMove 6 rfl (by kernel_rfl) rfl rfl rfl rfl hZ ?_
    refine EA.val (v := .slice (some ⟨h2.size, 0, none⟩) 1 1) (h' := h2.push (.cells #[.int .i64 z] 2)) 7 rfl (by kernel_rfl) rfl rfl rfl (fun ρ Q X hρ hq => sem_slice1 (sz := 1) hρ rfl (by omega) (by omega) rfl rfl hq) ⟨hcell_push hZ.1, hcell_push hZ.2⟩ ?_
    refine EA.append1 (new := [intv z]) 8 rfl (by kernel_rfl) rfl rfl rfl rfl rfl (sO.upd (Upd.push (T := fun _ => False) h2 _) (fun _ _ x => x)) (get_push_new _ _) rfl (by simp [OneCell, intv]) (by omega) (by omega) rfl (fun b o hb => hsl _) ?_
    intro s' h5 sl5 u5 hb5
    have qc5 := u5.get (get_push (o := .cells #[.int .i64 z] 2 (0, 0)) qc) sqb
    have hQ5 := u5.hcell (hcell_push (o := .cells #[.int .i64 z] 2 (0, 0)) hQ) svq
    have hZ : hcell h5 ⟨vQ, 0, none⟩ = some (.slice (some ⟨qb, 0, none⟩) (n + 1) (n + 1)) /\ hcell h5 ⟨qb, 0 + ((n : Nat) : Int).toNat * 1, none⟩ = some sl := ⟨hQ5, qcell qc5⟩
    obtain ⟨a5, k5, rfl⟩ := sl5.val
    refine ⟨hZ, ?_⟩
    refine EA.tIdxS 9 rfl (by kernel_rfl) rfl rfl rfl rfl rfl (by omega) (by omega) hZ ?_
    refine EA.unitL (h' := hset h5 ⟨qb, 0 + ((n : Nat) : Int).toNat * 1, none⟩ (.slice a5 (got.length + 1) k5)) 10 rfl (by kernel_rfl) rfl rfl rfl (fun ρ Q X hρ hq => sem_store1 (hρ _ _ rfl) (hρ _ _ rfl) (by simp [OneCell]) ⟨_, hZ.2⟩ (hfroz_of qc5) (hsl _) hq) ?_
    refine EA.done (by kernel_rfl) ?_
    rw [show 0 + ((n : Nat) : Int).toNat * 1 = n by simp]
    have qc6 : (hset h5 ⟨qb, n, none⟩ (.slice a5 (got.length + 1) k5))[qb]? = some (.cells ((List.range (n + 1)).map (u1 sq n (.slice a5 (got.length + 1) k5))).toArray 31 (0, 0)) := by
      rw [hset_get, if_pos rfl, qc5]
      show some (Obj.cells (((List.range (n + 1)).map (u1 sq n sl)).toArray.setIfInBounds n (.slice a5 (got.length + 1) k5)) _ _) = _
      rw [<- map_u1']
      congr 3
      refine List.map_congr_left fun w _ => ?_
      by_cases e : w = n
      · subst e; rw [u1_same, u1_same]
      · rw [u1_ne e, u1_ne e, u1_ne e]
    have u6 : Upd (fun b => b = qb) h5 (hset h5 ⟨qb, n, none⟩ (.slice a5 (got.length + 1) k5)) := Upd.hset _ _ _ rfl
    generalize hset h5 ⟨qb, n, none⟩ (.slice a5 (got.length + 1) k5) = h6 at qc6 u6 ⊢
    have z12 := u1'.size
    have z2 := u2.size
    have hnew : ∀ b, blk (Value.slice a5 (got.length + 1) k5) = some b -> hz.size <= b /\ b ≠ qb := fun b hb => by
      have h2' : qb < T := E.ql.2.1
      have h3 : T <= hz.size := E.hT
      rcases hb5 b hb with h4 | h4
      · have := sb b h4
        exact ⟨this, by omega⟩
      · rw [h4, Array.size_push]
        exact ⟨by omega, by omega⟩
    have hkz : ∀ j, j < 6 + 2 * N -> B j < hz.size := fun j hj => Nat.lt_of_lt_of_le (E.bl j hj).2.1 E.hT
    (repeat (first | refine EK.region ?_ | refine ER.done ?_ | refine EK.inBlock ?_ | refine ER.move rfl rfl rfl ?_ | refine ER.assign rfl rfl rfl ?_ | refine ER.add (kd := .i64) rfl rfl rfl rfl (i64_in (by omega) (by omega)) ?_))
    refine EK.back (again (k + 1, rem, got ++ [z], .slice a5 (got.length + 1) k5) _ _ (by dsimp only; rw [List.length_cons]; omega) ⟨rfl, by dsimp only; omega, by dsimp only; rw [hv, List.append_assoc]; rfl, ?_, ?_, qc6, ?_, fun b hb => (hnew b hb).1⟩) ⟨rfl, rfl, rfl, rfl, rfl, rfl, trivial⟩
    · refine (upd_trans' ((u1'.trans (u2.mono fun _ _ z => .inl z)).trans (Upd.push _ _)) u5 fun b hb z => ?_).trans (u6.mono fun _ _ z => .inr z)
      have := sb b z
      omega
    · refine ((st2.upd (Upd.push (T := fun _ => False) h2 _) fun _ _ z => z).upd u5 fun j hj z => ?_).upd u6 fun j hj z => (E.bl j hj).2.2.2.1 z
      have := sb _ z
      have := hkz j hj
      omega
    · dsimp only
      rw [List.length_append, List.map_append]
      exact sl5.upd u6 fun b hb z => (hnew b hb).2 z
end
end Go.Proofs.Ytakioblpgmjdaaa
namespace Go.TJ
section
variable [Dm]
open Go Go.Conc
open Go.ConcN (upd upd_ne upd_same)
open Go.ConcM (OsLater)
variable {Γ : Type}
theorem company_runG {P : Program} {X : Fp Γ} (hX : X.Ok) {f : FuncId} {args : Array Value} {W : World} {γ₀ : Γ} {R : Value -> Hp -> Prop} (hini : P.inits.idxOf? f = none) (hn : X.num γ₀ = 1) (hj : ¬ X.jn γ₀) (hinv : X.Inv γ₀ W.heap) (hcf : ∀ b, ¬ (X.cf γ₀).shb b /\ ¬ (X.cf γ₀).ro b) (hfin : ∀ i, X.fin γ₀ i = none)
    (hc : CallW P true (SitM P X) f args W.heap ⟨0, γ₀⟩ fun
      | .ret v, h', δ' => δ'.d = 0 /\ (X.jn δ'.g \/ (X.lone δ'.g /\ X.num δ'.g = 1)) /\ ∀ H, Part True h' H -> R v H
      | .pan _, _, _ => False) :
    ∃ M last o w' t', runNT P (M + 1) (solo (G (Frame.enter P f args .normal) []) W) #[] = (.ended o w', t') /\ runN P M (solo (G (Frame.enter P f args .normal) []) W) = .next last /\ step P last = .ended o w' /\
      Conc.Good P (fun v W' => R v W'.heap /\ SameL W W') last o w' t' := by
  obtain ⟨N, m, T, hr, γ, gs, w, hs, γs, ts, sl, g', rfl, C, hg, hs', a, todo, mode, fn, rfl, hda, hf, hend⟩ := companyF hX (hc .normal (by simp) ⟨[], calm_normal []⟩) (sl := none) (cfg_one (g := G (Frame.enter P f args .normal) []) hX hn hj hinv hcf hfin) (if_pos rfl) rfl rfl
  rcases hend with ⟨rfl, v, hv, hd0, hjn, hR⟩ | ⟨_, _, hp⟩
  · obtain ⟨N₂, m₁, T₂, γ₂, gs₂, w₂, hs₂, γs₂, ts₂, sl₂, hr₂, hst, C₂, K₂, hg₂, ⟨hmg, hmt⟩, _⟩ := turns hX (g0 := G { (fb f .normal).at a todo with mode := .returning } []) rfl (Done := fun _ _ _ _ _ _ _ _ => True) (fun _ _ _ _ _ _ _ _ _ _ _ => .inr trivial) ts γ gs w T hs γs sl C ⟨rfl, rfl, rfl, SameL.refl w, rfl⟩ ⟨_, hg, .inl rfl⟩
    have M₂ := C₂.mi
    have hpos := M₂.pos
    have hcfs := hX.cfR _ _ _ (M₂.rel 0 hpos (fun z => absurd z (Nat.lt_irrefl _)))
    have hP := M₂.part 0 hpos
    rw [K₂.h] at hP
    obtain ⟨es, hrun, hes⟩ := hv w₂ hP.weak
    have hstep := stepG_last (w := w₂) (todo := todo) hda hf hini hrun
    have hrt := runT_many_ended (P := P) (sl := sl₂) (i := 0) hg₂ hstep
    obtain ⟨hseen, _⟩ := seen_reads (Γ := Γ) (P := P) (S := fun ad : Addr => (X.cf γ₂).ro ad.block) (f := f) hes
    have hl : X.lone (γs₂ 0) := by rw [K₂.γ]; exact hjn.elim (hX.jl _) fun z => z.1
    have hγ : γ₂ = γs₂ 0 := M₂.lone hl
    have hjn₂ : X.jn γ₂ \/ X.num γ₂ = 1 := by rw [hγ, K₂.γ]; exact hjn.imp id fun z => z.2
    have M₃ := M₂.own hX hpos (fun z => absurd z (Nat.lt_irrefl _)) f (G { (fb f .normal).at a todo with mode := .returning } []).frame.place (L := True) (S := fun ad : Addr => (X.cf γ₂).ro ad.block) (hv := hs 0) (h' := hs 0) (H' := w₂.heap) (es := seen P f es) (fun _ => Iff.rfl) (fun _ => trivial) (fun b => by rw [K₂.h])
      (Chg.refl ⟨hP.get, hP.size, fun _ => hP.same ⟨rfl, hl⟩⟩) hseen (fun z => absurd z (Nat.lt_irrefl _))
    have hdone : ∀ i, 0 < i -> i < gs₂.size -> X.done i γ₂ := fun i h0 hi => hX.lone γ₂ i (by rw [hγ]; exact hl) h0 (by rw [M₂.num]; exact hi)
    have hq : ∀ i x, 0 < i -> gs₂[i]? = some x -> ∃ n, QuitsD P n (Deaf T₂ i) x := fun i x h0 hi => by
      have hlt := (Array.getElem?_eq_some_iff.1 hi).1
      obtain ⟨g0, h1, h2⟩ := C₂.wk i x h0 hi
      have hd := hdone i h0 hlt
      rw [M₂.back i h0 hlt (hX.fin i γ₂ h0 hd)] at h1
      rcases h2 with rfl | ⟨_, _, hb⟩
      · exact runsN_quits h0 _ _ _ _ ((M₂.dn i h0 hlt).1 hd) h1
      · exact absurd hb (hX.blkd i γ₂ h0 hd)
    refine ⟨N + N₂, _, .done v, w₂, _, runNT_succ_end (runNT_then hr hr₂) (hst.trans hrt), runN_of_runNT _ _ _ _ _ (runNT_then hr hr₂), ?_, v, rfl, ⟨hR w₂.heap ⟨hP.get, hP.size, fun _ => hP.same ⟨rfl, hl⟩⟩, hs'.trans K₂.w⟩, M₃.tf.clean, hjn₂.elim M₃.tf.over fun z => M₃.tf.overLone (M₂.num.symm.trans z), ⟨fun x hx => ?_, ?_⟩, fun j x hx hj => ?_⟩
    · rw [step, hst, hrt]
    · rw [hmg] at hx
      obtain ⟨j, hj⟩ := List.mem_iff_getElem?.1 hx
      rw [List.getElem?_drop] at hj
      obtain ⟨n, hn⟩ := hq (1 + j) x (by omega) (by simpa using hj)
      exact ⟨n, hn.leaves⟩
    · rw [hmt]; rfl
    · rw [hmg] at hx
      obtain ⟨n, hn⟩ := hq j x (by omega) hx
      refine ⟨n, ?_⟩
      have e : (T₂ ++ MemOp.ofEvents 0 f (G { (fb f .normal).at a todo with mode := .returning } []).frame.place (seen P f es)).deaf j (T₂ ++ MemOp.ofEvents 0 f (G { (fb f .normal).at a todo with mode := .returning } []).frame.place (seen P f es)).size = Deaf T₂ j :=
        Deaf_other T₂ (g := j) (g' := 0) (Ne.symm hj) _ fun op hop => by obtain ⟨e, _, rfl⟩ := Go.Conc.mem_ofEvents hop; rfl
      rw [show (G { (fb f .normal).at a todo with mode := .returning } []).frame.fn = f from rfl, e]
      exact hn.hears _
  · exact hp.elim
end
end Go.TJ
