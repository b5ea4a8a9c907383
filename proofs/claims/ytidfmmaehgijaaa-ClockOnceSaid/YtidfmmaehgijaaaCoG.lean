/- Steps of the walk and of the plain law (CoQ to CoQ). Conditions: as each lemma says. -/
import Derived.Deep.SlicePairs
import Derived.OpenShut
import Derived.WalkKit
import Derived.ProofKit
import Derived.Test.YtidfmmaehgijaaaCoF
namespace Go.Proofs.Ytidfmmaehgijaaa
section
open Go Go.TJ Go.Conc Go.Proofs
open Go.ChangeShapes Go.WideShapes Go.ChangeAt Go.RowKit
theorem plain0 {w : World} {a : Addr} {v : Value} (h : w.cell? a = some v) : ∃ b o, a = ⟨b, o, none⟩ /\ b < w.heap.size := by
  have h' : hcell w.heap a = some v := h
  rcases a with ⟨b, o, s⟩
  obtain ⟨c, e, f, h1, h2, _⟩ := hcell_some h'
  obtain rfl : s = none := h2
  exact ⟨b, o, rfl, lt_of_get h1⟩
theorem plainAt {w : World} {b o i : Nat} {v : Value} (h : w.cell? ((⟨b, o, none⟩ : Addr).add i) = some v) : hcell w.heap ⟨b, o + i, none⟩ = some v := by
  rw [add_eq] at h; exact h
section
variable {H : Type} {enc : TypeId × Value -> H} {w : World} {base : Nat} {spare : Nat -> Bool} {held : Bool}
theorem weightsAll_mem {P : Program} {e : TypeId} : ∀ {l : List (DataW H)} {d : DataW H}, d ∈ l -> ∀ n, n ∈ d.weights P e -> n ∈ DataW.weightsAll P e l
  | [], _, h, _, _ => by cases h
  | x :: r, d, h, n, hn => by
    rw [DataW.weightsAll]
    rcases List.mem_cons.1 h with rfl | h
    · exact List.mem_append_left _ hn
    · exact List.mem_append_right _ (weightsAll_mem h n hn)
theorem weights_slice {P : Program} {t e : TypeId} (ht : P.underlying t = some (.slice e)) (els sp : List (DataW H)) : (DataW.slice els sp).weights P t = (els.length + sp.length) * P.bytesOf e :: (DataW.weightsAll P e els ++ DataW.weightsAll P e sp) := by
  simp only [DataW.weights, ht]
theorem open_ints9 {fuel : Nat} {v : Value} {x : DataW H × List MemPlace} (h : DataW.trod enc Try.prog w base spare held fuel 23 [v] = some x) (hz : ∀ n, n ∈ x.1.weights Try.prog 23 -> n <= reachBytes) :
    ∃ l : List Int, RdS w.heap v (l.map iV) /\ l.length <= 1000000000000000 := by
  rcases Go.Deep.open_slice1 Try.underlying23 (by kernel_rfl) h with ⟨hcs, _⟩ | ⟨a, l, c, m, n, V, D, Pl, hcs, _, hl, hm, hmm, hxe, hx⟩
  · injection hcs with hcs _
    subst hcs
    exact ⟨[], ⟨⟨none, 0, rfl⟩, fun i v hv => by cases hv⟩, Nat.zero_le _⟩
  · injection hcs with hcs _
    subst hcs
    have hbig : l <= 1000000000000000 := by
      have hb : Try.prog.bytesOf 3 = 8 := by kernel_rfl
      have := hz _ (by rw [hxe, weights_slice Try.underlying23]; exact List.mem_cons_self ..)
      rw [hb] at this
      simp only [List.length_map, List.length_range, reachBytes] at this
      omega
    have hlm : l <= m := by rw [hmm]; split <;> omega
    obtain ⟨f, hf⟩ := Go.Deep.choose_lt (n := l) (p := fun i (x : Int) => w.cell? (a.add i) = some (.int .i64 x)) (fun i hi => by
      obtain ⟨c0, t0⟩ := hx i (by omega)
      obtain ⟨z0, e0, _, _⟩ := DataW.trod_int Try.underlying3 t0
      simp at e0
      exact ⟨z0, by rw [c0, e0]⟩)
    refine ⟨(List.range l).map f, ⟨⟨some a, c, by simp⟩, fun i v hv => ?_⟩, by rw [List.length_map, List.length_range]; exact hbig⟩
    rw [List.getElem?_map] at hv
    obtain ⟨z, hv', rfl⟩ := Option.map_eq_some_iff.1 hv
    rw [List.getElem?_map] at hv'
    obtain ⟨j', hj', rfl⟩ := Option.map_eq_some_iff.1 hv'
    have hjl : i < l := by
      have := (List.getElem?_eq_some_iff.1 hj').1
      rwa [List.length_range] at this
    rw [List.getElem?_range hjl] at hj'
    injection hj' with hj'
    subst hj'
    obtain ⟨b', o', rfl, hb⟩ := plain0 (a := a) (by have := hf 0 (by omega); exact this)
    exact ⟨b', o', c, by simp, by rw [Nat.mul_one]; exact plainAt (hf i hjl)⟩
set_option maxRecDepth 100000 in
theorem open_call9 {fuel : Nat} {cs : List Value} {x : DataW H × List MemPlace} (h : DataW.trod enc Try.prog w base spare held fuel 120 cs = some x) (hz : ∀ n, n ∈ x.1.weights Try.prog 120 -> n <= reachBytes) :
    ∃ q : CCall, cs = callE q /\ ∃ xs : List Int, RdS w.heap q.l (xs.map iV) /\ xs.length <= 1000000000000000 := by
  obtain ⟨xs, n, -, hxe, hl, hxl, hfs⟩ := DataW.trod_struct Try.underlying120 h
  have h3 : Try.prog.cellsOf 120 = 7 := by kernel_rfl
  have hp1 : Try.prog.cellsOf 23 = 1 := by kernel_rfl
  have hi1 : Try.prog.cellsOf 3 = 1 := by kernel_rfl
  have hi2 : Try.prog.cellsOf 2 = 1 := by kernel_rfl
  rw [h3] at hl
  obtain ⟨c0, c1, c2, c3, c4, c5, c6, rfl⟩ : ∃ c0 c1 c2 c3 c4 c5 c6, cs = [c0, c1, c2, c3, c4, c5, c6] := by
    match cs, hl with
    | [c0, c1, c2, c3, c4, c5, c6], _ => exact ⟨c0, c1, c2, c3, c4, c5, c6, rfl⟩
  obtain ⟨x0, x1, x2, x3, x4, x5, x6, rfl⟩ : ∃ c0 c1 c2 c3 c4 c5 c6, xs = [c0, c1, c2, c3, c4, c5, c6] := by
    match xs, hxl with
    | [c0, c1, c2, c3, c4, c5, c6], _ => exact ⟨c0, c1, c2, c3, c4, c5, c6, rfl⟩
  have f0 := hfs 0 _ rfl
  have f1 := hfs 1 _ rfl
  have f2 := hfs 2 _ rfl
  have f3 := hfs 3 _ rfl
  have f4 := hfs 4 _ rfl
  have f5 := hfs 5 _ rfl
  have f6 := hfs 6 _ rfl
  simp [hp1, hi1, hi2] at f0 f1 f2 f3 f4 f5 f6
  have hw : x.1.weights Try.prog 120 = x0.1.weights Try.prog 3 ++ (x1.1.weights Try.prog 3 ++ (x2.1.weights Try.prog 2 ++ (x3.1.weights Try.prog 2 ++ (x4.1.weights Try.prog 2 ++ (x5.1.weights Try.prog 3 ++ (x6.1.weights Try.prog 23 ++ [])))))) := by
    rw [hxe]
    simp only [DataW.weights, Try.underlying120]
    rfl
  rw [hw] at hz
  obtain ⟨z0, e0, _, _⟩ := DataW.trod_int Try.underlying3 f0
  simp at e0
  obtain ⟨z1, e1, _, _⟩ := DataW.trod_int Try.underlying3 f1
  simp at e1
  obtain ⟨z2, e2, _, _⟩ := DataW.trod_int Try.underlying2 f2
  simp at e2
  obtain ⟨z3, e3, _, _⟩ := DataW.trod_int Try.underlying2 f3
  simp at e3
  obtain ⟨z4, e4, _, _⟩ := DataW.trod_int Try.underlying2 f4
  simp at e4
  obtain ⟨z5, e5, _, _⟩ := DataW.trod_int Try.underlying3 f5
  simp at e5
  obtain ⟨xs, hx, hxl'⟩ := open_ints9 f6 (fun n hn => hz n (List.mem_append_right _ (List.mem_append_right _ (List.mem_append_right _ (List.mem_append_right _ (List.mem_append_right _ (List.mem_append_right _ (List.mem_append_left _ hn))))))))
  exact ⟨⟨z0, z1, z2, z3, z4, z5, c6⟩, by rw [e0, e1, e2, e3, e4, e5]; rfl, xs, hx, hxl'⟩
instance : Inhabited CCall := ⟨⟨0, 0, 0, 0, 0, 0, nilS⟩⟩
open Go.Deep in
theorem open_calls9 {fuel : Nat} {v : Value} {x : DataW H × List MemPlace} (h : DataW.trod enc Try.prog w base spare held fuel 118 [v] = some x) (hz : ∀ n, n ∈ x.1.weights Try.prog 118 -> n <= reachBytes) :
    ∃ l, RdC w.heap v l := by
  rcases Go.Deep.open_slice Try.underlying118 h with ⟨hcs, _⟩ | ⟨a, l, c, m, n, D, Pl, hcs, _, hl, hm, hmm, hxe, hx⟩
  · injection hcs with hcs _
    exact ⟨[], none, 0, hcs, fun j q hq => by cases hq⟩
  · injection hcs with hcs _
    have h7 : Try.prog.cellsOf 120 = 7 := by kernel_rfl
    rw [hxe, weights_slice Try.underlying118] at hz
    have hlm : l <= m := by rw [hmm]; split <;> omega
    rw [h7] at hx
    obtain ⟨f, hf⟩ := Go.Deep.choose_lt (n := l) (p := fun i (q : CCall) => (∀ j v, (callE q)[j]? = some v -> w.cell? (a.add (i * 7 + j)) = some v) /\ ∃ xs : List Int, RdS w.heap q.l (xs.map iV) /\ xs.length <= 1000000000000000) (fun i hi => by
      obtain ⟨cs', h1, h2⟩ := hx i (by omega)
      obtain ⟨q, e, hq⟩ := open_call9 h2 (fun n hn => hz n (List.mem_cons_of_mem _ (List.mem_append_left _ (weightsAll_mem (d := D i) (List.mem_map_of_mem (List.mem_range.2 hi)) n hn))))
      obtain ⟨_, hlen, hcell⟩ := World.cells?_some h1
      refine ⟨q, fun j v hv => ?_, hq⟩
      have hj : j < 7 := (List.getElem?_eq_some_iff.1 hv).1
      have := hcell j (by omega)
      rw [add_add] at this
      rw [e] at this
      rw [<- hv]; exact this)
    refine ⟨(List.range l).map f, some a, c, by rw [List.length_map, List.length_range]; exact hcs, fun j q hq => ?_⟩
    rw [List.getElem?_map] at hq
    obtain ⟨j', hj', rfl⟩ := Option.map_eq_some_iff.1 hq
    have hjl : j < l := by
      have := (List.getElem?_eq_some_iff.1 hj').1
      rwa [List.length_range] at this
    rw [List.getElem?_range hjl] at hj'
    injection hj' with hj'
    subst hj'
    obtain ⟨b', o', rfl, hb⟩ := plain0 (a := a) (by have := (hf 0 (by omega)).1 0 _ rfl; exact this)
    obtain ⟨g0, g1⟩ := hf j hjl
    refine ⟨b', o', rfl, fun i v hv => ?_, g1⟩
    rw [show o' + j * 7 + i = o' + (j * 7 + i) by omega]
    exact plainAt (g0 i v hv)
theorem open_scripts9 {fuel : Nat} {v : Value} {x : DataW H × List MemPlace} (h : DataW.trod enc Try.prog w base spare held fuel 22 [v] = some x) (hz : ∀ n, n ∈ x.1.weights Try.prog 22 -> n <= reachBytes) :
    ∃ ws, InP w.heap v ws := by
  rcases Go.Deep.open_slice1 Try.underlying22 (by kernel_rfl) h with ⟨hcs, _⟩ | ⟨a, l, c, m, n, V, D, Pl, hcs, _, hl, hm, hmm, hxe, hx⟩
  · injection hcs with hcs _
    subst hcs
    exact ⟨[], ⟨⟨none, 0, rfl⟩, fun i v hv => by cases hv⟩, fun s v hv => by cases hv⟩
  · injection hcs with hcs _
    subst hcs
    rw [hxe, weights_slice Try.underlying22] at hz
    have hlm : l <= m := by rw [hmm]; split <;> omega
    obtain ⟨f, hf⟩ := Go.Deep.choose_lt (n := l) (p := fun i (x : Value) => w.cell? (a.add i) = some x /\ ∃ l, RdC w.heap x l) (fun i hi => by
      obtain ⟨c0, t0⟩ := hx i (by omega)
      exact ⟨V i, c0, open_calls9 t0 (fun n hn => hz n (List.mem_cons_of_mem _ (List.mem_append_left _ (weightsAll_mem (d := D i) (List.mem_map_of_mem (List.mem_range.2 hi)) n hn))))⟩)
    have key : ∀ i v, ((List.range l).map f)[i]? = some v -> i < l /\ v = f i := fun i v hv => by
      rw [List.getElem?_map] at hv
      obtain ⟨j', hj', rfl⟩ := Option.map_eq_some_iff.1 hv
      have hjl : i < l := by
        have := (List.getElem?_eq_some_iff.1 hj').1
        rwa [List.length_range] at this
      rw [List.getElem?_range hjl] at hj'
      injection hj' with hj'
      subst hj'
      exact ⟨hjl, rfl⟩
    refine ⟨(List.range l).map f, ⟨⟨some a, c, by simp⟩, fun i v hv => ?_⟩, fun s v hv => ?_⟩
    · obtain ⟨hil, rfl⟩ := key i v hv
      obtain ⟨b', o', rfl, hb⟩ := plain0 (a := a) (by have := (hf 0 (by omega)).1; exact this)
      exact ⟨b', o', c, by simp, by rw [Nat.mul_one]; exact plainAt (hf i hil).1⟩
    · obtain ⟨hil, rfl⟩ := key s v hv
      exact (hf s hil).2
set_option maxRecDepth 100000 in
theorem open_play9 {fuel : Nat} {cs : List Value} {x : DataW H × List MemPlace} (h : DataW.trod enc Try.prog w base spare held fuel 25 cs = some x) (hz : ∀ n, n ∈ x.1.weights Try.prog 25 -> n <= reachBytes) :
    ∃ (f0 : Nat -> Value) (ws : List Value) (i1 i2 i4 i5 i6 : Int), cs = playL f0 /\ f0 1 = .int .i64 i1 /\ f0 2 = .int .i64 i2 /\ f0 4 = .int .i64 i4 /\ f0 5 = .int .i64 i5 /\ f0 6 = .int .i64 i6 /\ InP w.heap (f0 0) ws /\ ∀ j, j = 3 \/ 7 <= j /\ j <= 12 -> ∃ xs : List Int, RdS w.heap (f0 j) (xs.map iV) /\ xs.length <= 1000000000000000 := by
  obtain ⟨xs, n, -, hxe, hl, hxl, hfs⟩ := DataW.trod_struct Try.underlying25 h
  have h3 : Try.prog.cellsOf 25 = 13 := by kernel_rfl
  have hs1 : Try.prog.cellsOf 22 = 1 := by kernel_rfl
  have hp1 : Try.prog.cellsOf 23 = 1 := by kernel_rfl
  have hi1 : Try.prog.cellsOf 3 = 1 := by kernel_rfl
  rw [h3] at hl
  obtain ⟨c0, c1, c2, c3, c4, c5, c6, c7, c8, c9, c10, c11, c12, rfl⟩ : ∃ c0 c1 c2 c3 c4 c5 c6 c7 c8 c9 c10 c11 c12, cs = [c0, c1, c2, c3, c4, c5, c6, c7, c8, c9, c10, c11, c12] := by
    match cs, hl with
    | [c0, c1, c2, c3, c4, c5, c6, c7, c8, c9, c10, c11, c12], _ => exact ⟨c0, c1, c2, c3, c4, c5, c6, c7, c8, c9, c10, c11, c12, rfl⟩
  obtain ⟨x0, x1, x2, x3, x4, x5, x6, x7, x8, x9, x10, x11, x12, rfl⟩ : ∃ c0 c1 c2 c3 c4 c5 c6 c7 c8 c9 c10 c11 c12, xs = [c0, c1, c2, c3, c4, c5, c6, c7, c8, c9, c10, c11, c12] := by
    match xs, hxl with
    | [c0, c1, c2, c3, c4, c5, c6, c7, c8, c9, c10, c11, c12], _ => exact ⟨c0, c1, c2, c3, c4, c5, c6, c7, c8, c9, c10, c11, c12, rfl⟩
  have f0 := hfs 0 _ rfl
  have f1 := hfs 1 _ rfl
  have f2 := hfs 2 _ rfl
  have f3 := hfs 3 _ rfl
  have f4 := hfs 4 _ rfl
  have f5 := hfs 5 _ rfl
  have f6 := hfs 6 _ rfl
  have f7 := hfs 7 _ rfl
  have f8 := hfs 8 _ rfl
  have f9 := hfs 9 _ rfl
  have f10 := hfs 10 _ rfl
  have f11 := hfs 11 _ rfl
  have f12 := hfs 12 _ rfl
  simp [hs1, hp1, hi1] at f0 f1 f2 f3 f4 f5 f6 f7 f8 f9 f10 f11 f12
  have hw : x.1.weights Try.prog 25 = x0.1.weights Try.prog 22 ++ (x1.1.weights Try.prog 3 ++ (x2.1.weights Try.prog 3 ++ (x3.1.weights Try.prog 23 ++ (x4.1.weights Try.prog 3 ++ (x5.1.weights Try.prog 3 ++ (x6.1.weights Try.prog 3 ++ (x7.1.weights Try.prog 23 ++ (x8.1.weights Try.prog 23 ++ (x9.1.weights Try.prog 23 ++ (x10.1.weights Try.prog 23 ++ (x11.1.weights Try.prog 23 ++ (x12.1.weights Try.prog 23 ++ ([]))))))))))))) := by
    rw [hxe]
    simp only [DataW.weights, Try.underlying25]
    rfl
  rw [hw] at hz
  obtain ⟨ws, hws⟩ := open_scripts9 f0 (fun n hn => hz n (List.mem_append_left _ hn))
  obtain ⟨z1, e1, _, _⟩ := DataW.trod_int Try.underlying3 f1
  simp at e1
  obtain ⟨z2, e2, _, _⟩ := DataW.trod_int Try.underlying3 f2
  simp at e2
  have g3 := open_ints9 f3 (fun n hn => hz n (List.mem_append_right _ (List.mem_append_right _ (List.mem_append_right _ (List.mem_append_left _ hn)))))
  obtain ⟨z4, e4, _, _⟩ := DataW.trod_int Try.underlying3 f4
  simp at e4
  obtain ⟨z5, e5, _, _⟩ := DataW.trod_int Try.underlying3 f5
  simp at e5
  obtain ⟨z6, e6, _, _⟩ := DataW.trod_int Try.underlying3 f6
  simp at e6
  have g7 := open_ints9 f7 (fun n hn => hz n (List.mem_append_right _ (List.mem_append_right _ (List.mem_append_right _ (List.mem_append_right _ (List.mem_append_right _ (List.mem_append_right _ (List.mem_append_right _ (List.mem_append_left _ hn)))))))))
  have g8 := open_ints9 f8 (fun n hn => hz n (List.mem_append_right _ (List.mem_append_right _ (List.mem_append_right _ (List.mem_append_right _ (List.mem_append_right _ (List.mem_append_right _ (List.mem_append_right _ (List.mem_append_right _ (List.mem_append_left _ hn))))))))))
  have g9 := open_ints9 f9 (fun n hn => hz n (List.mem_append_right _ (List.mem_append_right _ (List.mem_append_right _ (List.mem_append_right _ (List.mem_append_right _ (List.mem_append_right _ (List.mem_append_right _ (List.mem_append_right _ (List.mem_append_right _ (List.mem_append_left _ hn)))))))))))
  have g10 := open_ints9 f10 (fun n hn => hz n (List.mem_append_right _ (List.mem_append_right _ (List.mem_append_right _ (List.mem_append_right _ (List.mem_append_right _ (List.mem_append_right _ (List.mem_append_right _ (List.mem_append_right _ (List.mem_append_right _ (List.mem_append_right _ (List.mem_append_left _ hn))))))))))))
  have g11 := open_ints9 f11 (fun n hn => hz n (List.mem_append_right _ (List.mem_append_right _ (List.mem_append_right _ (List.mem_append_right _ (List.mem_append_right _ (List.mem_append_right _ (List.mem_append_right _ (List.mem_append_right _ (List.mem_append_right _ (List.mem_append_right _ (List.mem_append_right _ (List.mem_append_left _ hn)))))))))))))
  have g12 := open_ints9 f12 (fun n hn => hz n (List.mem_append_right _ (List.mem_append_right _ (List.mem_append_right _ (List.mem_append_right _ (List.mem_append_right _ (List.mem_append_right _ (List.mem_append_right _ (List.mem_append_right _ (List.mem_append_right _ (List.mem_append_right _ (List.mem_append_right _ (List.mem_append_right _ (List.mem_append_left _ hn))))))))))))))
  refine ⟨fun j => ([c0, c1, c2, c3, c4, c5, c6, c7, c8, c9, c10, c11, c12] : List Value).getD j nilS, ws, z1, z2, z4, z5, z6, rfl, e1, e2, e4, e5, e6, hws, fun j hj => ?_⟩
  rcases (show j = 3 \/ j = 7 \/ j = 8 \/ j = 9 \/ j = 10 \/ j = 11 \/ j = 12 by omega) with rfl | rfl | rfl | rfl | rfl | rfl | rfl
  · exact g3
  · exact g7
  · exact g8
  · exact g9
  · exact g10
  · exact g11
  · exact g12
end
end
end Go.Proofs.Ytidfmmaehgijaaa
