/- The law CountFree is true for every input. No condition. -/
import Derived.Test.YtakioblpgmjdaaaRows
import Derived.Deep.SlicePairs
import Derived.WalkKit
import Derived.ProofKit
import Derived.OpenShut
import Derived.RowKit3
import Derived.Conc.HoldsTime
import Derived.Test.YtakioblpgmjdaaaCFF
set_option linter.unusedSectionVars false
set_option linter.unusedVariables false
set_option linter.unusedSimpArgs false
namespace Go.Proofs.Ytakioblpgmjdaaa.countFree
open Go Go.TJ
open Go.ChangeShapes Go.WideShapes Go.ChangeAt Go.RowKit Go.Conc Go.ConcM
theorem own : ownKnob Try.prog.godebug = none := by kernel_rfl
theorem laidOut : laidOutB Try.prog = true := by kernel_rfl
theorem fresh_list : ∀ l : List Obj, ∃ N : Nat, ∀ M : Nat, N <= M -> ∀ o, o ∈ l -> o ≠ .cells #[] M (0, 0)
  | [] => ⟨0, fun _ _ _ z => by cases z⟩
  | o :: l => by
    obtain ⟨N, hN⟩ := fresh_list l
    by_cases e : ∃ M : Nat, o = .cells #[] M (0, 0)
    · obtain ⟨M, rfl⟩ := e
      refine ⟨max N (M + 1), fun K hK o ho => ?_⟩
      rcases List.mem_cons.1 ho with rfl | ho
      · intro z
        have : M = K := by injection z
        omega
      · exact hN K (by omega) o ho
    · refine ⟨N, fun K hK o' ho => ?_⟩
      rcases List.mem_cons.1 ho with rfl | ho
      · exact fun z => e ⟨K, z⟩
      · exact hN K hK o' ho
theorem fresh (h : Hp) : ∃ N : Nat, ∀ (b : Nat) (o : Obj), h[b]? = some o -> o ≠ .cells #[] N (0, 0) := by
  obtain ⟨N, hN⟩ := fresh_list h.toList
  exact ⟨N, fun b o hb => hN N (Nat.le_refl _) o (by
    obtain ⟨hlt, e⟩ := Array.getElem?_eq_some_iff.1 hb
    rw [<- e]
    exact Array.getElem_mem_toList _)⟩
section
variable [Dm]
theorem plain0 {w : World} {a : Addr} {v : Value} (h : w.cell? a = some v) : ∃ b o, a = ⟨b, o, none⟩ /\ b < w.heap.size := by
  have h' : hcell w.heap a = some v := h
  rcases a with ⟨b, o, s⟩
  obtain ⟨c, e, f, h1, h2, _⟩ := hcell_some h'
  obtain rfl : s = none := h2
  exact ⟨b, o, rfl, lt_of_get h1⟩
theorem plainAt {w : World} {b o i : Nat} {v : Value} (h : w.cell? ((⟨b, o, none⟩ : Addr).add i) = some v) : hcell w.heap ⟨b, o + i, none⟩ = some v := by
  rw [add_eq] at h; exact h
variable {H : Type} {enc : TypeId × Value -> H} {w : World} {base : Nat} {spare : Nat -> Bool} {held : Bool}
theorem weights_slice {P : Program} {t e : TypeId} (ht : P.underlying t = some (.slice e)) (els sp : List (DataW H)) : (DataW.slice els sp).weights P t = (els.length + sp.length) * P.bytesOf e :: (DataW.weightsAll P e els ++ DataW.weightsAll P e sp) := by
  simp only [DataW.weights, ht]
theorem open_adds {fuel : Nat} {v : Value} {x : DataW H × List MemPlace} (h : DataW.trod enc Try.prog w base spare held fuel 31 [v] = some x) (hz : ∀ n, n ∈ x.1.weights Try.prog 31 -> n <= reachBytes) :
    ∃ (aS : Option Addr) (adds : List Int) (k : Nat), v = .slice aS adds.length k /\ adds.length <= 1000000000000000 /\ ∀ i, i < adds.length -> ∃ b o, aS = some ⟨b, o, none⟩ /\ hcell w.heap ⟨b, o + i * 1, none⟩ = some (.int .i64 (adds.getD i 0)) := by
  rcases Go.Deep.open_slice1 Try.underlying31 (by kernel_rfl) h with ⟨hcs, _⟩ | ⟨a, l, c, m, n, V, D, Pl, hcs, _, hl, hm, hmm, hxe, hx⟩
  · injection hcs with hcs _
    subst hcs
    exact ⟨none, [], 0, rfl, Nat.zero_le _, fun i hi => absurd hi (Nat.not_lt_zero _)⟩
  · injection hcs with hcs _
    subst hcs
    have hbig : l <= 1000000000000000 := by
      have hb : Try.prog.bytesOf 2 = 8 := by kernel_rfl
      have := hz _ (by rw [hxe, weights_slice Try.underlying31]; exact List.mem_cons_self ..)
      rw [hb] at this
      simp only [List.length_map, List.length_range, reachBytes] at this
      omega
    have hlm : l <= m := by rw [hmm]; split <;> omega
    obtain ⟨f, hf⟩ := Go.Deep.choose_lt (n := l) (p := fun i (x : Int) => w.cell? (a.add i) = some (.int .i64 x)) (fun i hi => by
      obtain ⟨c0, t0⟩ := hx i (by omega)
      obtain ⟨z0, e0, _, _⟩ := DataW.trod_int Try.underlying2 t0
      simp at e0
      exact ⟨z0, by rw [c0, e0]⟩)
    refine ⟨some a, (List.range l).map f, c, by simp, by rw [List.length_map, List.length_range]; exact hbig, fun i hi => ?_⟩
    rw [List.length_map, List.length_range] at hi
    obtain ⟨b', o', rfl, hb⟩ := plain0 (a := a) (by have := hf 0 (by omega); exact this)
    refine ⟨b', o', rfl, ?_⟩
    have e : ((List.range l).map f).getD i 0 = f i := by
      rw [List.getD_eq_getElem?_getD, List.getElem?_map, List.getElem?_range hi]; rfl
    rw [e, Nat.mul_one]
    exact plainAt (hf i hi)
end
set_option maxRecDepth 100000 in
theorem lifted (os : Os) (started : os.Started) (H : Type) (enc : TypeId × Value -> H) (F : Stop.Interp) :
    ReturnsInLeavingWide Rows.countFreeRow.assume Try.checked os 5 .any (Rows.countFreeSpec.pre6 enc Try.prog Try.f5 Rows.countFreeRow.domain false) ((OpenSpec.ofChange Rows.countFreeSpec).postWith enc Try.prog Try.f5 F (outsideKept [.timePasses]) false true false) := by
  refine returnsInLeavingWide_of_change_time (C := Try.checked) own started Try.func5
    (ChangeSpec.witness6c (enc := enc) (C := Try.checked) ⟨#[], #[.int .i64 0, .int .i64 0, .slice none 0 0, .int .u8 0], []⟩ 8 (by kernel_rfl) (by kernel_rfl) (by kernel_rfl) (by kernel_rfl)) ?_
  intro W base args ds gs before hval0 hW _ hsz0 _
  have hval : ∀ (j : Nat) t v, Try.f5.params[j]? = some t -> args[j]? = some v -> Value.okWide Try.prog W .any base t v := hval0
  have hsz : (DataW.weightsEach Try.prog (Try.f5.params.toList ++ Rows.countFreeSpec.plain.varTypes Try.prog) (ds ++ gs)).all (· <= reachBytes) = true := hsz0
  have hW' := hW
  obtain ⟨p, q, hA0, hV, rfl, hfz, hnd⟩ := hW
  have hA : DataW.TrodAll enc Try.prog W 0 (fun _ => true) true Try.f5.params.toList args.toList ds p := hA0
  rw [Try.params5] at hA hval hsz
  obtain ⟨v0, vs0, d0, ds0, p0, q0, hargs0, rfl, rfl, h0, r0⟩ := trodAll_cons hA
  obtain ⟨v1, vs1, d1, ds1, p1, q1, rfl, rfl, rfl, h1, r1⟩ := trodAll_cons r0
  obtain ⟨v2, vs2, d2, ds2, p2, q2, rfl, rfl, rfl, h2, r2⟩ := trodAll_cons r1
  obtain ⟨v3, vs3, d3, ds3, p3, q3, rfl, rfl, rfl, h3, r3⟩ := trodAll_cons r2
  obtain ⟨rfl, rfl, rfl⟩ := trodAll_nil r3
  obtain rfl : args = #[v0, v1, v2, v3] := by cases args; simp_all
  obtain ⟨rfl, rfl⟩ := trodVars_none hV
  obtain ⟨a0, rfl, rfl, rfl, w0⟩ := open_int Try.underlying3 (hval 0 3 v0 rfl rfl) h0
  obtain ⟨a1, rfl, rfl, rfl, w1⟩ := open_int Try.underlying3 (hval 1 3 v1 rfl rfl) h1
  obtain ⟨a3, rfl, rfl, rfl, w3⟩ := open_int Try.underlying5 (hval 3 5 v3 rfl rfl) h3
  obtain ⟨aS, ln, kA, rfl⟩ := okWide_slice Try.underlying31 (hval 2 31 v2 rfl rfl)
  obtain ⟨N, hN⟩ := fresh W.heap
  letI : Dm := ⟨N⟩
  have hND : ∀ (b : Nat) (o : Obj), W.heap[b]? = some o -> o ≠ dum := hN
  have k2 := h2
  have lt2 : ∀ x ∈ p2, x.block < W.heap.size := by obtain ⟨m, hm⟩ := k2; exact DataW.trod_lt m _ _ _ hm
  obtain ⟨adds, rfl, hbig, ai⟩ : ∃ adds : List Int, ln = adds.length /\ adds.length <= 1000000000000000 /\ ∀ i, i < adds.length -> ∃ b o, aS = some ⟨b, o, none⟩ /\ hcell W.heap ⟨b, o + i * 1, none⟩ = some (.int .i64 (adds.getD i 0)) := by
    obtain ⟨m, hm⟩ := h2
    obtain ⟨a', adds, k', e, x1, x2⟩ := open_adds hm (fun n hn => by
      have := List.all_eq_true.1 hsz n (DataW.weights_mem_each (j := 2) (t := 31) rfl rfl n hn)
      exact of_decide_eq_true this)
    injection e with e1 e2 e3
    subst e1 e2 e3
    exact ⟨adds, rfl, x1, x2⟩
  have hu8 : 0 <= a3 /\ a3 <= 255 := by
    have hw := w3
    unfold Lit.wf at hw
    obtain ⟨x1, x2⟩ := (Bool.and_eq_true _ _).mp hw
    exact ⟨of_decide_eq_true x1, of_decide_eq_true x2⟩
  clear hA0 hval0
  simp only [List.append_nil] at hW'
  obtain ⟨M, last, o, w', t', z1, z2, z3, v, e, ⟨⟨rfl, hu⟩, hs⟩, g1, g2, g3, g4⟩ := Go.TJ.company_runG (xf_ok TT cL cL_ok) (f := 5) (args := #[.int .i64 a0, .int .i64 a1, .slice aS adds.length kA, .int .u8 a3]) (W := W) (γ₀ := { Gf.first (kY ⟨0, [], 0, [], 0, 0, 0, 0, 0, 0, 0, fun _ => False⟩) 0 with st := 0 }) (R := fun v h' => v = .bool true /\ Go.TJ.Upd (fun _ => False) W.heap h') (by kernel_rfl) rfl
    (fun z => absurd z.1 (by show ¬ ((0 : Nat) = 2); omega)) ⟨Nat.one_pos, fun z => absurd z (by show ¬ ((0 : Nat) = 1); omega)⟩ (fun b => ⟨fun z => by
      rcases z with ⟨z, _⟩ | ⟨z, _⟩
      · exact absurd z (by show ¬ ((0 : Nat) = 1); omega)
      · exact z rfl, fun z => absurd z.1 (by show ¬ ((0 : Nat) = 1); omega)⟩) (fun i => by
      show (if i = 0 then none else none) = none
      split <;> rfl)
    ((claw_ok (γ₀ := { Gf.first (kY ⟨0, [], 0, [], 0, 0, 0, 0, 0, 0, 0, fun _ => False⟩) 0 with st := 0 }) rfl rfl hND hu8.1 hu8.2 hbig ai).mono (by
      rintro (w | w) h' δ' x
      · obtain ⟨rfl, hd, hu, hj⟩ := x
        refine ⟨hd, hj, fun H hP => ⟨rfl, Nat.le_trans hu.size hP.size, fun k hk hn => ?_⟩⟩
        have e1 : W.heap[k]? = some W.heap[k] := Array.getElem?_eq_getElem hk
        have e2 := (hu.same k hk hn).trans e1
        rw [e1]
        exact hP.get k _ e2 (hND k _ e1)
      · exact x.elim))
  refine ⟨M, last, o, w', t', z1, z2, z3, _, e, ⟨?_, hs.os⟩, g1, g2, g3, g4⟩
  have hbel : Below W.heap.size W { w' with os := W.os } := ⟨rfl, hs.tape, hs.output, hu.size, fun k hk => hu.same k hk (fun x => x)⟩
  exact ⟨_, _, _, [], _, [], hW', trodAll_mk1 (shut_bool Try.underlying4 _), (trodAll_cons_mk (shut_int Try.underlying3 w0) (trodAll_cons_mk (shut_int Try.underlying3 w1) (trodAll_cons_mk (Below.trod laidOut (by kernel_rfl) (of_decide_eq_true (by kernel_rfl)) k2 hbel lt2) (trodAll_cons_mk (shut_int Try.underlying5 w3) trodAll_mk0)))), rfl, hbel.frame _, fun h => by cases h⟩
theorem proved : Rows.CountFreeSaid :=
  OpenClaim.holds_of_wide_leaving_time 5 Try.f5 rfl rfl rfl rfl rfl rfl rfl ⟨rfl, rfl, rfl, rfl, rfl⟩ rfl rfl rfl rfl rfl (by kernel_rfl) Try.func5 (by kernel_rfl)
    (of_decide_eq_true (by kernel_rfl)) (by unfold Func.isWrapper; first | (rw [if_pos (by decide +kernel)]; kernel_rfl) | (rw [if_neg (by decide +kernel)]; exact ⟨rfl, rfl⟩))
    (fun os started H enc _ F => lifted os started H enc F)
#print axioms proved
end Go.Proofs.Ytakioblpgmjdaaa.countFree
