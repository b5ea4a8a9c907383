/- The law ClockFree is true for every input. No condition. -/
import Derived.Test.YtndllibjlfpndaaRows
import Derived.Deep.SlicePairs
import Derived.WalkKit
import Derived.ProofKit
import Derived.OpenShut
import Derived.RowKit3
import Derived.Conc.HoldsTime
import Derived.Test.YtndllibjlfpndaaCKG
set_option linter.unusedSectionVars false
set_option linter.unusedVariables false
set_option linter.unusedSimpArgs false
namespace Go.Proofs.Ytndllibjlfpndaa.clockFree
open Go Go.TJ
open Go.ChangeShapes Go.WideShapes Go.ChangeAt Go.RowKit Go.Conc Go.ConcM
theorem own : ownKnob Try.prog.godebug = none := by kernel_rfl
theorem fresh_list : ∀ l : List Obj, ∃ N : Nat, ∀ M : Nat, N <= M -> ∀ o, o ∈ l -> o ≠ .cells #[] M (0, 0)
  | [] => ⟨0, fun _ _ _ z => by cases z⟩
  | o :: l => by
    obtain ⟨N, hN⟩ := fresh_list l
    by_cases e : ∃ M : Nat, o = .cells #[] M (0, 0)
    · obtain ⟨M, rfl⟩ := e
      refine ⟨max N (M + 1), fun K hK o ho => ?_⟩
      rcases List.mem_cons.1 ho with rfl | ho
      · intro z
        have : M = K := by injection z
        omega
      · exact hN K (by omega) o ho
    · refine ⟨N, fun K hK o' ho => ?_⟩
      rcases List.mem_cons.1 ho with rfl | ho
      · exact fun z => e ⟨K, z⟩
      · exact hN K hK o' ho
theorem fresh (h : Hp) : ∃ N : Nat, ∀ (b : Nat) (o : Obj), h[b]? = some o -> o ≠ .cells #[] N (0, 0) := by
  obtain ⟨N, hN⟩ := fresh_list h.toList
  exact ⟨N, fun b o hb => hN N (Nat.le_refl _) o (by
    obtain ⟨hlt, e⟩ := Array.getElem?_eq_some_iff.1 hb
    rw [<- e]
    exact Array.getElem_mem_toList _)⟩
theorem bag0 [Dm] {γ : Gf TmY} (h : ¬ γ.st = 1) (a : Addr) : (XF TT tmL).bag γ a = #[] := by
  show (if γ.st = 1 /\ a.block ∈ tmL.cls γ.y /\ a = ⟨a.block, 0, none⟩ then tmL.bag γ.y a.block else #[]) = #[]
  exact if_neg fun z => h z.1
set_option maxRecDepth 100000 in
theorem lifted (os : Os) (started : os.Started) (H : Type) (enc : TypeId × Value -> H) (F : Stop.Interp) :
    ReturnsInLeavingWide Rows.clockFreeRow.assume Try.checked os 3 .any (Rows.clockFreeSpec.pre6 enc Try.prog Try.f3 Rows.clockFreeRow.domain false) ((OpenSpec.ofChange Rows.clockFreeSpec).postWith enc Try.prog Try.f3 F (outsideKept [.timePasses]) false true false) := by
  refine returnsInLeavingWide_of_change_time (C := Try.checked) own started Try.func3
    (ChangeSpec.witness6c (enc := enc) (C := Try.checked) ⟨#[], #[.int .i64 0, .int .i64 0], []⟩ 8 (by kernel_rfl) (by kernel_rfl) (by kernel_rfl) (by kernel_rfl)) ?_
  intro W base args ds gs before hval0 hW _ _ _
  have hval : ∀ (j : Nat) t v, Try.f3.params[j]? = some t -> args[j]? = some v -> Value.okWide Try.prog W .any base t v := hval0
  have hW' := hW
  obtain ⟨p, q, hA0, hV, rfl, hfz, hnd⟩ := hW
  have hA : DataW.TrodAll enc Try.prog W 0 (fun _ => true) true Try.f3.params.toList args.toList ds p := hA0
  rw [Try.params3] at hA hval
  obtain ⟨v0, vs0, d0, ds0, p0, q0, hargs0, rfl, rfl, h0, r0⟩ := trodAll_cons hA
  obtain ⟨v1, vs1, d1, ds1, p1, q1, rfl, rfl, rfl, h1, r1⟩ := trodAll_cons r0
  obtain ⟨rfl, rfl, rfl⟩ := trodAll_nil r1
  obtain rfl : args = #[v0, v1] := by cases args; simp_all
  obtain ⟨rfl, rfl⟩ := trodVars_none hV
  obtain ⟨a0, rfl, rfl, rfl, w0⟩ := open_int Try.underlying3 (hval 0 3 v0 rfl rfl) h0
  obtain ⟨a1, rfl, rfl, rfl, w1⟩ := open_int Try.underlying3 (hval 1 3 v1 rfl rfl) h1
  obtain ⟨N, hN⟩ := fresh W.heap
  letI : Dm := ⟨N⟩
  have hND : ∀ (b : Nat) (o : Obj), W.heap[b]? = some o -> o ≠ dum := hN
  clear hA0 hval0
  simp only [List.append_nil] at hW'
  obtain ⟨M, last, o, w', t', z1, z2, z3, v, e, ⟨⟨rfl, hu⟩, hs⟩, g1, g2, g3, g4⟩ := Go.TJ.company_runG (xf_ok TT tmL tmL_ok) (f := 3) (args := #[.int .i64 a0, .int .i64 a1]) (W := W) (γ₀ := { Gf.first (tmY0 (tmC ⟨0, 0, 0, 0, 0, 0, fun _ => 0⟩ #[])) 0 with st := 0 }) (R := fun v h' => v = .bool true /\ Go.TJ.Upd (fun _ => False) W.heap h') (by kernel_rfl) rfl
    (fun z => absurd z.1 (by show ¬ ((0 : Nat) = 2); omega)) ⟨Nat.one_pos, fun z => absurd z (by show ¬ ((0 : Nat) = 1); omega)⟩ (fun b => ⟨fun z => by
      rcases z with ⟨z, _⟩ | ⟨z, _⟩
      · exact absurd z (by show ¬ ((0 : Nat) = 1); omega)
      · exact z rfl, fun z => absurd z.1 (by show ¬ ((0 : Nat) = 1); omega)⟩) (fun i => by
      show (if i = 0 then none else none) = none
      split <;> rfl) (bag0 (by show ¬ ((0 : Nat) = 1); omega))
    ((tlaw_ok (γ₀ := { Gf.first (tmY0 (tmC ⟨0, 0, 0, 0, 0, 0, fun _ => 0⟩ #[])) 0 with st := 0 }) rfl rfl hND).mono (by
      rintro (w | w) h' δ' x
      · obtain ⟨rfl, hd, hu, hj⟩ := x
        refine ⟨hd, hj, fun H hP => ⟨rfl, Nat.le_trans hu.size hP.size, fun k hk hn => ?_⟩⟩
        have e1 : W.heap[k]? = some W.heap[k] := Array.getElem?_eq_getElem hk
        have e2 := (hu.same k hk hn).trans e1
        rw [e1]
        exact hP.get k _ e2 (hND k _ e1)
      · exact x.elim))
  refine ⟨M, last, o, w', t', z1, z2, z3, _, e, ⟨?_, hs.os⟩, g1, g2, g3, g4⟩
  have hbel : Below W.heap.size W { w' with os := W.os } := ⟨rfl, hs.tape, hs.output, hu.size, fun k hk => hu.same k hk (fun x => x)⟩
  exact ⟨_, _, _, [], [], [], hW', trodAll_mk1 (shut_bool Try.underlying4 _), (trodAll_cons_mk (shut_int Try.underlying3 w0) (trodAll_cons_mk (shut_int Try.underlying3 w1) trodAll_mk0)), rfl, hbel.frame _, fun h => by cases h⟩
theorem proved : Rows.ClockFreeSaid :=
  OpenClaim.holds_of_wide_leaving_time 3 Try.f3 rfl rfl rfl rfl rfl rfl rfl ⟨rfl, rfl, rfl, rfl, rfl⟩ rfl rfl rfl rfl rfl (by kernel_rfl) Try.func3 (by kernel_rfl)
    (of_decide_eq_true (by kernel_rfl)) (by unfold Func.isWrapper; first | (rw [if_pos (by decide +kernel)]; kernel_rfl) | (rw [if_neg (by decide +kernel)]; exact ⟨rfl, rfl⟩))
    (fun os started H enc _ F => lifted os started H enc F)
#print axioms proved
end Go.Proofs.Ytndllibjlfpndaa.clockFree
