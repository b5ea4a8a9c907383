/- The law DequeNew is true for every input. No condition. -/
import Derived.Test.YtkppboglffdmnaaRows
import Derived.Test.YtkppboglffdmnaaDequeGate
import Derived.Test.YtkppboglffdmnaaTjZ
import Derived.Test.YtkppboglffdmnaaTjG
import Derived.WalkKit
import Derived.ProofKit
import Derived.OpenShut
import Derived.Conc.HoldsTime
namespace Go.Proofs.Ytkppboglffdmnaa.dequeNew
open Go.ChangeShapes Go.WideShapes Go.ChangeAt Go.RowKit Go.Conc Go.ConcM

theorem own : ownKnob Try.prog.godebug = none := by kernel_rfl

set_option maxRecDepth 100000 in
theorem lifted (os : Os) (started : os.Started) (H : Type) (enc : TypeId × Value → H) (F : Stop.Interp) :
    ReturnsInLeavingWide Rows.dequeNewRow.assume Try.checked os 9 .any (Rows.dequeNewSpec.pre6 enc Try.prog Try.f9 Rows.dequeNewRow.domain false) ((OpenSpec.ofChange Rows.dequeNewSpec).postWith enc Try.prog Try.f9 F (outsideKept [.timePasses]) false true false) := by
  refine returnsInLeavingWide_of_change_time (C := Try.checked) own started Try.func9
    (ChangeSpec.witness6c (enc := enc) (C := Try.checked) ⟨#[], #[.int .i64 0, .int .i64 0, .int .i64 0], []⟩ 8 (by kernel_rfl) (by kernel_rfl) (by kernel_rfl) (by kernel_rfl)) ?_
  intro W base args ds gs before hval0 hW _ _ _
  have hval : ∀ (j : Nat) t v, Try.f9.params[j]? = some t → args[j]? = some v → Value.okWide Try.prog W .any base t v := hval0
  have hW' := hW
  obtain ⟨p, q, hA0, hV, rfl, _, _⟩ := hW
  have hA : DataW.TrodAll enc Try.prog W 0 (fun _ => true) true Try.f9.params.toList args.toList ds p := hA0
  rw [Try.params9] at hA hval
  obtain ⟨v0, vs0, d0, ds0, p0, q0, hargs0, rfl, rfl, h0, r0⟩ := trodAll_cons hA
  obtain ⟨v1, vs1, d1, ds1, p1, q1, rfl, rfl, rfl, h1, r1⟩ := trodAll_cons r0
  obtain ⟨v2, vs2, d2, ds2, p2, q2, rfl, rfl, rfl, h2, r2⟩ := trodAll_cons r1
  obtain ⟨rfl, rfl, rfl⟩ := trodAll_nil r2
  obtain rfl : args = #[v0, v1, v2] := by cases args; simp_all
  obtain ⟨rfl, rfl⟩ := trodVars_none hV
  obtain ⟨a0, rfl, rfl, rfl, w0⟩ := open_int Try.underlying3 (hval 0 3 v0 rfl rfl) h0
  obtain ⟨a1, rfl, rfl, rfl, w1⟩ := open_int Try.underlying2 (hval 1 2 v1 rfl rfl) h1
  obtain ⟨a2, rfl, rfl, rfl, w2⟩ := open_int Try.underlying2 (hval 2 2 v2 rfl rfl) h2
  have hwf1 : IntKind.i64.wrap a1 = a1 := by
    have h1 := w1
    simp only [Lit.wf, Bool.and_eq_true, decide_eq_true_eq] at h1
    have hmin : IntKind.i64.min = -9223372036854775808 := by decide
    have hmax : IntKind.i64.max = 9223372036854775807 := by decide
    rw [hmin, hmax] at h1
    exact Go.TJ.i64_in h1.1 h1.2
  clear hA0 hval0
  simp only [List.append_nil] at hW'
  obtain ⟨M, last, o, w', t', z1, z2, z3, v, e, ⟨⟨rfl, hu⟩, hs⟩, g1, g2, g3, g4⟩ := Go.TJ.company_run (x1_ok (fun _ => False) (fun _ => none)) (f := 9) (args := #[.int .i64 a0, .int .i64 a1, .int .i64 a2]) (W := W) (γ₀ := ⟨0, 0, 0, 0, 0, #[]⟩) (R := fun v h' => v = .bool true ∧ Go.TJ.Upd (fun _ => False) W.heap h') (by kernel_rfl) rfl
    ((deqlaw_ok (γ := ⟨0, 0, 0, 0, 0, #[]⟩) (hwf1) rfl).mono (by
      rintro (w | w) h' δ' x
      · obtain ⟨rfl, hu, γ', rfl, p3⟩ := x
        refine ⟨rfl, fun i hi _ => ?_, rfl, hu⟩
        simp [X1, hi, p3]
      · exact x.elim))
  refine ⟨M, last, o, w', t', z1, z2, z3, _, e, ⟨?_, by rw [hs.os]; exact OsLater.refl _⟩, g1, g2, g3, g4⟩
  have hbel : Below W.heap.size W { w' with os := W.os } := ⟨rfl, hs.tape, hs.output, hu.size, fun k hk => hu.same k hk (fun x => x)⟩
  exact ⟨_, _, _, [], [], [], hW', trodAll_mk1 (shut_bool Try.underlying4 _), (trodAll_cons_mk (shut_int Try.underlying3 w0) (trodAll_cons_mk (shut_int Try.underlying2 w1) (trodAll_cons_mk (shut_int Try.underlying2 w2) trodAll_mk0))), rfl, hbel.frame _, fun h => by cases h⟩

/-- The statement. -/
theorem proved : Rows.DequeNewSaid :=
  OpenClaim.holds_of_wide_leaving_time 9 Try.f9 rfl rfl rfl rfl rfl rfl rfl ⟨rfl, rfl, rfl, rfl, rfl⟩ rfl rfl rfl rfl rfl (by kernel_rfl) Try.func9 (by kernel_rfl)
    (of_decide_eq_true (by kernel_rfl)) (by unfold Func.isWrapper; first | (rw [if_pos (by decide +kernel)]; kernel_rfl) | (rw [if_neg (by decide +kernel)]; exact ⟨rfl, rfl⟩))
    (fun os started H enc _ F => lifted os started H enc F)
#print axioms proved
end Go.Proofs.Ytkppboglffdmnaa.dequeNew
