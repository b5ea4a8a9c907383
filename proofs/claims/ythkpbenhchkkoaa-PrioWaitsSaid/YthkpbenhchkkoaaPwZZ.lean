/- The law PrioWaits is true for every input. No condition. -/
import Derived.Test.YthkpbenhchkkoaaRows
import Derived.WalkKit
import Derived.ProofKit
import Derived.OpenShut
import Derived.Conc.HoldsTime
import Derived.Test.YthkpbenhchkkoaaPwZE
namespace Go.Proofs.Ythkpbenhchkkoaa.prioWaits
open Go.ChangeShapes Go.WideShapes Go.ChangeAt Go.RowKit Go.Conc Go.ConcM
theorem own : ownKnob Try.prog.godebug = none := by kernel_rfl
theorem laidOut : laidOutB Try.prog = true := by kernel_rfl
set_option maxRecDepth 100000 in
theorem lifted (os : Os) (started : os.Started) (H : Type) (enc : TypeId × Value -> H) (F : Stop.Interp) :
    ReturnsInLeavingWide Rows.prioWaitsRow.assume Try.checked os 4 .any (Rows.prioWaitsSpec.pre6 enc Try.prog Try.f4 Rows.prioWaitsRow.domain false) ((OpenSpec.ofChange Rows.prioWaitsSpec).postWith enc Try.prog Try.f4 F (outsideKept [.timePasses]) false true false) := by
  refine returnsInLeavingWide_of_change_time (C := Try.checked) own started Try.func4
    (ChangeSpec.witness6c (enc := enc) (C := Try.checked) ⟨#[], #[.agg #[.int .i64 0, .int .i64 0, .slice none 0 0, .int .i64 0, .slice none 0 0]], []⟩ 8 (by kernel_rfl) (by kernel_rfl) (by kernel_rfl) (by kernel_rfl)) ?_
  intro W base args ds gs before hval0 hW _ hsz0 _
  have hval : ∀ (j : Nat) t v, Try.f4.params[j]? = some t -> args[j]? = some v -> Value.okWide Try.prog W .any base t v := hval0
  have hsz : (DataW.weightsEach Try.prog (Try.f4.params.toList ++ Rows.prioWaitsSpec.plain.varTypes Try.prog) (ds ++ gs)).all (· <= reachBytes) = true := hsz0
  have hW' := hW
  obtain ⟨p, q, hA0, hV, rfl, hfz, hnd⟩ := hW
  have hA : DataW.TrodAll enc Try.prog W 0 (fun _ => true) true Try.f4.params.toList args.toList ds p := hA0
  rw [Try.params4] at hA hval hsz
  obtain ⟨v0, vs0, d0, ds0, p0, q0, hargs0, rfl, rfl, h0, r0⟩ := trodAll_cons hA
  obtain ⟨rfl, rfl, rfl⟩ := trodAll_nil r0
  obtain rfl : args = #[v0] := by cases args; simp_all
  obtain ⟨rfl, rfl⟩ := trodVars_none hV
  obtain ⟨cs0, rfl, hcs0⟩ := okWide_struct Try.underlying54 (hval 0 54 v0 rfl rfl)
  have k0 := h0
  have lt0 : ∀ x ∈ p0, x.block < W.heap.size := by obtain ⟨m, hm⟩ := k0; exact DataW.trod_lt m _ _ _ hm
  obtain ⟨L, N, tk, pS, kS, ps, picks, ecs, hp, hk, big, u8⟩ : ∃ (L N tk : Int) (pS kS : Value) (ps : List Nat) (picks : List Int), cs0 = #[.int .i64 L, .int .i64 N, pS, .int .i64 tk, kS] /\ RdS W.heap pS (ps.map fun (x : Nat) => .int .u8 x) /\ RdS W.heap kS (picks.map fun x => .int .i64 x) /\ (ps.length <= 1000000000000000 /\ picks.length <= 1000000000000000) /\ ∀ x, x ∈ ps -> x < 256 := by
    obtain ⟨m, hm⟩ := h0
    obtain ⟨L, N, tk, pS, kS, ps, picks, e, r⟩ := open_yard (cs := cs0.toList) hm (fun n hn => by
      have := List.all_eq_true.1 hsz n (DataW.weights_mem_each (j := 0) (t := 54) rfl rfl n hn)
      exact of_decide_eq_true this)
    exact ⟨L, N, tk, pS, kS, ps, picks, by cases cs0; simp at e; subst e; rfl, r⟩
  subst ecs
  clear hA0 hval0
  obtain ⟨M, last, o, w', t', z1, z2, z3, v, e, ⟨⟨rfl, hu⟩, hs⟩, g1, g2, g3, g4⟩ := Go.TJ.sw_run (f := 4) (args := #[.agg #[.int .i64 L, .int .i64 N, pS, .int .i64 tk, kS]]) (W := W) (R := fun v h' => v = .bool true /\ Go.TJ.Upd (fun _ => False) W.heap h') (by kernel_rfl)
    ((wwaits_ok hp hk big u8).mono (by
      rintro (w | w) h' δ' x
      · obtain ⟨x1, x2, x3⟩ := x
        exact ⟨x1, x2, x3⟩
      · exact x.elim))
  refine ⟨M, last, o, w', t', z1, z2, z3, _, e, ⟨?_, by rw [hs.os]; exact OsLater.refl _⟩, g1, g2, g3, g4⟩
  have hbel : Below W.heap.size W { w' with os := W.os } := ⟨rfl, hs.tape, hs.output, hu.size, fun k hk => hu.same k hk (fun x => x)⟩
  exact ⟨_, _, _, [], _, [], hW', trodAll_mk1 (shut_bool Try.underlying4 _), (trodAll_cons_mk (Below.trod laidOut (by kernel_rfl) (of_decide_eq_true (by kernel_rfl)) k0 hbel lt0) trodAll_mk0), rfl, hbel.frame _, fun h => by cases h⟩
theorem proved : Rows.PrioWaitsSaid :=
  OpenClaim.holds_of_wide_leaving_time 4 Try.f4 rfl rfl rfl rfl rfl rfl rfl ⟨rfl, rfl, rfl, rfl, rfl⟩ rfl rfl rfl rfl rfl (by kernel_rfl) Try.func4 (by kernel_rfl)
    (of_decide_eq_true (by kernel_rfl)) (by unfold Func.isWrapper; first | (rw [if_pos (by decide +kernel)]; kernel_rfl) | (rw [if_neg (by decide +kernel)]; exact ⟨rfl, rfl⟩))
    (fun os started H enc _ F => lifted os started H enc F)
#print axioms proved
end Go.Proofs.Ythkpbenhchkkoaa.prioWaits
