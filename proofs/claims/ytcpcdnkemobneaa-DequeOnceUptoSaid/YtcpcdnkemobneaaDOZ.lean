/- The law DequeOnce is true for every input whose bulk is small: the row that says so follows from the one for every input. No condition. -/
import Derived.Test.YtcpcdnkemobneaaDOE
namespace Go.Proofs.Ytcpcdnkemobneaa.dequeOnce
open Go.ChangeShapes Go.WideShapes Go.ChangeAt Go.RowKit Go.Conc Go.ConcM
theorem small_pre {H : Type} (enc : TypeId × Value -> H) (w : World) : (OpenSpec.pre enc Try.prog Try.f7 (Rows.OpenSpec.upto Rows.dequeOnceSpec) Rows.dequeOnceRow.domain false) w #[.agg #[.int .i64 0, .int .i64 0, .int .i64 0, .slice none 0 0, .slice none 0 0, .slice none 0 0]] := by
  refine ⟨[.agg [.agg [.lit (.int .i64 0), .lit (.int .i64 0), .lit (.int .i64 0)], .nil, .nil, .nil]], [], [], ⟨[], [], trodAll_mk1 ⟨8, by kernel_rfl⟩, rfl, rfl, (fun b o h => by cases h), (fun h => by cases h)⟩, by kernel_rfl, of_decide_eq_true (by kernel_rfl)⟩
theorem witness (os : Os) : ∃ (w : World) (tape : Tape) (i : Input), w.os = os /\ (w.forCall tape i).Shaped Try.prog /\ i.vars = [] /\ Input.okWide Try.prog (w.forCall tape i) .any w.heap.size 7 i /\
    (∀ {H : Type} (enc : TypeId × Value -> H), Rows.dequeOnceUptoRow.pre enc Try.prog Try.f7 (Rows.OpenSpec.upto Rows.dequeOnceSpec) (w.forCall tape i).memory i.args) /\ ({ calm := true } : Assume).holds Try.prog (lone (Frame.enter Try.prog 7 i.args .normal) [] (w.forCall tape i)) := by
  let i : Input := ⟨#[], #[.agg #[.int .i64 0, .int .i64 0, .int .i64 0, .slice none 0 0, .slice none 0 0, .slice none 0 0]], []⟩
  have hok : Input.okWideB Try.prog (World.plainHolding Try.prog os i) 7 ⟨#[], i.args, []⟩ = true := by kernel_rfl
  refine ⟨World.holding Try.prog os i, fun _ _ => 0, ⟨#[], i.args, []⟩, rfl, World.shaped_of_B (by kernel_rfl) (by kernel_rfl), (Input.okWide_of_okWideB (base := 0) hok).1, (Input.okWide_of_okWideB hok).2, fun {H} enc => ⟨small_pre enc _, ?_⟩, ?_⟩
  · exact sizedMet_of_sizedB (s := Rows.dequeOnceSpec) (fuel := 8) (by kernel_rfl)
  · simp only [Assume.holds]
    exact ⟨by simp, fun _ _ _ _ => rfl, by simp, by simp, by simp⟩
set_option maxRecDepth 100000 in
theorem upto : Rows.DequeOnceUptoSaid := by
  have h0 : OpenClaim.holds Try.pinned (OpenSpec.ofChange Rows.dequeOnceSpec) Rows.dequeOnceRow := proved
  obtain ⟨_, h2, h3, h4, h5, h6, h7, h8, f, fn, h9, h10, h11, h12, h13, h14, h15, h16, h17, h18, h19, h20, h21, h22, h23, h24, h25, h26, h27, h28, h29, L, h30, run⟩ := h0
  obtain rfl : f = 7 := Option.some.inj (h9.symm.trans (by kernel_rfl))
  obtain rfl : fn = Try.f7 := Option.some.inj (h10.symm.trans Try.func7)
  refine ⟨by kernel_rfl, h2, h3, h4, h5, h6, h7, h8, _, _, h9, h10, h11, h12, h13, h14, h15, h16, h17, h18, h19, h20, h21, h22, h23, h24, h25, h26, by rfl, h28, h29, L, h30, fun os st qu H enc inj => ?_⟩
  have r := run os st qu H enc inj
  have r' : ∀ F : Stop.Interp, ReturnsInOpen Rows.dequeOnceRow.assume none Try.checked os 7 .any Rows.dequeOnceRow.okInput (Rows.dequeOnceRow.pre enc Try.prog Try.f7 (OpenSpec.ofChange Rows.dequeOnceSpec)) (fun w args v w' => (OpenSpec.ofChange Rows.dequeOnceSpec).post enc Try.prog Try.f7 F Rows.dequeOnceRow.outside Rows.dequeOnceRow.apart Rows.dequeOnceRow.fresh Rows.dequeOnceRow.handsOn Rows.dequeOnceRow.again w args v w' /\ Rows.dequeOnceRow.nothingLetGo w w') (Rows.dequeOnceRow.atReturn Try.prog) (Rows.dequeOnceRow.always Try.prog L) := r
  show ∀ F : Stop.Interp, ReturnsInOpen Rows.dequeOnceUptoRow.assume none Try.checked os 7 .any Rows.dequeOnceUptoRow.okInput (Rows.dequeOnceUptoRow.pre enc Try.prog Try.f7 (Rows.OpenSpec.upto Rows.dequeOnceSpec)) (fun w args v w' => (Rows.OpenSpec.upto Rows.dequeOnceSpec).post enc Try.prog Try.f7 F Rows.dequeOnceUptoRow.outside Rows.dequeOnceUptoRow.apart Rows.dequeOnceUptoRow.fresh Rows.dequeOnceUptoRow.handsOn Rows.dequeOnceUptoRow.again w args v w' /\ Rows.dequeOnceUptoRow.nothingLetGo w w') (Rows.dequeOnceUptoRow.atReturn Try.prog) (Rows.dequeOnceUptoRow.always Try.prog L)
  intro F
  obtain ⟨e1, e2, e3, -, all⟩ := r' F
  refine ⟨e1, e2, e3, ?_, fun w tape i h => ?_⟩
  · obtain ⟨w, tape, i, z1, z2, z3, z4, z5, z6⟩ := witness os
    exact ⟨w, tape, i, z1, z2, z3, z4, z5 enc, z6, trivial⟩
  · obtain ⟨z1, z2, z3, z4, ⟨⟨ds, gs, before, y1, y2, -⟩, y4⟩, z6, z7⟩ := h
    exact all w tape i ⟨z1, z2, z3, z4, ⟨⟨ds, gs, before, y1, y2⟩, y4⟩, z6, z7⟩
#print axioms upto
end Go.Proofs.Ytcpcdnkemobneaa.dequeOnce
