/- Own theory: what a law's row asks of the world behind the call. No condition. -/
import Derived.Test.YtkppboglffdmnaaTjQ
import Derived.Test.YtkppboglffdmnaaTjLone
import Derived.RowKit3
import Derived.Below
namespace Go.TJ
open Go Go.Conc
variable {Γ : Type}

theorem grown {S : Addr → Prop} {w w' : World} (s : Same w w') (p : HpOk S w.heap w'.heap) (u : Upd (fun _ => False) w.heap w'.heap) : Go.RowKit.Grown w w' := by
  refine ⟨⟨s.os, s.output, fun i hi => ?_⟩, fun a => p.froz a, u.size⟩
  have e := u.same i hi (fun x => x)
  rw [e]
  cases w.heap[i]? with
  | none => rfl
  | some o =>
    cases o <;> first | exact ⟨rfl, rfl, rfl, fun _ _ => rfl⟩ | exact .inr ⟨rfl, rfl⟩ | rfl

/-- A law's walk, in the words of the row. -/
theorem law_calls {P : Program} {f : FuncId} {args : Array Value} {w : World} {v : Value} (hc : CallW P true NoS f args w.heap I0 (Ret fun r h' δ' => r = v ∧ Upd (fun _ => False) w.heap h' ∧ δ' = I0)) :
    Calls P f args w fun e w' => e = .returned v ∧ Go.RowKit.Grown w w' := by
  refine (calls_of_callW (fun _ _ _ _ x => x) (R := fun r h' => r = v ∧ Upd (fun _ => False) w.heap h') (hc.mono ?_)).mono fun e w' he => ?_
  · rintro (r | p) h' δ' hq
    · exact ⟨hq.1, hq.2.1⟩
    · exact hq.elim
  · obtain ⟨r, rfl, hs, hp, rfl, hu⟩ := he
    exact ⟨rfl, grown hs hp hu⟩

/-- ... and in those of a row whose arguments lie in memory. -/
theorem law_below {P : Program} {f : FuncId} {args : Array Value} {w : World} {v : Value} (hc : CallW P true NoS f args w.heap I0 (Ret fun r h' δ' => r = v ∧ Upd (fun _ => False) w.heap h' ∧ δ' = I0)) :
    Calls P f args w fun e w' => e = .returned v ∧ Go.RowKit.Below w.heap.size w w' := by
  refine (calls_of_callW (fun _ _ _ _ x => x) (R := fun r h' => r = v ∧ Upd (fun _ => False) w.heap h') (hc.mono ?_)).mono fun e w' he => ?_
  · rintro (r | p) h' δ' hq
    · exact ⟨hq.1, hq.2.1⟩
    · exact hq.elim
  · obtain ⟨r, rfl, hs, hp, rfl, hu⟩ := he
    exact ⟨rfl, ⟨hs.os, hs.tape, hs.output, hu.size, fun k hk => hu.same k hk (fun x => x)⟩⟩
end Go.TJ
