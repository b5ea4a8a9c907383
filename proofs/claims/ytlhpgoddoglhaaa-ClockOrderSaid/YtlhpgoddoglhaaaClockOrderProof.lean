/- The law ClockOrder is true for every input. No condition. -/
import Derived.Test.YtlhpgoddoglhaaaRows
import Derived.Test.YtlhpgoddoglhaaaOrderD
import Derived.Test.YtlhpgoddoglhaaaTjG
import Derived.WalkKit
import Derived.ProofKit
import Derived.OpenShut
import Derived.ChangeOld
import Derived.Carry
import Derived.Deep.SlicePairs
namespace Go.Proofs.Ytlhpgoddoglhaaa.clockOrder
open Go.ChangeShapes Go.WideShapes Go.ChangeAt Go.RowKit Go.TJ

theorem own : ownKnob Try.prog.godebug = none := by kernel_rfl
theorem laidOut : laidOutB Try.prog = true := by kernel_rfl

/-- A cell that is there has no spot. -/
theorem add_plain {w : World} {a : Addr} {v : Value} (h : w.cell? (a.add 0) = some v) : a = ⟨a.block, a.off, none⟩ := by
  rcases a with ⟨b, o, s⟩
  rcases s with _ | s
  · rfl
  · exfalso
    have h' : hcell w.heap ⟨b, o, some s⟩ = some v := h
    obtain ⟨c, e, f, _, hs, _⟩ := hcell_some h'
    cases hs

/-- What the walk is told of the arguments. -/
theorem ins_of {w : World} {A A' : Option Addr} {n0 k0 capL capS : Nat}
    (hL : n0 ≤ capL ∧ (n0 = 0 ∨ ∃ a, A = some a ∧ ∃ f : Nat → Int × Int, ∀ i, i < n0 → w.cell? (a.add (i * 2)) = some (.int .i64 (f i).1) ∧ w.cell? (a.add (i * 2 + 1)) = some (.int .i64 (f i).2)))
    (hS : k0 ≤ capS ∧ (k0 = 0 ∨ ∃ a, A' = some a ∧ ∃ f : Nat → Int, ∀ i, i < k0 → w.cell? (a.add i) = some (.int .i64 (f i)))) :
    ∃ bL oL bS oS At Stp St, Ins w.heap A A' bL oL bS oS n0 k0 capL capS At Stp St := by
  obtain ⟨hcl, hL⟩ := hL
  obtain ⟨hcs, hS⟩ := hS
  obtain ⟨bL, oL, At, Stp, h1⟩ : ∃ (bL oL : Nat) (At Stp : Nat → Int), ∀ i, i < n0 → A = some ⟨bL, oL, none⟩ ∧ hcell w.heap ⟨bL, oL + i * 2, none⟩ = some (.int .i64 (At i)) ∧ hcell w.heap ⟨bL, oL + i * 2 + 1, none⟩ = some (.int .i64 (Stp i)) := by
    rcases hL with h0 | ⟨a, rfl, f, hf⟩
    · exact ⟨0, 0, fun _ => 0, fun _ => 0, fun i hi => by omega⟩
    · refine ⟨a.block, a.off, fun i => (f i).1, fun i => (f i).2, fun i hi => ?_⟩
      have e := add_plain (hf 0 (by omega)).1
      obtain ⟨g1, g2⟩ := hf i hi
      rw [e, add_eq] at g1 g2
      exact ⟨by rw [← e], g1, g2⟩
  obtain ⟨bS, oS, St, h2⟩ : ∃ (bS oS : Nat) (St : Nat → Int), ∀ i, i < k0 → A' = some ⟨bS, oS, none⟩ ∧ hcell w.heap ⟨bS, oS + i * 1, none⟩ = some (.int .i64 (St i)) := by
    rcases hS with h0 | ⟨a, rfl, f, hf⟩
    · exact ⟨0, 0, fun _ => 0, fun i hi => by omega⟩
    · refine ⟨a.block, a.off, f, fun i hi => ?_⟩
      have e := add_plain (hf 0 (by omega))
      have g1 := hf i hi
      rw [e, add_eq] at g1
      exact ⟨by rw [← e], by rw [Nat.mul_one]; exact g1⟩
  exact ⟨bL, oL, bS, oS, At, Stp, St, ⟨fun i hi => (h1 i hi).1, fun i hi => (h2 i hi).1, fun i hi => (h1 i hi).2.1, fun i hi => (h1 i hi).2.2, fun i hi => (h2 i hi).2, hcl, hcs⟩⟩

set_option maxRecDepth 100000 in
theorem lifted (os : Os) (started : os.Started) (H : Type) (enc : TypeId × Value → H) :
    ReturnsInHanded {} Try.checked os 4 .any (Rows.clockOrderSpec.pre6 enc Try.prog Try.f4 Rows.clockOrderRow.domain false) (Rows.clockOrderSpec.post enc Try.prog Try.f4 false true false false) := by
  refine returnsInHanded_of_change (C := Try.checked) own started (by kernel_rfl) Try.func4
    (ChangeSpec.witness6 (enc := enc) (C := Try.checked) false ⟨#[], #[.slice none 0 0, .slice none 0 0], []⟩ 8 (by kernel_rfl) (by kernel_rfl) (by kernel_rfl) (by kernel_rfl)) ?_
  intro W base args ds gs before hval0 hW hcnd _
  have hval : ∀ (j : Nat) t v, Try.f4.params[j]? = some t → args[j]? = some v → Value.okWide Try.prog W .any base t v := hval0
  have hW' := hW
  obtain ⟨p, q, hA0, hV, rfl, hfz, hnd⟩ := hW
  have hA : DataW.TrodAll enc Try.prog W 0 (fun _ => true) true Try.f4.params.toList args.toList ds p := hA0
  rw [Try.params4] at hA hval
  obtain ⟨v0, vs0, d0, ds0, p0, q0, hargs, rfl, rfl, h0, r0⟩ := trodAll_cons hA
  obtain ⟨v1, vs1, d1, ds1, p1, q1, rfl, rfl, rfl, h1, r1⟩ := trodAll_cons r0
  obtain ⟨rfl, rfl, rfl⟩ := trodAll_nil r1
  obtain rfl : args = #[v0, v1] := by cases args; simp_all
  obtain ⟨rfl, rfl⟩ := trodVars_none hV
  obtain ⟨a0, len0, cap0, rfl⟩ := okWide_slice Try.underlying43 (hval 0 43 v0 rfl rfl)
  have k0 := h0
  have lt0 : ∀ x ∈ p0, x.block < W.heap.size := by obtain ⟨m, hm⟩ := k0; exact DataW.trod_lt m _ _ _ hm
  have g0 : len0 ≤ cap0 ∧ (len0 = 0 ∨ ∃ a, a0 = some a ∧ ∃ f : Nat → Int × Int, ∀ i, i < len0 → W.cell? (a.add (i * 2)) = some (.int .i64 (f i).1) ∧ W.cell? (a.add (i * 2 + 1)) = some (.int .i64 (f i).2)) := by
    obtain ⟨fuel, hf⟩ := h0
    rcases Go.Deep.open_slice_pairs Try.underlying43 Try.underlying49 (by kernel_rfl) rfl rfl (by kernel_rfl) (by kernel_rfl) hf with ⟨hcs, _⟩ | ⟨a, l, c, m, n, V0, V1, D0, D1, P0, P1, hcs, _, hl, hm, hmm, _, hx⟩
    · simp [Value.cells] at hcs
      obtain ⟨rfl, rfl, rfl⟩ := hcs
      exact ⟨Nat.le_refl _, .inl rfl⟩
    · simp [Value.cells] at hcs
      obtain ⟨rfl, rfl, rfl⟩ := hcs
      refine ⟨hl, .inr ⟨a, rfl, ?_⟩⟩
      have hlm : len0 ≤ m := by rw [hmm]; split <;> omega
      exact Go.Deep.choose_lt (n := len0) (p := fun i (x : Int × Int) => W.cell? (a.add (i * 2)) = some (.int .i64 x.1) ∧ W.cell? (a.add (i * 2 + 1)) = some (.int .i64 x.2)) (fun i hi => by
        obtain ⟨c0, c1, t0, t1⟩ := hx i (by omega)
        obtain ⟨z0, e0, _, _⟩ := DataW.trod_int Try.underlying2 t0
        obtain ⟨z1, e1, _, _⟩ := DataW.trod_int Try.underlying3 t1
        simp at e0 e1
        exact ⟨(z0, z1), by rw [c0, e0], by rw [c1, e1]⟩)
  obtain ⟨a1, len1, cap1, rfl⟩ := okWide_slice Try.underlying44 (hval 1 44 v1 rfl rfl)
  have k1 := h1
  have lt1 : ∀ x ∈ p1, x.block < W.heap.size := by obtain ⟨m, hm⟩ := k1; exact DataW.trod_lt m _ _ _ hm
  have g1 : len1 ≤ cap1 ∧ (len1 = 0 ∨ ∃ a, a1 = some a ∧ ∃ f : Nat → Int, ∀ i, i < len1 → W.cell? (a.add i) = some (.int .i64 (f i))) := by
    obtain ⟨fuel, hf⟩ := h1
    rcases open_ints Try.underlying44 Try.underlying2 (by kernel_rfl) hf with ⟨hcs, _⟩ | ⟨x, l, c, zs, hcs, _, hl, hm, hz, _, hcell, hwz⟩
    · simp [Value.cells] at hcs
      obtain ⟨rfl, rfl, rfl⟩ := hcs
      exact ⟨Nat.le_refl _, .inl rfl⟩
    · simp [Value.cells] at hcs
      obtain ⟨rfl, rfl, rfl⟩ := hcs
      have hz' : zs.length = cap1 := by simpa using hz
      exact ⟨hl, .inr ⟨x, rfl, fun i => zs.getD i 0, fun i hi => hcell i (by omega)⟩⟩
  clear hA0 hval0
  obtain ⟨bL, oL, bS, oS, At, Stp, St, X⟩ := ins_of g0 g1
  refine (Go.TJ.law_below (w := W) (v := .bool true) (clockorder_ok X)).mono fun e W' ⟨he, bel⟩ => ?_
  subst he
  exact ⟨_, rfl, _, _, _, [], _, [], hW', trodAll_mk1 (shut_bool Try.underlying4 _), (trodAll_cons_mk (Below.trod laidOut (by kernel_rfl) (of_decide_eq_true (by kernel_rfl)) k0 bel lt0) (trodAll_cons_mk (Below.trod laidOut (by kernel_rfl) (of_decide_eq_true (by kernel_rfl)) k1 bel lt1) trodAll_mk0)), rfl, bel.frame _, fun h => by cases h⟩

/-- The statement. -/
theorem proved : Rows.ClockOrderSaid :=
  OpenClaim.holds_of_wide 4 Try.f4 rfl rfl rfl rfl rfl rfl rfl ⟨rfl, rfl, rfl, rfl, rfl⟩ rfl rfl rfl rfl rfl (by kernel_rfl) Try.func4 (by kernel_rfl)
    (of_decide_eq_true (by kernel_rfl)) (by unfold Func.isWrapper; first | (rw [if_pos (by decide +kernel)]; kernel_rfl) | (rw [if_neg (by decide +kernel)]; exact ⟨rfl, rfl⟩))
    (fun os started H enc _ => lifted os started H enc)
#print axioms proved
end Go.Proofs.Ytlhpgoddoglhaaa.clockOrder
