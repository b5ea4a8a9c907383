/- Which rooms there are: powers of two. No condition. -/
import Derived.Test.YtkppboglffdmnaaBase
namespace Go.Proofs.Ytkppboglffdmnaa
open Go Go.TJ Go.Proofs

theorem pows_all : ((List.range 4097).all fun m => decide (m < 2) || !decide (bits .and .i64 (m : Int) ((m : Int) - 1) = 0) || [1, 2, 3, 4, 5, 6, 7, 8, 9, 10, 11, 12].any (fun e => m == 2 ^ e)) = true := by decide +kernel

/-- A room that may be is a power of two. -/
theorem pow_of_bits {x : Int} (h2 : 2 ≤ x) (h1 : x ≤ 4096) (hb : bits .and .i64 x (x - 1) = 0) : ∃ e : Nat, 1 ≤ e ∧ e ≤ 12 ∧ x = ((2 ^ e : Nat) : Int) := by
  obtain ⟨m, rfl⟩ : ∃ m : Nat, x = m := ⟨x.toNat, by omega⟩
  have := List.all_eq_true.1 pows_all m (List.mem_range.2 (by omega))
  have hm : ¬ m < 2 := by omega
  simp only [hb, hm, decide_false, decide_true, Bool.not_true, Bool.false_or, List.any_eq_true, beq_iff_eq] at this
  obtain ⟨e, he, rfl⟩ := this
  exact ⟨e, by simp at he; omega, by simp at he; omega, rfl⟩

end Go.Proofs.Ytkppboglffdmnaa
