/- What several texts name. No condition. -/
import Derived.Test.YtkppboglffdmnaaCell
import Derived.Test.YtkppboglffdmnaaTjC
namespace Go.Proofs.Ytkppboglffdmnaa
open Go Go.TJ Go.Proofs
abbrev ptr (b : Nat) : Value := .pointer (some ⟨b, 0, none⟩)
abbrev nilS : Value := .slice none 0 0
instance : Mixed Try.prog := ⟨by kernel_rfl⟩
end Go.Proofs.Ytkppboglffdmnaa
