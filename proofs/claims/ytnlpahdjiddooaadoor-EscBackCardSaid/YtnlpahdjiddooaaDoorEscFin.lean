/- The bytes between quotes: no one begins with another. -/
import Derived.Test.YtnlpahdjiddooaaDoorEscPut
namespace Go.Proofs.YtnlpahdjiddooaaDoor
open Go.RowKit Go.PlainAid
set_option linter.unusedVariables false

theorem code_fin : ∀ b : Fin 256, ((chL b.val).length = 1 ∧ chL b.val = [cu8 b.val] ∧ 32 ≤ b.val ∧ b.val ≤ 126 ∧ b.val ≠ 34 ∧ b.val ≠ 92) ∨ ((chL b.val).length = 2 ∧ ∃ i : Fin 5, b.val = T1 i.val) ∨ ((chL b.val).length = 4 ∧ chL b.val = [92, 120, hexd (b.val / 16), hexd (b.val % 16)]) := by decide +kernel
theorem code_cases (b : Nat) (h : b < 256) : ((chL b).length = 1 ∧ chL b = [cu8 b] ∧ 32 ≤ b ∧ b ≤ 126 ∧ b ≠ 34 ∧ b ≠ 92) ∨ ((chL b).length = 2 ∧ ∃ i : Fin 5, b = T1 i.val) ∨ ((chL b).length = 4 ∧ chL b = [92, 120, hexd (b / 16), hexd (b % 16)]) := code_fin ⟨b, h⟩
theorem head_fin : ∀ b : Fin 256, (chL b.val).head? ≠ some 34 ∧ chL b.val ≠ [92] := by decide +kernel
theorem free_fin : ∀ a b : Fin 256, (chL a.val).isPrefixOf (chL b.val) = true → a = b := by decide +kernel
end Go.Proofs.YtnlpahdjiddooaaDoor
