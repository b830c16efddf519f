/-
  The bulk of a reading bounds its tree's size.
-/
import Derived.Test.YtlbmedmddoljnaaDoorRows
import Derived.Test.YtlbmedmddoljnaaDoorMuT
set_option linter.unusedVariables false
namespace Go.Mu
open Go
variable {H : Type}
theorem bulk_pos (d : DataW H) : 1 ≤ Go.Proofs.YtlbmedmddoljnaaDoor.Rows.uptoBulk d := by
  cases d with
  | lit x => cases x <;> simp [Go.Proofs.YtlbmedmddoljnaaDoor.Rows.uptoBulk]
  | _ => simp [Go.Proofs.YtlbmedmddoljnaaDoor.Rows.uptoBulk]
mutual
theorem size_bulk : ∀ d : DataW H, (tOf d).size ≤ Go.Proofs.YtlbmedmddoljnaaDoor.Rows.uptoBulk d
  | .lit (.bool _) => by simp [tOf, T.size, Go.Proofs.YtlbmedmddoljnaaDoor.Rows.uptoBulk]
  | .lit (.int _ _) => by simp [tOf, T.size, Go.Proofs.YtlbmedmddoljnaaDoor.Rows.uptoBulk]
  | .lit (.string _) => by simp [tOf, T.size, Go.Proofs.YtlbmedmddoljnaaDoor.Rows.uptoBulk]
  | .lit (.float _ _) => by simp [tOf, T.size, T.sizes, Go.Proofs.YtlbmedmddoljnaaDoor.Rows.uptoBulk]
  | .lit .nil => by simp [tOf, T.size, T.sizes, Go.Proofs.YtlbmedmddoljnaaDoor.Rows.uptoBulk]
  | .nil => by simp [tOf, T.size, T.sizes, Go.Proofs.YtlbmedmddoljnaaDoor.Rows.uptoBulk]
  | .ptr d => by simp [tOf, T.size, T.sizes, Go.Proofs.YtlbmedmddoljnaaDoor.Rows.uptoBulk]
  | .slice es sp => by
    have := size_bulks es
    simp only [tOf, T.size, Go.Proofs.YtlbmedmddoljnaaDoor.Rows.uptoBulk]
    omega
  | .agg ps => by
    have := size_bulks ps
    simp only [tOf, T.size, Go.Proofs.YtlbmedmddoljnaaDoor.Rows.uptoBulk]
    omega
  | .iface _ d => by simp [tOf, T.size, T.sizes, Go.Proofs.YtlbmedmddoljnaaDoor.Rows.uptoBulk]
  | .map _ => by simp [tOf, T.size, T.sizes, Go.Proofs.YtlbmedmddoljnaaDoor.Rows.uptoBulk]
  | .held _ => by simp [tOf, T.size, T.sizes, Go.Proofs.YtlbmedmddoljnaaDoor.Rows.uptoBulk]
theorem size_bulks : ∀ ds : List (DataW H), T.sizes (tOfs ds) ≤ Go.Proofs.YtlbmedmddoljnaaDoor.Rows.uptoBulkAll ds
  | [] => by simp [tOfs, T.sizes, Go.Proofs.YtlbmedmddoljnaaDoor.Rows.uptoBulkAll]
  | d :: ds => by
    have := size_bulk d
    have := size_bulks ds
    simp only [tOfs, T.sizes, Go.Proofs.YtlbmedmddoljnaaDoor.Rows.uptoBulkAll]
    omega
end
theorem small_size {ds : List (DataW H)} (h : Go.Proofs.YtlbmedmddoljnaaDoor.Rows.uptoSmall H ds = true) : T.sizes (tOfs ds) ≤ 1048576 := by
  unfold Go.Proofs.YtlbmedmddoljnaaDoor.Rows.uptoSmall at h
  have := size_bulks ds
  have := of_decide_eq_true h
  omega
end Go.Mu
