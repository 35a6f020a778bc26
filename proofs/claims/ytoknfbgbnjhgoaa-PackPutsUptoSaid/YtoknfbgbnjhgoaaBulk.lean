/- What the bulk of a slice says of its length. -/
import Derived.Test.YtoknfbgbnjhgoaaRows
import Derived.Test.YtoknfbgbnjhgoaaOpenB
namespace Go.Proofs.Ytoknfbgbnjhgoaa
set_option linter.unusedVariables false

theorem bulk_pos {H : Type} (d : DataW H) : 1 ≤ Rows.uptoBulk d := by
  cases d with
  | lit l => cases l <;> simp [Rows.uptoBulk]
  | nil => simp [Rows.uptoBulk]
  | ptr d => simp [Rows.uptoBulk]
  | slice elems spare => simp [Rows.uptoBulk]
  | agg parts => simp [Rows.uptoBulk]
  | iface t d => simp [Rows.uptoBulk]
  | map entries => simp [Rows.uptoBulk]
  | held h => simp [Rows.uptoBulk]
theorem bulk_all {H : Type} : ∀ l : List (DataW H), l.length ≤ Rows.uptoBulkAll l
  | [] => by simp [Rows.uptoBulkAll]
  | x :: r => by
    have h1 := bulk_pos x
    have h2 := bulk_all r
    simp only [Rows.uptoBulkAll, List.length_cons]
    omega
theorem bulk_slice {H : Type} {d : DataW H} {n c : Nat} (h : SliceD d n c) : c + 1 ≤ Rows.uptoBulk d := by
  rcases h with ⟨rfl, rfl, rfl⟩ | ⟨es, sp, rfl, h1, h2⟩
  · simp [Rows.uptoBulk]
  · have h3 := bulk_all es
    have h4 := bulk_all sp
    simp only [Rows.uptoBulk]
    omega
end Go.Proofs.Ytoknfbgbnjhgoaa
