/- The bound of the second form of a statement: what it says of each argument. -/
import Derived.Test.YtmbjihjcblklmaaRows
import Derived.Test.YtmbjihjcblklmaaOpen
namespace Go.Proofs.Ytmbjihjcblklmaa
section
variable {H : Type}
theorem bulk_pos (d : DataW H) : 1 ≤ Rows.uptoBulk d := by
  cases d with
  | lit x => cases x <;> simp [Rows.uptoBulk]
  | _ => simp [Rows.uptoBulk]
theorem bulk_len : ∀ ds : List (DataW H), ds.length ≤ Rows.uptoBulkAll ds
  | [] => by simp
  | d :: r => by
    have h1 := bulk_pos d
    have h2 := bulk_len r
    simp only [Rows.uptoBulkAll, List.length_cons]
    omega
theorem bulk_part : ∀ {ds : List (DataW H)} {j : Nat} {d : DataW H}, ds[j]? = some d → Rows.uptoBulk d ≤ Rows.uptoBulkAll ds
  | [], _, _, h => by simp at h
  | x :: r, 0, d, h => by
    simp at h
    subst h
    simp only [Rows.uptoBulkAll]
    omega
  | x :: r, j + 1, d, h => by
    have := bulk_part (ds := r) (j := j) (d := d) (by simpa using h)
    simp only [Rows.uptoBulkAll]
    omega
theorem bulk_of {ds : List (DataW H)} (h : Rows.uptoSmall H ds = true) : Rows.uptoBulkAll ds ≤ 1048576 := of_decide_eq_true h
theorem bulk_slice {ds : List (DataW H)} {j : Nat} {d : DataW H} {len : Nat} (h : Rows.uptoSmall H ds = true) (hd : ds[j]? = some d) (hc : (d = .nil ∧ len = 0) ∨ ∃ x y, d = .slice x y ∧ len ≤ x.length) : len ≤ 1048576 := by
  have h1 := bulk_of h
  have h2 := bulk_part hd
  rcases hc with ⟨_, rfl⟩ | ⟨x, y, rfl, hl⟩
  · omega
  · have h3 := bulk_len x
    simp only [Rows.uptoBulk] at h2
    omega
theorem bulk_string {ds : List (DataW H)} {j : Nat} {b : List UInt8} (h : Rows.uptoSmall H ds = true) (hd : ds[j]? = some (.lit (.string b))) : b.length ≤ 1048576 := by
  have h1 := bulk_of h
  have h2 := bulk_part hd
  simp only [Rows.uptoBulk] at h2
  omega
end
end Go.Proofs.Ytmbjihjcblklmaa
