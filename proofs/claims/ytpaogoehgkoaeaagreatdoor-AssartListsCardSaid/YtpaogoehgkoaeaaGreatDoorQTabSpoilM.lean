/- Layer 14 (table): spoiled bytes are no table; what a table's cells answer, in plain words. No step of a program is taken here. -/
import Derived.Test.YtpaogoehgkoaeaaGreatDoorQTabPlain
import Derived.Test.YtpaogoehgkoaeaaGreatDoorQBunB3
namespace Go.Proofs.YtpaogoehgkoaeaaGreatDoor
set_option linter.unusedVariables false
set_option linter.unusedSimpArgs false
open Go.RowKit Tab
/- the document's Open -/
/- what cells answer -/
theorem ranks_filter (v : Vr) : ∀ {l : List Ci}, l.Pairwise AscI → l.take (rankI v l) = l.filter (fun c => vless c.vr v) ∧ l.drop (rankI v l) = l.filter (fun c => !vless c.vr v)
  | [], _ => ⟨rfl, rfl⟩
  | c :: l, h => by
    have h1 := ranks_filter v (List.pairwise_cons.1 h).2
    cases hb : vless c.vr v with
    | true =>
      rw [rankI, if_pos hb, List.take_succ_cons, List.drop_succ_cons, h1.1, h1.2]
      exact ⟨by simp [hb], by simp [hb]⟩
    | false =>
      have hn : ∀ x ∈ l, vless x.vr v = false := fun x hx => by
        rw [Bool.eq_false_iff]
        intro hx2
        have := vless_trans ((List.pairwise_cons.1 h).1 x hx) hx2
        rw [hb] at this; cases this
      rw [rankI, if_neg (by rw [hb]; decide), List.take_zero, List.drop_zero]
      refine ⟨?_, ?_⟩
      · exact (List.filter_eq_nil_iff.2 fun x hx => by rcases List.mem_cons.1 hx with rfl | hx <;> simp [*]).symm
      · exact (List.filter_eq_self.2 fun x hx => by rcases List.mem_cons.1 hx with rfl | hx <;> simp [*]).symm
end Go.Proofs.YtpaogoehgkoaeaaGreatDoor
