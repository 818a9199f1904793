/- Layer 13 (block): bytes.Clone, Open. -/
import Derived.Test.YtnbinodhdgnjlaaBlockSame
import Derived.Lib.SliceRun
namespace Go.Proofs.Ytnbinodhdgnjlaa
set_option linter.unusedVariables false
set_option linter.unusedSimpArgs false
open Go.RowKit Bk
set_option maxRecDepth 100000 in
theorem clone_any (ad : Option Addr) (n cap : Nat) (l : List UInt8) (w : World) (hn : n = l.length) (h1 : 1 ≤ l.length) (hl : l.length ≤ 1000000000) (hb : Bytes w ad l) :
    Calls Try.prog 43 #[.slice ad n cap] w fun e w' => ∃ ad' cap', e = .returned (.slice ad' n cap') ∧ Owns w' w.heap.size 5 1 ad' cap' n (bv l) ∧ Gr w w' := by
  subst hn
  obtain ⟨a, rfl⟩ : ∃ a, ad = some a := by
    obtain ⟨b, off, e, _⟩ := hb 0 (by omega)
    exact ⟨_, e⟩
  have HB := Lib.hid hb
  have HE := fun w' => Lib.run_eql_slice_nil (P := Try.prog) w' 26 5 (some a) l.length cap 0 0 Try.underlying26
  clear hb
  go_enter Try.func43, Try.ntmps43
  go_wp2_with (first
    | (at_builtin; refine wp_append elemB rfl _ _ rfl rfl (Owns.void w w.heap.size 5 1 (Nat.le_refl _)) rfl (Src.bytes (HB.out.gr (Gr.alloc _ _)) rfl Try.underlying26) (by unfold maxLen; omega) (by omega) (by simp) ?_; intro ad7 c7 w7 o7 k7 f7)
    | fail)
  go_ret
  refine ⟨ad7, c7, by simp, ?_, (Gr.alloc _ _).grown k7 (fun g h => by cases h; exact Nat.le_refl _)⟩
  simpa using o7
set_option maxRecDepth 100000 in
theorem parts_at (ad : Option Addr) (n cap : Nat) (b : List UInt8) (w : World) (d : List UInt8) (itv c : Nat) (hp : partsF b = some (d, itv, c)) (hn : n = b.length) (hl : b.length ≤ 1000000000) (hc : b.length ≤ cap) (hm : cap ≤ maxLen) (hb : Bytes w ad b) :
    Calls Try.prog 34 #[.slice ad n cap] w fun x w' => Gr w w' ∧ ∃ b1 o1 ad2 c1 c2, x = .returned (.tuple #[.slice (some ⟨b1, o1, .none⟩) d.length c1, .slice ad2 (4 * ((c + itv - 1) / itv)) c2, .int .i64 (itv : Int), .int .i64 (c : Int), .bool true]) ∧ b1 < w'.heap.size ∧ d.length < c1 ∧ c1 ≤ cap ∧ 4 * ((c + itv - 1) / itv) ≤ c2 ∧ c2 ≤ cap ∧ d.length ≤ b.length ∧ Bytes w' (some ⟨b1, o1, .none⟩) d ∧ Bytes w' ad2 (placesB b itv c) ∧ (placesB b itv c).length = 4 * ((c + itv - 1) / itv) ∧ ad.map (·.block) = some b1 ∧ ∀ x, ad2 = some x → ad.map (·.block) = some x.block := by
  subst hn
  have h := parts_any ad cap b w hl hc hm hb
  unfold RetParts at h
  simp only [hp] at h
  exact h
theorem parts_six {b d : List UInt8} {itv c : Nat} (h : partsF b = some (d, itv, c)) : 6 ≤ b.length := by
  unfold partsF at h
  split at h
  · cases h
  · omega
/-- the look's seven cells -/
def KB (w : World) (g base : Nat) (d pl : List UInt8) (itv c : Nat) (A R : Int) (ps : List Pr) : Prop := ∃ bd od c1 ad2 c2 ad cap, Blk w g 75 [.slice (some ⟨bd, od, none⟩) d.length c1, .slice ad2 pl.length c2, .int .i64 (itv : Int), .int .i64 (c : Int), .int .i64 A, .int .i64 R, .slice ad ps.length cap] ∧
  base ≤ bd ∧ bd < w.heap.size ∧ bd ≠ g ∧ (∀ x, ad2 = some x → x.block = bd) ∧ d.length < c1 ∧ c1 ≤ maxLen ∧ pl.length ≤ c2 ∧ c2 ≤ maxLen ∧ Bytes w (some ⟨bd, od, none⟩) d ∧ Bytes w ad2 pl ∧ Owns w base 31 2 ad cap ps.length (pv ps) ∧ (∀ x, ad = some x → x.block ≠ g)
set_option maxRecDepth 100000 in
set_option maxHeartbeats 4000000 in
theorem Open_ok (ad : Option Addr) (cap : Nat) (b : List UInt8) (w : World) (P : List Pr) (d : List UInt8) (itv c : Nat) (hP : pairsF b = (P, 0)) (hp : partsF b = some (d, itv, c)) (hl : b.length ≤ 1000000000) (hc : b.length ≤ cap) (hm : cap ≤ maxLen) (hb : Bytes w ad b) :
    Calls Try.prog 16 #[.slice ad b.length cap] w fun x w' => ∃ g, x = .returned (.tuple #[.pointer (some ⟨g, 0, none⟩), .int .i64 0]) ∧ w.heap.size ≤ g ∧ Gr w w' ∧ KB w' g w.heap.size d (placesB b itv c) itv c (-1) (-1) [] := by
  have HP := Lib.hid (Pairs_at ad b.length cap b w P 0 rfl hP hl hc hm hb)
  have HPT := Lib.hid (fun ad n cap w => parts_at ad n cap b w d itv c hp)
  have HB := Lib.hid hb
  have h6 := parts_six hp
  clear hb hP hp
  go_enter Try.func16, Try.ntmps16
  go_wp2_with (first
    | (go_at_call 12; refine HP.out.mono ?_; rintro e w1 ⟨adP, cpP, rfl, oP, g1⟩)
    | (go_at_call 43; refine (clone_any _ _ _ b _ rfl (by omega) hl (HB.out.gr g1)).mono ?_; rintro e w2 ⟨ad2, cp2, rfl, o2, g2⟩)
    | (go_at_call 34; refine (HPT.out _ _ _ _ rfl hl o2.2.1 o2.2.2.1 o2.bytes).mono ?_; rintro e w3 ⟨g3, b1, o1, ad3, c1, c2, rfl, q1, q2, q3, q4, q5, q6, q7, q8, q9, q10, q11⟩)
    | fail)
  go_ret2
  have hm2 := o2.2.2.1
  obtain ⟨a2, rfl, ha2⟩ : ∃ a2, ad2 = some a2 ∧ a2.block = b1 := by
    cases ad2 with
    | none => cases q10
    | some a2 => cases q10; exact ⟨a2, rfl, rfl⟩
  have hlo := o2.lt a2 rfl
  have hs1 := g1.size
  have gA := (g1.trans g2).trans g3
  refine ⟨w3.heap.size, rfl, gA.size, gA.trans (Gr.alloc _ _), b1, o1, c1, ad3, c2, none, 0, ?_⟩
  refine ⟨?_, by omega, Nat.lt_of_lt_of_le q1 (Gr.alloc _ _).size, by omega, fun x hx => ?_, q2, by omega, by omega, by omega, q7.gr (Gr.alloc _ _), q8.gr (Gr.alloc _ _), Owns.empty _ _ _ _, fun x hx => by cases hx⟩
  · rw [q9]; exact Blk.new _ _ _
  · have := q11 x hx
    simp only [Option.map_some, Option.some.injEq] at this
    omega
set_option maxRecDepth 100000 in
set_option maxHeartbeats 4000000 in
theorem Open_bad (ad : Option Addr) (cap : Nat) (b : List UInt8) (w : World) (hP : pairsF b = ([], 2)) (hl : b.length ≤ 1000000000) (hc : b.length ≤ cap) (hm : cap ≤ maxLen) (hb : Bytes w ad b) :
    Calls Try.prog 16 #[.slice ad b.length cap] w fun x w' => x = .returned (.tuple #[.pointer none, .int .i64 2]) ∧ Gr w w' := by
  have HP := Lib.hid (Pairs_at ad b.length cap b w [] 2 rfl hP hl hc hm hb)
  clear hb hP
  go_enter Try.func16, Try.ntmps16
  go_wp2_with (first
    | (go_at_call 12; refine HP.out.mono ?_; rintro e w1 ⟨adP, cpP, rfl, oP, g1⟩)
    | fail)
  go_ret2
  exact ⟨rfl, g1⟩
end Go.Proofs.Ytnbinodhdgnjlaa
