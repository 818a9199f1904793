/- Layer 6 (bloom): filters are asked. -/
import Derived.Test.YtpkbifaeofcckaaBloomBuild
import Derived.Outline
namespace Go.Proofs.Ytpkbifaeofcckaa
set_option linter.unusedVariables false
set_option linter.unusedSimpArgs false
open Go.RowKit Bloom
/-- has it a form? -/
def rightF (l : List UInt8) : Bool := decide (2 ≤ l.length) && decide (1 ≤ (l.getD (l.length - 1) 0).toNat) && decide ((l.getD (l.length - 1) 0).toNat ≤ 30)
theorem right_of {l : List UInt8} (h : rightF l = true) : ∃ m x, l = m ++ [x] ∧ 1 ≤ m.length ∧ 1 ≤ x.toNat ∧ x.toNat ≤ 30 := by
  simp only [rightF, Bool.and_eq_true, decide_eq_true_eq] at h
  obtain ⟨⟨h1, h2⟩, h3⟩ := h
  have hne : l ≠ [] := by rintro rfl; simp at h1
  have e : l.getD (l.length - 1) 0 = l.getLast hne := by
    rw [List.getD_eq_getElem?_getD, List.getElem?_eq_getElem (by omega), Option.getD_some, List.getLast_eq_getElem]
  rw [e] at h2 h3
  exact ⟨l.dropLast, l.getLast hne, (List.dropLast_concat_getLast hne).symm, by simp; omega, h2, h3⟩
theorem right_mk {m : List UInt8} {x : UInt8} (h1 : 1 ≤ m.length) (h2 : 1 ≤ x.toNat) (h3 : x.toNat ≤ 30) : rightF (m ++ [x]) = true := by
  simp [rightF]
  omega
theorem last_get (m : List UInt8) (x : UInt8) : (m ++ [x])[m.length]'(by simp) = x := by simp
set_option maxRecDepth 100000 in
set_option maxHeartbeats 1000000 in
theorem split_yes (m : List UInt8) (x : UInt8) (ad : Option Addr) (cap : Nat) (w : World) (hm : m.length + 1 ≤ cap) (hcm : cap ≤ maxLen) (h1 : 1 ≤ m.length) (h2 : 1 ≤ x.toNat) (h3 : x.toNat ≤ 30) (hb : Bytes w ad (m ++ [x])) :
    Calls Try.prog 24 #[.slice ad (m.length + 1) cap] w fun e w' => e = .returned (.tuple #[.slice ad m.length cap, .int .i64 (x.toNat : Int), .bool true]) ∧ Gr w w' := by
  unfold maxLen at hcm
  obtain ⟨b, off, rfl, hc⟩ := hb m.length (by simp)
  rw [last_get] at hc
  have hx2 : (1 : Int) ≤ (x.toNat : Int) := by omega
  have hx3 : (x.toNat : Int) ≤ 30 := by omega
  have hml : m.length < m.length + 1 := by omega
  go_enter Try.func24, Try.ntmps24
  go_wp2
  go_quiet (fail)
  go_wp2
  exact bodyPost_ret (v := .tuple #[.slice (some ⟨b, off, none⟩) m.length cap, .int .i64 (x.toNat : Int), .bool true]) (by simp [results, Try.results24, go_sem]) rfl ⟨rfl, Gr.drewN _ _⟩
set_option maxRecDepth 100000 in
set_option maxHeartbeats 1000000 in
theorem split_no (l : List UInt8) (ad : Option Addr) (cap : Nat) (w : World) (hm : l.length ≤ maxLen) (h : rightF l = false) (hb : Bytes w ad l) :
    Calls Try.prog 24 #[.slice ad l.length cap] w fun e w' => e = .returned (.tuple #[.slice none 0 0, .int .i64 0, .bool false]) ∧ Gr w w' := by
  unfold maxLen at hm
  by_cases h2 : 2 ≤ l.length
  · obtain ⟨k, hk⟩ : ∃ k, l.length = k + 1 := ⟨l.length - 1, by omega⟩
    have hkl : k < l.length := by omega
    obtain ⟨b, off, rfl, hc⟩ := hb k hkl
    have hd : l.getD (l.length - 1) 0 = l[k] := by
      rw [hk, List.getD_eq_getElem?_getD, Nat.add_sub_cancel, List.getElem?_eq_getElem hkl, Option.getD_some]
    have hbad : ¬ (1 ≤ l[k].toNat ∧ l[k].toNat ≤ 30) := by
      intro ⟨h3, h4⟩
      have : rightF l = true := by
        simp only [rightF, Bool.and_eq_true, decide_eq_true_eq]
        rw [hd]
        exact ⟨⟨h2, h3⟩, h4⟩
      rw [this] at h; cases h
    have HK := Lib.hid hk
    clear hd h
    generalize l[k] = x at *
    rw [hk]
    have hk1 : 1 ≤ k := by omega
    have hk2 : k + 1 ≤ 9223372036854775807 := by omega
    clear hk hkl hm h2
    have hx := byte_hi x
    by_cases hx1 : 1 ≤ x.toNat
    · have hx2 : (1 : Int) ≤ (x.toNat : Int) := by omega
      have hx3 : (30 : Int) < (x.toNat : Int) := by omega
      clear hbad
      go_enter Try.func24, Try.ntmps24
      go_wp2
      go_ret3
      exact ⟨rfl, Gr.refl _⟩
    · have hx2 : (x.toNat : Int) < 1 := by omega
      clear hbad
      go_enter Try.func24, Try.ntmps24
      go_wp2
      go_ret3
      exact ⟨rfl, Gr.refl _⟩
  · go_enter Try.func24, Try.ntmps24
    go_wp2
    go_ret3
    exact ⟨rfl, Gr.refl _⟩
/-- may it be there? -/
def mayF (l : List UInt8) (h : BitVec 32) : Bool := !rightF l || allF (l.take (l.length - 1)) h (8 * (l.length - 1)) (l.getD (l.length - 1) 0).toNat
theorem may_yes (m : List UInt8) (x : UInt8) (h : BitVec 32) (h1 : 1 ≤ m.length) (h2 : 1 ≤ x.toNat) (h3 : x.toNat ≤ 30) : mayF (m ++ [x]) h = allF m h (8 * m.length) x.toNat := by
  unfold mayF
  rw [right_mk h1 h2 h3]
  simp
theorem may_no {l : List UInt8} (h : BitVec 32) (hr : rightF l = false) : mayF l h = true := by unfold mayF; rw [hr]; rfl
set_option maxRecDepth 100000 in
set_option maxHeartbeats 1000000 in
theorem May_any (l key : List UInt8) (ad : Option Addr) (cap : Nat) (w : World) (hlc : l.length ≤ cap) (hcm : cap ≤ maxLen) (hl : l.length ≤ 500000000) (hb : Bytes w ad l) (hk : key.length ≤ 9223372036854775807) :
    Calls Try.prog 17 #[.slice ad l.length cap, .string (str key)] w fun e w' => e = .returned (.bool (mayF l (hashF key))) ∧ Gr w w' := by
  cases hr : rightF l with
  | true =>
    obtain ⟨m, x, rfl, h1, h2, h3⟩ := right_of hr
    rw [may_yes m x _ h1 h2 h3]
    simp only [List.length_append, List.length_cons, List.length_nil, Nat.zero_add] at hlc hl ⊢
    have HS := Lib.hid (split_yes m x ad cap w hlc hcm h1 h2 h3 hb)
    have hbm : Bytes w ad m := by have := hb.take m.length; simpa using this
    have hx : x.toNat ≤ 255 := by omega
    have hml : m.length ≤ 500000000 := by omega
    go_enter Try.func17, Try.ntmps17
    go_wp2_with (first
      | (go_at_call 24; refine HS.out.mono ?_; rintro e w1 ⟨rfl, g1⟩; have HE := Lib.hid (eachM_any key w1.heap.size cap x.toNat ad m (w1.alloc (.cells #[.slice ad m.length cap] 30)) hk ((Blk.new w1 30 #[.slice ad m.length cap]).cell rfl) ((hbm.gr g1).gr (Gr.alloc _ _)) h1 hml hx))
      | (go_at_call 21; refine HE.out.mono ?_; rintro e w2 ⟨rfl, g2⟩))
    go_ret
    exact ⟨rfl, (g1.trans (Gr.alloc _ _)).trans g2⟩
  | false =>
    rw [may_no _ hr]
    have HS := Lib.hid (split_no l ad cap w (Nat.le_trans hlc hcm) hr hb)
    go_enter Try.func17, Try.ntmps17
    go_wp2_with (go_at_call 24; refine HS.out.mono ?_; rintro e w1 ⟨rfl, g1⟩)
    go_ret
    exact ⟨rfl, g1.trans (Gr.alloc _ _)⟩
end Go.Proofs.Ytpkbifaeofcckaa
