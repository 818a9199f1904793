/- Layer 1 (region): the reference's there, Idle, Make, aligned, Slabs walked. -/
import Derived.Test.YtfnimpgphagnfaaTillMem
import Derived.StillTailTactics
import Derived.Deep.Cut
namespace Go.Proofs.Ytfnimpgphagnfaa
set_option linter.unusedVariables false
set_option linter.unusedSimpArgs false
open Go.RowKit
set_option maxRecDepth 100000 in
theorem there_any (w : World) (S : Nat → Prop) (g : Nat) (p : PoolF) (r : Int) (h : RPool w S g p) :
    Calls Try.prog 39 #[.pointer (some ⟨g, 0, none⟩), .int .i64 r] w fun e w' => e = .returned (.bool (landF p r).isSome) ∧ w = w' := by
  obtain ⟨O, ads, cs, adt, ct, A, C, hx⟩ := h
  by_cases h0 : r < 0
  · have e : landF p r = none := by unfold landF; rw [if_neg (by omega)]
    rw [e]
    clear hx e
    go_enter Try.func39, Try.ntmps39
    go_wp2
    go_ret
    exact ⟨rfl, rfl⟩
  · by_cases h1 : 256 ≤ r
    · have e : landF p r = none := by unfold landF; rw [if_neg (by omega)]
      rw [e]
      clear hx e
      go_enter Try.func39, Try.ntmps39
      go_wp2
      go_ret
      exact ⟨rfl, rfl⟩
    · obtain ⟨i, rfl⟩ := Int.eq_ofNat_of_zero_le (by omega : 0 ≤ r)
      have hi : i < 256 := by omega
      have e : (landF p (i : Int)).isSome = (landAt p i).there := by
        cases ht : (landAt p i).there with
        | true => rw [landF_of hi ht]; rfl
        | false => unfold landF; rw [if_neg (by simp [ht])]; rfl
      obtain ⟨c0, _, _, _⟩ := hx.lcell hi
      rw [e]
      clear hx e
      go_enter Try.func39, Try.ntmps39
      go_wp2
      go_ret
      exact ⟨rfl, rfl⟩
/-- how many from a place on are idle, and the least of them -/
def restN (t : List Bool) (k : Nat) : Nat := ((t.drop k).filter (!·)).length
def leastFrom (t : List Bool) (k : Nat) : Int := match (t.drop k).findIdx? (!·) with | some j => ((k + j : Nat) : Int) | none => -1
theorem restN_step {t : List Bool} {k : Nat} (h : k < t.length) : restN t k = restN t (k + 1) + (if t.getD k false = true then 0 else 1) := by
  unfold restN
  rw [List.drop_eq_getElem_cons h, List.filter_cons, List.getD_eq_getElem?_getD, List.getElem?_eq_getElem h, Option.getD_some]
  cases t[k] <;> simp
theorem least_step {t : List Bool} {k : Nat} (h : k < t.length) : leastFrom t k = if t.getD k false = true then leastFrom t (k + 1) else (k : Int) := by
  unfold leastFrom
  rw [List.drop_eq_getElem_cons h, List.findIdx?_cons, List.getD_eq_getElem?_getD, List.getElem?_eq_getElem h, Option.getD_some]
  cases hk : t[k] with
  | true =>
    simp only [Bool.not_true, Bool.false_eq_true, if_false, if_true]
    cases (List.drop (k + 1) t).findIdx? (!·) with
    | none => rfl
    | some j => simp only [Option.map_some]; congr 1; omega
  | false => simp
theorem least_end (t : List Bool) : leastFrom t t.length = -1 := by
  unfold leastFrom
  rw [List.drop_length]
  rfl
theorem least_zero (p : PoolF) : leastFrom p.taken 0 = idleI p := by
  unfold leastFrom idleI
  rw [List.drop_zero]
  cases h : p.taken.findIdx? (!·) with
  | none =>
    have : idleF p = none := idleF_isnone fun j hj => by
      have := (List.findIdx?_eq_none_iff.1 h) p.taken[j] (List.getElem_mem hj)
      rw [List.getD_eq_getElem?_getD, List.getElem?_eq_getElem hj, Option.getD_some]
      simpa using this
    rw [this]
  | some j =>
    obtain ⟨hj, h1, h2⟩ := List.findIdx?_eq_some_iff_getElem.1 h
    have : idleF p = some j := idleF_is hj (by
      rw [List.getD_eq_getElem?_getD, List.getElem?_eq_getElem hj, Option.getD_some]
      simpa using h1) fun i hi => by
      rw [List.getD_eq_getElem?_getD, List.getElem?_eq_getElem (by omega), Option.getD_some]
      simpa using h2 i hi
    rw [this]
    simp
set_option maxRecDepth 100000 in
set_option maxHeartbeats 1000000 in
theorem rIdle_any (w : World) (S : Nat → Prop) (g : Nat) (p : PoolF) (h : RPool w S g p) (hp : PoolOk p) :
    Calls Try.prog 24 #[.pointer (some ⟨g, 0, none⟩)] w fun e w' => e = .returned (.tuple #[.int .i64 (countF p : Int), .int .i64 (idleI p)]) ∧ w = w' := by
  obtain ⟨O, ads, cs, adt, ct, A, C, hx⟩ := h
  obtain ⟨_, _, c2⟩ := hx.head
  have hn : p.taken.length ≤ 4096 := by rw [hp.tk]; exact hp.n2
  have HO := Lib.hid hx.own
  have HK := Lib.hid (show O.length = p.taken.length ∧ ∀ s, s < p.taken.length → p.taken.getD s false = decide (0 ≤ O.getD s 0) from hx.ok)
  have HC := Lib.hid (show restN p.taken 0 = countF p by unfold restN countF; rw [List.drop_zero])
  have HL := Lib.hid (least_zero p)
  have HE := Lib.hid (And.intro (show restN p.taken p.taken.length = 0 by unfold restN; rw [List.drop_length]; rfl) (least_end p.taken))
  have HS := Lib.hid (fun k (h : k < p.taken.length) => And.intro (restN_step h) (least_step h))
  generalize hT : p.taken = T at *
  clear hx hT hp
  have hw : IntKind.i64.wrap ((T.length : Int) - 1) = (T.length : Int) - 1 := by rw [IntKind.wrap_i64]; omega
  go_enter Try.func24, Try.ntmps24
  go_wp2
  go_loopw [4, 5, 6] (fun vn vl vi wr => ∃ k : Nat, k ≤ T.length ∧ vn = .int .i64 (restN T k : Int) ∧ vl = .int .i64 (leastFrom T k) ∧ vi = .int .i64 ((k : Int) - 1) ∧ wr = w) (fun _ _ vi _ => (intOf vi + 1).toNat)
  case atStart => exact ⟨T.length, Nat.le_refl _, by rw [HE.out.1]; rfl, by rw [HE.out.2], rfl, rfl⟩
  case round =>
    obtain ⟨k, hk, rfl, rfl, rfl, rfl⟩ := hrel
    cases k with
    | zero =>
      rw [HC.out, HL.out]
      go_wp2
      go_ret2
      exact ⟨rfl, rfl⟩
    | succ k =>
      obtain ⟨s1, s2⟩ := HS.out k hk
      obtain ⟨bt, hbt, _, zt⟩ := HO.out.at (ov_get O k (by rw [HK.out.1]; exact hk))
      subst hbt
      have ho := HK.out.2 k hk
      generalize O.getD k 0 = o at *
      have e1 : (((k + 1 : Nat) : Int) - 1) = (k : Int) := by omega
      rw [e1]
      have hc : restN T (k + 1) ≤ 4096 := by
        unfold restN
        refine Nat.le_trans (List.length_filter_le _ _) ?_
        rw [List.length_drop]; omega
      have hw2 : IntKind.i64.wrap ((k : Int) - 1) = (k : Int) - 1 := by rw [IntKind.wrap_i64]; omega
      by_cases hneg : o < 0
      · rw [show decide (0 ≤ o) = false from decide_eq_false (by omega)] at ho
        rw [if_neg (by rw [ho]; decide)] at s1 s2
        have S1 := Lib.hid s1
        have S2 := Lib.hid s2
        clear s1 s2 ho e1
        go_wp2
        go_roundw
        case rel => exact ⟨k, by omega, by rw [S1.out]; go_num, by rw [S2.out], by first | rfl | trivial, by first | rfl | trivial⟩
        case measure => simp [intOf] <;> omega
      · rw [show decide (0 ≤ o) = true from decide_eq_true (by omega)] at ho
        rw [if_pos ho] at s1 s2
        have S1 := Lib.hid s1
        have S2 := Lib.hid s2
        clear s1 s2 ho e1
        go_wp2
        go_roundw
        case rel => exact ⟨k, by omega, by rw [S1.out]; rfl, by rw [S2.out], by first | rfl | trivial, by first | rfl | trivial⟩
        case measure => simp [intOf] <;> omega
set_option maxRecDepth 100000 in
theorem rMake_any (w : World) (S : Nat → Prop) (g : Nat) (p : PoolF) (h : RPool w S g p) (hp : PoolOk p) (hgen : ∀ i, i < 256 → (landAt p i).gen ≤ 1000000000) :
    Calls Try.prog 25 #[.pointer (some ⟨g, 0, none⟩)] w fun e w' => e = .returned (.tuple #[.int .i64 ((makeR p).1 : Int), .int .i64 ((makeR p).2.1 : Int)]) ∧ RMoved S g (makeR p).2.2 w w' S := by
  have HP := Lib.hid h
  obtain ⟨O, ads, cs, adt, ct, A, C, hx⟩ := h
  have HX := Lib.hid hx
  have HL := Lib.hid hp.ln
  clear hx hp
  go_enter Try.func25, Try.ntmps25
  go_wp2
  go_loopw [4] (fun v wr => ∃ i : Nat, i ≤ 256 ∧ v = .int .i64 (i : Int) ∧ wr = w ∧ ∀ j, j < i → (landAt p j).there = true) (fun v _ => 256 - (intOf v).toNat)
  case atStart => exact ⟨0, by omega, rfl, by first | rfl | trivial, fun j hj => by omega⟩
  case round =>
    obtain ⟨i, hi, rfl, rfl, hall⟩ := hrel
    by_cases hib : i < 256
    · obtain ⟨c0, c1, c2, c3⟩ := HX.out.lcell hib
      have hg := hgen i hib
      cases ht : (landAt p i).there with
      | true =>
        rw [ht] at c0
        have HA := Lib.hid (show ∀ j, j < i + 1 → (landAt p j).there = true from fun j hj => by
          by_cases e : j = i
          · subst e; exact ht
          · exact hall j (by omega))
        clear hall ht
        go_wp2
        go_roundw
        case rel => exact ⟨i + 1, hib, by go_num, by first | rfl | trivial, HA.out⟩
        case measure => simp [intOf]; omega
      | false =>
        rw [ht] at c0
        have HM := Lib.hid (makeF_is hib ht hall)
        clear hall ht hgen
        go_upto_region 5 with (fail)
        have X1 := Lib.hid (HX.out.gr (Gr.drew wr))
        obtain ⟨d0, d1, d2, d3⟩ := X1.out.lcell hib
        have f0 := X1.out.blk.frozen (3 + i * 4)
        have f1 := X1.out.blk.frozen (3 + i * 4 + 1)
        have f2 := X1.out.blk.frozen (3 + i * 4 + 2)
        have f3 := X1.out.blk.frozen (3 + i * 4 + 3)
        go_still_tail 14, (by kernel_rfl)
        change wpList _ _ _ _ _ wr.drew
        have HM4 := Lib.hid (X1.out.put4 HL.out hib true ((landAt p i).gen + 1))
        have hw : IntKind.i64.wrap (((landAt p i).gen : Int) + 1) = (((landAt p i).gen + 1 : Nat) : Int) := by rw [IntKind.wrap_i64]; omega
        rw [hw]
        have GD := Lib.hid (Gr.drew wr)
        generalize hgn : (landAt p i).gen + 1 = gn at HM4 ⊢
        have HGn := Lib.hid hgn
        clear hgn
        generalize wr.drew = w2 at *
        clear c0 c1 c2 c3 hw X1
        go_wp2
        go_ret2
        unfold makeR
        rw [HM.out]
        have hm4 := HM4.out
        rw [← HGn.out] at hm4
        exact ⟨rfl, by rw [HGn.out] at hm4; have e := HGn.out; subst e; exact hm4.after GD.out.chg⟩
    · obtain rfl : i = 256 := by omega
      have HM := Lib.hid (makeF_isnone hall)
      clear hall
      go_wp2
      go_ret2
      unfold makeR
      rw [HM.out]
      exact ⟨rfl, RMoved.refl HP.out⟩
end Go.Proofs.Ytfnimpgphagnfaa
