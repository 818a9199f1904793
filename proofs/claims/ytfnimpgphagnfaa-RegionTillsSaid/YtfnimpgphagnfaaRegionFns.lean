/- Layer 1 (region): the pool's small calls walked: land, Size, Make, Idle. -/
import Derived.Test.YtfnimpgphagnfaaRows
import Derived.Test.YtfnimpgphagnfaaRegionMem
namespace Go.Proofs.Ytfnimpgphagnfaa
set_option linter.unusedVariables false
set_option linter.unusedSimpArgs false
open Go.RowKit
set_option maxRecDepth 100000 in
theorem land_any (w : World) (S : Nat → Prop) (g : Nat) (p : PoolF) (r : Int) (h : PoolAt w S g p) :
    Calls Try.prog 34 #[.pointer (some ⟨g, 0, none⟩), .int .i64 r] w fun e w' => e = .returned (.pointer ((landF p r).map fun i => ⟨g, 3 + i * 4, none⟩)) ∧ w = w' := by
  obtain ⟨ads, cs, adt, ct, A, C, bd, hx⟩ := h
  by_cases h0 : r < 0
  · have hn : landF p r = none := by unfold landF; rw [if_neg (by omega)]
    rw [hn]
    clear hx hn
    go_enter Try.func34, Try.ntmps34
    go_wp2
    go_ret
    exact ⟨rfl, rfl⟩
  · by_cases h1 : 256 ≤ r
    · have hn : landF p r = none := by unfold landF; rw [if_neg (by omega)]
      rw [hn]
      clear hx hn
      go_enter Try.func34, Try.ntmps34
      go_wp2
      go_ret
      exact ⟨rfl, rfl⟩
    · obtain ⟨i, rfl⟩ : ∃ i : Nat, r = (i : Int) := ⟨r.toNat, by omega⟩
      have hi : i < 256 := by omega
      obtain ⟨c0, _, _, _⟩ := hx.lcell hi
      clear hx
      cases ht : (landAt p i).there with
      | false =>
        have hn : landF p (i : Int) = none := by unfold landF; rw [if_neg (by simp [ht])]
        rw [ht] at c0
        rw [hn]
        clear hn ht
        go_enter Try.func34, Try.ntmps34
        go_wp2
        go_ret
        exact ⟨rfl, rfl⟩
      | true =>
        rw [landF_of hi ht]
        rw [ht] at c0
        clear ht
        go_enter Try.func34, Try.ntmps34
        go_wp2
        go_ret
        exact ⟨rfl, rfl⟩
set_option maxRecDepth 100000 in
theorem Size_any (w : World) (S : Nat → Prop) (g : Nat) (p : PoolF) (h : PoolAt w S g p) :
    Calls Try.prog 23 #[.pointer (some ⟨g, 0, none⟩)] w fun e w' => e = .returned (.int .i64 (p.size : Int)) ∧ w = w' := by
  obtain ⟨ads, cs, adt, ct, A, C, bd, hx⟩ := h
  obtain ⟨c0, _, _⟩ := hx.head
  clear hx
  go_enter Try.func23, Try.ntmps23
  go_wp2
  go_ret
  exact ⟨rfl, rfl⟩
def makeR (p : PoolF) : Nat × Nat × PoolF := match makeF p with | some i => (i, 0, makeAt p i) | none => (0, 5, p)
set_option maxRecDepth 100000 in
theorem Make_any (w : World) (S : Nat → Prop) (g : Nat) (p : PoolF) (h : PoolAt w S g p) (hp : PoolOk p) (hgen : ∀ i, i < 256 → (landAt p i).gen ≤ 1000000000) :
    Calls Try.prog 12 #[.pointer (some ⟨g, 0, none⟩)] w fun e w' => e = .returned (.tuple #[.int .i64 ((makeR p).1 : Int), .int .i64 ((makeR p).2.1 : Int)]) ∧ Moved S g (makeR p).2.2 w w' S := by
  have HP := Lib.hid h
  obtain ⟨ads, cs, adt, ct, A, C, bd, hx⟩ := h
  have HX := Lib.hid hx
  have HL := Lib.hid hp.ln
  clear hx hp
  go_enter Try.func12, Try.ntmps12
  go_wp2
  go_loopw [8] (fun v wr => ∃ i : Nat, i ≤ 256 ∧ v = .int .i64 (i : Int) ∧ wr = w ∧ ∀ j, j < i → (landAt p j).there = true) (fun v _ => 256 - (intOf v).toNat)
  case atStart => exact ⟨0, by omega, rfl, by first | rfl | trivial, fun j hj => by omega⟩
  case round =>
    obtain ⟨i, hi, rfl, rfl, hall⟩ := hrel
    by_cases hib : i < 256
    · obtain ⟨c0, c1, c2, c3⟩ := HX.out.lcell hib
      have hg := hgen i hib
      cases ht : (landAt p i).there with
      | true =>
        rw [ht] at c0
        have HA := Lib.hid (show ∀ j, j < i + 1 → (landAt p j).there = true from fun j hj => by
          by_cases e : j = i
          · subst e; exact ht
          · exact hall j (by omega))
        clear hall ht
        go_wp2
        go_roundw
        case rel => exact ⟨i + 1, hib, by go_num, by first | rfl | trivial, HA.out⟩
        case measure => simp [intOf]; omega
      | false =>
        rw [ht] at c0
        have HM := Lib.hid (makeF_is hib ht hall)
        have f0 := HX.out.blk.frozen (3 + i * 4)
        have f1 := HX.out.blk.frozen (3 + i * 4 + 1)
        have f2 := HX.out.blk.frozen (3 + i * 4 + 2)
        have f3 := HX.out.blk.frozen (3 + i * 4 + 3)
        clear hall ht hgen
        go_wp2
        go_ret2
        unfold makeR
        rw [HM.out]
        exact ⟨rfl, HX.out.put4 HL.out hib true ((landAt p i).gen + 1)⟩
    · obtain rfl : i = 256 := by omega
      have HM := Lib.hid (makeF_isnone hall)
      clear hall
      go_wp2
      go_ret2
      unfold makeR
      rw [HM.out]
      exact ⟨rfl, Chg.refl _, fun j hj => .inl hj, HP.out⟩
theorem taken_get (l : List Bool) (i : Nat) (hi : i < l.length) : (l.map Value.bool)[i]? = some (.bool (l.getD i false)) := by
  simp [hi]
theorem filter_take_succ {l : List Bool} {i : Nat} (hi : i < l.length) : ((l.take (i + 1)).filter (!·)).length = ((l.take i).filter (!·)).length + (if l.getD i false then 0 else 1) := by
  rw [List.take_add_one, List.getElem?_eq_getElem hi, List.filter_append, List.length_append, List.getD_eq_getElem?_getD, List.getElem?_eq_getElem hi]
  cases l[i] <;> rfl
set_option maxRecDepth 100000 in
theorem Idle_any (w : World) (S : Nat → Prop) (g : Nat) (p : PoolF) (h : PoolAt w S g p) (hp : PoolOk p) :
    Calls Try.prog 20 #[.pointer (some ⟨g, 0, none⟩)] w fun e w' => e = .returned (.int .i64 (countF p : Int)) ∧ w = w' := by
  obtain ⟨ads, cs, adt, ct, A, C, bd, hx⟩ := h
  obtain ⟨_, _, c2⟩ := hx.head
  have HT := Lib.hid hx.tak.row
  have hn : p.taken.length ≤ 4096 := by rw [hp.tk]; exact hp.n2
  clear hx hp
  have hc : countF p = ((p.taken.take p.taken.length).filter (!·)).length := by rw [List.take_length]; rfl
  rw [hc]
  clear hc
  go_enter Try.func20, Try.ntmps20
  go_wp2
  go_loopw [3, 13] (fun v u wr => ∃ i : Nat, i ≤ p.taken.length ∧ u = .int .i64 (i : Int) ∧ v = .int .i64 ((((p.taken.take i).filter (!·)).length : Nat) : Int) ∧ wr = w) (fun _ u _ => p.taken.length - (intOf u).toNat)
  case atStart => exact ⟨0, Nat.zero_le _, rfl, rfl, by first | rfl | trivial⟩
  case round =>
    obtain ⟨i, hi, rfl, rfl, rfl⟩ := hrel
    by_cases hib : i < p.taken.length
    · obtain ⟨b, off, rfl, c⟩ := HT.out i _ (taken_get _ i hib)
      have HS := Lib.hid (filter_take_succ hib)
      have hcl : ((p.taken.take i).filter (!·)).length ≤ 4096 := by
        refine Nat.le_trans (List.length_filter_le _ _) ?_
        rw [List.length_take]; omega
      cases ht : p.taken.getD i false with
      | true =>
        rw [ht] at HS c
        clear ht
        go_wp2
        go_roundw
        case rel => exact ⟨i + 1, hib, by go_num, by rw [HS.out]; rfl, by first | rfl | trivial⟩
        case measure => simp [intOf]; omega
      | false =>
        rw [ht] at HS c
        clear ht
        go_wp2
        go_roundw
        case rel => exact ⟨i + 1, hib, by go_num, by rw [HS.out]; go_num, by first | rfl | trivial⟩
        case measure => simp [intOf]; omega
    · obtain rfl : i = p.taken.length := by omega
      go_wp2
      go_ret
      exact ⟨rfl, rfl⟩
def idleI (p : PoolF) : Int := match idleF p with | some s => (s : Int) | none => -1
theorem idleF_is {p : PoolF} {i : Nat} (hi : i < p.taken.length) (h0 : p.taken.getD i false = false) (h1 : ∀ j, j < i → p.taken.getD j false = true) : idleF p = some i := by
  unfold idleF
  rw [List.find?_range_eq_some]
  exact ⟨by rw [h0]; rfl, by simpa using hi, fun j hj => by rw [h1 j hj]; rfl⟩
theorem idleF_isnone {p : PoolF} (h1 : ∀ j, j < p.taken.length → p.taken.getD j false = true) : idleF p = none := by
  unfold idleF
  rw [List.find?_eq_none]
  intro j hj
  rw [h1 j (by simpa using hj)]; decide
set_option maxRecDepth 100000 in
theorem Index_any (w : World) (p : PoolF) (adt : Option Addr) (ct : Nat) (hr : Row w adt (p.taken.map Value.bool)) (hn : p.taken.length ≤ 4096) :
    Calls Try.prog 42 #[.slice adt p.taken.length ct, .bool false] w fun e w' => e = .returned (.int .i64 (idleI p)) ∧ w = w' := by
  have HT := Lib.hid hr
  clear hr
  go_enter Try.func42, Try.ntmps42
  go_wp2
  go_loopw [8] (fun v wr => ∃ i : Nat, i ≤ p.taken.length ∧ v = .int .i64 (i : Int) ∧ wr = w ∧ ∀ j, j < i → p.taken.getD j false = true) (fun v _ => p.taken.length - (intOf v).toNat)
  case atStart => exact ⟨0, Nat.zero_le _, rfl, by first | rfl | trivial, fun j hj => by omega⟩
  case round =>
    obtain ⟨i, hi, rfl, rfl, hall⟩ := hrel
    by_cases hib : i < p.taken.length
    · obtain ⟨b, off, rfl, c⟩ := HT.out i _ (taken_get _ i hib)
      cases ht : p.taken.getD i false with
      | true =>
        have HA := Lib.hid (show ∀ j, j < i + 1 → p.taken.getD j false = true from fun j hj => by
          by_cases e : j = i
          · subst e; exact ht
          · exact hall j (by omega))
        rw [ht] at c
        clear ht hall
        go_wp2
        go_roundw
        case rel => exact ⟨i + 1, hib, by go_num, by first | rfl | trivial, HA.out⟩
        case measure => simp [intOf]; omega
      | false =>
        have HM := Lib.hid (idleF_is hib ht hall)
        rw [ht] at c
        clear ht hall
        go_wp2
        go_ret
        unfold idleI
        rw [HM.out]
        exact ⟨rfl, rfl⟩
    · obtain rfl : i = p.taken.length := by omega
      have HM := Lib.hid (idleF_isnone hall)
      clear hall
      go_wp2
      go_ret
      unfold idleI
      rw [HM.out]
      exact ⟨rfl, rfl⟩
end Go.Proofs.Ytfnimpgphagnfaa
