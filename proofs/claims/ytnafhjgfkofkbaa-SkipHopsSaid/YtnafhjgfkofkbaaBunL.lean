/- Layer 11 (skip): SkipHops's start, which of its cursors moves, and its end. -/
import Derived.Test.YtnafhjgfkofkbaaBunI
import Derived.Test.YtnafhjgfkofkbaaBunA
import Derived.Test.YtnafhjgfkofkbaaBunK
/- The reference of layer 11: cursors. -/
namespace Go.Proofs.Ytnafhjgfkofkbaa
set_option linter.unusedVariables false
set_option linter.unusedSimpArgs false
open Go.RowKit Ikey Varint
/-- a cursor of the reference -/
def rcV (gm : Nat) (side : Int) (v : Vr) : List Value := [.pointer (some ⟨gm, 0, none⟩), .int .i64 side, .string (str v.key), .int .i64 v.seq, .int .i64 v.kind]
theorem Blk.five5 {w : World} {g : Nat} {t : TypeId} {a b c d e : Value} (h : Blk w g t [a, b, c, d, e]) : w.cell? ⟨g, 0, none⟩ = some a ∧ w.cell? ⟨g, 1, none⟩ = some b ∧ w.cell? ⟨g, 2, none⟩ = some c ∧ w.cell? ⟨g, 3, none⟩ = some d ∧ w.cell? ⟨g, 4, none⟩ = some e ∧ w.frozen? ⟨g, 1, none⟩ = false ∧ w.frozen? ⟨g, 2, none⟩ = false ∧ w.frozen? ⟨g, 3, none⟩ = false ∧ w.frozen? ⟨g, 4, none⟩ = false :=
  ⟨h.cell rfl, h.cell rfl, h.cell rfl, h.cell rfl, h.cell rfl, h.frozen _, h.frozen _, h.frozen _, h.frozen _⟩
/-- where it stands when it is sent to a place -/
def rsS (l : List Ci) (i : Int) : Int := if i < 0 then -1 else if (l.length : Int) ≤ i then 1 else 0
def rsE (l : List Ci) (i : Int) : Int := if 0 ≤ i ∧ i < (l.length : Int) then 0 else 15
def rsV (l : List Ci) (i : Int) (v : Vr) : Vr := if 0 ≤ i then ((l[i.toNat]?).map Ci.vr).getD v else v
theorem chg_set (w : World) (g i : Nat) (u : Value) : Chg (fun j => j = g) w (w.setCell ⟨g, i, none⟩ u) := Chg.grown (b := g) (grown_set w g i u) rfl
set_option maxRecDepth 100000 in
set_option maxHeartbeats 1000000 in
theorem rstand_any (w : World) (gm hc : Nat) (fz : Bool) (ad : Option Addr) (cap : Nat) (l : List Ci) (side : Int) (v : Vr) (i : Int) (hb : Blk w gm 38 [.slice ad l.length cap, .bool fz]) (hr : Row w ad (cv l)) (hcur : Blk w hc 61 (rcV gm side v)) (hl : l.length ≤ 1000000) (hi1 : -9223372036854775808 ≤ i) :
    Calls Try.prog 58 #[.pointer (some ⟨hc, 0, none⟩), .int .i64 i] w fun e w' => e = .returned (.int .i64 (rsE l i)) ∧ Blk w' hc 61 (rcV gm (rsS l i) (rsV l i v)) ∧ Chg (fun j => j = hc) w w' := by
  have c0 := hb.cell (i := 0) rfl
  have HR := Lib.hid hr.ci
  have HB := Lib.hid hcur
  obtain ⟨d0, d1, d2, d3, d4, f1, f2, f3, f4⟩ := hcur.five5
  have HX := Lib.hid (hb.ne hcur (by decide))
  clear hb hr hcur
  by_cases h0 : i < 0
  · have hE := Lib.hid (show rsE l i = 15 by unfold rsE; rw [if_neg (by omega)])
    have hS := Lib.hid (show rsS l i = -1 by unfold rsS; rw [if_pos h0])
    have hV := Lib.hid (show rsV l i v = v by unfold rsV; rw [if_neg (by omega)])
    go_enter Try.func58, Try.ntmps58
    go_wp2
    go_ret
    refine ⟨by rw [hE.out]; rfl, ?_, (chg_set w hc 1 _).trans (chg_set _ hc 1 _) (fun j e => .inl e)⟩
    rw [hS.out, hV.out]
    exact (HB.out.set_ 1 (.int .i64 1)).set_ 1 (.int .i64 (-1))
  · by_cases h1 : (l.length : Int) ≤ i
    · have hE := Lib.hid (show rsE l i = 15 by unfold rsE; rw [if_neg (by omega)])
      have hS := Lib.hid (show rsS l i = 1 by unfold rsS; rw [if_neg h0, if_pos h1])
      have hV := Lib.hid (show rsV l i v = v by unfold rsV; rw [if_pos (by omega), List.getElem?_eq_none (by omega)]; rfl)
      have h2 : ¬ i < (l.length : Int) := by omega
      have b1 : decide ((l.length : Int) ≤ i) = true := by rw [decide_eq_true_eq]; exact h1
      go_enter Try.func58, Try.ntmps58
      go_wp2
      go_ret
      refine ⟨by rw [hE.out]; rfl, ?_, chg_set w hc 1 _⟩
      rw [hS.out, hV.out]
      exact HB.out.set_ 1 (.int .i64 1)
    · obtain ⟨n, rfl⟩ : ∃ n : Nat, i = (n : Int) := ⟨i.toNat, by omega⟩
      have hn : n < l.length := by omega
      obtain ⟨b, off, rfl, e0, e1, e2, e3⟩ := HR.out n hn
      have hE := Lib.hid (show rsE l (n : Int) = 0 by unfold rsE; rw [if_pos (by omega)])
      have hS := Lib.hid (show rsS l (n : Int) = 0 by unfold rsS; rw [if_neg h0, if_neg h1])
      have hV := Lib.hid (show rsV l (n : Int) v = (l[n]).vr by unfold rsV; rw [if_pos (by omega), Int.toNat_natCast, List.getElem?_eq_getElem hn]; rfl)
      have b1 : decide ((l.length : Int) ≤ (n : Int)) = false := by rw [decide_eq_false_iff_not]; omega
      have b2 : decide (l.length ≤ n) = false := by rw [decide_eq_false_iff_not]; omega
      generalize l[n] = x at *
      clear HR
      go_enter Try.func58, Try.ntmps58
      go_wp2
      go_ret
      refine ⟨by rw [hE.out]; rfl, ?_, ?_⟩
      · rw [hS.out, hV.out]
        exact (((HB.out.set_ 1 (.int .i64 0)).set_ 2 (.string (str x.key))).set_ 3 (.int .i64 x.seq)).set_ 4 (.int .i64 x.kind)
      · exact (((chg_set w hc 1 _).trans (chg_set _ hc 2 _) (fun j e => .inl e)).trans (chg_set _ hc 3 _) (fun j e => .inl e)).trans (chg_set _ hc 4 _) (fun j e => .inl e)
end Go.Proofs.Ytnafhjgfkofkbaa
/- The reference of layer 11: where a cursor goes. -/
namespace Go.Proofs.Ytnafhjgfkofkbaa
set_option linter.unusedVariables false
set_option linter.unusedSimpArgs false
open Go.RowKit Ikey Varint
/-- where a cursor stands, in plain words -/
inductive Ps where
  | front : Ps
  | back : Ps
  | at_ : Ce → Ps
def toP (off : Ps) : Option Ce → Nat × Ps
  | none => (15, off)
  | some c => (0, .at_ c)
def firstP (C : List Ce) : Nat × Ps := toP .back C.head?
def lastP (C : List Ce) : Nat × Ps := toP .front C.getLast?
def seekP (C : List Ce) (v : Vr) : Nat × Ps := toP .back (C.dropWhile (aheadC v)).head?
def nextP (C : List Ce) : Ps → Nat × Ps
  | .front => firstP C
  | .back => (15, .back)
  | .at_ c => toP .back (C.dropWhile (aheadC c.vr)).tail.head?
def prevP (C : List Ce) : Ps → Nat × Ps
  | .front => (15, .front)
  | .back => lastP C
  | .at_ c => toP .front (C.takeWhile (aheadC c.vr)).getLast?
/-- a cursor of the reference -/
def RefAt (w : World) (gm hc : Nat) : Ps → Prop
  | .front => ∃ v, Blk w hc 61 (rcV gm (-1) v)
  | .back => ∃ v, Blk w hc 61 (rcV gm 1 v)
  | .at_ c => Blk w hc 61 (rcV gm 0 c.vr)
theorem RefAt.blk {w : World} {gm hc : Nat} {P : Ps} (h : RefAt w gm hc P) : ∃ side v, Blk w hc 61 (rcV gm side v) := by
  cases P with
  | front => obtain ⟨v, h⟩ := h; exact ⟨_, _, h⟩
  | back => obtain ⟨v, h⟩ := h; exact ⟨_, _, h⟩
  | at_ c => exact ⟨_, _, h⟩
theorem RefAt.map {w w' : World} {gm hc : Nat} {P : Ps} (h : RefAt w gm hc P) (k : ∀ cs, Blk w hc 61 cs → Blk w' hc 61 cs) : RefAt w' gm hc P := by
  cases P with
  | front => obtain ⟨v, h⟩ := h; exact ⟨v, k _ h⟩
  | back => obtain ⟨v, h⟩ := h; exact ⟨v, k _ h⟩
  | at_ c => exact k _ h
theorem RefAt.gr {w w' : World} {gm hc : Nat} {P : Ps} (h : RefAt w gm hc P) (k : Gr w w') : RefAt w' gm hc P := h.map fun _ b => b.gr k
section
variable {w : World} {B gm hc : Nat} {C : List Ce} {fz : Bool} {ad : Option Addr} {cap : Nat} {P : Ps}
theorem RefAt.stand (h : RefAt w gm hc P) (hr : Rl w B gm C fz ad cap) (hC : C.length ≤ 1000000) (n : Nat) :
    Calls Try.prog 58 #[.pointer (some ⟨hc, 0, none⟩), .int .i64 (n : Int)] w fun e w' => e = .returned (.int .i64 ((toP .back C[n]?).1 : Int)) ∧ RefAt w' gm hc (toP .back C[n]?).2 ∧ Chg (fun j => j = hc) w w' := by
  obtain ⟨side, v, hb⟩ := h.blk
  have b1 := hr.blk
  have b2 := hr.own.row
  rw [← ci_len C] at b1
  refine (rstand_any w gm hc fz ad cap (ci C) side v n b1 b2 hb (by rw [ci_len]; exact hC) (by omega)).mono ?_
  rintro e w' ⟨he, h1, h2⟩
  unfold rsE at he
  unfold rsS rsV at h1
  rw [ci_len] at he h1
  rw [if_neg (show ¬ (n : Int) < 0 by omega), if_pos (show (0 : Int) ≤ (n : Int) by omega), Int.toNat_natCast] at h1
  by_cases hn : n < C.length
  · rw [if_pos (by omega)] at he
    rw [if_neg (by omega)] at h1
    have hg : C[n]? = some C[n] := List.getElem?_eq_getElem hn
    have hg2 : (ci C)[n]? = some (C[n]).i := by unfold ci; rw [List.getElem?_map, hg]; rfl
    rw [hg2] at h1
    rw [hg]
    exact ⟨he, h1, h2⟩
  · rw [if_neg (by omega)] at he
    rw [if_pos (by omega)] at h1
    have hg : C[n]? = none := List.getElem?_eq_none (by omega)
    rw [hg]
    exact ⟨he, ⟨_, h1⟩, h2⟩
/-- one place ahead -/
theorem RefAt.stand1 (h : RefAt w gm hc P) (hr : Rl w B gm C fz ad cap) (hC : C.length ≤ 1000000) (n : Nat) (hn : n ≤ C.length) :
    Calls Try.prog 58 #[.pointer (some ⟨hc, 0, none⟩), .int .i64 ((n : Int) - 1)] w fun e w' => e = .returned (.int .i64 ((toP .front (C.take n).getLast?).1 : Int)) ∧ RefAt w' gm hc (toP .front (C.take n).getLast?).2 ∧ Chg (fun j => j = hc) w w' := by
  by_cases h0 : n = 0
  · subst h0
    obtain ⟨side, v, hb⟩ := h.blk
    have b1 := hr.blk
    have b2 := hr.own.row
    rw [← ci_len C] at b1
    refine (rstand_any w gm hc fz ad cap (ci C) side v (((0 : Nat) : Int) - 1) b1 b2 hb (by rw [ci_len]; exact hC) (by omega)).mono ?_
    rintro e w' ⟨he, h1, h2⟩
    unfold rsE at he
    unfold rsS rsV at h1
    rw [if_neg (by omega)] at he
    rw [if_pos (by omega), if_neg (by omega)] at h1
    exact ⟨he, ⟨_, h1⟩, h2⟩
  · have e1 : (n : Int) - 1 = ((n - 1 : Nat) : Int) := by omega
    have hlt : n - 1 < C.length := by omega
    have e2 : (C.take n).getLast? = some C[n - 1] := by
      rw [List.getLast?_eq_getElem?, List.length_take, Nat.min_eq_left hn, List.getElem?_take, if_pos (by omega), List.getElem?_eq_getElem hlt]
    have := h.stand hr hC (n - 1)
    rw [List.getElem?_eq_getElem hlt] at this
    rw [e1, e2]
    exact this
end
theorem take_rank (v : Vr) (C : List Ce) : C.take (C.takeWhile (aheadC v)).length = C.takeWhile (aheadC v) := by
  have h : C = C.takeWhile (aheadC v) ++ C.dropWhile (aheadC v) := (List.takeWhile_append_dropWhile).symm
  generalize C.takeWhile (aheadC v) = A at *
  generalize C.dropWhile (aheadC v) = B at *
  subst h
  simp
theorem get_rank2 (v : Vr) (C : List Ce) (k : Nat) : C[(C.takeWhile (aheadC v)).length + k]? = (C.dropWhile (aheadC v))[k]? := by
  have h : C = C.takeWhile (aheadC v) ++ C.dropWhile (aheadC v) := (List.takeWhile_append_dropWhile).symm
  generalize C.takeWhile (aheadC v) = A at *
  generalize C.dropWhile (aheadC v) = B at *
  subst h
  rw [List.getElem?_append_right (by omega)]
  congr 1
  omega
section
variable {w : World} {B gm hc : Nat} {C : List Ce} {fz : Bool} {ad : Option Addr} {cap : Nat} {P : Ps}
theorem RefAt.first (h : RefAt w gm hc P) (hr : Rl w B gm C fz ad cap) (hC : C.length ≤ 1000000) :
    Calls Try.prog 30 #[.pointer (some ⟨hc, 0, none⟩)] w fun e w' => e = .returned (.int .i64 ((firstP C).1 : Int)) ∧ RefAt w' gm hc (firstP C).2 ∧ Chg (fun j => j = hc) w w' := by
  have HS := Lib.hid (h.stand hr hC 0)
  rw [show C[0]? = C.head? from (List.head?_eq_getElem? ..).symm] at HS
  unfold firstP
  generalize toP .back C.head? = R at *
  clear h hr
  go_enter Try.func30, Try.ntmps30
  go_wp2_with (first
    | (go_at_call 58; go_must (refine HS.out.mono ?_); rintro e w2 ⟨rfl, h2, h3⟩)
    | fail)
  go_ret
  exact ⟨rfl, h2, h3⟩
theorem RefAt.last (h : RefAt w gm hc P) (hr : Rl w B gm C fz ad cap) (hC : C.length ≤ 1000000) :
    Calls Try.prog 32 #[.pointer (some ⟨hc, 0, none⟩)] w fun e w' => e = .returned (.int .i64 ((lastP C).1 : Int)) ∧ RefAt w' gm hc (lastP C).2 ∧ Chg (fun j => j = hc) w w' := by
  have HS := Lib.hid (h.stand1 hr hC C.length (Nat.le_refl _))
  rw [List.take_length] at HS
  unfold lastP
  obtain ⟨side, v, hb⟩ := h.blk
  have d0 := hb.cell (i := 0) rfl
  have m0 := hr.blk.cell (i := 0) rfl
  generalize toP .front C.getLast? = R at *
  have hw : IntKind.i64.wrap ((C.length : Int) - 1) = (C.length : Int) - 1 := IntWalk.i64_in _ (by constructor <;> omega)
  clear h hr hb
  go_enter Try.func32, Try.ntmps32
  go_wp2_with (first
    | (go_at_call 58; go_must (refine HS.out.mono ?_); rintro e w2 ⟨rfl, h2, h3⟩)
    | fail)
  go_ret
  exact ⟨rfl, h2, h3⟩
end
end Go.Proofs.Ytnafhjgfkofkbaa
/- The reference of layer 11: Seek, Next, Prev, Cell. -/
namespace Go.Proofs.Ytnafhjgfkofkbaa
set_option linter.unusedVariables false
set_option linter.unusedSimpArgs false
open Go.RowKit Ikey Varint
section
variable {w : World} {B gm hc : Nat} {C : List Ce} {fz : Bool} {ad : Option Addr} {cap : Nat} {P : Ps}
set_option maxRecDepth 100000 in
set_option maxHeartbeats 1000000 in
theorem RefAt.seek (h : RefAt w gm hc P) (hr : Rl w B gm C fz ad cap) (hC : C.length ≤ 1000000) (v : Vr) :
    Calls Try.prog 33 #[.pointer (some ⟨hc, 0, none⟩), ver v.key v.seq v.kind] w fun e w' => e = .returned (.int .i64 ((seekP C v).1 : Int)) ∧ RefAt w' gm hc (seekP C v).2 ∧ Chg (fun j => j = hc) w w' := by
  have HK := Lib.hid (fun w' (g : Gr w w') => (hr.gr g).rank hC v)
  have HS := Lib.hid (fun w' (g : Gr w w') => (h.gr g).stand (hr.gr g) hC (C.takeWhile (aheadC v)).length)
  have e0 := get_rank2 v C 0
  rw [Nat.add_zero] at e0
  rw [e0, show (C.dropWhile (aheadC v))[0]? = (C.dropWhile (aheadC v)).head? from (List.head?_eq_getElem? ..).symm] at HS
  unfold seekP
  generalize toP .back (C.dropWhile (aheadC v)).head? = R at *
  generalize (C.takeWhile (aheadC v)).length = n at *
  obtain ⟨side, v0, hb⟩ := h.blk
  unfold ver at HK ⊢
  have g1 : Gr w (w.alloc (.cells #[.string (str v.key), .int .i64 v.seq, .int .i64 v.kind] 33)) := Gr.alloc _ _
  have d0 := (hb.gr g1).cell (i := 0) rfl
  obtain ⟨c0, c1, c2, _⟩ := (Blk.new w 33 #[.string (str v.key), .int .i64 v.seq, .int .i64 v.kind]).three
  clear h hr hb e0
  go_enter Try.func33, Try.ntmps33
  go_wp2
  refine region_tail_gr 7 _ [Is ?r0, Is ?r1, Is ?r2, Is ?r3, Is (.pointer (some ⟨gm, 0, none⟩)), Is (.agg #[.string (str v.key), .int .i64 v.seq, .int .i64 v.kind]), Is (.int .i64 (n : Int))] (by kernel_rfl) (by kernel_rfl) (by kernel_rfl) (by kernel_rfl) rfl rfl ⟨Is.stable _, Is.stable _, Is.stable _, Is.stable _, Is.stable _, Is.stable _, Is.stable _, trivial⟩ ⟨?s0, ?s1, ?s2, ?s3, ?s4, ?s5, ?s6, trivial⟩ ?fin
  case' s0 | s1 | s2 | s3 | s4 | s5 | s6 =>
    intro ρ wr hρ hg hK
    simp [readsOf, slotsOf, Op.operands, Call.operands, tmpOf, List.filterMap_cons, List.filterMap_nil, KnownAll, knownOf, srcOf, depsOf, dstOf, Region.binds, nth, Is] at hK
    obtain ⟨hc, hf, hgl⟩ := hρ
    try simp only [wantedBy, dstOf, boolOf, nth, List.getD_cons_zero, List.getD_cons_succ, List.getElem?_cons_zero, List.getElem?_cons_succ, Option.bind_some, if_true, hK, BEq.rfl]
    try go_simp
    first | exact rfl | (rw [if_pos (by omega)]; exact is_here rfl) | (rw [dif_pos (by omega)]; exact is_here rfl) | exact congrArg (Value.int _) (IntWalk.i64_in _ ⟨by omega, by omega⟩) | skip
  case s4 => have z := hg.cell d0; go_simp; exact rfl
  case s5 => have z0 := hg.cell c0; have z1 := hg.cell c1; have z2 := hg.cell c2; go_simp; exact rfl
  case s6 => exact any_gr (HK.out _ (g1.trans hg))
  case fin =>
    intro w1 val hg hH
    simp only [Holds, Is, Nat.zero_add, Nat.reduceAdd] at hH
    obtain ⟨h0, h1, h2, h3, h4, h5, h6, _⟩ := hH
    simp only [List.take_succ_cons, List.take_zero, List.drop_succ_cons, List.drop_zero, putAll, h0, h1, h2, h3, h4, h5, h6, Nat.zero_add, Nat.reduceAdd]
    go_simp
    go_wp2_with (first
      | (go_at_call 58; go_must (refine (HS.out _ (g1.trans hg)).mono ?_); rintro e w2 ⟨rfl, h2, h3⟩)
      | fail)
    go_ret
    exact ⟨rfl, h2, (g1.trans hg).chg.trans h3 (fun j e => .inl e)⟩
theorem RefAt.next_front (h : RefAt w gm hc .front) (hr : Rl w B gm C fz ad cap) (hC : C.length ≤ 1000000) :
    Calls Try.prog 34 #[.pointer (some ⟨hc, 0, none⟩)] w fun e w' => e = .returned (.int .i64 ((firstP C).1 : Int)) ∧ RefAt w' gm hc (firstP C).2 ∧ Chg (fun j => j = hc) w w' := by
  have HS := Lib.hid (h.first hr hC)
  generalize firstP C = R at *
  obtain ⟨v, hb⟩ := h
  obtain ⟨d0, d1, _⟩ := hb.five5
  clear hb hr
  go_enter Try.func34, Try.ntmps34
  go_wp2_with (first
    | (go_at_call 30; go_must (refine HS.out.mono ?_); rintro e w2 ⟨rfl, h2, h3⟩)
    | fail)
  go_ret
  exact ⟨rfl, h2, h3⟩
theorem RefAt.next_back (h : RefAt w gm hc .back) :
    Calls Try.prog 34 #[.pointer (some ⟨hc, 0, none⟩)] w fun e w' => e = .returned (.int .i64 15) ∧ RefAt w' gm hc .back ∧ Chg (fun j => j = hc) w w' := by
  have H := Lib.hid h
  obtain ⟨v, hb⟩ := h
  obtain ⟨d0, d1, _⟩ := hb.five5
  clear hb
  go_enter Try.func34, Try.ntmps34
  go_wp2
  go_ret
  exact ⟨rfl, H.out, Chg.refl _⟩
theorem RefAt.prev_back (h : RefAt w gm hc .back) (hr : Rl w B gm C fz ad cap) (hC : C.length ≤ 1000000) :
    Calls Try.prog 35 #[.pointer (some ⟨hc, 0, none⟩)] w fun e w' => e = .returned (.int .i64 ((lastP C).1 : Int)) ∧ RefAt w' gm hc (lastP C).2 ∧ Chg (fun j => j = hc) w w' := by
  have HS := Lib.hid (h.last hr hC)
  generalize lastP C = R at *
  obtain ⟨v, hb⟩ := h
  obtain ⟨d0, d1, _⟩ := hb.five5
  clear hb hr
  go_enter Try.func35, Try.ntmps35
  go_wp2_with (first
    | (go_at_call 32; go_must (refine HS.out.mono ?_); rintro e w2 ⟨rfl, h2, h3⟩)
    | fail)
  go_ret
  exact ⟨rfl, h2, h3⟩
theorem RefAt.prev_front (h : RefAt w gm hc .front) :
    Calls Try.prog 35 #[.pointer (some ⟨hc, 0, none⟩)] w fun e w' => e = .returned (.int .i64 15) ∧ RefAt w' gm hc .front ∧ Chg (fun j => j = hc) w w' := by
  have H := Lib.hid h
  obtain ⟨v, hb⟩ := h
  obtain ⟨d0, d1, _⟩ := hb.five5
  clear hb
  go_enter Try.func35, Try.ntmps35
  go_wp2
  go_ret
  exact ⟨rfl, H.out, Chg.refl _⟩
set_option maxRecDepth 100000 in
set_option maxHeartbeats 1000000 in
theorem RefAt.next_at (c : Ce) (h : RefAt w gm hc (.at_ c)) (hr : Rl w B gm C fz ad cap) (hC : C.length ≤ 1000000) :
    Calls Try.prog 34 #[.pointer (some ⟨hc, 0, none⟩)] w fun e w' => e = .returned (.int .i64 ((nextP C (.at_ c)).1 : Int)) ∧ RefAt w' gm hc (nextP C (.at_ c)).2 ∧ Chg (fun j => j = hc) w w' := by
  have HK := Lib.hid (fun w' (g : Gr w w') => (hr.gr g).rank hC c.vr)
  have HS := Lib.hid (fun w' (g : Gr w w') => (h.gr g).stand (hr.gr g) hC ((C.takeWhile (aheadC c.vr)).length + 1))
  have e0 := get_rank2 c.vr C 1
  rw [e0, show (C.dropWhile (aheadC c.vr))[1]? = (C.dropWhile (aheadC c.vr)).tail.head? by cases C.dropWhile (aheadC c.vr) with | nil => rfl | cons a t => simp [List.head?_eq_getElem?]] at HS
  unfold nextP
  simp only
  generalize toP .back (C.dropWhile (aheadC c.vr)).tail.head? = R at *
  have hle : (C.takeWhile (aheadC c.vr)).length ≤ C.length := (List.takeWhile_prefix _).length_le
  generalize (C.takeWhile (aheadC c.vr)).length = n at *
  obtain ⟨d0, d1, d2, d3, d4, _⟩ := (show Blk w hc 61 (rcV gm 0 c.vr) from h).five5
  generalize c.vr = v at *
  unfold ver at HK
  have hn : n ≤ 1000000 := by omega
  clear h hr e0 hle
  go_enter Try.func34, Try.ntmps34
  go_wp2
  refine region_tail_gr 11 _ [Is ?r0x1, Is ?r1x1, Is ?r2x1, Is ?r3x1, Is (.pointer (some ⟨gm, 0, none⟩)), Is ?r5x1, Is ?r6x1, Is ?r7x1, Is (.agg #[.string (str v.key), .int .i64 v.seq, .int .i64 v.kind]), Is (.int .i64 (n : Int)), Is (.int .i64 ((n + 1 : Nat) : Int))] (by kernel_rfl) (by kernel_rfl) (by kernel_rfl) (by kernel_rfl) rfl rfl ⟨Is.stable _, Is.stable _, Is.stable _, Is.stable _, Is.stable _, Is.stable _, Is.stable _, Is.stable _, Is.stable _, Is.stable _, Is.stable _, trivial⟩ ⟨?s0x1, ?s1x1, ?s2x1, ?s3x1, ?s4x1, ?s5x1, ?s6x1, ?s7x1, ?s8x1, ?s9x1, ?s10x1, trivial⟩ ?finx1
  case' s0x1 | s1x1 | s2x1 | s3x1 | s4x1 | s5x1 | s6x1 | s7x1 | s8x1 | s9x1 | s10x1 =>
    intro ρ wr hρ hg hK
    simp [readsOf, slotsOf, Op.operands, Call.operands, tmpOf, List.filterMap_cons, List.filterMap_nil, KnownAll, knownOf, srcOf, depsOf, dstOf, Region.binds, nth, Is] at hK
    obtain ⟨hc, hf, hgl⟩ := hρ
    try simp only [wantedBy, dstOf, boolOf, nth, List.getD_cons_zero, List.getD_cons_succ, List.getElem?_cons_zero, List.getElem?_cons_succ, Option.bind_some, if_true, hK, BEq.rfl]
    try go_simp
    first | exact rfl | (rw [if_pos (by omega)]; exact is_here rfl) | (rw [dif_pos (by omega)]; exact is_here rfl) | exact congrArg (Value.int _) (IntWalk.i64_in _ ⟨by omega, by omega⟩) | skip
  case s4x1 => have z := hg.cell d0; go_simp; exact rfl
  case s8x1 => have z0 := hg.cell d2; have z1 := hg.cell d3; have z2 := hg.cell d4; go_simp; exact rfl
  case s9x1 => exact any_gr (HK.out _ hg)
  case finx1 =>
    intro w1 val hg hH
    simp only [Holds, Is, Nat.zero_add, Nat.reduceAdd] at hH
    obtain ⟨h0, h1, h2, h3, h4, h5, h6, h7, h8, h9, h10, _⟩ := hH
    simp only [List.take_succ_cons, List.take_zero, List.drop_succ_cons, List.drop_zero, putAll, h0, h1, h2, h3, h4, h5, h6, h7, h8, h9, h10, Nat.zero_add, Nat.reduceAdd]
    go_simp
    go_wp2_with (first
      | (go_at_call 58; go_must (refine (HS.out _ hg).mono ?_); rintro e w2 ⟨rfl, h2, h3⟩)
      | fail)
    go_ret
    exact ⟨rfl, h2, hg.chg.trans h3 (fun j e => .inl e)⟩
set_option maxRecDepth 100000 in
set_option maxHeartbeats 1000000 in
theorem RefAt.prev_at (c : Ce) (h : RefAt w gm hc (.at_ c)) (hr : Rl w B gm C fz ad cap) (hC : C.length ≤ 1000000) :
    Calls Try.prog 35 #[.pointer (some ⟨hc, 0, none⟩)] w fun e w' => e = .returned (.int .i64 ((prevP C (.at_ c)).1 : Int)) ∧ RefAt w' gm hc (prevP C (.at_ c)).2 ∧ Chg (fun j => j = hc) w w' := by
  have HK := Lib.hid (fun w' (g : Gr w w') => (hr.gr g).rank hC c.vr)
  have hle : (C.takeWhile (aheadC c.vr)).length ≤ C.length := (List.takeWhile_prefix _).length_le
  have HS := Lib.hid (fun w' (g : Gr w w') => (h.gr g).stand1 (hr.gr g) hC _ hle)
  rw [take_rank] at HS
  unfold prevP
  simp only
  generalize toP .front (C.takeWhile (aheadC c.vr)).getLast? = R at *
  generalize (C.takeWhile (aheadC c.vr)).length = n at *
  obtain ⟨d0, d1, d2, d3, d4, _⟩ := (show Blk w hc 61 (rcV gm 0 c.vr) from h).five5
  generalize c.vr = v at *
  unfold ver at HK
  have hn : n ≤ 1000000 := by omega
  clear h hr hle
  go_enter Try.func35, Try.ntmps35
  go_wp2
  refine region_tail_gr 11 _ [Is ?r0x2, Is ?r1x2, Is ?r2x2, Is ?r3x2, Is (.pointer (some ⟨gm, 0, none⟩)), Is ?r5x2, Is ?r6x2, Is ?r7x2, Is (.agg #[.string (str v.key), .int .i64 v.seq, .int .i64 v.kind]), Is (.int .i64 (n : Int)), Is (.int .i64 ((n : Int) - 1))] (by kernel_rfl) (by kernel_rfl) (by kernel_rfl) (by kernel_rfl) rfl rfl ⟨Is.stable _, Is.stable _, Is.stable _, Is.stable _, Is.stable _, Is.stable _, Is.stable _, Is.stable _, Is.stable _, Is.stable _, Is.stable _, trivial⟩ ⟨?s0x2, ?s1x2, ?s2x2, ?s3x2, ?s4x2, ?s5x2, ?s6x2, ?s7x2, ?s8x2, ?s9x2, ?s10x2, trivial⟩ ?finx2
  case' s0x2 | s1x2 | s2x2 | s3x2 | s4x2 | s5x2 | s6x2 | s7x2 | s8x2 | s9x2 | s10x2 =>
    intro ρ wr hρ hg hK
    simp [readsOf, slotsOf, Op.operands, Call.operands, tmpOf, List.filterMap_cons, List.filterMap_nil, KnownAll, knownOf, srcOf, depsOf, dstOf, Region.binds, nth, Is] at hK
    obtain ⟨hc, hf, hgl⟩ := hρ
    try simp only [wantedBy, dstOf, boolOf, nth, List.getD_cons_zero, List.getD_cons_succ, List.getElem?_cons_zero, List.getElem?_cons_succ, Option.bind_some, if_true, hK, BEq.rfl]
    try go_simp
    first | exact rfl | (rw [if_pos (by omega)]; exact is_here rfl) | (rw [dif_pos (by omega)]; exact is_here rfl) | exact congrArg (Value.int _) (IntWalk.i64_in _ ⟨by omega, by omega⟩) | skip
  case s4x2 => have z := hg.cell d0; go_simp; exact rfl
  case s8x2 => have z0 := hg.cell d2; have z1 := hg.cell d3; have z2 := hg.cell d4; go_simp; exact rfl
  case s9x2 => exact any_gr (HK.out _ hg)
  case finx2 =>
    intro w1 val hg hH
    simp only [Holds, Is, Nat.zero_add, Nat.reduceAdd] at hH
    obtain ⟨h0, h1, h2, h3, h4, h5, h6, h7, h8, h9, h10, _⟩ := hH
    simp only [List.take_succ_cons, List.take_zero, List.drop_succ_cons, List.drop_zero, putAll, h0, h1, h2, h3, h4, h5, h6, h7, h8, h9, h10, Nat.zero_add, Nat.reduceAdd]
    go_simp
    go_wp2_with (first
      | (go_at_call 58; go_must (refine (HS.out _ hg).mono ?_); rintro e w2 ⟨rfl, h2, h3⟩)
      | fail)
    go_ret
    exact ⟨rfl, h2, hg.chg.trans h3 (fun j e => .inl e)⟩
end
end Go.Proofs.Ytnafhjgfkofkbaa
/- The reference of layer 11: Cell, Weight. -/
namespace Go.Proofs.Ytnafhjgfkofkbaa
set_option linter.unusedVariables false
set_option linter.unusedSimpArgs false
open Go.RowKit Ikey Varint
section
variable {w : World} {B gm hc : Nat} {C : List Ce} {fz : Bool} {ad : Option Addr} {cap : Nat}
theorem rcell_off (side : Int) (v : Vr) (hb : Blk w hc 61 (rcV gm side v)) (hs : side ≠ 0) :
    Calls Try.prog 37 #[.pointer (some ⟨hc, 0, none⟩)] w fun e w' => e = .returned (zcE 15) ∧ Gr w w' := by
  have g1 : Gr w (w.alloc (.cells #[.string ⟨#[]⟩, .int .i64 0, .int .i64 0, .string ⟨#[]⟩] 41)) := Gr.alloc _ _
  obtain ⟨d0, d1, _⟩ := (hb.gr g1).five5
  have hsb : (side != 0) = true := by rw [bne_iff_ne]; exact hs
  clear hb
  go_enter Try.func37, Try.ntmps37
  go_wp2
  refine bodyPost_ret (v := zcE 15) (by unfold zcE zeC; simp [results, Try.results37, go_sem]; try rfl) rfl ⟨rfl, ?_⟩
  exact Gr.alloc _ _
set_option maxRecDepth 100000 in
set_option maxHeartbeats 1000000 in
theorem rcell_at (c : Ce) (h : RefAt w gm hc (.at_ c)) (hr : Rl w B gm C fz ad cap) (hC : C.length ≤ 1000000) (hat : C[(C.takeWhile (aheadC c.vr)).length]? = some c) :
    Calls Try.prog 37 #[.pointer (some ⟨hc, 0, none⟩)] w fun e w' => e = .returned (.tuple #[ceV c, .int .i64 0]) ∧ Gr w w' := by
  have HK := Lib.hid (fun w' (g : Gr w w') => (hr.gr g).rank hC c.vr)
  obtain ⟨b, off, rfl, e0, e1, e2, e3⟩ := hr.at_ hat
  have hlt : (C.takeWhile (aheadC c.vr)).length < C.length := (List.getElem?_eq_some_iff.1 hat).1
  generalize (C.takeWhile (aheadC c.vr)).length = n at *
  have g1 : Gr w (w.alloc (.cells #[.string ⟨#[]⟩, .int .i64 0, .int .i64 0, .string ⟨#[]⟩] 41)) := Gr.alloc _ _
  obtain ⟨d0, d1, d2, d3, d4, _⟩ := ((show Blk w hc 61 (rcV gm 0 c.vr) from h).gr g1).five5
  have m0 := (hr.blk.gr g1).cell (i := 0) rfl
  have f0 := g1.cell e0; have f1 := g1.cell e1; have f2 := g1.cell e2; have f3 := g1.cell e3
  have HBx := Lib.hid (Blk.new w 41 #[.string ⟨#[]⟩, .int .i64 0, .int .i64 0, .string ⟨#[]⟩])
  unfold ver at HK
  have hk9 : (c.vr).key = c.key := rfl
  have hs9 : (c.vr).seq = (c.seq : Int) := rfl
  have hd9 : (c.vr).kind = (c.kind : Int) := rfl
  rw [hk9, hs9, hd9] at HK
  rw [hk9] at d2
  rw [hs9] at d3
  rw [hd9] at d4
  clear h hr hat e0 e1 e2 e3 hk9 hs9 hd9
  go_enter Try.func37, Try.ntmps37
  go_wp2
  refine region_tail_gr 18 _ [Is ?r0, Is ?r1, Is ?r2, Is (.pointer (some ⟨gm, 0, none⟩)), Is ?r4, Is ?r5, Is (.slice (some ⟨b, off, none⟩) C.length cap), Is ?r7, Is ?r8, Is ?r9, Is (.pointer (some ⟨gm, 0, none⟩)), Is ?r11, Is ?r12, Is ?r13, Is (.agg #[.string (str c.key), .int .i64 (c.seq : Int), .int .i64 (c.kind : Int)]), Is (.int .i64 (n : Int)), Is (.pointer (some ⟨b, off + n * 4, none⟩)), Is (.agg #[.string (str c.key), .int .i64 (c.seq : Int), .int .i64 (c.kind : Int), .string (str c.val)])] (by kernel_rfl) (by kernel_rfl) (by kernel_rfl) (by kernel_rfl) rfl rfl ⟨Is.stable _, Is.stable _, Is.stable _, Is.stable _, Is.stable _, Is.stable _, Is.stable _, Is.stable _, Is.stable _, Is.stable _, Is.stable _, Is.stable _, Is.stable _, Is.stable _, Is.stable _, Is.stable _, Is.stable _, Is.stable _, trivial⟩ ⟨?s0, ?s1, ?s2, ?s3, ?s4, ?s5, ?s6, ?s7, ?s8, ?s9, ?s10, ?s11, ?s12, ?s13, ?s14, ?s15, ?s16, ?s17, trivial⟩ ?fin
  case' s0 | s1 | s2 | s3 | s4 | s5 | s6 | s7 | s8 | s9 | s10 | s11 | s12 | s13 | s14 | s15 | s16 | s17 =>
    intro ρ wr hρ hg hK
    simp [readsOf, slotsOf, Op.operands, Call.operands, tmpOf, List.filterMap_cons, List.filterMap_nil, KnownAll, knownOf, srcOf, depsOf, dstOf, Region.binds, nth, Is] at hK
    obtain ⟨hc, hf, hgl⟩ := hρ
    try simp only [wantedBy, dstOf, boolOf, nth, List.getD_cons_zero, List.getD_cons_succ, List.getElem?_cons_zero, List.getElem?_cons_succ, Option.bind_some, if_true, hK, BEq.rfl]
    try go_simp
    first | exact rfl | (rw [if_pos (by omega)]; exact is_here rfl) | (rw [dif_pos (by omega)]; exact is_here rfl) | exact congrArg (Value.int _) (IntWalk.i64_in _ ⟨by omega, by omega⟩) | skip
  case s3 => have z := hg.cell d0; go_simp; exact rfl
  case s6 => have z := hg.cell m0; go_simp; exact rfl
  case s10 => have z := hg.cell d0; go_simp; exact rfl
  case s14 => have z0 := hg.cell d2; have z1 := hg.cell d3; have z2 := hg.cell d4; go_simp; exact rfl
  case s15 => exact any_gr (HK.out _ (g1.trans hg))
  case s17 => have z0 := hg.cell f0; have z1 := hg.cell f1; have z2 := hg.cell f2; have z3 := hg.cell f3; go_simp; exact rfl
  case fin =>
    intro w1 val hg hH
    simp only [Holds, Is, Nat.zero_add, Nat.reduceAdd] at hH
    obtain ⟨h0, h1, h2, h3, h4, h5, h6, h7, h8, h9, h10, h11, h12, h13, h14, h15, h16, h17, _⟩ := hH
    simp only [List.take_succ_cons, List.take_zero, List.drop_succ_cons, List.drop_zero, putAll, h0, h1, h2, h3, h4, h5, h6, h7, h8, h9, h10, h11, h12, h13, h14, h15, h16, h17, Nat.zero_add, Nat.reduceAdd]
    have hbx := HBx.out.gr hg
    go_simp
    refine wp_store_row rfl _ _ _ rfl rfl rfl hbx (n := 4) (by kernel_rfl) rfl rfl (by simp [Value.oneCell']) (cs' := [.string (str c.key), .int .i64 (c.seq : Int), .int .i64 (c.kind : Int), .string (str c.val)]) ?_
    intro w3 hb3 k3
    go_wp2
    refine bodyPost_ret (results_cell_tmp rfl rfl (load_blk hb3 Try.underlying41 rfl (n := 4) (by kernel_rfl) rfl)) rfl ⟨rfl, ?_⟩
    exact (g1.trans hg).of_far k3 (Nat.le_refl _)
end
end Go.Proofs.Ytnafhjgfkofkbaa
/- The reference of layer 11: Weight, Get. -/
namespace Go.Proofs.Ytnafhjgfkofkbaa
set_option linter.unusedVariables false
set_option linter.unusedSimpArgs false
open Go.RowKit Ikey Varint
theorem weigh_take {C : List Ce} {i : Nat} {c : Ce} (h : C[i]? = some c) : weighF (C.take (i + 1)) = weighF (C.take i) + (c.key.length + c.val.length + 8) := by
  rw [List.take_add_one, h, weighF_append]
  simp [weighF]
theorem weigh_bound {C : List Ce} (hb : ∀ c ∈ C, c.key.length ≤ 64 ∧ c.val.length ≤ 1000) : weighF C ≤ 1072 * C.length := by
  induction C with
  | nil => exact Nat.le_refl _
  | cons c C ih =>
    have h1 := ih fun x hx => hb x (List.mem_cons_of_mem _ hx)
    have h2 := hb c List.mem_cons_self
    rw [weighF, List.length_cons]; omega
set_option maxRecDepth 100000 in
set_option maxHeartbeats 2000000 in
theorem rWeight_any {w : World} {B gm : Nat} {C : List Ce} {fz : Bool} {ad : Option Addr} {cap : Nat} (hr : Rl w B gm C fz ad cap) (hC : C.length ≤ 1000000) (hb : ∀ c ∈ C, c.key.length ≤ 64 ∧ c.val.length ≤ 1000) :
    Calls Try.prog 36 #[.pointer (some ⟨gm, 0, none⟩)] w fun e w' => e = .returned (.int .i64 (weighF C : Int)) ∧ Gr w w' := by
  have m0 := hr.blk.cell (i := 0) rfl
  have HA := Lib.hid (fun i c (h : C[i]? = some c) => hr.at_ h)
  have HB := Lib.hid hb
  clear hr hb
  go_enter Try.func36, Try.ntmps36
  go_wp2
  go_loopw [3, 4] (fun vs vi wr => ∃ i : Nat, i ≤ C.length ∧ vs = .int .i64 (weighF (C.take i) : Int) ∧ vi = .int .i64 (i : Int) ∧ Gr w wr) (fun _ vi _ => C.length - (intOf vi).toNat)
  case atStart => exact ⟨0, Nat.zero_le _, rfl, rfl, Gr.refl _⟩
  case round =>
    obtain ⟨i, hi, rfl, rfl, hg⟩ := hrel
    have n0 := hg.cell m0
    by_cases hlt : i < C.length
    · have hat : C[i]? = some C[i] := List.getElem?_eq_getElem hlt
      obtain ⟨b, off, rfl, e0, e1, e2, e3⟩ := HA.out i _ hat
      have f0 := hg.cell e0
      have f3 := hg.cell e3
      have hw := Lib.hid (weigh_take hat)
      obtain ⟨hk, hv⟩ := HB.out C[i] (List.getElem_mem hlt)
      have hwb : weighF (C.take i) ≤ 1072000000 := by
        have := weigh_bound (C := C.take i) (fun c hc => HB.out c (List.mem_of_mem_take hc))
        rw [List.length_take] at this; omega
      clear hat e0 e1 e2 e3
      generalize C[i] = c at *
      generalize weighF (C.take i) = s at *
      have a1 : IntKind.i64.wrap ((s : Int) + (c.key.length : Int)) = (s : Int) + (c.key.length : Int) := IntWalk.i64_in _ (by constructor <;> omega)
      have a2 : IntKind.i64.wrap ((s : Int) + (c.key.length : Int) + (c.val.length : Int)) = (s : Int) + (c.key.length : Int) + (c.val.length : Int) := IntWalk.i64_in _ (by constructor <;> omega)
      have a3 : IntKind.i64.wrap ((s : Int) + (c.key.length : Int) + (c.val.length : Int) + 8) = (s : Int) + (c.key.length : Int) + (c.val.length : Int) + 8 := IntWalk.i64_in _ (by constructor <;> omega)
      go_wp2
      go_quiet (fail)
      clear a1 a2 a3 f0 f3
      go_wp2
      go_roundw
      case rel => exact ⟨i + 1, hlt, by rw [hw.out]; congr 1; omega, by go_num, hg.trans (Gr.drewN _ _)⟩
      case measure => simp [intOf]; omega
    · have he := Lib.hid (show weighF (C.take i) = weighF C by rw [List.take_of_length_le (by omega)])
      go_wp2
      go_ret
      exact ⟨by rw [← he.out]; rfl, hg⟩
end Go.Proofs.Ytnafhjgfkofkbaa
/- The reference of layer 11: Get. -/
namespace Go.Proofs.Ytnafhjgfkofkbaa
set_option linter.unusedVariables false
set_option linter.unusedSimpArgs false
open Go.RowKit Ikey Varint
def fits (key : List UInt8) (s : Int) (c : Ce) : Bool := decide (c.key = key) && decide ((c.seq : Int) ≤ s)
set_option maxRecDepth 100000 in
set_option maxHeartbeats 2000000 in
theorem rGet_any {w : World} {B gm : Nat} {C : List Ce} {fz : Bool} {ad : Option Addr} {cap : Nat} (hr : Rl w B gm C fz ad cap) (hC : C.length ≤ 1000000) (key : List UInt8) (s : Int) :
    Calls Try.prog 28 #[.pointer (some ⟨gm, 0, none⟩), .string (str key), .int .i64 s] w fun e w' => e = .returned (ceO (C.find? (fits key s))) ∧ Gr w w' := by
  have g1 : Gr w (w.alloc (.cells #[.string ⟨#[]⟩, .int .i64 0, .int .i64 0, .string ⟨#[]⟩] 41)) := Gr.alloc _ _
  have m0 := (hr.blk.gr g1).cell (i := 0) rfl
  have HA := Lib.hid (fun i c (h : C[i]? = some c) => (hr.gr g1).at_ h)
  have HBx := Lib.hid (Blk.new w 41 #[.string ⟨#[]⟩, .int .i64 0, .int .i64 0, .string ⟨#[]⟩])
  clear hr
  go_enter Try.func28, Try.ntmps28
  go_wp2
  go_loopw [8] (fun vi wr => ∃ i : Nat, i ≤ C.length ∧ vi = .int .i64 (i : Int) ∧ Gr (w.alloc (.cells #[.string ⟨#[]⟩, .int .i64 0, .int .i64 0, .string ⟨#[]⟩] 41)) wr ∧ C.find? (fits key s) = (C.drop i).find? (fits key s)) (fun vi _ => C.length - (intOf vi).toNat)
  case atStart => exact ⟨0, Nat.zero_le _, rfl, Gr.refl _, by simp⟩
  case round =>
    obtain ⟨i, hi, rfl, hg, hf⟩ := hrel
    have n0 := hg.cell m0
    have hbx := Lib.hid (HBx.out.gr hg)
    by_cases hlt : i < C.length
    · have hat : C[i]? = some C[i] := List.getElem?_eq_getElem hlt
      obtain ⟨b, off, rfl, e0, e1, e2, e3⟩ := HA.out i _ hat
      have f0 := hg.cell e0
      have f1 := hg.cell e1
      have f2 := hg.cell e2
      have f3 := hg.cell e3
      rw [List.drop_eq_getElem_cons hlt, List.find?_cons] at hf
      clear hat e0 e1 e2 e3
      generalize C[i] = c at *
      by_cases hk : c.key = key
      · have bk : (c.key == key) = true := by rw [beq_iff_eq]; exact hk
        by_cases hs : (c.seq : Int) ≤ s
        · rw [show fits key s c = true by unfold fits; simp [hk, hs]] at hf
          have HF := Lib.hid hf
          clear hf hk HA
          go_wp2_with (first
            | ((with_reducible show Go.wpList _ _ _ (Oper.mk _ (Op.store 41 _ _) _ _ _ _ :: _) _ _); refine wp_store_row rfl _ _ _ rfl rfl rfl hbx.out (n := 4) (by kernel_rfl) rfl rfl (by simp [Value.oneCell']) (cs' := [.string (str c.key), .int .i64 (c.seq : Int), .int .i64 (c.kind : Int), .string (str c.val)]) ?_; intro w3 hb3 k3)
            | fail)
          refine bodyPost_ret (results_cell_tmp rfl rfl (load_blk hb3 Try.underlying41 rfl (n := 4) (by kernel_rfl) rfl)) rfl ⟨?_, ?_⟩
          · rw [HF.out]; rfl
          · exact (g1.trans hg).of_far k3 (Nat.le_refl _)
        · rw [show fits key s c = false by unfold fits; simp [hs]] at hf
          have HF := Lib.hid hf
          clear hf hk
          go_wp2
          go_roundw
          case rel => exact ⟨i + 1, hlt, by go_num, hg, HF.out⟩
          case measure => simp [intOf]; omega
      · have bk : (c.key == key) = false := by rw [beq_eq_false_iff_ne]; exact hk
        rw [show fits key s c = false by unfold fits; simp [hk]] at hf
        have HF := Lib.hid hf
        clear hf hk
        go_wp2
        go_roundw
        case rel => exact ⟨i + 1, hlt, by go_num, hg, HF.out⟩
        case measure => simp [intOf]; omega
    · rw [List.drop_of_length_le (by omega)] at hf
      have HF := Lib.hid hf
      clear hf
      go_wp2_with (first
        | ((with_reducible show Go.wpList _ _ _ (Oper.mk _ (Op.store 41 _ _) _ _ _ _ :: _) _ _); refine wp_store_row rfl _ _ _ rfl rfl rfl hbx.out (n := 4) (by kernel_rfl) rfl rfl (by simp [Value.oneCell']) (cs' := [.string ⟨#[]⟩, .int .i64 0, .int .i64 0, .string ⟨#[]⟩]) ?_; intro w3 hb3 k3)
        | fail)
      refine bodyPost_ret (results_cell_tmp rfl rfl (load_blk hb3 Try.underlying41 rfl (n := 4) (by kernel_rfl) rfl)) rfl ⟨?_, ?_⟩
      · rw [HF.out]; rfl
      · exact (g1.trans hg).of_far k3 (Nat.le_refl _)
end Go.Proofs.Ytnafhjgfkofkbaa
/- Layer 11 (skip): what is sought of a key by going through all is what is sought by its place. -/
namespace Go.Proofs.Ytnafhjgfkofkbaa
set_option linter.unusedVariables false
set_option linter.unusedSimpArgs false
open Go.RowKit Ikey Varint
open Go.Op (bytesLess)
theorem find_none {α : Type} {p : α → Bool} {l : List α} (h : ∀ x ∈ l, p x = false) : l.find? p = none := by
  rw [List.find?_eq_none]
  intro x hx e
  rw [h x hx] at e
  cases e
theorem mem_take {α : Type} {p : α → Bool} : ∀ {l : List α}, ∀ x ∈ l.takeWhile p, p x = true
  | [], x, h => by simp at h
  | y :: l, x, h => by
    rw [List.takeWhile_cons] at h
    cases e : p y with
    | true =>
      rw [e, if_pos rfl] at h
      rcases List.mem_cons.1 h with rfl | h
      · exact e
      · exact mem_take x h
    | false => rw [e, if_neg (by decide)] at h; simp at h
theorem find_getC {C : List Ce} (hs : C.Pairwise fun a b => vless a.vr b.vr = true) (hq : ∀ c ∈ C, c.seq ≤ 72057594037927935 ∧ c.kind ≤ 1) (key : List UInt8) (s : Int) : C.find? (fits key s) = getC C key s := by
  have hsp : C = C.takeWhile (aheadC ⟨key, clampF s, 1⟩) ++ C.dropWhile (aheadC ⟨key, clampF s, 1⟩) := (List.takeWhile_append_dropWhile).symm
  have hA : ∀ c ∈ C.takeWhile (aheadC ⟨key, clampF s, 1⟩), vless c.vr ⟨key, clampF s, 1⟩ = true := fun c hc => mem_take c hc
  have hD : ∀ x D, C.dropWhile (aheadC ⟨key, clampF s, 1⟩) = x :: D → vless x.vr ⟨key, clampF s, 1⟩ = false := fun x D e => by
    have := List.head?_dropWhile_not (aheadC ⟨key, clampF s, 1⟩) C
    rw [e] at this
    simpa [aheadC] using this
  unfold getC
  generalize C.takeWhile (aheadC ⟨key, clampF s, 1⟩) = A at *
  generalize C.dropWhile (aheadC ⟨key, clampF s, 1⟩) = D at *
  by_cases h0 : 0 ≤ s
  · have hA2 : ∀ c ∈ A, fits key s c = false := fun c hc => by
      have h1 := (vless_iff _ _).1 (hA c hc)
      have h2 := hq c (by rw [hsp]; exact List.mem_append_left _ hc)
      unfold fits
      rw [Bool.and_eq_false_iff]
      rcases h1 with h1 | ⟨h1, h3⟩
      · exact .inl (decide_eq_false fun e => by
          have h4 : bytesLess c.key key = true := h1
          rw [e, bl_irr] at h4; cases h4)
      · refine .inr (decide_eq_false fun e => ?_)
        have h3 : clampF s < (c.seq : Int) ∨ ((c.seq : Int) = clampF s ∧ (1 : Int) < (c.kind : Int)) := h3
        unfold clampF at h3
        omega
    rw [hsp, List.find?_append, find_none hA2, Option.none_or]
    cases D with
    | nil => rfl
    | cons x D =>
      have h1 := hD x D rfl
      simp only
      by_cases hk : x.key = key
      · rw [if_pos ⟨h0, hk⟩, List.find?_cons]
        have : fits key s x = true := by
          unfold fits
          rw [Bool.and_eq_true, decide_eq_true_eq, decide_eq_true_eq]
          refine ⟨hk, ?_⟩
          have h2 : ¬ clampF s < (x.seq : Int) := fun e => by
            have : vless x.vr ⟨key, clampF s, 1⟩ = true := (vless_iff _ _).2 (.inr ⟨hk, .inl e⟩)
            rw [h1] at this; cases this
          unfold clampF at h2
          omega
        rw [this]
      · rw [if_neg (fun e => hk e.2)]
        refine find_none fun y hy => ?_
        have hkx : bytesLess key x.key = true := by
          cases hb : bytesLess key x.key with
          | true => rfl
          | false =>
            exfalso
            refine hk (bl_total ?_ hb)
            cases hb2 : bytesLess x.key key with
            | false => rfl
            | true =>
              have : vless x.vr ⟨key, clampF s, 1⟩ = true := (vless_iff _ _).2 (.inl hb2)
              rw [h1] at this; cases this
        unfold fits
        rw [Bool.and_eq_false_iff]
        refine .inl (decide_eq_false fun e => ?_)
        rcases List.mem_cons.1 hy with rfl | hy
        · exact hk e
        · rw [hsp] at hs
          have h3 := (vless_iff _ _).1 ((pair_at hs).2 y hy)
          have h4 : bytesLess key y.key = true := by
            rcases h3 with h3 | ⟨h3, _⟩
            · exact bl_trans hkx h3
            · rw [← show x.key = y.key from h3]; exact hkx
          rw [e, bl_irr] at h4
          cases h4
  · rw [find_none (fun c _ => by unfold fits; rw [Bool.and_eq_false_iff]; exact .inr (decide_eq_false (by omega)))]
    cases D with
    | nil => rfl
    | cons x D => simp only; rw [if_neg (fun e => h0 e.1)]
end Go.Proofs.Ytnafhjgfkofkbaa
/- Layer 11 (skip): what no list, no cursor and a list that is freed tell. -/
namespace Go.Proofs.Ytnafhjgfkofkbaa
set_option linter.unusedVariables false
set_option linter.unusedSimpArgs false
open Go.RowKit Ikey Varint
theorem none_any (w : World) : Calls Try.prog 22 #[] w fun e w' => e = .returned (.pointer none) ∧ w = w' := by
  go_enter Try.func22, Try.ntmps22
  go_wp2
  go_ret
  exact ⟨rfl, rfl⟩
theorem nowhere_any (w : World) : Calls Try.prog 24 #[] w fun e w' => e = .returned (.pointer none) ∧ w = w' := by
  go_enter Try.func24, Try.ntmps24
  go_wp2
  go_ret
  exact ⟨rfl, rfl⟩
theorem Count_nil (w : World) : Calls Try.prog 25 #[.pointer none] w fun e w' => e = .returned (.int .i64 0) ∧ w = w' := by
  go_enter Try.func25, Try.ntmps25
  go_wp2
  go_ret
  exact ⟨rfl, rfl⟩
theorem Weight_nil (w : World) : Calls Try.prog 26 #[.pointer none] w fun e w' => e = .returned (.int .i64 0) ∧ w = w' := by
  go_enter Try.func26, Try.ntmps26
  go_wp2
  go_ret
  exact ⟨rfl, rfl⟩
theorem checkC_nil (w : World) : Calls Try.prog 53 #[.pointer none] w fun e w' => e = .returned (.int .i64 1) ∧ w = w' := by
  go_enter Try.func53, Try.ntmps53
  go_wp2
  go_ret
  exact ⟨rfl, rfl⟩
theorem Next_nil (w : World) : Calls Try.prog 19 #[.pointer none] w fun e w' => e = .returned (.int .i64 1) ∧ w = w' := by
  have HC := Lib.hid (checkC_nil w)
  go_enter Try.func19, Try.ntmps19
  go_wp2_with (first
    | (go_at_call 53; go_must (refine HC.out.mono ?_); rintro e w2 ⟨rfl, rfl⟩)
    | fail)
  go_ret
  exact ⟨rfl, rfl⟩
theorem Cell_nil (w : World) : Calls Try.prog 17 #[.pointer none] w fun e w' => e = .returned (zcE 1) ∧ Gr w w' := by
  have g1 := Gr.alloc w (.cells #[.string ⟨#[]⟩, .int .i64 0, .int .i64 0, .string ⟨#[]⟩] 41)
  have HC := Lib.hid (fun w => checkC_nil w)
  go_enter Try.func17, Try.ntmps17
  go_wp2_with (first
    | (go_at_call 53; go_must (refine (HC.out _).mono ?_); rintro e w2 ⟨rfl, rfl⟩)
    | fail)
  refine bodyPost_ret (v := zcE 1) (by unfold zcE zeC; simp [results, Try.results17, go_sem]; try rfl) rfl ⟨rfl, ?_⟩
  exact Gr.alloc _ _
section
variable {w : World} {g gl gc : Nat} {L : Ls} {side : Int} {q : Nat × Nat}
theorem Next_gone (hc : Blk w gc 101 (curV gl side q)) (hb : Blk w gl 80 (lstV g L)) (hd : L.fd = true) :
    Calls Try.prog 19 #[.pointer (some ⟨gc, 0, none⟩)] w fun e w' => e = .returned (.int .i64 3) ∧ w = w' := by
  have HC := Lib.hid (checkC_any w g gl gc L side q hc hb)
  rw [hd, if_pos rfl] at HC
  clear hc hb
  go_enter Try.func19, Try.ntmps19
  go_wp2_with (first
    | (go_at_call 53; go_must (refine HC.out.mono ?_); rintro e w2 ⟨rfl, rfl⟩)
    | fail)
  go_ret
  exact ⟨rfl, rfl⟩
theorem Cell_gone (hc : Blk w gc 101 (curV gl side q)) (hb : Blk w gl 80 (lstV g L)) (hd : L.fd = true) :
    Calls Try.prog 17 #[.pointer (some ⟨gc, 0, none⟩)] w fun e w' => e = .returned (zcE 3) ∧ Gr w w' := by
  have g1 := Gr.alloc w (.cells #[.string ⟨#[]⟩, .int .i64 0, .int .i64 0, .string ⟨#[]⟩] 41)
  have HC := Lib.hid (checkC_any _ g gl gc L side q (hc.gr g1) (hb.gr g1))
  rw [hd, if_pos rfl] at HC
  clear hc hb
  go_enter Try.func17, Try.ntmps17
  go_wp2_with (first
    | (go_at_call 53; go_must (refine HC.out.mono ?_); rintro e w2 ⟨rfl, rfl⟩)
    | fail)
  refine bodyPost_ret (v := zcE 3) (by unfold zcE zeC; simp [results, Try.results17, go_sem]; try rfl) rfl ⟨rfl, ?_⟩
  exact Gr.alloc _ _
theorem Get_gone (hb : Blk w gl 80 (lstV g L)) (hd : L.fd = true) (key : List UInt8) (s : Int) :
    Calls Try.prog 27 #[.pointer (some ⟨gl, 0, none⟩), .string (str key), .int .i64 s] w fun e w' => e = .returned (zcE 12) ∧ Gr w w' := by
  have g1 := Gr.alloc w (.cells #[.string ⟨#[]⟩, .int .i64 0, .int .i64 0, .string ⟨#[]⟩] 41)
  obtain ⟨_, _, _, c30⟩ := lst_tail (hb.gr g1)
  rw [hd] at c30
  clear hb
  go_enter Try.func27, Try.ntmps27
  go_wp2
  refine bodyPost_ret (v := zcE 12) (by unfold zcE zeC; simp [results, Try.results27, go_sem]; try rfl) rfl ⟨rfl, ?_⟩
  exact Gr.alloc _ _
end
end Go.Proofs.Ytnafhjgfkofkbaa
/- Layer 11 (skip): a cursor of the list, as a plain place. -/
namespace Go.Proofs.Ytnafhjgfkofkbaa
set_option linter.unusedVariables false
set_option linter.unusedSimpArgs false
open Go.RowKit Ikey Varint
def RealAt (w : World) (gl gc : Nat) (N : List Nd) : Ps → Prop
  | .front => ∃ q, Blk w gc 101 (curV gl 0 q)
  | .back => ∃ q, Blk w gc 101 (curV gl 2 q)
  | .at_ c => ∃ x ∈ N, x.c = c ∧ Blk w gc 101 (curV gl 1 (x.off, x.size))
theorem RealAt.map {w w' : World} {gl gc : Nat} {N N' : List Nd} {P : Ps} (h : RealAt w gl gc N P) (hN : ∀ x ∈ N, x ∈ N') (k : ∀ cs, Blk w gc 101 cs → Blk w' gc 101 cs) : RealAt w' gl gc N' P := by
  cases P with
  | front => obtain ⟨q, h⟩ := h; exact ⟨q, k _ h⟩
  | back => obtain ⟨q, h⟩ := h; exact ⟨q, k _ h⟩
  | at_ c => obtain ⟨x, hx, e, h⟩ := h; exact ⟨x, hN x hx, e, k _ h⟩
theorem real_to {w' : World} {gl gc : Nat} {N : List Nd} {q : Nat × Nat} (o : Option Nd) (ho : ∀ x, o = some x → x ∈ N) {off : Int} {F : Ps} (hF : (off = 0 ∧ F = .front) ∨ (off = 2 ∧ F = .back)) (hb : Blk w' gc 101 (curV gl (stS off o) (stQ q o))) :
    stE o = ((toP F (o.map (·.c))).1 : Int) ∧ RealAt w' gl gc N (toP F (o.map (·.c))).2 := by
  cases o with
  | none =>
    rcases hF with ⟨rfl, rfl⟩ | ⟨rfl, rfl⟩
    · exact ⟨rfl, q, hb⟩
    · exact ⟨rfl, q, hb⟩
  | some x => exact ⟨rfl, x, ho x rfl, rfl, hb⟩
theorem head_cells (N : List Nd) : (cellsN N).head? = N.head?.map (·.c) := by cases N <;> rfl
theorem last_cells (N : List Nd) : (cellsN N).getLast? = N.getLast?.map (·.c) := by unfold cellsN; rw [List.getLast?_map]
theorem drop_split {α : Type} {p : α → Bool} {a : List α} {x : α} {b : List α} (ha : ∀ y ∈ a, p y = true) (hx : p x = false) : (a ++ x :: b).takeWhile p = a ∧ (a ++ x :: b).dropWhile p = x :: b := by
  induction a with
  | nil => simp [List.takeWhile_cons, List.dropWhile_cons, hx]
  | cons y a ih =>
    obtain ⟨h1, h2⟩ := ih (fun z hz => ha z (List.mem_cons_of_mem _ hz))
    have hy := ha y List.mem_cons_self
    rw [List.cons_append, List.takeWhile_cons, List.dropWhile_cons, hy, if_pos rfl, if_pos rfl, h1, h2]
    exact ⟨rfl, rfl⟩
theorem cells_split {w0 w : World} {S : Nat → Prop} {g gl : Nat} {p : PoolF} {L : Ls} {N a b : List Nd} {x : Nd} (h : Sl w0 w S g gl p L N) (hN : N = a ++ x :: b) : (cellsN N).takeWhile (aheadC x.c.vr) = cellsN a ∧ (cellsN N).dropWhile (aheadC x.c.vr) = cellsN (x :: b) := by
  obtain ⟨h1, h2⟩ := split_at h.st.sorted hN
  obtain ⟨h3, h4⟩ := drop_split (p := fun y : Nd => aheadC x.c.vr y.c) (a := a) (x := x) (b := b) (fun y hy => h1 y hy) (h2 x List.mem_cons_self)
  rw [take_map, drop_map, hN, h3, h4]
  exact ⟨rfl, rfl⟩
section
variable {w0 w : World} {S : Nat → Prop} {g gl gc : Nat} {p : PoolF} {L : Ls} {N : List Nd} {P : Ps}
theorem RealAt.blk (h : RealAt w gl gc N P) : ∃ side q, Blk w gc 101 (curV gl side q) := by
  cases P with
  | front => obtain ⟨q, h⟩ := h; exact ⟨_, _, h⟩
  | back => obtain ⟨q, h⟩ := h; exact ⟨_, _, h⟩
  | at_ c => obtain ⟨x, hx, e, h⟩ := h; exact ⟨_, _, h⟩
theorem RealAt.first (h : RealAt w gl gc N P) (hs : Sl w0 w S g gl p L N) :
    Calls Try.prog 29 #[.pointer (some ⟨gc, 0, none⟩)] w fun e w' => e = .returned (.int .i64 ((firstP (cellsN N)).1 : Int)) ∧ RealAt w' gl gc N (firstP (cellsN N)).2 ∧ Chg (fun j => j = gc) w w' := by
  obtain ⟨side, q, hb⟩ := h.blk
  refine (First_sl hs hb).mono ?_
  rintro e w' ⟨he, h1, h2⟩
  rw [first_head hs.pos] at he h1
  obtain ⟨r1, r2⟩ := real_to (N := N) N.head? (fun x hx => List.mem_of_mem_head? (by simpa using hx)) (.inr ⟨rfl, rfl⟩) h1
  unfold firstP
  rw [head_cells, ← r1]
  exact ⟨he, r2, h2⟩
theorem RealAt.last (h : RealAt w gl gc N P) (hs : Sl w0 w S g gl p L N) :
    Calls Try.prog 31 #[.pointer (some ⟨gc, 0, none⟩)] w fun e w' => e = .returned (.int .i64 ((lastP (cellsN N)).1 : Int)) ∧ RealAt w' gl gc N (lastP (cellsN N)).2 ∧ Chg (fun j => j = gc) w w' := by
  obtain ⟨side, q, hb⟩ := h.blk
  refine (Last_sl hs hb).mono ?_
  rintro e w' ⟨he, h1, h2⟩
  rw [last_get hs.pos] at he h1
  obtain ⟨r1, r2⟩ := real_to (N := N) N.getLast? (fun x hx => List.mem_of_getLast? hx) (.inl ⟨rfl, rfl⟩) h1
  unfold lastP
  rw [last_cells, ← r1]
  exact ⟨he, r2, h2⟩
theorem RealAt.next (h : RealAt w gl gc N P) (hs : Sl w0 w S g gl p L N) :
    Calls Try.prog 19 #[.pointer (some ⟨gc, 0, none⟩)] w fun e w' => e = .returned (.int .i64 ((nextP (cellsN N) P).1 : Int)) ∧ RealAt w' gl gc N (nextP (cellsN N) P).2 ∧ Chg (fun j => j = gc) w w' := by
  cases P with
  | front =>
    obtain ⟨q, hb⟩ := h
    refine (Next_front hs hb).mono ?_
    rintro e w' ⟨he, h1, h2⟩
    rw [first_head hs.pos] at he h1
    obtain ⟨r1, r2⟩ := real_to (N := N) N.head? (fun x hx => List.mem_of_mem_head? (by simpa using hx)) (.inr ⟨rfl, rfl⟩) h1
    unfold nextP firstP
    rw [head_cells, ← r1]
    exact ⟨he, r2, h2⟩
  | back =>
    obtain ⟨q, hb⟩ := h
    refine (Next_back hs hb).mono ?_
    rintro e w' ⟨he, rfl⟩
    exact ⟨he, ⟨q, hb⟩, Chg.refl _⟩
  | at_ c =>
    obtain ⟨x, hx, rfl, hb⟩ := h
    obtain ⟨a, b, hN⟩ := List.append_of_mem hx
    refine (Next_at hs hN hb).mono ?_
    rintro e w' ⟨he, h1, h2⟩
    rw [first_head (fun y hy => hs.pos y (by rw [hN]; simp [hy]))] at he h1
    obtain ⟨r1, r2⟩ := real_to (N := N) b.head? (fun y hy => by rw [hN]; have := List.mem_of_mem_head? (show y ∈ b.head? by simpa using hy); simp [this]) (.inr ⟨rfl, rfl⟩) h1
    unfold nextP
    simp only
    rw [(cells_split hs hN).2, show (cellsN (x :: b)).tail.head? = b.head?.map (·.c) from head_cells b, ← r1]
    exact ⟨he, r2, h2⟩
theorem RealAt.prev (h : RealAt w gl gc N P) (hs : Sl w0 w S g gl p L N) :
    Calls Try.prog 18 #[.pointer (some ⟨gc, 0, none⟩)] w fun e w' => e = .returned (.int .i64 ((prevP (cellsN N) P).1 : Int)) ∧ RealAt w' gl gc N (prevP (cellsN N) P).2 ∧ Chg (fun j => j = gc) w w' := by
  cases P with
  | front =>
    obtain ⟨q, hb⟩ := h
    refine (Prev_front hs hb).mono ?_
    rintro e w' ⟨he, rfl⟩
    exact ⟨he, ⟨q, hb⟩, Chg.refl _⟩
  | back =>
    obtain ⟨q, hb⟩ := h
    refine (Prev_back hs hb).mono ?_
    rintro e w' ⟨he, h1, h2⟩
    rw [last_get hs.pos] at he h1
    obtain ⟨r1, r2⟩ := real_to (N := N) N.getLast? (fun x hx => List.mem_of_getLast? hx) (.inl ⟨rfl, rfl⟩) h1
    unfold prevP lastP
    rw [last_cells, ← r1]
    exact ⟨he, r2, h2⟩
  | at_ c =>
    obtain ⟨x, hx, rfl, hb⟩ := h
    obtain ⟨a, b, hN⟩ := List.append_of_mem hx
    refine (Prev_at hs hN hb).mono ?_
    rintro e w' ⟨he, h1, h2⟩
    rw [last_get (fun y hy => hs.pos y (by rw [hN]; simp [hy]))] at he h1
    obtain ⟨r1, r2⟩ := real_to (N := N) a.getLast? (fun y hy => by rw [hN]; have := List.mem_of_getLast? hy; simp [this]) (.inl ⟨rfl, rfl⟩) h1
    unfold prevP
    simp only
    rw [(cells_split hs hN).1, last_cells, ← r1]
    exact ⟨he, r2, h2⟩
theorem RealAt.seek (h : RealAt w gl gc N P) (hs : Sl w0 w S g gl p L N) (v : Vr) :
    Calls Try.prog 16 #[.pointer (some ⟨gc, 0, none⟩), ver v.key v.seq v.kind] w fun e w' => e = .returned (.int .i64 ((seekP (cellsN N) v).1 : Int)) ∧ RealAt w' gl gc N (seekP (cellsN N) v).2 ∧ Chg (fun j => j = gc) w w' := by
  obtain ⟨side, q, hb⟩ := h.blk
  obtain ⟨hA, hB⟩ := split_sorted v hs.st.sorted
  have hsp : N = N.takeWhile (fun x => aheadC v x.c) ++ N.dropWhile (fun x => aheadC v x.c) := (List.takeWhile_append_dropWhile).symm
  have hdr := drop_map (aheadC v) N
  unfold seekP
  rw [hdr]
  generalize N.takeWhile (fun x => aheadC v x.c) = A at *
  generalize N.dropWhile (fun x => aheadC v x.c) = D at *
  refine (Seek_sl hs v hsp hA hB hb).mono ?_
  rintro e w' ⟨he, h1, h2⟩
  rw [first_head (fun y hy => hs.pos y (by rw [hsp]; exact List.mem_append_right _ hy))] at he h1
  obtain ⟨r1, r2⟩ := real_to (N := N) D.head? (fun y hy => by rw [hsp]; exact List.mem_append_right _ (List.mem_of_mem_head? (show y ∈ D.head? by simpa using hy))) (.inr ⟨rfl, rfl⟩) h1
  rw [head_cells, ← r1]
  exact ⟨he, r2, h2⟩
/-- what a cursor tells where it stands -/
def cellP : Ps → Value
  | .front => zcE 15
  | .back => zcE 15
  | .at_ c => .tuple #[ceV c, .int .i64 0]
theorem RealAt.cell (h : RealAt w gl gc N P) (hs : Sl w0 w S g gl p L N) :
    Calls Try.prog 17 #[.pointer (some ⟨gc, 0, none⟩)] w fun e w' => e = .returned (cellP P) ∧ Gr w w' := by
  cases P with
  | front => obtain ⟨q, hb⟩ := h; exact Cell_off hs hb (by decide)
  | back => obtain ⟨q, hb⟩ := h; exact Cell_off hs hb (by decide)
  | at_ c =>
    obtain ⟨x, hx, rfl, hb⟩ := h
    obtain ⟨a, b, hN⟩ := List.append_of_mem hx
    exact Cell_at hs hN hb
/-- the reference's -/
theorem RefAt.cell {B gm hc : Nat} {C : List Ce} {fz : Bool} {ad : Option Addr} {cap : Nat} (h : RefAt w gm hc P) (hr : Rl w B gm C fz ad cap) (hC : C.length ≤ 1000000) (hat : ∀ c, P = .at_ c → C[(C.takeWhile (aheadC c.vr)).length]? = some c) :
    Calls Try.prog 37 #[.pointer (some ⟨hc, 0, none⟩)] w fun e w' => e = .returned (cellP P) ∧ Gr w w' := by
  cases P with
  | front => obtain ⟨v, hb⟩ := h; exact rcell_off _ v hb (by decide)
  | back => obtain ⟨v, hb⟩ := h; exact rcell_off _ v hb (by decide)
  | at_ c => exact rcell_at c h hr hC (hat c rfl)
theorem RefAt.next {B gm hc : Nat} {C : List Ce} {fz : Bool} {ad : Option Addr} {cap : Nat} (h : RefAt w gm hc P) (hr : Rl w B gm C fz ad cap) (hC : C.length ≤ 1000000) :
    Calls Try.prog 34 #[.pointer (some ⟨hc, 0, none⟩)] w fun e w' => e = .returned (.int .i64 ((nextP C P).1 : Int)) ∧ RefAt w' gm hc (nextP C P).2 ∧ Chg (fun j => j = hc) w w' := by
  cases P with
  | front => exact h.next_front hr hC
  | back => exact h.next_back
  | at_ c => exact h.next_at c hr hC
theorem RefAt.prev {B gm hc : Nat} {C : List Ce} {fz : Bool} {ad : Option Addr} {cap : Nat} (h : RefAt w gm hc P) (hr : Rl w B gm C fz ad cap) (hC : C.length ≤ 1000000) :
    Calls Try.prog 35 #[.pointer (some ⟨hc, 0, none⟩)] w fun e w' => e = .returned (.int .i64 ((prevP C P).1 : Int)) ∧ RefAt w' gm hc (prevP C P).2 ∧ Chg (fun j => j = hc) w w' := by
  cases P with
  | front => exact h.prev_front
  | back => exact h.prev_back hr hC
  | at_ c => exact h.prev_at c hr hC
theorem RealAt.there (h : RealAt w gl gc N P) (hs : Sl w0 w S g gl p L N) : ∀ c, P = .at_ c → (cellsN N)[((cellsN N).takeWhile (aheadC c.vr)).length]? = some c := by
  rintro c rfl
  obtain ⟨x, hx, rfl, hb⟩ := h
  obtain ⟨a, b, hN⟩ := List.append_of_mem hx
  rw [(cells_split hs hN).1, show (cellsN a).length = a.length by simp [cellsN]]
  exact nd_get hN
end
end Go.Proofs.Ytnafhjgfkofkbaa
/- Layer 11 (skip): the state of SkipHops: a list and the reference's, two cursors of each. -/
namespace Go.Proofs.Ytnafhjgfkofkbaa
set_option linter.unusedVariables false
set_option linter.unusedSimpArgs false
open Go.RowKit Ikey Varint
theorem Pr2.ins1 {w0 w : World} {X S : Nat → Prop} {g gl gm : Nat} {p : PoolF} {L : Ls} {N : List Nd} {C : List Ce} {ad : Option Addr} {cap : Nat} (h1 : Pr2 w0 w X S g gl gm p L N C ad cap) (k : List UInt8) (s d : Int) (v : List UInt8) (t : Int) (hv : v.length ≤ 9223372036854775807) (hn : 1 ≤ countF p) (hC : N.length ≤ 1000) :
    Calls Try.prog 12 #[.pointer (some ⟨gl, 0, none⟩), celV k s d v, .int .i64 t] w fun e w' => e = .returned (.int .i64 ((insF (cellsN N) L.fz k s d v t).1 : Int)) ∧ Chg (Tt w0 X) w w' ∧ (∀ j, X j → w'.heap[j]? = w.heap[j]?) ∧
      ∃ S' p' L' N', Pr2 w0 w' X S' g gl gm p' L' N' C ad cap ∧ cellsN N' = (insF (cellsN N) L.fz k s d v t).2 ∧ L'.fz = L.fz ∧ L'.r = L.r ∧ (∀ x ∈ N, x ∈ N') ∧ Kp L.r p p' ∧ countF p ≤ countF p' + 1 := by
  refine (Insert_sl h1.sl k s d v t hv hn hC).mono ?_
  rintro e w' ⟨he, p', S', L', N', s1, s2, s3, s4, s5, s6, s7, s8, s9⟩
  have hch : Chg (Tt w0 X) w w' := ⟨s9.chg.os, s9.chg.tape, s9.chg.output, s9.chg.size, fun j hj hn => s9.chg.block j hj (fun hs => hn (by
    rcases hs with hs | rfl
    · exact ⟨h1.sl.base j hs, fun hx => (h1.keep j hx).2.1 hs⟩
    · exact ⟨h1.sl.bl, fun hx => (h1.keep _ hx).2.2.1 rfl⟩))⟩
  have hgm : ¬ (S gm ∨ gm = gl) := fun e => e.elim h1.ns h1.nl
  have hsz := h1.rl.blk.lt
  refine ⟨he, hch, fun j hj => s9.chg.block j (h1.keep j hj).1 (fun e => e.elim (h1.keep j hj).2.1 (h1.keep j hj).2.2.1), S', p', L', N', ⟨s1, ⟨by rw [s5]; exact s9.chg.blk h1.rl.blk hgm, s9.chg.owns h1.rl.own (fun x hx e => e.elim (h1.nad x hx).1 (h1.nad x hx).2), h1.rl.base, h1.rl.ne⟩, fun e => (s9.sub _ e).elim h1.ns (fun e => by omega), h1.nl, fun x hx => ⟨fun e => (s9.sub _ e).elim (h1.nad x hx).1 (fun e => by
    have := (h1.rl.own.lt x hx).2; omega), (h1.nad x hx).2⟩, fun j hj => ?_⟩, s2, s5, s6, s4, s7, s8⟩
  obtain ⟨k1, k2, k3⟩ := h1.keep j hj
  exact ⟨Nat.lt_of_lt_of_le k1 s9.chg.size, fun e => (s9.sub _ e).elim k2 (fun e => by omega), k3⟩
theorem Pr2.ins2 {w0 w : World} {X S : Nat → Prop} {g gl gm : Nat} {p : PoolF} {L : Ls} {N : List Nd} {C : List Ce} {ad : Option Addr} {cap : Nat} (h1 : Pr2 w0 w X S g gl gm p L N C ad cap) (k : List UInt8) (s d : Int) (v : List UInt8) (t : Int) (hv : v.length ≤ 9223372036854775807) (hC : C.length ≤ 1000) :
    Calls Try.prog 13 #[.pointer (some ⟨gm, 0, none⟩), celV k s d v, .int .i64 t] w fun e w' => e = .returned (.int .i64 ((insF C L.fz k s d v t).1 : Int)) ∧ Chg (Tt w0 X) w w' ∧ (∀ j, X j → w'.heap[j]? = w.heap[j]?) ∧
      ∃ ad' cap', Pr2 w0 w' X S g gl gm p L N (insF C L.fz k s d v t).2 ad' cap' := by
  refine (rInsert_any w w0.heap.size gm C L.fz ad cap h1.rl h1.sl.gr.size (by omega) k s d v t hv).mono ?_
  rintro e w' ⟨he, ad', cap', s1, s2, s3⟩
  have hsz := h1.rl.blk.lt
  refine ⟨he, ⟨s2.os, s2.tape, s2.output, s2.size, fun j hj hn => s2.block j hj (fun e => hn ⟨by have := h1.rl.base; omega, fun hx => (h1.keep j hx).2.2.2.1 e⟩)⟩, fun j hj => s2.block j (h1.keep j hj).1 (h1.keep j hj).2.2.2.1, ad', cap', ⟨h1.sl.chg s2 (fun j hj e => h1.ns (by rw [← e]; exact hj)) (fun e => h1.nl e.symm) (fun j e => by rw [e]; exact h1.rl.base), s1, h1.ns, h1.nl, fun x hx => ?_, fun j hj => ?_⟩⟩
  · rcases s3 x hx with e | e
    · exact h1.nad x e
    · exact ⟨fun hS => by have := h1.sl.sk.pool.lt _ hS; omega, fun e2 => by have := h1.sl.sk.blk.lt; omega⟩
  · obtain ⟨k1, k2, k3, k4, k5⟩ := h1.keep j hj
    refine ⟨Nat.lt_of_lt_of_le k1 s2.size, k2, k3, k4, fun x hx => ?_⟩
    rcases s3 x hx with e | e
    · exact k5 x e
    · omega
/-- the state between the steps -/
structure HopS (w0 w : World) (X S : Nat → Prop) (g gl gm gc0 gc1 hc0 hc1 : Nat) (p : PoolF) (L : Ls) (N : List Nd) (D : List Ce) (ad : Option Addr) (cap : Nat) (p0 p1 r0 r1 : Ps) : Prop where
  pr : Pr2 w0 w X S g gl gm p L N D ad cap
  c0 : RealAt w gl gc0 N p0
  c1 : RealAt w gl gc1 N p1
  h0 : RefAt w gm hc0 r0
  h1 : RefAt w gm hc1 r1
  x : X gc0 ∧ X gc1 ∧ X hc0 ∧ X hc1
  xb : ∀ j, X j → w0.heap.size ≤ j
  ne : gc0 ≠ gc1 ∧ hc0 ≠ hc1 ∧ gc0 ≠ hc0 ∧ gc0 ≠ hc1 ∧ gc1 ≠ hc0 ∧ gc1 ≠ hc1
theorem blk_same {w w' : World} {j : Nat} (h : w'.heap[j]? = w.heap[j]?) {t : TypeId} : ∀ cs, Blk w j t cs → Blk w' j t cs := fun cs hb => h.trans hb
theorem HopS.more {w0 w w' : World} {X S : Nat → Prop} {g gl gm gc0 gc1 hc0 hc1 : Nat} {p : PoolF} {L : Ls} {N : List Nd} {D : List Ce} {ad : Option Addr} {cap : Nat} {p0 p1 r0 r1 : Ps} (h : HopS w0 w X S g gl gm gc0 gc1 hc0 hc1 p L N D ad cap p0 p1 r0 r1) (k : Gr w w') : HopS w0 w' X S g gl gm gc0 gc1 hc0 hc1 p L N D ad cap p0 p1 r0 r1 :=
  ⟨h.pr.more k, h.c0.map (fun _ hx => hx) (fun _ b => b.gr k), h.c1.map (fun _ hx => hx) (fun _ b => b.gr k), h.h0.gr k, h.h1.gr k, h.x, h.xb, h.ne⟩
section
variable {w0 w w' : World} {X S : Nat → Prop} {g gl gm gc0 gc1 hc0 hc1 : Nat} {p : PoolF} {L : Ls} {N : List Nd} {D : List Ce} {ad : Option Addr} {cap : Nat} {p0 p1 r0 r1 q : Ps}
theorem HopS.ins1 (h : HopS w0 w X S g gl gm gc0 gc1 hc0 hc1 p L N D ad cap p0 p1 r0 r1) (k : List UInt8) (s d : Int) (v : List UInt8) (t : Int) (hv : v.length ≤ 9223372036854775807) (hn : 1 ≤ countF p) (hC : N.length ≤ 1000) :
    Calls Try.prog 12 #[.pointer (some ⟨gl, 0, none⟩), celV k s d v, .int .i64 t] w fun e w' => e = .returned (.int .i64 ((insF (cellsN N) L.fz k s d v t).1 : Int)) ∧ Chg (Tt w0 X) w w' ∧
      ∃ S' p' L' N', HopS w0 w' X S' g gl gm gc0 gc1 hc0 hc1 p' L' N' D ad cap p0 p1 r0 r1 ∧ cellsN N' = (insF (cellsN N) L.fz k s d v t).2 ∧ L'.fz = L.fz ∧ L'.r = L.r ∧ Kp L.r p p' ∧ countF p ≤ countF p' + 1 := by
  refine (h.pr.ins1 k s d v t hv hn hC).mono ?_
  rintro e w' ⟨he, hc, hX, S', p', L', N', s1, s2, s3, s4, s5, s6, s7⟩
  exact ⟨he, hc, S', p', L', N', ⟨s1, h.c0.map s5 (blk_same (hX _ h.x.1)), h.c1.map s5 (blk_same (hX _ h.x.2.1)), h.h0.map (blk_same (hX _ h.x.2.2.1)), h.h1.map (blk_same (hX _ h.x.2.2.2)), h.x, h.xb, h.ne⟩, s2, s3, s4, s6, s7⟩
theorem HopS.ins2 (h : HopS w0 w X S g gl gm gc0 gc1 hc0 hc1 p L N D ad cap p0 p1 r0 r1) (k : List UInt8) (s d : Int) (v : List UInt8) (t : Int) (hv : v.length ≤ 9223372036854775807) (hC : D.length ≤ 1000) :
    Calls Try.prog 13 #[.pointer (some ⟨gm, 0, none⟩), celV k s d v, .int .i64 t] w fun e w' => e = .returned (.int .i64 ((insF D L.fz k s d v t).1 : Int)) ∧ Chg (Tt w0 X) w w' ∧
      ∃ ad' cap', HopS w0 w' X S g gl gm gc0 gc1 hc0 hc1 p L N (insF D L.fz k s d v t).2 ad' cap' p0 p1 r0 r1 := by
  refine (h.pr.ins2 k s d v t hv hC).mono ?_
  rintro e w' ⟨he, hc, hX, ad', cap', s1⟩
  exact ⟨he, hc, ad', cap', ⟨s1, h.c0.map (fun _ hx => hx) (blk_same (hX _ h.x.1)), h.c1.map (fun _ hx => hx) (blk_same (hX _ h.x.2.1)), h.h0.map (blk_same (hX _ h.x.2.2.1)), h.h1.map (blk_same (hX _ h.x.2.2.2)), h.x, h.xb, h.ne⟩⟩
theorem Pr2.other (h : Pr2 w0 w X S g gl gm p L N D ad cap) (xb : ∀ j, X j → w0.heap.size ≤ j) {b : Nat} (hb : X b) (k : Chg (fun j => j = b) w w') : Pr2 w0 w' X S g gl gm p L N D ad cap := by
  obtain ⟨_, k2, k3, k4, k5⟩ := h.keep b hb
  exact h.chg k (fun j hj e => k2 (by rw [← e]; exact hj)) (fun e => k3 e.symm) (fun e => k4 e.symm) (fun x hx => k5 x hx) (fun j e => by rw [e]; exact xb _ hb)
theorem HopS.real0 (h : HopS w0 w X S g gl gm gc0 gc1 hc0 hc1 p L N D ad cap p0 p1 r0 r1) (k : Chg (fun j => j = gc0) w w') (hq : RealAt w' gl gc0 N q) : HopS w0 w' X S g gl gm gc0 gc1 hc0 hc1 p L N D ad cap q p1 r0 r1 :=
  ⟨h.pr.other h.xb h.x.1 k, hq, h.c1.map (fun _ hx => hx) (fun _ b => k.blk b (fun e => h.ne.1 e.symm)), h.h0.map (fun _ b => k.blk b (fun e => h.ne.2.2.1 e.symm)), h.h1.map (fun _ b => k.blk b (fun e => h.ne.2.2.2.1 e.symm)), h.x, h.xb, h.ne⟩
theorem HopS.ref0 (h : HopS w0 w X S g gl gm gc0 gc1 hc0 hc1 p L N D ad cap p0 p1 r0 r1) (k : Chg (fun j => j = hc0) w w') (hq : RefAt w' gm hc0 q) : HopS w0 w' X S g gl gm gc0 gc1 hc0 hc1 p L N D ad cap p0 p1 q r1 :=
  ⟨h.pr.other h.xb h.x.2.2.1 k, h.c0.map (fun _ hx => hx) (fun _ b => k.blk b h.ne.2.2.1), h.c1.map (fun _ hx => hx) (fun _ b => k.blk b h.ne.2.2.2.2.1), hq, h.h1.map (fun _ b => k.blk b (fun e => h.ne.2.1 e.symm)), h.x, h.xb, h.ne⟩
theorem HopS.swap (h : HopS w0 w X S g gl gm gc0 gc1 hc0 hc1 p L N D ad cap p0 p1 r0 r1) : HopS w0 w X S g gl gm gc1 gc0 hc1 hc0 p L N D ad cap p1 p0 r1 r0 :=
  ⟨h.pr, h.c1, h.c0, h.h1, h.h0, ⟨h.x.2.1, h.x.1, h.x.2.2.2, h.x.2.2.1⟩, h.xb, ⟨fun e => h.ne.1 e.symm, fun e => h.ne.2.1 e.symm, h.ne.2.2.2.2.2, h.ne.2.2.2.2.1, h.ne.2.2.2.1, h.ne.2.2.1⟩⟩
/-- frozen, the list and then the reference's -/
theorem HopS.freeze (h : HopS w0 w X S g gl gm gc0 gc1 hc0 hc1 p L N D ad cap p0 p1 r0 r1) :
    Calls Try.prog 23 #[.pointer (some ⟨gl, 0, none⟩)] w fun e w' => e = .returned (.tuple #[]) ∧ Blk w' gm 38 [.slice ad D.length cap, .bool L.fz] ∧ Gr w0 w' ∧ (∀ j, X j → (w'.setCell ⟨gm, 1, none⟩ (.bool true)).heap[j]? = w.heap[j]?) ∧
      HopS w0 (w'.setCell ⟨gm, 1, none⟩ (.bool true)) X S g gl gm gc0 gc1 hc0 hc1 p { L with fz := true } N D ad cap p0 p1 r0 r1 := by
  refine (Freeze_any w S g gl p L h.pr.sl.sk).mono ?_
  rintro e w' ⟨he, hs, hc⟩
  have hP := h.pr
  have b1 := hc.blk hP.rl.blk hP.nl
  have hg : Gr w0 w' := hc.gr hP.sl.gr (fun j e => by rw [e]; exact hP.sl.bl)
  have k2 := chg_set w' gm 1 (.bool true)
  have g2 : Gr w0 (w'.setCell ⟨gm, 1, none⟩ (.bool true)) := k2.gr hg (fun j e => by rw [e]; exact hP.rl.base)
  have o1 := hc.owns hP.rl.own (fun x hx => (hP.nad x hx).2)
  have o2 := k2.owns o1 (fun x hx e => hP.rl.ne x hx e)
  have far : ∀ j, X j → ∀ {t : TypeId} cs, Blk w j t cs → Blk (w'.setCell ⟨gm, 1, none⟩ (.bool true)) j t cs := fun j hj t cs hb => k2.blk (hc.blk hb (hP.keep j hj).2.2.1) (hP.keep j hj).2.2.2.1
  refine ⟨he, b1, hg, fun j hj => (k2.block j (Nat.lt_of_lt_of_le (hP.keep j hj).1 hc.size) (hP.keep j hj).2.2.2.1).trans (hc.block j (hP.keep j hj).1 (hP.keep j hj).2.2.1), ⟨⟨⟨⟨hs.pool.chg k2 (fun j hj e => hP.ns (by rw [← e]; exact hj)), hs.ok, k2.blk hs.blk (fun e => hP.nl e.symm), hs.out⟩, hP.sl.st, hP.sl.full, hP.sl.cnt, hP.sl.wt, hP.sl.fd, g2, hP.sl.base, hP.sl.bl⟩, ⟨b1.set_ 1 (.bool true), o2, hP.rl.base, hP.rl.ne⟩, hP.ns, hP.nl, hP.nad, fun j hj => ?_⟩,
    h.c0.map (fun _ hx => hx) (far _ h.x.1), h.c1.map (fun _ hx => hx) (far _ h.x.2.1), h.h0.map (far _ h.x.2.2.1), h.h1.map (far _ h.x.2.2.2), h.x, h.xb, h.ne⟩⟩
  obtain ⟨a1, a2⟩ := hP.keep j hj
  exact ⟨Nat.lt_of_lt_of_le a1 (Nat.le_trans hc.size k2.size), a2⟩
end
/-- an empty list, an empty one of the reference, and cursors ahead of all -/
theorem HopS.start {w0 w2 w8 : World} {X S : Nat → Prop} {g gl gm gc0 gc1 hc0 hc1 : Nat} (h : Sl w0 w2 S g gl (fieldP 200) (newL 0) []) (k : Gr w2 w8) (hm : Blk w8 gm 38 [.slice none 0 0, .bool false]) (hm2 : w2.heap.size ≤ gm)
    (b0 : Blk w8 gc0 101 (curV gl 0 (0, 0))) (b1 : Blk w8 gc1 101 (curV gl 0 (0, 0))) (d0 : Blk w8 hc0 61 (rcV gm (-1) ⟨[], 0, 0⟩)) (d1 : Blk w8 hc1 61 (rcV gm (-1) ⟨[], 0, 0⟩))
    (hX : ∀ j, X j → w2.heap.size ≤ j ∧ j < w8.heap.size ∧ j ≠ gm) (hx : X gc0 ∧ X gc1 ∧ X hc0 ∧ X hc1) (hne : gc0 ≠ gc1 ∧ hc0 ≠ hc1 ∧ gc0 ≠ hc0 ∧ gc0 ≠ hc1 ∧ gc1 ≠ hc0 ∧ gc1 ≠ hc1) :
    HopS w0 w8 X S g gl gm gc0 gc1 hc0 hc1 (fieldP 200) (newL 0) [] [] none 0 .front .front .front .front := by
  have hS := h.sk.pool.lt
  have hl := h.sk.blk.lt
  have hz := h.gr.size
  refine ⟨⟨h.more k, ⟨hm, Owns.empty _ _ _ _, by omega, fun x hx => by cases hx⟩, fun e => by have := hS _ e; omega, fun e => by omega, fun x hx => (by cases hx), fun j hj => ?_⟩, ⟨_, b0⟩, ⟨_, b1⟩, ⟨_, d0⟩, ⟨_, d1⟩, hx, fun j hj => ?_, hne⟩
  · obtain ⟨a1, a2, a3⟩ := hX j hj
    exact ⟨a2, fun e => by have := hS _ e; omega, fun e => by omega, a3, fun x hx => by cases hx⟩
  · have := (hX j hj).1; omega
end Go.Proofs.Ytnafhjgfkofkbaa
/- Layer 11 (skip): the state of SkipHops, its parts hidden. -/
namespace Go.Proofs.Ytnafhjgfkofkbaa
set_option linter.unusedVariables false
set_option linter.unusedSimpArgs false
open Go.RowKit Ikey Varint
theorem Chg.weak {T T' : Nat → Prop} {w w' : World} (h : Chg T w w') (hT : ∀ j, T j → T' j) : Chg T' w w' :=
  ⟨h.os, h.tape, h.output, h.size, fun j hj hn => h.block j hj (fun e => hn (hT j e))⟩
/-- the state between the calls; blocks of Z lie as they lay in wz -/
def HopI (w0 wz : World) (X Z : Nat → Prop) (g gl gm gc0 gc1 hc0 hc1 n : Nat) (C D : List Ce) (fz : Bool) (p0 p1 r0 r1 : Ps) (w : World) : Prop :=
  ∃ S p L N ad cap, HopS w0 w X S g gl gm gc0 gc1 hc0 hc1 p L N D ad cap p0 p1 r0 r1 ∧ cellsN N = C ∧ L.fz = fz ∧ L.r = 0 ∧ n ≤ countF p ∧ p.bytes.length = 200 ∧ (∀ j, j ≠ 0 → (landAt p j).slabs = []) ∧
    ∀ j, Z j → X j ∧ j ≠ gc0 ∧ j ≠ gc1 ∧ j ≠ hc0 ∧ j ≠ hc1 ∧ j < wz.heap.size ∧ w.heap[j]? = wz.heap[j]?
section
variable {w0 wz w w' : World} {X Z : Nat → Prop} {g gl gm gc0 gc1 hc0 hc1 n : Nat} {C D : List Ce} {fz : Bool} {p0 p1 r0 r1 q : Ps}
theorem HopI.more (h : HopI w0 wz X Z g gl gm gc0 gc1 hc0 hc1 n C D fz p0 p1 r0 r1 w) (k : Gr w w') : HopI w0 wz X Z g gl gm gc0 gc1 hc0 hc1 n C D fz p0 p1 r0 r1 w' := by
  obtain ⟨S, p, L, N, ad, cap, h1, h2, h3, h4, h5, h6, h7, h8⟩ := h
  refine ⟨S, p, L, N, ad, cap, h1.more k, h2, h3, h4, h5, h6, h7, fun j hj => ?_⟩
  obtain ⟨a1, a2, a3, a4, a5, a6, a7⟩ := h8 j hj
  exact ⟨a1, a2, a3, a4, a5, a6, (k.block j (h1.pr.keep j a1).1).trans a7⟩
theorem HopI.gr (h : HopI w0 wz X Z g gl gm gc0 gc1 hc0 hc1 n C D fz p0 p1 r0 r1 w) : Gr w0 w := by
  obtain ⟨S, p, L, N, ad, cap, h1, _⟩ := h
  exact h1.pr.sl.gr
theorem HopI.swap (h : HopI w0 wz X Z g gl gm gc0 gc1 hc0 hc1 n C D fz p0 p1 r0 r1 w) : HopI w0 wz X Z g gl gm gc1 gc0 hc1 hc0 n C D fz p1 p0 r1 r0 w := by
  obtain ⟨S, p, L, N, ad, cap, h1, h2, h3, h4, h5, h6, h7, h8⟩ := h
  exact ⟨S, p, L, N, ad, cap, h1.swap, h2, h3, h4, h5, h6, h7, fun j hj => by
    obtain ⟨a1, a2, a3, a4, a5, a6, a7⟩ := h8 j hj
    exact ⟨a1, a3, a2, a5, a4, a6, a7⟩⟩
theorem HopI.zcell (h : HopI w0 wz X Z g gl gm gc0 gc1 hc0 hc1 n C D fz p0 p1 r0 r1 w) {b i : Nat} {v : Value} (hb : Z b) (hv : wz.cell? ⟨b, i, none⟩ = some v) : w.cell? ⟨b, i, none⟩ = some v := by
  obtain ⟨S, p, L, N, ad, cap, h1, h2, h3, h4, h5, h6, h7, h8⟩ := h
  have := (h8 b hb).2.2.2.2.2.2
  rw [← hv]
  simp only [World.cell?]
  rw [this]
/-- a new block is laid beside -/
theorem HopI.lay (h : HopI w0 wz X Z g gl gm gc0 gc1 hc0 hc1 n C D fz p0 p1 r0 r1 w) (k : Gr w w') (hl : w.heap.size < w'.heap.size) :
    HopI w0 w' (fun j => X j ∨ j = w.heap.size) (fun j => Z j ∨ j = w.heap.size) g gl gm gc0 gc1 hc0 hc1 n C D fz p0 p1 r0 r1 w' := by
  obtain ⟨S, p, L, N, ad, cap, h1, h2, h3, h4, h5, h6, h7, h8⟩ := h
  have hm := h1.pr.rl.blk.lt
  have hg := h1.pr.sl.sk.blk.lt
  refine ⟨S, p, L, N, ad, cap, ⟨⟨h1.pr.sl.more k, h1.pr.rl.gr k, h1.pr.ns, h1.pr.nl, h1.pr.nad, fun j hj => ?_⟩, h1.c0.map (fun _ hx => hx) (fun _ b => b.gr k), h1.c1.map (fun _ hx => hx) (fun _ b => b.gr k), h1.h0.gr k, h1.h1.gr k, ⟨.inl h1.x.1, .inl h1.x.2.1, .inl h1.x.2.2.1, .inl h1.x.2.2.2⟩, fun j hj => hj.elim (h1.xb j) (fun e => by rw [e]; exact h1.pr.sl.gr.size), h1.ne⟩, h2, h3, h4, h5, h6, h7, fun j hj => ?_⟩
  · rcases hj with hj | rfl
    · exact ⟨Nat.lt_of_lt_of_le (h1.pr.keep j hj).1 k.size, (h1.pr.keep j hj).2⟩
    · exact ⟨hl, fun e => Nat.lt_irrefl _ (h1.pr.sl.sk.pool.lt _ e), fun e => by omega, fun e => by omega, fun x hx e => by have := (h1.pr.rl.own.lt x hx).2; omega⟩
  · have lt : ∀ j, X j → j < w.heap.size := fun j hj => (h1.pr.keep j hj).1
    rcases hj with hj | rfl
    · obtain ⟨a1, a2, a3, a4, a5, a6, a7⟩ := h8 j hj
      exact ⟨.inl a1, a2, a3, a4, a5, Nat.lt_of_lt_of_le (lt j a1) k.size, rfl⟩
    · have b0 := lt _ h1.x.1
      have b1 := lt _ h1.x.2.1
      have b2 := lt _ h1.x.2.2.1
      have b3 := lt _ h1.x.2.2.2
      exact ⟨.inr rfl, by omega, by omega, by omega, by omega, hl, rfl⟩
/-- and forgotten again -/
theorem HopI.drop {wy : World} {b : Nat} (h : HopI w0 wz (fun j => X j ∨ j = b) (fun j => Z j ∨ j = b) g gl gm gc0 gc1 hc0 hc1 n C D fz p0 p1 r0 r1 w) (hx : X gc0 ∧ X gc1 ∧ X hc0 ∧ X hc1) (hz : ∀ j, Z j → X j ∧ j < wy.heap.size ∧ wz.heap[j]? = wy.heap[j]?) :
    HopI w0 wy X Z g gl gm gc0 gc1 hc0 hc1 n C D fz p0 p1 r0 r1 w := by
  obtain ⟨S, p, L, N, ad, cap, h1, h2, h3, h4, h5, h6, h7, h8⟩ := h
  refine ⟨S, p, L, N, ad, cap, ⟨⟨h1.pr.sl, h1.pr.rl, h1.pr.ns, h1.pr.nl, h1.pr.nad, fun j hj => h1.pr.keep j (.inl hj)⟩, h1.c0, h1.c1, h1.h0, h1.h1, hx, fun j hj => h1.xb j (.inl hj), h1.ne⟩, h2, h3, h4, h5, h6, h7, fun j hj => ?_⟩
  obtain ⟨a1, a2, a3, a4, a5, a6, a7⟩ := h8 j (.inl hj)
  obtain ⟨b1, b2, b3⟩ := hz j hj
  exact ⟨b1, a2, a3, a4, a5, b2, a7.trans b3⟩
theorem HopI.zt (h : HopI w0 wz X Z g gl gm gc0 gc1 hc0 hc1 n C D fz p0 p1 r0 r1 w) : ∀ j, Tt w0 X j → Tt w0 Z j := by
  obtain ⟨S, p, L, N, ad, cap, h1, h2, h3, h4, h5, h6, h7, h8⟩ := h
  exact fun j hj => ⟨hj.1, fun e => hj.2 (h8 j e).1⟩
theorem HopI.ins1 (h : HopI w0 wz X Z g gl gm gc0 gc1 hc0 hc1 (n + 1) C D fz p0 p1 r0 r1 w) (k : List UInt8) (s d : Int) (v : List UInt8) (t : Int) (hv : v.length ≤ 9223372036854775807) (hC : C.length ≤ 1000) :
    Calls Try.prog 12 #[.pointer (some ⟨gl, 0, none⟩), celV k s d v, .int .i64 t] w fun e w' => e = .returned (.int .i64 ((insF C fz k s d v t).1 : Int)) ∧ Chg (Tt w0 Z) w w' ∧ HopI w0 wz X Z g gl gm gc0 gc1 hc0 hc1 n (insF C fz k s d v t).2 D fz p0 p1 r0 r1 w' := by
  have hzt := h.zt
  obtain ⟨S, p, L, N, ad, cap, h1, rfl, rfl, h4, h5, h6, h7, h8⟩ := h
  refine (h1.ins1 k s d v t hv (by omega) (by simpa [cellsN] using hC)).mono ?_
  rintro e w' ⟨he, hc, S', p', L', N', s1, s2, s3, s4, s5, s6⟩
  refine ⟨he, hc.weak hzt, S', p', L', N', ad, cap, s1, s2, s3, s4.trans h4, by omega, s5.len.trans h6, fun j hj => ?_, fun j hj => ?_⟩
  · rw [s5.land j (by rw [h4]; exact hj)]
    exact h7 j hj
  · obtain ⟨a1, a2, a3, a4, a5, a6, a7⟩ := h8 j hj
    exact ⟨a1, a2, a3, a4, a5, a6, (hc.block j (h1.pr.keep j a1).1 (fun e => e.2 a1)).trans a7⟩
theorem HopI.ins2 (h : HopI w0 wz X Z g gl gm gc0 gc1 hc0 hc1 n C D fz p0 p1 r0 r1 w) (k : List UInt8) (s d : Int) (v : List UInt8) (t : Int) (hv : v.length ≤ 9223372036854775807) (hC : D.length ≤ 1000) :
    Calls Try.prog 13 #[.pointer (some ⟨gm, 0, none⟩), celV k s d v, .int .i64 t] w fun e w' => e = .returned (.int .i64 ((insF D fz k s d v t).1 : Int)) ∧ Chg (Tt w0 Z) w w' ∧ HopI w0 wz X Z g gl gm gc0 gc1 hc0 hc1 n C (insF D fz k s d v t).2 fz p0 p1 r0 r1 w' := by
  have hzt := h.zt
  obtain ⟨S, p, L, N, ad, cap, h1, rfl, rfl, h4, h5, h6, h7, h8⟩ := h
  refine (h1.ins2 k s d v t hv hC).mono ?_
  rintro e w' ⟨he, hc, ad', cap', s1⟩
  refine ⟨he, hc.weak hzt, S, p, L, N, ad', cap', s1, rfl, rfl, h4, h5, h6, h7, fun j hj => ?_⟩
  obtain ⟨a1, a2, a3, a4, a5, a6, a7⟩ := h8 j hj
  exact ⟨a1, a2, a3, a4, a5, a6, (hc.block j (h1.pr.keep j a1).1 (fun e => e.2 a1)).trans a7⟩
/-- a cursor of the list moves -/
theorem HopI.real0 {fn : FuncId} {args : Array Value} {E : Nat} (h : HopI w0 wz X Z g gl gm gc0 gc1 hc0 hc1 n C D fz p0 p1 r0 r1 w)
    (call : ∀ S p L N, Sl w0 w S g gl p L N → cellsN N = C → RealAt w gl gc0 N p0 → Calls Try.prog fn args w fun e w' => e = .returned (.int .i64 (E : Int)) ∧ RealAt w' gl gc0 N q ∧ Chg (fun j => j = gc0) w w') :
    Calls Try.prog fn args w fun e w' => e = .returned (.int .i64 (E : Int)) ∧ Chg (Tt w0 Z) w w' ∧ HopI w0 wz X Z g gl gm gc0 gc1 hc0 hc1 n C D fz q p1 r0 r1 w' := by
  obtain ⟨S, p, L, N, ad, cap, h1, h2, h3, h4, h5, h6, h7, h8⟩ := h
  refine (call S p L N h1.pr.sl h2 h1.c0).mono ?_
  rintro e w' ⟨he, hq, hc⟩
  refine ⟨he, hc.weak (fun j e => ⟨by rw [e]; exact h1.xb _ h1.x.1, fun hz => (h8 j hz).2.1 e⟩), S, p, L, N, ad, cap, h1.real0 hc hq, h2, h3, h4, h5, h6, h7, fun j hj => ?_⟩
  obtain ⟨a1, a2, a3, a4, a5, a6, a7⟩ := h8 j hj
  exact ⟨a1, a2, a3, a4, a5, a6, (hc.block j (h1.pr.keep j a1).1 a2).trans a7⟩
/-- one of the reference's moves -/
theorem HopI.ref0 {fn : FuncId} {args : Array Value} {E : Nat} (h : HopI w0 wz X Z g gl gm gc0 gc1 hc0 hc1 n C D fz p0 p1 r0 r1 w)
    (call : ∀ ad cap, Rl w w0.heap.size gm D fz ad cap → RefAt w gm hc0 r0 → Calls Try.prog fn args w fun e w' => e = .returned (.int .i64 (E : Int)) ∧ RefAt w' gm hc0 q ∧ Chg (fun j => j = hc0) w w') :
    Calls Try.prog fn args w fun e w' => e = .returned (.int .i64 (E : Int)) ∧ Chg (Tt w0 Z) w w' ∧ HopI w0 wz X Z g gl gm gc0 gc1 hc0 hc1 n C D fz p0 p1 q r1 w' := by
  obtain ⟨S, p, L, N, ad, cap, h1, h2, rfl, h4, h5, h6, h7, h8⟩ := h
  refine (call ad cap h1.pr.rl h1.h0).mono ?_
  rintro e w' ⟨he, hq, hc⟩
  refine ⟨he, hc.weak (fun j e => ⟨by rw [e]; exact h1.xb _ h1.x.2.2.1, fun hz => (h8 j hz).2.2.2.1 e⟩), S, p, L, N, ad, cap, h1.ref0 hc hq, h2, rfl, h4, h5, h6, h7, fun j hj => ?_⟩
  obtain ⟨a1, a2, a3, a4, a5, a6, a7⟩ := h8 j hj
  exact ⟨a1, a2, a3, a4, a5, a6, (hc.block j (h1.pr.keep j a1).1 a4).trans a7⟩
theorem HopI.freeze (h : HopI w0 wz X Z g gl gm gc0 gc1 hc0 hc1 n C D fz p0 p1 r0 r1 w) :
    Calls Try.prog 23 #[.pointer (some ⟨gl, 0, none⟩)] w fun e w' => e = .returned (.tuple #[]) ∧ (∃ v, Blk w' gm 38 [v, .bool fz]) ∧ Gr w0 w' ∧
      HopI w0 wz X Z g gl gm gc0 gc1 hc0 hc1 n C D true p0 p1 r0 r1 (w'.setCell ⟨gm, 1, none⟩ (.bool true)) := by
  obtain ⟨S, p, L, N, ad, cap, h1, h2, rfl, h4, h5, h6, h7, h8⟩ := h
  refine h1.freeze.mono ?_
  rintro e w' ⟨he, hb, hg, hX, hs⟩
  refine ⟨he, ⟨_, hb⟩, hg, S, p, _, N, ad, cap, hs, h2, rfl, h4, h5, h6, h7, fun j hj => ?_⟩
  obtain ⟨a1, a2, a3, a4, a5, a6, a7⟩ := h8 j hj
  exact ⟨a1, a2, a3, a4, a5, a6, (hX j a1).trans a7⟩
theorem HopI.cnt (h : HopI w0 wz X Z g gl gm gc0 gc1 hc0 hc1 n C D fz p0 p1 r0 r1 w) :
    Calls Try.prog 25 #[.pointer (some ⟨gl, 0, none⟩)] w fun e w' => e = .returned (.int .i64 (C.length : Int)) ∧ w = w' := by
  obtain ⟨S, p, L, N, ad, cap, h1, rfl, rfl, h4, h5, h6, h7, h8⟩ := h
  have := Count_any w g gl L h1.pr.sl.sk.blk
  rw [h1.pr.sl.fd, if_neg (by decide), h1.pr.sl.cnt] at this
  simpa [cellsN] using this
theorem HopI.wgt (h : HopI w0 wz X Z g gl gm gc0 gc1 hc0 hc1 n C D fz p0 p1 r0 r1 w) :
    Calls Try.prog 26 #[.pointer (some ⟨gl, 0, none⟩)] w fun e w' => e = .returned (.int .i64 (weighF C : Int)) ∧ w = w' := by
  obtain ⟨S, p, L, N, ad, cap, h1, rfl, rfl, h4, h5, h6, h7, h8⟩ := h
  have := Weight_any w g gl L h1.pr.sl.sk.blk
  rw [h1.pr.sl.fd, if_neg (by decide), h1.pr.sl.wt] at this
  exact this
theorem HopI.mlen (h : HopI w0 wz X Z g gl gm gc0 gc1 hc0 hc1 n C D fz p0 p1 r0 r1 w) : ∃ ad cap, w.cell? ⟨gm, 0, none⟩ = some (.slice ad D.length cap) := by
  obtain ⟨S, p, L, N, ad, cap, h1, rfl, rfl, h4, h5, h6, h7, h8⟩ := h
  exact ⟨ad, cap, h1.pr.rl.blk.cell (i := 0) rfl⟩
theorem HopI.good (h : HopI w0 wz X Z g gl gm gc0 gc1 hc0 hc1 n C D fz p0 p1 r0 r1 w) : (C.Pairwise fun a b => vless a.vr b.vr = true) ∧ ∀ c ∈ C, okV c.key c.seq c.kind = true ∧ c.key.length ≤ 64 ∧ c.val.length ≤ 1000 := by
  obtain ⟨S, p, L, N, ad, cap, h1, rfl, rfl, h4, h5, h6, h7, h8⟩ := h
  have hst := h1.pr.sl.st
  refine ⟨?_, fun c hc => ?_⟩
  · unfold cellsN
    rw [List.pairwise_map]
    exact hst.sorted
  · obtain ⟨x, hx, rfl⟩ := List.mem_map.1 hc
    have h9 := (hst.node x hx).1
    exact ⟨h9.ok, (nd_size h9).2.2.2, h9.vl⟩
theorem HopI.rwgt (h : HopI w0 wz X Z g gl gm gc0 gc1 hc0 hc1 n C C fz p0 p1 r0 r1 w) (hC : C.length ≤ 1000000) :
    Calls Try.prog 36 #[.pointer (some ⟨gm, 0, none⟩)] w fun e w' => e = .returned (.int .i64 (weighF C : Int)) ∧ Gr w w' := by
  have hq := h.good.2
  obtain ⟨S, p, L, N, ad, cap, h1, h2, rfl, h4, h5, h6, h7, h8⟩ := h
  exact rWeight_any h1.pr.rl hC fun c hc => (hq c hc).2
theorem HopI.get1 (h : HopI w0 wz X Z g gl gm gc0 gc1 hc0 hc1 n C D fz p0 p1 r0 r1 w) (key : List UInt8) (s : Int) :
    Calls Try.prog 27 #[.pointer (some ⟨gl, 0, none⟩), .string (str key), .int .i64 s] w fun e w' => e = .returned (ceO (getC C key s)) ∧ Gr w w' := by
  obtain ⟨S, p, L, N, ad, cap, h1, rfl, rfl, h4, h5, h6, h7, h8⟩ := h
  exact Get_sl h1.pr.sl key s
theorem HopI.get2 (h : HopI w0 wz X Z g gl gm gc0 gc1 hc0 hc1 n C C fz p0 p1 r0 r1 w) (hC : C.length ≤ 1000000) (key : List UInt8) (s : Int) :
    Calls Try.prog 28 #[.pointer (some ⟨gm, 0, none⟩), .string (str key), .int .i64 s] w fun e w' => e = .returned (ceO (getC C key s)) ∧ Gr w w' := by
  obtain ⟨hs, hq⟩ := h.good
  obtain ⟨S, p, L, N, ad, cap, h1, h2, rfl, h4, h5, h6, h7, h8⟩ := h
  have := rGet_any h1.pr.rl hC key s
  rw [find_getC hs (fun c hc => by
    obtain ⟨_, _, _, k1, k2⟩ := okV_of (hq c hc).1
    constructor <;> omega) key s] at this
  exact this
theorem HopI.cell0 (h : HopI w0 wz X Z g gl gm gc0 gc1 hc0 hc1 n C D fz p0 p1 r0 r1 w) :
    Calls Try.prog 17 #[.pointer (some ⟨gc0, 0, none⟩)] w fun e w' => e = .returned (cellP p0) ∧ Gr w w' := by
  obtain ⟨S, p, L, N, ad, cap, h1, rfl, rfl, h4, h5, h6, h7, h8⟩ := h
  exact h1.c0.cell h1.pr.sl
theorem HopI.rcell0 (h : HopI w0 wz X Z g gl gm gc0 gc1 hc0 hc1 n C C fz p0 p1 p0 r1 w) (hC : C.length ≤ 1000000) :
    Calls Try.prog 37 #[.pointer (some ⟨hc0, 0, none⟩)] w fun e w' => e = .returned (cellP p0) ∧ Gr w w' := by
  obtain ⟨S, p, L, N, ad, cap, h1, rfl, rfl, h4, h5, h6, h7, h8⟩ := h
  exact h1.h0.cell h1.pr.rl hC (h1.c0.there h1.pr.sl)
end
def HX (gc0 gc1 hc0 hc1 aa ab : Nat) : Nat → Prop := fun j => j = gc0 ∨ j = gc1 ∨ j = hc0 ∨ j = hc1 ∨ j = aa ∨ j = ab
def HZ (aa ab : Nat) : Nat → Prop := fun j => j = aa ∨ j = ab
theorem HopI.start {w0 w2 w8 : World} {S : Nat → Prop} {g gl gm gc0 gc1 hc0 hc1 aa ab : Nat} (h : Sl w0 w2 S g gl (fieldP 200) (newL 0) []) (k : Gr w2 w8) (hm : Blk w8 gm 38 [.slice none 0 0, .bool false])
    (b0 : Blk w8 gc0 101 (curV gl 0 (0, 0))) (b1 : Blk w8 gc1 101 (curV gl 0 (0, 0))) (d0 : Blk w8 hc0 61 (rcV gm (-1) ⟨[], 0, 0⟩)) (d1 : Blk w8 hc1 61 (rcV gm (-1) ⟨[], 0, 0⟩))
    (ho : w2.heap.size ≤ gm ∧ gm < gc0 ∧ gc0 < gc1 ∧ gc1 < aa ∧ aa < hc0 ∧ hc0 < hc1 ∧ hc1 < ab ∧ ab < w8.heap.size) :
    HopI w0 w8 (HX gc0 gc1 hc0 hc1 aa ab) (HZ aa ab) g gl gm gc0 gc1 hc0 hc1 200 [] [] false .front .front .front .front w8 := by
  obtain ⟨o1, o2, o3, o4, o5, o6, o7, o8⟩ := ho
  refine ⟨S, fieldP 200, newL 0, [], none, 0, HopS.start h k hm o1 b0 b1 d0 d1 (fun j hj => ?_) ⟨.inl rfl, .inr (.inl rfl), .inr (.inr (.inl rfl)), .inr (.inr (.inr (.inl rfl)))⟩ (by omega), rfl, rfl, rfl, by rw [countF_field]; exact Nat.le_refl _, by show (List.replicate 200 _).length = 200; rw [List.length_replicate], fun j hj => ?_, fun j hj => ?_⟩
  · unfold HX at hj; omega
  · rw [landAt_field, if_neg (fun e => hj (by omega))]; rfl
  · unfold HX
    rcases hj with rfl | rfl
    · exact ⟨.inr (.inr (.inr (.inr (.inl rfl)))), by omega, by omega, by omega, by omega, by omega, rfl⟩
    · exact ⟨.inr (.inr (.inr (.inr (.inr rfl)))), by omega, by omega, by omega, by omega, by omega, rfl⟩
/-- so many steps are done -/
def HopJ (w0 wz : World) (X Z : Nat → Prop) (g gl gm gc0 gc1 hc0 hc1 i : Nat) (w : World) : Prop :=
  ∃ C fz p0 p1, C.length ≤ i ∧ HopI w0 wz X Z g gl gm gc0 gc1 hc0 hc1 (200 - i) C C fz p0 p1 p0 p1 w
section
variable {w0 wz w w' : World} {X Z : Nat → Prop} {g gl gm gc0 gc1 hc0 hc1 n m i : Nat} {C D : List Ce} {fz : Bool} {p0 p1 r0 r1 q : Ps}
theorem HopI.less (h : HopI w0 wz X Z g gl gm gc0 gc1 hc0 hc1 n C D fz p0 p1 r0 r1 w) (hn : m ≤ n) : HopI w0 wz X Z g gl gm gc0 gc1 hc0 hc1 m C D fz p0 p1 r0 r1 w := by
  obtain ⟨S, p, L, N, ad, cap, h1, h2, h3, h4, h5, h6⟩ := h
  exact ⟨S, p, L, N, ad, cap, h1, h2, h3, h4, by omega, h6⟩
theorem HopJ.more (h : HopJ w0 wz X Z g gl gm gc0 gc1 hc0 hc1 i w) (k : Gr w w') : HopJ w0 wz X Z g gl gm gc0 gc1 hc0 hc1 i w' := by
  obtain ⟨C, fz, p0, p1, h1, h2⟩ := h
  exact ⟨C, fz, p0, p1, h1, h2.more k⟩
theorem HopJ.swap (h : HopJ w0 wz X Z g gl gm gc0 gc1 hc0 hc1 i w) : HopJ w0 wz X Z g gl gm gc1 gc0 hc1 hc0 i w := by
  obtain ⟨C, fz, p0, p1, h1, h2⟩ := h
  exact ⟨C, fz, p1, p0, h1, h2.swap⟩
theorem HopJ.drop {wy : World} {b : Nat} (h : HopJ w0 wz (fun j => X j ∨ j = b) (fun j => Z j ∨ j = b) g gl gm gc0 gc1 hc0 hc1 i w) (hx : X gc0 ∧ X gc1 ∧ X hc0 ∧ X hc1) (hz : ∀ j, Z j → X j ∧ j < wy.heap.size ∧ wz.heap[j]? = wy.heap[j]?) :
    HopJ w0 wy X Z g gl gm gc0 gc1 hc0 hc1 i w := by
  obtain ⟨C, fz, p0, p1, h1, h2⟩ := h
  exact ⟨C, fz, p0, p1, h1, h2.drop hx hz⟩
/-- the stages of a step: before, the list's call, the reference's -/
def Steps (w0 wz : World) (X Z : Nat → Prop) (g gl gm gc0 gc1 hc0 hc1 i : Nat) (C : List Ce) (fz : Bool) (p0 p1 : Ps) (f1 f2 : FuncId) (a1 a2 : Array Value) : Prop :=
  ∃ (E : Int) (K1 K2 : World → Prop), (∀ w', HopI w0 wz X Z g gl gm gc0 gc1 hc0 hc1 (200 - i) C C fz p0 p1 p0 p1 w' → Calls Try.prog f1 a1 w' fun e w'' => e = .returned (.int .i64 E) ∧ Chg (Tt w0 Z) w' w'' ∧ K1 w'') ∧
    (∀ w', K1 w' → Calls Try.prog f2 a2 w' fun e w'' => e = .returned (.int .i64 E) ∧ Chg (Tt w0 Z) w' w'' ∧ K2 w'') ∧ (∀ w', K2 w' → HopJ w0 wz X Z g gl gm gc0 gc1 hc0 hc1 (i + 1) w')
theorem steps_of {f1 f2 : FuncId} {a1 a2 : Array Value} {E : Nat} (hC : C.length ≤ i)
    (c1 : ∀ w', HopI w0 wz X Z g gl gm gc0 gc1 hc0 hc1 (200 - i) C C fz p0 p1 p0 p1 w' → Calls Try.prog f1 a1 w' fun e w'' => e = .returned (.int .i64 (E : Int)) ∧ Chg (Tt w0 Z) w' w'' ∧ HopI w0 wz X Z g gl gm gc0 gc1 hc0 hc1 (200 - i) C C fz q p1 p0 p1 w'')
    (c2 : ∀ w', HopI w0 wz X Z g gl gm gc0 gc1 hc0 hc1 (200 - i) C C fz q p1 p0 p1 w' → Calls Try.prog f2 a2 w' fun e w'' => e = .returned (.int .i64 (E : Int)) ∧ Chg (Tt w0 Z) w' w'' ∧ HopI w0 wz X Z g gl gm gc0 gc1 hc0 hc1 (200 - i) C C fz q p1 q p1 w'') :
    Steps w0 wz X Z g gl gm gc0 gc1 hc0 hc1 i C fz p0 p1 f1 f2 a1 a2 :=
  ⟨E, _, _, c1, c2, fun w' h => ⟨C, fz, q, p1, by omega, h.less (by omega)⟩⟩
theorem steps_first (hC : C.length ≤ i) (hi : i ≤ 1000) : Steps w0 wz X Z g gl gm gc0 gc1 hc0 hc1 i C fz p0 p1 29 30 #[.pointer (some ⟨gc0, 0, none⟩)] #[.pointer (some ⟨hc0, 0, none⟩)] :=
  steps_of (q := (firstP C).2) hC (fun w' h => h.real0 fun S p L N hs hN hr => hN ▸ hr.first hs) (fun w' h => h.ref0 fun ad cap hr ha => ha.first hr (by omega))
theorem steps_last (hC : C.length ≤ i) (hi : i ≤ 1000) : Steps w0 wz X Z g gl gm gc0 gc1 hc0 hc1 i C fz p0 p1 31 32 #[.pointer (some ⟨gc0, 0, none⟩)] #[.pointer (some ⟨hc0, 0, none⟩)] :=
  steps_of (q := (lastP C).2) hC (fun w' h => h.real0 fun S p L N hs hN hr => hN ▸ hr.last hs) (fun w' h => h.ref0 fun ad cap hr ha => ha.last hr (by omega))
theorem steps_next (hC : C.length ≤ i) (hi : i ≤ 1000) : Steps w0 wz X Z g gl gm gc0 gc1 hc0 hc1 i C fz p0 p1 19 34 #[.pointer (some ⟨gc0, 0, none⟩)] #[.pointer (some ⟨hc0, 0, none⟩)] :=
  steps_of (q := (nextP C p0).2) hC (fun w' h => h.real0 fun S p L N hs hN hr => hN ▸ hr.next hs) (fun w' h => h.ref0 fun ad cap hr ha => ha.next hr (by omega))
theorem steps_prev (hC : C.length ≤ i) (hi : i ≤ 1000) : Steps w0 wz X Z g gl gm gc0 gc1 hc0 hc1 i C fz p0 p1 18 35 #[.pointer (some ⟨gc0, 0, none⟩)] #[.pointer (some ⟨hc0, 0, none⟩)] :=
  steps_of (q := (prevP C p0).2) hC (fun w' h => h.real0 fun S p L N hs hN hr => hN ▸ hr.prev hs) (fun w' h => h.ref0 fun ad cap hr ha => ha.prev hr (by omega))
theorem steps_seek (v : Vr) (hC : C.length ≤ i) (hi : i ≤ 1000) : Steps w0 wz X Z g gl gm gc0 gc1 hc0 hc1 i C fz p0 p1 16 33 #[.pointer (some ⟨gc0, 0, none⟩), ver v.key v.seq v.kind] #[.pointer (some ⟨hc0, 0, none⟩), ver v.key v.seq v.kind] :=
  steps_of (q := (seekP C v).2) hC (fun w' h => h.real0 fun S p L N hs hN hr => hN ▸ hr.seek hs v) (fun w' h => h.ref0 fun ad cap hr ha => ha.seek hr (by omega) v)
theorem steps_ins (k : List UInt8) (s d : Int) (v : List UInt8) (t : Int) (hv : v.length ≤ 9223372036854775807) (hC : C.length ≤ i) (hi : i ≤ 150) :
    Steps w0 wz X Z g gl gm gc0 gc1 hc0 hc1 i C fz p0 p1 12 13 #[.pointer (some ⟨gl, 0, none⟩), celV k s d v, .int .i64 t] #[.pointer (some ⟨gm, 0, none⟩), celV k s d v, .int .i64 t] := by
  have e : 200 - i = (200 - (i + 1)) + 1 := by omega
  refine ⟨_, HopI w0 wz X Z g gl gm gc0 gc1 hc0 hc1 (200 - (i + 1)) (insF C fz k s d v t).2 C fz p0 p1 p0 p1, HopI w0 wz X Z g gl gm gc0 gc1 hc0 hc1 (200 - (i + 1)) (insF C fz k s d v t).2 (insF C fz k s d v t).2 fz p0 p1 p0 p1, fun w' h => ?_, fun w' h => h.ins2 k s d v t hv (by omega), fun w' h => ⟨_, fz, p0, p1, ?_, h⟩⟩
  · rw [e] at h
    exact h.ins1 k s d v t hv (by omega)
  · have := ins_len C fz k s d v t
    omega
end
end Go.Proofs.Ytnafhjgfkofkbaa
namespace Go.Proofs.Ytnafhjgfkofkbaa
set_option linter.unusedVariables false
set_option linter.unusedSimpArgs false
open Go.RowKit Ikey Varint
/-- the two slices of pointers -/
structure Arr (w : World) (aa ab gc0 gc1 hc0 hc1 : Nat) : Prop where
  a0 : w.cell? ⟨aa, 0, none⟩ = some (.pointer (some ⟨gc0, 0, none⟩))
  a1 : w.cell? ⟨aa, 1, none⟩ = some (.pointer (some ⟨gc1, 0, none⟩))
  b0 : w.cell? ⟨ab, 0, none⟩ = some (.pointer (some ⟨hc0, 0, none⟩))
  b1 : w.cell? ⟨ab, 1, none⟩ = some (.pointer (some ⟨hc1, 0, none⟩))
theorem hops_start {w3 w4 w5 w6 : World} {S : Nat → Prop} {g gl : Nat} (h : Sl w3 w4 S g gl (fieldP 200) (newL 0) [])
    (b5 : Blk w5 (w4.heap.size + 1) 101 (curV gl 0 (0, 0))) (g5 : Gr (w4.alloc (.cells #[.slice none 0 0, .bool false] 38)) w5) (b6 : Blk w6 w5.heap.size 101 (curV gl 0 (0, 0))) (g6 : Gr w5 w6) :
    ∃ w8, w8 = (((w6.alloc (.cells #[.pointer (some ⟨w4.heap.size + 1, 0, none⟩), .pointer (some ⟨w5.heap.size, 0, none⟩)] 42)).alloc (.cells #[.pointer (some ⟨w4.heap.size, 0, none⟩), .int .i64 (-1), .string ⟨#[]⟩, .int .i64 0, .int .i64 0] 61)).alloc (.cells #[.pointer (some ⟨w4.heap.size, 0, none⟩), .int .i64 (-1), .string ⟨#[]⟩, .int .i64 0, .int .i64 0] 61)).alloc (.cells #[.pointer (some ⟨w6.heap.size + 1, 0, none⟩), .pointer (some ⟨w6.heap.size + 1 + 1, 0, none⟩)] 59) ∧
      ∃ gm gc0 gc1 aa hc0 hc1 ab, (gm = w4.heap.size ∧ gc0 = w4.heap.size + 1 ∧ gc1 = w5.heap.size ∧ aa = w6.heap.size ∧ hc0 = w6.heap.size + 1 ∧ hc1 = w6.heap.size + 1 + 1 ∧ ab = w6.heap.size + 1 + 1 + 1) ∧
        HopI w3 w8 (HX gc0 gc1 hc0 hc1 aa ab) (HZ aa ab) g gl gm gc0 gc1 hc0 hc1 200 [] [] false .front .front .front .front w8 ∧ Arr w8 aa ab gc0 gc1 hc0 hc1 ∧ aa < w8.heap.size ∧ ab < w8.heap.size := by
  refine ⟨_, rfl, w4.heap.size, _, _, _, _, _, _, ⟨rfl, rfl, rfl, rfl, rfl, rfl, rfl⟩, ?_⟩
  generalize ho1 : Obj.cells #[.pointer (some ⟨w4.heap.size + 1, 0, none⟩), .pointer (some ⟨w5.heap.size, 0, none⟩)] 42 = o1
  generalize ho2 : Obj.cells #[.pointer (some ⟨w4.heap.size, 0, none⟩), .int .i64 (-1), .string ⟨#[]⟩, .int .i64 0, .int .i64 0] 61 = o2
  generalize ho4 : Obj.cells #[.pointer (some ⟨w6.heap.size + 1, 0, none⟩), .pointer (some ⟨w6.heap.size + 1 + 1, 0, none⟩)] 59 = o4
  have k4 : Gr w4 (w4.alloc (.cells #[.slice none 0 0, .bool false] 38)) := Gr.alloc _ _
  have k6 : Gr w6 (((w6.alloc o1).alloc o2).alloc o2) := ((Gr.alloc _ _).trans (Gr.alloc _ _)).trans (Gr.alloc _ _)
  have k7 : Gr (((w6.alloc o1).alloc o2).alloc o2) ((((w6.alloc o1).alloc o2).alloc o2).alloc o4) := Gr.alloc _ _
  have s1 := b5.lt
  have s2 := b6.lt
  have kA : Gr (w6.alloc o1) ((((w6.alloc o1).alloc o2).alloc o2).alloc o4) := ((Gr.alloc _ _).trans (Gr.alloc _ _)).trans (Gr.alloc _ _)
  have kB : Gr ((w6.alloc o1).alloc o2) ((((w6.alloc o1).alloc o2).alloc o2).alloc o4) := (Gr.alloc _ _).trans (Gr.alloc _ _)
  have A := fun o cs t (e : o = Obj.cells cs t) => show Blk (w6.alloc o) w6.heap.size t cs.toList by rw [e]; exact Blk.new _ _ _
  have a1 := (A o1 _ _ ho1.symm).gr kA
  have a2 : Blk ((((w6.alloc o1).alloc o2).alloc o2).alloc o4) (w6.heap.size + 1) 61 (rcV w4.heap.size (-1) ⟨[], 0, 0⟩) := by
    have := Blk.new (w6.alloc o1) 61 #[.pointer (some ⟨w4.heap.size, 0, none⟩), .int .i64 (-1), .string ⟨#[]⟩, .int .i64 0, .int .i64 0]
    rw [ho2, size_alloc1] at this
    exact this.gr kB
  have a3 : Blk ((((w6.alloc o1).alloc o2).alloc o2).alloc o4) (w6.heap.size + 1 + 1) 61 (rcV w4.heap.size (-1) ⟨[], 0, 0⟩) := by
    have := Blk.new ((w6.alloc o1).alloc o2) 61 #[.pointer (some ⟨w4.heap.size, 0, none⟩), .int .i64 (-1), .string ⟨#[]⟩, .int .i64 0, .int .i64 0]
    rw [ho2, size_alloc1, size_alloc1] at this
    exact this.gr k7
  have a4 : Blk ((((w6.alloc o1).alloc o2).alloc o2).alloc o4) (w6.heap.size + 1 + 1 + 1) 59 [.pointer (some ⟨w6.heap.size + 1, 0, none⟩), .pointer (some ⟨w6.heap.size + 1 + 1, 0, none⟩)] := by
    have := Blk.new (((w6.alloc o1).alloc o2).alloc o2) 59 #[.pointer (some ⟨w6.heap.size + 1, 0, none⟩), .pointer (some ⟨w6.heap.size + 1 + 1, 0, none⟩)]
    rw [ho4, size_alloc1, size_alloc1, size_alloc1] at this
    exact this
  have hm : Blk ((((w6.alloc o1).alloc o2).alloc o2).alloc o4) w4.heap.size 38 [.slice none 0 0, .bool false] := (Blk.new w4 38 #[.slice none 0 0, .bool false]).gr (((g5.trans g6).trans k6).trans k7)
  have s8 : ((((w6.alloc o1).alloc o2).alloc o2).alloc o4).heap.size = w6.heap.size + 1 + 1 + 1 + 1 := by rw [size_alloc1, size_alloc1, size_alloc1, size_alloc1]
  refine ⟨HopI.start h (((k4.trans (g5.trans g6)).trans k6).trans k7) hm (b5.gr ((g6.trans k6).trans k7)) (b6.gr (k6.trans k7)) a2 a3 (by rw [s8]; omega), ⟨a1.cell (i := 0) rfl, a1.cell (i := 1) rfl, a4.cell (i := 0) rfl, a4.cell (i := 1) rfl⟩, by rw [s8]; omega, by rw [s8]; omega⟩
section
variable {w0 wz w w' : World} {X Z : Nat → Prop} {g gl gm gc0 gc1 hc0 hc1 n i aa ab : Nat} {C D : List Ce} {fz : Bool} {p0 p1 r0 r1 : Ps}
/-- one of two cursors -/
theorem hop_pick {k : Nat} (hk : k < 2) (h : HopI w0 wz X Z g gl gm gc0 gc1 hc0 hc1 n C C fz p0 p1 p0 p1 w) (ha : Arr wz aa ab gc0 gc1 hc0 hc1) :
    ∃ c0 c1 d0 d1 q0 q1, wz.cell? ⟨aa, k, none⟩ = some (.pointer (some ⟨c0, 0, none⟩)) ∧ wz.cell? ⟨ab, k, none⟩ = some (.pointer (some ⟨d0, 0, none⟩)) ∧ HopI w0 wz X Z g gl gm c0 c1 d0 d1 n C C fz q0 q1 q0 q1 w ∧
      ∀ (wy : World) (X' Z' : Nat → Prop) i w', HopJ w0 wy X' Z' g gl gm c0 c1 d0 d1 i w' → HopJ w0 wy X' Z' g gl gm gc0 gc1 hc0 hc1 i w' := by
  rcases (by omega : k = 0 ∨ k = 1) with rfl | rfl
  · exact ⟨gc0, gc1, hc0, hc1, p0, p1, ha.a0, ha.b0, h, fun _ _ _ _ _ h => h⟩
  · exact ⟨gc1, gc0, hc1, hc0, p1, p0, ha.a1, ha.b1, h.swap, fun _ _ _ _ _ h => h.swap⟩
/-- behind the list's end -/
structure HopD (w0 wz : World) (Z : Nat → Prop) (g gl gc0 gc1 : Nat) (w : World) : Prop where
  lst : ∃ L, Blk w gl 80 (lstV g L) ∧ L.fd = true
  idle : ∃ (S : Nat → Prop) (p : PoolF), PoolAt w S g p ∧ PoolOk p ∧ countF p = 200
  c0 : ∃ side q, Blk w gc0 101 (curV gl side q)
  c1 : ∃ side q, Blk w gc1 101 (curV gl side q)
  z : ∀ j, Z j → j < wz.heap.size ∧ w.heap[j]? = wz.heap[j]?
  gr : Gr w0 w
theorem HopD.more (h : HopD w0 wz Z g gl gc0 gc1 w) (k : Gr w w') : HopD w0 wz Z g gl gc0 gc1 w' := by
  obtain ⟨⟨L, h1, h2⟩, ⟨S, p, h3, h4, h5⟩, ⟨s0, q0, h6⟩, ⟨s1, q1, h7⟩, h8, h9⟩ := h
  refine ⟨⟨L, h1.gr k, h2⟩, ⟨S, p, h3.gr k, h4, h5⟩, ⟨s0, q0, h6.gr k⟩, ⟨s1, q1, h7.gr k⟩, fun j hj => ⟨(h8 j hj).1, ?_⟩, h9.trans k⟩
  obtain ⟨a1, a2⟩ := h8 j hj
  have hl : j < w.heap.size := by
    by_cases e : j < w.heap.size
    · exact e
    · rw [Array.getElem?_eq_none (by omega), Array.getElem?_eq_getElem a1] at a2
      cases a2
  exact (k.block j hl).trans a2
theorem HopD.zcell (h : HopD w0 wz Z g gl gc0 gc1 w) {b i : Nat} {v : Value} (hb : Z b) (hv : wz.cell? ⟨b, i, none⟩ = some v) : w.cell? ⟨b, i, none⟩ = some v := by
  have := (h.z b hb).2
  rw [← hv]
  simp only [World.cell?]
  rw [this]
theorem HopD.free (h : HopD w0 wz Z g gl gc0 gc1 w) : Calls Try.prog 20 #[.pointer (some ⟨gl, 0, none⟩)] w fun e w' => e = .returned (.int .i64 12) ∧ w = w' := by
  obtain ⟨L, h1, h2⟩ := h.lst
  exact Free_dead w g gl L h1 h2
theorem HopD.idl (h : HopD w0 wz Z g gl gc0 gc1 w) : Calls Try.prog 21 #[.pointer (some ⟨g, 0, none⟩)] w fun e w' => e = .returned (.int .i64 200) ∧ w = w' := by
  obtain ⟨S, p, h3, h4, h5⟩ := h.idle
  have := Idle_any w S g p h3 h4
  rw [h5] at this
  exact this
theorem HopD.cell (h : HopD w0 wz Z g gl gc0 gc1 w) : Calls Try.prog 17 #[.pointer (some ⟨gc0, 0, none⟩)] w fun e w' => e = .returned (zcE 3) ∧ Gr w w' := by
  obtain ⟨L, h1, h2⟩ := h.lst
  obtain ⟨s, q, h3⟩ := h.c0
  exact Cell_gone h3 h1 h2
theorem HopD.get (h : HopD w0 wz Z g gl gc0 gc1 w) (key : List UInt8) (s : Int) : Calls Try.prog 27 #[.pointer (some ⟨gl, 0, none⟩), .string (str key), .int .i64 s] w fun e w' => e = .returned (zcE 12) ∧ Gr w w' := by
  obtain ⟨L, h1, h2⟩ := h.lst
  exact Get_gone h1 h2 key s
theorem HopD.next (h : HopD w0 wz Z g gl gc0 gc1 w) : Calls Try.prog 19 #[.pointer (some ⟨gc1, 0, none⟩)] w fun e w' => e = .returned (.int .i64 3) ∧ w = w' := by
  obtain ⟨L, h1, h2⟩ := h.lst
  obtain ⟨s, q, h3⟩ := h.c1
  exact Next_gone h3 h1 h2
theorem HopD.cnt (h : HopD w0 wz Z g gl gc0 gc1 w) : Calls Try.prog 25 #[.pointer (some ⟨gl, 0, none⟩)] w fun e w' => e = .returned (.int .i64 0) ∧ w = w' := by
  obtain ⟨L, h1, h2⟩ := h.lst
  have := Count_any w g gl L h1
  rw [h2, if_pos rfl] at this
  exact this
theorem HopD.ins (h : HopD w0 wz Z g gl gc0 gc1 w) : Calls Try.prog 12 #[.pointer (some ⟨gl, 0, none⟩), celV [] 0 0 [], .int .i64 1] w fun e w' => e = .returned (.int .i64 12) ∧ Gr w w' := by
  obtain ⟨L, h1, h2⟩ := h.lst
  exact Insert_no w g gl L h1 [] 0 0 [] 1 (by simp) 12 (by unfold chkI; rw [h2, Bool.or_true, if_pos rfl]) (by decide)
theorem HopI.free (h : HopI w0 wz X Z g gl gm gc0 gc1 hc0 hc1 n C D fz p0 p1 r0 r1 w) :
    Calls Try.prog 20 #[.pointer (some ⟨gl, 0, none⟩)] w fun e w' => e = .returned (.int .i64 0) ∧ HopD w0 wz Z g gl gc0 gc1 w' := by
  obtain ⟨S, p, L, N, ad, cap, h1, h2, h3, h4, h5, h6, h7, h8⟩ := h
  obtain ⟨p', hc, k1, k2, k3, k4, k5⟩ := h1.pr.sl.free
  refine hc.mono ?_
  rintro e w' ⟨he, hs, hch⟩
  have far : ∀ j, X j → ¬ (S j ∨ j = gl) := fun j hj e => by
    obtain ⟨_, a2, a3, _⟩ := h1.pr.keep j hj
    exact e.elim a2 a3
  obtain ⟨s0, q0, b0⟩ := h1.c0.blk
  obtain ⟨s1, q1, b1⟩ := h1.c1.blk
  refine ⟨he, ⟨_, hs.blk, rfl⟩, ⟨S, p', hs.pool, hs.ok, ?_⟩, ⟨s0, q0, hch.blk b0 (far _ h1.x.1)⟩, ⟨s1, q1, hch.blk b1 (far _ h1.x.2.1)⟩, fun j hj => ?_, hch.gr h1.pr.sl.gr (fun j hj => hj.elim (h1.pr.sl.base j) (fun e => by rw [e]; exact h1.pr.sl.bl))⟩
  · rw [count_all hs.ok (fun j => by
      by_cases e : j = L.r
      · rw [e, k3]
      · rw [k4 j e]; exact h7 j (by rw [← h4]; exact e)), k2, h6]
  · obtain ⟨a1, a2, a3, a4, a5, a6, a7⟩ := h8 j hj
    exact ⟨a6, (hch.block j (h1.pr.keep j a1).1 (far _ a1)).trans a7⟩
theorem HopI.zheap (h : HopI w0 wz X Z g gl gm gc0 gc1 hc0 hc1 n C D fz p0 p1 r0 r1 w) : ∀ j, Z j → X j ∧ j < wz.heap.size ∧ j < w.heap.size ∧ w.heap[j]? = wz.heap[j]? := by
  obtain ⟨S, p, L, N, ad, cap, h1, h2, h3, h4, h5, h6, h7, h8⟩ := h
  exact fun j hj => by
    obtain ⟨a1, a2, a3, a4, a5, a6, a7⟩ := h8 j hj
    exact ⟨a1, a6, (h1.pr.keep j a1).1, a7⟩
end
end Go.Proofs.Ytnafhjgfkofkbaa
