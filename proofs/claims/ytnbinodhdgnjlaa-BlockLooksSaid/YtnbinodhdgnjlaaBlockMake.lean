/- Layer 13 (block): Build. -/
import Derived.Test.YtnbinodhdgnjlaaBlockBuild
import Derived.Test.YtnbinodhdgnjlaaApp
import Derived.LoopN
namespace Go.Proofs.Ytnbinodhdgnjlaa
set_option linter.unusedVariables false
set_option linter.unusedSimpArgs false
open Go.RowKit Bk
open Go.Op (bytesLess)
/-- two slices that lie in blocks of their own -/
def Apart (x y : Option Addr) : Prop := ∀ a b, x = some a → y = some b → a.block ≠ b.block
theorem Apart.symm {x y : Option Addr} (h : Apart x y) : Apart y x := fun a b ha hb e => h b a hb ha e.symm
theorem Apart.none (y : Option Addr) : Apart .none y := fun a b h => by cases h
theorem Apart.step {x x' y : Option Addr} {w w' : World} {r : Option Nat} {B : Nat} {e : TypeId} {cap n : Nat} {xs : List Value} (h : Apart x y) (_ : w.grownBy w' r) (f : ∀ a, x' = some a → x = some a ∨ w.heap.size ≤ a.block) (o : Owns w B e 1 y cap n xs) : Apart x' y := by
  intro a b ha hb
  rcases f a ha with h1 | h1
  · exact h a b h1 hb
  · have := (o.lt b hb).2; omega
theorem Owns.keep {w w' : World} {B : Nat} {e : TypeId} {cap n : Nat} {xs : List Value} {x y : Option Addr} (o : Owns w B e 1 y cap n xs) (g : w.grownBy w' (x.map (·.block))) (h : Apart x y) : Owns w' B e 1 y cap n xs :=
  o.grown g (fun b hb e => by
    cases x with
    | none => cases e
    | some a => exact h a b rfl hb (Option.some.inj e).symm)
theorem row_from {w : World} {B : Nat} {e : TypeId} {ad : Option Addr} {size cap n : Nat} {xs : List Value} (ho : Owns w B e size ad cap n xs) : ∀ k, ad.map (·.block) = some k → B ≤ k := by
  intro k hk
  cases ad with
  | none => cases hk
  | some x => cases hk; exact (ho.lt x rfl).1
theorem check_any (ad : Option Addr) (cap : Nat) (l : List Pr) (itv : Int) (w : World) (hr : Row w ad (pv l)) (hl : l.length ≤ 9223372036854775807) :
    Calls Try.prog 30 #[.slice ad l.length cap, .int .i64 itv] w fun e w' => e = .returned (.int .i64 (chkF l itv : Nat)) ∧ Gr w w' := by
  unfold chkF
  by_cases h1 : itv < 1 ∨ 64 < itv
  · rw [if_pos h1]; exact check_arg ad cap l itv w h1
  · rw [if_neg h1]
    by_cases h2 : 10000 < l.length ∨ l.any longB = true
    · rw [if_pos h2]; exact check_big ad cap l itv w (by omega) (by omega) hl hr h2
    · rw [if_neg h2]
      have h3 : ¬ 10000 < l.length ∧ ¬ l.any longB = true := not_or.1 h2
      refine (check_rest ad cap l itv w (by omega) (by omega) hr (by omega) (by simpa using h3.2)).mono ?_
      rintro e w' ⟨rfl, g⟩
      refine ⟨?_, g⟩
      split <;> rfl
set_option maxRecDepth 100000 in
theorem Build_bad (ad : Option Addr) (cap : Nat) (l : List Pr) (itv : Int) (w : World) (hr : Row w ad (pv l)) (hl : l.length ≤ 9223372036854775807) (hc : chkF l itv ≠ 0) :
    Calls Try.prog 11 #[.slice ad l.length cap, .int .i64 itv] w (RetBE 5 w [] (chkF l itv)) := by
  have HC := Lib.hid (check_any ad cap l itv w hr hl)
  generalize chkF l itv = c at *
  have hne : ((c : Int) != 0) = true := by rw [bne_iff_ne]; omega
  go_enter Try.func11, Try.ntmps11
  go_wp2_with (go_at_call 30; refine HC.out.mono ?_; rintro e w1 ⟨rfl, g1⟩)
  go_ret2
  exact ⟨none, 0, rfl, Owns.empty _ _ _ _, g1⟩
theorem Put_at (X : Int) (n : Nat) (w : World) (hX : X = (n : Int)) (hn : n < 18446744073709551616) : Calls Try.prog 33 #[.int .u64 X] w (RetB 5 w (Varint.putF n)) := by
  subst hX; exact Put_any n w hn
theorem Blk.two {w : World} {g : Nat} {t : TypeId} {a b : Value} (h : Blk w g t [a, b]) : w.cell? ⟨g, 0, none⟩ = some a ∧ w.cell? ⟨g, 1, none⟩ = some b := ⟨h.cell (i := 0) rfl, h.cell (i := 1) rfl⟩
theorem fixed_at (B : Nat) (adb : Option Addr) (capb : Nat) (l : List UInt8) (m : Nat) (X S : Int) (n k : Nat) (w : World) (hm : m = l.length) (hX : X = (n : Int)) (hS : S = (k : Int)) (ho : Owns w B 5 1 adb capb m (bv l)) (hB : B ≤ w.heap.size)
    (hk : k ≤ 8) (hn : n < 256 ^ k) (hl : l.length ≤ 70368744177664) :
    Calls Try.prog 31 #[.slice adb m capb, .int .i64 X, .int .i64 S] w (RetApp B 5 adb w (l ++ Varint.bytesN k n)) := by
  subst hm; exact fixed_any B adb capb l X S n k w hX hS ho hB hk hn hl
/-- where Build stands within a round: the pairs' bytes, the places, the pair that it is at -/
structure Sit (w : World) (g : Nat) (k v : List UInt8) (adb : Option Addr) (cb : Nat) (D : List UInt8) (adp : Option Addr) (cp : Nat) (Pc : List UInt8) (wr : World) : Prop where
  ob : Owns wr w.heap.size 5 1 adb cb D.length (bv D)
  op : Owns wr w.heap.size 5 1 adp cp Pc.length (bv Pc)
  ap : Apart adb adp
  gr : Gr w wr
  blk : Blk wr g 31 [.string (str k), .string (str v)]
  nb : ∀ a, adb = some a → a.block ≠ g
  np : ∀ a, adp = some a → a.block ≠ g
section
variable {w wr w' : World} {g : Nat} {k v D Pc : List UInt8} {adb adp : Option Addr} {cb cp : Nat}
theorem Sit.start (ob : Owns wr w.heap.size 5 1 adb cb D.length (bv D)) (op : Owns wr w.heap.size 5 1 adp cp Pc.length (bv Pc)) (ap : Apart adb adp) (hg : Gr w wr) :
    Sit w wr.heap.size k v adb cb D adp cp Pc (wr.alloc (.cells #[.string (str k), .string (str v)] 31)) :=
  ⟨ob.gr (Gr.alloc _ _), op.gr (Gr.alloc _ _), ap, hg.trans (Gr.alloc _ _), Blk.new _ _ _, fun a ha => Nat.ne_of_lt (ob.lt a ha).2, fun a ha => Nat.ne_of_lt (op.lt a ha).2⟩
theorem Sit.more (s : Sit w g k v adb cb D adp cp Pc wr) (h : Gr wr w') : Sit w g k v adb cb D adp cp Pc w' :=
  ⟨s.ob.gr h, s.op.gr h, s.ap, s.gr.trans h, s.blk.gr h, s.nb, s.np⟩
theorem ne_step {ad ad' : Option Addr} (h : ∀ a, ad = some a → a.block ≠ g) (f : ∀ a, ad' = some a → ad = some a ∨ wr.heap.size ≤ a.block) (hg : g < wr.heap.size) : ∀ a, ad' = some a → a.block ≠ g := fun a ha => by
  rcases f a ha with h1 | h1
  · exact h a h1
  · omega
theorem row_ne {ad : Option Addr} (h : ∀ a, ad = some a → a.block ≠ g) : some g ≠ ad.map (·.block) := by
  cases ad with
  | none => intro e; cases e
  | some a => intro e; simp only [Option.map_some, Option.some.injEq] at e; exact h a rfl e.symm
theorem Sit.app (s : Sit w g k v adb cb D adp cp Pc wr) {adb' : Option Addr} {cb' n' : Nat} {D' : List UInt8} (kk : wr.grownBy w' (adb.map (·.block))) (f : ∀ a, adb' = some a → adb = some a ∨ wr.heap.size ≤ a.block)
    (o : Owns w' w.heap.size 5 1 adb' cb' n' (bv D')) : Sit w g k v adb' cb' D' adp cp Pc w' := by
  have hn : n' = D'.length := by have := o.1; rw [bv_length] at this; omega
  subst hn
  exact ⟨o, s.op.keep kk s.ap, s.ap.step kk f s.op, s.gr.grown kk (row_from s.ob), s.blk.grown kk (row_ne s.nb), ne_step s.nb f s.blk.lt, s.np⟩
theorem Sit.place (s : Sit w g k v adb cb D adp cp Pc wr) {adp' : Option Addr} {cp' : Nat} {P' : List UInt8} (t : AppTo wr adp w' adp')
    (o : Owns w' w.heap.size 5 1 adp' cp' P'.length (bv P')) : Sit w g k v adb cb D adp' cp' P' w' :=
  ⟨s.ob.keep t.1 s.ap.symm, o, (s.ap.symm.step t.1 t.2 s.ob).symm, s.gr.grown t.1 (row_from s.op), s.blk.grown t.1 (row_ne s.np), s.nb, ne_step s.np t.2 s.blk.lt⟩
end
set_option maxRecDepth 100000 in
set_option maxHeartbeats 4000000 in
theorem Build_ok (ad : Option Addr) (cap : Nat) (l : List Pr) (itv : Nat) (w : World) (hr : Row w ad (pv l)) (h1 : 1 ≤ itv) (h2 : itv ≤ 64) (hl : l.length ≤ 10000) (hlong : l.any longB = false) (hc : chkF l itv = 0) :
    Calls Try.prog 11 #[.slice ad l.length cap, .int .i64 (itv : Int)] w (RetBE 5 w (buildF itv l) 0) := by
  have HC := Lib.hid (check_any ad cap l itv w hr (by omega))
  rw [hc] at HC
  clear hc
  have HOK := Lib.hid (okLens_of hlong)
  have HR := Lib.hid hr.pair
  clear hr hlong
  have i0 : ∀ (a b c : Value) w, (Instr.index 60 (.agg #[a, b, c]) (.int .i64 0)).run Try.prog w = .ok a w := fun _ _ _ _ => by kernel_rfl
  have i1 : ∀ (a b c : Value) w, (Instr.index 60 (.agg #[a, b, c]) (.int .i64 1)).run Try.prog w = .ok b w := fun _ _ _ _ => by kernel_rfl
  have i2 : ∀ (a b c : Value) w, (Instr.index 60 (.agg #[a, b, c]) (.int .i64 2)).run Try.prog w = .ok c w := fun _ _ _ _ => by kernel_rfl
  go_enter Try.func11, Try.ntmps11
  go_wp2_with (go_at_call 30; refine HC.out.mono ?_; rintro e w1 ⟨rfl, g1⟩)
  go_loopw [7, 8, 22] (fun vb vp vi wr => ∃ (i : Nat) (adb adp : Option Addr) (cb cp : Nat), vb = .slice adb (dataN itv l i).length cb ∧ vp = .slice adp (placeN itv l i).length cp ∧ vi = .int .i64 (i : Int) ∧ i ≤ l.length ∧
    Owns wr w.heap.size 5 1 adb cb (dataN itv l i).length (bv (dataN itv l i)) ∧ Owns wr w.heap.size 5 1 adp cp (placeN itv l i).length (bv (placeN itv l i)) ∧ Apart adb adp ∧ Gr w wr) (fun _ _ vi _ => l.length - (intOf vi).toNat)
  case atStart => exact ⟨0, none, none, 0, 0, rfl, rfl, rfl, Nat.zero_le _, Owns.empty _ _ _ _, Owns.empty _ _ _ _, Apart.none _, g1⟩
  case round =>
    obtain ⟨i, adb, adp, cb, cp, rfl, rfl, rfl, hi, ob, op, hap, hg⟩ := hrel
    have HAP := Lib.hid hap; clear hap
    have hbs := hg.size
    by_cases hlt : i < l.length
    · obtain ⟨bl, off, rfl, hc1, hc2⟩ := HR.out i hlt
      have q1 := hg.cell hc1
      have q2 := hg.cell hc2
      have hdl := dataN_len (itv := itv) HOK.out i
      have hpl := placeN_len itv l i
      have hD : dataN itv l (i + 1) = dataN itv l i ++ entF (nAt itv l i) (l.getD i noPr) := rfl
      have hP : placeN itv l (i + 1) = placeN itv l i ++ (if i % itv = 0 then Varint.bytesN 4 (dataN itv l i).length else []) := rfl
      have hge : l.getD i noPr = l[i] := by rw [List.getD_eq_getElem?_getD, List.getElem?_eq_getElem hlt, Option.getD_some]
      have hok := HOK.out i
      have hnk := nAt_le itv l i
      rw [hge] at hD hok hnk
      have HD := Lib.hid hD; have HP := Lib.hid hP; have HGE := Lib.hid hge
      clear hD hP hge hc1 hc2
      generalize hpp : l[i] = p at *
      have HPP := Lib.hid hpp; clear hpp
      obtain ⟨k, v⟩ := p
      dsimp only at *
      generalize hDD : dataN itv l i = D at *
      generalize hPP : placeN itv l i = Pc at *
      have HDD := Lib.hid hDD; have HPL := Lib.hid hPP
      clear hDD hPP
      generalize hn : nAt itv l i = n at *
      have HN := Lib.hid hn; clear hn
      have hs1 := Sit.start (k := k) (v := v) ob op HAP.out hg
      generalize hgb : wr.heap.size = gb at hs1
      have HGB := Lib.hid hgb; clear hgb
      have p1 := putF_le n (by omega)
      have p2 := putF_le (k.length - n) (by omega)
      have p3 := putF_le v.length (by omega)
      have hEF := Lib.hid (show D ++ entF n (k, v) = D ++ Varint.putF n ++ Varint.putF (k.length - n) ++ Varint.putF v.length ++ k.drop n ++ v by simp [entF])
      have hdk : (k.drop n).length = k.length - n := List.length_drop
      by_cases h0 : i % itv = 0
      · have hz : (i : Int) % (itv : Int) = 0 := by omega
        have HP2 := Lib.hid (show placeN itv l (i + 1) = Pc ++ Varint.bytesN 4 D.length by rw [HP.out, if_pos h0])
        have hn0 : n = 0 := by rw [← HN.out]; unfold nAt; rw [if_pos h0]
        have HX := Lib.hid (show (0 : Int) = (n : Int) by omega)
        have HK := Lib.hid (show (k.length : Int) = ((k.length - n : Nat) : Int) by omega)
        have HDR := Lib.hid (show k = k.drop n by rw [hn0]; rfl)
        clear h0 hn0
        go_wp2_with (first
          | (go_at_call 31; rw [HGB.out]; refine (fixed_any w.heap.size adp cp Pc _ _ D.length 4 _ rfl rfl hs1.op hs1.gr.size (by omega) (by omega) (by omega)).mono ?_; rintro e w2 ⟨ad2, c2, rfl, o2, t2⟩; have s2 := hs1.place t2 o2; rw [← HP2.out] at s2 ⊢; obtain ⟨e0, e1⟩ := s2.blk.two))
        refine wp_loop_rounds 4 ?_
        rw [rounds_succ]
        go_wp2_with (first
          | (go_at_call 33; refine (Put_at _ n _ (by first | exact HX.out | exact rfl) (by omega)).mono ?_; rintro e w3 ⟨ad3, c3, rfl, o3, g3⟩; have s3 := s2.more g3)
          | (at_builtin; refine wp_append elemB rfl _ _ rfl rfl s3.ob rfl (Src.bytes o3.bytes rfl Try.underlying26) (by unfold maxLen; omega) (by omega) s3.gr.size ?_; intro ad4 c4 w4 o4 k4 f4; rw [← bv_append] at o4; have s4 := s3.app k4 f4 o4))
        rw [rounds_succ]
        go_wp2_with (first
          | (go_at_call 33; refine (Put_at _ (k.length - n) _ HK.out (by omega)).mono ?_; rintro e w5 ⟨ad5, c5, rfl, o5, g5⟩; have s5 := s4.more g5; have ob5 := s5.ob; rw [List.length_append] at ob5)
          | (at_builtin; refine wp_append elemB rfl _ _ rfl rfl ob5 rfl (Src.bytes o5.bytes rfl Try.underlying26) (by unfold maxLen; omega) (by omega) s5.gr.size ?_; intro ad6 c6 w6 o6 k6 f6; rw [← bv_append] at o6; have s6 := s5.app k6 f6 o6))
        rw [rounds_succ]
        go_wp2_with (first
          | (go_at_call 33; refine (Put_at _ v.length _ rfl (by omega)).mono ?_; rintro e w7 ⟨ad7, c7, rfl, o7, g7⟩; have s7 := s6.more g7; have ob7 := s7.ob; rw [List.length_append, List.length_append] at ob7)
          | (at_builtin; refine wp_append elemB rfl _ _ rfl rfl ob7 rfl (Src.bytes o7.bytes rfl Try.underlying26) (by unfold maxLen; omega) (by omega) s7.gr.size ?_; intro ad8 c8 w8 o8 k8 f8; rw [← bv_append] at o8; have s8 := s7.app k8 f8 o8))
        rw [rounds_succ]
        go_wp2
        have ob8 := s8.ob
        rw [List.length_append, List.length_append, List.length_append] at ob8
        obtain ⟨row, hrow⟩ : ∃ row, row = ad8.map (·.block) := ⟨_, rfl⟩
        have hgne : some gb ≠ row := by rw [hrow]; exact row_ne s8.nb
        have hrlt : ∀ g', row = some g' → g' < w8.heap.size ∧ w.heap.size ≤ g' := by
          intro g' hg'
          rw [hrow] at hg'
          cases ad8 with
          | none => cases hg'
          | some a => cases hg'; exact ⟨(ob8.lt a rfl).2, (ob8.lt a rfl).1⟩
        have hpr : ∀ a, ad2 = some a → some a.block ≠ row := by
          intro a ha hr
          rw [hrow] at hr
          cases ad8 with
          | none => cases hr
          | some y => simp only [Option.map_some, Option.some.injEq] at hr; exact s8.ap y a rfl ha hr.symm
        obtain ⟨A, hA⟩ : ∃ A : Option Obj, ∀ g, row = some g → A = w8.heap[g]? := ⟨row.bind fun g => w8.heap[g]?, fun g hg' => by rw [hg']; rfl⟩
        obtain ⟨B, hB⟩ : ∃ B : Option Obj, B = if D.length + (Varint.putF n).length + (Varint.putF (k.length - n)).length + (Varint.putF v.length).length + (k.length - n) ≤ c8 then appRow ((D.length + (Varint.putF n).length + (Varint.putF (k.length - n)).length + (Varint.putF v.length).length) * 1) (bv (k.drop n)) A else A := ⟨_, rfl⟩
        have mA : D.length + (Varint.putF n).length + (Varint.putF (k.length - n)).length + (Varint.putF v.length).length + (k.length - n) ≤ maxLen := by unfold maxLen; omega
        have mB : (D.length + (Varint.putF n).length + (Varint.putF (k.length - n)).length + (Varint.putF v.length).length + (k.length - n)) * 1 ≤ 140737488355328 := by omega
        have mC : D.length + (Varint.putF n).length + (Varint.putF (k.length - n)).length + (Varint.putF v.length).length + (k.length - n) + v.length ≤ maxLen := by unfold maxLen; omega
        have mD : (D.length + (Varint.putF n).length + (Varint.putF (k.length - n)).length + (Varint.putF v.length).length + (k.length - n) + v.length) * 1 ≤ 140737488355328 := by omega
        have hb8 := s8.gr.size
        have HRow := Lib.hid hrow; have HA := Lib.hid hA; have HBB := Lib.hid hB; have HPR := Lib.hid hpr; have HRL := Lib.hid hrlt
        clear hrow hA hB hpr hrlt
        obtain ⟨x0, x1⟩ := s8.blk.two
        have HSrc := Lib.hid (show ∀ w, Src Try.prog 9 w 1 (.string (str (k.drop n))) (k.length - n) (bv (k.drop n)) from fun w => by have := src_str (P := Try.prog) (w := w) (k.drop n) Try.underlying9; rwa [List.length_drop] at this)
        refine region_tail_once row A B 8 _ [Is (.slice ad8 (D.length + (Varint.putF n).length + (Varint.putF (k.length - n)).length + (Varint.putF v.length).length) c8), Is (.pointer (some ⟨gb, 0, none⟩)), Is (.string (str k)), Is ?r3, Is (.string (str (k.drop n))), Apn row B w.heap.size 5 1 (D.length + (Varint.putF n).length + (Varint.putF (k.length - n)).length + (Varint.putF v.length).length + (k.length - n)) (bv (D ++ Varint.putF n ++ Varint.putF (k.length - n) ++ Varint.putF v.length) ++ bv (k.drop n)) w8.heap.size, Is (.pointer (some ⟨gb, 1, none⟩)), Is (.string (str v))] (by kernel_rfl) (by kernel_rfl) (by kernel_rfl) (by kernel_rfl) rfl rfl ⟨Is.stable _, Is.stable _, Is.stable _, Is.stable _, Is.stable _, Apn.stable _ _ _ _ _ _, Is.stable _, Is.stable _, trivial⟩ ⟨?s0, ?s1, ?s2, ?s3, ?s4, ?s5, ?s6, ?s7, trivial⟩ ?fin
        case' s0 | s1 | s2 | s3 | s4 | s6 | s7 =>
          intro ρ wr hρ hg hK
          simp [readsOf, slotsOf, Op.operands, Call.operands, tmpOf, List.filterMap_cons, List.filterMap_nil, KnownAll, knownOf, srcOf, depsOf, dstOf, Region.binds, nth, Is] at hK
          obtain ⟨hc, hf, hgl⟩ := hρ
          try simp only [wantedBy, dstOf, boolOf, nth, List.getD_cons_zero, List.getD_cons_succ, List.getElem?_cons_zero, List.getElem?_cons_succ, Option.bind_some, if_true, hK, BEq.rfl]
          try go_simp
          first | exact rfl | (rw [if_pos (by omega)]; exact is_here rfl) | (rw [dif_pos (by omega)]; exact is_here rfl) | exact congrArg (Value.int _) (IntWalk.i64_in _ ⟨by omega, by omega⟩) | skip
        case' s5 =>
          intro ρ wr hρ hg hK
          simp [readsOf, slotsOf, Op.operands, Call.operands, tmpOf, List.filterMap_cons, List.filterMap_nil, KnownAll, knownOf, srcOf, depsOf, dstOf, Region.binds, nth, Is] at hK
          obtain ⟨hc, hf, hgl⟩ := hρ
          try simp only [wantedBy, dstOf, boolOf, nth, List.getD_cons_zero, List.getD_cons_succ, List.getElem?_cons_zero, List.getElem?_cons_succ, Option.bind_some, if_true, hK, BEq.rfl]
        case s2 => have := hg.cell x0 hgne; go_simp; exact rfl
        all_goals try exact congrArg (fun x => Value.string (str x)) HDR.out
        case s5 =>
          obtain ⟨v, w2, r1, r2, r3⟩ := append_once2 (ty := 26) (u := 9) elemB ob8 HRow.out HA.out HBB.out hg (HSrc.out _) mA mB hb8
          simp only [execOp, resolve, invoke, builtin, Sem.run_bind, Sem.run_pure, Result.andThen_ok, List.map_toArray, List.map_cons, List.map_nil, hK]
          rw [r1]
          exact ⟨r2, r3⟩
        case s7 => have := hg.cell x1 hgne; go_simp; exact rfl
        case fin =>
          intro w1 val hg hH
          simp only [Holds, Is, Nat.zero_add, Nat.reduceAdd] at hH
          obtain ⟨h0, h1, h2, h3, h4, h5, h6, h7, _⟩ := hH
          simp only [List.take_succ_cons, List.take_zero, List.drop_succ_cons, List.drop_zero, putAll, h0, h1, h2, h3, h4, h6, h7, Nat.zero_add, Nat.reduceAdd]
          obtain ⟨ad9, c9, h5, o9, _, hf9⟩ := h5
          simp only [h5]
          go_simp
          have hs9 := hg.size
          have hb9 : w.heap.size ≤ w1.heap.size := by omega
          have op9 := hg.owns s8.op HPR.out
          have hg9 : Gr w w1 := s8.gr.grown hg.1 (fun g' hg' => (HRL.out g' hg').2)
          have ap9 : Apart ad9 ad2 := by
            intro a b ha hb he
            rcases hf9 a ha with h | h
            · rw [he] at h; exact HPR.out b hb h
            · have := (s8.op.lt b hb).2; omega
          rw [← bv_append] at o9
          go_wp2_with (at_builtin; go_must (refine wp_append elemB rfl _ _ rfl rfl o9 rfl (src_str v Try.underlying9) mC mD hb9 ?_); intro ad10 c10 w10 o10 k10 f10)
          go_roundw
          case rel =>
            have hL : (dataN itv l (i + 1)).length = D.length + (Varint.putF n).length + (Varint.putF (k.length - n)).length + (Varint.putF v.length).length + (k.length - n) + v.length := by
              rw [HD.out, hEF.out]; simp only [List.length_append, List.length_drop]
            refine ⟨i + 1, ad10, ad2, c10, c2, by rw [hL], by first | rfl | rw [HP3.out], by go_num, by omega, ?_, by first | exact op9.keep k10 ap9 | (rw [HP3.out]; exact op9.keep k10 ap9), ap9.step k10 f10 op9, hg9.grown k10 (row_from o9)⟩
            rw [hL, HD.out, hEF.out, bv_append]
            exact o10
          case measure => simp [intOf]; omega
      · obtain ⟨i0, hi0⟩ : ∃ i0, i = i0 + 1 := ⟨i - 1, by have : i ≠ 0 := fun h => h0 (by rw [h]; rfl); omega⟩
        have hz : ¬ (i : Int) % (itv : Int) = 0 := by omega
        have HP3 := Lib.hid (show placeN itv l (i + 1) = Pc by rw [HP.out, if_neg h0, List.append_nil])
        obtain ⟨bl', off', e', hd1, hd2⟩ := HR.out i0 (by omega)
        cases e'
        have hlt0 : i0 < l.length := by omega
        have HCM := Lib.hid (show n = comF l[i0].1 k by
          rw [← HN.out]; unfold nAt
          rw [if_neg h0, HGE.out, hi0, Nat.add_sub_cancel, List.getD_eq_getElem?_getD, List.getElem?_eq_getElem hlt0, Option.getD_some])
        have hok0 := HOK.out i0
        rw [List.getD_eq_getElem?_getD, List.getElem?_eq_getElem hlt0, Option.getD_some] at hok0
        have q3 := (hg.trans (Gr.alloc wr (.cells #[.string (str k), .string (str v)] 31))).cell hd1
        generalize l[i0].1 = pk at *
        have HCO := Lib.hid (fun w => common_any pk k w (by omega) (by omega))
        rw [← HCM.out] at HCO
        have e9 : IntKind.i64.wrap ((i : Int) - 1) = (i0 : Int) := by rw [IntKind.wrap_i64]; omega
        have HK := Lib.hid (show (k.length : Int) - (n : Int) = ((k.length - n : Nat) : Int) by omega)
        obtain ⟨z0, z1⟩ := hs1.blk.two
        clear h0 hd1 hd2 hi0
        go_wp2
        rw [HGB.out]
        refine region_any_gr _ [Is ?r0x1, Is ?r1x1, Is (.int .i64 (i0 : Int)), Is (.pointer (some ⟨bl, off + i0 * 2, none⟩)), Is (.pointer (some ⟨bl, off + i0 * 2, none⟩)), Is (.string (str pk)), Is (.pointer (some ⟨gb, 0, none⟩)), Is (.string (str k)), Is (.int .i64 (n : Int)), Is ?r9x1] (by kernel_rfl) (by kernel_rfl) (by kernel_rfl) rfl rfl ⟨Is.stable _, Is.stable _, Is.stable _, Is.stable _, Is.stable _, Is.stable _, Is.stable _, Is.stable _, Is.stable _, Is.stable _, trivial⟩ ⟨?s0x1, ?s1x1, ?s2x1, ?s3x1, ?s4x1, ?s5x1, ?s6x1, ?s7x1, ?s8x1, ?s9x1, trivial⟩ ?finx1
        case' s0x1 | s1x1 | s2x1 | s3x1 | s4x1 | s5x1 | s6x1 | s7x1 | s8x1 | s9x1 =>
          intro ρ wr hρ hg hK
          simp [readsOf, slotsOf, Op.operands, Call.operands, tmpOf, List.filterMap_cons, List.filterMap_nil, KnownAll, knownOf, srcOf, depsOf, dstOf, Region.binds, nth, Is] at hK
          obtain ⟨hc, hf, hgl⟩ := hρ
          try simp only [wantedBy, dstOf, boolOf, nth, List.getD_cons_zero, List.getD_cons_succ, List.getElem?_cons_zero, List.getElem?_cons_succ, Option.bind_some, if_true, hK, BEq.rfl]
          try go_simp
          first | exact rfl | (rw [if_pos (by omega)]; exact is_here rfl) | (rw [dif_pos (by omega)]; exact is_here rfl) | exact congrArg (Value.int _) (IntWalk.i64_in _ ⟨by omega, by omega⟩) | skip
        case s5x1 => have := hg.cell q3; go_simp; exact rfl
        case s7x1 => have := hg.cell z0; go_simp; exact rfl
        case s8x1 => exact any_gr (HCO.out _)
        case finx1 =>
          intro w1 val hg hH
          simp only [Holds, Is, Nat.zero_add, Nat.reduceAdd] at hH
          obtain ⟨h0, h1, h2, h3, h4, h5, h6, h7, h8, h9, _⟩ := hH
          simp only [List.take_succ_cons, List.take_zero, List.drop_succ_cons, List.drop_zero, putAll, h0, h1, h2, h3, h4, h5, h6, h7, h8, h9, Nat.zero_add, Nat.reduceAdd]
          go_simp
          have s2 := hs1.more hg
          obtain ⟨e0, e1⟩ := s2.blk.two
          obtain ⟨ad2, hq1⟩ : ∃ ad2, ad2 = adp := ⟨_, rfl⟩
          obtain ⟨c2, hq2⟩ : ∃ c2, c2 = cp := ⟨_, rfl⟩
          subst hq1 hq2
          go_wp2
          refine wp_loop_rounds 4 ?_
          rw [rounds_succ]
          go_wp2_with (first
            | (go_at_call 33; refine (Put_at _ n _ (by first | exact HX.out | exact rfl) (by omega)).mono ?_; rintro e w3 ⟨ad3, c3, rfl, o3, g3⟩; have s3 := s2.more g3)
            | (at_builtin; refine wp_append elemB rfl _ _ rfl rfl s3.ob rfl (Src.bytes o3.bytes rfl Try.underlying26) (by unfold maxLen; omega) (by omega) s3.gr.size ?_; intro ad4 c4 w4 o4 k4 f4; rw [← bv_append] at o4; have s4 := s3.app k4 f4 o4))
          rw [rounds_succ]
          go_wp2_with (first
            | (go_at_call 33; refine (Put_at _ (k.length - n) _ HK.out (by omega)).mono ?_; rintro e w5 ⟨ad5, c5, rfl, o5, g5⟩; have s5 := s4.more g5; have ob5 := s5.ob; rw [List.length_append] at ob5)
            | (at_builtin; refine wp_append elemB rfl _ _ rfl rfl ob5 rfl (Src.bytes o5.bytes rfl Try.underlying26) (by unfold maxLen; omega) (by omega) s5.gr.size ?_; intro ad6 c6 w6 o6 k6 f6; rw [← bv_append] at o6; have s6 := s5.app k6 f6 o6))
          rw [rounds_succ]
          go_wp2_with (first
            | (go_at_call 33; refine (Put_at _ v.length _ rfl (by omega)).mono ?_; rintro e w7 ⟨ad7, c7, rfl, o7, g7⟩; have s7 := s6.more g7; have ob7 := s7.ob; rw [List.length_append, List.length_append] at ob7)
            | (at_builtin; refine wp_append elemB rfl _ _ rfl rfl ob7 rfl (Src.bytes o7.bytes rfl Try.underlying26) (by unfold maxLen; omega) (by omega) s7.gr.size ?_; intro ad8 c8 w8 o8 k8 f8; rw [← bv_append] at o8; have s8 := s7.app k8 f8 o8))
          rw [rounds_succ]
          go_wp2
          have ob8 := s8.ob
          rw [List.length_append, List.length_append, List.length_append] at ob8
          obtain ⟨row, hrow⟩ : ∃ row, row = ad8.map (·.block) := ⟨_, rfl⟩
          have hgne : some gb ≠ row := by rw [hrow]; exact row_ne s8.nb
          have hrlt : ∀ g', row = some g' → g' < w8.heap.size ∧ w.heap.size ≤ g' := by
            intro g' hg'
            rw [hrow] at hg'
            cases ad8 with
            | none => cases hg'
            | some a => cases hg'; exact ⟨(ob8.lt a rfl).2, (ob8.lt a rfl).1⟩
          have hpr : ∀ a, ad2 = some a → some a.block ≠ row := by
            intro a ha hr
            rw [hrow] at hr
            cases ad8 with
            | none => cases hr
            | some y => simp only [Option.map_some, Option.some.injEq] at hr; exact s8.ap y a rfl ha hr.symm
          obtain ⟨A, hA⟩ : ∃ A : Option Obj, ∀ g, row = some g → A = w8.heap[g]? := ⟨row.bind fun g => w8.heap[g]?, fun g hg' => by rw [hg']; rfl⟩
          obtain ⟨B, hB⟩ : ∃ B : Option Obj, B = if D.length + (Varint.putF n).length + (Varint.putF (k.length - n)).length + (Varint.putF v.length).length + (k.length - n) ≤ c8 then appRow ((D.length + (Varint.putF n).length + (Varint.putF (k.length - n)).length + (Varint.putF v.length).length) * 1) (bv (k.drop n)) A else A := ⟨_, rfl⟩
          have mA : D.length + (Varint.putF n).length + (Varint.putF (k.length - n)).length + (Varint.putF v.length).length + (k.length - n) ≤ maxLen := by unfold maxLen; omega
          have mB : (D.length + (Varint.putF n).length + (Varint.putF (k.length - n)).length + (Varint.putF v.length).length + (k.length - n)) * 1 ≤ 140737488355328 := by omega
          have mC : D.length + (Varint.putF n).length + (Varint.putF (k.length - n)).length + (Varint.putF v.length).length + (k.length - n) + v.length ≤ maxLen := by unfold maxLen; omega
          have mD : (D.length + (Varint.putF n).length + (Varint.putF (k.length - n)).length + (Varint.putF v.length).length + (k.length - n) + v.length) * 1 ≤ 140737488355328 := by omega
          have hb8 := s8.gr.size
          have HRow := Lib.hid hrow; have HA := Lib.hid hA; have HBB := Lib.hid hB; have HPR := Lib.hid hpr; have HRL := Lib.hid hrlt
          clear hrow hA hB hpr hrlt
          obtain ⟨x0, x1⟩ := s8.blk.two
          have HSrc := Lib.hid (show ∀ w, Src Try.prog 9 w 1 (.string (str (k.drop n))) (k.length - n) (bv (k.drop n)) from fun w => by have := src_str (P := Try.prog) (w := w) (k.drop n) Try.underlying9; rwa [List.length_drop] at this)
          refine region_tail_once row A B 8 _ [Is (.slice ad8 (D.length + (Varint.putF n).length + (Varint.putF (k.length - n)).length + (Varint.putF v.length).length) c8), Is (.pointer (some ⟨gb, 0, none⟩)), Is (.string (str k)), Is ?r3x2, Is (.string (str (k.drop n))), Apn row B w.heap.size 5 1 (D.length + (Varint.putF n).length + (Varint.putF (k.length - n)).length + (Varint.putF v.length).length + (k.length - n)) (bv (D ++ Varint.putF n ++ Varint.putF (k.length - n) ++ Varint.putF v.length) ++ bv (k.drop n)) w8.heap.size, Is (.pointer (some ⟨gb, 1, none⟩)), Is (.string (str v))] (by kernel_rfl) (by kernel_rfl) (by kernel_rfl) (by kernel_rfl) rfl rfl ⟨Is.stable _, Is.stable _, Is.stable _, Is.stable _, Is.stable _, Apn.stable _ _ _ _ _ _, Is.stable _, Is.stable _, trivial⟩ ⟨?s0x2, ?s1x2, ?s2x2, ?s3x2, ?s4x2, ?s5x2, ?s6x2, ?s7x2, trivial⟩ ?finx2
          case' s0x2 | s1x2 | s2x2 | s3x2 | s4x2 | s6x2 | s7x2 =>
            intro ρ wr hρ hg hK
            simp [readsOf, slotsOf, Op.operands, Call.operands, tmpOf, List.filterMap_cons, List.filterMap_nil, KnownAll, knownOf, srcOf, depsOf, dstOf, Region.binds, nth, Is] at hK
            obtain ⟨hc, hf, hgl⟩ := hρ
            try simp only [wantedBy, dstOf, boolOf, nth, List.getD_cons_zero, List.getD_cons_succ, List.getElem?_cons_zero, List.getElem?_cons_succ, Option.bind_some, if_true, hK, BEq.rfl]
            try go_simp
            first | exact rfl | (rw [if_pos (by omega)]; exact is_here rfl) | (rw [dif_pos (by omega)]; exact is_here rfl) | exact congrArg (Value.int _) (IntWalk.i64_in _ ⟨by omega, by omega⟩) | skip
          case' s5x2 =>
            intro ρ wr hρ hg hK
            simp [readsOf, slotsOf, Op.operands, Call.operands, tmpOf, List.filterMap_cons, List.filterMap_nil, KnownAll, knownOf, srcOf, depsOf, dstOf, Region.binds, nth, Is] at hK
            obtain ⟨hc, hf, hgl⟩ := hρ
            try simp only [wantedBy, dstOf, boolOf, nth, List.getD_cons_zero, List.getD_cons_succ, List.getElem?_cons_zero, List.getElem?_cons_succ, Option.bind_some, if_true, hK, BEq.rfl]
          case s2x2 => have := hg.cell x0 hgne; go_simp; exact rfl
          all_goals try exact congrArg (fun x => Value.string (str x)) HDR.out
          case s5x2 =>
            obtain ⟨v, w2, r1, r2, r3⟩ := append_once2 (ty := 26) (u := 9) elemB ob8 HRow.out HA.out HBB.out hg (HSrc.out _) mA mB hb8
            simp only [execOp, resolve, invoke, builtin, Sem.run_bind, Sem.run_pure, Result.andThen_ok, List.map_toArray, List.map_cons, List.map_nil, hK]
            rw [r1]
            exact ⟨r2, r3⟩
          case s7x2 => have := hg.cell x1 hgne; go_simp; exact rfl
          case finx2 =>
            intro w1 val hg hH
            simp only [Holds, Is, Nat.zero_add, Nat.reduceAdd] at hH
            obtain ⟨h0, h1, h2, h3, h4, h5, h6, h7, _⟩ := hH
            simp only [List.take_succ_cons, List.take_zero, List.drop_succ_cons, List.drop_zero, putAll, h0, h1, h2, h3, h4, h6, h7, Nat.zero_add, Nat.reduceAdd]
            obtain ⟨ad9, c9, h5, o9, _, hf9⟩ := h5
            simp only [h5]
            go_simp
            have hs9 := hg.size
            have hb9 : w.heap.size ≤ w1.heap.size := by omega
            have op9 := hg.owns s8.op HPR.out
            have hg9 : Gr w w1 := s8.gr.grown hg.1 (fun g' hg' => (HRL.out g' hg').2)
            have ap9 : Apart ad9 ad2 := by
              intro a b ha hb he
              rcases hf9 a ha with h | h
              · rw [he] at h; exact HPR.out b hb h
              · have := (s8.op.lt b hb).2; omega
            rw [← bv_append] at o9
            go_wp2_with (at_builtin; go_must (refine wp_append elemB rfl _ _ rfl rfl o9 rfl (src_str v Try.underlying9) mC mD hb9 ?_); intro ad10 c10 w10 o10 k10 f10)
            go_roundw
            case rel =>
              have hL : (dataN itv l (i + 1)).length = D.length + (Varint.putF n).length + (Varint.putF (k.length - n)).length + (Varint.putF v.length).length + (k.length - n) + v.length := by
                rw [HD.out, hEF.out]; simp only [List.length_append, List.length_drop]
              refine ⟨i + 1, ad10, ad2, c10, c2, by rw [hL], by first | rfl | rw [HP3.out], by go_num, by omega, ?_, by first | exact op9.keep k10 ap9 | (rw [HP3.out]; exact op9.keep k10 ap9), ap9.step k10 f10 op9, hg9.grown k10 (row_from o9)⟩
              rw [hL, HD.out, hEF.out, bv_append]
              exact o10
            case measure => simp [intOf]; omega
    · obtain rfl : i = l.length := by omega
      have hdl := dataN_len (itv := itv) HOK.out l.length
      have hpl := placeN_len itv l l.length
      have HBF := Lib.hid (show buildF itv l = dataN itv l l.length ++ placeN itv l l.length ++ Varint.bytesN 2 itv ++ Varint.bytesN 4 l.length by simp [buildF])
      generalize dataN itv l l.length = D at *
      generalize placeN itv l l.length = Pc at *
      have b2 := Varint.bytesN_len 2 itv
      have b4 := Varint.bytesN_len 4 l.length
      have F2 := Lib.hid (fun adb capb m w' ho hB hm => fixed_at w.heap.size adb capb (D ++ Pc) m (itv : Int) 2 itv 2 w' hm rfl rfl ho hB (by omega) (by omega) (by rw [List.length_append]; omega))
      have F4 := Lib.hid (fun adb capb m w' ho hB hm => fixed_at w.heap.size adb capb (D ++ Pc ++ Varint.bytesN 2 itv) m (l.length : Int) 4 l.length 4 w' hm rfl rfl ho hB (by omega) (by omega) (by rw [List.length_append, List.length_append]; omega))
      have m1 : D.length + Pc.length ≤ maxLen := by unfold maxLen; omega
      have m2 : (D.length + Pc.length) * 1 ≤ 140737488355328 := by omega
      clear b2 b4
      generalize Varint.bytesN 2 itv = x2 at *
      generalize Varint.bytesN 4 l.length = x4 at *
      go_wp2_with (first
        | (at_builtin; refine wp_append elemB rfl _ _ rfl rfl ob rfl (Src.bytes op.bytes rfl Try.underlying26) m1 m2 hbs ?_; intro ad3 c3 w3 o3 k3 f3; rw [← bv_append] at o3; have g3 := hg.grown k3 (row_from ob))
        | (go_at_call 31; (with_reducible refine (F2.out _ _ _ _ o3 g3.size (by rw [List.length_append])).mono ?_); rintro e w4 ⟨ad4, c4, rfl, o4, t4⟩; have g4 := g3.grown t4.1 (row_from o3); have o4' := o4; rw [show (D ++ Pc ++ x2).length = D.length + (Pc.length + x2.length) by simp only [List.length_append, Nat.add_assoc]] at o4')
        | (go_at_call 31; (with_reducible refine (F4.out _ _ _ _ o4' g4.size (by simp only [List.length_append, Nat.add_assoc])).mono ?_); rintro e w5 ⟨ad5, c5, rfl, o5, t5⟩; have g5 := g4.grown t5.1 (row_from o4)))
      go_ret2
      refine ⟨ad5, c5, ?_, by rw [HBF.out]; exact o5, g5⟩
      rw [HBF.out]
      first | rfl | simp only [List.length_append, Nat.add_assoc]; rfl
theorem Build_any (ad : Option Addr) (cap : Nat) (l : List Pr) (itv : Int) (w : World) (hr : Row w ad (pv l)) (hl : l.length ≤ 9223372036854775807) :
    Calls Try.prog 11 #[.slice ad l.length cap, .int .i64 itv] w (RetBE 5 w (if chkF l itv = 0 then buildF itv.toNat l else []) (chkF l itv)) := by
  by_cases hc : chkF l itv = 0
  · rw [if_pos hc, hc]
    have h := hc
    unfold chkF at h
    split at h
    · cases h
    · rename_i h1
      split at h
      · cases h
      · rename_i h2
        have h3 : ¬ 10000 < l.length ∧ ¬ l.any longB = true := not_or.1 h2
        obtain ⟨n, rfl⟩ : ∃ n : Nat, itv = (n : Int) := ⟨itv.toNat, by omega⟩
        exact Build_ok ad cap l n w hr (by omega) (by omega) (by omega) (by simpa using h3.2) hc
  · rw [if_neg hc]
    exact Build_bad ad cap l itv w hr hl hc
end Go.Proofs.Ytnbinodhdgnjlaa
