/- Layer 11 (skip): Insert. -/
import Derived.Test.YtnafhjgfkofkbaaBunE
import Derived.Test.YtnafhjgfkofkbaaBunA
/- Layer 11 (skip): behind. -/
namespace Go.Proofs.Ytnafhjgfkofkbaa
set_option linter.unusedVariables false
set_option linter.unusedSimpArgs false
open Go.RowKit Ikey Varint
set_option maxRecDepth 100000 in
theorem behind1_any (w : World) (b : Nat) (u v : Vr) (hb : Blk w b 33 [.string (str v.key), .int .i64 v.seq, .int .i64 v.kind]) :
    Calls Try.prog 62 #[ver u.key u.seq u.kind, .pointer (some ⟨b, 0, none⟩)] w fun e w' => e = .returned (.bool (vless u v)) ∧ Gr w w' := by
  have HL := Lib.hid (fun w' => Less_any u.key v.key u.seq u.kind v.seq v.kind w')
  have HV := Lib.hid (show vless u v = lessF u.key u.seq u.kind v.key v.seq v.kind from rfl)
  obtain ⟨c0, c1, c2, _⟩ := (hb.alloc (.cells #[.string (str u.key), .int .i64 u.seq, .int .i64 u.kind] 33)).three
  unfold ver at HL ⊢
  go_enter Try.func62, Try.ntmps62
  go_wp2_with (first
    | (go_at_call 63; go_must (refine (HL.out _).mono ?_); rintro e w2 ⟨rfl, g2⟩)
    | fail)
  go_ret
  exact ⟨by rw [HV.out]; rfl, (Gr.alloc _ _).trans g2⟩
theorem run_enter {P : Program} {f : FuncId} {fn : Func} {c : Code} (hf : P.funcs[f]? = some fn) (hname : (fn.name == "runtime.NumGoroutine") = false) (hb : fn.body = some c) (args : Array Value) (w : World) :
    (callFunc f args).run P w = .ok (.enter f args) w := by
  have h1 : fn.name ≠ "runtime.NumGoroutine" := by simpa using hname
  simp [callFunc, hf, h1, hb]
theorem asks_behind (w : World) (b : Nat) (v : Vr) (hb : Blk w b 33 [.string (str v.key), .int .i64 v.seq, .int .i64 v.kind]) : Asks w 62 #[.pointer (some ⟨b, 0, none⟩)] (fun u => vless u v) :=
  ⟨fun args w' => run_enter Try.func62 (by kernel_rfl) rfl args w', fun w' u hg => behind1_any w' b u v (hb.gr hg)⟩
theorem firstN_done {k : Nat} {A B b : List Nd} (hA : ∀ n ∈ b, n.h ≤ k) : firstN k (b ++ B) = firstN k B := by
  rw [firstN_append, firstN_none.2 hA]; rfl
/-- the node ahead, on a level, and what is behind it there -/
theorem lies_path {A B : List Nd} (full : ∀ x ∈ A ++ B, x.h = x.t) (k : Nat) : ∃ b, Lies (A ++ B) (lastN k A) b k ∧ firstN k b = firstN k B := by
  cases h : lastN k A with
  | none => exact ⟨A ++ B, .inl ⟨rfl, rfl⟩, firstN_done (A := A) (lastN_none.1 h)⟩
  | some x =>
    obtain ⟨a, b, e, hx, hb⟩ := lastN_some h
    refine ⟨b ++ B, .inr ⟨a, x, rfl, by rw [e]; simp, ?_⟩, firstN_done (A := A) hb⟩
    have := full x (by rw [e]; simp)
    omega
set_option maxRecDepth 100000 in
set_option maxHeartbeats 4000000 in
theorem behind_any (w : World) (S : Nat → Prop) (g gl : Nat) (p : PoolF) (L : Ls) (A B : List Nd) (v : Vr) (h : Sk w S g gl p L) (st : SkSt p L.r L.gen L.hd (A ++ B)) (full : ∀ x ∈ A ++ B, x.h = x.t)
    (hA : ∀ x ∈ A, vless x.c.vr v = true) (hB : ∀ x ∈ B, vless x.c.vr v = false) :
    Calls Try.prog 41 #[.pointer (some ⟨gl, 0, none⟩), ver v.key v.seq v.kind] w fun e w' => e = .returned (.tuple #[.agg (rowV (fun k => linkF (lastN k A)) 12).toArray, lnk (linkF (firstN 0 B)), .int .i64 0]) ∧ Gr w w' := by
  obtain ⟨b, hlie, hfb⟩ := lies_path full 0
  have HA := Lib.hid (fun w' (hg : Gr w w') b (hb : Blk w' b 33 [.string (str v.key), .int .i64 v.seq, .int .i64 v.kind]) => ahead_any w' S g gl p L A B _ _ _ (h.gr hg) st full (asks_behind w' b v hb) hA hB)
  have HN := Lib.hid (fun w' (hg : Gr w w') => next_any w' S g gl p L (A ++ B) b (lastN 0 A) 0 (h.gr hg) st hlie (by decide))
  rw [hfb, show ((0 : Nat) : Int) = 0 from rfl] at HN
  obtain ⟨R, hR⟩ : ∃ R : Nat → Nat × Nat, R = fun k => linkF (lastN k A) := ⟨_, rfl⟩
  have hR0 : linkF (lastN 0 A) = R 0 := by rw [hR]
  rw [hR0] at HN
  rw [← hR] at HA ⊢
  generalize linkF (firstN 0 B) = y at *
  obtain ⟨y1, y2⟩ := y
  clear st full hA hB hlie hfb hR hR0 h
  unfold lnk at HN ⊢
  unfold ver
  simp only at HN ⊢
  have g0 : Gr w (((w.alloc (.cells #[.string (str v.key), .int .i64 v.seq, .int .i64 v.kind] 33)).alloc (.cells (rowV (fun _ => (0, 0)) 12).toArray 78)).alloc (.cells #[.int .i64 0, .int .i64 0] 77)) := ((Gr.alloc _ _).trans (Gr.alloc _ _)).trans (Gr.alloc _ _)
  have b0 := Blk.of3a (w := w) (t := 33) (cs := #[.string (str v.key), .int .i64 v.seq, .int .i64 v.kind]) (o := .cells (rowV (fun _ => (0, 0)) 12).toArray 78) (o' := .cells #[.int .i64 0, .int .i64 0] 77) (Gr.refl _)
  have b1 := Blk.of3b (w := w) (t := 78) (cs := (rowV (fun _ => (0, 0)) 12).toArray) (o := .cells #[.string (str v.key), .int .i64 v.seq, .int .i64 v.kind] 33) (o' := .cells #[.int .i64 0, .int .i64 0] 77) (Gr.refl _)
  have b2 := Blk.of3c (w := w) (t := 77) (cs := #[.int .i64 0, .int .i64 0]) (o := .cells #[.string (str v.key), .int .i64 v.seq, .int .i64 v.kind] 33) (o' := .cells (rowV (fun _ => (0, 0)) 12).toArray 78) (Gr.refl _)
  have G0 := Lib.hid g0; have HB0 := Lib.hid b0; have HB1 := Lib.hid b1; have HB2 := Lib.hid b2
  clear g0 b0 b1 b2
  go_enter Try.func41, Try.ntmps41
  go_wp2_with (first
    | (go_at_call 59; go_must (refine (HA.out _ G0.out _ HB0.out).mono ?_); rintro e w2 ⟨rfl, g2⟩; have B2 := Lib.hid (Blk.new w2 78 (rowV (fun _ => (0, 0)) 12).toArray))
    | ((with_reducible show Go.wpList _ _ _ (Oper.mk _ (Op.store 78 _ _) _ _ _ _ :: _) _ _); go_must (refine wp_store_row rfl _ _ _ rfl rfl (cs' := rowV R 12) rfl B2.out (n := 24) (by kernel_rfl) (rowV_len _ 12) (rowV_len _ 12) (rowV_one _ 12) ?_); intro w3 b3 k3
       obtain ⟨x0, x1⟩ := rowV_get R 12 0 (by decide)
       have c0 := b3.cell x0
       have c1 := b3.cell x1
       have G3 : Gr w w3 := ((G0.out.trans g2).trans (Gr.alloc w2 (.cells (rowV (fun _ => (0, 0)) 12).toArray 78))).grown k3 (fun k e => by cases e; exact (G0.out.trans g2).size)
       have HB1' := Lib.hid ((((HB1.out.gr g2).alloc (.cells (rowV (fun _ => (0, 0)) 12).toArray 78)).grown k3 (by have := g2.size; simp at this ⊢; omega)))
       have HB2' := Lib.hid ((((HB2.out.gr g2).alloc (.cells (rowV (fun _ => (0, 0)) 12).toArray 78)).grown k3 (by have := g2.size; simp at this ⊢; omega)))
       have hw2 : w.heap.size + 1 + 1 < w2.heap.size := by have := g2.size; simp at this; omega
       have hw3 : w2.heap.size < w3.heap.size := b3.lt
       have HB3 := Lib.hid b3
       clear k3 b3 x0 x1)
    | (go_at_call 45; go_must (refine (HN.out _ G3).mono ?_); rintro e w4 ⟨rfl, g4⟩)
    | fail)
  have G5 := Lib.hid (g4.trans (Gr.alloc w4 (.cells #[.int .i64 (y1 : Int), .int .i64 (y2 : Int)] 77)))
  have N5 := Lib.hid (Blk.new w4 77 #[.int .i64 (y1 : Int), .int .i64 (y2 : Int)])
  have hw4 := g4.size
  have hw5 : w4.heap.size < (w4.alloc (.cells #[.int .i64 (y1 : Int), .int .i64 (y2 : Int)] 77)).heap.size := by simp
  clear c0 c1
  generalize (w4.alloc (.cells #[.int .i64 (y1 : Int), .int .i64 (y2 : Int)] 77)) = W5 at *
  obtain ⟨T, hT⟩ : ∃ T : Nat → Option Obj, T = fun j => if j = w.heap.size + 1 then some (.cells (rowV R 12).toArray 78 (0, 0)) else if j = w.heap.size + 1 + 1 then some (.cells [Value.int .i64 (y1 : Int), Value.int .i64 (y2 : Int)].toArray 77 (0, 0)) else none := ⟨_, rfl⟩
  have HT1 := Lib.hid (show T (w.heap.size + 1) = some (.cells (rowV R 12).toArray 78 (0, 0)) by rw [hT]; simp)
  have HT2 := Lib.hid (show T (w.heap.size + 1 + 1) = some (.cells [Value.int .i64 (y1 : Int), Value.int .i64 (y2 : Int)].toArray 77 (0, 0)) by rw [hT]; simp)
  have HT3 := Lib.hid (show ∀ j, w.heap.size + 1 + 1 < j → T j = none from fun j hj => by rw [hT]; simp only; rw [if_neg (by omega), if_neg (by omega)])
  have HT4 := Lib.hid (show ∀ j o, T j = some o → w.heap.size ≤ j from fun j o ho => by
    rw [hT] at ho
    simp only at ho
    by_cases e1 : j = w.heap.size + 1
    · omega
    · by_cases e2 : j = w.heap.size + 1 + 1
      · omega
      · rw [if_neg e1, if_neg e2] at ho; cases ho)
  clear hT
  refine region_fin T _ [Is (.agg (rowV R 12).toArray), Is (.agg [Value.int .i64 (y1 : Int), Value.int .i64 (y2 : Int)].toArray), Is (.int .i64 0), Put T (w.heap.size + 1), Put T (w.heap.size + 1 + 1), Is (.int .i64 0)] (by kernel_rfl) (by kernel_rfl) (by kernel_rfl) rfl rfl ⟨Is.stable _, Is.stable _, Is.stable _, Put.stable _, Put.stable _, Is.stable _, trivial⟩ ⟨?s0, ?s1, ?s2, ?s3, ?s4, ?s5, trivial⟩ ?fin
  case' s2 | s5 =>
    intro ρ wr hρ hg hK
    simp [readsOf, slotsOf, Op.operands, Call.operands, tmpOf, List.filterMap_cons, List.filterMap_nil, KnownAll, knownOf, srcOf, depsOf, dstOf, Region.binds, nth, Is] at hK
    obtain ⟨hc, hf, hgl⟩ := hρ
    try simp only [wantedBy, dstOf, boolOf, nth, List.getD_cons_zero, List.getD_cons_succ, List.getElem?_cons_zero, List.getElem?_cons_succ, Option.bind_some, if_true, hK, BEq.rfl]
    try go_simp
    first | exact rfl | (rw [if_pos (by omega)]; exact is_here rfl) | (rw [dif_pos (by omega)]; exact is_here rfl) | exact congrArg (Value.int _) (IntWalk.i64_in _ ⟨by omega, by omega⟩) | skip
  case' s0 | s1 | s3 | s4 =>
    intro ρ wr hρ hg hK
    simp [readsOf, slotsOf, Op.operands, Call.operands, tmpOf, List.filterMap_cons, List.filterMap_nil, KnownAll, knownOf, srcOf, depsOf, dstOf, Region.binds, nth, Is] at hK
    obtain ⟨hc, hf, hgl⟩ := hρ
    try simp only [wantedBy, dstOf, boolOf, nth, List.getD_cons_zero, List.getD_cons_succ, List.getElem?_cons_zero, List.getElem?_cons_succ, Option.bind_some, if_true, hK, BEq.rfl]
  case s0 => exact fin_load hg _ _ rfl hK (HB3.out.gr G5.out) (HT3.out _ hw2) Try.underlying78 rfl (n := 24) (by kernel_rfl) (rowV_len _ 12)
  case s1 => exact fin_load hg _ _ rfl hK N5.out (HT3.out _ (by omega)) Try.underlying77 rfl (n := 2) (by kernel_rfl) rfl
  case s3 => exact fin_put hg _ _ _ rfl hK.1 hK.2 (HB1'.out.gr G5.out) HT1.out (n := 24) (by kernel_rfl) (rowV_len _ 12) (rowV_len _ 12) (rowV_one _ 12)
  case s4 => exact fin_put hg _ _ _ rfl hK.1 hK.2 (HB2'.out.gr G5.out) HT2.out (n := 2) (by kernel_rfl) rfl rfl (fun v hv => by simp at hv; rcases hv with rfl | rfl <;> rfl)
  case fin =>
    intro w1 val hg hH
    simp only [Holds, Is, Nat.zero_add, Nat.reduceAdd] at hH
    obtain ⟨h0, h1, h2, h3, h4, h5, _⟩ := hH
    simp only [List.take_succ_cons, List.take_zero, List.drop_succ_cons, List.drop_zero, putAll, h2, h5, Nat.zero_add, Nat.reduceAdd]
    simp only [h0, h1]
    have r1 := Put.blk h3 HT1.out
    have r2 := Put.blk h4 HT2.out
    go_simp
    go_wp2
    trace_state
    refine bodyPost_ret (results_cell2_tmp rfl rfl (load_blk r1 Try.underlying78 rfl (n := 24) (by kernel_rfl) (rowV_len _ 12)) rfl (load_blk r2 Try.underlying77 rfl (n := 2) (by kernel_rfl) rfl)) rfl ⟨rfl, ?_⟩
    exact hg.gr (G3.trans G5.out) HT4.out
end Go.Proofs.Ytnafhjgfkofkbaa
/- Layer 11 (skip): what may be inserted; a link's bytes; a link is put. -/
namespace Go.Proofs.Ytnafhjgfkofkbaa
set_option linter.unusedVariables false
set_option linter.unusedSimpArgs false
open Go.RowKit Ikey Varint
/-- a cell that is handed over -/
def celV (k : List UInt8) (s d : Int) (v : List UInt8) : Value := .agg #[.string (str k), .int .i64 s, .int .i64 d, .string (str v)]
def chkI (fz fd : Bool) (k : List UInt8) (s d : Int) (v : List UInt8) (h : Int) : Nat :=
  if (fz || fd) = true then 12 else if okV k s d = false ∨ h < 1 ∨ 12 < h then 1 else if 1000 < v.length then 14 else 0
set_option maxRecDepth 100000 in
set_option maxHeartbeats 1000000 in
theorem check_any (w : World) (g gl : Nat) (L : Ls) (hb : Blk w gl 80 (lstV g L)) (k : List UInt8) (s d : Int) (v : List UInt8) (h : Int) (hv : v.length ≤ 9223372036854775807) :
    Calls Try.prog 40 #[.pointer (some ⟨gl, 0, none⟩), celV k s d v, .int .i64 h] w fun e w' => e = .returned (.int .i64 (chkI L.fz L.fd k s d v h : Nat)) ∧ Gr w w' := by
  have HC := Lib.hid (fun w => Check_any k s d w)
  unfold celV
  unfold ver at HC
  have g1 : Gr w (w.alloc (.cells #[.string (str k), .int .i64 s, .int .i64 d, .string (str v)] 41)) := Gr.alloc _ _
  obtain ⟨_, _, c29, c30⟩ := lst_tail (hb.gr g1)
  clear hb
  cases hz : L.fz with
  | true =>
    have HX := Lib.hid (show chkI true L.fd k s d v h = 12 by unfold chkI; rw [if_pos (by simp)])
    rw [hz] at c29
    go_enter Try.func40, Try.ntmps40
    go_wp2
    go_ret
    exact ⟨by rw [HX.out]; rfl, g1⟩
  | false =>
    rw [hz] at c29
    cases hd : L.fd with
    | true =>
      have HX := Lib.hid (show chkI false true k s d v h = 12 by unfold chkI; rw [if_pos (by simp)])
      rw [hd] at c30
      go_enter Try.func40, Try.ntmps40
      go_wp2
      go_ret
      exact ⟨by rw [HX.out]; rfl, g1⟩
    | false =>
      rw [hd] at c30
      cases ho : okV k s d with
      | false =>
        have HX := Lib.hid (show chkI false false k s d v h = 1 by unfold chkI; rw [if_neg (by simp), if_pos (.inl ho)])
        rw [chk_no ho] at HC
        clear ho
        go_enter Try.func40, Try.ntmps40
        go_wp2_with (first
          | (go_at_call 61; go_must (refine (HC.out _).mono ?_); rintro e w2 ⟨rfl, g2⟩)
          | fail)
        go_ret
        exact ⟨by rw [HX.out]; rfl, g1.trans g2⟩
      | true =>
        rw [chk_yes ho] at HC
        by_cases h1 : h < 1
        · have HX := Lib.hid (show chkI false false k s d v h = 1 by unfold chkI; rw [if_neg (by simp), if_pos (.inr (.inl h1))])
          clear ho
          go_enter Try.func40, Try.ntmps40
          go_wp2_with (first
            | (go_at_call 61; go_must (refine (HC.out _).mono ?_); rintro e w2 ⟨rfl, g2⟩)
            | fail)
          go_ret
          exact ⟨by rw [HX.out]; rfl, g1.trans g2⟩
        · by_cases h2 : 12 < h
          · have HX := Lib.hid (show chkI false false k s d v h = 1 by unfold chkI; rw [if_neg (by simp), if_pos (.inr (.inr h2))])
            clear ho
            go_enter Try.func40, Try.ntmps40
            go_wp2_with (first
              | (go_at_call 61; go_must (refine (HC.out _).mono ?_); rintro e w2 ⟨rfl, g2⟩)
              | fail)
            go_ret
            exact ⟨by rw [HX.out]; rfl, g1.trans g2⟩
          · have h3 : ¬ (okV k s d = false ∨ h < 1 ∨ 12 < h) := by rw [ho]; simp; omega
            by_cases h4 : 1000 < v.length
            · have HX := Lib.hid (show chkI false false k s d v h = 14 by unfold chkI; rw [if_neg (by simp), if_neg h3, if_pos h4])
              clear ho h3
              go_enter Try.func40, Try.ntmps40
              go_wp2_with (first
                | (go_at_call 61; go_must (refine (HC.out _).mono ?_); rintro e w2 ⟨rfl, g2⟩; obtain ⟨_, _, _, d3, _⟩ := (Blk.of1 g2).four)
                | fail)
              go_ret
              exact ⟨by rw [HX.out]; rfl, g1.trans g2⟩
            · have HX := Lib.hid (show chkI false false k s d v h = 0 by unfold chkI; rw [if_neg (by simp), if_neg h3, if_neg h4])
              clear ho h3
              go_enter Try.func40, Try.ntmps40
              go_wp2_with (first
                | (go_at_call 61; go_must (refine (HC.out _).mono ?_); rintro e w2 ⟨rfl, g2⟩; obtain ⟨_, _, _, d3, _⟩ := (Blk.of1 g2).four)
                | fail)
              go_ret
              exact ⟨by rw [HX.out]; rfl, g1.trans g2⟩
end Go.Proofs.Ytnafhjgfkofkbaa
/- Layer 11 (skip): a link's bytes; a link is put. -/
namespace Go.Proofs.Ytnafhjgfkofkbaa
set_option linter.unusedVariables false
set_option linter.unusedSimpArgs false
open Go.RowKit Ikey Varint
theorem Fixed_at (X : Int) (n k : Nat) (S : Int) (w : World) (hX : X = (n : Int)) (hS : S = (k : Int)) (hk : k ≤ 8) (hn : n < 256 ^ k) : Calls Try.prog 44 #[.int .u64 X, .int .i64 S] w (RetBE 5 w (Varint.bytesN k n) 0) := by
  subst hX; subst hS
  have h8 : 256 ^ k ≤ 256 ^ 8 := Nat.pow_le_pow_right (by decide) hk
  have h := Fixed_any n (k : Int) w (by omega) (by omega) (by omega)
  have e : Varint.fixedF n (k : Int) = (Varint.bytesN k n, 0) := by
    unfold Varint.fixedF
    rw [if_neg (by omega), if_neg (by rw [Int.toNat_natCast]; exact fun h => h (Nat.div_eq_of_lt hn))]
    rfl
  rw [e] at h
  exact h
theorem Gr.onto {a w w' : World} {ad : Option Addr} {base : Nat} {e : TypeId} {size cap n : Nat} {xs : List Value} (h : Gr a w) (ho : Owns w base e size ad cap n xs) (hb : a.heap.size ≤ base) (hg : w.grownBy w' (ad.map (·.block))) : Gr a w' :=
  h.grown hg (fun k hk => by
    cases ad with
    | none => cases hk
    | some x => cases hk; exact Nat.le_trans hb (ho.lt x rfl).1)
set_option maxRecDepth 100000 in
set_option maxHeartbeats 1000000 in
theorem pointer_any (w : World) (q : Nat × Nat) (h1 : q.1 < 4294967296) (h2 : q.2 < 4294967296) : Calls Try.prog 46 #[lnk q] w (RetB 5 w (ptrB q)) := by
  obtain ⟨x, y⟩ := q
  simp only at h1 h2
  have H1 := Lib.hid (fun w' => Fixed_at (x : Int) x 4 4 w' rfl rfl (by decide) h1)
  have H2 := Lib.hid (fun w' => Fixed_at (y : Int) y 4 4 w' rfl rfl (by decide) h2)
  have HP := Lib.hid (show ptrB (x, y) = bytesN 4 x ++ bytesN 4 y from rfl)
  have l1 := bytesN_len 4 x
  have l2 := bytesN_len 4 y
  generalize bytesN 4 x = X at *
  generalize bytesN 4 y = Y at *
  have HL1 := Lib.hid l1; have HL2 := Lib.hid l2
  clear l1 l2
  unfold lnk
  simp only
  have HB0 := Lib.hid (Blk.new w 77 #[.int .i64 (x : Int), .int .i64 (y : Int)])
  obtain ⟨b0, b1, _, _⟩ := HB0.out.two
  go_enter Try.func46, Try.ntmps46
  go_wp2_with (first
    | (go_at_call 44; (with_reducible refine (H1.out _).mono ?_); rintro e w2 ⟨ad, cap, rfl, o2, g2⟩; clear H1; obtain ⟨d0, d1, _, _⟩ := (HB0.out.gr g2).two; clear b0 b1)
    | (go_at_call 44; (with_reducible refine (H2.out _).mono ?_); rintro e w3 ⟨ad3, cap3, rfl, o3, g3⟩; have o23 := o2.gr g3)
    | (at_builtin; refine wp_append elemB rfl _ _ rfl rfl o23 rfl (Src.bytes o3.bytes rfl Try.underlying73) (by unfold maxLen; have := HL1.out; have := HL2.out; omega) (by have := HL1.out; have := HL2.out; omega) (by have := g2.size; have := g3.size; omega) ?_; intro ad4 cap4 w4 o4 k4 f4)
    | fail)
  go_ret
  rw [← bv_append] at o4
  have g3' := (Gr.alloc w (.cells #[.int .i64 (x : Int), .int .i64 (y : Int)] 77)).trans (g2.trans g3)
  refine ⟨ad4, cap4, by rw [HP.out, List.length_append]; rfl, ?_, g3'.onto (o23.base (by simp)) (Nat.le_refl _) k4⟩
  rw [HP.out, List.length_append]
  exact o4.base (by simp)
theorem lstV_set (g : Nat) (L : Ls) (q : Nat × Nat) {k : Nat} (hk : k < 12) : ((lstV g L).set (3 + k * 2) (.int .i64 (q.1 : Int))).set (3 + k * 2 + 1) (.int .i64 (q.2 : Int)) = lstV g { L with hd := upd L.hd k q } := by
  unfold lstV
  have hl : [Value.pointer (some ⟨g, 0, none⟩), .int .i64 (L.r : Int), .int .i64 (L.gen : Int)].length = 3 := rfl
  rw [List.set_append_right _ _ (by omega), List.set_append_right _ _ (by omega), hl, show 3 + k * 2 - 3 = k * 2 by omega, show 3 + k * 2 + 1 - 3 = k * 2 + 1 by omega,
    List.set_append_left _ _ (by rw [rowV_len]; omega), List.set_append_left _ _ (by rw [List.length_set, rowV_len]; omega), rowV_set _ _ _ _ hk]
set_option maxRecDepth 100000 in
set_option maxHeartbeats 1000000 in
theorem put_none (w : World) (g gl : Nat) (L : Ls) (k : Nat) (q : Nat × Nat) (hb : Blk w gl 80 (lstV g L)) (hk : k < 12) :
    Calls Try.prog 49 #[.pointer (some ⟨gl, 0, none⟩), lnk (0, 0), .int .i64 (k : Int), lnk q] w fun e w' => e = .returned (.int .i64 0) ∧ Blk w' gl 80 (lstV g { L with hd := upd L.hd k q }) ∧ Chg (fun j => j = gl) w w' := by
  have g0 : Gr w ((w.alloc (.cells #[.int .i64 0, .int .i64 0] 77)).alloc (.cells #[.int .i64 (q.1 : Int), .int .i64 (q.2 : Int)] 77)) := (Gr.alloc _ _).trans (Gr.alloc _ _)
  have HB := Lib.hid (hb.gr g0)
  have HX := Lib.hid (Blk.of2b (w := w) (o := .cells #[.int .i64 0, .int .i64 0] 77) (cs := #[.int .i64 (q.1 : Int), .int .i64 (q.2 : Int)]) (t := 77) (Gr.refl _))
  have HS := Lib.hid (lstV_set g L q hk)
  obtain ⟨q1, q2⟩ := q
  unfold lnk
  simp only at HX HS g0 HB ⊢
  clear hb
  go_enter Try.func49, Try.ntmps49
  go_wp2
  refine region_tail_gr 6 _ [Is ?r0, Is ?r1, Is (.agg #[.int .i64 (q1 : Int), .int .i64 (q2 : Int)]), Is ?r3, Is ?r4, Is (.pointer (some ⟨gl, 3 + k * 2, none⟩))] (by kernel_rfl) (by kernel_rfl) (by kernel_rfl) (by kernel_rfl) rfl rfl ⟨Is.stable _, Is.stable _, Is.stable _, Is.stable _, Is.stable _, Is.stable _, trivial⟩ ⟨?s0, ?s1, ?s2, ?s3, ?s4, ?s5, trivial⟩ ?fin
  case' s0 | s1 | s2 | s3 | s4 | s5 =>
    intro ρ wr hρ hg hK
    simp [readsOf, slotsOf, Op.operands, Call.operands, tmpOf, List.filterMap_cons, List.filterMap_nil, KnownAll, knownOf, srcOf, depsOf, dstOf, Region.binds, nth, Is] at hK
    obtain ⟨hc, hf, hgl⟩ := hρ
    try simp only [wantedBy, dstOf, boolOf, nth, List.getD_cons_zero, List.getD_cons_succ, List.getElem?_cons_zero, List.getElem?_cons_succ, Option.bind_some, if_true, hK, BEq.rfl]
    try go_simp
    first | exact rfl | (rw [if_pos (by omega)]; exact is_here rfl) | (rw [dif_pos (by omega)]; exact is_here rfl) | exact congrArg (Value.int _) (IntWalk.i64_in _ ⟨by omega, by omega⟩) | skip
  case s2 =>
    obtain ⟨c0, c1, _, _⟩ := (HX.out.gr hg).two
    go_simp
    exact rfl
  case fin =>
    intro w1 val hg hH
    simp only [Holds, Is, Nat.zero_add, Nat.reduceAdd] at hH
    obtain ⟨h0, h1, h2, h3, h4, h5, _⟩ := hH
    simp only [List.take_succ_cons, List.take_zero, List.drop_succ_cons, List.drop_zero, putAll, h0, h1, h2, h3, h4, h5, Nat.zero_add, Nat.reduceAdd]
    have hbw := HB.out.gr hg
    obtain ⟨c0, c1⟩ := lst_head hbw hk
    have f0 := hbw.frozen (3 + k * 2)
    have f1 := hbw.frozen (3 + k * 2 + 1)
    have HBW := Lib.hid hbw
    clear hbw
    go_simp
    go_wp2
    go_ret
    have hs := (HBW.out.set_ (3 + k * 2) (.int .i64 (q1 : Int))).set_ (3 + k * 2 + 1) (.int .i64 (q2 : Int))
    rw [HS.out] at hs
    exact ⟨rfl, hs, ((g0.trans hg).chg (S := fun j => j = gl)).trans (Chg.grown (b := gl) (grown_trans (grown_set w1 gl (3 + k * 2) _) (grown_set _ gl (3 + k * 2 + 1) _)) (S := fun j => j = gl) rfl) (fun j hj => .inl hj)⟩
set_option maxRecDepth 100000 in
set_option maxHeartbeats 2000000 in
theorem put_some (w : World) (S : Nat → Prop) (g gl : Nat) (p p' : PoolF) (L : Ls) (k : Nat) (q0 q : Nat × Nat) (h : Sk w S g gl p L) (hk : k < 12) (h0 : 1 ≤ q0.2) (h1 : q.1 < 4294967296) (h2 : q.2 < 4294967296)
    (he : storeF p ⟨(L.r : Int), (L.gen : Int), (q0.1 : Int), (q0.2 : Int)⟩ ((5 + 8 * k : Nat) : Int) (ptrB q) = (0, p')) :
    Calls Try.prog 49 #[.pointer (some ⟨gl, 0, none⟩), lnk q0, .int .i64 (k : Int), lnk q] w fun e w' => e = .returned (.int .i64 0) ∧ Moved S g p' w w' S := by
  have g0 : Gr w ((w.alloc (.cells #[.int .i64 (q0.1 : Int), .int .i64 (q0.2 : Int)] 77)).alloc (.cells #[.int .i64 (q.1 : Int), .int .i64 (q.2 : Int)] 77)) := (Gr.alloc _ _).trans (Gr.alloc _ _)
  have HS := Lib.hid (h.gr g0)
  have HX := Lib.hid (Blk.of2b (w := w) (o := .cells #[.int .i64 (q0.1 : Int), .int .i64 (q0.2 : Int)] 77) (cs := #[.int .i64 (q.1 : Int), .int .i64 (q.2 : Int)]) (t := 77) (Gr.refl _))
  have HY := Lib.hid (Blk.of2a (w := w) (cs := #[.int .i64 (q0.1 : Int), .int .i64 (q0.2 : Int)]) (t := 77) (o := .cells #[.int .i64 (q.1 : Int), .int .i64 (q.2 : Int)] 77) (Gr.refl _))
  have HH := Lib.hid (fun w' (hb : Blk w' gl 80 (lstV g L)) => handle_any w' g gl L q0 hb)
  have HP := Lib.hid (fun w' => pointer_any w' q h1 h2)
  have hl := ptrB_len q
  have HST := Lib.hid (fun w' (hg : Gr w w') ad cap (hb : Bytes w' ad (ptrB q)) => Store_any w' S g p ⟨(L.r : Int), (L.gen : Int), (q0.1 : Int), (q0.2 : Int)⟩ ((5 + 8 * k : Nat) : Int) ad _ cap (ptrB q) (h.gr hg).pool h.ok hb rfl (by rw [hl]; decide))
  rw [he] at HST
  have hkI : ((5 + 8 * k : Nat) : Int) = 5 + 8 * (k : Int) := by omega
  rw [hkI] at HST
  generalize ptrB q = pb at *
  have HL := Lib.hid hl
  obtain ⟨q1, q2⟩ := q
  obtain ⟨x1, x2⟩ := q0
  unfold lnk at HH HP ⊢
  unfold hdv at HST
  simp only at HX HS g0 HY HH HST HP h0 ⊢
  have hqb : ((x2 : Int) == 0) = false := by rw [beq_eq_false_iff_ne]; omega
  clear h he hl hkI
  go_enter Try.func49, Try.ntmps49
  go_wp2
  refine region_tail_gr 12 _ [Is ?r0x1, Is ?r1x1, Is ?r2x1, Is (.pointer (some ⟨g, 0, none⟩)), Is ?r4x1, Is (.agg #[.int .i64 (x1 : Int), .int .i64 (x2 : Int)]), Is (.agg #[.int .i64 (L.r : Int), .int .i64 (L.gen : Int), .int .i64 (x1 : Int), .int .i64 (x2 : Int)]), Is (.int .i64 (k : Int)), Is (.int .i64 (8 * (k : Int))), Is (.int .i64 (5 + 8 * (k : Int))), Is (.agg #[.int .i64 (q1 : Int), .int .i64 (q2 : Int)]), ReadsB (pb)] (by kernel_rfl) (by kernel_rfl) (by kernel_rfl) (by kernel_rfl) rfl rfl ⟨Is.stable _, Is.stable _, Is.stable _, Is.stable _, Is.stable _, Is.stable _, Is.stable _, Is.stable _, Is.stable _, Is.stable _, Is.stable _, ReadsB.stable _, trivial⟩ ⟨?s0x1, ?s1x1, ?s2x1, ?s3x1, ?s4x1, ?s5x1, ?s6x1, ?s7x1, ?s8x1, ?s9x1, ?s10x1, ?s11x1, trivial⟩ ?finx1
  case' s0x1 | s1x1 | s2x1 | s3x1 | s4x1 | s5x1 | s6x1 | s7x1 | s8x1 | s9x1 | s10x1 | s11x1 =>
    intro ρ wr hρ hg hK
    simp [readsOf, slotsOf, Op.operands, Call.operands, tmpOf, List.filterMap_cons, List.filterMap_nil, KnownAll, knownOf, srcOf, depsOf, dstOf, Region.binds, nth, Is] at hK
    obtain ⟨hc, hf, hgl⟩ := hρ
    try simp only [wantedBy, dstOf, boolOf, nth, List.getD_cons_zero, List.getD_cons_succ, List.getElem?_cons_zero, List.getElem?_cons_succ, Option.bind_some, if_true, hK, BEq.rfl]
    try go_simp
    first | exact rfl | (rw [if_pos (by omega)]; exact is_here rfl) | (rw [dif_pos (by omega)]; exact is_here rfl) | exact congrArg (Value.int _) (IntWalk.i64_in _ ⟨by omega, by omega⟩) | skip
  case s3x1 =>
    obtain ⟨c0, _, _⟩ := lst_heads (HS.out.gr hg).blk
    go_simp
    exact rfl
  case s5x1 =>
    obtain ⟨c0, c1, _, _⟩ := (HY.out.gr hg).two
    go_simp
    exact rfl
  case s6x1 => exact any_gr (HH.out _ (HS.out.gr hg).blk)
  case s10x1 =>
    obtain ⟨c0, c1, _, _⟩ := (HX.out.gr hg).two
    go_simp
    exact rfl
  case s11x1 => exact any_bytes (HP.out _)
  case finx1 =>
    intro w1 val hg hH
    simp only [Holds, Is, Nat.zero_add, Nat.reduceAdd] at hH
    obtain ⟨h0, h1, h2, h3, h4, h5, h6, h7, h8, h9, h10, ⟨ad11, cap11, h11, hb11⟩, _⟩ := hH
    simp only [List.take_succ_cons, List.take_zero, List.drop_succ_cons, List.drop_zero, putAll, h0, h1, h2, h3, h4, h5, h6, h7, h8, h9, h10, h11, Nat.zero_add, Nat.reduceAdd]
    have HB := Lib.hid hb11
    clear hb11
    go_simp
    go_wp2_with (first
      | (go_at_call 48; go_must (refine (HST.out _ (g0.trans hg) _ _ HB.out).mono ?_); rintro e w5 ⟨rfl, m5⟩)
      | fail)
    go_ret
    exact ⟨rfl, m5.after ((g0.trans hg).chg)⟩
theorem put_any (w : World) (S : Nat → Prop) (g gl : Nat) (p : PoolF) (L : Ls) (A B : List Nd) (x : Nd) (h : Sk w S g gl p L) (st : SkSt p L.r L.gen L.hd (A ++ x :: B)) (hx : x.h < x.t) (hA : ∀ y ∈ A, y.h = y.t) :
    Calls Try.prog 49 #[.pointer (some ⟨gl, 0, none⟩), lnk (linkF (lastN x.h A)), .int .i64 (x.h : Int), lnk (x.off, x.size)] w fun e w' => e = .returned (.int .i64 0) ∧
      ∃ p' hd', Sk w' S g gl p' { L with hd := hd' } ∧ SkSt p' L.r L.gen hd' (A ++ x.up :: B) ∧ Kp L.r p p' ∧ countF p' = countF p ∧ Chg (fun j => S j ∨ j = gl) w w' := by
  have hxN : x ∈ A ++ x :: B := by simp
  have hk : x.h < 12 := by have := (st.node x hxN).1.t2; omega
  cases hl : lastN x.h A with
  | none =>
    refine (put_none w g gl L x.h (x.off, x.size) h.blk hk).mono ?_
    rintro e w' ⟨h1, h2, h3⟩
    exact ⟨h1, p, _, ⟨h.pool.chg h3 (fun j hj e => h.out (e ▸ hj)), h.ok, h2, h.out⟩, st.put0 hx hA hl, Kp.refl _ _, rfl, (Chg.refl w).trans h3 (fun j hj => .inl (.inr hj))⟩
  | some y =>
    have hyA : y ∈ A := by
      obtain ⟨a, b, e, _⟩ := lastN_some hl
      rw [e]; simp
    have hyN : y ∈ A ++ x :: B := List.mem_append_left _ hyA
    obtain ⟨p', hs, st', kp, hc⟩ := st.put1 h.ok hx hA hl
    have hy := nd_size (st.node y hyN).1
    have hlt := st.off_lt h.ok hxN
    have hok : PoolOk p' := by have := store_ok h.ok (nh L.r L.gen y) ((5 + 8 * x.h : Nat) : Int) (ptrB (x.off, x.size)); rw [hs] at this; exact this
    refine (put_some w S g gl p p' L x.h (y.off, y.size) (x.off, x.size) h hk (by show 1 ≤ y.size; omega) (by show x.off < _; omega) (by show x.size < _; omega) hs).mono ?_
    rintro e w' ⟨h1, h2⟩
    exact ⟨h1, p', L.hd, ⟨h2.pool, hok, h2.chg.blk h.blk h.out, h.out⟩, st', kp, hc, (Chg.refl w).trans h2.chg (fun j hj => .inl (.inl hj))⟩
end Go.Proofs.Ytnafhjgfkofkbaa
/- Layer 11 (skip): a drawn region in which a piece is allocated. -/
namespace Go.Proofs.Ytnafhjgfkofkbaa
set_option linter.unusedVariables false
set_option linter.unusedSimpArgs false
open Go.RowKit
section
variable {w0 W0 w w' : World} {S S' : Nat → Prop} {gp g b : Nat} {p p' : PoolF} {cs : List Value}
def hc (x : Hd) : List Value := [.int .i64 x.region, .int .i64 x.gen, .int .i64 x.off, .int .i64 x.len]
theorem hc_len (x : Hd) : (hc x).length = 4 := rfl
theorem grown_set4b (w : World) (g o : Nat) (a b c d : Value) : w.grownBy ((((w.setCell ⟨g, o, none⟩ a).setCell ⟨g, o + 1, none⟩ b).setCell ⟨g, o + 2, none⟩ c).setCell ⟨g, o + 3, none⟩ d) (some g) :=
  grown_trans (grown_trans (grown_trans (grown_set _ _ _ _) (grown_set _ _ _ _)) (grown_set _ _ _ _)) (grown_set _ _ _ _)
theorem Pl.grown {w0 w w' : World} {S : Nat → Prop} {g : Nat} {p : PoolF} (h : Pl w0 w S g p) {b : Nat} (hO : ¬ S b) (hb : w0.heap.size ≤ b) (k : w.grownBy w' (some b)) : Pl w0 w' S g p :=
  ⟨Gr.of_far h.gr k hb, h.pool.chg (Chg.grown (S := fun j => j = b) k rfl) (fun j hj e => hO (e ▸ hj)), h.ok, h.base⟩
theorem Chg.cell {S : Nat → Prop} {w w' : World} (h : Chg S w w') {b o : Nat} {v : Value} (hc : w.cell? ⟨b, o, none⟩ = some v) (hn : ¬ S b) : w'.cell? ⟨b, o, none⟩ = some v := by
  have := h.block b (World.block_lt_of_cell? w _ hc) hn
  unfold World.cell? at hc ⊢
  simp only at hc ⊢
  rw [this]; exact hc
/-- a pool of a law's own, whatever new blocks it has taken -/
def PlY (w0 : World) (g : Nat) (p : PoolF) (S : Nat → Prop) (N : Nat) (w : World) : Prop := ∃ S', Pl w0 w S' g p ∧ ∀ j, S' j → S j ∨ N ≤ j
theorem PlY.more {w0 w w' : World} {g N : Nat} {p : PoolF} {S : Nat → Prop} (h : PlY w0 g p S N w) (k : Gr w w') : PlY w0 g p S N w' := by
  obtain ⟨S', h1, h2⟩ := h
  exact ⟨S', h1.more k, h2⟩
/-- a block of handles is none of the pool's -/
theorem PoolAt.drop {w : World} {S : Nat → Prop} {g b : Nat} {p : PoolF} {cs : List Value} (h : PoolAt w S g p) (hb : Blk w b 93 cs) : PoolAt w (fun j => S j ∧ j ≠ b) g p := by
  obtain ⟨ads, cs', adt, ct, A, C, bd, hx⟩ := h
  refine ⟨ads, cs', adt, ct, A, C, bd, hx.blk, hx.row, hx.tak, hx.slab, hx.land, hx.inj, hx.sep, ⟨hx.sg, hx.blk.ne hb (by decide)⟩, fun x e => ⟨hx.srow x e, hb.owns_ne hx.row (by decide) x e⟩, fun x e => ⟨hx.stak x e, hb.owns_ne hx.tak (by decide) x e⟩, fun i hi => ⟨hx.sslab i hi, (hx.slab i hi).ne hb (by decide)⟩, fun i x hi e => ⟨hx.sland i x hi e, hb.owns_ne (hx.land i hi) (by decide) x e⟩, fun j hj => hx.lt j hj.1⟩
theorem Pl.drop {w0 w : World} {S : Nat → Prop} {g b : Nat} {p : PoolF} {cs : List Value} (h : Pl w0 w S g p) (hb : Blk w b 93 cs) : Pl w0 w (fun j => S j ∧ j ≠ b) g p := ⟨h.gr, h.pool.drop hb, h.ok, fun j hj => h.base j hj.1⟩
/-- what has been done of a statement that calls Alloc and keeps the handle -/
structure AG where
  done : Bool
  b : Option Nat
  st : Bool
def AG.none : AG := ⟨false, .none, false⟩
def AG.le (g g' : AG) : Prop := (g.done = true → g'.done = true) ∧ (∀ b, g.b = some b → g'.b = some b) ∧ (g.st = true → g'.st = true)
def zh : List Value := [.int .i64 0, .int .i64 0, .int .i64 0, .int .i64 0]
structure AInv (w0 W0 : World) (S : Nat → Prop) (gp : Nat) (p p' : PoolF) (cs : List Value) (s : World × AG) : Prop where
  chg : Chg (fun j => S j ∨ W0.heap.size ≤ j) W0 s.1
  pool : if s.2.done = true then PlY w0 gp p' S W0.heap.size s.1 else Pl w0 s.1 S gp p
  blk : ∀ b, s.2.b = some b → W0.heap.size ≤ b ∧ Blk s.1 b 93 (if s.2.st = true then cs else zh)
  no : s.2.b = none → s.2.st = false
def ALe (w0 W0 : World) (S : Nat → Prop) (gp : Nat) (p p' : PoolF) (cs : List Value) (s s' : World × AG) : Prop := AG.le s.2 s'.2 ∧ (AInv w0 W0 S gp p p' cs s → AInv w0 W0 S gp p p' cs s')
end
section
variable {w0 W0 w w' : World} {S : Nat → Prop} {gp : Nat} {p p' : PoolF} {cs : List Value} {g : AG}
theorem ALe.refl (s : World × AG) : ALe w0 W0 S gp p p' cs s s := ⟨⟨fun h => h, fun _ h => h, fun h => h⟩, fun h => h⟩
theorem ALe.trans (a b c : World × AG) (h : ALe w0 W0 S gp p p' cs a b) (k : ALe w0 W0 S gp p p' cs b c) : ALe w0 W0 S gp p p' cs a c := ⟨⟨fun x => k.1.1 (h.1.1 x), fun b x => k.1.2.1 b (h.1.2.1 b x), fun x => k.1.2.2 (h.1.2.2 x)⟩, fun x => k.2 (h.2 x)⟩
theorem AInv.start (h : Pl w0 W0 S gp p) : AInv w0 W0 S gp p p' cs (W0, AG.none) := ⟨Chg.refl _, h, fun b e => (by cases e), fun _ => rfl⟩
theorem AInv.call (h : AInv w0 W0 S gp p p' cs (w, g)) (hd : g.done = false) {S' : Nat → Prop} (hS : ∀ j, S j → j < W0.heap.size) (m : Moved S gp p' w w' S') (P' : Pl w0 w' S' gp p') : AInv w0 W0 S gp p p' cs (w', { g with done := true }) := by
  refine ⟨h.chg.trans m.chg (fun j hj => .inl (.inl hj)), ?_, fun b e => ?_, h.no⟩
  · show if true = true then _ else _
    rw [if_pos rfl]
    refine ⟨S', P', fun j hj => ?_⟩
    rcases m.sub j hj with h1 | h1
    · exact .inl h1
    · exact .inr (Nat.le_trans h.chg.size h1)
  · obtain ⟨h1, h2⟩ := h.blk b e
    exact ⟨h1, m.chg.blk h2 (fun hs => by have := hS b hs; omega)⟩
theorem AInv.new (h : AInv w0 W0 S gp p p' cs (w, g)) (hb : g.b = .none) : AInv w0 W0 S gp p p' cs (w.alloc (.cells zh.toArray 93), { g with b := some w.heap.size }) := by
  have hst := h.no hb
  refine ⟨h.chg.trans (Gr.alloc w _).chg (fun j hj => .inl hj), ?_, fun b e => ?_, fun e => (by cases e)⟩
  · have := h.pool
    show if g.done = true then _ else _
    split
    · rename_i hd; rw [if_pos hd] at this; exact this.more (Gr.alloc _ _)
    · rename_i hd; rw [if_neg hd] at this; exact this.more (Gr.alloc _ _)
  · cases e
    refine ⟨h.chg.size, ?_⟩
    show Blk _ _ _ (if g.st = true then cs else zh)
    have hst' : g.st = false := hst
    rw [hst', if_neg (by decide)]
    exact Blk.new w _ _
theorem Pl.write (h : Pl w0 w S gp p) {b : Nat} {cs' : List Value} (hB : Blk w b 93 cs') (hb : w0.heap.size ≤ b) (k : w.grownBy w' (some b)) : Pl w0 w' (fun j => S j ∧ j ≠ b) gp p :=
  (h.drop hB).grown (fun e => e.2 rfl) hb k
theorem AInv.store (h : AInv w0 W0 S gp p p' cs (w, g)) (hS : ∀ j, S j → j < W0.heap.size) (hw0 : w0.heap.size ≤ W0.heap.size) {b : Nat} (hb : g.b = some b) (k : w.grownBy w' (some b)) (hB : Blk w' b 93 cs) : AInv w0 W0 S gp p p' cs (w', { g with st := true }) := by
  obtain ⟨h1, h2⟩ := h.blk b hb
  refine ⟨h.chg.trans (Chg.grown (S := fun j => j = b) k rfl) (fun j hj => .inl (.inr (by subst hj; exact h1))), ?_, fun b' e => ?_, fun e => (by rw [hb] at e; cases e)⟩
  · have := h.pool
    show if g.done = true then _ else _
    split
    · rename_i hd
      rw [if_pos hd] at this
      obtain ⟨S', a1, a2⟩ := this
      exact ⟨_, a1.write h2 (Nat.le_trans hw0 h1) k, fun j hj => a2 j hj.1⟩
    · rename_i hd
      rw [if_neg hd] at this
      exact this.grown (fun e => by have := hS b e; omega) (by omega) k
  · have e2 : g.b = some b' := e
    rw [hb] at e2
    cases e2
    exact ⟨h1, hB⟩
end
/-- where a drawn region's Alloc, its handle's room and its store stand -/
def PreI (k : Nat) (s : World × AG) : Prop := (k = 10 → s.2.done = false) ∧ (k = 14 → s.2.b = none) ∧ (k = 15 → s.2.st = false)
theorem PreI.start {w : World} (k : Nat) : PreI k (w, AG.none) := ⟨fun _ => rfl, fun _ => rfl, fun _ => rfl⟩
theorem PreI.step {w w' : World} {g g' : AG} {i : Nat} (h1 : i ≠ 10 → g.done = false → g'.done = false) (h2 : i ≠ 14 → g.b = none → g'.b = none) (h3 : i ≠ 15 → g.st = false → g'.st = false) : ∀ k, k ≠ i → PreI k (w, g) → PreI k (w', g') :=
  fun k hk ⟨a, b, c⟩ => ⟨fun e => h1 (fun e' => hk (e.trans e'.symm)) (a e), fun e => h2 (fun e' => hk (e.trans e'.symm)) (b e), fun e => h3 (fun e' => hk (e.trans e'.symm)) (c e)⟩
def DoneG (x : Value) : Value → World × AG → Prop := fun v s => v = x ∧ s.2.done = true
def HasG : Value → World × AG → Prop := fun v s => ∃ b, v = .pointer (some ⟨b, 0, none⟩) ∧ s.2.b = some b
def StG : Value → World × AG → Prop := fun _ s => s.2.st = true
section
variable {w0 W0 : World} {S : Nat → Prop} {gp : Nat} {p p' : PoolF} {cs : List Value}
theorem DoneG.stable (x : Value) : StableG (ALe w0 W0 S gp p p' cs) (DoneG x) := fun _ _ _ ⟨e, h⟩ k => ⟨e, k.1.1 h⟩
theorem HasG.stable : StableG (ALe w0 W0 S gp p p' cs) HasG := fun _ _ _ ⟨b, e, h⟩ k => ⟨b, e, k.1.2.1 b h⟩
theorem StG.stable : StableG (ALe w0 W0 S gp p p' cs) StG := fun _ _ _ h k => k.1.2.2 h
end
/-- any pool is one of a law's own, of a law that began with nothing -/
theorem Pl.none {w : World} {S : Nat → Prop} {g : Nat} {p : PoolF} (h : PoolAt w S g p) (ok : PoolOk p) : Pl { w with heap := #[] } w S g p :=
  ⟨⟨rfl, rfl, rfl, Nat.zero_le _, fun j hj => absurd hj (Nat.not_lt_zero j)⟩, h, ok, fun j _ => Nat.zero_le _⟩
theorem Chg.mono {S S' : Nat → Prop} {w w' : World} (h : Chg S w w') (hs : ∀ j, S j → S' j) : Chg S' w w' := ⟨h.os, h.tape, h.output, h.size, fun j hj hn => h.block j hj (fun e => hn (hs j e))⟩
/-- what Insert keeps, from its piece on: the path, the cell that is handed over, the piece -/
structure IW (w : World) (S S2 : Nat → Prop) (g gl pb bx hb : Nat) (R : Nat → Nat × Nat) (boxV hV : List Value) (p : PoolF) (L : Ls) (wr : World) : Prop where
  sk : Sk wr S2 g gl p L
  chg : Chg (fun j => S j ∨ j = gl) w wr
  path : Blk wr pb 78 (rowV R 12)
  box : Blk wr bx 41 boxV
  han : Blk wr hb 93 hV
  npath : ¬ S2 pb ∧ pb ≠ gl
  nbox : ¬ S2 bx ∧ bx ≠ gl
  nhan : ¬ S2 hb ∧ hb ≠ gl
  sub : ∀ j, S2 j → S j ∨ w.heap.size ≤ j
section
variable {w wr w' : World} {S S2 : Nat → Prop} {g gl pb bx hb : Nat} {R : Nat → Nat × Nat} {boxV hV : List Value} {p p' : PoolF} {L L' : Ls}
theorem IW.step (h : IW w S S2 g gl pb bx hb R boxV hV p L wr) (sk : Sk w' S2 g gl p' L') (c : Chg (fun j => S2 j ∨ j = gl) wr w') : IW w S S2 g gl pb bx hb R boxV hV p' L' w' :=
  ⟨sk, h.chg.trans c (fun j hj => by
    rcases hj with hj | hj
    · rcases h.sub j hj with h1 | h1
      · exact .inl (.inl h1)
      · exact .inr h1
    · exact .inl (.inr hj)), c.blk h.path (by rintro (e | e); exact h.npath.1 e; exact h.npath.2 e), c.blk h.box (by rintro (e | e); exact h.nbox.1 e; exact h.nbox.2 e), c.blk h.han (by rintro (e | e); exact h.nhan.1 e; exact h.nhan.2 e),
    h.npath, h.nbox, h.nhan, h.sub⟩
theorem IW.gr (h : IW w S S2 g gl pb bx hb R boxV hV p L wr) (k : Gr wr w') : IW w S S2 g gl pb bx hb R boxV hV p L w' := h.step (h.sk.gr k) k.chg
end
theorem lstV_gen (g : Nat) (L : Ls) (n : Nat) : (lstV g L).set 2 (.int .i64 (n : Int)) = lstV g { L with gen := n } := by unfold lstV; simp
theorem lstV_cnt (g : Nat) (L : Ls) (n : Nat) : (lstV g L).set 27 (.int .i64 (n : Int)) = lstV g { L with cnt := n } := by
  unfold lstV
  rw [List.set_append_right _ _ (by simp), List.set_append_right _ _ (by rw [rowV_len]; simp), rowV_len]
  simp
theorem lstV_wt (g : Nat) (L : Ls) (n : Nat) : (lstV g L).set 28 (.int .i64 (n : Int)) = lstV g { L with wt := n } := by
  unfold lstV
  rw [List.set_append_right _ _ (by simp), List.set_append_right _ _ (by rw [rowV_len]; simp), rowV_len]
  simp
theorem Sk.setCell {w : World} {S : Nat → Prop} {g gl : Nat} {p : PoolF} {L L' : Ls} (h : Sk w S g gl p L) (k : Nat) (v : Value) (e : (lstV g L).set k v = lstV g L') : Sk (w.setCell ⟨gl, k, none⟩ v) S g gl p L' ∧ Chg (fun j => j = gl) w (w.setCell ⟨gl, k, none⟩ v) := by
  have hc : Chg (fun j => j = gl) w (w.setCell ⟨gl, k, none⟩ v) := Chg.grown (S := fun j => j = gl) (grown_set w gl k v) rfl
  exact ⟨⟨h.pool.chg hc (fun j hj e => h.out (e ▸ hj)), h.ok, e ▸ h.blk.set_ k v, h.out⟩, hc⟩
end Go.Proofs.Ytnafhjgfkofkbaa
namespace Go.Proofs.Ytnafhjgfkofkbaa
set_option linter.unusedVariables false
set_option linter.unusedSimpArgs false
open Go.RowKit Ikey Varint
/-- the head that a new node's bytes begin with, and its first links -/
def partB (t : Nat) (c : Ce) (f : Nat → Nat × Nat) (j : Nat) : List UInt8 := headB t c ++ linksB f j
theorem partB_succ (t : Nat) (c : Ce) (f : Nat → Nat × Nat) (j : Nat) : partB t c f (j + 1) = partB t c f j ++ ptrB (f j) := by unfold partB; rw [linksB, List.append_assoc]
theorem partB_len (t : Nat) (c : Ce) (f : Nat → Nat × Nat) (j : Nat) : (partB t c f j).length = 5 + 8 * j := by unfold partB; rw [List.length_append, headB_len, linksB_len]
theorem partB_all (t : Nat) (c : Ce) (f : Nat → Nat × Nat) : partB t c f t ++ encF c.key c.seq c.kind ++ c.val = nodeB t f c := by unfold partB nodeB restB; simp
theorem there_head (w : World) (S : Nat → Prop) (g gl : Nat) (p : PoolF) (L : Ls) (A B : List Nd) (v : Vr) (h : Sk w S g gl p L) (st : SkSt p L.r L.gen L.hd (A ++ B)) (hne : ∀ x ∈ B, isV x.c v = false) :
    Calls Try.prog 42 #[.pointer (some ⟨gl, 0, none⟩), lnk (linkF (firstN 0 B)), ver v.key v.seq v.kind] w fun e w' => e = .returned (.tuple #[.bool false, .int .i64 0]) ∧ Gr w w' := by
  cases hf : firstN 0 B with
  | none => exact there_none w gl v.key v.seq v.kind
  | some x =>
    obtain ⟨a, b, e, _⟩ := firstN_some hf
    have hm : x ∈ A ++ B := by rw [e]; simp
    obtain ⟨n1, _⟩ := st.node x hm
    have hs := nd_size n1
    have := there_some w S g gl p L (x.off, x.size) v x.t _ x.c h (st.ld (A ++ a) x b (by rw [e]; simp)) (by show 1 ≤ x.size; omega) n1.t1 n1.t2 n1.ok n1.vl
    rw [hne x (by rw [e]; simp)] at this
    exact this
set_option maxRecDepth 100000 in
set_option maxHeartbeats 8000000 in
theorem Insert_ok (w : World) (S : Nat → Prop) (g gl : Nat) (p : PoolF) (L : Ls) (A B : List Nd) (c : Ce) (t : Nat) (h : Sk w S g gl p L) (st : SkSt p L.r L.gen L.hd (A ++ B)) (full : ∀ x ∈ A ++ B, x.h = x.t)
    (hfz : L.fz = false) (hfd : L.fd = false) (t1 : 1 ≤ t) (t2 : t ≤ 12) (hok : okV c.key c.seq c.kind = true) (hv : c.val.length ≤ 1000)
    (hA : ∀ x ∈ A, vless x.c.vr c.vr = true) (hB : ∀ x ∈ B, vless c.vr x.c.vr = true) (hi : 1 ≤ countF p) (hcnt : L.cnt ≤ 1000000) (hwt : L.wt ≤ 1000000000) :
    Calls Try.prog 12 #[.pointer (some ⟨gl, 0, none⟩), celV c.key c.seq c.kind c.val, .int .i64 (t : Int)] w fun e w' => e = .returned (.int .i64 0) ∧
      ∃ p' S' hd' o, Sk w' S' g gl p' ⟨L.r, (landAt p L.r).gen, hd', L.cnt + 1, L.wt + (c.key.length + c.val.length + 8), false, false⟩ ∧
        SkSt p' L.r (landAt p L.r).gen hd' (A ++ ⟨o, 5 + 8 * t + (c.key.length + 8 + c.val.length), t, t, c⟩ :: B) ∧ Kp L.r p p' ∧ countF p ≤ countF p' + 1 ∧ Chg (fun j => S j ∨ j = gl) w w' ∧ ∀ j, S' j → S j ∨ w.heap.size ≤ j := by
  have hck : chkI L.fz L.fd c.key c.seq c.kind c.val (t : Int) = 0 := by
    unfold chkI
    rw [hfz, hfd, if_neg (by simp), if_neg (by rw [hok]; simp; omega), if_neg (by omega)]
  have hne : ∀ x ∈ B, isV x.c c.vr = false := fun x hx => by
    have h1 := hB x hx
    unfold isV
    rw [Bool.eq_false_iff]
    intro e
    simp only [Bool.and_eq_true, decide_eq_true_eq] at e
    have : x.c.vr = c.vr := by unfold Ce.vr at e ⊢; simp only at e; obtain ⟨⟨e1, e2⟩, e3⟩ := e; rw [e1, e2, e3]
    rw [this, vless_irr] at h1
    cases h1
  have HS := Lib.hid h
  have HCK := Lib.hid (fun w' (hg : Gr w w') => check_any w' g gl L (h.gr hg).blk c.key c.seq c.kind c.val (t : Int) (by omega))
  rw [hck] at HCK
  have HBE := Lib.hid (fun w' (hg : Gr w w') => behind_any w' S g gl p L A B c.vr (h.gr hg) st full hA (fun x hx => vless_asymm (hB x hx)))
  have HTH := Lib.hid (fun w' (hg : Gr w w') => there_head w' S g gl p L A B c.vr (h.gr hg) st hne)
  have HEN := Lib.hid (fun w' => Encode_yes c.key c.seq c.kind w' hok)
  obtain ⟨R, hR⟩ : ∃ R : Nat → Nat × Nat, R = fun k => linkF (lastN k A) := ⟨_, rfl⟩
  obtain ⟨f, hf⟩ : ∃ f : Nat → Nat × Nat, f = fun k => linkF (firstN k B) := ⟨_, rfl⟩
  obtain ⟨o, p1, p2, hal, hsto, st2, kp2, cf2⟩ := st.alloc h.ok hi t1 t2 hok hv hA hB
  rw [← hf] at hal hsto st2
  have hok2 : PoolOk p2 := by
    have h1 : PoolOk p1 := by have := alloc_ok h.ok (L.r : Int) ((nodeB t f c).length : Nat) 8; rw [hal] at this; exact this
    have := store_ok h1 (nh L.r (landAt p L.r).gen ⟨o, (nodeB t f c).length, 0, t, c⟩) 0 (nodeB t f c)
    rw [hsto] at this
    exact this
  have hok1 : PoolOk p1 := by have := alloc_ok h.ok (L.r : Int) ((nodeB t f c).length : Nat) 8; rw [hal] at this; exact this
  rw [← hR] at HBE
  have hf0 : linkF (firstN 0 B) = f 0 := by rw [hf]
  rw [hf0] at HBE HTH
  have HNX := Lib.hid (fun w' (hg : Gr w w') k (hk : k < 12) => show Calls Try.prog 45 #[.pointer (some ⟨gl, 0, none⟩), lnk (R k), .int .i64 (k : Int)] w' fun e w2 => e = .returned (.tuple #[lnk (f k), .int .i64 0]) ∧ Gr w' w2 by
    obtain ⟨b, h1, h2⟩ := lies_path full k
    have := next_any w' S g gl p L (A ++ B) b (lastN k A) k (h.gr hg) st h1 hk
    rw [h2] at this
    rw [hR, hf]
    exact this)
  have HFL := Lib.hid (show ∀ k, (f k).1 < 4294967296 ∧ (f k).2 < 4294967296 from fun k => by rw [hf]; exact linkF_lt h.ok st (fun y hy => List.mem_append_right _ hy) k)
  have HR := Lib.hid hR; have HF := Lib.hid hf; have HST := Lib.hid st; have HFU := Lib.hid full; have HA := Lib.hid hA; have HB := Lib.hid hB; have HOK := Lib.hid hok
  have HHB := Lib.hid (show headB t c = UInt8.ofNat t :: (bytesN 2 (c.key.length + 8) ++ bytesN 2 c.val.length) from rfl)
  have HPA := Lib.hid (partB_all t c f)
  have HP0 := Lib.hid (show partB t c f 0 = headB t c by unfold partB; simp [linksB])
  have HPS := Lib.hid (partB_succ t c f)
  have HPL := Lib.hid (partB_len t c f)
  have HNB := Lib.hid (nodeB_len t f c)
  have HEL := Lib.hid (enc_len c.key c.seq c.kind)
  obtain ⟨_, hk64, _⟩ := okV_of hok
  have HK := Lib.hid (show c.key.length ≤ 64 from hk64)
  generalize hnode : nodeB t f c = node at *
  have HND := Lib.hid hnode
  obtain ⟨gn, hgn⟩ : ∃ gn, gn = (landAt p L.r).gen := ⟨_, rfl⟩
  have HGN := Lib.hid hgn
  rw [← hgn] at hal hsto st2 ⊢
  clear hgn
  unfold nh at hal hsto
  simp only at hal hsto
  have HAL := Lib.hid hal; have HSTO := Lib.hid hsto; have HST2 := Lib.hid st2; have HKP2 := Lib.hid kp2; have HCF2 := Lib.hid cf2; have HOK2 := Lib.hid hok2; have HOK1 := Lib.hid hok1
  clear hal hsto st2 kp2 cf2 hok2 hok1
  clear hck hne hR hf hf0 st full hA hB hok hk64 hnode h
  unfold Ce.vr at HBE HTH
  unfold ver at HBE HTH HEN
  simp only at HBE HTH HEN
  unfold lnk at HBE HTH HNX
  unfold celV at HCK ⊢
  generalize encF c.key c.seq c.kind = E at *
  generalize partB t c f = PB at *
  generalize headB t c = hd0 at *
  obtain ⟨key, seq, kind, vl⟩ := c
  simp only at *
  have g1 := Gr.alloc w (.cells #[.string (str key), .int .i64 (seq : Int), .int .i64 (kind : Int), .string (str vl)] 41)
  have B1 := Lib.hid (Blk.new w 41 #[.string (str key), .int .i64 (seq : Int), .int .i64 (kind : Int), .string (str vl)])
  have G1 := Lib.hid g1
  clear g1
  go_enter Try.func12, Try.ntmps12
  go_wp2_with (first
    | (go_at_call 40; go_must (refine (HCK.out _ G1.out).mono ?_); rintro e w2 ⟨rfl, g2⟩
       have G2 := Lib.hid (G1.out.trans g2)
       have B2 := Lib.hid (B1.out.gr g2)
       obtain ⟨c0, c1, c2, c3, _⟩ := B2.out.four)
    | (go_at_call 41; go_must (refine (HBE.out _ G2.out).mono ?_); rintro e w3 ⟨rfl, g3⟩
       clear c0 c1 c2 c3
       have G3 := Lib.hid (G2.out.trans g3)
       have B3 := Lib.hid (B2.out.gr g3)
       have P3 := Lib.hid (Blk.of2a (w := w3) (cs := (rowV (fun _ => (0, 0)) 12).toArray) (t := 78) (o := .cells #[.int .i64 0, .int .i64 0] 77) (Gr.refl _))
       have N3 := Lib.hid (Blk.of2b (w := w3) (o := .cells (rowV (fun _ => (0, 0)) 12).toArray 78) (cs := #[.int .i64 0, .int .i64 0]) (t := 77) (Gr.refl _)))
    | ((with_reducible show Go.wpList _ _ _ (Oper.mk _ (Op.store 78 _ _) _ _ _ _ :: _) _ _); go_must (refine wp_store_row rfl _ _ _ rfl rfl (cs' := rowV R 12) rfl P3.out (n := 24) (by kernel_rfl) (rowV_len _ 12) (rowV_len _ 12) (rowV_one _ 12) ?_); intro w4 P4 k4
       have hw3 := G3.out.size
       have hbx := B3.out.lt
       have G4 := Lib.hid ((G3.out.trans ((Gr.alloc w3 (.cells (rowV (fun _ => (0, 0)) 12).toArray 78)).trans (Gr.alloc _ (.cells #[.int .i64 0, .int .i64 0] 77)))).grown k4 (fun k e => by cases e; exact hw3))
       have N4 := Lib.hid (N3.out.grown k4 (by simp))
       have B4 := Lib.hid (((B3.out.alloc (.cells (rowV (fun _ => (0, 0)) 12).toArray 78)).alloc (.cells #[.int .i64 0, .int .i64 0] 77)).grown k4 (by simp; omega))
       have HP4 := Lib.hid P4
       clear k4 P4)
    | ((with_reducible show Go.wpList _ _ _ (Oper.mk _ (Op.store 77 _ _) _ _ _ _ :: _) _ _); go_must (refine wp_store_row rfl _ _ _ rfl rfl (cs' := [.int .i64 ((f 0).1 : Int), .int .i64 ((f 0).2 : Int)]) rfl N4.out (n := 2) (by kernel_rfl) rfl rfl (fun v hv => by simp at hv; rcases hv with rfl | rfl <;> rfl) ?_); intro w5 N5 k5
       have G5 := Lib.hid (G4.out.grown k5 (fun k e => by cases e; omega))
       have P5 := Lib.hid (HP4.out.grown k5 (by simp))
       have B5 := Lib.hid (B4.out.grown k5 (by simp; omega))
       obtain ⟨n0, n1, _, _⟩ := N5.two
       obtain ⟨c0, c1, c2, c3, _⟩ := B5.out.four
       clear k5 N5)
    | (go_at_call 42; go_must (refine (HTH.out _ G5.out).mono ?_); rintro e w6 ⟨rfl, g6⟩
       clear c0 c1 c2 c3 n0 n1
       have G6 := Lib.hid (G5.out.trans g6)
       have P6 := Lib.hid (P5.out.gr g6)
       have B6 := Lib.hid (B5.out.gr g6)
       obtain ⟨c0, c1, c2, c3, _⟩ := B6.out.four)
    | (go_at_call 43; go_must (refine (HEN.out _).mono ?_); rintro e w7 ⟨ade, cape, rfl, oe, g7⟩
       clear c0 c1 c2 c3
       have G7 := Lib.hid (G6.out.trans g7)
       have P7 := Lib.hid (P6.out.gr g7)
       have B7 := Lib.hid (B6.out.gr g7)
       obtain ⟨c0, c1, c2, c3, _⟩ := (B7.out.alloc (.cells #[.int .u8 (t : Int)] 5)).four)
    | fail)
  clear c0 c1 c2 c3
  have i0 : ∀ (a b : Value) w, (Instr.index 87 (.agg #[a, b]) (.int .i64 0)).run Try.prog w = .ok a w := fun _ _ _ => by kernel_rfl
  have i1 : ∀ (a b : Value) w, (Instr.index 87 (.agg #[a, b]) (.int .i64 1)).run Try.prog w = .ok b w := fun _ _ _ => by kernel_rfl
  have hE72 : E.length ≤ 72 := by have := HEL.out; have := HK.out; omega
  have HF1 := Lib.hid (fun w' => Fixed_at (E.length : Int) E.length 2 2 w' rfl rfl (by decide) (show E.length < 256 ^ 2 by omega))
  have HF2 := Lib.hid (fun w' => Fixed_at (vl.length : Int) vl.length 2 2 w' rfl rfl (by decide) (show vl.length < 256 ^ 2 by omega))
  have HX := Lib.hid (bytesN_len 2 E.length)
  have HY := Lib.hid (bytesN_len 2 vl.length)
  have hhd : hd0 = [UInt8.ofNat t] ++ bytesN 2 E.length ++ bytesN 2 vl.length := by rw [HHB.out, HEL.out]; simp
  generalize bytesN 2 E.length = X at *
  generalize bytesN 2 vl.length = Y at *
  have HHD := Lib.hid hhd
  clear hhd
  have ob : Owns (w7.alloc (.cells #[.int .u8 (t : Int)] 5)) w7.heap.size 5 1 (some ⟨w7.heap.size, 0, none⟩) 1 1 (bv [UInt8.ofNat t]) :=
    Owns.made w7 w7.heap.size #[.int .u8 (t : Int)] 5 (0, 0) 1 1 1 _ (Nat.le_refl _) (by decide) (Nat.le_refl _) rfl (by simp) (by
      simp only [bv, List.map_cons, List.map_nil, UInt8.toNat_ofNat']
      rw [Nat.mod_eq_of_lt (by omega)]; rfl)
  have g8 := Gr.alloc w7 (.cells #[.int .u8 (t : Int)] 5)
  have h78 := g8.size
  refine wp_loop_rounds 3 ?_
  rw [rounds_succ]
  go_wp2_with (first
    | (go_at_call 44; go_must (refine (HF1.out _).mono ?_); rintro e w9 ⟨ad9, c9, rfl, o9, g9⟩; have ob9 := ob.gr g9; have G9 := g8.trans g9)
    | (at_builtin; refine wp_append elemB rfl _ _ rfl rfl ob9 rfl (Src.bytes o9.bytes rfl Try.underlying73) (by unfold maxLen; have := HX.out; omega) (by have := HX.out; omega) G9.size ?_; intro adb cb w10 o10 k10 f10; have G10 := G9.onto ob9 (Nat.le_refl _) k10; rw [← bv_append] at o10)
    | fail)
  rw [rounds_succ]
  go_wp2_with (first
    | (go_at_call 44; go_must (refine (HF2.out _).mono ?_); rintro e w11 ⟨ad11, c11, rfl, o11, g11⟩; have ob11 := o10.gr g11; have G11 := G10.trans g11)
    | (at_builtin; refine wp_append elemB rfl _ _ rfl rfl ob11 rfl (Src.bytes o11.bytes rfl Try.underlying73) (by unfold maxLen; have := HX.out; have := HY.out; omega) (by have := HX.out; have := HY.out; omega) G11.size ?_; intro adc cc w12 o12 k12 f12; have G12 := G11.onto ob11 (Nat.le_refl _) k12; rw [← bv_append] at o12)
    | fail)
  rw [rounds_succ]
  go_wp2
  have o12' : Owns w12 w7.heap.size 5 1 adc cc (5 + 8 * 0) (bv (PB 0)) := by
    rw [HP0.out, HHD.out]
    have := o12
    rw [HX.out, HY.out] at this
    exact this
  have HO12 := Lib.hid o12'
  have hXY : 1 + X.length + Y.length = 5 + 8 * 0 := by rw [HX.out, HY.out]
  have HG12 := Lib.hid G12
  rw [hXY]
  clear o12' o12 hXY G12 k12 f12 G11 ob11 g11 o11 f10 k10 o10 G10 G9 ob9 g9 o9 ob g8 h78 i0 i1 HHD HX HY HF1 HF2
  go_loopw [15, 88] (fun v i wr => ∃ (j : Nat) (ad : Option Addr) (cap : Nat), j ≤ t ∧ i = .int .i64 (j : Int) ∧ v = .slice ad (5 + 8 * j) cap ∧ Owns wr w7.heap.size 5 1 ad cap (5 + 8 * j) (bv (PB j)) ∧ Gr w7 wr) (fun _ i _ => t - (intOf i).toNat)
  case atStart => exact ⟨0, _, _, Nat.zero_le _, rfl, rfl, HO12.out, HG12.out⟩
  case round =>
    clear HO12 HG12
    obtain ⟨j, ad, cap, hj, rfl, rfl, oj, hg⟩ := hrel
    by_cases hjt : j < t
    · have hj12 : j < 12 := by omega
      have GJ := Lib.hid (G7.out.trans hg)
      have hbp := P7.out.gr hg
      obtain ⟨r0, r1⟩ := rowV_get R 12 j hj12
      have c0 := hbp.cell r0
      have c1 := hbp.cell r1
      have HNJ := Lib.hid (fun w' (hg' : Gr w w') => HNX.out w' hg' j hj12)
      have HPJ := Lib.hid (fun w' => pointer_any w' (f j) (HFL.out j).1 (HFL.out j).2)
      have HPL8 := Lib.hid (ptrB_len (f j))
      have hps := HPS.out j
      generalize ptrB (f j) = pj at *
      have HPSJ := Lib.hid hps
      unfold lnk at HPJ
      have OJ := Lib.hid oj
      have HG := Lib.hid hg
      clear hbp r0 r1 hps oj hg
      go_wp2_with (first
        | (go_at_call 45; go_must (refine (HNJ.out _ GJ.out).mono ?_); rintro e w13 ⟨rfl, g13⟩)
        | (go_at_call 46; go_must (refine (HPJ.out _).mono ?_); rintro e w14 ⟨ad14, c14, rfl, o14, g14⟩
           have gj := g13.trans ((Gr.alloc w13 (.cells #[.int .i64 ((f j).1 : Int), .int .i64 ((f j).2 : Int)] 77)).trans g14)
           have oj14 := OJ.out.gr gj
           have G14 := HG.out.trans gj)
        | (at_builtin; refine wp_append elemB rfl _ _ rfl rfl oj14 rfl (Src.bytes o14.bytes rfl Try.underlying73) (by unfold maxLen; have := HPL8.out; omega) (by have := HPL8.out; omega) G14.size ?_; intro adc cc w15 o15 k15 f15; have G15 := G14.onto oj14 (Nat.le_refl _) k15; rw [← bv_append] at o15)
        | fail)
      refine ⟨?_, ?measure⟩
      (repeat apply Exists.intro)
      refine ⟨?rel, rfl⟩
      case rel =>
        refine ⟨j + 1, adc, cc, hjt, by go_num, by rw [HPL8.out, show 5 + 8 * j + 8 = 5 + 8 * (j + 1) by omega], ?_, G15⟩
        rw [HPSJ.out]
        rw [HPL8.out] at o15
        exact o15
      case measure => simp [intOf]; omega
    · have hjt2 : j = t := by omega
      rw [hjt2] at oj ⊢
      have GJ := Lib.hid (G7.out.trans hg)
      have BJ := Lib.hid (B7.out.gr hg)
      have PJ := Lib.hid (P7.out.gr hg)
      have oe2 := oe.gr hg
      clear hjt hjt2 hj
      have h67 := g7.size
      have hw6 := G6.out.size
      have hbxw : w.heap.size < w6.heap.size := B6.out.lt
      obtain ⟨row, hrow⟩ : ∃ row, row = ad.map (·.block) := ⟨_, rfl⟩
      have hrlt : ∀ g', row = some g' → g' < wr.heap.size ∧ w7.heap.size ≤ g' := by
        intro g' hg'
        rw [hrow] at hg'
        cases ad with
        | none => cases hg'
        | some y => cases hg'; exact ⟨(oj.lt y rfl).2, (oj.lt y rfl).1⟩
      have hbxrow : some w.heap.size ≠ row := fun h => by have := (hrlt _ h.symm).2; omega
      have herow : ∀ a, ade = some a → some a.block ≠ row := fun a ha h => by
        have h1 := (hrlt _ h.symm).2
        have h2 := (oe.lt a ha).2
        omega
      obtain ⟨AA, hAA⟩ : ∃ AA : Option Obj, ∀ g, row = some g → AA = wr.heap[g]? := ⟨row.bind fun g => wr.heap[g]?, fun g hg' => by rw [hg']; rfl⟩
      obtain ⟨BB, hBB⟩ : ∃ BB : Option Obj, BB = if 5 + 8 * t + E.length ≤ cap then appRow ((5 + 8 * t) * 1) (bv E) AA else AA := ⟨_, rfl⟩
      have HRow := Lib.hid hrow; have HAA := Lib.hid hAA; have HBB := Lib.hid hBB; have HRL := Lib.hid hrlt; have HER := Lib.hid herow
      have mA : 5 + 8 * t + E.length ≤ maxLen := by unfold maxLen; omega
      have mB : (5 + 8 * t + E.length) * 1 ≤ 140737488355328 := by omega
      have hb7 := hg.size
      obtain ⟨_, _, _, x3, _⟩ := BJ.out.four
      have OJ := Lib.hid oj
      have OE := Lib.hid oe2
      have HG := Lib.hid hg
      clear hrow hAA hBB hrlt herow oj oe2 hg
      go_wp2
      refine region_tail_once row AA BB 5 _ [Is (.slice ad (5 + 8 * t) cap), Is (.slice ade E.length cape), Apn row BB w7.heap.size 5 1 (5 + 8 * t + E.length) (bv (PB t) ++ bv E) wr.heap.size, Is (.pointer (some ⟨w.heap.size, 3, none⟩)), Is (.string (str vl))] (by kernel_rfl) (by kernel_rfl) (by kernel_rfl) (by kernel_rfl) rfl rfl ⟨Is.stable _, Is.stable _, Apn.stable _ _ _ _ _ _, Is.stable _, Is.stable _, trivial⟩ ⟨?s0, ?s1, ?s2, ?s3, ?s4, trivial⟩ ?fin
      case' s0 | s1 | s3 | s4 =>
        intro ρ wr hρ hg hK
        simp [readsOf, slotsOf, Op.operands, Call.operands, tmpOf, List.filterMap_cons, List.filterMap_nil, KnownAll, knownOf, srcOf, depsOf, dstOf, Region.binds, nth, Is] at hK
        obtain ⟨hc, hf, hgl⟩ := hρ
        try simp only [wantedBy, dstOf, boolOf, nth, List.getD_cons_zero, List.getD_cons_succ, List.getElem?_cons_zero, List.getElem?_cons_succ, Option.bind_some, if_true, hK, BEq.rfl]
        try go_simp
        first | exact rfl | (rw [if_pos (by omega)]; exact is_here rfl) | (rw [dif_pos (by omega)]; exact is_here rfl) | exact congrArg (Value.int _) (IntWalk.i64_in _ ⟨by omega, by omega⟩) | skip
      case' s2 =>
        intro ρ wr hρ hg hK
        simp [readsOf, slotsOf, Op.operands, Call.operands, tmpOf, List.filterMap_cons, List.filterMap_nil, KnownAll, knownOf, srcOf, depsOf, dstOf, Region.binds, nth, Is] at hK
        obtain ⟨hc, hf, hgl⟩ := hρ
        try simp only [wantedBy, dstOf, boolOf, nth, List.getD_cons_zero, List.getD_cons_succ, List.getElem?_cons_zero, List.getElem?_cons_succ, Option.bind_some, if_true, hK, BEq.rfl]
      case s2 =>
        obtain ⟨e0, e1⟩ := hK
        obtain ⟨v, w2, r1, r2, r3⟩ := append_once2 (ty := 73) (u := 73) elemB OJ.out HRow.out HAA.out HBB.out hg (Src.bytes (hg.owns OE.out HER.out).bytes rfl Try.underlying73) mA mB hb7
        simp only [execOp, resolve, invoke, builtin, Sem.run_bind, Sem.run_pure, Result.andThen_ok, List.map_toArray, List.map_cons, List.map_nil, e0, e1]
        rw [r1]
        exact ⟨r2, r3⟩
      case s4 =>
        have := hg.cell x3 hbxrow
        go_simp
        exact rfl
      case fin =>
        intro w1 val hg hH
        simp only [Holds, Is, Nat.zero_add, Nat.reduceAdd] at hH
        obtain ⟨h0, h1, h2, h3, h4, _⟩ := hH
        simp only [List.take_succ_cons, List.take_zero, List.drop_succ_cons, List.drop_zero, putAll, h0, h1, h3, h4, Nat.zero_add, Nat.reduceAdd]
        obtain ⟨ad9, c9, e9, o9, hbb9, hf9⟩ := h2
        clear hbb9
        simp only [e9]
        go_simp
        clear HCK HBE HTH HEN HNX HPS HPL HP0 B1 G1 B2 G2 G3 B3 P3 N3 G4 N4 B4 HP4 G5 P5 B5 G6 P6 oe
        have HLN := Lib.hid (show 5 + 8 * t + E.length + vl.length = node.length by have := HEL.out; have := HNB.out; omega)
        have hG9 : Gr w7 w1 := HG.out.grown hg.1 (fun g' h => (HRL.out g' h).2)
        rw [← bv_append] at o9
        have mC : 5 + 8 * t + E.length + vl.length ≤ maxLen := by unfold maxLen; omega
        have mD : (5 + 8 * t + E.length + vl.length) * 1 ≤ 140737488355328 := by omega
        have hb9 := hG9.size
        go_wp2_with (first
          | (at_builtin; go_must (refine wp_append elemB rfl _ _ rfl rfl o9 rfl (src_str vl Try.underlying9) mC mD hb9 ?_); intro ad16 c16 w16 o16 k16 f16
             rw [← bv_append, HPA.out, HLN.out] at o16
             rw [HLN.out]
             have G16 := hG9.onto o9 (Nat.le_refl _) k16)
          | fail)
        have GW := Lib.hid (G7.out.trans G16)
        have B16 := Lib.hid (B7.out.gr G16)
        have P16 := Lib.hid (P7.out.gr G16)
        have hsz7 := G7.out.size
        have hb7' := B7.out.lt
        have hp7' := P7.out.lt
        have hs16 := G16.size
        have O16 := Lib.hid o16
        have hn1173 : node.length ≤ 1173 := by have := HLN.out; omega
        clear o16 G16 k16 f16 hG9 mC mD hb9 o9 e9 hf9 hg h0 h1 h3 h4 OJ OE HG HAA HBB HRL HER x3 mA mB BJ PJ GJ
        have HSW := Lib.hid (HS.out.gr (GW.out.trans (Gr.drew w16)))
        have hS : ∀ j, S j → j < w16.drew.heap.size := HSW.out.pool.lt
        have hSw : ∀ j, S j → j < w.heap.size := HS.out.pool.lt
        have HSW2 := Lib.hid hSw
        have hgl := HS.out.blk.lt
        have HOUT := Lib.hid HS.out.out
        clear hSw
        have HPL0 := Lib.hid (Pl.none HSW.out.pool HSW.out.ok)
        obtain ⟨W0, hW0⟩ : ∃ W0 : World, W0 = { w16.drew with heap := #[] } := ⟨_, rfl⟩
        rw [← hW0] at HPL0
        have hw0 : W0.heap.size ≤ w16.drew.heap.size := by rw [hW0]; exact Nat.zero_le _
        clear hW0
        have HAl := Lib.hid (fun wr (h : Pl W0 wr S g p) => Alloc_pl h HAL.out)
        simp only at HAl
        have HI0 := Lib.hid (AInv.start (p' := p1) (cs := hc ⟨(L.r : Int), (gn : Int), (o : Int), (node.length : Int)⟩) HPL0.out)
        refine region_ghost (Le := ALe W0 w16.drew S g p p1 (hc ⟨(L.r : Int), (gn : Int), (o : Int), (node.length : Int)⟩)) PreI ALe.refl ALe.trans AG.none PreI.start _ [IsG ?r0x1, IsG ?r1x1, IsG ?r2x1, IsG (.pointer (some ⟨g, 0, none⟩)), IsG ?r4x1, IsG ?r5x1, IsG ?r6x1, IsG (.int .i64 (L.r : Int)), IsG (.slice ad16 node.length c16), IsG (.int .i64 (node.length : Int)), DoneG (.tuple #[.agg #[.int .i64 (L.r : Int), .int .i64 (gn : Int), .int .i64 (o : Int), .int .i64 (node.length : Int)], .int .i64 0]), IsG (.tuple #[.agg #[.int .i64 (L.r : Int), .int .i64 (gn : Int), .int .i64 (o : Int), .int .i64 (node.length : Int)], .int .i64 0]), IsG (.agg #[.int .i64 (L.r : Int), .int .i64 (gn : Int), .int .i64 (o : Int), .int .i64 (node.length : Int)]), IsG (.int .i64 0), HasG, StG, IsG (.int .i64 0)] (by kernel_rfl) (by kernel_rfl) (by kernel_rfl) rfl rfl ⟨IsG.stable _, IsG.stable _, IsG.stable _, IsG.stable _, IsG.stable _, IsG.stable _, IsG.stable _, IsG.stable _, IsG.stable _, IsG.stable _, DoneG.stable _, IsG.stable _, IsG.stable _, IsG.stable _, HasG.stable, StG.stable, IsG.stable _, trivial⟩ ⟨?s0x1, ?s1x1, ?s2x1, ?s3x1, ?s4x1, ?s5x1, ?s6x1, ?s7x1, ?s8x1, ?s9x1, ?s10x1, ?s11x1, ?s12x1, ?s13x1, ?s14x1, ?s15x1, ?s16x1, trivial⟩ ?finx1
        case' s0x1 | s1x1 | s2x1 | s3x1 | s4x1 | s5x1 | s6x1 | s7x1 | s8x1 | s9x1 | s11x1 | s12x1 | s13x1 | s16x1 =>
          intro ρ wr gh hρ hg hK
          simp [readsOf, slotsOf, Op.operands, Call.operands, tmpOf, List.filterMap_cons, List.filterMap_nil, KnownAll, knownOf, srcOf, depsOf, dstOf, Region.binds, nthG, IsG, IsS] at hK
          obtain ⟨hc, hf, hgl⟩ := hρ
          try simp only [wantedBy, dstOf, boolOf, nthG, List.getD_cons_zero, List.getD_cons_succ, List.getElem?_cons_zero, List.getElem?_cons_succ, Option.bind_some, if_true, hK, BEq.rfl]
          try go_simp
          first | exact rfl | exact pureG ALe.refl rfl | (refine pureG ALe.refl ?_; go_simp; done) | (refine pureG ALe.refl ?_; rfl) | (rw [if_pos (by omega)]; exact pureG ALe.refl rfl) | (rw [dif_pos (by omega)]; exact pureG ALe.refl rfl) | exact pureG ALe.refl (congrArg (Value.int _) (IntWalk.i64_in _ ⟨by omega, by omega⟩)) | skip
        case' s10x1 | s14x1 | s15x1 =>
          intro ρ wr gh hρ hg hK
          simp [readsOf, slotsOf, Op.operands, Call.operands, tmpOf, List.filterMap_cons, List.filterMap_nil, KnownAll, knownOf, srcOf, depsOf, dstOf, Region.binds, nthG, IsG, IsS] at hK
          obtain ⟨hc, hf, hgl⟩ := hρ
          try simp only [wantedBy, dstOf, boolOf, nthG, List.getD_cons_zero, List.getD_cons_succ, List.getElem?_cons_zero, List.getElem?_cons_succ, Option.bind_some, if_true, hK, BEq.rfl]
        case s3x1 | s7x1 =>
          have HI := hg.1.2 HI0.out
          obtain ⟨x0, x1, x2⟩ := lst_heads HSW.out.blk
          have hgl2 := HSW.out.blk.lt
          have z0 := HI.chg.cell x0 (by rintro (e | e); exact HOUT.out e; omega)
          have z1 := HI.chg.cell x1 (by rintro (e | e); exact HOUT.out e; omega)
          first
            | (rw [z0]; exact pureG ALe.refl rfl)
            | (rw [z1]; exact pureG ALe.refl rfl)
        case s11x1 =>
          rw [hK.1]
          exact pureG ALe.refl rfl
        case s10x1 =>
          have HI := hg.1.2 HI0.out
          have hd : gh.done = false := (hg.2 10 (by kernel_rfl)).1 rfl
          have hP : Pl W0 wr S g p := by have := HI.pool; rw [if_neg (by rw [hd]; decide)] at this; exact this
          have HPh := Lib.hid hP; have HD := Lib.hid hd
          clear HI hP hd
          go_simp
          refine growG_enter ((HAl.out wr HPh.out).mono fun e w'' ⟨he, S', m, P'⟩ => ⟨_, { gh with done := true }, he, ⟨⟨⟨fun _ => rfl, fun _ h => h, fun h => h⟩, fun h => h.call HD.out hS m P'⟩, PreI.step (fun h => absurd rfl h) (fun _ h => h) (fun _ h => h)⟩, rfl, rfl⟩)
        case s14x1 =>
          have hb : gh.b = none := (hg.2 14 (by kernel_rfl)).2.1 rfl
          have HD := Lib.hid hb
          clear hb
          go_simp
          exact growG_value _ _ _ _ _ { gh with b := some wr.heap.size } ⟨⟨⟨fun h => h, fun b e => (by rw [HD.out] at e; cases e), fun h => h⟩, fun h => h.new HD.out⟩, PreI.step (fun _ h => h) (fun h => absurd rfl h) (fun _ h => h)⟩ ⟨_, rfl, rfl⟩
        case s15x1 =>
          obtain ⟨⟨b, eb, hb⟩, e64⟩ := hK
          have HI := hg.1.2 HI0.out
          have hst : gh.st = false := (hg.2 15 (by kernel_rfl)).2.2 rfl
          obtain ⟨hN, hB⟩ := HI.blk b hb
          rw [if_neg (by show ¬ gh.st = true; rw [hst]; decide)] at hB
          obtain ⟨c0, c1, c2, c3, f0, f1, f2, f3⟩ := Blk.four (a := .int .i64 0) (b := .int .i64 0) (c := .int .i64 0) (d := .int .i64 0) hB
          have HIh := Lib.hid HI; have HBb := Lib.hid hb; have HBk := Lib.hid hB
          clear HI hb hst hB
          go_simp
          have kk := grown_set4b wr b 0 (.int .i64 (L.r : Int)) (.int .i64 (gn : Int)) (.int .i64 (o : Int)) (.int .i64 (node.length : Int))
          have hB2 : Blk ((((wr.setCell ⟨b, 0, none⟩ (.int .i64 (L.r : Int))).setCell ⟨b, 0 + 1, none⟩ (.int .i64 (gn : Int))).setCell ⟨b, 0 + 2, none⟩ (.int .i64 (o : Int))).setCell ⟨b, 0 + 3, none⟩ (.int .i64 (node.length : Int))) b 93 (Go.Proofs.Ytnafhjgfkofkbaa.hc ⟨(L.r : Int), (gn : Int), (o : Int), (node.length : Int)⟩) := (((HBk.out.set_ 0 _).set_ 1 _).set_ 2 _).set_ 3 _
          exact growG_skip { gh with st := true } ⟨⟨⟨fun h => h, fun _ h => h, fun _ => rfl⟩, fun h => h.store hS hw0 HBb.out kk hB2⟩, PreI.step (fun _ h => h) (fun _ h => h) (fun h => absurd rfl h)⟩ rfl
        case finx1 =>
          intro w1 g1 val hg hH
          simp only [HoldsG, IsG, IsS, Nat.zero_add, Nat.reduceAdd] at hH
          obtain ⟨h0, h1, h2, h3, h4, h5, h6, h7, h8, h9, h10, h11, h12, h13, h14, h15, h16, _⟩ := hH
          simp only [List.take_succ_cons, List.take_zero, List.drop_succ_cons, List.drop_zero, putAll, h0, h1, h2, h3, h4, h5, h6, h7, h8, h9, h11, h12, h13, h16, Nat.zero_add, Nat.reduceAdd]
          have HI := hg.2 HI0.out
          obtain ⟨e10, hd⟩ := h10
          obtain ⟨b, e14, hb⟩ := h14
          have hst : g1.st = true := h15
          simp only [e10, e14]
          have hpl := HI.pool
          rw [if_pos hd] at hpl
          obtain ⟨S', P', hS'⟩ := hpl
          obtain ⟨hNb, hBk⟩ := HI.blk b hb
          rw [if_pos (show (w1, g1).2.st = true from hst)] at hBk
          have hPA := P'.drop hBk
          have hb2 : ∀ j, (S' j ∧ j ≠ b) → S j ∨ w16.drew.heap.size ≤ j := fun j hj => hS' j hj.1
          have hgl2 := HSW.out.blk.lt
          have hIW : IW w S (fun j => S' j ∧ j ≠ b) g gl w3.heap.size w.heap.size b R [.string (str key), .int .i64 (seq : Int), .int .i64 (kind : Int), .string (str vl)] [.int .i64 (L.r : Int), .int .i64 (gn : Int), .int .i64 (o : Int), .int .i64 (node.length : Int)] p1 L w1 := by
            have hdr : w16.drew.heap.size = w16.heap.size := rfl
            have hgw := GW.out.size
            have hp16 := P16.out.lt
            have hb16 := B16.out.lt
            have nin : ∀ j, w.heap.size ≤ j → j < w16.heap.size → ¬ (S j ∨ w16.drew.heap.size ≤ j) := fun j h1 h2 e => by
              rcases e with e | e
              · have := HSW2.out j e; omega
              · omega
            have nin2 : ∀ j, w.heap.size ≤ j → j < w16.heap.size → ¬ (S' j ∧ j ≠ b) := fun j h1 h2 e => nin j h1 h2 (hb2 j e)
            have ngl : ¬ (S' gl ∧ gl ≠ b) := fun e => by
              rcases hb2 gl e with e | e
              · exact HOUT.out e
              · omega
            refine ⟨⟨hPA.pool, HOK1.out, HI.chg.blk HSW.out.blk (by rintro (e | e); exact HOUT.out e; omega), ngl⟩, (GW.out.trans (Gr.drew w16)).chg.trans HI.chg (fun j hj => ?_), HI.chg.blk P16.out (nin _ hw3 hp16), HI.chg.blk B16.out (nin _ (Nat.le_refl _) hb16), hBk, ⟨nin2 _ hw3 hp16, by omega⟩, ⟨nin2 _ (Nat.le_refl _) hb16, by omega⟩, ⟨fun e => e.2 rfl, by omega⟩, fun j hj => ?_⟩
            · rcases hj with hj | hj
              · exact .inl (.inl hj)
              · exact .inr (by omega)
            · rcases hb2 j hj with h | h
              · exact .inl h
              · exact .inr (by omega)
          have hob : Owns w1 w7.heap.size 5 1 ad16 c16 node.length (bv node) := HI.chg.owns (O16.out.gr (Gr.drew w16)) (fun x hx e => by
            have h1 := O16.out.lt x hx
            rcases e with e | e
            · have := HSW2.out _ e; omega
            · have : w16.drew.heap.size = w16.heap.size := rfl; omega)
          have hS2 : ∀ x, ad16 = some x → ¬ (S' x.block ∧ x.block ≠ b) ∧ x.block ≠ gl := fun x hx => by
            have h1 := O16.out.lt x hx
            refine ⟨fun e => ?_, by omega⟩
            rcases hb2 _ e with e | e
            · have := HSW2.out _ e; omega
            · have : w16.drew.heap.size = w16.heap.size := rfl; omega
          generalize (fun j => S' j ∧ j ≠ b) = S2 at hIW hS2
          have HIW := Lib.hid hIW
          have HOB := Lib.hid hob
          have HS2 := Lib.hid hS2
          obtain ⟨d0, d1, d2, d3, _⟩ := hIW.han.four
          obtain ⟨y0, y1, y2⟩ := lst_heads hIW.sk.blk
          have yf := hIW.sk.blk.frozen 2
          clear hPA hb2 hgl2 hIW hob hS2 HI P' hS' hNb hBk HI0 HPL0 HAl HSW O16 GW B16 P16 hst hb hd hg e10 e14 h15
          go_simp
          go_wp2
          obtain ⟨sk2, ch2⟩ := HIW.out.sk.setCell 2 (.int .i64 (gn : Int)) (lstV_gen g L gn)
          have hI2 := HIW.out.step sk2 (ch2.mono (fun j hj => .inr hj))
          have hO2 := ch2.owns HOB.out (fun x hx => (HS2.out x hx).2)
          clear d0 d1 d2 d3 y0 y1 y2 yf sk2 ch2
          generalize (w1.setCell ⟨gl, 2, none⟩ (.int .i64 (gn : Int))) = W2 at *
          have HI2 := Lib.hid hI2
          have HO2 := Lib.hid hO2
          have HSt := Lib.hid (fun w' (hg : Gr W2 w') => Store_any w' S2 g p1 ⟨(L.r : Int), (gn : Int), (o : Int), (node.length : Int)⟩ 0 ad16 node.length c16 node (hI2.sk.gr hg).pool HOK1.out (hO2.gr hg).bytes rfl (by omega))
          have hsto := HSTO.out
          rw [hsto] at HSt
          unfold hdv at HSt
          simp only at HSt
          clear hI2 hO2 hsto HIW HOB
          refine region_tail_gr 6 _ [Is ?r0x2, Is ?r1x2, Is ?r2x2, Is (.pointer (some ⟨g, 0, none⟩)), Is (.agg #[.int .i64 (L.r : Int), .int .i64 (gn : Int), .int .i64 (o : Int), .int .i64 (node.length : Int)]), Is (.slice ad16 node.length c16)] (by kernel_rfl) (by kernel_rfl) (by kernel_rfl) (by kernel_rfl) rfl rfl ⟨Is.stable _, Is.stable _, Is.stable _, Is.stable _, Is.stable _, Is.stable _, trivial⟩ ⟨?s0x2, ?s1x2, ?s2x2, ?s3x2, ?s4x2, ?s5x2, trivial⟩ ?finx2
          case' s0x2 | s1x2 | s2x2 | s3x2 | s4x2 | s5x2 =>
            intro ρ wr hρ hg hK
            simp [readsOf, slotsOf, Op.operands, Call.operands, tmpOf, List.filterMap_cons, List.filterMap_nil, KnownAll, knownOf, srcOf, depsOf, dstOf, Region.binds, nth, Is] at hK
            obtain ⟨hc, hf, hgl⟩ := hρ
            try simp only [wantedBy, dstOf, boolOf, nth, List.getD_cons_zero, List.getD_cons_succ, List.getElem?_cons_zero, List.getElem?_cons_succ, Option.bind_some, if_true, hK, BEq.rfl]
            try go_simp
            first | exact rfl | (rw [if_pos (by omega)]; exact is_here rfl) | (rw [dif_pos (by omega)]; exact is_here rfl) | exact congrArg (Value.int _) (IntWalk.i64_in _ ⟨by omega, by omega⟩) | skip
          case s3x2 =>
            obtain ⟨c0, _, _⟩ := lst_heads (HI2.out.sk.gr hg).blk
            go_simp
            exact rfl
          case s4x2 =>
            obtain ⟨d0, d1, d2, d3, _⟩ := (HI2.out.gr hg).han.four
            go_simp
            exact rfl
          case finx2 =>
            intro w1 val hg hH
            simp only [Holds, Is, Nat.zero_add, Nat.reduceAdd] at hH
            obtain ⟨h0, h1, h2, h3, h4, h5, _⟩ := hH
            simp only [List.take_succ_cons, List.take_zero, List.drop_succ_cons, List.drop_zero, putAll, h0, h1, h2, h3, h4, h5, Nat.zero_add, Nat.reduceAdd]
            have HI3 := Lib.hid (HI2.out.gr hg)
            have HSt3 := Lib.hid (HSt.out _ hg)
            clear HSt HI2 HO2 hg
            go_simp
            go_wp2_with (first
              | (go_at_call 48; go_must (refine HSt3.out.mono ?_); rintro e w5 ⟨rfl, m5⟩
                 have HI5 := Lib.hid (HI3.out.step (p' := p2) (L' := { L with gen := gn }) ⟨m5.pool, HOK2.out, m5.chg.blk HI3.out.sk.blk HI3.out.sk.out, HI3.out.sk.out⟩ (m5.chg.mono (fun j hj => .inl hj)))
                 clear HI3 HSt3 m5)
              | fail)
            clear h0 h1 h2 h3 h4 h5
            go_loopw [147] (fun v wr => ∃ (j : Nat) (q : PoolF) (hd : Nat → Nat × Nat), j ≤ t ∧ v = .int .i64 (j : Int) ∧ IW w S S2 g gl w3.heap.size w.heap.size b R [.string (str key), .int .i64 (seq : Int), .int .i64 (kind : Int), .string (str vl)] [.int .i64 (L.r : Int), .int .i64 (gn : Int), .int .i64 (o : Int), .int .i64 (node.length : Int)] q { L with gen := gn, hd := hd } wr ∧
              SkSt q L.r gn hd (A ++ ⟨o, node.length, j, t, ⟨key, seq, kind, vl⟩⟩ :: B) ∧ Kp L.r p q ∧ countF p ≤ countF q + 1) (fun v _ => t - (intOf v).toNat)
            case atStart => exact ⟨0, p2, L.hd, Nat.zero_le _, rfl, HI5.out, HST2.out, HKP2.out, HCF2.out⟩
            case round =>
              clear HI5 HST2 HKP2 HCF2 HOK2
              obtain ⟨j, q, hd, hj, rfl, hI, hst, hkp, hcf⟩ := hrel
              by_cases hjt : j < t
              · have hj12 : j < 12 := by omega
                have HPUT := Lib.hid (fun w' (hg : Gr wr w') => put_any w' S2 g gl q { L with gen := gn, hd := hd } A B ⟨o, node.length, j, t, ⟨key, seq, kind, vl⟩⟩ (hI.gr hg).sk hst hjt (fun y hy => HFU.out y (List.mem_append_left _ hy)))
                have hlk : linkF (lastN j A) = R j := by rw [HR.out]
                simp only [hlk] at HPUT
                have HI := Lib.hid hI; have HSTJ := Lib.hid hst; have HKP := Lib.hid hkp; have HCF := Lib.hid hcf
                obtain ⟨r0, r1⟩ := rowV_get R 12 j hj12
                have R0 := Lib.hid r0; have R1 := Lib.hid r1
                clear hI hst hkp hcf hlk r0 r1
                unfold lnk at HPUT
                simp only at HPUT
                go_wp2
                refine region_tail_gr 10 _ [Is ?r0x3, Is (.int .i64 (j : Int)), Is (.pointer (some ⟨w3.heap.size, j * 2, none⟩)), Is (.agg #[.int .i64 ((R j).1 : Int), .int .i64 ((R j).2 : Int)]), Is (.int .i64 (j : Int)), Is ?r5x3, Is (.int .i64 (o : Int)), Is ?r7x3, Is (.int .i64 (node.length : Int)), Is (.agg #[.int .i64 (o : Int), .int .i64 (node.length : Int)])] (by kernel_rfl) (by kernel_rfl) (by kernel_rfl) (by kernel_rfl) rfl rfl ⟨Is.stable _, Is.stable _, Is.stable _, Is.stable _, Is.stable _, Is.stable _, Is.stable _, Is.stable _, Is.stable _, Is.stable _, trivial⟩ ⟨?s0x3, ?s1x3, ?s2x3, ?s3x3, ?s4x3, ?s5x3, ?s6x3, ?s7x3, ?s8x3, ?s9x3, trivial⟩ ?finx3
                case' s0x3 | s1x3 | s2x3 | s3x3 | s4x3 | s5x3 | s6x3 | s7x3 | s8x3 | s9x3 =>
                  intro ρ wr hρ hg hK
                  simp [readsOf, slotsOf, Op.operands, Call.operands, tmpOf, List.filterMap_cons, List.filterMap_nil, KnownAll, knownOf, srcOf, depsOf, dstOf, Region.binds, nth, Is] at hK
                  obtain ⟨hc, hf, hgl⟩ := hρ
                  try simp only [wantedBy, dstOf, boolOf, nth, List.getD_cons_zero, List.getD_cons_succ, List.getElem?_cons_zero, List.getElem?_cons_succ, Option.bind_some, if_true, hK, BEq.rfl]
                  try go_simp
                  first | exact rfl | (rw [if_pos (by omega)]; exact is_here rfl) | (rw [dif_pos (by omega)]; exact is_here rfl) | exact congrArg (Value.int _) (IntWalk.i64_in _ ⟨by omega, by omega⟩) | skip
                case s3x3 =>
                  have c0 := (HI.out.gr hg).path.cell R0.out
                  have c1 := (HI.out.gr hg).path.cell R1.out
                  go_simp
                  exact rfl
                case s6x3 | s8x3 =>
                  obtain ⟨d0, d1, d2, d3, _⟩ := (HI.out.gr hg).han.four
                  go_simp
                  exact rfl
                case finx3 =>
                  intro w1 val hg hH
                  simp only [Holds, Is, Nat.zero_add, Nat.reduceAdd] at hH
                  obtain ⟨h0, h1, h2, h3, h4, h5, h6, h7, h8, h9, _⟩ := hH
                  simp only [List.take_succ_cons, List.take_zero, List.drop_succ_cons, List.drop_zero, putAll, h0, h1, h2, h3, h4, h5, h6, h7, h8, h9, Nat.zero_add, Nat.reduceAdd]
                  have HP := Lib.hid (HPUT.out _ hg)
                  have HI6 := Lib.hid (HI.out.gr hg)
                  clear hg HPUT HI h0 h1 h2 h3 h4 h5 h6 h7 h8 h9
                  go_simp
                  go_wp2_with (first
                    | (go_at_call 49; go_must (refine HP.out.mono ?_); rintro e w7 ⟨rfl, p', hd', sk', st', kp', cf', ch'⟩
                       have HI7 := Lib.hid (HI6.out.step sk' ch')
                       have HST7 := Lib.hid st'; have HKP7 := Lib.hid kp'; have HCF7 := Lib.hid cf'
                       clear sk' ch' st' kp' cf' HP HI6)
                    | fail)
                  refine ⟨?rel, ?measure⟩
                  case rel => exact ⟨j + 1, p', hd', hjt, by go_num, HI7.out, HST7.out, HKP.out.trans HKP7.out, by have := HCF.out; have := HCF7.out; omega⟩
                  case measure => simp [intOf]; omega
              · have hjt2 : j = t := by omega
                rw [hjt2] at hst
                have HI := Lib.hid hI; have HSTJ := Lib.hid hst; have HKP := Lib.hid hkp; have HCF := Lib.hid hcf
                obtain ⟨y27, y28, _, _⟩ := lst_tail hI.sk.blk
                have f27 := hI.sk.blk.frozen 27
                have f28 := hI.sk.blk.frozen 28
                have hcI : (L.cnt : Int) ≤ 1000000 := by omega
                have hwI : (L.wt : Int) ≤ 1000000000 := by omega
                clear hI hst hkp hcf hjt2 hj
                simp only at y27 y28
                go_wp2
                obtain ⟨sk8, ch8⟩ := HI.out.sk.setCell 27 (.int .i64 ((L.cnt + 1 : Nat) : Int)) (lstV_cnt g _ (L.cnt + 1))
                have hI8 := HI.out.step sk8 (ch8.mono (fun j hj => .inr hj))
                have hc1 : ((L.cnt + 1 : Nat) : Int) = (L.cnt : Int) + 1 := by omega
                rw [hc1] at hI8
                clear sk8 ch8 y27 y28 f27 f28 hc1
                generalize (wr.setCell ⟨gl, 27, none⟩ (.int .i64 ((L.cnt : Int) + 1))) = W8 at *
                have HI8 := Lib.hid hI8
                have HWT := Lib.hid (show ((L.wt + (key.length + vl.length + 8) : Nat) : Int) = (L.wt : Int) + ((key.length : Int) + (vl.length : Int) + 8) by omega)
                have hk64 := HK.out
                clear hI8
                refine region_tail_gr 16 _ [Is ?r0x4, Is ?r1x4, Is ?r2x4, Is (.int .i64 (L.wt : Int)), Is ?r4x4, Is ?r5x4, Is (.string (str key)), Is (.int .i64 (key.length : Int)), Is ?r8x4, Is (.string (str vl)), Is (.int .i64 (vl.length : Int)), Is (.int .i64 ((key.length : Int) + (vl.length : Int))), Is (.int .i64 ((key.length : Int) + (vl.length : Int) + 8)), Is (.int .i64 ((L.wt : Int) + ((key.length : Int) + (vl.length : Int) + 8))), Is ?r14x4, Is (.pointer (some ⟨gl, 28, none⟩))] (by kernel_rfl) (by kernel_rfl) (by kernel_rfl) (by kernel_rfl) rfl rfl ⟨Is.stable _, Is.stable _, Is.stable _, Is.stable _, Is.stable _, Is.stable _, Is.stable _, Is.stable _, Is.stable _, Is.stable _, Is.stable _, Is.stable _, Is.stable _, Is.stable _, Is.stable _, Is.stable _, trivial⟩ ⟨?s0x4, ?s1x4, ?s2x4, ?s3x4, ?s4x4, ?s5x4, ?s6x4, ?s7x4, ?s8x4, ?s9x4, ?s10x4, ?s11x4, ?s12x4, ?s13x4, ?s14x4, ?s15x4, trivial⟩ ?finx4
                case' s0x4 | s1x4 | s2x4 | s3x4 | s4x4 | s5x4 | s6x4 | s7x4 | s8x4 | s9x4 | s10x4 | s11x4 | s12x4 | s13x4 | s14x4 | s15x4 =>
                  intro ρ wr hρ hg hK
                  simp [readsOf, slotsOf, Op.operands, Call.operands, tmpOf, List.filterMap_cons, List.filterMap_nil, KnownAll, knownOf, srcOf, depsOf, dstOf, Region.binds, nth, Is] at hK
                  obtain ⟨hc, hf, hgl⟩ := hρ
                  try simp only [wantedBy, dstOf, boolOf, nth, List.getD_cons_zero, List.getD_cons_succ, List.getElem?_cons_zero, List.getElem?_cons_succ, Option.bind_some, if_true, hK, BEq.rfl]
                  try go_simp
                  first | exact rfl | (rw [if_pos (by omega)]; exact is_here rfl) | (rw [dif_pos (by omega)]; exact is_here rfl) | exact congrArg (Value.int _) (IntWalk.i64_in _ ⟨by omega, by omega⟩) | skip
                case s3x4 =>
                  obtain ⟨_, y28, _, _⟩ := lst_tail (HI8.out.gr hg).sk.blk
                  simp only at y28
                  go_simp
                  exact rfl
                case s6x4 =>
                  obtain ⟨c0, c1, c2, c3, _⟩ := (HI8.out.gr hg).box.four
                  go_simp
                  exact rfl
                case s9x4 =>
                  obtain ⟨c0, c1, c2, c3, _⟩ := (HI8.out.gr hg).box.four
                  go_simp
                  exact rfl
                case finx4 =>
                  intro w1 val hg hH
                  simp only [Holds, Is, Nat.zero_add, Nat.reduceAdd] at hH
                  obtain ⟨h0, h1, h2, h3, h4, h5, h6, h7, h8, h9, h10, h11, h12, h13, h14, h15, _⟩ := hH
                  simp only [List.take_succ_cons, List.take_zero, List.drop_succ_cons, List.drop_zero, putAll, h0, h1, h2, h3, h4, h5, h6, h7, h8, h9, h10, h11, h12, h13, h14, h15, Nat.zero_add, Nat.reduceAdd]
                  have HI9 := Lib.hid (HI8.out.gr hg)
                  obtain ⟨_, y28, _, _⟩ := lst_tail HI9.out.sk.blk
                  have f28 := HI9.out.sk.blk.frozen 28
                  simp only at y28
                  clear HI8 HI hg h0 h1 h2 h3 h4 h5 h6 h7 h8 h9 h10 h11 h12 h13 h14 h15
                  go_simp
                  go_wp2
                  go_ret
                  obtain ⟨sk9, ch9⟩ := HI9.out.sk.setCell 28 (.int .i64 ((L.wt + (key.length + vl.length + 8) : Nat) : Int)) (lstV_wt g _ (L.wt + (key.length + vl.length + 8)))
                  have hI10 := HI9.out.step sk9 (ch9.mono (fun j hj => .inr hj))
                  rw [HWT.out] at hI10
                  refine ⟨rfl, q, S2, hd, ?_, ⟨o, by rw [← HNB.out]; exact HSTJ.out⟩, HKP.out, HCF.out, hI10.chg, hI10.sub⟩
                  have := hI10.sk
                  simp only [hfz, hfd] at this
                  exact this
end Go.Proofs.Ytnafhjgfkofkbaa
