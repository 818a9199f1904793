/- Layer 11 (skip): what may be inserted; a link's bytes; a link is put. -/
import Derived.Test.YtpaogoehgkoaeaaGreatDoorQBunB2
import Derived.Test.YtpaogoehgkoaeaaGreatDoorQBunB3
import Derived.Test.YtpaogoehgkoaeaaGreatDoorQBunS0
import Derived.Test.YtpaogoehgkoaeaaGreatDoorQBunB1
import Derived.Test.YtpaogoehgkoaeaaGreatDoorQBunB4
import Derived.Test.YtpaogoehgkoaeaaGreatDoorQBunB0
import Derived.Deep.MidRow
import Derived.Deep.LoopGhost
/- Layer 1 (region): New walked. -/
namespace Go.Proofs.YtpaogoehgkoaeaaGreatDoor
set_option linter.unusedVariables false
set_option linter.unusedSimpArgs false
open Go.RowKit
theorem pool_built (s : Int) (ad : Option Addr) (n c : Nat) : Tryz.prog.built 119 [(0, .int .i64 s), (2, .slice ad n c)] = some ([Value.int .i64 s, .slice none 0 0, .slice ad n c] ++ flat (fun _ => landV noLand none 0) 256).toArray := by kernel_rfl
def poolN (s : Int) (s1 s2 : Value) : List Value := [.int .i64 s, s1, s2] ++ flat (fun _ => landV noLand none 0) 256
theorem wp_pool {w : World} {ops : Array Oper} {rest : List Oper} {o : Oper} {a : Act} {Q : Exit → Act → World → Prop} (hg : o.guard = none) (x y : Operand) (ho : o.op = .build 119 #[(0, x), (2, y)]) {s : Int} {ad : Option Addr} {n c : Nat} (hx : a.eval x = .int .i64 s) (hy : a.eval y = .slice ad n c)
    (h : wpList Tryz.prog ops Q rest (a.put o.dst (.agg (poolN s (.slice none 0 0) (.slice ad n c)).toArray)) w) : wpList Tryz.prog ops Q (o :: rest) a w := by
  have hb : Tryz.prog.built 119 ((#[(0, x), (2, y)] : Array (Nat × Operand)).map fun (i, x) => (i, a.eval x)).toList = some (poolN s (.slice none 0 0) (.slice ad n c)).toArray := by
    simp only [List.map_toArray, List.map_cons, List.map_nil, hx, hy]
    exact pool_built s ad n c
  refine wpList_build hg 119 #[(0, x), (2, y)] ho (by rw [hb]; rfl) ?_
  rw [hb]
  exact h
/-- a slab of noughts, in block N -/
def NewAt (N a : Nat) : Value → World → Prop := fun v w => v = .slice (some ⟨N, 0, none⟩) a a ∧ Blk w N 5 (bv (List.replicate a 0))
theorem NewAt.dstable {row : Option Nat} {A B : Option Obj} {g : Nat} {Good : World → Prop} {N a : Nat} (hg : g < N) (hr : ∀ r, row = some r → r < N) : Stable (Duo row A B g Good) (NewAt N a) := by
  rintro v w1 w2 ⟨e, h⟩ d
  exact ⟨e, (d.block N h.lt (fun e => by have := hr N e.symm; omega) (by omega)).trans h⟩
def NPre (N g : Nat) (cs : List Value) : Nat → World → Prop := fun s w => if s = 6 then w.heap.size = N else if s = 11 then Blk w g 119 cs else True
theorem NPre.six {N g : Nat} {cs : List Value} {w : World} : NPre N g cs 6 w ↔ w.heap.size = N := by simp [NPre]
theorem NPre.eleven {N g : Nat} {cs : List Value} {w : World} : NPre N g cs 11 w ↔ Blk w g 119 cs := by simp [NPre]
theorem NPre.step {N g : Nat} {cs : List Value} {w w' : World} {i : Nat} (h6 : i ≠ 6 → w.heap.size = N → w'.heap.size = N) (h11 : i ≠ 11 → Blk w g 119 cs → Blk w' g 119 cs) : ∀ s, s ≠ i → NPre N g cs s w → NPre N g cs s w' := by
  intro s hs h
  by_cases e6 : s = 6
  · subst e6; rw [NPre.six] at h ⊢; exact h6 (fun e => hs e.symm) h
  · by_cases e11 : s = 11
    · subst e11; rw [NPre.eleven] at h ⊢; exact h11 (fun e => hs e.symm) h
    · simp [NPre, e6, e11]
theorem make_slab (w : World) (a : Nat) (h : a ≤ 65536) (kl kc : IntKind) : ∃ w', (Instr.makeSlice 31 (.int kl (a : Int)) (.int kc (a : Int))).run Tryz.prog w = .ok (.slice (some ⟨w.heap.size, 0, none⟩) a a) w' ∧ Gr w w' ∧ Blk w' w.heap.size 5 (bv (List.replicate a 0)) := by
  obtain ⟨ht, hinfo, hzs, hpos⟩ := elemB
  obtain ⟨i, hi, hz, hsize, hby⟩ := info_parts hinfo
  have hb' : (i.bytes : Int) * (a : Int) ≤ 281474976710656 := by rw [hby]; omega
  have hr := run_make (P := Tryz.prog) w 31 5 i (.int .u8 0) ht hi hz kl kc a a (by omega) (by omega) hb' (by omega)
  simp only [Int.toNat_natCast] at hr
  refine ⟨_, hr, Gr.alloc _ _, ?_⟩
  have e : (madeCells (Value.int .u8 0).cells (a * i.size)).toList = bv (List.replicate a 0) := by
    rw [hsize, Nat.mul_one, ← bv_replicate, show (Value.int .u8 0).cells = #[Value.int .u8 0] from rfl, toList_madeCells_one]
  rw [← e]
  exact Blk.new w 5 _
/-- while slabs are made -/
structure NW (w wr : World) (g bt a n i : Nat) (ads : Option Addr) (cs : Nat) (bd : Nat → Nat) : Prop where
  gr : Gr w wr
  hg : w.heap.size ≤ g
  blk : Blk wr g 119 (poolN (a : Int) (.slice ads i cs) (.slice (some ⟨bt, 0, none⟩) n n))
  row : Owns wr w.heap.size 31 1 ads cs i (slabV bd a i)
  slab : ∀ j, j < i → Blk wr (bd j) 5 (bv (List.replicate a 0)) ∧ w.heap.size ≤ bd j
  inj : ∀ j k, j < i → k < i → bd j = bd k → j = k
  tak : Owns wr w.heap.size 4 1 (some ⟨bt, 0, none⟩) n n (List.replicate n (.bool false))
set_option maxRecDepth 100000 in
set_option maxHeartbeats 4000000 in
theorem New_good (w : World) (a n : Nat) (h1 : 64 ≤ a) (h2 : a ≤ 65536) (h3 : a % 8 = 0) (h4 : 1 ≤ n) (h5 : n ≤ 4096) (h6 : a * n ≤ 4194304) :
    Calls Tryz.prog 15 #[.int .i64 (a : Int), .int .i64 (n : Int)] w fun e w' => ∃ g S, e = .returned (.tuple #[.pointer (some ⟨g, 0, none⟩), .int .i64 0]) ∧ Gr w w' ∧ PoolAt w' S g (newF a n) ∧ ∀ j, S j → w.heap.size ≤ j := by
  have hmt : (a : Int).tmod 8 = 0 := by show ((a % 8 : Nat) : Int) = 0; rw [h3]; rfl
  obtain ⟨q, hq⟩ : ∃ q, q = a * n := ⟨_, rfl⟩
  have hqi : (a : Int) * (n : Int) = (q : Int) := by rw [hq]; simp
  have hql : q ≤ 4194304 := by rw [hq]; exact h6
  have hqw : IntKind.i64.wrap (q : Int) = (q : Int) := by rw [IntKind.wrap_i64]; omega
  have m1 : n ≤ maxLen := by unfold maxLen; omega
  have m2 : 1 * n ≤ 281474976710656 := by omega
  clear hq h6 h3
  go_enter Tryz.func15, Tryz.ntmps15
  go_wp2_with (first
    | (at_make; go_must (refine wp_make elemBool rfl rfl _ _ rfl n n rfl rfl rfl rfl (Nat.le_refl _) m1 m2 ?_); intro w1 o1 g1 z1)
    | ((with_reducible show Go.wpList _ _ _ (Oper.mk _ (Op.build _ _) _ _ _ _ :: _) _ _); go_must (refine wp_pool rfl _ _ rfl rfl rfl ?_))
    | fail)
  have hNW : NW w (w1.alloc (.cells (poolN (a : Int) (.slice none 0 0) (.slice (some ⟨w.heap.size, 0, none⟩) n n)).toArray 119)) (w.heap.size + 1) w.heap.size a n 0 none 0 (fun _ => 0) := by
    have hb := Blk.new w1 119 (poolN (a : Int) (.slice none 0 0) (.slice (some ⟨w.heap.size, 0, none⟩) n n)).toArray
    rw [z1] at hb
    exact ⟨g1.trans (Gr.alloc _ _), by omega, hb, Owns.empty _ _ _ _, fun j hj => by omega, fun j k hj => by omega, o1.gr (Gr.alloc _ _)⟩
  have HN := Lib.hid hNW
  have hgb : w.heap.size ≤ w.heap.size + 1 := by omega
  clear hNW o1 g1 z1
  generalize w.heap.size + 1 = g at *
  generalize (w1.alloc (.cells (poolN (a : Int) (.slice none 0 0) (.slice (some ⟨w.heap.size, 0, none⟩) n n)).toArray 119)) = W1 at *
  go_loopw [38] (fun v wr => ∃ (i : Nat) (ads : Option Addr) (cs : Nat) (bd : Nat → Nat), i ≤ n ∧ v = .int .i64 (i : Int) ∧ NW w wr g w.heap.size a n i ads cs bd) (fun v _ => n - (intOf v).toNat)
  case atStart => exact ⟨0, none, 0, fun _ => 0, Nat.zero_le _, rfl, HN.out⟩
  case round =>
    obtain ⟨i, ads, cs, bd, hi, rfl, hN⟩ := hrel
    by_cases hin : i < n
    · have c1 := hN.blk.cell (i := 1) rfl
      have f1 := hN.blk.frozen 1
      have HN2 := Lib.hid hN
      have hb := hN.gr.size
      clear hN
      have m3 : i + 1 ≤ maxLen := by unfold maxLen; omega
      have m4 : (i + 1) * 24 ≤ 140737488355328 := by omega
      go_wp2
      obtain ⟨W0, hW0⟩ : ∃ W0, W0 = wr := ⟨_, rfl⟩
      subst hW0
      obtain ⟨row, hrow⟩ : ∃ row, row = ads.map (·.block) := ⟨_, rfl⟩
      have hNo := HN2.out
      have hgW := hNo.blk.lt
      have hrlt : ∀ g', row = some g' → g' < W0.heap.size ∧ w.heap.size ≤ g' := by
        intro g' hg'
        rw [hrow] at hg'
        cases ads with
        | none => cases hg'
        | some y => cases hg'; exact ⟨(hNo.row.lt y rfl).2, (hNo.row.lt y rfl).1⟩
      have hgne : some g ≠ row := fun h => by
        rw [hrow] at h
        cases hads : ads with
        | none => rw [hads] at h; cases h
        | some y => rw [hads] at h; exact hNo.blk.owns_ne hNo.row (by decide) y hads (Option.some.inj h).symm
      obtain ⟨A9, hA⟩ : ∃ A9 : Option Obj, ∀ g, row = some g → A9 = W0.heap[g]? := ⟨row.bind fun g => W0.heap[g]?, fun g hg' => by rw [hg']; rfl⟩
      obtain ⟨B9, hB⟩ : ∃ B9 : Option Obj, B9 = if i + 1 ≤ cs then appRow (i * 1) [.slice (some ⟨W0.heap.size, 0, none⟩) a a] A9 else A9 := ⟨_, rfl⟩
      have HRow := Lib.hid hrow
      have HA := Lib.hid hA
      have HBB := Lib.hid hB
      have HRL := Lib.hid hrlt
      have oj2 := hNo.row
      have HRV := Lib.hid (fun r (h : row = some r) => (hrlt r h).1)
      have HP0 := Lib.hid (show ∀ s, NPre W0.heap.size g (poolN (a : Int) (.slice ads i cs) (.slice (some ⟨w.heap.size, 0, none⟩) n n)) s W0.drew from fun s => by
        by_cases e6 : s = 6
        · subst e6; rw [NPre.six]; rfl
        · by_cases e11 : s = 11
          · subst e11; rw [NPre.eleven]; exact hNo.blk.drew
          · simp [NPre, e6, e11])
      have HSET := Lib.hid (show ∀ w' v, Blk w' g 119 (poolN (a : Int) (.slice ads i cs) (.slice (some ⟨w.heap.size, 0, none⟩) n n)) → Blk (w'.setCell ⟨g, 1, none⟩ v) g 119 (poolN (a : Int) v (.slice (some ⟨w.heap.size, 0, none⟩) n n)) from fun w' v h => h.set_ 1 v)
      have HPRE := Lib.hid (show ∀ w', Blk w' g 119 (poolN (a : Int) (.slice ads i cs) (.slice (some ⟨w.heap.size, 0, none⟩) n n)) → w'.cell? ⟨g, 1, none⟩ = some (.slice ads i cs) ∧ w'.frozen? ⟨g, 1, none⟩ = false from fun w' h => ⟨h.cell rfl, h.frozen 1⟩)
      clear hrow hA hB hrlt hNo c1 f1
      refine region_phases (Le := Duo row A9 B9 g (GoodF row B9 w.heap.size 119 31 1 (i + 1) (slabV bd a i ++ [.slice (some ⟨W0.heap.size, 0, none⟩) a a]) W0.heap.size g (fun v => poolN (a : Int) v (.slice (some ⟨w.heap.size, 0, none⟩) n n)))) (NPre W0.heap.size g (poolN (a : Int) (.slice ads i cs) (.slice (some ⟨w.heap.size, 0, none⟩) n n))) Duo.refl (fun _ _ _ => Duo.trans) (Duo.drew (GoodF.drew hgW hgne)) HP0.out _ [Is ?r0, Is ?r1, Is ?r2, Is (.pointer (some ⟨g, 1, none⟩)), Is (.slice ads i cs), Is (.int .i64 (a : Int)), NewAt W0.heap.size a, OneD W0.heap.size [.slice (some ⟨W0.heap.size, 0, none⟩) a a], Apn row B9 w.heap.size 31 1 (i + 1) (slabV bd a i ++ [.slice (some ⟨W0.heap.size, 0, none⟩) a a]) W0.heap.size, Is ?r9, Is (.pointer (some ⟨g, 1, none⟩)), SinceG (GoodF row B9 w.heap.size 119 31 1 (i + 1) (slabV bd a i ++ [.slice (some ⟨W0.heap.size, 0, none⟩) a a]) W0.heap.size g (fun v => poolN (a : Int) v (.slice (some ⟨w.heap.size, 0, none⟩) n n)))] (by kernel_rfl) (by kernel_rfl) (by kernel_rfl) rfl rfl ⟨Is.stable _, Is.stable _, Is.stable _, Is.stable _, Is.stable _, Is.stable _, NewAt.dstable hgW HRV.out, OneD.dstable hgW HRV.out, Apn.dstable hgW hgne, Is.stable _, Is.stable _, SinceG.stable, trivial⟩ ⟨?s0, ?s1, ?s2, ?s3, ?s4, ?s5, ?s6, ?s7, ?s8, ?s9, ?s10, ?s11, trivial⟩ ?fin
      case' s0 | s1 | s2 | s3 | s4 | s5 | s6 | s7 | s9 | s10 =>
        intro ρ wr hρ hg hK
        simp [readsOf, slotsOf, Op.operands, Call.operands, tmpOf, List.filterMap_cons, List.filterMap_nil, KnownAll, knownOf, srcOf, depsOf, dstOf, Region.binds, nth, Is] at hK
        obtain ⟨hc, hf, hgl⟩ := hρ
        try simp only [wantedBy, dstOf, boolOf, nth, List.getD_cons_zero, List.getD_cons_succ, List.getElem?_cons_zero, List.getElem?_cons_succ, Option.bind_some, if_true, hK, BEq.rfl]
        try go_simp
        first | exact rfl | (rw [if_pos (by omega)]; exact is_here rfl) | (rw [dif_pos (by omega)]; exact is_here rfl) | exact congrArg (Value.int _) (IntWalk.i64_in _ ⟨by omega, by omega⟩) | skip
      case' s8 | s11 =>
        intro ρ wr hρ hg hK
        simp [readsOf, slotsOf, Op.operands, Call.operands, tmpOf, List.filterMap_cons, List.filterMap_nil, KnownAll, knownOf, srcOf, depsOf, dstOf, Region.binds, nth, Is] at hK
        obtain ⟨hc, hf, hgl⟩ := hρ
        try simp only [wantedBy, dstOf, boolOf, nth, List.getD_cons_zero, List.getD_cons_succ, List.getElem?_cons_zero, List.getElem?_cons_succ, Option.bind_some, if_true, hK, BEq.rfl]
      case s4 =>
        obtain ⟨p1, p2⟩ := HPRE.out _ (NPre.eleven.1 (hg.2 11 (by kernel_rfl)))
        go_simp
        exact rfl
      case s6 =>
        obtain ⟨w9, r1, r2, r3⟩ := make_slab _ a h2 .i64 .i64
        have e9 := NPre.six.1 (hg.2 6 (by kernel_rfl))
        have hs := hg.1.size
        rw [r1]
        rw [e9] at r3 ⊢
        simp only [Result.andThen_ok, growUpon_value]
        have k := Gr.duo (row := row) (A := A9) (B := B9) (g := g) (Good := fun _ => True) r2 (fun r h => by have := HRV.out r h; omega) (by omega) (fun _ => trivial)
        exact ⟨⟨r2.duo (fun r h => by have := HRV.out r h; omega) (by omega) (fun h => h.duo hgW hgne k (r2.block g (by omega))), NPre.step (fun h => absurd rfl h) (fun _ h => h.gr r2)⟩, rfl, r3⟩
      case s7 =>
        obtain ⟨e0, hb0⟩ := hK
        have hlt0 := hb0.lt
        have hs := hg.1.size
        simp only [e0]
        go_simp
        have k := Gr.duo (row := row) (A := A9) (B := B9) (g := g) (Good := fun _ => True) (Gr.alloc wr (.cells #[.slice (some ⟨W0.heap.size, 0, none⟩) a a] 31)) (fun r h => by have := HRV.out r h; omega) (by omega) (fun _ => trivial)
        exact ⟨⟨(Gr.alloc _ _).duo (fun r h => by have := HRV.out r h; omega) (by omega) (fun h => h.duo hgW hgne k ((Gr.alloc _ _).block g (by omega))), NPre.step (fun _ h => by omega) (fun _ h => h.alloc _)⟩, _, _, _, rfl, hs, heap_alloc_new _ _⟩
      case s8 =>
        obtain ⟨e0, hone⟩ := hK
        have hs := hg.1.size
        obtain ⟨g9, q9, fr9, o1, o2, o3⟩ := hone
        have hlt9 := (Array.getElem?_eq_some_iff.1 o3).1
        obtain ⟨v, w3, r1, r2, r3⟩ := append_once3 (ty := 114) (u := 114) elemRow oj2 HRow.out HA.out HBB.out hg.1.row hs (OneB.src ⟨g9, q9, fr9, o1, o3⟩ rfl (fun x hx => by rw [List.mem_singleton] at hx; rw [hx]; rfl) Tryz.underlying114) m3 m4 hb
        have k := Once.duo (g := g) (Good := fun _ => True) r2 (by omega) hgne (fun _ => trivial)
        simp only [execOp, resolve, invoke, builtin, Sem.run_bind, Sem.run_pure, Result.andThen_ok, List.map_toArray, List.map_cons, List.map_nil, e0]
        rw [r1]
        exact ⟨⟨r2.duo (by omega) hgne (fun h => h.duo hgW hgne k (r2.1.block g (by omega) hgne)), NPre.step (fun _ h => by omega) (fun _ h => Blk.grown h r2.1 hgne)⟩, r3⟩
      case s11 =>
        obtain ⟨e0, hap⟩ := hK
        have hb := NPre.eleven.1 (hg.2 11 (by kernel_rfl))
        obtain ⟨p1, p2⟩ := HPRE.out _ hb
        have hset := HSET.out _ (ρ (.tmp 48)) hb
        obtain ⟨d1, d2⟩ := duo_setF (A := A9) (F := fun v => poolN (a : Int) v (.slice (some ⟨w.heap.size, 0, none⟩) n n)) hset hap hgW hgne
        obtain ⟨adv, cpv, e1, _⟩ := hap
        rw [e1] at d1 d2
        go_simp
        exact ⟨⟨d1, NPre.step (fun _ h => by simpa using h) (fun h => absurd rfl h)⟩, d2⟩
      case fin =>
        intro w1 val hg hH
        simp only [Holds, Is, Nat.zero_add, Nat.reduceAdd] at hH
        obtain ⟨h0, h1, h2, h3, h4, h5, h6, h7, h8, h9, h10, h11, _⟩ := hH
        simp only [List.take_succ_cons, List.take_zero, List.drop_succ_cons, List.drop_zero, putAll, h0, h1, h2, h3, h4, h5, h9, h10, Nat.zero_add, Nat.reduceAdd]
        obtain ⟨v9, b9, ad9, c9, rfl, o9, _, _⟩ := h11
        obtain ⟨ad7, c7, e7, _⟩ := h8
        obtain ⟨g6, e6, fr6, e6', _⟩ := h7
        obtain ⟨e5, b5⟩ := h6
        simp only [e7, e6', e5]
        go_simp
        have hNo := HN2.out
        have hkeep : ∀ j, j < W0.heap.size → j ≠ g → some j ≠ row → w1.heap[j]? = W0.heap[j]? := fun j hj h1 h2 => hg.block j hj h2 h1
        have hne : ∀ {b : Nat} {t : TypeId} {cs' : List Value}, Blk W0 b t cs' → t ≠ 31 → some b ≠ row := fun hb ht e => by
          rw [HRow.out] at e
          cases hads : ads with
          | none => rw [hads] at e; cases e
          | some y => rw [hads] at e; exact hb.owns_ne hNo.row ht y hads (Option.some.inj e).symm
        have hNW : NW w w1 g w.heap.size a n (i + 1) ad9 c9 (upd bd i W0.heap.size) := by
          refine ⟨⟨hg.os.trans hNo.gr.os, hg.tape.trans hNo.gr.tape, hg.output.trans hNo.gr.output, Nat.le_trans hNo.gr.size hg.size, fun j hj => (hkeep j (Nat.lt_of_lt_of_le hj hNo.gr.size) (by have := hNo.hg; omega) (fun e => by have := (HRL.out j e.symm).2; omega)).trans (hNo.gr.block j hj)⟩, hNo.hg, b9, ?_, fun j hj => ?_, fun j k hj hk => ?_, ?_⟩
          · have e : slabV (upd bd i W0.heap.size) a (i + 1) = slabV bd a i ++ [.slice (some ⟨W0.heap.size, 0, none⟩) a a] := by
              unfold slabV
              rw [List.range_succ, List.map_append]
              congr 1
              · apply List.map_congr_left
                intro j hj
                rw [List.mem_range] at hj
                rw [upd_other _ _ (by omega)]
              · simp [upd_same]
            rw [e]; exact o9
          · by_cases e : j = i
            · subst e; rw [upd_same]; exact ⟨b5, hNo.gr.size⟩
            · rw [upd_other _ _ e]
              obtain ⟨q1, q2⟩ := hNo.slab j (by omega)
              exact ⟨(hkeep _ q1.lt (q1.ne hNo.blk (by decide)) (hne q1 (by decide))).trans q1, q2⟩
          · by_cases ej : j = i
            · by_cases ek : k = i
              · intro _; omega
              · subst ej; rw [upd_same, upd_other _ _ ek]
                have := (hNo.slab k (by omega)).1.lt
                intro e; omega
            · by_cases ek : k = i
              · subst ek; rw [upd_same, upd_other _ _ ej]
                have := (hNo.slab j (by omega)).1.lt
                intro e; omega
              · rw [upd_other _ _ ej, upd_other _ _ ek]
                exact hNo.inj j k (by omega) (by omega)
          · exact hNo.tak.kept (fun b hb => hkeep b (hNo.tak.lt _ hb).2 (hNo.blk.owns_ne hNo.tak (by decide) _ hb) (fun e => by
              rw [HRow.out] at e
              cases hads : ads with
              | none => rw [hads] at e; cases e
              | some y => rw [hads] at e; exact hNo.tak.ne hNo.row (by decide) _ y hb hads (Option.some.inj e)))
        have HNW := Lib.hid hNW
        clear hNW hNo b9 o9 b5 hne hkeep
        go_wp2
        go_roundw
        case rel => exact ⟨i + 1, ad9, c9, upd bd i W0.heap.size, hin, by go_num, HNW.out⟩
        case measure => simp [intOf]; omega
    · obtain rfl : i = n := by omega
      have HN2 := Lib.hid hN
      clear hN
      go_wp2
      go_ret2
      have hN := HN2.out
      have hbl : (newF a i).bytes.length = i := List.length_replicate
      have htl : (newF a i).taken.length = i := List.length_replicate
      refine ⟨g, fun j => w.heap.size ≤ j ∧ j < wr.heap.size, rfl, hN.gr, ⟨ads, cs, some ⟨w.heap.size, 0, none⟩, i, fun _ => none, fun _ => 0, bd, ?_⟩, fun j hj => hj.1⟩
      have hpv : poolV (newF a i) ads cs (some ⟨w.heap.size, 0, none⟩) i (fun _ => none) (fun _ => 0) = poolN (a : Int) (.slice ads i cs) (.slice (some ⟨w.heap.size, 0, none⟩) i i) := by
        unfold poolV poolN
        rw [hbl, htl]
        rw [flat_congr (G := fun _ => landV noLand none 0) 256 (fun j hj => by rw [landAt_new])]
        rfl
      refine ⟨by rw [hpv]; exact hN.blk, by rw [hbl]; exact hN.row.base (Nat.zero_le _), ?_, fun j hj => ?_, fun j hj => ?_, fun j k hj hk => hN.inj j k (by omega) (by omega), fun j k x y _ _ hx => (by cases hx), ⟨hN.hg, hN.blk.lt⟩, fun x hx => ⟨(hN.row.lt x hx).1, (hN.row.lt x hx).2⟩, fun x hx => ⟨(hN.tak.lt x hx).1, (hN.tak.lt x hx).2⟩, fun j hj => ⟨(hN.slab j (by omega)).2, (hN.slab j (by omega)).1.lt⟩, fun j x _ hx => (by cases hx), fun j hj => hj.2⟩
      · rw [htl]
        show Owns wr 0 _ 1 _ _ i ((List.replicate i false).map .bool)
        rw [List.map_replicate]
        exact hN.tak.base (Nat.zero_le _)
      · have e : bytesAt (newF a i) j = List.replicate a 0 := by
          unfold bytesAt newF
          simp only [List.getD_eq_getElem?_getD, List.getElem?_replicate]
          rw [if_pos (by omega)]; rfl
        rw [e]
        exact (hN.slab j (by omega)).1
      · rw [landAt_new]
        exact Owns.empty _ _ _ _
end Go.Proofs.YtpaogoehgkoaeaaGreatDoor
/- Layer 1 (region): the pool's calls, as a law uses them; fertile. -/
namespace Go.Proofs.YtpaogoehgkoaeaaGreatDoor
set_option linter.unusedVariables false
set_option linter.unusedSimpArgs false
open Go.RowKit
/-- a pool of a law's own -/
structure Pl (w0 w : World) (S : Nat → Prop) (g : Nat) (p : PoolF) : Prop where
  gr : Gr w0 w
  pool : PoolAt w S g p
  ok : PoolOk p
  base : ∀ j, S j → w0.heap.size ≤ j
section
variable {w0 w w' : World} {S S' : Nat → Prop} {g : Nat} {p p' : PoolF}
theorem Pl.moved (h : Pl w0 w S g p) (k : Moved S g p' w w' S') (ok' : PoolOk p') : Pl w0 w' S' g p' :=
  ⟨k.chg.gr h.gr h.base, k.pool, ok', fun j hj => by
    rcases k.sub j hj with h1 | h1
    · exact h.base j h1
    · exact Nat.le_trans h.gr.size h1⟩
theorem Pl.more (h : Pl w0 w S g p) (k : Gr w w') : Pl w0 w' S g p := ⟨h.gr.trans k, h.pool.gr k, h.ok, h.base⟩
theorem make_ok2 (h : PoolOk p) : PoolOk (makeR p).2.2 := by
  unfold makeR
  cases hm : makeF p with
  | none => exact h
  | some i =>
    obtain ⟨h1, h2, _⟩ := makeF_some hm
    exact make_ok h h1 h2
theorem Alloc_pl (h : Pl w0 w S g p) {r n a : Int} {x : Hd} {e : Nat} (he : allocF p r n a = (x, e, p')) :
    Calls Tryz.prog 66 #[.pointer (some ⟨g, 0, none⟩), .int .i64 r, .int .i64 n, .int .i64 a] w fun y w' => y = .returned (.tuple #[.agg #[.int .i64 x.region, .int .i64 x.gen, .int .i64 x.off, .int .i64 x.len], .int .i64 (e : Int)]) ∧ ∃ S', Moved S g p' w w' S' ∧ Pl w0 w' S' g p' := by
  refine (Alloc_any w S g p r n a h.pool h.ok).mono fun y w' ⟨h1, S', h2⟩ => ?_
  have h3 := h.moved h2 (alloc_ok h.ok r n a)
  rw [he] at h1 h2 h3
  exact ⟨h1, S', h2, h3⟩
theorem New_pl (k : Gr w0 w) (a n : Nat) (h1 : 64 ≤ a) (h2 : a ≤ 65536) (h3 : a % 8 = 0) (h4 : 1 ≤ n) (h5 : n ≤ 4096) (h6 : a * n ≤ 4194304) :
    Calls Tryz.prog 15 #[.int .i64 (a : Int), .int .i64 (n : Int)] w fun e w' => ∃ g S, e = .returned (.tuple #[.pointer (some ⟨g, 0, none⟩), .int .i64 0]) ∧ Gr w w' ∧ w.heap.size ≤ g ∧ Pl w0 w' S g (newF a n) ∧ ∀ j, S j → w.heap.size ≤ j :=
  (New_good w a n h1 h2 h3 h4 h5 h6).mono fun e w' ⟨g, S, e1, e2, e3, e4⟩ => ⟨g, S, e1, e2, (by obtain ⟨_, _, _, _, _, _, _, hx⟩ := e3; exact e4 g hx.sg), ⟨k.trans e2, e3, new_ok h1 h2 h3 h4 h5, fun j hj => Nat.le_trans k.size (e4 j hj)⟩, e4⟩
end
/-- a block that is none of the pool's -/
structure Out (S : Nat → Prop) (w : World) (b : Nat) : Prop where
  no : ¬ S b
  lt : b < w.heap.size
section
variable {w0 w w' : World} {S S' : Nat → Prop} {g b : Nat} {p p' : PoolF}
theorem Out.moved (h : Out S w b) (m : Moved S g p' w w' S') : Out S' w' b := ⟨fun e => by
  rcases m.sub b e with h1 | h1
  · exact h.no h1
  · have := h.lt; omega, Nat.lt_of_lt_of_le h.lt m.chg.size⟩
theorem Out.more (h : Out S w b) (k : Gr w w') : Out S w' b := ⟨h.no, Nat.lt_of_lt_of_le h.lt k.size⟩
theorem Out.new (h : Pl w0 w S g p) (o : Obj) : Out S (w.alloc o) w.heap.size := ⟨fun e => Nat.lt_irrefl _ (h.pool.lt _ e), by simp⟩
theorem Moved.blk (m : Moved S g p' w w' S') {t : TypeId} {cs : List Value} (hb : Blk w b t cs) (h : Out S w b) : Blk w' b t cs := m.chg.blk hb h.no
end
end Go.Proofs.YtpaogoehgkoaeaaGreatDoor
/- A block's whole row, loaded and stored at once; results that lie in rows. No program is in sight here. -/
namespace Go.Proofs.YtpaogoehgkoaeaaGreatDoor
set_option linter.unusedVariables false
set_option linter.unusedSimpArgs false
open Go.RowKit
theorem rangeAt_blk {w : World} {g : Nat} {t : TypeId} {cs : List Value} (h : Blk w g t cs) : w.rangeAt g 0 cs := fun j v hv => by
  rw [Nat.zero_add]; exact h.cell hv
section
variable {P : Program}
theorem load_blk {w : World} {g : Nat} {t ty : TypeId} {cs : List Value} {d : TypeDesc} {n : Nat} (hb : Blk w g t cs) (hu : P.underlying ty = some d) (hd : d.isRow = true) (hi : (P.info? ty).map (·.size) = some n) (hn : cs.length = n) :
    (loadVar ty ⟨g, 0, none⟩).run P w = .ok (.agg cs.toArray) w := run_loadVar_mid w g 0 ty cs d (rangeAt_blk hb) hu hd (by rw [hn]; exact hi)
theorem wp_load_blk {w : World} {ops : Array Oper} {rest : List Oper} {o : Oper} {a : Act} {Q : Exit → Act → World → Prop} (hgd : o.guard = none) (ty : TypeId) (x : Operand) (ho : o.op = .load ty x)
    {g : Nat} {t : TypeId} {cs : List Value} {d : TypeDesc} {n : Nat} (hx : a.eval x = .pointer (some ⟨g, 0, none⟩)) (hb : Blk w g t cs) (hu : P.underlying ty = some d) (hd : d.isRow = true) (hi : (P.info? ty).map (·.size) = some n) (hn : cs.length = n)
    (h : wpList P ops Q rest (a.put o.dst (.agg cs.toArray)) w) : wpList P ops Q (o :: rest) a w :=
  wpList_load_mid hgd ty x ho g 0 hx cs d (rangeAt_blk hb) hu hd (by rw [hn]; exact hi) h
theorem wp_store_blk {w : World} {ops : Array Oper} {rest : List Oper} {o : Oper} {a : Act} {Q : Exit → Act → World → Prop} (hgd : o.guard = none) (ty : TypeId) (x y : Operand) (ho : o.op = .store ty x y)
    {g : Nat} {t : TypeId} {cs cs' : List Value} {n : Nat} (hx : a.eval x = .pointer (some ⟨g, 0, none⟩)) (hy : a.eval y = .agg cs'.toArray) (hb : Blk w g t cs) (hi : (P.info? ty).map (·.size) = some n) (hn : cs.length = n) (hn' : cs'.length = n) (h1 : ∀ v ∈ cs', v.oneCell' = true)
    (h : wpList P ops Q rest (a.put o.dst undef) (w.setRow g cs'.toArray)) : wpList P ops Q (o :: rest) a w := by
  refine wpList_plain hgd fun K hK => ?_
  have hr := run_storeVar_row (P := P) w g t ty cs.toArray cs'.toArray hb (by rw [hi]; simp [hn']) (by simp [hn, hn']) (all_oneCell_toArray h1)
  unfold Oper.wp execOp
  simp only [ho, hx, hy, Instr.storeAt, Instr.sureAddr, Sem.run_bind, Sem.run_pure, Result.andThen_ok, hr]
  exact hK _ _ h
theorem Blk.setRow' {w : World} {b : Nat} {e : TypeId} {cs : List Value} (h : Blk w b e cs) (ds : List Value) : Blk (w.setRow b ds.toArray) b e ds := setRow_heap w b cs.toArray ds.toArray e (0, 0) h
theorem gr_setRow {a w : World} {b : Nat} (h : Gr a w) (hb : a.heap.size ≤ b) (cs : Array Value) : Gr a (w.setRow b cs) :=
  h.grown (row := some b) ⟨rfl, rfl, rfl, by simp, fun k _ hk => setRow_other w b k cs (fun e => hk (by rw [e]))⟩ (fun k e => by cases e; exact hb)
/-- the same, the world behind it any that holds the row -/
theorem wp_store_row {w : World} {ops : Array Oper} {rest : List Oper} {o : Oper} {a : Act} {Q : Exit → Act → World → Prop} (hgd : o.guard = none) (ty : TypeId) (x y : Operand) (ho : o.op = .store ty x y)
    {g : Nat} {t : TypeId} {cs cs' : List Value} {n : Nat} (hx : a.eval x = .pointer (some ⟨g, 0, none⟩)) (hy : a.eval y = .agg cs'.toArray) (hb : Blk w g t cs) (hi : (P.info? ty).map (·.size) = some n) (hn : cs.length = n) (hn' : cs'.length = n) (h1 : ∀ v ∈ cs', v.oneCell' = true)
    (h : ∀ w', Blk w' g t cs' → w.grownBy w' (some g) → wpList P ops Q rest (a.put o.dst undef) w') : wpList P ops Q (o :: rest) a w :=
  wp_store_blk hgd ty x y ho hx hy hb hi hn hn' h1 (h _ (hb.setRow' cs') ⟨rfl, rfl, rfl, by simp, fun k _ hk => setRow_other w g k _ (fun e => hk (by rw [e]))⟩)
theorem results_cell_tmp {fn : Func} {t u : Tmp} {ty : TypeId} (h : fn.results = #[.cell t ty, .tmp u]) {tmps : Array Value} {w : World} {g : Nat} {v : Value} (ht : tmps.getD t undef = .pointer (some ⟨g, 0, none⟩)) (hl : (loadVar ty ⟨g, 0, none⟩).run P w = .ok v w) :
    (results fn tmps).run P w = .ok (.tuple #[v, tmps.getD u undef]) w := by
  have ht' : tmps[t]?.getD undef = .pointer (some ⟨g, 0, none⟩) := by simpa using ht
  simp [results, h, Sem.run_bind, ht', hl, asAddr]
theorem results_cell2_tmp {fn : Func} {t u v : Tmp} {ty ty2 : TypeId} (h : fn.results = #[.cell t ty, .cell u ty2, .tmp v]) {tmps : Array Value} {w : World} {g g2 : Nat} {x y : Value} (ht : tmps.getD t undef = .pointer (some ⟨g, 0, none⟩)) (hl : (loadVar ty ⟨g, 0, none⟩).run P w = .ok x w)
    (ht2 : tmps.getD u undef = .pointer (some ⟨g2, 0, none⟩)) (hl2 : (loadVar ty2 ⟨g2, 0, none⟩).run P w = .ok y w) :
    (results fn tmps).run P w = .ok (.tuple #[x, y, tmps.getD v undef]) w := by
  have ht' : tmps[t]?.getD undef = .pointer (some ⟨g, 0, none⟩) := by simpa using ht
  have ht2' : tmps[u]?.getD undef = .pointer (some ⟨g2, 0, none⟩) := by simpa using ht2
  simp [results, h, Sem.run_bind, ht', hl, ht2', hl2, asAddr]
end
end Go.Proofs.YtpaogoehgkoaeaaGreatDoor
/- Layer 11 (skip): a list in memory; a node's bytes read. -/
namespace Go.Proofs.YtpaogoehgkoaeaaGreatDoor
set_option linter.unusedVariables false
set_option linter.unusedSimpArgs false
open Go.RowKit Ikey Varint
/-- a link, as a value -/
def lnk (q : Nat × Nat) : Value := .agg #[.int .i64 (q.1 : Int), .int .i64 (q.2 : Int)]
/-- links, one behind the other -/
def rowV (f : Nat → Nat × Nat) : Nat → List Value
  | 0 => []
  | n + 1 => rowV f n ++ [.int .i64 ((f n).1 : Int), .int .i64 ((f n).2 : Int)]
theorem rowV_len (f : Nat → Nat × Nat) : ∀ n, (rowV f n).length = 2 * n
  | 0 => rfl
  | n + 1 => by rw [rowV, List.length_append, rowV_len f n]; simp; omega
theorem rowV_congr {f g : Nat → Nat × Nat} : ∀ n, (∀ k, k < n → f k = g k) → rowV f n = rowV g n
  | 0, _ => rfl
  | n + 1, h => by rw [rowV, rowV, rowV_congr n (fun k hk => h k (by omega)), h n (by omega)]
theorem rowV_one (f : Nat → Nat × Nat) : ∀ n, ∀ v ∈ rowV f n, v.oneCell' = true
  | 0, v, h => by simp [rowV] at h
  | n + 1, v, h => by
    rw [rowV, List.mem_append] at h
    rcases h with h | h
    · exact rowV_one f n v h
    · simp only [List.mem_cons, List.not_mem_nil, or_false] at h
      rcases h with rfl | rfl <;> rfl
theorem rowV_get (f : Nat → Nat × Nat) : ∀ n k, k < n → (rowV f n)[k * 2]? = some (.int .i64 ((f k).1 : Int)) ∧ (rowV f n)[k * 2 + 1]? = some (.int .i64 ((f k).2 : Int))
  | 0, k, h => by omega
  | n + 1, k, h => by
    rw [rowV]
    have hl := rowV_len f n
    by_cases e : k = n
    · subst e
      rw [List.getElem?_append_right (by omega), List.getElem?_append_right (by omega), hl, show k * 2 - 2 * k = 0 by omega, show k * 2 + 1 - 2 * k = 1 by omega]
      exact ⟨rfl, rfl⟩
    · rw [List.getElem?_append_left (by omega), List.getElem?_append_left (by omega)]
      exact rowV_get f n k (by omega)
theorem rowV_set (f : Nat → Nat × Nat) (q : Nat × Nat) : ∀ n k, k < n → ((rowV f n).set (k * 2) (.int .i64 (q.1 : Int))).set (k * 2 + 1) (.int .i64 (q.2 : Int)) = rowV (upd f k q) n
  | 0, k, h => by omega
  | n + 1, k, h => by
    rw [rowV, rowV]
    have hl := rowV_len f n
    by_cases e : k = n
    · subst e
      rw [List.set_append_right _ _ (by omega), List.set_append_right _ _ (by omega), hl, show k * 2 - 2 * k = 0 by omega, show k * 2 + 1 - 2 * k = 1 by omega, upd_same, rowV_congr k (fun i hi => (upd_other f q (show i ≠ k by omega)).symm)]
      rfl
    · rw [List.set_append_left _ _ (by omega), List.set_append_left _ _ (by rw [List.length_set]; omega), rowV_set f q n k (by omega), upd_other _ _ (fun e2 => e e2.symm)]
/-- a list in plain words -/
structure Ls where
  r : Nat
  gen : Nat
  hd : Nat → Nat × Nat
  cnt : Nat
  wt : Nat
  fz : Bool
  fd : Bool
def lstV (g : Nat) (L : Ls) : List Value := [.pointer (some ⟨g, 0, none⟩), .int .i64 (L.r : Int), .int .i64 (L.gen : Int)] ++ (rowV L.hd 12 ++ [.int .i64 (L.cnt : Int), .int .i64 (L.wt : Int), .bool L.fz, .bool L.fd])
section
variable {w w' : World} {g gl : Nat} {L : Ls}
theorem lstV_mid (g : Nat) (L : Ls) {k : Nat} {v : Value} (hk : k < 24) (h : (rowV L.hd 12)[k]? = some v) : (lstV g L)[3 + k]? = some v := by
  unfold lstV
  rw [List.getElem?_append_right (by simp), show 3 + k - [Value.pointer (some ⟨g, 0, none⟩), .int .i64 (L.r : Int), .int .i64 (L.gen : Int)].length = k by simp,
    List.getElem?_append_left (by rw [rowV_len]; omega)]
  exact h
theorem lst_heads (h : Blk w gl 124 (lstV g L)) : w.cell? ⟨gl, 0, none⟩ = some (.pointer (some ⟨g, 0, none⟩)) ∧ w.cell? ⟨gl, 1, none⟩ = some (.int .i64 (L.r : Int)) ∧ w.cell? ⟨gl, 2, none⟩ = some (.int .i64 (L.gen : Int)) :=
  ⟨h.cell rfl, h.cell rfl, h.cell rfl⟩
theorem lst_tail (h : Blk w gl 124 (lstV g L)) : w.cell? ⟨gl, 27, none⟩ = some (.int .i64 (L.cnt : Int)) ∧ w.cell? ⟨gl, 28, none⟩ = some (.int .i64 (L.wt : Int)) ∧ w.cell? ⟨gl, 29, none⟩ = some (.bool L.fz) ∧ w.cell? ⟨gl, 30, none⟩ = some (.bool L.fd) :=
  ⟨h.cell rfl, h.cell rfl, h.cell rfl, h.cell rfl⟩
theorem lst_head (h : Blk w gl 124 (lstV g L)) {k : Nat} (hk : k < 12) : w.cell? ⟨gl, 3 + k * 2, none⟩ = some (.int .i64 ((L.hd k).1 : Int)) ∧ w.cell? ⟨gl, 3 + k * 2 + 1, none⟩ = some (.int .i64 ((L.hd k).2 : Int)) := by
  obtain ⟨h1, h2⟩ := rowV_get L.hd 12 k hk
  exact ⟨h.cell (lstV_mid g L (by omega) h1), h.cell (lstV_mid g L (by omega) h2)⟩
end
/-- a list in a pool in memory -/
structure Sk (w : World) (S : Nat → Prop) (g gl : Nat) (p : PoolF) (L : Ls) : Prop where
  pool : PoolAt w S g p
  ok : PoolOk p
  blk : Blk w gl 124 (lstV g L)
  out : ¬ S gl
theorem Sk.gr {w w' : World} {S : Nat → Prop} {g gl : Nat} {p : PoolF} {L : Ls} (h : Sk w S g gl p L) (k : Gr w w') : Sk w' S g gl p L := ⟨h.pool.gr k, h.ok, h.blk.gr k, h.out⟩

theorem Blk.two4 {w : World} {g : Nat} {t : TypeId} {a b : Value} (h : Blk w g t [a, b]) : w.cell? ⟨g, 0, none⟩ = some a ∧ w.cell? ⟨g, 1, none⟩ = some b ∧ w.frozen? ⟨g, 0, none⟩ = false ∧ w.frozen? ⟨g, 1, none⟩ = false :=
  ⟨h.cell rfl, h.cell rfl, h.frozen _, h.frozen _⟩
end Go.Proofs.YtpaogoehgkoaeaaGreatDoor
/- Layer 11 (skip): a node's bytes read. -/
namespace Go.Proofs.YtpaogoehgkoaeaaGreatDoor
set_option linter.unusedVariables false
set_option linter.unusedSimpArgs false
open Go.RowKit Ikey Varint
set_option maxRecDepth 100000 in
theorem number_any (ad : Option Addr) (n cap : Nat) (l : List UInt8) (w : World) (hl : l.length = n) (hm : n ≤ 4) (hb : Bytes w ad l) :
    Calls Tryz.prog 120 #[.slice ad n cap] w fun e w' => e = .returned (.int .i64 (le l : Nat)) ∧ w = w' := by
  have h := Whole_any ad n cap l w hl (by unfold maxLen; omega) hb
  have e : wholeF l = (le l, 0) := by unfold wholeF; rw [if_neg (by omega)]
  rw [e] at h
  have h4 := le_lt l
  have h5 : 256 ^ l.length ≤ 256 ^ 4 := Nat.pow_le_pow_right (by decide) (by omega)
  have hle : le l < 4294967296 := by omega
  have H := Lib.hid h
  clear h e h4 h5 hb
  generalize le l = x at *
  go_enter Tryz.func120, Tryz.ntmps120
  go_wp2_with (go_at_call 100; refine H.out.mono ?_; rintro e w' ⟨rfl, rfl⟩)
  go_ret
  exact ⟨rfl, rfl⟩
set_option maxRecDepth 100000 in
set_option maxHeartbeats 1000000 in
theorem link_any (b o cap k x y : Nat) (l : List UInt8) (w : World) (hk : k < 12) (hl : 5 + 8 * k + 8 ≤ l.length) (hl2 : l.length ≤ 2000) (hc : l.length ≤ cap) (hb : Bytes w (some ⟨b, o, none⟩) l)
    (hx : (l.drop (5 + 8 * k)).take 4 = bytesN 4 x) (hy : (l.drop (5 + 8 * k + 4)).take 4 = bytesN 4 y) (hx4 : x < 4294967296) (hy4 : y < 4294967296) :
    Calls Tryz.prog 111 #[.slice (some ⟨b, o, none⟩) l.length cap, .int .i64 (k : Int)] w fun e w' => e = .returned (lnk (x, y)) ∧ Gr w w' := by
  have e1 : le (bytesN 4 x) = x := le_bytesN' 4 x hx4
  have e2 : le (bytesN 4 y) = y := le_bytesN' 4 y hy4
  have H1 := Lib.hid (fun w' (h : Bytes w' (some ⟨b, o, none⟩) l) c => number_any (some ⟨b, o + (5 + 8 * k), none⟩) 4 c _ w' (by simp; omega) (by omega) ((h.drop (5 + 8 * k)).take 4))
  have H2 := Lib.hid (fun w' (h : Bytes w' (some ⟨b, o, none⟩) l) c => number_any (some ⟨b, o + (5 + 8 * k + 4), none⟩) 4 c _ w' (by simp; omega) (by omega) ((h.drop (5 + 8 * k + 4)).take 4))
  rw [hx, e1] at H1
  rw [hy, e2] at H2
  have HB := Lib.hid hb
  clear hx hy e1 e2 hb
  obtain ⟨at_, hat⟩ : ∃ at_, at_ = 5 + 8 * k := ⟨_, rfl⟩
  have hatI : 5 + 8 * (k : Int) = (at_ : Int) := by omega
  rw [← hat] at H1 H2 hl
  clear hat
  have hat2 : at_ ≤ 2000 := by omega
  have hcap : at_ + 8 ≤ cap := by omega
  have hne : ¬ cap = at_ := by omega
  have hne2 : ¬ cap = at_ + 4 := by omega
  clear hx4 hy4 hk hl2 hl hc
  unfold lnk
  go_enter Tryz.func111, Tryz.ntmps111
  go_wp2
  refine region_tail_gr 14 _ [Is (.slice (some ⟨b, o, none⟩) l.length cap), Is (.int .i64 (at_ : Int)), Is ?r2, Is (.int .i64 ((at_ : Int) + 4)), Is (.slice (some ⟨b, o + at_, none⟩) 4 (cap - at_)), Is (.int .i64 (x : Int)), Is (.slice (some ⟨b, o, none⟩) l.length cap), Is ?r7, Is (.int .i64 ((at_ : Int) + 4)), Is (.int .i64 (at_ : Int)), Is (.int .i64 ((at_ : Int) + 8)), Is (.slice (some ⟨b, o + (at_ + 4), none⟩) 4 (cap - (at_ + 4))), Is (.int .i64 (y : Int)), Is (.agg #[.int .i64 (x : Int), .int .i64 (y : Int)])] (by kernel_rfl) (by kernel_rfl) (by kernel_rfl) (by kernel_rfl) rfl rfl ⟨Is.stable _, Is.stable _, Is.stable _, Is.stable _, Is.stable _, Is.stable _, Is.stable _, Is.stable _, Is.stable _, Is.stable _, Is.stable _, Is.stable _, Is.stable _, Is.stable _, trivial⟩ ⟨?s0, ?s1, ?s2, ?s3, ?s4, ?s5, ?s6, ?s7, ?s8, ?s9, ?s10, ?s11, ?s12, ?s13, trivial⟩ ?fin
  case' s0 | s1 | s2 | s3 | s4 | s5 | s6 | s7 | s8 | s9 | s10 | s11 | s12 | s13 =>
    intro ρ wr hρ hg hK
    simp [readsOf, slotsOf, Op.operands, Call.operands, tmpOf, List.filterMap_cons, List.filterMap_nil, KnownAll, knownOf, srcOf, depsOf, dstOf, Region.binds, nth, Is] at hK
    obtain ⟨hc, hf, hgl⟩ := hρ
    try simp only [wantedBy, dstOf, boolOf, nth, List.getD_cons_zero, List.getD_cons_succ, List.getElem?_cons_zero, List.getElem?_cons_succ, Option.bind_some, if_true, hK, BEq.rfl]
    try go_simp
    first | exact rfl | (rw [if_pos (by omega)]; exact is_here rfl) | (rw [dif_pos (by omega)]; exact is_here rfl) | exact congrArg (Value.int _) (IntWalk.i64_in _ ⟨by omega, by omega⟩) | skip
  case s4 =>
    rw [if_pos (by omega), if_pos (by omega), show ((at_ : Int) + 4).toNat - at_ = 4 by omega]
    exact is_here rfl
  case s5 => exact any_same (H1.out _ (HB.out.gr ((Gr.alloc _ _).trans hg)) _)
  case s11 =>
    rw [if_pos (by omega), if_pos (by omega), show ((at_ : Int) + 8).toNat - ((at_ : Int) + 4).toNat = 4 by omega, show ((at_ : Int) + 4).toNat = at_ + 4 by omega, if_neg hne2]
    exact is_here rfl
  case s12 => exact any_same (H2.out _ (HB.out.gr ((Gr.alloc _ _).trans hg)) _)
  case fin =>
    intro w1 val hg hH
    simp only [Holds, Is, Nat.zero_add, Nat.reduceAdd] at hH
    obtain ⟨h0, h1, h2, h3, h4, h5, h6, h7, h8, h9, h10, h11, h12, h13, _⟩ := hH
    simp only [List.take_succ_cons, List.take_zero, List.drop_succ_cons, List.drop_zero, putAll, h0, h1, h2, h3, h4, h5, h6, h7, h8, h9, h10, h11, h12, h13, Nat.zero_add, Nat.reduceAdd]
    obtain ⟨c0, c1, f0, f1⟩ := (Blk.of1 hg).two4
    go_simp
    go_wp2
    refine bodyPost_ret (v := .agg #[.int .i64 (x : Int), .int .i64 (y : Int)]) (by simp [results, Tryz.results111, go_sem, c0, c1]) rfl ⟨rfl, ?_⟩
    exact (((Gr.alloc _ _).trans hg).setCell (Nat.le_refl _) _).setCell (Nat.le_refl _) _
/-- a cell, as a value -/
def ceV (c : Ce) : Value := .agg #[.string (str c.key), .int .i64 (c.seq : Int), .int .i64 (c.kind : Int), .string (str c.val)]
set_option maxRecDepth 100000 in
set_option maxHeartbeats 1000000 in
theorem cell_any (b o cap n t : Nat) (f : Nat → Nat × Nat) (c : Ce) (w : World) (t1 : 1 ≤ t) (t2 : t ≤ 12) (hok : okV c.key c.seq c.kind = true) (hv : c.val.length ≤ 1000) (hn : (nodeB t f c).length = n) (hc : n ≤ cap) (hcm : cap ≤ maxLen) (hb : Bytes w (some ⟨b, o, none⟩) (nodeB t f c)) :
    Calls Tryz.prog 77 #[.slice (some ⟨b, o, none⟩) n cap] w fun e w' => e = .returned (.tuple #[ceV c, .int .i64 0]) ∧ Gr w w' := by
  obtain ⟨p0, p1, p2, p3, p4⟩ := nodeB_parts t f c
  have hnl := nodeB_len t f c
  obtain ⟨k1, k2, _⟩ := okV_of hok
  have hdec : decF (encF c.key c.seq c.kind) = some (c.key, c.seq, c.kind) := decF_iff.2 ⟨hok, rfl⟩
  have hEl := enc_len c.key c.seq c.kind
  unfold ceV
  obtain ⟨key, seq, kind, vl⟩ := c
  simp only at *
  generalize nodeB t f ⟨key, seq, kind, vl⟩ = l at *
  generalize encF key seq kind = E at *
  obtain ⟨K, hK⟩ : ∃ K, K = key.length + 8 := ⟨_, rfl⟩
  obtain ⟨V, hV⟩ : ∃ V, V = vl.length := ⟨_, rfl⟩
  obtain ⟨Fr, hF⟩ : ∃ Fr, Fr = 5 + 8 * t := ⟨_, rfl⟩
  rw [← hK] at hnl hEl p1 p3 p4
  rw [← hV] at hnl hv p2 p4
  rw [← hF] at hnl p3 p4
  have hFI : 5 + 8 * (t : Int) = (Fr : Int) := by omega
  have e1 : le (bytesN 2 K) = K := le_bytesN' 2 K (by omega)
  have e2 : le (bytesN 2 V) = V := le_bytesN' 2 V (by omega)
  have hz : w.cell? ⟨b, o, none⟩ = some (.int .u8 (t : Int)) := by
    obtain ⟨b', o', e, h⟩ := hb 0 (by omega)
    cases e
    have hx : l[0]'(by omega) = UInt8.ofNat t := by
      have := List.getElem?_eq_getElem (l := l) (i := 0) (by omega)
      rw [p0] at this
      exact (Option.some.inj this).symm
    rw [hx, UInt8.toNat_ofNat', Nat.mod_eq_of_lt (by omega)] at h
    exact h
  have hz1 := (Gr.alloc w (.cells #[.string ⟨#[]⟩, .int .i64 0, .int .i64 0, .string ⟨#[]⟩] 56)).cell hz
  have hn0 : 0 < n := by omega
  clear hz
  have H1 := Lib.hid (fun w' (h : Bytes w' (some ⟨b, o, none⟩) l) c => number_any (some ⟨b, o + 1, none⟩) 2 c _ w' (by simp; omega) (by omega) ((h.drop 1).take 2))
  have H2 := Lib.hid (fun w' (h : Bytes w' (some ⟨b, o, none⟩) l) c => number_any (some ⟨b, o + 3, none⟩) 2 c _ w' (by simp; omega) (by omega) ((h.drop 3).take 2))
  have HD := Lib.hid (fun w' (h : Bytes w' (some ⟨b, o, none⟩) l) c hc => Decode_any (some ⟨b, o + Fr, none⟩) c E w' hc (by unfold maxLen; omega) (p3 ▸ ((h.drop Fr).take K)))
  obtain ⟨adV, hadV⟩ : ∃ adV : Option Addr, adV = if cap = Fr + K then some ⟨b, o, none⟩ else some ⟨b, o + (Fr + K), none⟩ := ⟨_, rfl⟩
  have HV := Lib.hid (fun w' (h : Bytes w' (some ⟨b, o, none⟩) l) c => run_string (P := Tryz.prog) (cap := c) Tryz.underlying31 Tryz.underlying5 Tryz.underlying9 (w := w') (len := V) (l := vl) (ad := adV) (by rw [hV]) (by
    by_cases e : cap = Fr + K
    · have : vl = [] := List.eq_nil_of_length_eq_zero (by omega)
      rw [this]; exact fun i hi => absurd hi (by simp)
    · rw [hadV, if_neg e]; exact p4 ▸ ((h.drop (Fr + K)).take V)))
  have HA := Lib.hid hadV
  clear hadV
  rw [p1, e1] at H1
  rw [p2, e2] at H2
  rw [hdec, hEl] at HD
  unfold outV ver at HD
  have HB := Lib.hid hb
  clear hb p0 p1 p2 p3 p4 e1 e2 hdec hEl hok k1
  have hF2 : Fr ≤ 101 := by omega
  have hK2 : K ≤ 72 := by omega
  have hcap : Fr + K + V ≤ cap := by omega
  have hcap1 : Fr + K ≤ cap := by omega
  have hne : ¬ cap = Fr := by omega
  have hcmI : (cap : Int) ≤ 9223372036854775807 := by unfold maxLen at hcm; omega
  clear hK hV hF hnl hcm k2
  go_enter Tryz.func77, Tryz.ntmps77
  go_wp2_with (first
    | (go_at_call 120; refine (H1.out _ (HB.out.gr (Gr.alloc _ _)) _).mono ?_; rintro e w' ⟨rfl, rfl⟩)
    | (go_at_call 121; refine (HD.out _ (HB.out.gr (Gr.alloc _ _)) _ (by omega)).mono ?_; rintro e w2 ⟨rfl, g2⟩)
    | fail)
  obtain ⟨Po, hPo⟩ : ∃ Po, Po = w.heap.size := ⟨_, rfl⟩
  have bP : Blk (w2.alloc (.cells #[.string (str key), .int .i64 (seq : Int), .int .i64 (kind : Int)] 40)) Po 56 [.string ⟨#[]⟩, .int .i64 0, .int .i64 0, .string ⟨#[]⟩] := by rw [hPo]; exact (Blk.of1 g2).alloc _
  have hPW : Po < w2.heap.size := by rw [hPo]; exact (Blk.of1 g2).lt
  obtain ⟨cv0, cv1, cv2, _⟩ := (Blk.new w2 40 #[.string (str key), .int .i64 (seq : Int), .int .i64 (kind : Int)]).three
  have gW : Gr w (w2.alloc (.cells #[.string (str key), .int .i64 (seq : Int), .int .i64 (kind : Int)] 40)) := ((Gr.alloc _ _).trans g2).trans (Gr.alloc _ _)
  have hbl : b < w.heap.size := by obtain ⟨_, _, e, h⟩ := HB.out 0 (by rw [hn]; exact hn0); cases e; exact World.block_lt_of_cell? w _ h
  have BW := Lib.hid (HB.out.gr gW)
  have hPV : (some w2.heap.size : Option Nat) ≠ some Po := by simp; omega
  have hPb : b ≠ Po := by omega
  have HPO := Lib.hid hPo
  rw [← hPo]
  clear hPo HB
  generalize (w2.alloc (.cells #[.string (str key), .int .i64 (seq : Int), .int .i64 (kind : Int)] 40)) = W at *
  have BP := Lib.hid bP
  obtain ⟨A, hA⟩ : ∃ A, A = W.heap[Po]? := ⟨_, rfl⟩
  have HA2 := Lib.hid hA
  clear hA bP
  have HBK := Lib.hid (show ∀ x : Addr, (some (⟨b, o, none⟩ : Addr)) = some x → some x.block ≠ some Po from fun x hx h => by cases hx; cases h; exact hPb rfl)
  have HWB := Lib.hid (fun wr (h : Once (some Po) A (some (.cells #[.string (str key), .int .i64 (seq : Int), .int .i64 (kind : Int), .string (str vl)] 56 (0, 0))) W wr) => h.bytes BW.out HBK.out)
  refine region_store_once (some Po) A (some (.cells #[.string (str key), .int .i64 (seq : Int), .int .i64 (kind : Int), .string (str vl)] 56 (0, 0))) _ [Is (.agg #[.string (str key), .int .i64 (seq : Int), .int .i64 (kind : Int)]), Is (.slice (some ⟨b, o, none⟩) n cap), Is (.int .i64 ((Fr : Int) + (K : Int))), Is (.int .i64 ((Fr : Int) + (K : Int))), Is (.slice (some ⟨b, o, none⟩) n cap), Is (.slice (some ⟨b, o + 3, none⟩) 2 (cap - 3)), Is (.int .i64 (V : Int)), Is (.int .i64 ((Fr : Int) + (K : Int) + (V : Int))), Is (.slice adV V (cap - (Fr + K))), Is (.string (str vl)), Is (.agg #[.string (str key), .int .i64 (seq : Int), .int .i64 (kind : Int), .string (str vl)]), Is (.int .i64 0), StoredB (some Po) (some (.cells #[.string (str key), .int .i64 (seq : Int), .int .i64 (kind : Int), .string (str vl)] 56 (0, 0))), Is (.int .i64 0)] (by kernel_rfl) (by kernel_rfl) (by kernel_rfl) rfl rfl ⟨Is.stable _, Is.stable _, Is.stable _, Is.stable _, Is.stable _, Is.stable _, Is.stable _, Is.stable _, Is.stable _, Is.stable _, Is.stable _, Is.stable _, StoredB.stable, Is.stable _, trivial⟩ ⟨?s0x1, ?s1x1, ?s2x1, ?s3x1, ?s4x1, ?s5x1, ?s6x1, ?s7x1, ?s8x1, ?s9x1, ?s10x1, ?s11x1, ?s12x1, ?s13x1, trivial⟩ ?finx1
  case' s0x1 | s1x1 | s2x1 | s3x1 | s4x1 | s5x1 | s6x1 | s7x1 | s8x1 | s9x1 | s10x1 | s11x1 | s12x1 | s13x1 =>
    intro ρ wr hρ hg hK
    simp [readsOf, slotsOf, Op.operands, Call.operands, tmpOf, List.filterMap_cons, List.filterMap_nil, KnownAll, knownOf, srcOf, depsOf, dstOf, Region.binds, nth, Is] at hK
    obtain ⟨hc, hf, hgl⟩ := hρ
    try simp only [wantedBy, dstOf, boolOf, nth, List.getD_cons_zero, List.getD_cons_succ, List.getElem?_cons_zero, List.getElem?_cons_succ, Option.bind_some, if_true, hK, BEq.rfl]
    try go_simp
    first | exact rfl | (rw [if_pos (by omega)]; exact is_here rfl) | (rw [dif_pos (by omega)]; exact is_here rfl) | exact congrArg (Value.int _) (IntWalk.i64_in _ ⟨by omega, by omega⟩) | skip
  case s0x1 =>
    have d0 := hg.cell cv0 hPV; have d1 := hg.cell cv1 hPV; have d2 := hg.cell cv2 hPV
    go_simp
    exact rfl
  case s6x1 => exact (H2.out _ (HWB.out _ hg) _).mono fun e w'' ⟨h1, h2⟩ => ⟨_, h1, h2 ▸ Once.refl _, rfl⟩
  case s5x1 =>
    rw [if_pos (by omega), if_neg (by omega)]
    exact ⟨Once.refl _, rfl⟩
  case s8x1 =>
    rw [if_pos ⟨by omega, by omega⟩, if_pos ⟨by omega, by omega⟩]
    refine ⟨Once.refl _, ?_⟩
    rw [HA.out, show ((Fr : Int) + (K : Int)).toNat = Fr + K by omega, show ((Fr : Int) + (K : Int) + (V : Int)).toNat - (Fr + K) = V by omega]
    exact rfl
  case s9x1 =>
    rw [HV.out _ (HWB.out _ hg)]
    exact ⟨Once.refl _, rfl⟩
  case s12x1 =>
    have hcs := hg.2 Po rfl
    have hbk : ∃ x y z u, Blk wr Po 56 [x, y, z, u] := by
      rcases hcs with h | ⟨_, h⟩
      · exact ⟨_, _, _, _, h.trans BP.out⟩
      · exact ⟨_, _, _, _, h⟩
    obtain ⟨x, y, z, u, hbk⟩ := hbk
    obtain ⟨u0, u1, u2, u3, fz0, fz1, fz2, fz3⟩ := hbk.four
    have hb2 := (((hbk.set_ 0 (.string (str key))).set_ 1 (.int .i64 (seq : Int))).set_ 2 (.int .i64 (kind : Int))).set_ 3 (.string (str vl))
    simp only [List.set_cons_zero, List.set_cons_succ] at hb2
    go_simp
    refine ⟨⟨grown_trans (grown_trans (grown_trans (grown_set wr Po 0 _) (grown_set _ Po 1 _)) (grown_set _ Po 2 _)) (grown_set _ Po 3 _), fun g hg' => ?_⟩, fun g hg' => by cases hg'; exact hb2⟩
    cases hg'
    rcases hcs with h | ⟨_, h⟩
    · exact .inr ⟨h.trans HA2.out.symm, hb2⟩
    · exact .inl (hb2.trans h.symm)
  case finx1 =>
    intro w1 val hg hH
    simp only [Holds, Is, Nat.zero_add, Nat.reduceAdd] at hH
    obtain ⟨h0, h1, h2, h3, h4, h5, h6, h7, h8, h9, h10, h11, h12, h13, _⟩ := hH
    simp only [List.take_succ_cons, List.take_zero, List.drop_succ_cons, List.drop_zero, putAll, h0, h1, h2, h3, h4, h5, h6, h7, h8, h9, h10, h11, h13, Nat.zero_add, Nat.reduceAdd]
    have hb2 : Blk w1 Po 56 [.string (str key), .int .i64 (seq : Int), .int .i64 (kind : Int), .string (str vl)] := h12 Po rfl
    obtain ⟨d0, d1, d2, d3, _⟩ := hb2.four
    have gE : Gr w w1 := gW.grown hg.1 (fun g e => by cases e; exact Nat.le_of_eq HPO.out.symm)
    go_simp
    go_wp2
    refine bodyPost_ret (v := .tuple #[.agg #[.string (str key), .int .i64 (seq : Int), .int .i64 (kind : Int), .string (str vl)], .int .i64 0]) (by simp [results, Tryz.results77, go_sem, d0, d1, d2, d3]) rfl ?_
    exact ⟨rfl, gE⟩
end Go.Proofs.YtpaogoehgkoaeaaGreatDoor
/- Layer 11 (skip): a node is loaded; the next one; is a version there. -/
namespace Go.Proofs.YtpaogoehgkoaeaaGreatDoor
set_option linter.unusedVariables false
set_option linter.unusedSimpArgs false
open Go.RowKit Ikey Varint
set_option maxRecDepth 100000 in
set_option maxHeartbeats 1000000 in
theorem handle_any (w : World) (g gl : Nat) (L : Ls) (q : Nat × Nat) (hb : Blk w gl 124 (lstV g L)) :
    Calls Tryz.prog 115 #[.pointer (some ⟨gl, 0, none⟩), lnk q] w fun e w' => e = .returned (.agg #[.int .i64 (L.r : Int), .int .i64 (L.gen : Int), .int .i64 (q.1 : Int), .int .i64 (q.2 : Int)]) ∧ Gr w w' := by
  obtain ⟨q1, q2⟩ := q
  unfold lnk
  simp only
  have HB := Lib.hid ((hb.alloc (.cells #[.int .i64 (q1 : Int), .int .i64 (q2 : Int)] 121)).alloc (.cells #[.int .i64 0, .int .i64 0, .int .i64 0, .int .i64 0] 58))
  clear hb
  have g0 : Gr w ((w.alloc (.cells #[.int .i64 (q1 : Int), .int .i64 (q2 : Int)] 121)).alloc (.cells #[.int .i64 0, .int .i64 0, .int .i64 0, .int .i64 0] 58)) := (Gr.alloc _ _).trans (Gr.alloc _ _)
  go_enter Tryz.func115, Tryz.ntmps115
  go_wp2
  refine region_tail_gr 13 _ [Is ?r0, Is ?r1, Is ?r2, Is (.int .i64 (L.r : Int)), Is ?r4, Is ?r5, Is ?r6, Is (.int .i64 (L.gen : Int)), Is ?r8, Is (.int .i64 (q1 : Int)), Is ?r10, Is (.int .i64 (q2 : Int)), Is (.agg #[.int .i64 (L.r : Int), .int .i64 (L.gen : Int), .int .i64 (q1 : Int), .int .i64 (q2 : Int)])] (by kernel_rfl) (by kernel_rfl) (by kernel_rfl) (by kernel_rfl) rfl rfl ⟨Is.stable _, Is.stable _, Is.stable _, Is.stable _, Is.stable _, Is.stable _, Is.stable _, Is.stable _, Is.stable _, Is.stable _, Is.stable _, Is.stable _, Is.stable _, trivial⟩ ⟨?s0, ?s1, ?s2, ?s3, ?s4, ?s5, ?s6, ?s7, ?s8, ?s9, ?s10, ?s11, ?s12, trivial⟩ ?fin
  case' s0 | s1 | s2 | s3 | s4 | s5 | s6 | s7 | s8 | s9 | s10 | s11 | s12 =>
    intro ρ wr hρ hg hK
    simp [readsOf, slotsOf, Op.operands, Call.operands, tmpOf, List.filterMap_cons, List.filterMap_nil, KnownAll, knownOf, srcOf, depsOf, dstOf, Region.binds, nth, Is] at hK
    obtain ⟨hc, hf, hgl⟩ := hρ
    try simp only [wantedBy, dstOf, boolOf, nth, List.getD_cons_zero, List.getD_cons_succ, List.getElem?_cons_zero, List.getElem?_cons_succ, Option.bind_some, if_true, hK, BEq.rfl]
    try go_simp
    first | exact rfl | (rw [if_pos (by omega)]; exact is_here rfl) | (rw [dif_pos (by omega)]; exact is_here rfl) | exact congrArg (Value.int _) (IntWalk.i64_in _ ⟨by omega, by omega⟩) | skip
  case s3 | s7 =>
    obtain ⟨_, c1, c2⟩ := lst_heads (HB.out.gr hg)
    go_simp
    exact rfl
  case s9 | s11 =>
    obtain ⟨c1, c2, _⟩ := (Blk.of2a hg).two4
    go_simp
    exact rfl
  case fin =>
    intro w1 val hg hH
    simp only [Holds, Is, Nat.zero_add, Nat.reduceAdd] at hH
    obtain ⟨h0, h1, h2, h3, h4, h5, h6, h7, h8, h9, h10, h11, h12, _⟩ := hH
    simp only [List.take_succ_cons, List.take_zero, List.drop_succ_cons, List.drop_zero, putAll, h0, h1, h2, h3, h4, h5, h6, h7, h8, h9, h10, h11, h12, Nat.zero_add, Nat.reduceAdd]
    obtain ⟨c0, c1, c2, c3, f0, f1, f2, f3⟩ := (Blk.of2b hg).four
    go_simp
    go_wp2
    refine bodyPost_ret (v := .agg #[.int .i64 (L.r : Int), .int .i64 (L.gen : Int), .int .i64 (q1 : Int), .int .i64 (q2 : Int)]) (by simp [results, Tryz.results115, go_sem, c0, c1, c2, c3]) rfl ⟨rfl, ?_⟩
    have hk : w.heap.size ≤ w.heap.size + 1 := by omega
    exact ((((g0.trans hg).setCell hk _).setCell hk _).setCell hk _).setCell hk _
/-- bytes that were loaded -/
def LdB (b : List UInt8) : Value → World → Prop := fun v w => ∃ gb cap, v = .slice (some ⟨gb, 0, none⟩) b.length cap ∧ b.length ≤ cap ∧ cap ≤ maxLen ∧ Bytes w (some ⟨gb, 0, none⟩) b
theorem LdB.stable (b : List UInt8) : Stable Gr (LdB b) := fun _ _ _ ⟨gb, cap, e, h1, h2, h3⟩ k => ⟨gb, cap, e, h1, h2, h3.gr k⟩
def LdT (b : List UInt8) : Value → World → Prop := fun v w => ∃ s, v = .tuple #[s, .int .i64 0] ∧ LdB b s w
theorem LdT.stable (b : List UInt8) : Stable Gr (LdT b) := fun _ _ _ ⟨s, e, h⟩ k => ⟨s, e, LdB.stable b _ _ _ h k⟩
theorem LdB.of {w : World} {base : Nat} {ad : Option Addr} {cap : Nat} {b : List UInt8} (h : Owns w base 5 1 ad cap b.length (bv b)) (h1 : 1 ≤ b.length) : LdB b (.slice ad b.length cap) w := by
  obtain ⟨g, rfl, _, _⟩ := h.at (bv_get b 0 (by omega))
  exact ⟨g, cap, rfl, h.2.1, h.2.2.1, h.bytes⟩
set_option maxRecDepth 100000 in
set_option maxHeartbeats 1000000 in
theorem lload_any (w : World) (S : Nat → Prop) (g gl : Nat) (p : PoolF) (L : Ls) (q : Nat × Nat) (b : List UInt8) (h : Sk w S g gl p L) (he : loadF p ⟨(L.r : Int), (L.gen : Int), (q.1 : Int), (q.2 : Int)⟩ = (b, 0)) (h1 : 1 ≤ b.length) :
    Calls Tryz.prog 76 #[.pointer (some ⟨gl, 0, none⟩), lnk q] w fun e w' => ∃ v, e = .returned v ∧ Gr w w' ∧ LdT b v w' := by
  obtain ⟨q1, q2⟩ := q
  have HH := Lib.hid (fun w' (hg : Gr w w') => handle_any w' g gl L (q1, q2) (h.gr hg).blk)
  have HL := Lib.hid (fun w' (hg : Gr w w') => Load_any w' S g p ⟨(L.r : Int), (L.gen : Int), (q1 : Int), (q2 : Int)⟩ (h.gr hg).pool h.ok)
  have HE := Lib.hid he
  unfold lnk at HH ⊢
  simp only at HE HH ⊢
  rw [HE.out] at HL
  have HB := Lib.hid (h.gr (Gr.alloc w (.cells #[.int .i64 (q1 : Int), .int .i64 (q2 : Int)] 121))).blk
  have g0 := Gr.alloc w (.cells #[.int .i64 (q1 : Int), .int .i64 (q2 : Int)] 121)
  clear h he
  go_enter Tryz.func76, Tryz.ntmps76
  go_wp2
  refine region_any_gr _ [Is ?r0x1, Is ?r1x1, Is ?r2x1, Is (.pointer (some ⟨g, 0, none⟩)), Is ?r4x1, Is (.agg #[.int .i64 (q1 : Int), .int .i64 (q2 : Int)]), Is (.agg #[.int .i64 (L.r : Int), .int .i64 (L.gen : Int), .int .i64 (q1 : Int), .int .i64 (q2 : Int)]), LdT b, LdB b, Is (.int .i64 0), LdB b, Is (.int .i64 0)] (by kernel_rfl) (by kernel_rfl) (by kernel_rfl) rfl rfl ⟨Is.stable _, Is.stable _, Is.stable _, Is.stable _, Is.stable _, Is.stable _, Is.stable _, LdT.stable b, LdB.stable b, Is.stable _, LdB.stable b, Is.stable _, trivial⟩ ⟨?s0x1, ?s1x1, ?s2x1, ?s3x1, ?s4x1, ?s5x1, ?s6x1, ?s7x1, ?s8x1, ?s9x1, ?s10x1, ?s11x1, trivial⟩ ?finx1
  case' s0x1 | s1x1 | s2x1 | s3x1 | s4x1 | s5x1 | s6x1 | s7x1 | s8x1 | s9x1 | s10x1 | s11x1 =>
    intro ρ wr hρ hg hK
    simp [readsOf, slotsOf, Op.operands, Call.operands, tmpOf, List.filterMap_cons, List.filterMap_nil, KnownAll, knownOf, srcOf, depsOf, dstOf, Region.binds, nth, Is] at hK
    obtain ⟨hc, hf, hgl⟩ := hρ
    try simp only [wantedBy, dstOf, boolOf, nth, List.getD_cons_zero, List.getD_cons_succ, List.getElem?_cons_zero, List.getElem?_cons_succ, Option.bind_some, if_true, hK, BEq.rfl]
    try go_simp
    first | exact rfl | (rw [if_pos (by omega)]; exact is_here rfl) | (rw [dif_pos (by omega)]; exact is_here rfl) | exact congrArg (Value.int _) (IntWalk.i64_in _ ⟨by omega, by omega⟩) | skip
  case s3x1 =>
    obtain ⟨c1, _, _⟩ := lst_heads (HB.out.gr hg)
    go_simp
    exact rfl
  case s5x1 =>
    obtain ⟨c1, c2, _⟩ := (Blk.of1 hg).two4
    go_simp
    exact rfl
  case s6x1 => exact any_gr (HH.out _ (g0.trans hg))
  case s7x1 =>
    refine (HL.out _ (g0.trans hg)).mono ?_
    rintro e w2 ⟨ad, cap, rfl, ho, hg2⟩
    exact ⟨_, rfl, hg2, _, rfl, LdB.of ho h1⟩
  case s8x1 =>
    obtain ⟨s, e, hs⟩ := hK
    rw [e]
    exact ⟨Gr.refl _, hs⟩
  case s9x1 =>
    obtain ⟨s, e, hs⟩ := hK
    rw [e]
    exact is_here rfl
  case finx1 =>
    intro w1 val hg hH
    simp only [Holds, Is, Nat.zero_add, Nat.reduceAdd] at hH
    obtain ⟨h0, h1, h2, h3, h4, h5, h6, h7, h8, h9, h10, h11, _⟩ := hH
    simp only [List.take_succ_cons, List.take_zero, List.drop_succ_cons, List.drop_zero, putAll, h0, h1, h2, h3, h4, h5, h6, h9, h11, Nat.zero_add, Nat.reduceAdd]
    go_simp
    go_wp2
    go_ret2
    exact ⟨_, rfl, g0.trans hg, _, rfl, h10⟩
set_option maxRecDepth 100000 in
set_option maxHeartbeats 1000000 in
theorem next_none (w : World) (g gl : Nat) (L : Ls) (k : Nat) (hb : Blk w gl 124 (lstV g L)) (hk : k < 12) :
    Calls Tryz.prog 64 #[.pointer (some ⟨gl, 0, none⟩), lnk (0, 0), .int .i64 (k : Int)] w fun e w' => e = .returned (.tuple #[lnk (L.hd k), .int .i64 0]) ∧ Gr w w' := by
  unfold lnk
  generalize hq : L.hd k = q
  obtain ⟨q1, q2⟩ := q
  obtain ⟨c1, c2⟩ := lst_head ((hb.alloc (.cells #[.int .i64 0, .int .i64 0] 121)).alloc (.cells #[.int .i64 0, .int .i64 0] 121)) hk
  rw [hq] at c1 c2
  simp only at c1 c2 ⊢
  clear hq hb
  go_enter Tryz.func64, Tryz.ntmps64
  go_wp2
  refine bodyPost_ret (v := .tuple #[.agg #[.int .i64 (q1 : Int), .int .i64 (q2 : Int)], .int .i64 0]) (by simp [results, Tryz.results64, go_sem]) rfl ⟨rfl, ?_⟩
  exact (Gr.alloc _ _).trans (Gr.alloc _ _)
set_option maxRecDepth 100000 in
set_option maxHeartbeats 1000000 in
theorem next_some (w : World) (S : Nat → Prop) (g gl : Nat) (p : PoolF) (L : Ls) (q : Nat × Nat) (k t : Nat) (f : Nat → Nat × Nat) (c : Ce) (h : Sk w S g gl p L) (he : loadF p ⟨(L.r : Int), (L.gen : Int), (q.1 : Int), (q.2 : Int)⟩ = (nodeB t f c, 0)) (hq : 1 ≤ q.2) (hk : k < t) (t2 : t ≤ 12)
    (hl : (nodeB t f c).length ≤ 2000) (hf1 : (f k).1 < 4294967296) (hf2 : (f k).2 < 4294967296) :
    Calls Tryz.prog 64 #[.pointer (some ⟨gl, 0, none⟩), lnk q, .int .i64 (k : Int)] w fun e w' => e = .returned (.tuple #[lnk (f k), .int .i64 0]) ∧ Gr w w' := by
  have hlen := nodeB_len t f c
  obtain ⟨l1, l2⟩ := nodeB_link f c hk
  have HL := Lib.hid (fun w' (hg : Gr w w') => lload_any w' S g gl p L q _ (h.gr hg) he (by omega))
  generalize nodeB t f c = b at *
  have HK := Lib.hid (fun gb cap w' hc hb => link_any gb 0 cap k (f k).1 (f k).2 b w' (by omega) (by omega) hl hc hb l1 l2 hf1 hf2)
  obtain ⟨q1, q2⟩ := q
  generalize f k = y at *
  obtain ⟨y1, y2⟩ := y
  unfold lnk at HL HK ⊢
  simp only at hq HL HK ⊢
  have hqb : ((q2 : Int) == 0) = false := by rw [beq_eq_false_iff_ne]; omega
  have g0 : Gr w ((w.alloc (.cells #[.int .i64 (q1 : Int), .int .i64 (q2 : Int)] 121)).alloc (.cells #[.int .i64 0, .int .i64 0] 121)) := (Gr.alloc _ _).trans (Gr.alloc _ _)
  clear he hf1 hf2 l1 l2 hlen hl h
  go_enter Tryz.func64, Tryz.ntmps64
  go_wp2_with (first
    | (go_at_call 76; go_must (refine (HL.out _ g0).mono ?_); rintro e w2 ⟨v, rfl, g2, s, rfl, gb, cap, rfl, hc1, hc2, hb⟩; have HB := Lib.hid hb; clear hb)
    | (go_at_call 111; go_must (refine (HK.out _ _ _ hc1 HB.out).mono ?_); rintro e w3 ⟨rfl, g3⟩; obtain ⟨d0, d1, f0, f1⟩ := ((Blk.of2b g2).gr g3).two4)
    | fail)
  refine bodyPost_ret (v := .tuple #[.agg #[.int .i64 (y1 : Int), .int .i64 (y2 : Int)], .int .i64 0]) (by simp [results, Tryz.results64, go_sem, d0, d1]) rfl ⟨rfl, ?_⟩
  have hz : w.heap.size ≤ w.heap.size + 1 := by omega
  exact (((g0.trans g2).trans g3).setCell hz _).setCell hz _
end Go.Proofs.YtpaogoehgkoaeaaGreatDoor
/- Layer 11 (skip): is a version there; what may be inserted. -/
namespace Go.Proofs.YtpaogoehgkoaeaaGreatDoor
set_option linter.unusedVariables false
set_option linter.unusedSimpArgs false
open Go.RowKit Ikey Varint
set_option maxRecDepth 100000 in
set_option maxHeartbeats 1000000 in
theorem there_none (w : World) (gl : Nat) (k : List UInt8) (s d : Int) :
    Calls Tryz.prog 61 #[.pointer (some ⟨gl, 0, none⟩), lnk (0, 0), ver k s d] w fun e w' => e = .returned (.tuple #[.bool false, .int .i64 0]) ∧ Gr w w' := by
  unfold lnk ver
  go_enter Tryz.func61, Tryz.ntmps61
  go_wp2
  go_ret2
  exact ⟨rfl, (Gr.alloc _ _).trans (Gr.alloc _ _)⟩
def isV (c : Ce) (v : Vr) : Bool := decide (c.key = v.key) && decide ((c.seq : Int) = v.seq) && decide ((c.kind : Int) = v.kind)
set_option maxRecDepth 100000 in
set_option maxHeartbeats 1000000 in
theorem there_some (w : World) (S : Nat → Prop) (g gl : Nat) (p : PoolF) (L : Ls) (q : Nat × Nat) (v : Vr) (t : Nat) (f : Nat → Nat × Nat) (c : Ce) (h : Sk w S g gl p L) (he : loadF p ⟨(L.r : Int), (L.gen : Int), (q.1 : Int), (q.2 : Int)⟩ = (nodeB t f c, 0)) (hq : 1 ≤ q.2) 
    (t1 : 1 ≤ t) (t2 : t ≤ 12) (hok : okV c.key c.seq c.kind = true) (hv : c.val.length ≤ 1000) :
    Calls Tryz.prog 61 #[.pointer (some ⟨gl, 0, none⟩), lnk q, ver v.key v.seq v.kind] w fun e w' => e = .returned (.tuple #[.bool (isV c v), .int .i64 0]) ∧ Gr w w' := by
  obtain ⟨k, s, d⟩ := v
  have HL := Lib.hid (fun w' (hg : Gr w w') => lload_any w' S g gl p L q _ (h.gr hg) he (by rw [nodeB_len]; omega))
  have HC := Lib.hid (fun b cap w' hc hcm hb => cell_any b 0 cap _ t f c w' t1 t2 hok hv rfl hc hcm hb)
  have HI := Lib.hid (show isV c ⟨k, s, d⟩ = (decide (c.key = k) && decide ((c.seq : Int) = s) && decide ((c.kind : Int) = d)) from rfl)
  generalize nodeB t f c = b at *
  obtain ⟨q1, q2⟩ := q
  unfold lnk at HL ⊢
  unfold ceV at HC
  unfold ver
  simp only at hq HL HC ⊢
  have hqb : ((q2 : Int) == 0) = false := by rw [beq_eq_false_iff_ne]; omega
  have g0 : Gr w ((w.alloc (.cells #[.int .i64 (q1 : Int), .int .i64 (q2 : Int)] 121)).alloc (.cells #[.string (str k), .int .i64 s, .int .i64 d] 40)) := (Gr.alloc _ _).trans (Gr.alloc _ _)
  clear he h hok hv t1 t2
  obtain ⟨ck, cs, cd, cv⟩ := c
  simp only at HC HI
  go_enter Tryz.func61, Tryz.ntmps61
  go_wp2_with (first
    | (go_at_call 76; go_must (refine (HL.out _ g0).mono ?_); rintro e w2 ⟨v, rfl, g2, s, rfl, gb, cap, rfl, hc1, hc2, hb⟩; have HB := Lib.hid hb; clear hb)
    | (go_at_call 77; go_must (refine (HC.out _ _ _ hc1 hc2 HB.out).mono ?_); rintro e w3 ⟨rfl, g3⟩; obtain ⟨d0, d1, d2, _⟩ := (((Blk.of2b g2).gr g3).alloc (.cells #[.string (str ck), .int .i64 (cs : Int), .int .i64 (cd : Int), .string (str cv)] 56)).three)
    | fail)
  all_goals
    go_ret2
    refine ⟨?_, ((g0.trans g2).trans g3).trans (Gr.alloc _ _)⟩
    rw [HI.out]
    simp [*]
end Go.Proofs.YtpaogoehgkoaeaaGreatDoor
/- Layer 11 (skip): the walk along the levels. -/
namespace Go.Proofs.YtpaogoehgkoaeaaGreatDoor
set_option linter.unusedVariables false
set_option linter.unusedSimpArgs false
open Go.RowKit Ikey Varint
/-- behind what a walk stands -/
def Lies (N : List Nd) (o : Option Nd) (b : List Nd) (k : Nat) : Prop := (o = none ∧ b = N) ∨ ∃ a x, o = some x ∧ N = a ++ x :: b ∧ k < x.t
theorem firstN_mem {k : Nat} {b : List Nd} {x : Nd} (h : firstN k b = some x) : x ∈ b := by
  obtain ⟨a, c, rfl, _⟩ := firstN_some h
  simp
theorem linkF_lt {p : PoolF} {r gen : Nat} {hd : Nat → Nat × Nat} {N b : List Nd} (hp : PoolOk p) (h : SkSt p r gen hd N) (hb : ∀ x ∈ b, x ∈ N) (k : Nat) : (linkF (firstN k b)).1 < 4294967296 ∧ (linkF (firstN k b)).2 < 4294967296 := by
  cases hf : firstN k b with
  | none => exact ⟨by decide, by decide⟩
  | some x =>
    have := h.off_lt hp (hb x (firstN_mem hf))
    show x.off < _ ∧ x.size < _
    omega
theorem next_any (w : World) (S : Nat → Prop) (g gl : Nat) (p : PoolF) (L : Ls) (N b : List Nd) (o : Option Nd) (k : Nat) (h : Sk w S g gl p L) (st : SkSt p L.r L.gen L.hd N) (hl : Lies N o b k) (hk : k < 12) :
    Calls Tryz.prog 64 #[.pointer (some ⟨gl, 0, none⟩), lnk (linkF o), .int .i64 (k : Int)] w fun e w' => e = .returned (.tuple #[lnk (linkF (firstN k b)), .int .i64 0]) ∧ Gr w w' := by
  rcases hl with ⟨rfl, rfl⟩ | ⟨a, x, rfl, hN, hx⟩
  · have := next_none w g gl L k h.blk hk
    rw [st.heads k hk] at this
    exact this
  · have hm : x ∈ N := by rw [hN]; simp
    obtain ⟨n1, n2⟩ := st.node x hm
    have hs := nd_size n1
    have he := st.ld a x b hN
    obtain ⟨l1, l2⟩ := linkF_lt h.ok st (b := b) (fun y hy => by rw [hN]; simp [hy]) k
    exact next_some w S g gl p L (x.off, x.size) k x.t _ x.c h he (by show 1 ≤ x.size; omega) hx n1.t2 (by have h1 := nodeB_len x.t (fun k => linkF (firstN k b)) x.c; have h2 := n1.sz; omega) l1 l2
/-- what is asked of a version by a function value -/
structure Asks (w : World) (K : FuncId) (caps : Array Value) (q : Vr → Bool) : Prop where
  ent : ∀ args w', (callFunc K args).run Tryz.prog w' = .ok (.enter K args) w'
  ask : ∀ w' u, Gr w w' → Calls Tryz.prog K (#[ver u.key u.seq u.kind] ++ caps) w' fun e w2 => e = .returned (.bool (q u)) ∧ Gr w' w2
def pathF (A : List Nd) (m : Nat) (k : Nat) : Nat × Nat := if m ≤ k then linkF (lastN k A) else (0, 0)
theorem pathF_all (A : List Nd) : rowV (pathF A 0) 12 = rowV (fun k => linkF (lastN k A)) 12 := rowV_congr 12 fun k _ => by unfold pathF; rw [if_pos (Nat.zero_le _)]
theorem pathF_none (A : List Nd) : rowV (pathF A 12) 12 = rowV (fun _ => (0, 0)) 12 := rowV_congr 12 fun k hk => by unfold pathF; rw [if_neg (by omega)]
theorem pathF_set (A : List Nd) (m : Nat) : upd (pathF A (m + 1)) m (linkF (lastN m A)) = pathF A m := by
  funext k
  unfold upd pathF
  by_cases e : k = m
  · subst e; rw [if_pos rfl, if_pos (Nat.le_refl _)]
  · rw [if_neg e]
    by_cases h : m ≤ k
    · rw [if_pos h, if_pos (by omega)]
    · rw [if_neg h, if_neg (by omega)]
def lkV (q : Nat × Nat) : List Value := [.int .i64 (q.1 : Int), .int .i64 (q.2 : Int)]
theorem ah_store {w W : World} {A : List Nd} {k : Nat} {q : Nat × Nat} (hg : Gr w W) (hb0 : Blk W w.heap.size 122 (rowV (fun _ => (0, 0)) 12)) (hb1 : Blk W (w.heap.size + 1) 122 (rowV (pathF A (k + 1)) 12))
    (hb2 : Blk W (w.heap.size + 1 + 1) 121 (lkV q)) (hk : k < 12) (hl : lastN k A = none ∧ q = (0, 0) ∨ linkF (lastN k A) = q) :
    Gr w ((W.setCell ⟨w.heap.size + 1, k * 2, none⟩ (.int .i64 (q.1 : Int))).setCell ⟨w.heap.size + 1, k * 2 + 1, none⟩ (.int .i64 (q.2 : Int))) ∧
    Blk ((W.setCell ⟨w.heap.size + 1, k * 2, none⟩ (.int .i64 (q.1 : Int))).setCell ⟨w.heap.size + 1, k * 2 + 1, none⟩ (.int .i64 (q.2 : Int))) w.heap.size 122 (rowV (fun _ => (0, 0)) 12) ∧
    Blk ((W.setCell ⟨w.heap.size + 1, k * 2, none⟩ (.int .i64 (q.1 : Int))).setCell ⟨w.heap.size + 1, k * 2 + 1, none⟩ (.int .i64 (q.2 : Int))) (w.heap.size + 1) 122 (rowV (pathF A k) 12) ∧
    Blk ((W.setCell ⟨w.heap.size + 1, k * 2, none⟩ (.int .i64 (q.1 : Int))).setCell ⟨w.heap.size + 1, k * 2 + 1, none⟩ (.int .i64 (q.2 : Int))) (w.heap.size + 1 + 1) 121 (lkV q) := by
  have hl' : linkF (lastN k A) = q := by
    rcases hl with ⟨h1, h2⟩ | h
    · rw [h1, h2]; rfl
    · exact h
  have h1 := (hb1.set_ (k * 2) (.int .i64 (q.1 : Int))).set_ (k * 2 + 1) (.int .i64 (q.2 : Int))
  rw [rowV_set _ q 12 k hk, ← hl', pathF_set] at h1
  rw [hl'] at h1
  refine ⟨(hg.setCell (Nat.le_succ _) _).setCell (Nat.le_succ _) _, (hb0.far (by simp) _).far (by simp) _, h1, (hb2.far (by simp) _).far (by simp) _⟩
set_option maxRecDepth 100000 in
set_option maxHeartbeats 4000000 in
theorem ahead_any (w : World) (S : Nat → Prop) (g gl : Nat) (p : PoolF) (L : Ls) (A B : List Nd) (K : FuncId) (caps : Array Value) (q : Vr → Bool) (h : Sk w S g gl p L) (st : SkSt p L.r L.gen L.hd (A ++ B)) (full : ∀ x ∈ A ++ B, x.h = x.t)
    (hq : Asks w K caps q) (hA : ∀ x ∈ A, q x.c.vr = true) (hB : ∀ x ∈ B, q x.c.vr = false) :
    Calls Tryz.prog 108 #[.pointer (some ⟨gl, 0, none⟩), .func (.func K) #[] caps] w fun e w' => e = .returned (.tuple #[.agg (rowV (fun k => linkF (lastN k A)) 12).toArray, .int .i64 0]) ∧ Gr w w' := by
  have HS := Lib.hid h
  have HST := Lib.hid st
  have HF := Lib.hid full
  have HQ := Lib.hid hq
  have HA := Lib.hid hA
  have HB := Lib.hid hB
  have b0 := Blk.of3a (w := w) (t := 122) (cs := (rowV (fun _ => (0, 0)) 12).toArray) (o := .cells (rowV (fun _ => (0, 0)) 12).toArray 122) (o' := .cells #[.int .i64 0, .int .i64 0] 121) (Gr.refl _)
  have b1 := Blk.of3b (w := w) (t := 122) (cs := (rowV (fun _ => (0, 0)) 12).toArray) (o := .cells (rowV (fun _ => (0, 0)) 12).toArray 122) (o' := .cells #[.int .i64 0, .int .i64 0] 121) (Gr.refl _)
  have b2 := Blk.of3c (w := w) (t := 121) (cs := #[.int .i64 0, .int .i64 0]) (o := .cells (rowV (fun _ => (0, 0)) 12).toArray 122) (o' := .cells (rowV (fun _ => (0, 0)) 12).toArray 122) (Gr.refl _)
  have g0 : Gr w (((w.alloc (.cells (rowV (fun _ => (0, 0)) 12).toArray 122)).alloc (.cells (rowV (fun _ => (0, 0)) 12).toArray 122)).alloc (.cells #[.int .i64 0, .int .i64 0] 121)) := ((Gr.alloc _ _).trans (Gr.alloc _ _)).trans (Gr.alloc _ _)
  rw [← pathF_none A] at b1
  have HB0 := Lib.hid b0; have HB1 := Lib.hid b1; have HB2 := Lib.hid b2; have G0 := Lib.hid g0
  clear h st full hq hA hB b0 b1 b2 g0
  go_enter Tryz.func108, Tryz.ntmps108
  go_wp2
  go_loopw [8] (fun v wr => ∃ (m : Nat) (d r : List Nd), m ≤ 12 ∧ v = .int .i64 ((m : Int) - 1) ∧ A = d ++ r ∧ (∀ x, d.getLast? = some x → m < x.h) ∧ Gr w wr ∧ Blk wr w.heap.size 122 (rowV (fun _ => (0, 0)) 12) ∧
    Blk wr (w.heap.size + 1) 122 (rowV (pathF A m) 12) ∧ Blk wr (w.heap.size + 1 + 1) 121 (lkV (linkF d.getLast?))) (fun v _ => (intOf v + 1).toNat)
  case atStart => exact ⟨12, [], A, Nat.le_refl _, rfl, rfl, fun x hx => by simp at hx, G0.out, HB0.out, HB1.out, HB2.out⟩
  case round =>
    clear HB0 HB1 HB2 G0
    obtain ⟨m0, d, r, hm, rfl, hAdr, hlast, hg, hb0, hb1, hb2⟩ := hrel
    rcases m0 with _ | k
    · rw [pathF_all] at hb1
      clear hAdr hlast hb2 hm
      go_wp2_with (first
        | ((with_reducible show Go.wpList _ _ _ (Oper.mk _ (Op.load 122 _) _ _ _ _ :: _) _ _); go_must (refine wp_load_blk rfl _ _ rfl rfl hb1 Tryz.underlying122 rfl (n := 24) (by kernel_rfl) (rowV_len _ 12) ?_))
        | ((with_reducible show Go.wpList _ _ _ (Oper.mk _ (Op.store 122 _ _) _ _ _ _ :: _) _ _); go_must (refine wp_store_blk rfl _ _ _ rfl rfl rfl hb0 (n := 24) (by kernel_rfl) (rowV_len _ 12) (rowV_len _ 12) (rowV_one _ 12) ?_))
        | fail)
      refine bodyPost_ret (results_cell_tmp rfl rfl (load_blk (hb0.setRow' _) Tryz.underlying122 rfl (n := 24) (by kernel_rfl) (rowV_len _ 12))) rfl ⟨rfl, gr_setRow hg (Nat.le_refl _) _⟩
    · have hk : k < 12 := by omega
      have hkI : ((k + 1 : Nat) : Int) - 1 = (k : Int) := by omega
      rw [hkI]
      have HADR := Lib.hid hAdr
      have HLAST := Lib.hid (show ∀ x, d.getLast? = some x → k < x.h from fun x hx => by have := hlast x hx; omega)
      have HG := Lib.hid hg
      have HB0 := Lib.hid hb0; have HB1 := Lib.hid hb1; have HB2 := Lib.hid hb2
      clear hAdr hlast hg hb0 hb1 hb2 hkI hm
      go_wp2
      go_loopg [] r.length (fun n wi => ∃ (d r : List Nd), r.length ≤ n ∧ A = d ++ r ∧ (∀ x, d.getLast? = some x → k < x.h) ∧ Gr w wi ∧ Blk wi w.heap.size 122 (rowV (fun _ => (0, 0)) 12) ∧
        Blk wi (w.heap.size + 1) 122 (rowV (pathF A (k + 1)) 12) ∧ Blk wi (w.heap.size + 1 + 1) 121 (lkV (linkF d.getLast?)))
      case atStart => exact ⟨d, r, Nat.le_refl _, HADR.out, HLAST.out, HG.out, HB0.out, HB1.out, HB2.out⟩
      case round =>
        clear HADR HLAST HG HB0 HB1 HB2
        obtain ⟨d, r, hr, hAdr, hlast, hg, hb0, hb1, hb2⟩ := hrel
        have HLI := Lib.hid (show Lies (A ++ B) d.getLast? (r ++ B) k by
          rcases List.eq_nil_or_concat d with rfl | ⟨d', x, rfl⟩
          · exact .inl ⟨rfl, by rw [hAdr]; simp⟩
          · rw [List.concat_eq_append] at hAdr hlast ⊢
            have hx := hlast x (by simp)
            have hm : x ∈ A ++ B := by rw [hAdr]; simp
            exact .inr ⟨d', x, by simp, by rw [hAdr]; simp, by have := HF.out x hm; omega⟩)
        have HNX := Lib.hid (fun w' (hg' : Gr w w') => next_any w' S g gl p L (A ++ B) (r ++ B) d.getLast? k (HS.out.gr hg') HST.out HLI.out hk)
        obtain ⟨e0, e1, _, _⟩ := hb2.two4
        have HADR := Lib.hid hAdr; have HLAST := Lib.hid hlast; have HG := Lib.hid hg; have HR := Lib.hid hr
        have HB0 := Lib.hid hb0; have HB1 := Lib.hid hb1; have HB2 := Lib.hid hb2
        have hsz := hg.size
        have hl2 := hb2.lt
        clear hAdr hlast hg hb0 hb1 hb2 HLI hr
        unfold lnk at HNX
        cases hfn : firstN k (r ++ B) with
        | none =>
          rw [hfn] at HNX
          unfold linkF at HNX
          have HFN := Lib.hid hfn
          clear hfn
          go_wp2_with (first
            | (go_at_call 64; go_must (refine (HNX.out _ HG.out).mono ?_); rintro e w2 ⟨rfl, g2⟩
               have G2 := g2.trans (Gr.alloc w2 (.cells #[.int .i64 0, .int .i64 0] 121))
               obtain ⟨x0, x1, _, _⟩ := (HB2.out.gr G2).two4
               have hb1 := HB1.out.gr G2
               have y0 := hb1.cell (rowV_get _ 12 k hk).1
               have y1 := hb1.cell (rowV_get _ 12 k hk).2
               have z0 := hb1.frozen (k * 2)
               have z1 := hb1.frozen (k * 2 + 1)
               have GW := HG.out.trans G2
               have HB1' := Lib.hid hb1
               clear hb1)
            | fail)
          go_roundw
          case rel =>
            have hall : ∀ n ∈ r, n.h ≤ k := fun n hn => firstN_none.1 HFN.out n (List.mem_append_left _ hn)
            refine ⟨k, d, r, by omega, rfl, HADR.out, HLAST.out, ah_store GW (HB0.out.gr G2) HB1'.out (HB2.out.gr G2) hk (.inr ?_)⟩
            rw [HADR.out, lastN_done hall HLAST.out]
          case measure => simp [intOf]
        | some x =>
          obtain ⟨a1, b1, hsp, _, _⟩ := firstN_some hfn
          have hN : A ++ B = (d ++ a1) ++ x :: b1 := by rw [HADR.out, List.append_assoc, hsp, List.append_assoc]
          have hxm : x ∈ A ++ B := by rw [hN]; simp
          obtain ⟨n1, _⟩ := HST.out.node x hxm
          have hs14 := (nd_size n1).1
          have hbl := nodeB_len x.t (fun k => linkF (firstN k b1)) x.c
          have HLD := Lib.hid (fun w' (hg' : Gr w w') => lload_any w' S g gl p L (x.off, x.size) _ (HS.out.gr hg') (HST.out.ld _ x b1 hN) (by omega))
          have HCE := Lib.hid (fun b cap w' hc hcm hb => cell_any b 0 cap _ x.t (fun k => linkF (firstN k b1)) x.c w' n1.t1 n1.t2 n1.ok n1.vl rfl hc hcm hb)
          have HST2 := Lib.hid (step_done (d := d) (fun y => q y.c.vr) (fun n hn => HA.out n (by rw [HADR.out]; simp [hn])) HB.out hfn)
          have hxz : ((x.size : Int) == 0) = false := by rw [beq_eq_false_iff_ne]; omega
          rw [hfn] at HNX
          have hlk : linkF (some x) = (x.off, x.size) := rfl
          rw [hlk] at HNX
          unfold lnk at HLD
          unfold ceV at HCE
          simp only at HLD HCE HNX
          generalize nodeB x.t (fun k => linkF (firstN k b1)) x.c = bb at *
          clear hfn hsp hN hxm n1 hbl hlk
          have HASK := Lib.hid (fun w' (hg' : Gr w w') => HQ.out.ask w' x.c.vr hg')
          unfold ver Ce.vr at HASK
          have hent := HQ.out.ent
          have hb02 : w.heap.size ≤ w.heap.size + 1 + 1 := by omega
          cases hqx : q x.c.vr with
          | true =>
            unfold Ce.vr at hqx
            rw [hqx] at HASK
            obtain ⟨a2, c2, hr2, hk2, hl2', hd2⟩ := HST2.out.1 hqx
            have HQ2 := Lib.hid hr2; have HK2 := Lib.hid hk2; have HL2 := Lib.hid hl2'; have HD2 := Lib.hid hd2
            clear hqx HST2 hr2 hk2 hl2' hd2
            go_wp2_with (first
              | (go_at_call 64; go_must (refine (HNX.out _ HG.out).mono ?_); rintro e w2 ⟨rfl, g2⟩)
              | (go_at_call 76; go_must (refine (HLD.out _ (HG.out.trans (g2.trans (Gr.alloc _ _)))).mono ?_); rintro e w3 ⟨v, rfl, g3, s, rfl, gb, cap, rfl, hc1, hc2, hb⟩; have HBY := Lib.hid hb; clear hb)
              | (go_at_call 77; go_must (refine (HCE.out _ _ _ hc1 hc2 HBY.out).mono ?_); rintro e w4 ⟨rfl, g4⟩)
              | (with_reducible show Calls _ K _ _ _
                 go_must (refine (HASK.out _ (HG.out.trans ((((g2.trans (Gr.alloc _ _)).trans g3).trans g4).trans (Gr.alloc _ _)))).mono ?_); rintro e w5 ⟨rfl, g5⟩
                 have G5 := (((((Gr.alloc w2 (.cells #[.int .i64 (x.off : Int), .int .i64 (x.size : Int)] 121)).trans g3).trans g4).trans (Gr.alloc _ _)).trans g5)
                 have G5w := HG.out.trans (g2.trans G5)
                 obtain ⟨x0, x1, _, _⟩ := (Blk.of1 (g3.trans (g4.trans ((Gr.alloc _ _).trans g5)))).two4
                 have hb2 := HB2.out.gr (g2.trans G5)
                 obtain ⟨y0, y1, z0, z1⟩ := hb2.two4
                 have HB2' := Lib.hid hb2
                 clear hb2)
              | fail)
            go_roundg c2.length
            case measure => have h1 := HR.out; rw [HQ2.out] at h1; simp at h1; omega
            case rel =>
              have e1 := HL2.out
              refine ⟨d ++ a2 ++ [x], c2, Nat.le_refl _, by rw [HADR.out]; exact HD2.out, fun y hy => ?_, (G5w.setCell hb02 _).setCell hb02 _, ((HB0.out.gr (g2.trans G5)).far (by simp; omega) _).far (by simp; omega) _, ((HB1.out.gr (g2.trans G5)).far (by simp) _).far (by simp) _, ?_⟩
              · rw [e1] at hy; cases hy; exact HK2.out
              · rw [e1]
                have h3 := (HB2'.out.set_ 0 (.int .i64 (x.off : Int))).set_ 1 (.int .i64 (x.size : Int))
                exact h3
          | false =>
            unfold Ce.vr at hqx
            rw [hqx] at HASK
            have hall := HST2.out.2 hqx
            have HALL := Lib.hid hall
            clear hqx HST2 hall
            go_wp2_with (first
              | (go_at_call 64; go_must (refine (HNX.out _ HG.out).mono ?_); rintro e w2 ⟨rfl, g2⟩)
              | (go_at_call 76; go_must (refine (HLD.out _ (HG.out.trans (g2.trans (Gr.alloc _ _)))).mono ?_); rintro e w3 ⟨v, rfl, g3, s, rfl, gb, cap, rfl, hc1, hc2, hb⟩; have HBY := Lib.hid hb; clear hb)
              | (go_at_call 77; go_must (refine (HCE.out _ _ _ hc1 hc2 HBY.out).mono ?_); rintro e w4 ⟨rfl, g4⟩)
              | (with_reducible show Calls _ K _ _ _
                 go_must (refine (HASK.out _ (HG.out.trans ((((g2.trans (Gr.alloc _ _)).trans g3).trans g4).trans (Gr.alloc _ _)))).mono ?_); rintro e w5 ⟨rfl, g5⟩
                 have G5 := (((((Gr.alloc w2 (.cells #[.int .i64 (x.off : Int), .int .i64 (x.size : Int)] 121)).trans g3).trans g4).trans (Gr.alloc _ _)).trans g5)
                 have G5w := HG.out.trans (g2.trans G5)
                 obtain ⟨x0, x1, _, _⟩ := (Blk.of1 (g3.trans (g4.trans ((Gr.alloc _ _).trans g5)))).two4
                 have hb2 := HB2.out.gr (g2.trans G5)
                 obtain ⟨y0, y1, z0, z1⟩ := hb2.two4
                 have HB2' := Lib.hid hb2
                 clear hb2
                 have hb1 := HB1.out.gr (g2.trans G5)
                 have p0 := hb1.cell (rowV_get _ 12 k hk).1
                 have p1 := hb1.cell (rowV_get _ 12 k hk).2
                 have q0 := hb1.frozen (k * 2)
                 have q1 := hb1.frozen (k * 2 + 1)
                 have HB1' := Lib.hid hb1
                 clear hb1)
              | fail)
            go_roundw
            case rel =>
              refine ⟨k, d, r, by omega, rfl, HADR.out, HLAST.out, ah_store G5w (HB0.out.gr (g2.trans G5)) HB1'.out HB2'.out hk (.inr ?_)⟩
              rw [HADR.out, lastN_done HALL.out HLAST.out]
            case measure => simp [intOf]
end Go.Proofs.YtpaogoehgkoaeaaGreatDoor
/- A region that draws its order, in which rows of the call's own get their last contents, wherever the stores stand. No program is in sight here. -/
namespace Go.Proofs.YtpaogoehgkoaeaaGreatDoor
set_option linter.unusedVariables false
set_option linter.unusedSimpArgs false
open Go.RowKit
/-- only blocks of T have changed, and to what T tells -/
structure FinL (T : Nat → Option Obj) (w w' : World) : Prop where
  os : w'.os = w.os
  tape : w'.tape = w.tape
  output : w'.output = w.output
  size : w.heap.size ≤ w'.heap.size
  block : ∀ j, j < w.heap.size → T j = none → w'.heap[j]? = w.heap[j]?
  fin : ∀ j o, T j = some o → w'.heap[j]? = w.heap[j]? ∨ w'.heap[j]? = some o
section
variable {T : Nat → Option Obj} {a b c w w' : World}
theorem FinL.refl (w : World) : FinL T w w := ⟨rfl, rfl, rfl, Nat.le_refl _, fun _ _ _ => rfl, fun _ _ _ => .inl rfl⟩
theorem FinL.trans (h : FinL T a b) (k : FinL T b c) : FinL T a c :=
  ⟨k.os.trans h.os, k.tape.trans h.tape, k.output.trans h.output, Nat.le_trans h.size k.size, fun j hj hT => (k.block j (Nat.lt_of_lt_of_le hj h.size) hT).trans (h.block j hj hT), fun j o hT => by
    rcases k.fin j o hT with k1 | k1
    · rcases h.fin j o hT with h1 | h1
      · exact .inl (k1.trans h1)
      · exact .inr (k1.trans h1)
    · exact .inr k1⟩
theorem FinL.drew (w : World) : FinL T w w.drew := ⟨rfl, rfl, rfl, Nat.le_refl _, fun _ _ _ => rfl, fun _ _ _ => .inl rfl⟩
theorem Gr.fin (h : Gr w w') (hT : ∀ j o, T j = some o → j < w.heap.size) : FinL T w w' := ⟨h.os, h.tape, h.output, h.size, fun j hj _ => h.block j hj, fun j o hj => .inl (h.block j (hT j o hj))⟩
theorem FinL.gr (h : FinL T w w') (k : Gr a w) (hT : ∀ j o, T j = some o → a.heap.size ≤ j) : Gr a w' :=
  ⟨h.os.trans k.os, h.tape.trans k.tape, h.output.trans k.output, Nat.le_trans k.size h.size, fun j hj => (h.block j (Nat.lt_of_lt_of_le hj k.size) (by
    cases ho : T j with
    | none => rfl
    | some o => have := hT j o ho; omega)).trans (k.block j hj)⟩
theorem FinL.blk (h : FinL T w w') {g : Nat} {t : TypeId} {cs : List Value} (hb : Blk w g t cs) (hn : T g = none) : Blk w' g t cs := (h.block g hb.lt hn).trans hb
theorem FinL.cell (h : FinL T w w') {p : Addr} {v : Value} (hp : w.cell? p = some v) (hn : T p.block = none) : w'.cell? p = some v := by
  have := h.block p.block (World.block_lt_of_cell? w p hp) hn
  unfold World.cell? at hp ⊢
  rw [this]; exact hp
theorem FinL.bytes (h : FinL T w w') {ad : Option Addr} {l : List UInt8} (hb : Bytes w ad l) (hn : ∀ x, ad = some x → T x.block = none) : Bytes w' ad l := fun i hi => by
  obtain ⟨b, off, e, hc⟩ := hb i hi
  exact ⟨b, off, e, h.cell hc (hn ⟨b, off, none⟩ e)⟩
/-- a row that has its last contents -/
def Put (T : Nat → Option Obj) (j : Nat) : Value → World → Prop := fun _ w => ∀ o, T j = some o → w.heap[j]? = some o
theorem Put.stable (j : Nat) : Stable (FinL T) (Put T j) := fun _ _ _ h k o ho => by
  rcases k.fin j o ho with h1 | h1
  · exact h1.trans (h o ho)
  · exact h1
theorem Put.blk {j : Nat} {v : Value} {t : TypeId} {cs : List Value} (h : Put T j v w) (hT : T j = some (.cells cs.toArray t (0, 0))) : Blk w j t cs := h _ hT
@[go_sem] theorem fin_refl (w : World) : FinL T w w ↔ True := ⟨fun _ => trivial, fun _ => FinL.refl w⟩
variable {P : Program}
theorem fin_store {W wr : World} (hg : FinL T W wr) {j : Nat} {t ty : TypeId} {cs0 cs : List Value} {n : Nat} (h0 : Blk W j t cs0) (hT : T j = some (.cells cs.toArray t (0, 0))) (hi : (P.info? ty).map (·.size) = some n) (hn : cs0.length = n) (hn' : cs.length = n) (h1 : ∀ v ∈ cs, v.oneCell' = true) :
    ∃ wr', (Instr.storeAt ty (.pointer (some ⟨j, 0, none⟩)) (.agg cs.toArray)).run P wr = .ok () wr' ∧ FinL T wr wr' ∧ ∀ v, Put T j v wr' := by
  have hb : ∃ x, Blk wr j t x ∧ x.length = n := by
    rcases hg.fin j _ hT with h | h
    · exact ⟨cs0, h.trans h0, hn⟩
    · exact ⟨cs, h, hn'⟩
  obtain ⟨x, hx, hl⟩ := hb
  have hr := run_storeVar_row (P := P) wr j t ty x.toArray cs.toArray hx (by rw [hi]; simp [hn']) (by simp [hl, hn']) (all_oneCell_toArray h1)
  have hb2 := hx.setRow' cs
  refine ⟨wr.setRow j cs.toArray, by simp only [Instr.storeAt, Instr.sureAddr, Sem.run_bind, Sem.run_pure, Result.andThen_ok, hr], ⟨rfl, rfl, rfl, by simp, fun k hk hkT => setRow_other wr j k _ (fun e => by rw [e, hT] at hkT; cases hkT), fun k o hk => ?_⟩, fun v o ho => ?_⟩
  · by_cases e : k = j
    · subst e
      rw [hT] at hk
      cases hk
      exact .inr hb2
    · exact .inl (setRow_other wr j k _ e)
  · rw [hT] at ho
    cases ho
    exact hb2
theorem fin_put {W wr : World} (hg : FinL T W wr) {ρ : Operand → Value} {o : Oper} (ty : TypeId) (x y : Operand) (ho : o.op = .store ty x y) {j : Nat} {t : TypeId} {cs0 cs : List Value} {n : Nat} (hx : ρ x = .pointer (some ⟨j, 0, none⟩)) (hy : ρ y = .agg cs.toArray)
    (h0 : Blk W j t cs0) (hT : T j = some (.cells cs.toArray t (0, 0))) (hi : (P.info? ty).map (·.size) = some n) (hn : cs0.length = n) (hn' : cs.length = n) (h1 : ∀ v ∈ cs, v.oneCell' = true) :
    growUpon P (FinL T) wr (Put T j) ((execOp ρ o).run P wr) := by
  obtain ⟨wr', hr, h2, h3⟩ := fin_store (P := P) (ty := ty) hg h0 hT hi hn hn' h1
  unfold execOp
  simp only [ho, hx, hy, Sem.run_bind, hr, Result.andThen_ok, Sem.run_pure]
  exact ⟨h2, h3 _⟩
theorem fin_load {W wr : World} (hg : FinL T W wr) {ρ : Operand → Value} {o : Oper} (ty : TypeId) (x : Operand) (ho : o.op = .load ty x) {j : Nat} {t : TypeId} {cs : List Value} {d : TypeDesc} {n : Nat} (hx : ρ x = .pointer (some ⟨j, 0, none⟩))
    (hb : Blk W j t cs) (hT : T j = none) (hu : P.underlying ty = some d) (hd : d.isRow = true) (hi : (P.info? ty).map (·.size) = some n) (hn : cs.length = n) :
    growUpon P (FinL T) wr (Is (.agg cs.toArray)) ((execOp ρ o).run P wr) := by
  have hr := load_blk (P := P) (ty := ty) (hg.blk hb hT) hu hd hi hn
  unfold execOp
  simp only [ho, hx, Instr.loadAt, Instr.sureAddr, Sem.run_bind, Sem.run_pure, Result.andThen_ok, hr]
  exact ⟨FinL.refl _, rfl⟩
theorem region_fin {id : Nat} {Q : Exit → Act → World → Prop} {a0 : Act} {w : World} {l : List Oper} (T : Nat → Option Obj) (n : Nat) (Rs : List (Value → World → Prop))
    (hm : P.follows .mixedOrders = true) (hB : anyB l n = true) (_ : true = true) (hlen : Rs.length = l.length) (hn : a0.tmps.size = n) (hst : AllStable (FinL T) Rs)
    (hs : AllShown P (FinL T) l Rs a0 w l 0) (hfin : ∀ w1 val, FinL T w w1 → Holds val w1 Rs 0 → Q .normal (putAll val l 0 a0) w1) : (Code.region id l.toArray true).wp P Q a0 w :=
  region_any_store FinL.refl (fun _ _ _ => FinL.trans) FinL.drew n (nth Rs) hm hB hn (fun i v w1 w2 => hst.get i v w1 w2) (fun i o hi => by simpa using hs.get i o hi)
    (fun w1 val hg h => by
      have hex : ∀ i, ∃ v, (i < l.length → nth Rs i v w1) ∧ ∀ o, l[i]? = some o → o.dst.isSome = true → val i = v := by
        intro i
        by_cases hi : i < l.length
        · obtain ⟨v, hv, he⟩ := h i l[i] (by simp [hi])
          exact ⟨v, fun _ => hv, fun o ho hd => by rw [List.getElem?_eq_getElem hi] at ho; cases ho; exact he hd⟩
        · exact ⟨undef, fun h => absurd h hi, fun o ho => by rw [List.getElem?_eq_none (by omega)] at ho; cases ho⟩
      obtain ⟨val2, h2⟩ := Classical.axiomOfChoice hex
      rw [putAll_congr (f := val) (g := val2) l 0 a0 fun i o hi hd => by rw [Nat.zero_add]; exact (h2 i).2 o hi hd]
      exact hfin w1 val2 hg (Holds.of fun i hi => by rw [Nat.zero_add]; exact (h2 i).1 (by omega)))
end
end Go.Proofs.YtpaogoehgkoaeaaGreatDoor
/- Layer 11 (skip): behind. -/
namespace Go.Proofs.YtpaogoehgkoaeaaGreatDoor
set_option linter.unusedVariables false
set_option linter.unusedSimpArgs false
open Go.RowKit Ikey Varint
set_option maxRecDepth 100000 in
theorem behind1_any (w : World) (b : Nat) (u v : Vr) (hb : Blk w b 40 [.string (str v.key), .int .i64 v.seq, .int .i64 v.kind]) :
    Calls Tryz.prog 109 #[ver u.key u.seq u.kind, .pointer (some ⟨b, 0, none⟩)] w fun e w' => e = .returned (.bool (vless u v)) ∧ Gr w w' := by
  have HL := Lib.hid (fun w' => Less_any u.key v.key u.seq u.kind v.seq v.kind w')
  have HV := Lib.hid (show vless u v = lessF u.key u.seq u.kind v.key v.seq v.kind from rfl)
  obtain ⟨c0, c1, c2, _⟩ := (hb.alloc (.cells #[.string (str u.key), .int .i64 u.seq, .int .i64 u.kind] 40)).three
  unfold ver at HL ⊢
  go_enter Tryz.func109, Tryz.ntmps109
  go_wp2_with (first
    | (go_at_call 83; go_must (refine (HL.out _).mono ?_); rintro e w2 ⟨rfl, g2⟩)
    | fail)
  go_ret
  exact ⟨by rw [HV.out]; rfl, (Gr.alloc _ _).trans g2⟩
theorem run_enter {P : Program} {f : FuncId} {fn : Func} {c : Code} (hf : P.funcs[f]? = some fn) (hname : (fn.name == "runtime.NumGoroutine") = false) (hb : fn.body = some c) (args : Array Value) (w : World) :
    (callFunc f args).run P w = .ok (.enter f args) w := by
  have h1 : fn.name ≠ "runtime.NumGoroutine" := by simpa using hname
  simp [callFunc, hf, h1, hb]
theorem asks_behind (w : World) (b : Nat) (v : Vr) (hb : Blk w b 40 [.string (str v.key), .int .i64 v.seq, .int .i64 v.kind]) : Asks w 109 #[.pointer (some ⟨b, 0, none⟩)] (fun u => vless u v) :=
  ⟨fun args w' => run_enter Tryz.func109 (by kernel_rfl) rfl args w', fun w' u hg => behind1_any w' b u v (hb.gr hg)⟩
theorem firstN_done {k : Nat} {A B b : List Nd} (hA : ∀ n ∈ b, n.h ≤ k) : firstN k (b ++ B) = firstN k B := by
  rw [firstN_append, firstN_none.2 hA]; rfl
/-- the node ahead, on a level, and what is behind it there -/
theorem lies_path {A B : List Nd} (full : ∀ x ∈ A ++ B, x.h = x.t) (k : Nat) : ∃ b, Lies (A ++ B) (lastN k A) b k ∧ firstN k b = firstN k B := by
  cases h : lastN k A with
  | none => exact ⟨A ++ B, .inl ⟨rfl, rfl⟩, firstN_done (A := A) (lastN_none.1 h)⟩
  | some x =>
    obtain ⟨a, b, e, hx, hb⟩ := lastN_some h
    refine ⟨b ++ B, .inr ⟨a, x, rfl, by rw [e]; simp, ?_⟩, firstN_done (A := A) hb⟩
    have := full x (by rw [e]; simp)
    omega
set_option maxRecDepth 100000 in
set_option maxHeartbeats 4000000 in
theorem behind_any (w : World) (S : Nat → Prop) (g gl : Nat) (p : PoolF) (L : Ls) (A B : List Nd) (v : Vr) (h : Sk w S g gl p L) (st : SkSt p L.r L.gen L.hd (A ++ B)) (full : ∀ x ∈ A ++ B, x.h = x.t)
    (hA : ∀ x ∈ A, vless x.c.vr v = true) (hB : ∀ x ∈ B, vless x.c.vr v = false) :
    Calls Tryz.prog 60 #[.pointer (some ⟨gl, 0, none⟩), ver v.key v.seq v.kind] w fun e w' => e = .returned (.tuple #[.agg (rowV (fun k => linkF (lastN k A)) 12).toArray, lnk (linkF (firstN 0 B)), .int .i64 0]) ∧ Gr w w' := by
  obtain ⟨b, hlie, hfb⟩ := lies_path full 0
  have HA := Lib.hid (fun w' (hg : Gr w w') b (hb : Blk w' b 40 [.string (str v.key), .int .i64 v.seq, .int .i64 v.kind]) => ahead_any w' S g gl p L A B _ _ _ (h.gr hg) st full (asks_behind w' b v hb) hA hB)
  have HN := Lib.hid (fun w' (hg : Gr w w') => next_any w' S g gl p L (A ++ B) b (lastN 0 A) 0 (h.gr hg) st hlie (by decide))
  rw [hfb, show ((0 : Nat) : Int) = 0 from rfl] at HN
  obtain ⟨R, hR⟩ : ∃ R : Nat → Nat × Nat, R = fun k => linkF (lastN k A) := ⟨_, rfl⟩
  have hR0 : linkF (lastN 0 A) = R 0 := by rw [hR]
  rw [hR0] at HN
  rw [← hR] at HA ⊢
  generalize linkF (firstN 0 B) = y at *
  obtain ⟨y1, y2⟩ := y
  clear st full hA hB hlie hfb hR hR0 h
  unfold lnk at HN ⊢
  unfold ver
  simp only at HN ⊢
  have g0 : Gr w (((w.alloc (.cells #[.string (str v.key), .int .i64 v.seq, .int .i64 v.kind] 40)).alloc (.cells (rowV (fun _ => (0, 0)) 12).toArray 122)).alloc (.cells #[.int .i64 0, .int .i64 0] 121)) := ((Gr.alloc _ _).trans (Gr.alloc _ _)).trans (Gr.alloc _ _)
  have b0 := Blk.of3a (w := w) (t := 40) (cs := #[.string (str v.key), .int .i64 v.seq, .int .i64 v.kind]) (o := .cells (rowV (fun _ => (0, 0)) 12).toArray 122) (o' := .cells #[.int .i64 0, .int .i64 0] 121) (Gr.refl _)
  have b1 := Blk.of3b (w := w) (t := 122) (cs := (rowV (fun _ => (0, 0)) 12).toArray) (o := .cells #[.string (str v.key), .int .i64 v.seq, .int .i64 v.kind] 40) (o' := .cells #[.int .i64 0, .int .i64 0] 121) (Gr.refl _)
  have b2 := Blk.of3c (w := w) (t := 121) (cs := #[.int .i64 0, .int .i64 0]) (o := .cells #[.string (str v.key), .int .i64 v.seq, .int .i64 v.kind] 40) (o' := .cells (rowV (fun _ => (0, 0)) 12).toArray 122) (Gr.refl _)
  have G0 := Lib.hid g0; have HB0 := Lib.hid b0; have HB1 := Lib.hid b1; have HB2 := Lib.hid b2
  clear g0 b0 b1 b2
  go_enter Tryz.func60, Tryz.ntmps60
  go_wp2_with (first
    | (go_at_call 108; go_must (refine (HA.out _ G0.out _ HB0.out).mono ?_); rintro e w2 ⟨rfl, g2⟩; have B2 := Lib.hid (Blk.new w2 122 (rowV (fun _ => (0, 0)) 12).toArray))
    | ((with_reducible show Go.wpList _ _ _ (Oper.mk _ (Op.store 122 _ _) _ _ _ _ :: _) _ _); go_must (refine wp_store_row rfl _ _ _ rfl rfl (cs' := rowV R 12) rfl B2.out (n := 24) (by kernel_rfl) (rowV_len _ 12) (rowV_len _ 12) (rowV_one _ 12) ?_); intro w3 b3 k3
       obtain ⟨x0, x1⟩ := rowV_get R 12 0 (by decide)
       have c0 := b3.cell x0
       have c1 := b3.cell x1
       have G3 : Gr w w3 := ((G0.out.trans g2).trans (Gr.alloc w2 (.cells (rowV (fun _ => (0, 0)) 12).toArray 122))).grown k3 (fun k e => by cases e; exact (G0.out.trans g2).size)
       have HB1' := Lib.hid ((((HB1.out.gr g2).alloc (.cells (rowV (fun _ => (0, 0)) 12).toArray 122)).grown k3 (by have := g2.size; simp at this ⊢; omega)))
       have HB2' := Lib.hid ((((HB2.out.gr g2).alloc (.cells (rowV (fun _ => (0, 0)) 12).toArray 122)).grown k3 (by have := g2.size; simp at this ⊢; omega)))
       have hw2 : w.heap.size + 1 + 1 < w2.heap.size := by have := g2.size; simp at this; omega
       have hw3 : w2.heap.size < w3.heap.size := b3.lt
       have HB3 := Lib.hid b3
       clear k3 b3 x0 x1)
    | (go_at_call 64; go_must (refine (HN.out _ G3).mono ?_); rintro e w4 ⟨rfl, g4⟩)
    | fail)
  have G5 := Lib.hid (g4.trans (Gr.alloc w4 (.cells #[.int .i64 (y1 : Int), .int .i64 (y2 : Int)] 121)))
  have N5 := Lib.hid (Blk.new w4 121 #[.int .i64 (y1 : Int), .int .i64 (y2 : Int)])
  have hw4 := g4.size
  have hw5 : w4.heap.size < (w4.alloc (.cells #[.int .i64 (y1 : Int), .int .i64 (y2 : Int)] 121)).heap.size := by simp
  clear c0 c1
  generalize (w4.alloc (.cells #[.int .i64 (y1 : Int), .int .i64 (y2 : Int)] 121)) = W5 at *
  obtain ⟨T, hT⟩ : ∃ T : Nat → Option Obj, T = fun j => if j = w.heap.size + 1 then some (.cells (rowV R 12).toArray 122 (0, 0)) else if j = w.heap.size + 1 + 1 then some (.cells [Value.int .i64 (y1 : Int), Value.int .i64 (y2 : Int)].toArray 121 (0, 0)) else none := ⟨_, rfl⟩
  have HT1 := Lib.hid (show T (w.heap.size + 1) = some (.cells (rowV R 12).toArray 122 (0, 0)) by rw [hT]; simp)
  have HT2 := Lib.hid (show T (w.heap.size + 1 + 1) = some (.cells [Value.int .i64 (y1 : Int), Value.int .i64 (y2 : Int)].toArray 121 (0, 0)) by rw [hT]; simp)
  have HT3 := Lib.hid (show ∀ j, w.heap.size + 1 + 1 < j → T j = none from fun j hj => by rw [hT]; simp only; rw [if_neg (by omega), if_neg (by omega)])
  have HT4 := Lib.hid (show ∀ j o, T j = some o → w.heap.size ≤ j from fun j o ho => by
    rw [hT] at ho
    simp only at ho
    by_cases e1 : j = w.heap.size + 1
    · omega
    · by_cases e2 : j = w.heap.size + 1 + 1
      · omega
      · rw [if_neg e1, if_neg e2] at ho; cases ho)
  clear hT
  refine region_fin T _ [Is (.agg (rowV R 12).toArray), Is (.agg [Value.int .i64 (y1 : Int), Value.int .i64 (y2 : Int)].toArray), Is (.int .i64 0), Put T (w.heap.size + 1), Put T (w.heap.size + 1 + 1), Is (.int .i64 0)] (by kernel_rfl) (by kernel_rfl) (by kernel_rfl) rfl rfl ⟨Is.stable _, Is.stable _, Is.stable _, Put.stable _, Put.stable _, Is.stable _, trivial⟩ ⟨?s0, ?s1, ?s2, ?s3, ?s4, ?s5, trivial⟩ ?fin
  case' s2 | s5 =>
    intro ρ wr hρ hg hK
    simp [readsOf, slotsOf, Op.operands, Call.operands, tmpOf, List.filterMap_cons, List.filterMap_nil, KnownAll, knownOf, srcOf, depsOf, dstOf, Region.binds, nth, Is] at hK
    obtain ⟨hc, hf, hgl⟩ := hρ
    try simp only [wantedBy, dstOf, boolOf, nth, List.getD_cons_zero, List.getD_cons_succ, List.getElem?_cons_zero, List.getElem?_cons_succ, Option.bind_some, if_true, hK, BEq.rfl]
    try go_simp
    first | exact rfl | (rw [if_pos (by omega)]; exact is_here rfl) | (rw [dif_pos (by omega)]; exact is_here rfl) | exact congrArg (Value.int _) (IntWalk.i64_in _ ⟨by omega, by omega⟩) | skip
  case' s0 | s1 | s3 | s4 =>
    intro ρ wr hρ hg hK
    simp [readsOf, slotsOf, Op.operands, Call.operands, tmpOf, List.filterMap_cons, List.filterMap_nil, KnownAll, knownOf, srcOf, depsOf, dstOf, Region.binds, nth, Is] at hK
    obtain ⟨hc, hf, hgl⟩ := hρ
    try simp only [wantedBy, dstOf, boolOf, nth, List.getD_cons_zero, List.getD_cons_succ, List.getElem?_cons_zero, List.getElem?_cons_succ, Option.bind_some, if_true, hK, BEq.rfl]
  case s0 => exact fin_load hg _ _ rfl hK (HB3.out.gr G5.out) (HT3.out _ hw2) Tryz.underlying122 rfl (n := 24) (by kernel_rfl) (rowV_len _ 12)
  case s1 => exact fin_load hg _ _ rfl hK N5.out (HT3.out _ (by omega)) Tryz.underlying121 rfl (n := 2) (by kernel_rfl) rfl
  case s3 => exact fin_put hg _ _ _ rfl hK.1 hK.2 (HB1'.out.gr G5.out) HT1.out (n := 24) (by kernel_rfl) (rowV_len _ 12) (rowV_len _ 12) (rowV_one _ 12)
  case s4 => exact fin_put hg _ _ _ rfl hK.1 hK.2 (HB2'.out.gr G5.out) HT2.out (n := 2) (by kernel_rfl) rfl rfl (fun v hv => by simp at hv; rcases hv with rfl | rfl <;> rfl)
  case fin =>
    intro w1 val hg hH
    simp only [Holds, Is, Nat.zero_add, Nat.reduceAdd] at hH
    obtain ⟨h0, h1, h2, h3, h4, h5, _⟩ := hH
    simp only [List.take_succ_cons, List.take_zero, List.drop_succ_cons, List.drop_zero, putAll, h2, h5, Nat.zero_add, Nat.reduceAdd]
    simp only [h0, h1]
    have r1 := Put.blk h3 HT1.out
    have r2 := Put.blk h4 HT2.out
    go_simp
    go_wp2
    trace_state
    refine bodyPost_ret (results_cell2_tmp rfl rfl (load_blk r1 Tryz.underlying122 rfl (n := 24) (by kernel_rfl) (rowV_len _ 12)) rfl (load_blk r2 Tryz.underlying121 rfl (n := 2) (by kernel_rfl) rfl)) rfl ⟨rfl, ?_⟩
    exact hg.gr (G3.trans G5.out) HT4.out
end Go.Proofs.YtpaogoehgkoaeaaGreatDoor
/- Layer 11 (skip): a link's bytes; a link is put. -/
namespace Go.Proofs.YtpaogoehgkoaeaaGreatDoor
set_option linter.unusedVariables false
set_option linter.unusedSimpArgs false
open Go.RowKit Ikey Varint
theorem Gr.onto {a w w' : World} {ad : Option Addr} {base : Nat} {e : TypeId} {size cap n : Nat} {xs : List Value} (h : Gr a w) (ho : Owns w base e size ad cap n xs) (hb : a.heap.size ≤ base) (hg : w.grownBy w' (ad.map (·.block))) : Gr a w' :=
  h.grown hg (fun k hk => by
    cases ad with
    | none => cases hk
    | some x => cases hk; exact Nat.le_trans hb (ho.lt x rfl).1)
set_option maxRecDepth 100000 in
set_option maxHeartbeats 1000000 in
theorem pointer_any (w : World) (q : Nat × Nat) (h1 : q.1 < 4294967296) (h2 : q.2 < 4294967296) : Calls Tryz.prog 65 #[lnk q] w (RetB 5 w (ptrB q)) := by
  obtain ⟨x, y⟩ := q
  simp only at h1 h2
  have H1 := Lib.hid (fun w' => Fixed_at (x : Int) x 4 4 w' rfl rfl (by decide) h1)
  have H2 := Lib.hid (fun w' => Fixed_at (y : Int) y 4 4 w' rfl rfl (by decide) h2)
  have HP := Lib.hid (show ptrB (x, y) = bytesN 4 x ++ bytesN 4 y from rfl)
  have l1 := bytesN_len 4 x
  have l2 := bytesN_len 4 y
  generalize bytesN 4 x = X at *
  generalize bytesN 4 y = Y at *
  have HL1 := Lib.hid l1; have HL2 := Lib.hid l2
  clear l1 l2
  unfold lnk
  simp only
  have HB0 := Lib.hid (Blk.new w 121 #[.int .i64 (x : Int), .int .i64 (y : Int)])
  obtain ⟨b0, b1, _, _⟩ := HB0.out.two4
  go_enter Tryz.func65, Tryz.ntmps65
  go_wp2_with (first
    | (go_at_call 63; (with_reducible refine (H1.out _).mono ?_); rintro e w2 ⟨ad, cap, rfl, o2, g2⟩; clear H1; obtain ⟨d0, d1, _, _⟩ := (HB0.out.gr g2).two4; clear b0 b1)
    | (go_at_call 63; (with_reducible refine (H2.out _).mono ?_); rintro e w3 ⟨ad3, cap3, rfl, o3, g3⟩; have o23 := o2.gr g3)
    | (at_builtin; refine wp_append elemB rfl _ _ rfl rfl o23 rfl (Src.bytes o3.bytes rfl Tryz.underlying31) (by unfold maxLen; have := HL1.out; have := HL2.out; omega) (by have := HL1.out; have := HL2.out; omega) (by have := g2.size; have := g3.size; omega) ?_; intro ad4 cap4 w4 o4 k4 f4)
    | fail)
  go_ret
  rw [← bv_append] at o4
  have g3' := (Gr.alloc w (.cells #[.int .i64 (x : Int), .int .i64 (y : Int)] 121)).trans (g2.trans g3)
  refine ⟨ad4, cap4, by rw [HP.out, List.length_append]; rfl, ?_, g3'.onto (o23.base (by simp)) (Nat.le_refl _) k4⟩
  rw [HP.out, List.length_append]
  exact o4.base (by simp)
theorem lstV_set (g : Nat) (L : Ls) (q : Nat × Nat) {k : Nat} (hk : k < 12) : ((lstV g L).set (3 + k * 2) (.int .i64 (q.1 : Int))).set (3 + k * 2 + 1) (.int .i64 (q.2 : Int)) = lstV g { L with hd := upd L.hd k q } := by
  unfold lstV
  have hl : [Value.pointer (some ⟨g, 0, none⟩), .int .i64 (L.r : Int), .int .i64 (L.gen : Int)].length = 3 := rfl
  rw [List.set_append_right _ _ (by omega), List.set_append_right _ _ (by omega), hl, show 3 + k * 2 - 3 = k * 2 by omega, show 3 + k * 2 + 1 - 3 = k * 2 + 1 by omega,
    List.set_append_left _ _ (by rw [rowV_len]; omega), List.set_append_left _ _ (by rw [List.length_set, rowV_len]; omega), rowV_set _ _ _ _ hk]
set_option maxRecDepth 100000 in
set_option maxHeartbeats 1000000 in
theorem put_none (w : World) (g gl : Nat) (L : Ls) (k : Nat) (q : Nat × Nat) (hb : Blk w gl 124 (lstV g L)) (hk : k < 12) :
    Calls Tryz.prog 68 #[.pointer (some ⟨gl, 0, none⟩), lnk (0, 0), .int .i64 (k : Int), lnk q] w fun e w' => e = .returned (.int .i64 0) ∧ Blk w' gl 124 (lstV g { L with hd := upd L.hd k q }) ∧ Chg (fun j => j = gl) w w' := by
  have g0 : Gr w ((w.alloc (.cells #[.int .i64 0, .int .i64 0] 121)).alloc (.cells #[.int .i64 (q.1 : Int), .int .i64 (q.2 : Int)] 121)) := (Gr.alloc _ _).trans (Gr.alloc _ _)
  have HB := Lib.hid (hb.gr g0)
  have HX := Lib.hid (Blk.of2b (w := w) (o := .cells #[.int .i64 0, .int .i64 0] 121) (cs := #[.int .i64 (q.1 : Int), .int .i64 (q.2 : Int)]) (t := 121) (Gr.refl _))
  have HS := Lib.hid (lstV_set g L q hk)
  obtain ⟨q1, q2⟩ := q
  unfold lnk
  simp only at HX HS g0 HB ⊢
  clear hb
  go_enter Tryz.func68, Tryz.ntmps68
  go_wp2
  refine region_tail_gr 6 _ [Is ?r0, Is ?r1, Is (.agg #[.int .i64 (q1 : Int), .int .i64 (q2 : Int)]), Is ?r3, Is ?r4, Is (.pointer (some ⟨gl, 3 + k * 2, none⟩))] (by kernel_rfl) (by kernel_rfl) (by kernel_rfl) (by kernel_rfl) rfl rfl ⟨Is.stable _, Is.stable _, Is.stable _, Is.stable _, Is.stable _, Is.stable _, trivial⟩ ⟨?s0, ?s1, ?s2, ?s3, ?s4, ?s5, trivial⟩ ?fin
  case' s0 | s1 | s2 | s3 | s4 | s5 =>
    intro ρ wr hρ hg hK
    simp [readsOf, slotsOf, Op.operands, Call.operands, tmpOf, List.filterMap_cons, List.filterMap_nil, KnownAll, knownOf, srcOf, depsOf, dstOf, Region.binds, nth, Is] at hK
    obtain ⟨hc, hf, hgl⟩ := hρ
    try simp only [wantedBy, dstOf, boolOf, nth, List.getD_cons_zero, List.getD_cons_succ, List.getElem?_cons_zero, List.getElem?_cons_succ, Option.bind_some, if_true, hK, BEq.rfl]
    try go_simp
    first | exact rfl | (rw [if_pos (by omega)]; exact is_here rfl) | (rw [dif_pos (by omega)]; exact is_here rfl) | exact congrArg (Value.int _) (IntWalk.i64_in _ ⟨by omega, by omega⟩) | skip
  case s2 =>
    obtain ⟨c0, c1, _, _⟩ := (HX.out.gr hg).two4
    go_simp
    exact rfl
  case fin =>
    intro w1 val hg hH
    simp only [Holds, Is, Nat.zero_add, Nat.reduceAdd] at hH
    obtain ⟨h0, h1, h2, h3, h4, h5, _⟩ := hH
    simp only [List.take_succ_cons, List.take_zero, List.drop_succ_cons, List.drop_zero, putAll, h0, h1, h2, h3, h4, h5, Nat.zero_add, Nat.reduceAdd]
    have hbw := HB.out.gr hg
    obtain ⟨c0, c1⟩ := lst_head hbw hk
    have f0 := hbw.frozen (3 + k * 2)
    have f1 := hbw.frozen (3 + k * 2 + 1)
    have HBW := Lib.hid hbw
    clear hbw
    go_simp
    go_wp2
    go_ret
    have hs := (HBW.out.set_ (3 + k * 2) (.int .i64 (q1 : Int))).set_ (3 + k * 2 + 1) (.int .i64 (q2 : Int))
    rw [HS.out] at hs
    exact ⟨rfl, hs, ((g0.trans hg).chg (S := fun j => j = gl)).trans (Chg.grown (b := gl) (grown_trans (grown_set w1 gl (3 + k * 2) _) (grown_set _ gl (3 + k * 2 + 1) _)) (S := fun j => j = gl) rfl) (fun j hj => .inl hj)⟩
set_option maxRecDepth 100000 in
set_option maxHeartbeats 2000000 in
theorem put_some (w : World) (S : Nat → Prop) (g gl : Nat) (p p' : PoolF) (L : Ls) (k : Nat) (q0 q : Nat × Nat) (h : Sk w S g gl p L) (hk : k < 12) (h0 : 1 ≤ q0.2) (h1 : q.1 < 4294967296) (h2 : q.2 < 4294967296)
    (he : storeF p ⟨(L.r : Int), (L.gen : Int), (q0.1 : Int), (q0.2 : Int)⟩ ((5 + 8 * k : Nat) : Int) (ptrB q) = (0, p')) :
    Calls Tryz.prog 68 #[.pointer (some ⟨gl, 0, none⟩), lnk q0, .int .i64 (k : Int), lnk q] w fun e w' => e = .returned (.int .i64 0) ∧ Moved S g p' w w' S := by
  have g0 : Gr w ((w.alloc (.cells #[.int .i64 (q0.1 : Int), .int .i64 (q0.2 : Int)] 121)).alloc (.cells #[.int .i64 (q.1 : Int), .int .i64 (q.2 : Int)] 121)) := (Gr.alloc _ _).trans (Gr.alloc _ _)
  have HS := Lib.hid (h.gr g0)
  have HX := Lib.hid (Blk.of2b (w := w) (o := .cells #[.int .i64 (q0.1 : Int), .int .i64 (q0.2 : Int)] 121) (cs := #[.int .i64 (q.1 : Int), .int .i64 (q.2 : Int)]) (t := 121) (Gr.refl _))
  have HY := Lib.hid (Blk.of2a (w := w) (cs := #[.int .i64 (q0.1 : Int), .int .i64 (q0.2 : Int)]) (t := 121) (o := .cells #[.int .i64 (q.1 : Int), .int .i64 (q.2 : Int)] 121) (Gr.refl _))
  have HH := Lib.hid (fun w' (hb : Blk w' gl 124 (lstV g L)) => handle_any w' g gl L q0 hb)
  have HP := Lib.hid (fun w' => pointer_any w' q h1 h2)
  have hl := ptrB_len q
  have HST := Lib.hid (fun w' (hg : Gr w w') ad cap (hb : Bytes w' ad (ptrB q)) => Store_any w' S g p ⟨(L.r : Int), (L.gen : Int), (q0.1 : Int), (q0.2 : Int)⟩ ((5 + 8 * k : Nat) : Int) ad _ cap (ptrB q) (h.gr hg).pool h.ok hb rfl (by rw [hl]; decide))
  rw [he] at HST
  have hkI : ((5 + 8 * k : Nat) : Int) = 5 + 8 * (k : Int) := by omega
  rw [hkI] at HST
  generalize ptrB q = pb at *
  have HL := Lib.hid hl
  obtain ⟨q1, q2⟩ := q
  obtain ⟨x1, x2⟩ := q0
  unfold lnk at HH HP ⊢
  unfold hdv at HST
  simp only at HX HS g0 HY HH HST HP h0 ⊢
  have hqb : ((x2 : Int) == 0) = false := by rw [beq_eq_false_iff_ne]; omega
  clear h he hl hkI
  go_enter Tryz.func68, Tryz.ntmps68
  go_wp2
  refine region_tail_gr 12 _ [Is ?r0x1, Is ?r1x1, Is ?r2x1, Is (.pointer (some ⟨g, 0, none⟩)), Is ?r4x1, Is (.agg #[.int .i64 (x1 : Int), .int .i64 (x2 : Int)]), Is (.agg #[.int .i64 (L.r : Int), .int .i64 (L.gen : Int), .int .i64 (x1 : Int), .int .i64 (x2 : Int)]), Is (.int .i64 (k : Int)), Is (.int .i64 (8 * (k : Int))), Is (.int .i64 (5 + 8 * (k : Int))), Is (.agg #[.int .i64 (q1 : Int), .int .i64 (q2 : Int)]), ReadsB (pb)] (by kernel_rfl) (by kernel_rfl) (by kernel_rfl) (by kernel_rfl) rfl rfl ⟨Is.stable _, Is.stable _, Is.stable _, Is.stable _, Is.stable _, Is.stable _, Is.stable _, Is.stable _, Is.stable _, Is.stable _, Is.stable _, ReadsB.stable _, trivial⟩ ⟨?s0x1, ?s1x1, ?s2x1, ?s3x1, ?s4x1, ?s5x1, ?s6x1, ?s7x1, ?s8x1, ?s9x1, ?s10x1, ?s11x1, trivial⟩ ?finx1
  case' s0x1 | s1x1 | s2x1 | s3x1 | s4x1 | s5x1 | s6x1 | s7x1 | s8x1 | s9x1 | s10x1 | s11x1 =>
    intro ρ wr hρ hg hK
    simp [readsOf, slotsOf, Op.operands, Call.operands, tmpOf, List.filterMap_cons, List.filterMap_nil, KnownAll, knownOf, srcOf, depsOf, dstOf, Region.binds, nth, Is] at hK
    obtain ⟨hc, hf, hgl⟩ := hρ
    try simp only [wantedBy, dstOf, boolOf, nth, List.getD_cons_zero, List.getD_cons_succ, List.getElem?_cons_zero, List.getElem?_cons_succ, Option.bind_some, if_true, hK, BEq.rfl]
    try go_simp
    first | exact rfl | (rw [if_pos (by omega)]; exact is_here rfl) | (rw [dif_pos (by omega)]; exact is_here rfl) | exact congrArg (Value.int _) (IntWalk.i64_in _ ⟨by omega, by omega⟩) | skip
  case s3x1 =>
    obtain ⟨c0, _, _⟩ := lst_heads (HS.out.gr hg).blk
    go_simp
    exact rfl
  case s5x1 =>
    obtain ⟨c0, c1, _, _⟩ := (HY.out.gr hg).two4
    go_simp
    exact rfl
  case s6x1 => exact any_gr (HH.out _ (HS.out.gr hg).blk)
  case s10x1 =>
    obtain ⟨c0, c1, _, _⟩ := (HX.out.gr hg).two4
    go_simp
    exact rfl
  case s11x1 => exact any_bytes (HP.out _)
  case finx1 =>
    intro w1 val hg hH
    simp only [Holds, Is, Nat.zero_add, Nat.reduceAdd] at hH
    obtain ⟨h0, h1, h2, h3, h4, h5, h6, h7, h8, h9, h10, ⟨ad11, cap11, h11, hb11⟩, _⟩ := hH
    simp only [List.take_succ_cons, List.take_zero, List.drop_succ_cons, List.drop_zero, putAll, h0, h1, h2, h3, h4, h5, h6, h7, h8, h9, h10, h11, Nat.zero_add, Nat.reduceAdd]
    have HB := Lib.hid hb11
    clear hb11
    go_simp
    go_wp2_with (first
      | (go_at_call 67; go_must (refine (HST.out _ (g0.trans hg) _ _ HB.out).mono ?_); rintro e w5 ⟨rfl, m5⟩)
      | fail)
    go_ret
    exact ⟨rfl, m5.after ((g0.trans hg).chg)⟩
theorem put_any (w : World) (S : Nat → Prop) (g gl : Nat) (p : PoolF) (L : Ls) (A B : List Nd) (x : Nd) (h : Sk w S g gl p L) (st : SkSt p L.r L.gen L.hd (A ++ x :: B)) (hx : x.h < x.t) (hA : ∀ y ∈ A, y.h = y.t) :
    Calls Tryz.prog 68 #[.pointer (some ⟨gl, 0, none⟩), lnk (linkF (lastN x.h A)), .int .i64 (x.h : Int), lnk (x.off, x.size)] w fun e w' => e = .returned (.int .i64 0) ∧
      ∃ p' hd', Sk w' S g gl p' { L with hd := hd' } ∧ SkSt p' L.r L.gen hd' (A ++ x.up :: B) ∧ Kp L.r p p' ∧ countF p' = countF p ∧ Chg (fun j => S j ∨ j = gl) w w' := by
  have hxN : x ∈ A ++ x :: B := by simp
  have hk : x.h < 12 := by have := (st.node x hxN).1.t2; omega
  cases hl : lastN x.h A with
  | none =>
    refine (put_none w g gl L x.h (x.off, x.size) h.blk hk).mono ?_
    rintro e w' ⟨h1, h2, h3⟩
    exact ⟨h1, p, _, ⟨h.pool.chg h3 (fun j hj e => h.out (e ▸ hj)), h.ok, h2, h.out⟩, st.put0 hx hA hl, Kp.refl _ _, rfl, (Chg.refl w).trans h3 (fun j hj => .inl (.inr hj))⟩
  | some y =>
    have hyA : y ∈ A := by
      obtain ⟨a, b, e, _⟩ := lastN_some hl
      rw [e]; simp
    have hyN : y ∈ A ++ x :: B := List.mem_append_left _ hyA
    obtain ⟨p', hs, st', kp, hc⟩ := st.put1 h.ok hx hA hl
    have hy := nd_size (st.node y hyN).1
    have hlt := st.off_lt h.ok hxN
    have hok : PoolOk p' := by have := store_ok h.ok (nh L.r L.gen y) ((5 + 8 * x.h : Nat) : Int) (ptrB (x.off, x.size)); rw [hs] at this; exact this
    refine (put_some w S g gl p p' L x.h (y.off, y.size) (x.off, x.size) h hk (by show 1 ≤ y.size; omega) (by show x.off < _; omega) (by show x.size < _; omega) hs).mono ?_
    rintro e w' ⟨h1, h2⟩
    exact ⟨h1, p', L.hd, ⟨h2.pool, hok, h2.chg.blk h.blk h.out, h.out⟩, st', kp, hc, (Chg.refl w).trans h2.chg (fun j hj => .inl (.inl hj))⟩
end Go.Proofs.YtpaogoehgkoaeaaGreatDoor
namespace Go.Proofs.YtpaogoehgkoaeaaGreatDoor
set_option linter.unusedVariables false
set_option linter.unusedSimpArgs false
open Go.RowKit Ikey Varint
/-- a cell that is handed over -/
def celV (k : List UInt8) (s d : Int) (v : List UInt8) : Value := .agg #[.string (str k), .int .i64 s, .int .i64 d, .string (str v)]
def chkI (fz fd : Bool) (k : List UInt8) (s d : Int) (v : List UInt8) (h : Int) : Nat :=
  if (fz || fd) = true then 12 else if okV k s d = false ∨ h < 1 ∨ 12 < h then 1 else if 1000 < v.length then 14 else 0
set_option maxRecDepth 100000 in
set_option maxHeartbeats 1000000 in
theorem scheck_any (w : World) (g gl : Nat) (L : Ls) (hb : Blk w gl 124 (lstV g L)) (k : List UInt8) (s d : Int) (v : List UInt8) (h : Int) (hv : v.length ≤ 9223372036854775807) :
    Calls Tryz.prog 59 #[.pointer (some ⟨gl, 0, none⟩), celV k s d v, .int .i64 h] w fun e w' => e = .returned (.int .i64 (chkI L.fz L.fd k s d v h : Nat)) ∧ Gr w w' := by
  have HC := Lib.hid (fun w => Check_any k s d w)
  unfold celV
  unfold ver at HC
  have g1 : Gr w (w.alloc (.cells #[.string (str k), .int .i64 s, .int .i64 d, .string (str v)] 56)) := Gr.alloc _ _
  obtain ⟨_, _, c29, c30⟩ := lst_tail (hb.gr g1)
  clear hb
  cases hz : L.fz with
  | true =>
    have HX := Lib.hid (show chkI true L.fd k s d v h = 12 by unfold chkI; rw [if_pos (by simp)])
    rw [hz] at c29
    go_enter Tryz.func59, Tryz.ntmps59
    go_wp2
    go_ret
    exact ⟨by rw [HX.out]; rfl, g1⟩
  | false =>
    rw [hz] at c29
    cases hd : L.fd with
    | true =>
      have HX := Lib.hid (show chkI false true k s d v h = 12 by unfold chkI; rw [if_pos (by simp)])
      rw [hd] at c30
      go_enter Tryz.func59, Tryz.ntmps59
      go_wp2
      go_ret
      exact ⟨by rw [HX.out]; rfl, g1⟩
    | false =>
      rw [hd] at c30
      cases ho : okV k s d with
      | false =>
        have HX := Lib.hid (show chkI false false k s d v h = 1 by unfold chkI; rw [if_neg (by simp), if_pos (.inl ho)])
        rw [chk_no ho] at HC
        clear ho
        go_enter Tryz.func59, Tryz.ntmps59
        go_wp2_with (first
          | (go_at_call 87; go_must (refine (HC.out _).mono ?_); rintro e w2 ⟨rfl, g2⟩)
          | fail)
        go_ret
        exact ⟨by rw [HX.out]; rfl, g1.trans g2⟩
      | true =>
        rw [chk_yes ho] at HC
        by_cases h1 : h < 1
        · have HX := Lib.hid (show chkI false false k s d v h = 1 by unfold chkI; rw [if_neg (by simp), if_pos (.inr (.inl h1))])
          clear ho
          go_enter Tryz.func59, Tryz.ntmps59
          go_wp2_with (first
            | (go_at_call 87; go_must (refine (HC.out _).mono ?_); rintro e w2 ⟨rfl, g2⟩)
            | fail)
          go_ret
          exact ⟨by rw [HX.out]; rfl, g1.trans g2⟩
        · by_cases h2 : 12 < h
          · have HX := Lib.hid (show chkI false false k s d v h = 1 by unfold chkI; rw [if_neg (by simp), if_pos (.inr (.inr h2))])
            clear ho
            go_enter Tryz.func59, Tryz.ntmps59
            go_wp2_with (first
              | (go_at_call 87; go_must (refine (HC.out _).mono ?_); rintro e w2 ⟨rfl, g2⟩)
              | fail)
            go_ret
            exact ⟨by rw [HX.out]; rfl, g1.trans g2⟩
          · have h3 : ¬ (okV k s d = false ∨ h < 1 ∨ 12 < h) := by rw [ho]; simp; omega
            by_cases h4 : 1000 < v.length
            · have HX := Lib.hid (show chkI false false k s d v h = 14 by unfold chkI; rw [if_neg (by simp), if_neg h3, if_pos h4])
              clear ho h3
              go_enter Tryz.func59, Tryz.ntmps59
              go_wp2_with (first
                | (go_at_call 87; go_must (refine (HC.out _).mono ?_); rintro e w2 ⟨rfl, g2⟩; obtain ⟨_, _, _, d3, _⟩ := (Blk.of1 g2).four)
                | fail)
              go_ret
              exact ⟨by rw [HX.out]; rfl, g1.trans g2⟩
            · have HX := Lib.hid (show chkI false false k s d v h = 0 by unfold chkI; rw [if_neg (by simp), if_neg h3, if_neg h4])
              clear ho h3
              go_enter Tryz.func59, Tryz.ntmps59
              go_wp2_with (first
                | (go_at_call 87; go_must (refine (HC.out _).mono ?_); rintro e w2 ⟨rfl, g2⟩; obtain ⟨_, _, _, d3, _⟩ := (Blk.of1 g2).four)
                | fail)
              go_ret
              exact ⟨by rw [HX.out]; rfl, g1.trans g2⟩
end Go.Proofs.YtpaogoehgkoaeaaGreatDoor
