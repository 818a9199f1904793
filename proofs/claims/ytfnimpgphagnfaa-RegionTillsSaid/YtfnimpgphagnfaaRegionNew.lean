/- Layer 1 (region): New walked. -/
import Derived.Test.YtfnimpgphagnfaaRegionFns
import Derived.Test.YtfnimpgphagnfaaRegionPut
import Derived.Test.YtfnimpgphagnfaaPhases
import Derived.Test.YtfnimpgphagnfaaFresh
namespace Go.Proofs.Ytfnimpgphagnfaa
set_option linter.unusedVariables false
set_option linter.unusedSimpArgs false
open Go.RowKit
set_option maxRecDepth 100000 in
set_option maxHeartbeats 4000000 in
theorem New_bad (w : World) (size slabs : Int) (h : newOk size slabs = false) :
    Calls Try.prog 11 #[.int .i64 size, .int .i64 slabs] w fun e w' => e = .returned (.tuple #[.pointer none, .int .i64 1]) ∧ w = w' := by
  unfold newOk at h
  by_cases b1 : size < 64
  · clear h
    go_enter Try.func11, Try.ntmps11
    go_wp2
    go_ret2
    exact ⟨rfl, rfl⟩
  · by_cases b2 : size > 65536
    · clear h
      go_enter Try.func11, Try.ntmps11
      go_wp2
      go_ret2
      exact ⟨rfl, rfl⟩
    · obtain ⟨a, rfl⟩ : ∃ a : Nat, size = (a : Int) := ⟨size.toNat, by omega⟩
      obtain ⟨m, hm⟩ : ∃ m, m = a % 8 := ⟨_, rfl⟩
      have hmt : (a : Int).tmod 8 = (m : Int) := by rw [hm]; rfl
      by_cases b3 : m = 0
      · by_cases b4 : slabs < 1
        · clear hm
          clear h
          go_enter Try.func11, Try.ntmps11
          go_wp2
          go_ret2
          exact ⟨rfl, rfl⟩
        · by_cases b5 : slabs > 4096
          · clear hm
            clear h
            go_enter Try.func11, Try.ntmps11
            go_wp2
            go_ret2
            exact ⟨rfl, rfl⟩
          · obtain ⟨n, rfl⟩ : ∃ n : Nat, slabs = (n : Int) := ⟨slabs.toNat, by omega⟩
            obtain ⟨q, hq⟩ : ∃ q, q = a * n := ⟨_, rfl⟩
            have hqi : (a : Int) * (n : Int) = (q : Int) := by rw [hq]; simp
            have hql : q ≤ 268435456 := by rw [hq]; exact Nat.le_trans (Nat.mul_le_mul (show a ≤ 65536 by omega) (show n ≤ 4096 by omega)) (by decide)
            have hqw : IntKind.i64.wrap (q : Int) = (q : Int) := by rw [IntKind.wrap_i64]; omega
            have hb : q > 4194304 := by
              rcases Nat.lt_or_ge 4194304 q with h1 | h1
              · exact h1
              · exfalso
                rw [hqi] at h
                have e1 : decide ((64 : Int) ≤ (a : Int)) = true := decide_eq_true (by omega)
                have e2 : decide ((a : Int) ≤ 65536) = true := decide_eq_true (by omega)
                have e3 : decide ((a : Int) % 8 = 0) = true := decide_eq_true (by omega)
                have e4 : decide ((1 : Int) ≤ (n : Int)) = true := decide_eq_true (by omega)
                have e5 : decide ((n : Int) ≤ 4096) = true := decide_eq_true (by omega)
                have e6 : decide ((q : Int) ≤ 4194304) = true := decide_eq_true (by omega)
                rw [e1, e2, e3, e4, e5, e6] at h
                cases h
            clear hm hq
            clear h
            go_enter Try.func11, Try.ntmps11
            go_wp2
            go_ret2
            exact ⟨rfl, rfl⟩
      · have hz : ((m : Int) != 0) = true := by simp; omega
        clear hm
        clear h
        go_enter Try.func11, Try.ntmps11
        go_wp2
        go_ret2
        exact ⟨rfl, rfl⟩
theorem pool_built (s : Int) (ad : Option Addr) (n c : Nat) : Try.prog.built 81 [(0, .int .i64 s), (2, .slice ad n c)] = some ([Value.int .i64 s, .slice none 0 0, .slice ad n c] ++ flat (fun _ => landV noLand none 0) 256).toArray := by kernel_rfl
def poolN (s : Int) (s1 s2 : Value) : List Value := [.int .i64 s, s1, s2] ++ flat (fun _ => landV noLand none 0) 256
theorem wp_pool {w : World} {ops : Array Oper} {rest : List Oper} {o : Oper} {a : Act} {Q : Exit → Act → World → Prop} (hg : o.guard = none) (x y : Operand) (ho : o.op = .build 81 #[(0, x), (2, y)]) {s : Int} {ad : Option Addr} {n c : Nat} (hx : a.eval x = .int .i64 s) (hy : a.eval y = .slice ad n c)
    (h : wpList Try.prog ops Q rest (a.put o.dst (.agg (poolN s (.slice none 0 0) (.slice ad n c)).toArray)) w) : wpList Try.prog ops Q (o :: rest) a w := by
  have hb : Try.prog.built 81 ((#[(0, x), (2, y)] : Array (Nat × Operand)).map fun (i, x) => (i, a.eval x)).toList = some (poolN s (.slice none 0 0) (.slice ad n c)).toArray := by
    simp only [List.map_toArray, List.map_cons, List.map_nil, hx, hy]
    exact pool_built s ad n c
  refine wpList_build hg 81 #[(0, x), (2, y)] ho (by rw [hb]; rfl) ?_
  rw [hb]
  exact h
/-- a slab of noughts, in block N -/
def NewAt (N a : Nat) : Value → World → Prop := fun v w => v = .slice (some ⟨N, 0, none⟩) a a ∧ Blk w N 5 (bv (List.replicate a 0))
theorem NewAt.dstable {row : Option Nat} {A B : Option Obj} {g : Nat} {Good : World → Prop} {N a : Nat} (hg : g < N) (hr : ∀ r, row = some r → r < N) : Stable (Duo row A B g Good) (NewAt N a) := by
  rintro v w1 w2 ⟨e, h⟩ d
  exact ⟨e, (d.block N h.lt (fun e => by have := hr N e.symm; omega) (by omega)).trans h⟩
def NPre (N g : Nat) (cs : List Value) : Nat → World → Prop := fun s w => if s = 6 then w.heap.size = N else if s = 11 then Blk w g 81 cs else True
theorem NPre.six {N g : Nat} {cs : List Value} {w : World} : NPre N g cs 6 w ↔ w.heap.size = N := by simp [NPre]
theorem NPre.eleven {N g : Nat} {cs : List Value} {w : World} : NPre N g cs 11 w ↔ Blk w g 81 cs := by simp [NPre]
theorem NPre.step {N g : Nat} {cs : List Value} {w w' : World} {i : Nat} (h6 : i ≠ 6 → w.heap.size = N → w'.heap.size = N) (h11 : i ≠ 11 → Blk w g 81 cs → Blk w' g 81 cs) : ∀ s, s ≠ i → NPre N g cs s w → NPre N g cs s w' := by
  intro s hs h
  by_cases e6 : s = 6
  · subst e6; rw [NPre.six] at h ⊢; exact h6 (fun e => hs e.symm) h
  · by_cases e11 : s = 11
    · subst e11; rw [NPre.eleven] at h ⊢; exact h11 (fun e => hs e.symm) h
    · simp [NPre, e6, e11]
theorem make_slab (w : World) (a : Nat) (h : a ≤ 65536) (kl kc : IntKind) : ∃ w', (Instr.makeSlice 23 (.int kl (a : Int)) (.int kc (a : Int))).run Try.prog w = .ok (.slice (some ⟨w.heap.size, 0, none⟩) a a) w' ∧ Gr w w' ∧ Blk w' w.heap.size 5 (bv (List.replicate a 0)) := by
  obtain ⟨ht, hinfo, hzs, hpos⟩ := elemB
  obtain ⟨i, hi, hz, hsize, hby⟩ := info_parts hinfo
  have hb' : (i.bytes : Int) * (a : Int) ≤ 281474976710656 := by rw [hby]; omega
  have hr := run_make (P := Try.prog) w 23 5 i (.int .u8 0) ht hi hz kl kc a a (by omega) (by omega) hb' (by omega)
  simp only [Int.toNat_natCast] at hr
  refine ⟨_, hr, Gr.alloc _ _, ?_⟩
  have e : (madeCells (Value.int .u8 0).cells (a * i.size)).toList = bv (List.replicate a 0) := by
    rw [hsize, Nat.mul_one, ← bv_replicate, show (Value.int .u8 0).cells = #[Value.int .u8 0] from rfl, toList_madeCells_one]
  rw [← e]
  exact Blk.new w 5 _
/-- while slabs are made -/
structure NW (w wr : World) (g bt a n i : Nat) (ads : Option Addr) (cs : Nat) (bd : Nat → Nat) : Prop where
  gr : Gr w wr
  hg : w.heap.size ≤ g
  blk : Blk wr g 81 (poolN (a : Int) (.slice ads i cs) (.slice (some ⟨bt, 0, none⟩) n n))
  row : Owns wr w.heap.size 23 1 ads cs i (slabV bd a i)
  slab : ∀ j, j < i → Blk wr (bd j) 5 (bv (List.replicate a 0)) ∧ w.heap.size ≤ bd j
  inj : ∀ j k, j < i → k < i → bd j = bd k → j = k
  tak : Owns wr w.heap.size 4 1 (some ⟨bt, 0, none⟩) n n (List.replicate n (.bool false))
set_option maxRecDepth 100000 in
set_option maxHeartbeats 4000000 in
theorem New_good (w : World) (a n : Nat) (h1 : 64 ≤ a) (h2 : a ≤ 65536) (h3 : a % 8 = 0) (h4 : 1 ≤ n) (h5 : n ≤ 4096) (h6 : a * n ≤ 4194304) :
    Calls Try.prog 11 #[.int .i64 (a : Int), .int .i64 (n : Int)] w fun e w' => ∃ g S, e = .returned (.tuple #[.pointer (some ⟨g, 0, none⟩), .int .i64 0]) ∧ Gr w w' ∧ PoolAt w' S g (newF a n) ∧ ∀ j, S j → w.heap.size ≤ j := by
  have hmt : (a : Int).tmod 8 = 0 := by show ((a % 8 : Nat) : Int) = 0; rw [h3]; rfl
  obtain ⟨q, hq⟩ : ∃ q, q = a * n := ⟨_, rfl⟩
  have hqi : (a : Int) * (n : Int) = (q : Int) := by rw [hq]; simp
  have hql : q ≤ 4194304 := by rw [hq]; exact h6
  have hqw : IntKind.i64.wrap (q : Int) = (q : Int) := by rw [IntKind.wrap_i64]; omega
  have m1 : n ≤ maxLen := by unfold maxLen; omega
  have m2 : 1 * n ≤ 281474976710656 := by omega
  clear hq h6 h3
  go_enter Try.func11, Try.ntmps11
  go_wp2_with (first
    | (at_make; go_must (refine wp_make elemBool rfl rfl _ _ rfl n n rfl rfl rfl rfl (Nat.le_refl _) m1 m2 ?_); intro w1 o1 g1 z1)
    | ((with_reducible show Go.wpList _ _ _ (Oper.mk _ (Op.build _ _) _ _ _ _ :: _) _ _); go_must (refine wp_pool rfl _ _ rfl rfl rfl ?_))
    | fail)
  have hNW : NW w (w1.alloc (.cells (poolN (a : Int) (.slice none 0 0) (.slice (some ⟨w.heap.size, 0, none⟩) n n)).toArray 81)) (w.heap.size + 1) w.heap.size a n 0 none 0 (fun _ => 0) := by
    have hb := Blk.new w1 81 (poolN (a : Int) (.slice none 0 0) (.slice (some ⟨w.heap.size, 0, none⟩) n n)).toArray
    rw [z1] at hb
    exact ⟨g1.trans (Gr.alloc _ _), by omega, hb, Owns.empty _ _ _ _, fun j hj => by omega, fun j k hj => by omega, o1.gr (Gr.alloc _ _)⟩
  have HN := Lib.hid hNW
  have hgb : w.heap.size ≤ w.heap.size + 1 := by omega
  clear hNW o1 g1 z1
  generalize w.heap.size + 1 = g at *
  generalize (w1.alloc (.cells (poolN (a : Int) (.slice none 0 0) (.slice (some ⟨w.heap.size, 0, none⟩) n n)).toArray 81)) = W1 at *
  go_loopw [38] (fun v wr => ∃ (i : Nat) (ads : Option Addr) (cs : Nat) (bd : Nat → Nat), i ≤ n ∧ v = .int .i64 (i : Int) ∧ NW w wr g w.heap.size a n i ads cs bd) (fun v _ => n - (intOf v).toNat)
  case atStart => exact ⟨0, none, 0, fun _ => 0, Nat.zero_le _, rfl, HN.out⟩
  case round =>
    obtain ⟨i, ads, cs, bd, hi, rfl, hN⟩ := hrel
    by_cases hin : i < n
    · have c1 := hN.blk.cell (i := 1) rfl
      have f1 := hN.blk.frozen 1
      have HN2 := Lib.hid hN
      have hb := hN.gr.size
      clear hN
      have m3 : i + 1 ≤ maxLen := by unfold maxLen; omega
      have m4 : (i + 1) * 24 ≤ 140737488355328 := by omega
      go_wp2
      obtain ⟨W0, hW0⟩ : ∃ W0, W0 = wr := ⟨_, rfl⟩
      subst hW0
      obtain ⟨row, hrow⟩ : ∃ row, row = ads.map (·.block) := ⟨_, rfl⟩
      have hNo := HN2.out
      have hgW := hNo.blk.lt
      have hrlt : ∀ g', row = some g' → g' < W0.heap.size ∧ w.heap.size ≤ g' := by
        intro g' hg'
        rw [hrow] at hg'
        cases ads with
        | none => cases hg'
        | some y => cases hg'; exact ⟨(hNo.row.lt y rfl).2, (hNo.row.lt y rfl).1⟩
      have hgne : some g ≠ row := fun h => by
        rw [hrow] at h
        cases hads : ads with
        | none => rw [hads] at h; cases h
        | some y => rw [hads] at h; exact hNo.blk.owns_ne hNo.row (by decide) y hads (Option.some.inj h).symm
      obtain ⟨A9, hA⟩ : ∃ A9 : Option Obj, ∀ g, row = some g → A9 = W0.heap[g]? := ⟨row.bind fun g => W0.heap[g]?, fun g hg' => by rw [hg']; rfl⟩
      obtain ⟨B9, hB⟩ : ∃ B9 : Option Obj, B9 = if i + 1 ≤ cs then appRow (i * 1) [.slice (some ⟨W0.heap.size, 0, none⟩) a a] A9 else A9 := ⟨_, rfl⟩
      have HRow := Lib.hid hrow
      have HA := Lib.hid hA
      have HBB := Lib.hid hB
      have HRL := Lib.hid hrlt
      have oj2 := hNo.row
      have HRV := Lib.hid (fun r (h : row = some r) => (hrlt r h).1)
      have HP0 := Lib.hid (show ∀ s, NPre W0.heap.size g (poolN (a : Int) (.slice ads i cs) (.slice (some ⟨w.heap.size, 0, none⟩) n n)) s W0.drew from fun s => by
        by_cases e6 : s = 6
        · subst e6; rw [NPre.six]; rfl
        · by_cases e11 : s = 11
          · subst e11; rw [NPre.eleven]; exact hNo.blk.drew
          · simp [NPre, e6, e11])
      have HSET := Lib.hid (show ∀ w' v, Blk w' g 81 (poolN (a : Int) (.slice ads i cs) (.slice (some ⟨w.heap.size, 0, none⟩) n n)) → Blk (w'.setCell ⟨g, 1, none⟩ v) g 81 (poolN (a : Int) v (.slice (some ⟨w.heap.size, 0, none⟩) n n)) from fun w' v h => h.set_ 1 v)
      have HPRE := Lib.hid (show ∀ w', Blk w' g 81 (poolN (a : Int) (.slice ads i cs) (.slice (some ⟨w.heap.size, 0, none⟩) n n)) → w'.cell? ⟨g, 1, none⟩ = some (.slice ads i cs) ∧ w'.frozen? ⟨g, 1, none⟩ = false from fun w' h => ⟨h.cell rfl, h.frozen 1⟩)
      clear hrow hA hB hrlt hNo c1 f1
      refine region_phases (Le := Duo row A9 B9 g (GoodF row B9 w.heap.size 81 23 1 (i + 1) (slabV bd a i ++ [.slice (some ⟨W0.heap.size, 0, none⟩) a a]) W0.heap.size g (fun v => poolN (a : Int) v (.slice (some ⟨w.heap.size, 0, none⟩) n n)))) (NPre W0.heap.size g (poolN (a : Int) (.slice ads i cs) (.slice (some ⟨w.heap.size, 0, none⟩) n n))) Duo.refl (fun _ _ _ => Duo.trans) (Duo.drew (GoodF.drew hgW hgne)) HP0.out _ [Is ?r0, Is ?r1, Is ?r2, Is (.pointer (some ⟨g, 1, none⟩)), Is (.slice ads i cs), Is (.int .i64 (a : Int)), NewAt W0.heap.size a, OneD W0.heap.size [.slice (some ⟨W0.heap.size, 0, none⟩) a a], Apn row B9 w.heap.size 23 1 (i + 1) (slabV bd a i ++ [.slice (some ⟨W0.heap.size, 0, none⟩) a a]) W0.heap.size, Is ?r9, Is (.pointer (some ⟨g, 1, none⟩)), SinceG (GoodF row B9 w.heap.size 81 23 1 (i + 1) (slabV bd a i ++ [.slice (some ⟨W0.heap.size, 0, none⟩) a a]) W0.heap.size g (fun v => poolN (a : Int) v (.slice (some ⟨w.heap.size, 0, none⟩) n n)))] (by kernel_rfl) (by kernel_rfl) (by kernel_rfl) rfl rfl ⟨Is.stable _, Is.stable _, Is.stable _, Is.stable _, Is.stable _, Is.stable _, NewAt.dstable hgW HRV.out, OneD.dstable hgW HRV.out, Apn.dstable hgW hgne, Is.stable _, Is.stable _, SinceG.stable, trivial⟩ ⟨?s0, ?s1, ?s2, ?s3, ?s4, ?s5, ?s6, ?s7, ?s8, ?s9, ?s10, ?s11, trivial⟩ ?fin
      case' s0 | s1 | s2 | s3 | s4 | s5 | s6 | s7 | s9 | s10 =>
        intro ρ wr hρ hg hK
        simp [readsOf, slotsOf, Op.operands, Call.operands, tmpOf, List.filterMap_cons, List.filterMap_nil, KnownAll, knownOf, srcOf, depsOf, dstOf, Region.binds, nth, Is] at hK
        obtain ⟨hc, hf, hgl⟩ := hρ
        try simp only [wantedBy, dstOf, boolOf, nth, List.getD_cons_zero, List.getD_cons_succ, List.getElem?_cons_zero, List.getElem?_cons_succ, Option.bind_some, if_true, hK, BEq.rfl]
        try go_simp
        first | exact rfl | (rw [if_pos (by omega)]; exact is_here rfl) | (rw [dif_pos (by omega)]; exact is_here rfl) | exact congrArg (Value.int _) (IntWalk.i64_in _ ⟨by omega, by omega⟩) | skip
      case' s8 | s11 =>
        intro ρ wr hρ hg hK
        simp [readsOf, slotsOf, Op.operands, Call.operands, tmpOf, List.filterMap_cons, List.filterMap_nil, KnownAll, knownOf, srcOf, depsOf, dstOf, Region.binds, nth, Is] at hK
        obtain ⟨hc, hf, hgl⟩ := hρ
        try simp only [wantedBy, dstOf, boolOf, nth, List.getD_cons_zero, List.getD_cons_succ, List.getElem?_cons_zero, List.getElem?_cons_succ, Option.bind_some, if_true, hK, BEq.rfl]
      case s4 =>
        obtain ⟨p1, p2⟩ := HPRE.out _ (NPre.eleven.1 (hg.2 11 (by kernel_rfl)))
        go_simp
        exact rfl
      case s6 =>
        obtain ⟨w9, r1, r2, r3⟩ := make_slab _ a h2 .i64 .i64
        have e9 := NPre.six.1 (hg.2 6 (by kernel_rfl))
        have hs := hg.1.size
        rw [r1]
        rw [e9] at r3 ⊢
        simp only [Result.andThen_ok, growUpon_value]
        have k := Gr.duo (row := row) (A := A9) (B := B9) (g := g) (Good := fun _ => True) r2 (fun r h => by have := HRV.out r h; omega) (by omega) (fun _ => trivial)
        exact ⟨⟨r2.duo (fun r h => by have := HRV.out r h; omega) (by omega) (fun h => h.duo hgW hgne k (r2.block g (by omega))), NPre.step (fun h => absurd rfl h) (fun _ h => h.gr r2)⟩, rfl, r3⟩
      case s7 =>
        obtain ⟨e0, hb0⟩ := hK
        have hlt0 := hb0.lt
        have hs := hg.1.size
        simp only [e0]
        go_simp
        have k := Gr.duo (row := row) (A := A9) (B := B9) (g := g) (Good := fun _ => True) (Gr.alloc wr (.cells #[.slice (some ⟨W0.heap.size, 0, none⟩) a a] 23)) (fun r h => by have := HRV.out r h; omega) (by omega) (fun _ => trivial)
        exact ⟨⟨(Gr.alloc _ _).duo (fun r h => by have := HRV.out r h; omega) (by omega) (fun h => h.duo hgW hgne k ((Gr.alloc _ _).block g (by omega))), NPre.step (fun _ h => by omega) (fun _ h => h.alloc _)⟩, _, _, _, rfl, hs, heap_alloc_new _ _⟩
      case s8 =>
        obtain ⟨e0, hone⟩ := hK
        have hs := hg.1.size
        obtain ⟨g9, q9, fr9, o1, o2, o3⟩ := hone
        have hlt9 := (Array.getElem?_eq_some_iff.1 o3).1
        obtain ⟨v, w3, r1, r2, r3⟩ := append_once3 (ty := 76) (u := 76) elemRow oj2 HRow.out HA.out HBB.out hg.1.row hs (OneB.src ⟨g9, q9, fr9, o1, o3⟩ rfl (fun x hx => by rw [List.mem_singleton] at hx; rw [hx]; rfl) Try.underlying76) m3 m4 hb
        have k := Once.duo (g := g) (Good := fun _ => True) r2 (by omega) hgne (fun _ => trivial)
        simp only [execOp, resolve, invoke, builtin, Sem.run_bind, Sem.run_pure, Result.andThen_ok, List.map_toArray, List.map_cons, List.map_nil, e0]
        rw [r1]
        exact ⟨⟨r2.duo (by omega) hgne (fun h => h.duo hgW hgne k (r2.1.block g (by omega) hgne)), NPre.step (fun _ h => by omega) (fun _ h => Blk.grown h r2.1 hgne)⟩, r3⟩
      case s11 =>
        obtain ⟨e0, hap⟩ := hK
        have hb := NPre.eleven.1 (hg.2 11 (by kernel_rfl))
        obtain ⟨p1, p2⟩ := HPRE.out _ hb
        have hset := HSET.out _ (ρ (.tmp 48)) hb
        obtain ⟨d1, d2⟩ := duo_setF (A := A9) (F := fun v => poolN (a : Int) v (.slice (some ⟨w.heap.size, 0, none⟩) n n)) hset hap hgW hgne
        obtain ⟨adv, cpv, e1, _⟩ := hap
        rw [e1] at d1 d2
        go_simp
        exact ⟨⟨d1, NPre.step (fun _ h => by simpa using h) (fun h => absurd rfl h)⟩, d2⟩
      case fin =>
        intro w1 val hg hH
        simp only [Holds, Is, Nat.zero_add, Nat.reduceAdd] at hH
        obtain ⟨h0, h1, h2, h3, h4, h5, h6, h7, h8, h9, h10, h11, _⟩ := hH
        simp only [List.take_succ_cons, List.take_zero, List.drop_succ_cons, List.drop_zero, putAll, h0, h1, h2, h3, h4, h5, h9, h10, Nat.zero_add, Nat.reduceAdd]
        obtain ⟨v9, b9, ad9, c9, rfl, o9, _, _⟩ := h11
        obtain ⟨ad7, c7, e7, _⟩ := h8
        obtain ⟨g6, e6, fr6, e6', _⟩ := h7
        obtain ⟨e5, b5⟩ := h6
        simp only [e7, e6', e5]
        go_simp
        have hNo := HN2.out
        have hkeep : ∀ j, j < W0.heap.size → j ≠ g → some j ≠ row → w1.heap[j]? = W0.heap[j]? := fun j hj h1 h2 => hg.block j hj h2 h1
        have hne : ∀ {b : Nat} {t : TypeId} {cs' : List Value}, Blk W0 b t cs' → t ≠ 23 → some b ≠ row := fun hb ht e => by
          rw [HRow.out] at e
          cases hads : ads with
          | none => rw [hads] at e; cases e
          | some y => rw [hads] at e; exact hb.owns_ne hNo.row ht y hads (Option.some.inj e).symm
        have hNW : NW w w1 g w.heap.size a n (i + 1) ad9 c9 (upd bd i W0.heap.size) := by
          refine ⟨⟨hg.os.trans hNo.gr.os, hg.tape.trans hNo.gr.tape, hg.output.trans hNo.gr.output, Nat.le_trans hNo.gr.size hg.size, fun j hj => (hkeep j (Nat.lt_of_lt_of_le hj hNo.gr.size) (by have := hNo.hg; omega) (fun e => by have := (HRL.out j e.symm).2; omega)).trans (hNo.gr.block j hj)⟩, hNo.hg, b9, ?_, fun j hj => ?_, fun j k hj hk => ?_, ?_⟩
          · have e : slabV (upd bd i W0.heap.size) a (i + 1) = slabV bd a i ++ [.slice (some ⟨W0.heap.size, 0, none⟩) a a] := by
              unfold slabV
              rw [List.range_succ, List.map_append]
              congr 1
              · apply List.map_congr_left
                intro j hj
                rw [List.mem_range] at hj
                rw [upd_other _ _ (by omega)]
              · simp [upd_same]
            rw [e]; exact o9
          · by_cases e : j = i
            · subst e; rw [upd_same]; exact ⟨b5, hNo.gr.size⟩
            · rw [upd_other _ _ e]
              obtain ⟨q1, q2⟩ := hNo.slab j (by omega)
              exact ⟨(hkeep _ q1.lt (q1.ne hNo.blk (by decide)) (hne q1 (by decide))).trans q1, q2⟩
          · by_cases ej : j = i
            · by_cases ek : k = i
              · intro _; omega
              · subst ej; rw [upd_same, upd_other _ _ ek]
                have := (hNo.slab k (by omega)).1.lt
                intro e; omega
            · by_cases ek : k = i
              · subst ek; rw [upd_same, upd_other _ _ ej]
                have := (hNo.slab j (by omega)).1.lt
                intro e; omega
              · rw [upd_other _ _ ej, upd_other _ _ ek]
                exact hNo.inj j k (by omega) (by omega)
          · exact hNo.tak.kept (fun b hb => hkeep b (hNo.tak.lt _ hb).2 (hNo.blk.owns_ne hNo.tak (by decide) _ hb) (fun e => by
              rw [HRow.out] at e
              cases hads : ads with
              | none => rw [hads] at e; cases e
              | some y => rw [hads] at e; exact hNo.tak.ne hNo.row (by decide) _ y hb hads (Option.some.inj e)))
        have HNW := Lib.hid hNW
        clear hNW hNo b9 o9 b5 hne hkeep
        go_wp2
        go_roundw
        case rel => exact ⟨i + 1, ad9, c9, upd bd i W0.heap.size, hin, by go_num, HNW.out⟩
        case measure => simp [intOf]; omega
    · obtain rfl : i = n := by omega
      have HN2 := Lib.hid hN
      clear hN
      go_wp2
      go_ret2
      have hN := HN2.out
      have hbl : (newF a i).bytes.length = i := List.length_replicate
      have htl : (newF a i).taken.length = i := List.length_replicate
      refine ⟨g, fun j => w.heap.size ≤ j ∧ j < wr.heap.size, rfl, hN.gr, ⟨ads, cs, some ⟨w.heap.size, 0, none⟩, i, fun _ => none, fun _ => 0, bd, ?_⟩, fun j hj => hj.1⟩
      have hpv : poolV (newF a i) ads cs (some ⟨w.heap.size, 0, none⟩) i (fun _ => none) (fun _ => 0) = poolN (a : Int) (.slice ads i cs) (.slice (some ⟨w.heap.size, 0, none⟩) i i) := by
        unfold poolV poolN
        rw [hbl, htl]
        rw [flat_congr (G := fun _ => landV noLand none 0) 256 (fun j hj => by rw [landAt_new])]
        rfl
      refine ⟨by rw [hpv]; exact hN.blk, by rw [hbl]; exact hN.row.base (Nat.zero_le _), ?_, fun j hj => ?_, fun j hj => ?_, fun j k hj hk => hN.inj j k (by omega) (by omega), fun j k x y _ _ hx => (by cases hx), ⟨hN.hg, hN.blk.lt⟩, fun x hx => ⟨(hN.row.lt x hx).1, (hN.row.lt x hx).2⟩, fun x hx => ⟨(hN.tak.lt x hx).1, (hN.tak.lt x hx).2⟩, fun j hj => ⟨(hN.slab j (by omega)).2, (hN.slab j (by omega)).1.lt⟩, fun j x _ hx => (by cases hx), fun j hj => hj.2⟩
      · rw [htl]
        show Owns wr 0 _ 1 _ _ i ((List.replicate i false).map .bool)
        rw [List.map_replicate]
        exact hN.tak.base (Nat.zero_le _)
      · have e : bytesAt (newF a i) j = List.replicate a 0 := by
          unfold bytesAt newF
          simp only [List.getD_eq_getElem?_getD, List.getElem?_replicate]
          rw [if_pos (by omega)]; rfl
        rw [e]
        exact (hN.slab j (by omega)).1
      · rw [landAt_new]
        exact Owns.empty _ _ _ _
end Go.Proofs.Ytfnimpgphagnfaa
