/- Layer 1 (region): the reference's New and Ints walked; a law's own such pool. -/
import Derived.Test.YtfnimpgphagnfaaTillAlloc
namespace Go.Proofs.Ytfnimpgphagnfaa
set_option linter.unusedVariables false
set_option linter.unusedSimpArgs false
open Go.RowKit
theorem elemS : Elem Try.prog 45 9 (.string ⟨#[]⟩) 1 16 := ⟨by kernel_rfl, by kernel_rfl, rfl, by decide⟩
set_option maxRecDepth 100000 in
set_option maxHeartbeats 4000000 in
theorem rNew_bad (w : World) (size slabs : Int) (h : newOk size slabs = false) :
    Calls Try.prog 22 #[.int .i64 size, .int .i64 slabs] w fun e w' => e = .returned (.pointer none) ∧ w = w' := by
  unfold newOk at h
  by_cases b1 : size < 64
  · clear h
    go_enter Try.func22, Try.ntmps22
    go_wp2
    go_ret
    exact ⟨rfl, rfl⟩
  · by_cases b2 : size > 65536
    · clear h
      go_enter Try.func22, Try.ntmps22
      go_wp2
      go_ret
      exact ⟨rfl, rfl⟩
    · obtain ⟨a, rfl⟩ : ∃ a : Nat, size = (a : Int) := ⟨size.toNat, by omega⟩
      obtain ⟨m, hm⟩ : ∃ m, m = a % 8 := ⟨_, rfl⟩
      have hmt : (a : Int).tmod 8 = (m : Int) := by rw [hm]; rfl
      by_cases b3 : m = 0
      · by_cases b4 : slabs < 1
        · clear hm
          clear h
          go_enter Try.func22, Try.ntmps22
          go_wp2
          go_ret
          exact ⟨rfl, rfl⟩
        · by_cases b5 : slabs > 4096
          · clear hm
            clear h
            go_enter Try.func22, Try.ntmps22
            go_wp2
            go_ret
            exact ⟨rfl, rfl⟩
          · obtain ⟨n, rfl⟩ : ∃ n : Nat, slabs = (n : Int) := ⟨slabs.toNat, by omega⟩
            obtain ⟨q, hq⟩ : ∃ q, q = a * n := ⟨_, rfl⟩
            have hqi : (a : Int) * (n : Int) = (q : Int) := by rw [hq]; simp
            have hql : q ≤ 268435456 := by rw [hq]; exact Nat.le_trans (Nat.mul_le_mul (show a ≤ 65536 by omega) (show n ≤ 4096 by omega)) (by decide)
            have hqw : IntKind.i64.wrap (q : Int) = (q : Int) := by rw [IntKind.wrap_i64]; omega
            have hb : q > 4194304 := by
              rcases Nat.lt_or_ge 4194304 q with h1 | h1
              · exact h1
              · exfalso
                rw [hqi] at h
                have e1 : decide ((64 : Int) ≤ (a : Int)) = true := decide_eq_true (by omega)
                have e2 : decide ((a : Int) ≤ 65536) = true := decide_eq_true (by omega)
                have e3 : decide ((a : Int) % 8 = 0) = true := decide_eq_true (by omega)
                have e4 : decide ((1 : Int) ≤ (n : Int)) = true := decide_eq_true (by omega)
                have e5 : decide ((n : Int) ≤ 4096) = true := decide_eq_true (by omega)
                have e6 : decide ((q : Int) ≤ 4194304) = true := decide_eq_true (by omega)
                rw [e1, e2, e3, e4, e5, e6] at h
                cases h
            clear hm hq
            clear h
            go_enter Try.func22, Try.ntmps22
            go_wp2
            go_ret
            exact ⟨rfl, rfl⟩
      · have hz : ((m : Int) != 0) = true := by simp; omega
        clear hm
        clear h
        go_enter Try.func22, Try.ntmps22
        go_wp2
        go_ret
        exact ⟨rfl, rfl⟩
theorem rpool_built (s : Int) : Try.prog.built 74 [(0, .int .i64 s)] = some (poolN s (.slice none 0 0) (.slice none 0 0)).toArray := by kernel_rfl
theorem wp_rpool {w : World} {ops : Array Oper} {rest : List Oper} {o : Oper} {a : Act} {Q : Exit → Act → World → Prop} (hg : o.guard = none) (x : Operand) (ho : o.op = .build 74 #[(0, x)]) {s : Int} (hx : a.eval x = .int .i64 s)
    (h : wpList Try.prog ops Q rest (a.put o.dst (.agg (poolN s (.slice none 0 0) (.slice none 0 0)).toArray)) w) : wpList Try.prog ops Q (o :: rest) a w := by
  have hb : Try.prog.built 74 ((#[(0, x)] : Array (Nat × Operand)).map fun (i, x) => (i, a.eval x)).toList = some (poolN s (.slice none 0 0) (.slice none 0 0)).toArray := by
    simp only [List.map_toArray, List.map_cons, List.map_nil, hx]
    exact rpool_built s
  refine wpList_build hg 74 #[(0, x)] ho (by rw [hb]; rfl) ?_
  rw [hb]
  exact h
def NewFar (N a : Nat) : Value → World → Prop := fun v w => ∃ b, v = .slice (some ⟨b, 0, none⟩) a a ∧ N ≤ b ∧ Blk w b 5 (bv (List.replicate a 0))
theorem NewFar.dstable {row : Option Nat} {A B : Option Obj} {g : Nat} {Good : World → Prop} {N a : Nat} (hg : g < N) (hr : ∀ r, row = some r → r < N) : Stable (Duo row A B g Good) (NewFar N a) := by
  rintro v w1 w2 ⟨b, e, hN, h⟩ d
  exact ⟨b, e, hN, (d.block b h.lt (fun e => by have := hr b e.symm; omega) (by omega)).trans h⟩
theorem NewFar.reads {N a : Nat} {v : Value} {w : World} (h : NewFar N a v w) : ReadsB (List.replicate a 0) v w := by
  obtain ⟨b, rfl, _, hb⟩ := h
  refine ⟨some ⟨b, 0, none⟩, a, by rw [List.length_replicate], fun m hm => ⟨_, 0, rfl, ?_⟩⟩
  rw [Nat.zero_add]
  exact hb.cell (bv_get _ m hm)
def RPre (g : Nat) (cs : List Value) : Nat → World → Prop := fun s w => if s = 12 then Blk w g 74 cs else True
theorem RPre.twelve {g : Nat} {cs : List Value} {w : World} : RPre g cs 12 w ↔ Blk w g 74 cs := by simp [RPre]
theorem RPre.step {g : Nat} {cs : List Value} {w w' : World} {i : Nat} (h : i ≠ 12 → Blk w g 74 cs → Blk w' g 74 cs) : ∀ s, s ≠ i → RPre g cs s w → RPre g cs s w' := by
  intro s hs k
  by_cases e : s = 12
  · subst e; rw [RPre.twelve] at k ⊢; exact h (fun e => hs e.symm) k
  · simp [RPre, e]
/-- while slabs are made -/
structure RW (w wr : World) (g a i j : Nat) (ads : Option Addr) (cs : Nat) (ado : Option Addr) (co : Nat) : Prop where
  gr : Gr w wr
  hg : w.heap.size ≤ g
  blk : Blk wr g 74 (poolN (a : Int) (.slice ads i cs) (.slice ado j co))
  row : Owns wr w.heap.size 9 1 ads cs i (sv (List.replicate i (List.replicate a 0)))
  own : Owns wr w.heap.size 3 1 ado co j (ov (List.replicate j (-1)))
theorem sv_more (i a : Nat) : sv (List.replicate (i + 1) (List.replicate a 0)) = sv (List.replicate i (List.replicate a 0)) ++ [.string (str (List.replicate a 0))] := by
  unfold sv
  rw [List.replicate_succ', List.map_append]
  rfl
theorem ov_more (i : Nat) : ov (List.replicate (i + 1) (-1)) = ov (List.replicate i (-1)) ++ [.int .i64 (-1)] := by
  unfold ov
  rw [List.replicate_succ', List.map_append]
  rfl
set_option maxRecDepth 100000 in
set_option maxHeartbeats 4000000 in
theorem rNew_good (w : World) (a n : Nat) (h1 : 64 ≤ a) (h2 : a ≤ 65536) (h3 : a % 8 = 0) (h4 : 1 ≤ n) (h5 : n ≤ 4096) (h6 : a * n ≤ 4194304) :
    Calls Try.prog 22 #[.int .i64 (a : Int), .int .i64 (n : Int)] w fun e w' => ∃ g S, e = .returned (.pointer (some ⟨g, 0, none⟩)) ∧ Gr w w' ∧ RPool w' S g (newF a n) ∧ ∀ j, S j → w.heap.size ≤ j := by
  have hmt : (a : Int).tmod 8 = 0 := by show ((a % 8 : Nat) : Int) = 0; rw [h3]; rfl
  obtain ⟨q, hq⟩ : ∃ q, q = a * n := ⟨_, rfl⟩
  have hqi : (a : Int) * (n : Int) = (q : Int) := by rw [hq]; simp
  have hql : q ≤ 4194304 := by rw [hq]; exact h6
  have hqw : IntKind.i64.wrap (q : Int) = (q : Int) := by rw [IntKind.wrap_i64]; omega
  clear hq h6 h3
  go_enter Try.func22, Try.ntmps22
  go_wp2_with (first
    | ((with_reducible show Go.wpList _ _ _ (Oper.mk _ (Op.build _ _) _ _ _ _ :: _) _ _); go_must (refine wp_rpool rfl _ rfl rfl ?_))
    | fail)
  have HN := Lib.hid (show RW w (w.alloc (.cells (poolN (a : Int) (.slice none 0 0) (.slice none 0 0)).toArray 74)) w.heap.size a 0 0 none 0 none 0 from
    ⟨Gr.alloc _ _, Nat.le_refl _, Blk.new w 74 (poolN (a : Int) (.slice none 0 0) (.slice none 0 0)).toArray, Owns.empty _ _ _ _, Owns.empty _ _ _ _⟩)
  have hgb : w.heap.size ≤ w.heap.size := Nat.le_refl _
  generalize w.alloc (.cells (poolN (a : Int) (.slice none 0 0) (.slice none 0 0)).toArray 74) = W1 at *
  obtain ⟨g, hg⟩ : ∃ g, g = w.heap.size := ⟨_, rfl⟩
  rw [← hg] at HN ⊢
  clear hg
  go_loopw [6] (fun v wr => ∃ (i : Nat) (ads : Option Addr) (cs : Nat) (ado : Option Addr) (co : Nat), i ≤ n ∧ v = .int .i64 (i : Int) ∧ RW w wr g a i i ads cs ado co) (fun v _ => n - (intOf v).toNat)
  case atStart => exact ⟨0, none, 0, none, 0, Nat.zero_le _, rfl, HN.out⟩
  case round =>
    obtain ⟨i, ads, cs, ado, co, hi, rfl, hN⟩ := hrel
    clear HN
    by_cases hin : i < n
    · have m3 : i + 1 ≤ maxLen := by unfold maxLen; omega
      have m4 : (i + 1) * 16 ≤ 140737488355328 := by omega
      have m5 : (i + 1) * 8 ≤ 140737488355328 := by omega
      have HN2 := Lib.hid hN
      have hb := hN.gr.size
      clear hN
      go_upto_region 7 with (fail)
      obtain ⟨W0, hW0⟩ : ∃ W0, W0 = wr := ⟨_, rfl⟩
      subst hW0
      obtain ⟨row, hrow⟩ : ∃ row, row = ads.map (·.block) := ⟨_, rfl⟩
      have hNo := HN2.out
      have hgW := hNo.blk.lt
      have hrlt : ∀ g', row = some g' → g' < W0.heap.size ∧ w.heap.size ≤ g' := by
        intro g' hg'
        rw [hrow] at hg'
        cases ads with
        | none => cases hg'
        | some y => cases hg'; exact ⟨(hNo.row.lt y rfl).2, (hNo.row.lt y rfl).1⟩
      have hgne : some g ≠ row := fun h => by
        rw [hrow] at h
        cases hads : ads with
        | none => rw [hads] at h; cases h
        | some y => rw [hads] at h; exact hNo.blk.owns_ne hNo.row (by decide) y hads (Option.some.inj h).symm
      obtain ⟨A9, hA⟩ : ∃ A9 : Option Obj, ∀ g, row = some g → A9 = W0.heap[g]? := ⟨row.bind fun g => W0.heap[g]?, fun g hg' => by rw [hg']; rfl⟩
      obtain ⟨B9, hB⟩ : ∃ B9 : Option Obj, B9 = if i + 1 ≤ cs then appRow (i * 1) [.string (str (List.replicate a 0))] A9 else A9 := ⟨_, rfl⟩
      have HRow := Lib.hid hrow
      have HA := Lib.hid hA
      have HBB := Lib.hid hB
      have HRL := Lib.hid hrlt
      have oj2 := hNo.row
      have HRV := Lib.hid (fun r (h : row = some r) => (hrlt r h).1)
      have HP0 := Lib.hid (show ∀ s, RPre g (poolN (a : Int) (.slice ads i cs) (.slice ado i co)) s W0.drew from fun s => by
        by_cases e : s = 12
        · subst e; rw [RPre.twelve]; exact hNo.blk.drew
        · simp [RPre, e])
      have HSET := Lib.hid (show ∀ w' v, Blk w' g 74 (poolN (a : Int) (.slice ads i cs) (.slice ado i co)) → Blk (w'.setCell ⟨g, 1, none⟩ v) g 74 (poolN (a : Int) v (.slice ado i co)) from fun w' v h => h.set_ 1 v)
      have HPRE := Lib.hid (show ∀ w', Blk w' g 74 (poolN (a : Int) (.slice ads i cs) (.slice ado i co)) → w'.cell? ⟨g, 1, none⟩ = some (.slice ads i cs) ∧ w'.frozen? ⟨g, 1, none⟩ = false from fun w' h => ⟨h.cell rfl, h.frozen 1⟩)
      clear hrow hA hB hrlt hNo
      refine region_phases (Le := Duo row A9 B9 g (GoodF row B9 w.heap.size 74 9 1 (i + 1) (sv (List.replicate i (List.replicate a 0)) ++ [.string (str (List.replicate a 0))]) W0.heap.size g (fun v => poolN (a : Int) v (.slice ado i co)))) (RPre g (poolN (a : Int) (.slice ads i cs) (.slice ado i co))) Duo.refl (fun _ _ _ => Duo.trans) (Duo.drew (GoodF.drew hgW hgne)) HP0.out _ [Is ?r0, Is ?r1, Is ?r2, Is (.pointer (some ⟨g, 1, none⟩)), Is (.slice ads i cs), Is (.int .i64 (a : Int)), NewFar W0.heap.size a, Is (.string (str (List.replicate a 0))), OneD W0.heap.size [.string (str (List.replicate a 0))], Apn row B9 w.heap.size 9 1 (i + 1) (sv (List.replicate i (List.replicate a 0)) ++ [.string (str (List.replicate a 0))]) W0.heap.size, Is ?r10, Is (.pointer (some ⟨g, 1, none⟩)), SinceG (GoodF row B9 w.heap.size 74 9 1 (i + 1) (sv (List.replicate i (List.replicate a 0)) ++ [.string (str (List.replicate a 0))]) W0.heap.size g (fun v => poolN (a : Int) v (.slice ado i co)))] (by kernel_rfl) (by kernel_rfl) (by kernel_rfl) rfl rfl ⟨Is.stable _, Is.stable _, Is.stable _, Is.stable _, Is.stable _, Is.stable _, NewFar.dstable hgW HRV.out, Is.stable _, OneD.dstable hgW HRV.out, Apn.dstable hgW hgne, Is.stable _, Is.stable _, SinceG.stable, trivial⟩ ⟨?s0, ?s1, ?s2, ?s3, ?s4, ?s5, ?s6, ?s7, ?s8, ?s9, ?s10, ?s11, ?s12, trivial⟩ ?fin
      case' s0 | s1 | s2 | s3 | s4 | s5 | s6 | s7 | s8 | s10 | s11 =>
        intro ρ wr hρ hg hK
        simp [readsOf, slotsOf, Op.operands, Call.operands, tmpOf, List.filterMap_cons, List.filterMap_nil, KnownAll, knownOf, srcOf, depsOf, dstOf, Region.binds, nth, Is] at hK
        obtain ⟨hc, hf, hgl⟩ := hρ
        try simp only [wantedBy, dstOf, boolOf, nth, List.getD_cons_zero, List.getD_cons_succ, List.getElem?_cons_zero, List.getElem?_cons_succ, Option.bind_some, if_true, hK, BEq.rfl]
        try go_simp
        first | exact rfl | (rw [if_pos (by omega)]; exact is_here rfl) | (rw [dif_pos (by omega)]; exact is_here rfl) | exact congrArg (Value.int _) (IntWalk.i64_in _ ⟨by omega, by omega⟩) | skip
      case' s9 | s12 =>
        intro ρ wr hρ hg hK
        simp [readsOf, slotsOf, Op.operands, Call.operands, tmpOf, List.filterMap_cons, List.filterMap_nil, KnownAll, knownOf, srcOf, depsOf, dstOf, Region.binds, nth, Is] at hK
        obtain ⟨hc, hf, hgl⟩ := hρ
        try simp only [wantedBy, dstOf, boolOf, nth, List.getD_cons_zero, List.getD_cons_succ, List.getElem?_cons_zero, List.getElem?_cons_succ, Option.bind_some, if_true, hK, BEq.rfl]
      case s4 =>
        obtain ⟨p1, p2⟩ := HPRE.out _ (RPre.twelve.1 (hg.2 12 (by kernel_rfl)))
        go_simp
        exact rfl
      case s6 =>
        obtain ⟨w9, r1, r2, r3⟩ := make_slab _ a h2 .i64 .i64
        have hs := hg.1.size
        rw [r1]
        simp only [Result.andThen_ok, growUpon_value]
        have k := Gr.duo (row := row) (A := A9) (B := B9) (g := g) (Good := fun _ => True) r2 (fun r h => by have := HRV.out r h; omega) (by omega) (fun _ => trivial)
        exact ⟨⟨r2.duo (fun r h => by have := HRV.out r h; omega) (by omega) (fun h => h.duo hgW hgne k (r2.block g (by omega))), RPre.step (fun _ h => h.gr r2)⟩, _, rfl, hs, r3⟩
      case s7 =>
        obtain ⟨ad, cap, e0, hb⟩ := hK.reads
        rw [e0, run_string Try.underlying23 Try.underlying5 Try.underlying9 rfl hb]
        simp only [Result.andThen_ok, growUpon_value]
        exact ⟨⟨Duo.refl _, fun _ _ x => x⟩, rfl⟩
      case s8 =>
        have hs := hg.1.size
        go_simp
        have k := Gr.duo (row := row) (A := A9) (B := B9) (g := g) (Good := fun _ => True) (Gr.alloc wr (.cells #[.string (str (List.replicate a 0))] 9)) (fun r h => by have := HRV.out r h; omega) (by omega) (fun _ => trivial)
        exact ⟨⟨(Gr.alloc _ _).duo (fun r h => by have := HRV.out r h; omega) (by omega) (fun h => h.duo hgW hgne k ((Gr.alloc _ _).block g (by omega))), RPre.step (fun _ h => h.alloc _)⟩, _, _, _, rfl, hs, heap_alloc_new _ _⟩
      case s9 =>
        obtain ⟨e0, hone⟩ := hK
        have hs := hg.1.size
        obtain ⟨g9, q9, fr9, o1, o2, o3⟩ := hone
        have hlt9 := (Array.getElem?_eq_some_iff.1 o3).1
        obtain ⟨v, w3, r1, r2, r3⟩ := append_once3 (ty := 45) (u := 45) elemS oj2 HRow.out HA.out HBB.out hg.1.row hs (OneB.src ⟨g9, q9, fr9, o1, o3⟩ rfl (fun x hx => by rw [List.mem_singleton] at hx; rw [hx]; rfl) Try.underlying45) m3 m4 hb
        have k := Once.duo (g := g) (Good := fun _ => True) r2 (by omega) hgne (fun _ => trivial)
        simp only [execOp, resolve, invoke, builtin, Sem.run_bind, Sem.run_pure, Result.andThen_ok, List.map_toArray, List.map_cons, List.map_nil, e0]
        rw [r1]
        exact ⟨⟨r2.duo (by omega) hgne (fun h => h.duo hgW hgne k (r2.1.block g (by omega) hgne)), RPre.step (fun _ h => Blk.grown h r2.1 hgne)⟩, r3⟩
      case s12 =>
        obtain ⟨e0, hap⟩ := hK
        have hb := RPre.twelve.1 (hg.2 12 (by kernel_rfl))
        obtain ⟨p1, p2⟩ := HPRE.out _ hb
        have hset := HSET.out _ (ρ (.tmp 49)) hb
        obtain ⟨d1, d2⟩ := duo_setF (A := A9) (F := fun v => poolN (a : Int) v (.slice ado i co)) hset hap hgW hgne
        obtain ⟨adv, cpv, e1, _⟩ := hap
        rw [e1] at d1 d2
        go_simp
        exact ⟨⟨d1, RPre.step (fun h => absurd rfl h)⟩, d2⟩
      case fin =>
        intro w1 val hg hH
        simp only [Holds, Is, Nat.zero_add, Nat.reduceAdd] at hH
        obtain ⟨h0, h1, h2, h3, h4, h5, h6, h7, h8, h9, h10, h11, h12, _⟩ := hH
        simp only [List.take_succ_cons, List.take_zero, List.drop_succ_cons, List.drop_zero, putAll, h0, h1, h2, h3, h4, h5, h7, h10, h11, Nat.zero_add, Nat.reduceAdd]
        obtain ⟨v9, b9, ad9, c9, rfl, o9, _, _⟩ := h12
        have hNo := HN2.out
        have hkeep : ∀ j, j < W0.heap.size → j ≠ g → some j ≠ row → w1.heap[j]? = W0.heap[j]? := fun j hj h1 h2 => hg.block j hj h2 h1
        have hNW : RW w w1 g a (i + 1) i ad9 c9 ado co := by
          refine ⟨⟨hg.os.trans hNo.gr.os, hg.tape.trans hNo.gr.tape, hg.output.trans hNo.gr.output, Nat.le_trans hNo.gr.size hg.size, fun j hj => (hkeep j (Nat.lt_of_lt_of_le hj hNo.gr.size) (by have := hNo.hg; omega) (fun e => by have := (HRL.out j e.symm).2; omega)).trans (hNo.gr.block j hj)⟩, hNo.hg, b9, ?_, ?_⟩
          · rw [sv_more]; exact o9
          · exact hNo.own.kept (fun b hb => hkeep b (hNo.own.lt _ hb).2 (hNo.blk.owns_ne hNo.own (by decide) _ hb) (fun e => by
              rw [HRow.out] at e
              cases hads : ads with
              | none => rw [hads] at e; cases e
              | some y => rw [hads] at e; exact hNo.own.ne hNo.row (by decide) _ y hb hads (Option.some.inj e)))
        have c2 := hNW.blk.cell (i := 2) rfl
        have f2 := hNW.blk.frozen 2
        have hbs := hNW.gr.size
        have HNW := Lib.hid hNW
        clear hNW hNo b9 o9 hkeep hg oj2 HP0 HSET HPRE HA HBB HRL HRV HRow hgne hgW HN2
        go_simp
        go_wp2_with (first
          | (at_builtin
             go_must (refine wp_append elemI rfl _ _ rfl rfl (HNW.out.own.gr (Gr.alloc _ _)) rfl (src_cell _ (.int .i64 (-1)) _ rfl Try.underlying22 _ (by simp)) m3 m5 (Nat.le_trans hbs (Gr.alloc _ _).size) ?_); intro ad5 c5 w5 o5 k5 f5
             have hne5 : ∀ y, ado = some y → y.block ≠ g := HNW.out.blk.owns_ne HNW.out.own (by decide)
             have hkg : some g ≠ ado.map (·.block) := fun e => by
               cases hads : ado with
               | none => rw [hads] at e; cases e
               | some y => rw [hads] at e; exact hne5 y hads (Option.some.inj e).symm
             have b5 := (HNW.out.blk.alloc (.cells #[.int .i64 (-1)] 3)).grown k5 hkg
             have z5 := b5.frozen 2
             have y5 := b5.cell (i := 2) rfl
             have HB5 := Lib.hid (b5.set_ 2 (.slice ad5 (i + 1) c5))
             have HR5 := Lib.hid ((HNW.out.row.gr (Gr.alloc w1 (.cells #[.int .i64 (-1)] 3))).grown k5 (fun x hx e => by
               cases hads : ado with
               | none => rw [hads] at e; cases e
               | some y => rw [hads] at e; exact HNW.out.row.ne HNW.out.own (by decide) x y hx hads (Option.some.inj e)))
             have HG5 := Lib.hid ((HNW.out.gr.trans (Gr.alloc w1 (.cells #[.int .i64 (-1)] 3))).grown k5 (fun k hk => by
               cases hads : ado with
               | none => rw [hads] at hk; cases hk
               | some y => rw [hads] at hk; exact Option.some.inj hk ▸ (HNW.out.own.lt y hads).1))
             have HO5 := Lib.hid o5
             have HF5 := Lib.hid f5
             clear b5 o5 k5 f5 hne5 hkg)
          | fail)
        go_roundw
        case rel =>
          have kg := grown_set w5 g 2 (.slice ad5 (i + 1) c5)
          refine ⟨i + 1, ad9, c9, ad5, c5, hin, by go_num, HG5.out.of_far kg HNW.out.hg, HNW.out.hg, HB5.out, HR5.out.grown kg (fun x hx e => HNW.out.blk.owns_ne HNW.out.row (by decide) x hx (Option.some.inj e)), ?_⟩
          rw [ov_more]
          exact HO5.out.grown kg (fun x hx e => by
            rcases HF5.out x hx with h1 | h1
            · exact HNW.out.blk.owns_ne HNW.out.own (by decide) x h1 (Option.some.inj e)
            · have h2 := HNW.out.blk.lt
              have h3 := Option.some.inj e
              simp at h1
              omega)
        case measure => simp [intOf]; omega
    · obtain rfl : i = n := by omega
      have HN2 := Lib.hid hN
      clear hN
      go_wp2
      go_ret
      have hN := HN2.out
      have hbl : (newF a i).bytes.length = i := List.length_replicate
      have htl : (newF a i).taken.length = i := List.length_replicate
      have hpv : poolV (newF a i) ads cs ado co (fun _ => none) (fun _ => 0) = poolN (a : Int) (.slice ads i cs) (.slice ado i co) := by
        unfold poolV poolN
        rw [hbl, htl]
        rw [flat_congr (G := fun _ => landV noLand none 0) 256 (fun j hj => by rw [landAt_new])]
        rfl
      refine ⟨g, fun j => w.heap.size ≤ j ∧ j < wr.heap.size, rfl, hN.gr, ⟨List.replicate i (-1), ads, cs, ado, co, fun _ => none, fun _ => 0, ?_⟩, fun j hj => hj.1⟩
      refine ⟨by rw [hpv]; exact hN.blk, by rw [hbl]; exact hN.row.base (Nat.zero_le _), by rw [htl]; exact hN.own.base (Nat.zero_le _), fun j hj => ?_, ⟨by rw [htl, List.length_replicate], fun s hs => ?_⟩, fun _ _ _ _ _ _ hx => (by cases hx), fun _ _ _ _ hx => (by cases hx), ⟨hN.hg, hN.blk.lt⟩, fun x hx => ⟨(hN.row.lt x hx).1, (hN.row.lt x hx).2⟩, fun x hx => ⟨(hN.own.lt x hx).1, (hN.own.lt x hx).2⟩, fun _ _ _ hx => (by cases hx), fun j hj => hj.2⟩
      · rw [landAt_new]
        exact Owns.empty _ _ _ _
      · rw [htl] at hs
        unfold newF
        simp only [List.getD_eq_getElem?_getD, List.getElem?_replicate]
        rw [if_pos hs, if_pos hs]
        rfl
end Go.Proofs.Ytfnimpgphagnfaa
